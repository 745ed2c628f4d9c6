import Derived.Test.YtkkmpchneanogaaGreatDoorX1
import Derived.Laws.Alloc2
import Derived.Laws.Strings
import Derived.RangeFuncBound
import Derived.RecoverIn
import Derived.Test.YtkkmpchneanogaaGreatDoorProg
set_option linter.unusedVariables false
set_option linter.unusedSimpArgs false
set_option linter.unusedSectionVars false
namespace Go.Eng
@[simp]theorem add_zero'(a:Addr):a.add 0=a:=by simp[Addr.add]
@[simp]theorem Nh(a:Addr)(n:Nat):(a.add n).block=a.block:=by unfold Addr.add;split<;>rfl
@[
 simp]theorem add_add(a:Addr)(m n:Nat):(a.add m).add n=a.add (m+n):=by
 unfold Addr.add;by_cases hm:m=0
 ·subst hm;simp
 ·by_cases hn:n=0
  ·subst hn;simp[hm]
  ·simp[hm,hn,Nat.add_assoc]
@[
 simp]theorem jB(b o n:Nat):(⟨b,o,none⟩:Addr).add n=⟨b,o+n,none⟩:=by
 unfold Addr.add;by_cases hn:n=0
 ·subst hn;simp
 ·simp[hn]
section
variable{w:World}
@[simp]theorem z4(a:Addr)(f:Addr->Pr):deref (some a) f w=f a w:=by simp[deref]
@[simp]theorem x9(o:Obj)(f:Nat->Pr):nw o f w=f w.heap.size (w.alloc o):=rfl
@[simp]theorem Gv(b:Bool)(x y:Pr):br b x y w=if b=true then x w else y w:=rfl
@[simp]theorem QS(p:Prop)(f:Pr):aP p f w=(p/\f w):=rfl
@[simp]theorem aR(f:Pr):jE f w=f w.drew:=rfl
@[simp]theorem P2(x y:Pr):both x y w=(x w/\y w):=rfl
@[simp]theorem QT:Wd w=True:=rfl
@[simp]theorem QU:bK w=False:=rfl
theorem dD{s:CS}{a:Addr}{p:dw s}{f:dw s->Pr}(h:w.cell? a=some (bC s p))(hf:f p w):au s a f w:=⟨p,h,hf⟩
theorem nC{l:List CS}{a:Addr}{p:kD l}{f:kD l->Pr}(h:cc w a 0 (j0 l p))(hf:f p w):aQ l a f w:=⟨p,h,hf⟩
theorem Gw{a:Addr}{v u:Value}{f:Pr}(hv:aK v)(h:w.cell? a=some u)(hz:w.frozen? a=false)(hf:f (w.setCell a v)):st a v f w:=⟨hv,by rw[h];rfl,hz,hf⟩
theorem ah{b:Bool}{x y:Pr}(h1:b=true->x w)(h2:b=false->y w):br b x y w:=by
 cases b with
 |true=>simpa using h1 rfl
 |false=>simpa using h2 rfl
theorem oN{b:Bool}{x y:Pr}(hb:b=true)(h:x w):br b x y w:=by rw[Gv,jd hb];exact h
theorem iK{b:Bool}{x y:Pr}(hb:b=false)(h:y w):br b x y w:=by rw[Gv,jc (by simp[hb])];exact h
theorem aL{S:Type}{f:(S->Pr)->Pr}{k:S->Pr}(R:S->Pr)(h:f R w)(hk:∀s w',R s w'->k s w'):jn f k w:=⟨R,h,hk⟩
theorem aB{S:Type}{G:(S->Pr)->S->Pr}{s:S}(I:S->Pr)(μ:S->World->Nat)(h0:I s w)(h:∀s w,I s w->G (λs' w'=>I s' w'/\μ s' w'<μ s w) s w):aM G s w:=⟨I,μ,h0,h⟩
theorem ak{P:Program}{f:FuncId}{args:LV}{aU:List Sh}{k:b9 aU->Pr}{post:b9 aU->Pr}(h:Calls P f args.toArray w (aC aU post))(hk:∀r w',post r w'->k r w'):aH P f args aU k w:=
 h.mono λ_ _ ⟨p,he,hp⟩=>⟨p,he,hk _ _ hp⟩
end
@[simp]theorem P3(k:IntKind)(n:Int):bC (.int k) n=.int k n:=rfl
@[simp]theorem Ni(b:Bool):bC .bool b=.bool b:=rfl
@[simp]theorem P4(p:OA):bC .ptr p=.pointer p:=rfl
@[simp]theorem MQ(s:Sl):bC .slice s=.slice s.a s.len s.cap:=rfl
@[simp]theorem P5(r:Option Nat):bC .map r=.map r:=rfl
@[simp]theorem P6(v:Value):bC .any v=v:=rfl
@[simp]theorem P7(v:ByteArray):bC .str v=.string v:=rfl
@[simp]theorem MR(k:IntKind)(n:Int):aK (.int k n)=True:=rfl
@[simp]theorem KC(b:Bool):aK (.bool b)=True:=rfl
@[simp]theorem MT(p:OA):aK (.pointer p)=True:=rfl
@[simp]theorem JE(a:OA)(l c:Nat):aK (.slice a l c)=True:=rfl
@[simp]theorem MU(r:Option Nat):aK (.map r)=True:=rfl
@[simp]theorem KD(f:Fn)(x y:Array Value):aK (.func f x y)=True:=rfl
structure Mod(S:Nat->Prop)(w w':World):Prop where
 size:w.heap.size<=w'.heap.size
 same:∀b,b<w.heap.size->¬S b->w'.heap[b]? =w.heap[b]?
 rest:w'.os=w.os/\w'.tape=w.tape/\w'.output=w.output
abbrev Grow:World->World->Prop:=Mod λ_=>False
section
variable{S T:Nat->Prop}{w w1 w2:World}
theorem Mod.refl(S:Nat->Prop)(w:World):Mod S w w:=⟨Nat.le_refl _,λ_ _ _=>rfl,rfl,rfl,rfl⟩
theorem Mod.trans(h:Mod S w w1)(h':Mod T w1 w2)(hT:∀b,b<w.heap.size->T b->S b):Mod S w w2:=
 ⟨Nat.le_trans h.size h'.size,λb hb hs=>(h'.same b (Nat.lt_of_lt_of_le hb h.size) λht=>hs (hT b hb ht)).trans (h.same b hb hs),h'.rest.1.trans h.rest.1,h'.rest.2.1.trans h.rest.2.1,h'.rest.2.2.trans h.rest.2.2⟩
theorem Mod.mono(h:Mod S w w1)(hT:∀b,b<w.heap.size->S b->T b):Mod T w w1:=⟨h.size,λb hb hs=>h.same b hb λht=>hs (hT b hb ht),h.rest⟩
theorem Grow.trans(h:Grow w w1)(h':Grow w1 w2):Grow w w2:=Mod.trans h h' λ_ _ h=>h
theorem Grow.mod(h:Grow w w1):Mod S w w1:=h.mono λ_ _ h=>h.elim
theorem Mod.alloc(h:Mod S w w1)(o:Obj):Mod S w (w1.alloc o):=
 ⟨by have:=h.size;simp;omega,λb hb hs=>by
   rw[<-h.same b hb hs];have:b<w1.heap.size:=Nat.lt_of_lt_of_le hb h.size;show(w1.heap.push o)[b]? =w1.heap[b]?;rw[Array.getElem?_push,jc (Nat.ne_of_lt this)],h.rest⟩
theorem Mod.drew(h:Mod S w w1):Mod S w w1.drew:=⟨h.size,h.same,h.rest⟩
theorem oU(w:World){a:Addr}{v:Value}{b:Nat}(hb:a.block≠b):(w.setCell a v).heap[b]? =w.heap[b]? :=by
 simp[World.setCell,Array.getElem?_modify,hb]
theorem Mod.setCell(h:Mod S w w1){a:Addr}{v:Value}(ha:S a.block\/w.heap.size<=a.block):Mod S w (w1.setCell a v):=
 ⟨by have:=h.size;simpa using this,λb hb hs=>by
   rw[<-h.same b hb hs];refine oU w1 ?_;rintro rfl;rcases ha with ha|ha
   ·exact hs ha
   ·omega,h.rest⟩
theorem Mod.putObj(h:Mod S w w1){b:Nat}{o:Obj}(ha:S b\/w.heap.size<=b):Mod S w {w1 with heap:=w1.heap.setIfInBounds b o}:=
 ⟨by have:=h.size;simpa using this,λc hc hs=>by
   rw[<-h.same c hc hs];have hne:b≠c:=by
    rintro rfl;rcases ha with ha|ha
    ·exact hs ha
    ·omega
   simp[Array.getElem?_setIfInBounds_ne hne],h.rest⟩
theorem mG{w w':World}{a:Addr}(h:w'.heap[a.block]? =w.heap[a.block]?):w'.cell? a=w.cell? a:=by
 simp only[World.cell?,h]
theorem qU{w w':World}{a:Addr}(h:w'.heap[a.block]? =w.heap[a.block]?):w'.frozen? a=w.frozen? a:=by
 simp only[World.frozen?,h]
end
theorem oL{w:World}{a:Addr}:∀{vs:LV} {i:Nat},cc w a i vs↔∀j v,vs[j]? =some v->w.cell? (a.add (i+j))=some v
 |[],i=>by simp[cc]
 |
  x::vs,i=>by
  simp only[cc,oL (vs:=vs)];constructor
  ·rintro⟨h1,h2⟩ j v hj
   cases j with
   |zero=>simp only[List.getElem?_cons_zero,jg]at hj;subst hj;exact h1
   |succ j=>have:=h2 j v (by simpa using hj);rwa[show i+1+j=i+(j+1) by omega]at this
  ·intro h
   refine⟨by simpa using h 0 x rfl,λj v hj=>?_⟩;have:=h (j+1) v (by simpa using hj);rwa[show i+(j+1)=i+1+j by omega]at this
def Row(w:World)(a:Addr)(vs:LV):Prop:=∀j v,vs[j]? =some v->w.cell? (a.add j)=some v
theorem aF{w:World}{a:Addr}{vs:LV}:cc w a 0 vs↔Row w a vs:=by
 rw[oL];simp[Row]
theorem Row.get{w:World}{a:Addr}{vs:LV}(h:Row w a vs){j:Nat}{v:Value}(hj:vs[j]? =some v):w.cell? (a.add j)=some v:=h j v hj
theorem Row.nil(w:World)(a:Addr):Row w a []:=λj v h=>by simp at h
theorem Row.append{w:World}{a:Addr}{vs us:LV}:Row w a (vs++us)↔Row w a vs/\Row w (a.add vs.length) us:=by
 constructor
 ·intro h
  refine⟨λj v hj=>h j v ?_,λj v hj=>?_⟩
  ·have hlt:j<vs.length:=by
    rcases Nat.lt_or_ge j vs.length with h'|h'
    ·exact h'
    ·rw[List.getElem?_eq_none h']at hj;cases hj
   rw[List.getElem?_append_left hlt];exact hj
  ·rw[add_add]
   refine h _ v ?_;rw[List.getElem?_append_right (by omega)];simpa using hj
 ·rintro⟨h1,h2⟩ j v hj
  rcases Nat.lt_or_ge j vs.length with h'|h'
  ·exact h1 j v (by rwa[List.getElem?_append_left h']at hj)
  ·rw[List.getElem?_append_right h']at hj
   have:=h2 _ v hj;rwa[add_add,show vs.length+(j-vs.length)=j by omega]at this
theorem Row.take{w:World}{a:Addr}{vs:LV}(h:Row w a vs)(n:Nat):Row w a (vs.take n):=λj v hj=>by
 rw[List.getElem?_take]at hj;split at hj
 ·exact h j v hj
 ·cases hj
theorem Row.drop{w:World}{a:Addr}{vs:LV}(h:Row w a vs)(n:Nat):Row w (a.add n) (vs.drop n):=λj v hj=>by
 rw[add_add];exact h _ v (by rwa[List.getElem?_drop]at hj)
theorem Row.of_heap{w w':World}{a:Addr}{vs:LV}(h:Row w a vs)(he:w'.heap[a.block]? =w.heap[a.block]?):Row w' a vs:=λj v hj=>by
 rw[mG (w:=w) (by simpa using he)];exact h j v hj
theorem Row.xj{w:World}{a:Addr}{vs:LV}(h:Row w a vs)(hne:vs≠[]):a.block<w.heap.size:=by
 cases vs with
 |nil=>exact absurd rfl hne
 |cons v vs=>have:=World.block_lt_of_cell? w _ (h 0 v rfl);simpa using this
theorem Row.mod{S:Nat->Prop}{w w':World}{a:Addr}{vs:LV}(h:Row w a vs)(hm:Mod S w w')(hs:¬S a.block):Row w' a vs:=by
 by_cases hv:vs=[]
 ·subst hv;exact Row.nil _ _
 ·exact h.of_heap (hm.same _ (h.xj hv) hs)
theorem YX.some{w:World}{a:Addr}{vs:LV}:bn w (some a) vs↔Row w a vs:=aF
@[simp]theorem Sl.eta(s:Sl):(⟨s.a,s.len,s.cap⟩:Sl)=s:=rfl
@[
 simp]theorem KE(w:World)(c:Array Value)(t:TypeId)(i:Nat)(v:Value):(w.alloc (.cells c t)).setCell ⟨w.heap.size,i,none⟩ v=w.alloc (.cells (c.setIfInBounds i v) t):=
 World.setCell_alloc_new (w:=w) c t i v
@[
 simp]theorem heap_alloc_new(w:World)(o:Obj):(w.alloc o).heap[w.heap.size]? =some o:=by
 show(w.heap.push o)[w.heap.size]? =some o;simp
@[simp]theorem heap_drew(w:World):w.drew.heap=w.heap:=rfl
theorem wrap_i64{n:Int}(h: -9223372036854775808<=n/\n<=9223372036854775807):IntKind.wrap .i64 n=n:=by
 simp only[IntKind.wrap,IntKind.signed,IntKind.bits];simp;omega
def ub(b:UInt8):Value:=.int .u8 (b.toNat:Int)
structure BS(w:World)(s:Sl)(l:LB):Prop where
 len:s.len=l.length
 row:bn w s.a (l.map ub)
section
variable{w w' w1:World}{s x:Sl}{l:LB}
theorem bn.row{ad:Addr}{vs:LV}(h:bn w (some ad) vs):Row w ad vs:=aF.1 h
theorem bn.mod{S:Nat->Prop}{a:OA}{vs:LV}(h:bn w a vs)(hm:Mod S w w')(hs:∀ad,a=some ad->vs≠[]->¬S ad.block):bn w' a vs:=by
 cases a with
 |none=>exact h
 |
  some ad=>
  by_cases hv:vs=[]
  ·subst hv;exact aF.2 (Row.nil _ _)
  ·exact aF.2 ((aF.1 h).mod hm (hs ad rfl hv))
theorem bn.grow{a:OA}{vs:LV}(h:bn w a vs)(hm:Grow w w'):bn w' a vs:=h.mod hm λ_ _ _ h=>h
theorem bn.lt{ad:Addr}{vs:LV}(h:bn w (some ad) vs)(hv:vs≠[]):ad.block<w.heap.size:=(aF.1 h).xj hv
theorem BS.grow(h:BS w s l)(hm:Grow w w'):BS w' s l:=⟨h.len,h.row.grow hm⟩
theorem BS.mod{S:Nat->Prop}(h:BS w s l)(hm:Mod S w w')(hs:∀ad,s.a=some ad->l≠[]->¬S ad.block):BS w' s l:=
 ⟨h.len,h.row.mod hm λad ha hv=>hs ad ha (by simpa using hv)⟩
theorem BS.nil(w:World)(c:Nat):BS w ⟨none,0,c⟩ []:=⟨rfl,rfl⟩
theorem BS.get(h:BS w s l){j:Nat}{b:UInt8}(hj:l[j]? =some b):∃ad,s.a=some ad/\w.cell? (ad.add j)=some (ub b):=by
 obtain⟨h1,h2⟩:=h;cases ha:s.a with
 |
  none=>
  rw[ha]at h2;have:l.map ub=[]:=h2;simp at this;subst this;simp at hj
 |
  some ad=>
  rw[ha]at h2;exact⟨ad,rfl,(aF.1 h2).get (by simp[hj])⟩
def A2(w:World)(b:Nat):Prop:=∀o v,w.cell? ⟨b,o,none⟩=some v->w.frozen? ⟨b,o,none⟩=false
theorem rG{w:World}{a c:Addr}{v u:Value}(h:(w.setCell c v).cell? a=some u):∃u',w.cell? a=some u':=by
 by_cases hac:c=a
 ·subst hac
  cases hc:w.cell? c with
  |some u'=>exact⟨u',rfl⟩
  |
   none=>
   exfalso;simp only[World.cell?,World.setCell,Array.getElem?_modify]at h hc;cases hb:w.heap[c.block]?with
   |none=>simp[hb]at h
   |
    some o=>
    cases o<;>simp[hb]at h hc;rename_i cs el fz;obtain⟨b,o,sp⟩:=c;cases sp<;>simp_all[Array.getElem?_setIfInBounds]
 ·rw[World.cell?_setCell_other _ _ _ _ hac]at h
  exact⟨u,h⟩
theorem A2.add{b:Nat}(h:A2 w b){a:Addr}(ha:a.block=b)(hs:a.spot=none){n:Nat}{v:Value}(hv:w.cell? (a.add n)=some v):w.frozen? (a.add n)=false:=by
 obtain⟨b',o,sp⟩:=a;dsimp only at ha hs;subst ha hs;rw[jB]at hv⊢;exact h _ _ hv
theorem A2.setCell{b:Nat}(h:A2 w b){c:Addr}{v:Value}:A2 (w.setCell c v) b:=λo u hu=>by
 obtain⟨u',Nf⟩:=rG hu;rw[World.frozen?_setCell];exact h o u' Nf
theorem JF{a:Addr}(hs:a.spot=none){i j:Nat}(h:a.add i=a.add j):i=j:=by
 obtain⟨b,o,sp⟩:=a;dsimp only at hs;subst hs;rw[jB,jB]at h;simp at h;exact h
theorem Row.set{a:Addr}{vs:LV}(h:Row w a vs)(hs:a.spot=none){i:Nat}{v:Value}:Row (w.setCell (a.add i) v) a (vs.set i v):=λj u hj=>by
 rw[List.getElem?_set]at hj;by_cases hij:i=j
 ·subst hij
  simp only[if_true]at hj;split at hj
  ·rename_i hlt
   simp only[jg]at hj;subst hj;have h0:=h i vs[i] (by simp[hlt]);exact World.cell?_setCell_same _ _ _ h0
  ·cases hj
 ·rw[jc hij]at hj
  rw[World.cell?_setCell_other]
  ·exact h j u hj
  ·exact λhe=>hij (JF hs he)
theorem nI{a:Addr}{m:Nat}{k:Pr}:∀{l:LV} {i:Nat},D1 (a.add m) i l k=D1 a (m+i) l k
 |[],_=>rfl
 |v::l,i=>by simp only[D1,add_add,nI (l:=l),Nat.add_assoc]
theorem yc{a:Addr}{k:Pr}(hs:a.spot=none):∀{new:LV} {i:Nat} {vs:LV} {w:World},Row w a vs->i+new.length<=vs.length->(∀v∈new,aK v)->A2 w a.block->
 (∀w',Row w' a (vs.take i++new++vs.drop (i+new.length))->Mod (·=a.block) w w'->w'.heap.size=w.heap.size->(∀b,A2 w b->A2 w' b)->k w')->D1 a i new k w
 |[],i,vs,w,hr,hl,hn,hu,hk=>hk w (by simpa using hr) (Mod.refl _ _) rfl (λ_ h=>h)
 |
  v::new,i,vs,w,hr,hl,hn,hu,hk=>by
  simp only[List.length_cons]at hl;have hlt:i<vs.length:=by omega
  refine Gw (u:=vs[i]) (hn v (by simp)) (hr i _ (by simp[hlt])) (hu.add rfl hs (hr i vs[i] (by simp[hlt]))) ?_;refine yc hs (vs:=vs.set i v) (hr.set hs) (by simp;omega) (λu hu=>hn u (by simp[hu])) hu.setCell ?_;intro w' h1 h2 h3 h4;refine hk w' ?_ (((Mod.refl _ w).setCell (.inl (by simp))).trans h2 λ_ _ h=>h) (by simpa using h3) (λb hb=>h4 b hb.setCell);have e1:(vs.set i v).take (i+1)=vs.take i++[v]:=by
   rw[List.take_add_one];simp[List.take_set_of_le,hlt]
  have e2:(vs.set i v).drop (i+1+new.length)=vs.drop (i+(new.length+1)):=by
   rw[List.drop_set_of_lt (by omega)]
   congr 1;omega
  rw[e1,e2]at h1;simpa using h1
structure bz(w:World)(n0 n:Nat)(s:Sl)(vs:LV):Prop where
 len:vs.length=s.len*n
 le:s.len<=s.cap
 row:(s.a=none/\s.len=0/\s.cap=0)\/∃b off spare,s.a=some ⟨b,off,none⟩/\n0<=b/\b<w.heap.size/\A2 w b/\Row w ⟨b,off,none⟩ (vs++spare)/\(vs++spare).length=s.cap*n
theorem bz.nil(w:World)(n0 n:Nat):bz w n0 n ⟨none,0,0⟩ []:=⟨by simp,by simp,.inl ⟨rfl,rfl,rfl⟩⟩
theorem bz.reads{n0 n:Nat}{vs:LV}(h:bz w n0 n s vs):bn w s.a vs:=by
 rcases h.row with⟨h1,h2,h3⟩|⟨b,off,spare,h1,_,_,_,h2,_⟩
 ·rw[h1]
  have:=h.len;rw[h2]at this;simp at this;exact this
 ·rw[h1];exact aF.2 (Row.append.1 h2).1
theorem A2.of_heap{b:Nat}(h:A2 w b)(he:w'.heap[b]? =w.heap[b]?):A2 w' b:=λo v hv=>by
 rw[qU (w:=w) he];refine h o v ?_;have:(⟨b,o,none⟩:Addr).block=b:=rfl;simp only[World.cell?,this,he]at hv⊢;exact hv
theorem bz.mod{S:Nat->Prop}{n0 n:Nat}{vs:LV}(h:bz w n0 n s vs)(hm:Mod S w w')(hs:∀ad,s.a=some ad->¬S ad.block):bz w' n0 n s vs:=by
 refine⟨h.len,h.le,?_⟩;rcases h.row with h1|⟨b,off,spare,h1,h2,h3,h4,h5,h6⟩
 ·exact .inl h1
 ·have Ww:¬S b:=hs _ h1
  exact .inr ⟨b,off,spare,h1,h2,Nat.lt_of_lt_of_le h3 hm.size,h4.of_heap (hm.same b h3 Ww),h5.of_heap (hm.same b h3 Ww),h6⟩
theorem bz.xk{n0 n:Nat}{vs:LV}(h:bz w n0 n s vs){ad:Addr}(ha:s.a=some ad):n0<=ad.block/\ad.block<w.heap.size/\ad.spot=none/\A2 w ad.block:=by
 rcases h.row with⟨h1,_⟩|⟨b,off,spare,h1,h2,h3,h4,_⟩
 ·rw[h1]at ha;cases ha
 ·rw[h1]at ha;simp only[jg]at ha;subst ha;exact⟨h2,h3,rfl,h4⟩
theorem bz.weaken{n0 n1 n:Nat}{vs:LV}(h:bz w n0 n s vs)(hn:n1<=n0):bz w n1 n s vs:=by
 refine⟨h.len,h.le,?_⟩;rcases h.row with h1|⟨b,off,spare,h1,h2,rest⟩
 ·exact .inl h1
 ·exact .inr ⟨b,off,spare,h1,Nat.le_trans hn h2,rest⟩
def Sl.lq(s:Sl)(b:Nat):Prop:=∃ad,s.a=some ad/\ad.block=b
theorem sP(n:Nat):∀(r c m:Nat),c<=m->n<=m->Builtin.growBy n r c<=m+(m+768)/4
 |0,c,m,hc,_=>by simp only[Builtin.growBy];omega
 |
  r+1,c,m,hc,hn=>by
  simp only[Builtin.growBy];split
  ·omega
  ·rename_i hlt
   by_cases h2:c+(c+768)/4<=m
   ·exact sP n r _ m h2 hn
   ·
    cases r with
    |zero=>simp only[Builtin.growBy];omega
    |
     succ r=>
     simp only[Builtin.growBy];rw[jd (by omega)];omega
theorem nextslicecap_le{n c:Nat}(h:c<n):Builtin.nextslicecap n c<=2*n+192:=by
 unfold Builtin.nextslicecap;split
 ·omega
 ·split
  ·omega
  ·have:=sP n 4 c n (by omega) (Nat.le_refl _)
   omega
theorem gA(z:LV)(n:Nat):(zc z n).length=n*z.length:=by simp[zc]
theorem qV{E n b n0 m:Nat}{z:LV}{vs new:LV}{k:Sl->Pr}(h:bz w n0 n s vs)(hn0:n0<=w.heap.size)(gy:new.length=m*n)
 (hna:∀v∈new,aK v)(hz:z.length=n)(hb:b≠0)(hbd:(2*(s.len+m)+192)*b<=2^48)
 (hk:∀r w',bz w' n0 n r (vs++new)->r.len=s.len+m->(s.a.isSome=true\/0<m->r.a.isSome=true)->(s.a=none->m=0->r.a=none)->Mod s.lq w w'->(∀b,r.lq b->s.lq b\/w.heap.size<=b)->k r w'):(s.len+m<=s.cap->HI s.a (s.len*n) new (k ⟨s.a,s.len+m,s.cap⟩) w)/\
 (s.cap<s.len+m->∃old:LV,(s.a.isSome=true->old.length=s.len*n)/\bn w s.a old/\(b≠0)/\
   (Builtin.nextslicecap (s.len+m) s.cap*b<=2^48)/\(s.len+m<2^63)/\
   ∀
    cap,s.len+m<=cap->cap<2^63->
    k ⟨some ⟨w.heap.size,0,none⟩,s.len+m,cap⟩ (w.drew.alloc (.cells (old++new++zc z (cap-(s.len+m))).toArray E))):=by
 refine⟨?_,?_⟩
 ·intro hroom
  rcases h.row with⟨h1,h2,h3⟩|⟨bb,off,spare,h1,h2,h3,h4,h5,h6⟩
  ·rw[h1]
   have D0:m=0:=by omega
   have hnew:new=[]:=by
    apply jx;rw[gy,D0];simp
   refine hk _ _ ?_ rfl ?_ ?_ (Mod.refl _ _) ?_
   ·rw[hnew,List.append_nil]
    exact⟨by simp[h.len,D0],by simp;omega,.inl ⟨by simp,by simp;omega,h3⟩⟩
   ·rintro(h|h)
    ·simp[h1]at h
    ·omega
   ·intro _ _;rfl
   ·rintro b ⟨ad,hh,_⟩;cases hh
  ·rw[h1]
   have hlen:=h.len;have Rw:(vs++spare).length=vs.length+spare.length:=jh;have hle:s.len*n+new.length<=(vs++spare).length:=by
    rw[gy,h6,<-Nat.add_mul];exact Nat.mul_le_mul_right n hroom
   show D1 _ 0 new _ w;rw[nI,Nat.add_zero,<-hlen];refine yc rfl h5 (by rw[hlen];exact hle) hna h4 ?_;intro w' g1 g2 g3 g4;have e1:(vs++spare).take vs.length=vs:=by simp
   have e2:(vs++spare).drop (vs.length+new.length)=spare.drop new.length:=by
    rw[List.drop_append,List.drop_eq_nil_of_le (by omega),List.nil_append]
    congr 1;omega
   rw[e1,e2]at g1;refine hk _ _ ⟨?_,hroom,.inr ⟨bb,off,spare.drop new.length,rfl,h2,by rw[g3];exact h3,g4 _ h4,g1,?_⟩⟩ rfl ?_ ?_ ?_ ?_
   ·rw[jh,hlen,gy,Nat.add_mul]
   ·simp only[jh,kf]at *
    omega
   ·intro _;rfl
   ·intro h;rw[h1]at h;cases h
   ·exact g2.mono λc _ hc=>⟨_,h1,hc.symm⟩
   ·rintro c ⟨ad,hh,hc⟩
    simp only[jg]at hh;exact .inl ⟨_,h1,by rw[<-hc,<-hh]⟩
 ·intro hgrow
  have hold:=h.reads;refine⟨vs,λ_=>h.len,hold,hb,?_,?_,?_⟩
  ·exact Nat.le_trans (Nat.mul_le_mul_right b (nextslicecap_le hgrow)) hbd
  ·have:(2*(s.len+m)+192)*1<=(2*(s.len+m)+192)*b:=Nat.mul_le_mul_left _ (by omega)
   omega
  ·intro cap Di rL
   have hl:(vs++new++zc z (cap-(s.len+m))).length=cap*n:=by
    simp only[jh,gA,h.len,gy,hz];rw[<-Nat.add_mul,<-Nat.add_mul]
    congr 1;omega
   refine hk _ _ ⟨?_,Di,.inr ⟨w.heap.size,0,zc z (cap-(s.len+m)),rfl,hn0,?_,?_,?_,hl⟩⟩ rfl (λ_=>rfl) ?_ ((Mod.refl _ w).drew.alloc _) ?_
   ·simp only[jh,h.len,gy,Nat.add_mul]
   ·simp
   ·intro o _ _
    exact World.frozen?_alloc_new w.drew _ E o
   ·intro j v hj
    rw[jB,Nat.zero_add];have:=World.cell?_alloc_new w.drew (vs++new++zc z (cap-(s.len+m))).toArray E j;rw[World.size_drew]at this;rw[this];simpa using hj
   ·intro Wx YY
    exfalso;rcases h.row with⟨_,g2,g3⟩|⟨bb,_,_,g1,_⟩
    ·omega
    ·rw[g1]at Wx;cases Wx
   ·rintro c ⟨ad,hh,hc⟩
    simp only[jg]at hh;refine .inr ?_;rw[<-hc,<-hh];exact Nat.le_refl _
theorem Gx{E n b n0:Nat}{z:LV}{vs new:LV}{k:Sl->Pr}(h:bz w n0 n s vs)(hn0:n0<=w.heap.size)(ko:x.a.isSome=true->new.length=x.len*n)(JM:x.a=none->x.len=0)(hx:bn w x.a new)
 (hna:∀v∈new,aK v)(hz:z.length=n)(hb:b≠0)(hbd:(2*(s.len+x.len)+192)*b<=2^48)
 (hk:∀r w',bz w' n0 n r (vs++new)->r.len=s.len+x.len->(s.a.isSome=true\/0<x.len->r.a.isSome=true)->(s.a=none->x.len=0->r.a=none)->Mod s.lq w w'->(∀b,r.lq b->s.lq b\/w.heap.size<=b)->k r w'):app E n b z s x k w:=by
 have gy:new.length=x.len*n:=by
  cases KY:x.a with
  |some _=>exact ko (by simp[KY])
  |
   none=>
   rw[KY]at hx;have:new=[]:=hx;rw[this,JM KY];simp
 exact⟨new,λ_=>gy,hx,qV h hn0 gy hna hz hb hbd hk⟩
end
theorem oM{α:Type}{f:α->LV}{n:Nat}(hf:∀r,(f r).length=n):∀{rs:List α} {w:World} {a:Addr},Row w a (rs.flatMap f)↔∀i r,rs[i]? =some r->Row w (a.add (i*n)) (f r)
 |[],w,a=>by simp[Row.nil]
 |
  x::rs,w,a=>by
  rw[List.flatMap_cons,Row.append,oM hf (rs:=rs),hf];constructor
  ·rintro⟨h1,h2⟩ i r hi
   cases i with
   |zero=>simp only[List.getElem?_cons_zero,jg]at hi;subst hi;simpa using h1
   |
    succ i=>
    have:=h2 i r (by simpa using hi);rwa[add_add,show n+i*n=(i+1)*n by rw[Nat.add_mul];omega]at this
  ·intro h
   refine⟨by simpa using h 0 x rfl,λi r hi=>?_⟩;have:=h (i+1) r (by simpa using hi);rwa[show(i+1)*n=n+i*n by rw[Nat.add_mul];omega,<-add_add]at this
theorem c9{α:Type}{f:α->LV}{n:Nat}(hf:∀r,(f r).length=n)(rs:List α):(rs.flatMap f).length=rs.length*n:=by
 induction rs with
 |nil=>simp
 |cons x rs ih=>rw[List.flatMap_cons,jh,ih,hf,List.length_cons,Nat.add_mul];omega
structure SS{α:Type}(f:α->LV)(w:World)(s:Sl)(rs:List α):Prop where
 len:s.len=rs.length
 row:bn w s.a (rs.flatMap f)
section
variable{α:Type}{f:α->LV}{n:Nat}{w w':World}{s:Sl}{rs:List α}
theorem SS.get(hf:∀r,(f r).length=n)(h:SS f w s rs){i:Nat}{r:α}(hi:rs[i]? =some r)(hn:n≠0):∃ad,s.a=some ad/\Row w (ad.add (i*n)) (f r):=by
 obtain⟨h1,h2⟩:=h;cases ha:s.a with
 |
  none=>
  rw[ha]at h2;have h3:rs.flatMap f=[]:=h2;have h4:=c9 hf rs;rw[h3]at h4;simp only[List.length_nil]at h4;have:rs.length=0:=(Nat.mul_eq_zero.1 h4.symm).resolve_right hn;have:rs=[]:=jx this;subst this;simp at hi
 |
  some ad=>
  rw[ha]at h2;exact⟨ad,rfl,(oM hf).1 (aF.1 h2) i r hi⟩
theorem SS.mod{S:Nat->Prop}(h:SS f w s rs)(hm:Mod S w w')(hs:∀ad,s.a=some ad->¬S ad.block):SS f w' s rs:=⟨h.len,h.row.mod hm λad ha _=>hs ad ha⟩
theorem SS.nil(w:World)(c:Nat):SS f w ⟨none,0,c⟩ []:=⟨rfl,rfl⟩
end
theorem BS.dm{w:World}{s:Sl}{l:LB}(h:BS w s l)(ha:s.a=none):s.len=0:=by
 have h2:=h.row;rw[ha]at h2;have:l.map ub=[]:=h2;simp at this;rw[h.len,this];rfl
def bytesOf(l:LB):ByteArray:=⟨l.toArray⟩
@[
 simp]theorem aS(l:LB):(bytesOf l).toList=l:=by
 rw[ByteArray.toList_eq];rfl
theorem ic{w:World}{s:Sl}{l:LB}{k:ByteArray->Pr}(h:BS w s l)(hk:k (bytesOf l) w):yS s k w:=by
 refine⟨l.map λb=>(b.toNat:Int),λ_=>by simp[h.len],?_,?_⟩
 ·rw[List.map_map]
  exact h.row
 ·have:(l.map λb=>(b.toNat:Int)).map (λn=>UInt8.ofNat n.toNat)=l:=by
   rw[List.map_map]
   conv=>rhs;rw[<-List.map_id l]
   apply List.map_congr_left;intro b _;simp
  rw[this];exact hk
theorem bz.bs{w:World}{n0:Nat}{s:Sl}{l:LB}(h:bz w n0 1 s (l.map ub)):BS w s l:=
 ⟨by have:=h.len;simp at this;exact this.symm,h.reads⟩
theorem bz.ss{α:Type}{f:α->LV}{n:Nat}(hf:∀r,(f r).length=n)(hn:n≠0){w:World}{n0:Nat}{s:Sl}{rs:List α}(h:bz w n0 n s (rs.flatMap f)):SS f w s rs:=
 ⟨by have:=h.len;rw[c9 hf]at this;exact(Nat.eq_of_mul_eq_mul_right (Nat.pos_of_ne_zero hn) this).symm,h.reads⟩
theorem gx{l:LB}:∀v∈l.map ub,aK v:=by
 intro v hv;obtain⟨b,_,rfl⟩:=kg.1 hv;trivial
theorem bz.put{w:World}{n0 n:Nat}{s:Sl}{vs:LV}(h:bz w n0 n s vs){i:Nat}{v:Value}{k:Pr}(hi:i<vs.length)(hv:aK v)
 (hk:∀w',bz w' n0 n s (vs.set i v)->Mod s.lq w w'->w'.heap.size=w.heap.size->k w'):∃ad,s.a=some ad/\st (ad.add i) v k w:=by
 rcases h.row with⟨_,h2,_⟩|⟨b,off,spare,h1,h2,h3,h4,h5,h6⟩
 ·have:=h.len;rw[h2]at this;simp at this;subst this;simp at hi
 ·refine⟨_,h1,Gw (u:=vs[i]) hv ?_ (h4.add rfl rfl (h5 i vs[i] (by rw[List.getElem?_append_left hi];simp[hi]))) ?_⟩
  ·exact h5 i _ (by rw[List.getElem?_append_left hi];simp[hi])
  ·refine hk _ ⟨by simpa using h.len,h.le,.inr ⟨b,off,spare,h1,h2,by simpa using h3,h4.setCell,?_,by simpa using h6⟩⟩ ?_ (by simp)
   ·have:=h5.set rfl (i:=i) (v:=v)
    rwa[List.set_append_left _ _ hi]at this
   ·exact(Mod.refl _ w).setCell (.inl ⟨_,h1,by simp⟩)
theorem D4{w:World}{n:Nat}{s:Sl}{o:Int}{k:Sl->Pr}(h0:0<=o)(h1:o<=(s.len:Int))
 (hk:k ⟨if s.cap=o.toNat then s.a else s.a.map (·.add (o.toNat*n)),s.len-o.toNat,s.cap-o.toNat⟩ w):slc n s (some o) none none k w:=by
 refine⟨by simp,by simp,by simp,λl hl=>?_,by simpa using hk⟩;simp only[jg]at hl;subst hl;simpa using⟨h0,h1⟩
theorem lC{w:World}{n:Nat}{s:Sl}{o:Int}{k:Sl->Pr}(h0:0<=o)(h1:o<=(s.cap:Int))
 (hk:k ⟨if s.cap=0 then s.a else s.a.map (·.add 0),o.toNat,s.cap⟩ w):slc n s none (some o) none k w:=by
 refine⟨by simp,by simp,λl hl=>?_,by simp,by simpa using hk⟩;simp only[jg]at hl;subst hl;simpa using⟨h0,h1⟩
theorem dU(a:OA):a.map (·.add 0)=a:=by cases a<;>simp
section
variable{w w':World}{s:Sl}{l:LB}
theorem D5{i e:Int}{k:Sl->Pr}(h:BS w s l)(hle:s.len<=s.cap)(h0:0<=i)(h1:i<=e)(h2:e<=(s.len:Int))(hk:∀r,BS w r ((l.take e.toNat).drop i.toNat)->r.len=e.toNat-i.toNat->k r w):slc 1 s (some i) (some e) none k w:=by
 have hl:=h.len;refine⟨by simp,by simp,λx hx=>?_,λx hx=>?_,?_⟩
 ·simp only[jg]at hx;subst hx;simp;omega
 ·simp only[jg]at hx;subst hx;simp;omega
 ·simp only[Option.map_none,Option.map_some,Option.getD_none,Option.getD_some]
  refine hk _ ⟨?_,?_⟩ rfl
  ·simp;omega
  ·have hrow:=h.row
   have hr:∀ad,s.a=some ad->Row w (ad.add (i.toNat*1)) (((l.take e.toNat).drop i.toNat).map ub):=by
    intro ad had;rw[had]at hrow;have:=((aF.1 hrow).take e.toNat).drop i.toNat;simpa[List.map_take,List.map_drop]using this
   split
   ·have:(l.take e.toNat).drop i.toNat=[]:=by apply jx;simp;omega
    rw[this];cases s.a with
    |none=>rfl
    |some ad=>exact aF.2 (Row.nil _ _)
   ·cases ha:s.a with
    |
     none=>
     have h0:=h.dm ha;have:(l.take e.toNat).drop i.toNat=[]:=by apply jx;simp;omega
     rw[this];rfl
    |some ad=>exact aF.2 (hr ad ha)
end
structure bY(w:World)(b:Nat)(vs:LV):Prop where
 lt:b<w.heap.size
 N3:A2 w b
 row:Row w ⟨b,0,none⟩ vs
section
variable{w w':World}{b:Nat}{vs:LV}
theorem bY.mod{S:Nat->Prop}(h:bY w b vs)(hm:Mod S w w')(hs:¬S b):bY w' b vs:=
 ⟨Nat.lt_of_lt_of_le h.lt hm.size,h.N3.of_heap (hm.same b h.lt hs),h.row.mod hm hs⟩
theorem bY.grow(h:bY w b vs)(hm:Grow w w'):bY w' b vs:=h.mod hm λh=>h
theorem P8{cs:Array Value}{T:TypeId}{f:Nat->Pr}(h:∀b w2,Grow w w2->b=w.heap.size->w2.heap.size=w.heap.size+1->bY w2 b cs.toList->f b w2):nw (.cells cs T) f w:=by
 rw[x9];refine h _ _ ((Mod.refl _ w).alloc _) rfl (by simp) ⟨by simp,λo _ _=>World.frozen?_alloc_new _ _ _ _,λj v hj=>?_⟩;rw[jB,Nat.zero_add,World.cell?_alloc_new];simpa using hj
theorem bY.ld(h:bY w b vs){s:CS}{p:dw s}{k:dw s->Pr}{i:Nat}(hi:vs[i]? =some (bC s p))(hk:k p w):au s (Addr.add ⟨b,0,none⟩ i) k w:=dD (h.row.get hi) hk
theorem bY.aQ{l:List CS}{p:kD l}{k:kD l->Pr}(h:bY w b (j0 l p))(hk:k p w):aQ l ⟨b,0,none⟩ k w:=nC (aF.2 h.row) hk
theorem bY.st(h:bY w b vs){i:Nat}{v:Value}{k:Pr}(hi:i<vs.length)(hv:aK v)(hk:∀w',bY w' b (vs.set i v)->Mod (·=b) w w'->w'.heap.size=w.heap.size->k w'):st (Addr.add ⟨b,0,none⟩ i) v k w:=by
 refine Gw (u:=vs[i]) hv (h.row.get (by simp[hi])) (h.N3.add (v:=vs[i]) rfl rfl (h.row.get (by simp[hi]))) ?_;refine hk _ ⟨by simpa using h.lt,h.N3.setCell,h.row.set rfl⟩ ((Mod.refl _ w).setCell (.inl (by simp))) (by simp)
end
theorem ag(a:Addr)(f:Addr->Pr):deref (some a) f=f a:=by funext w;exact z4 a f
theorem qf{P:Program}{v:Value}{args:LV}{aU:List Sh}{k k':b9 aU->Pr}{w:World}(h:∀p w',k p w'->k' p w')(hh:cE P v args aU k w):cE P v args aU k' w:=by
 rcases hh with⟨f,first,caps,h1,h2,h3⟩|⟨l,caps,h1,h2⟩
 ·exact .inl ⟨f,first,caps,h1,h2,h3.mono λe w' ⟨p,he,hp⟩=>⟨p,he,h p w' hp⟩⟩
 ·exact .inr ⟨l,caps,h1,h2.mono λe w' ⟨p,he,hp⟩=>⟨p,he,h p w' hp⟩⟩
structure HA where
 is:World->(Nat->Prop)->Prop
 lt:∀{w:World} {F:Nat->Prop} {b:Nat},is w F->F b->b<w.heap.size
 mod:∀{w w':World} {F S:Nat->Prop},is w F->Mod S w w'->(∀b,F b->¬S b)->is w' F
def Has:List HA->World->(Nat->Prop)->Prop
 |[],_,F=>∀b,¬F b
 |A::l,w,F=>∃G H,A.is w G/\Has l w H/\(∀b,G b->¬H b)/\∀b,F b↔G b\/H b
theorem Gy{F G:Nat->Prop}(h:∀b,F b↔G b):F=G:=funext λb=>propext (h b)
theorem Has.lt:∀{l:List HA} {w:World} {F:Nat->Prop} {b:Nat},Has l w F->F b->b<w.heap.size
 |[],_,_,b,h,hb=>(h b hb).elim
 |A::l,_,_,b,⟨G,H,h1,h2,_,h4⟩,hb=>((h4 b).1 hb).elim (λh=>A.lt h1 h) λh=>Has.lt h2 h
theorem Has.mod:∀{l:List HA} {w w':World} {F S:Nat->Prop},Has l w F->Mod S w w'->(∀b,F b->¬S b)->Has l w' F
 |[],_,_,_,_,h,_,_=>h
 |
  A::l,_,_,_,_,⟨G,H,h1,h2,h3,h4⟩,hm,hs=>
  ⟨G,H,A.mod h1 hm λb hb=>hs b ((h4 b).2 (.inl hb)),Has.mod h2 hm λb hb=>hs b ((h4 b).2 (.inr hb)),h3,h4⟩
theorem Has.append:∀{l m:List HA} {w:World} {F:Nat->Prop},Has (l++m) w F↔∃G H,Has l w G/\Has m w H/\(∀b,G b->¬H b)/\∀b,F b↔G b\/H b
 |
  [],m,w,F=>by
  constructor
  ·intro h
   exact⟨λ_=>False,F,λ_ h=>h,h,λ_ h=>h.elim,λb=>by simp⟩
  ·rintro⟨G,H,h1,h2,_,h4⟩
   have:F=H:=Gy λb=>by rw[h4 b];exact⟨λh=>h.elim (λh=>(h1 b h).elim) id,.inr⟩
   rw[this];exact h2
 |
  A::l,m,w,F=>by
  constructor
  ·rintro⟨G,H,h1,h2,h3,h4⟩
   obtain⟨G',H',h5,h6,h7,h8⟩:=Has.append.1 h2;refine⟨λb=>G b\/G' b,H',⟨G,G',h1,h5,λb hb hb'=>h3 b hb ((h8 b).2 (.inl hb')),λb=>Iff.rfl⟩,h6,?_,?_⟩
   ·rintro b (hb|hb) hb'
    ·exact h3 b hb ((h8 b).2 (.inr hb'))
    ·exact h7 b hb hb'
   ·intro b
    rw[h4 b,h8 b,or_assoc]
  ·rintro⟨G,H,⟨G1,G2,h1,h2,h3,h4⟩,h5,h6,h7⟩
   refine⟨G1,λb=>G2 b\/H b,h1,Has.append.2 ⟨G2,H,h2,h5,λb hb=>h6 b ((h4 b).2 (.inr hb)),λb=>Iff.rfl⟩,?_,?_⟩
   ·rintro b hb (hb'|hb')
    ·exact h3 b hb hb'
    ·exact h6 b ((h4 b).2 (.inl hb)) hb'
   ·intro b
    rw[h7 b,h4 b,or_assoc]
theorem Has.perm{l m:List HA}(h:l.Perm m):∀{w:World} {F:Nat->Prop},Has l w F->Has m w F:=by
 induction h with
 |nil=>exact λh=>h
 |cons A _ ih=>rintro w F ⟨G,H,h1,h2,h3,h4⟩;exact⟨G,H,h1,ih h2,h3,h4⟩
 |
  swap A B l=>
  rintro w F ⟨G,H,h1,⟨G',H',h5,h6,h7,h8⟩,h3,h4⟩;refine⟨G',λb=>G b\/H' b,h5,⟨G,H',h1,h6,λb hb hb'=>h3 b hb ((h8 b).2 (.inr hb')),λb=>Iff.rfl⟩,?_,?_⟩
  ·rintro b hb (hb'|hb')
   ·exact h3 b hb' ((h8 b).2 (.inl hb))
   ·exact h7 b hb hb'
  ·intro b
   rw[h4 b,h8 b];constructor
   ·rintro(h|h|h)
    ·exact .inr (.inl h)
    ·exact .inl h
    ·exact .inr (.inr h)
   ·rintro(h|h|h)
    ·exact .inr (.inl h)
    ·exact .inl h
    ·exact .inr (.inr h)
 |trans _ _ ih1 ih2=>exact λh=>ih2 (ih1 h)
def af:Nat->List HA->List HA
 |_,[]=>[]
 |0,A::l=>A::l
 |
  n+1,A::l=>
  match af n l with
  |[]=>[A]
  |B::m=>B::A::m
theorem qW:∀(n:Nat) (l:List HA),l.Perm (af n l)
 |0,[]=>.refl _
 |_+1,[]=>.refl _
 |0,A::l=>.refl _
 |
  n+1,A::l=>by
  have h:=qW n l;unfold af;split
  ·rename_i h2
   rw[h2]at h;rw[h.eq_nil]
  ·rename_i B m h2
   rw[h2]at h;exact(h.cons A).trans (.swap B A m)
def St(F0:Nat->Prop)(w0 w:World)(l:List HA):Prop:=Mod F0 w0 w/\∃F,Has l w F/\∀b,F b->F0 b\/w0.heap.size<=b
abbrev aA:Nat->Prop:=λ_=>False
section
variable{F0:Nat->Prop}{w0 w w':World}{l m:List HA}{A B:HA}
theorem St.init{F:Nat->Prop}(h:Has l w F):St F w w l:=⟨Mod.refl _ _,F,h,λ_ h=>.inl h⟩
theorem St.bp(w:World):St aA w w []:=⟨Mod.refl _ _,aA,λ_ h=>h,λ_ h=>h.elim⟩
theorem St.G7(h:St F0 w0 w l):Mod F0 w0 w:=h.1
theorem St.bh(h:St aA w0 w l):Grow w0 w:=h.1
theorem St.perm(h:St F0 w0 w l)(hp:l.Perm m):St F0 w0 w m:=let⟨h1,F,h2,h3⟩:=h;⟨h1,F,h2.perm hp,h3⟩
theorem St.af(n:Nat)(h:St F0 w0 w l):St F0 w0 w (Eng.af n l):=h.perm (qW n l)
theorem St.drop(h:St F0 w0 w (A::l)):St F0 w0 w l:=by
 obtain⟨h1,F,⟨G,H,_,h5,_,h7⟩,h3⟩:=h;exact⟨h1,H,h5,λb hb=>h3 b ((h7 b).2 (.inr hb))⟩
theorem St.z9(h:St F0 w0 w (l++m)):St F0 w0 w m:=by
 obtain⟨h1,F,h2,h3⟩:=h;obtain⟨G,H,_,h5,_,h7⟩:=Has.append.1 h2;exact⟨h1,H,h5,λb hb=>h3 b ((h7 b).2 (.inr hb))⟩
theorem St.jR(h:St F0 w0 w (l++m)):St F0 w0 w l:=by
 obtain⟨h1,F,h2,h3⟩:=h;obtain⟨G,H,h4,_,_,h7⟩:=Has.append.1 h2;exact⟨h1,G,h4,λb hb=>h3 b ((h7 b).2 (.inl hb))⟩
theorem St.call(As:List HA)(h:St F0 w0 w (As++l)):∃F H,Has As w F/\Has l w H/\(∀b,F b->¬H b)/\(∀b,F b->F0 b\/w0.heap.size<=b)/\∀w' l',St F w w' l'->St F0 w0 w' (l'++l):=by
 obtain⟨h1,F,h2,h3⟩:=h;obtain⟨G,H,h4,h5,h6,h7⟩:=Has.append.1 h2;refine⟨G,H,h4,h5,h6,λb hb=>h3 b ((h7 b).2 (.inl hb)),?_⟩;rintro w' l' ⟨k1,F',k2,k3⟩;have hsz:=h1.size;refine⟨h1.trans k1 ?_,λb=>F' b\/H b,Has.append.2 ⟨F',H,k2,h5.mod k1 λb hb hg=>h6 b hg hb,?_,λb=>Iff.rfl⟩,?_⟩
 ·intro b hb hg
  rcases h3 b ((h7 b).2 (.inl hg))with h|h
  ·exact h
  ·omega
 ·intro b hb hb'
  rcases k3 b hb with h|h
  ·exact h6 b h hb'
  ·have:=h5.lt hb';omega
 ·rintro b (hb|hb)
  ·rcases k3 b hb with h|h
   ·exact h3 b ((h7 b).2 (.inl h))
   ·exact .inr (Nat.le_trans hsz h)
  ·exact h3 b ((h7 b).2 (.inr hb))
theorem St.ee(h:St F0 w0 w (A::l)):∃F H,A.is w F/\Has [A] w F/\Has l w H/\(∀b,F b->¬H b)/\(∀b,F b->F0 b\/w0.heap.size<=b)/\∀w' l',St F w w' l'->St F0 w0 w' (l'++l):=by
 obtain⟨F,H,h1,h2,h3,h4,h5⟩:=St.call [A] h;have GW:=h1;obtain⟨G,K,k1,k2,_,k4⟩:=GW;have:F=G:=Gy λb=>by rw[k4 b];exact⟨λh=>h.elim id λh=>(k2 b h).elim,.inl⟩
 subst this;exact⟨F,H,k1,h1,h2,h3,h4,h5⟩
theorem Has.one{F:Nat->Prop}(h:Has [A] w F):A.is w F:=by
 obtain⟨G,K,k1,k2,_,k4⟩:=h;have:F=G:=Gy λb=>by rw[k4 b];exact⟨λh=>h.elim id λh=>(k2 b h).elim,.inl⟩
 subst this;exact k1
theorem Has.P9{F:Nat->Prop}(h:A.is w F):Has [A] w F:=⟨F,aA,h,λ_ h=>h,λ_ _ h=>h,λb=>by simp⟩
theorem St.aZ(h:St F0 w0 w l)(k:St aA w w' m):St F0 w0 w' (m++l):=by
 obtain⟨F,H,h1,h2,h3,h4,h5⟩:=St.call [] (l:=l) h;have:F=aA:=Gy λb=>⟨λhb=>h1 b hb,λh=>h.elim⟩;subst this;exact h5 w' m k
theorem St.grow(h:St F0 w0 w l)(k:Grow w w'):St F0 w0 w' l:=St.aZ (m:=[]) h ⟨k,aA,λ_ h=>h,λ_ h=>h.elim⟩
theorem St.drew(h:St F0 w0 w l):St F0 w0 w.drew l:=h.grow (Mod.refl _ w).drew
theorem St.iM(h:St F0 w0 w (A::l)):∃G H,A.is w G/\Has l w H/\(∀b,G b->¬H b)/\(∀b,G b->F0 b\/w0.heap.size<=b)/\∀w' (B:HA) G',B.is w' G'->Mod G w w'->(∀b,G' b->G b\/w.heap.size<=b)->St F0 w0 w' (B::l):=by
 obtain⟨F,H,h1,_,h2,h3,h4,h5⟩:=St.ee h;exact⟨F,H,h1,h2,h3,h4,λw' B G' k1 k2 k3=>h5 w' [B] ⟨k2,G',Has.P9 k1,k3⟩⟩
theorem St.conv(h:St F0 w0 w (A::l))(hk:∀F,A.is w F->Has m w F):St F0 w0 w (m++l):=by
 obtain⟨F,H,h1,_,h2,h3,h4,h5⟩:=St.ee h;exact h5 w m ⟨Mod.refl _ _,F,hk F h1,λ_ h=>.inl h⟩
theorem St.v9(As:List HA)(h:St F0 w0 w (As++l))(hk:∀F,Has As w F->B.is w F):St F0 w0 w (B::l):=by
 obtain⟨F,H,h1,h2,h3,h4,h5⟩:=St.call As h;exact h5 w [B] ⟨Mod.refl _ _,F,Has.P9 (hk F h1),λ_ h=>.inl h⟩
end
def aa(b:Nat)(vs:LV):HA where
 is w F:=bY w b vs/\∀c,F c↔c=b
 lt:=λh hb=>by rw[(h.2 _).1 hb];exact h.1.lt
 mod:=λh hm hs=>⟨h.1.mod hm (hs _ ((h.2 _).2 rfl)),h.2⟩
def j6(b:Nat)(o:Obj):HA where
 is w F:=w.heap[b]? =some o/\∀c,F c↔c=b
 lt:=λ{w F c} h hb=>by
  rw[(h.2 _).1 hb];rcases Nat.lt_or_ge b w.heap.size with h'|h'
  ·exact h'
  ·have:=h.1;rw[Array.getElem?_eq_none h']at this;cases this
 mod:=λ{w w' F S} h hm hs=>by
  have hlt:b<w.heap.size:=by
   rcases Nat.lt_or_ge b w.heap.size with h'|h'
   ·exact h'
   ·have:=h.1;rw[Array.getElem?_eq_none h']at this;cases this
  exact⟨(hm.same b hlt (hs _ ((h.2 _).2 rfl))).trans h.1,h.2⟩
def aq(n:Nat)(s:Sl)(vs:LV):HA where
 is w F:=bz w 0 n s vs/\∀c,F c↔s.lq c
 lt:=λh hb=>by
  obtain⟨ad,h1,rfl⟩:=(h.2 _).1 hb;exact(h.1.xk h1).2.1
 mod:=λh hm hs=>⟨h.1.mod hm λad ha hS=>hs _ ((h.2 _).2 ⟨ad,ha,rfl⟩) hS,h.2⟩
def G9{ι:Type}(f:ι->List HA):HA where
 is w F:=∃i,Has (f i) w F
 lt:=λ⟨_,h⟩ hb=>h.lt hb
 mod:=λ⟨i,h⟩ hm hs=>⟨i,h.mod hm hs⟩
def aN(xs:List HA):HA where
 is w F:=Has xs w F
 lt:=λh hb=>Has.lt h hb
 mod:=λh hm hs=>Has.mod h hm hs
def pA(p:Prop):HA where
 is _ F:=p/\∀b,¬F b
 lt:=λh hb=>(h.2 _ hb).elim
 mod:=λh _ _=>h
section
variable{F0:Nat->Prop}{w0 w w':World}{l:List HA}
theorem St.ex{ι:Type}{f:ι->List HA}(h:St F0 w0 w (G9 f::l)):∃i,St F0 w0 w (f i++l):=by
 obtain⟨F,H,⟨i,h1⟩,_,h2,h3,h4,h5⟩:=St.ee h;exact⟨i,h5 w (f i) ⟨Mod.refl _ _,F,h1,λ_ h=>.inl h⟩⟩
theorem St.iI{ι:Type}{f:ι->List HA}(i:ι)(h:St F0 w0 w (f i++l)):St F0 w0 w (G9 f::l):=h.v9 (f i) λ_ h=>⟨i,h⟩
theorem St.Bd{xs:List HA}(h:St F0 w0 w (aN xs::l)):St F0 w0 w (xs++l):=h.conv λ_ h=>h
theorem St.eG{xs:List HA}(h:St F0 w0 w (xs++l)):St F0 w0 w (aN xs::l):=h.v9 xs λ_ h=>h
theorem St.p{p:Prop}(h:St F0 w0 w (pA p::l)):p/\St F0 w0 w l:=⟨by obtain⟨F,H,h1,_⟩:=St.ee h;exact h1.1,h.drop⟩
theorem St.Dv{p:Prop}(h:St F0 w0 w l)(hp:p):St F0 w0 w (pA p::l):=St.v9 [] h λ_ h=>⟨hp,h⟩
theorem bt{α:Type}{xs:List α}{i:Nat}{x:α}(h:xs[i]? =some x):xs=xs.take i++x::xs.drop (i+1)/\i<xs.length:=by
 have hi:i<xs.length:=by
  rcases Nat.lt_or_ge i xs.length with h'|h'
  ·exact h'
  ·rw[List.getElem?_eq_none h']at h;cases h
 refine⟨?_,hi⟩;rw[jl hi,jg]at h;rw[<-h,<-List.drop_eq_getElem_cons hi,List.take_append_drop]
theorem St.pick{xs:List HA}{i:Nat}{A:HA}(h:St F0 w0 w (aN xs::l))(hi:xs[i]? =some A):St F0 w0 w (A::aN (xs.eraseIdx i)::l):=by
 have h1:=bt hi;have h2:=h.Bd;have hp:(xs++l).Perm (A::(xs.eraseIdx i++l)):=by
  rw[List.eraseIdx_eq_take_drop_succ]
  conv=>lhs;rw[h1.1]
  simp only[jt,List.cons_append];exact List.perm_middle
 have h3:St F0 w0 w (xs.eraseIdx i++(l++[A])):=by
  rw[<-jt];exact(h2.perm hp).perm (List.perm_append_comm (l₁:=[A]) (l₂:=xs.eraseIdx i++l))
 have h4:=St.eG h3;exact h4.perm (((List.perm_append_comm (l₁:=l) (l₂:=[A])).cons _).trans (.swap _ _ _))
theorem St.Dw{xs:List HA}{i:Nat}{A:HA}(h:St F0 w0 w (A::aN (xs.eraseIdx i)::l))(hi:i<xs.length):St F0 w0 w (aN (xs.set i A)::l):=by
 have h1:=h.perm (.swap _ _ _);have h2:=h1.Bd;refine St.eG (h2.perm ?_);rw[List.eraseIdx_eq_take_drop_succ,List.set_eq_take_append_cons_drop,jd hi];simp only[jt,List.cons_append];refine(List.perm_append_left_iff _).2 ?_;exact List.perm_middle
theorem St.push{xs:List HA}{A:HA}(h:St F0 w0 w (A::aN xs::l)):St F0 w0 w (aN (xs++[A])::l):=by
 have h1:=(h.perm (.swap _ _ _)).Bd;refine St.eG (h1.perm ?_);rw[jt];exact .refl _
theorem St.rJ(h:St F0 w0 w l):St F0 w0 w (aN []::l):=St.eG (xs:=[]) h
theorem St.box{b:Nat}{vs:LV}(h:St F0 w0 w (aa b vs::l)):bY w b vs:=by
 obtain⟨F,H,h1,_⟩:=St.ee h;exact h1.1
theorem St.Qa{b:Nat}{vs:LV}(h:St F0 w0 w l)(hg:Grow w w')(hb:bY w' b vs)(hn:w.heap.size<=b):St F0 w0 w' (aa b vs::l):=
 St.aZ (m:=[aa b vs]) h ⟨hg,(·=b),Has.P9 ⟨hb,λ_=>Iff.rfl⟩,λc hc=>.inr (by rw[hc];exact hn)⟩
theorem St.nw{cs:Array Value}{T:TypeId}{f:Nat->Pr}(h:St F0 w0 w l)(hk:∀b w2,St F0 w0 w2 (aa b cs.toList::l)->Grow w w2->b=w.heap.size->f b w2):nw (.cells cs T) f w:=
 P8 λb w2 g e _ bx=>hk b w2 (h.Qa g bx (by omega)) g e
theorem St.ld{b:Nat}{vs:LV}(h:St F0 w0 w (aa b vs::l)){s:CS}{p:dw s}{k:dw s->Pr}{i:Nat}(hi:vs[i]? =some (bC s p))(hk:k p w):au s (Addr.add ⟨b,0,none⟩ i) k w:=h.box.ld hi hk
theorem St.Ab{b:Nat}{v:Value}{vs:LV}(h:St F0 w0 w (aa b (v::vs)::l)){s:CS}{p:dw s}{k:dw s->Pr}(hi:v=bC s p)(hk:k p w):au s ⟨b,0,none⟩ k w:=by
 have:=h.box.ld (i:=0) (s:=s) (p:=p) (k:=k) (by rw[hi];rfl) hk;rwa[add_zero']at this
theorem St.st{b:Nat}{vs:LV}(h:St F0 w0 w (aa b vs::l)){i:Nat}{v:Value}{k:Pr}(hi:i<vs.length)(hv:aK v)(hk:∀w',St F0 w0 w' (aa b (vs.set i v)::l)->k w'):Eng.st (Addr.add ⟨b,0,none⟩ i) v k w:=by
 obtain⟨G,H,⟨h1,h2⟩,h3,h4,h5,h6⟩:=St.iM h;refine h1.st hi hv λw' k1 k2 k3=>hk w' ?_;refine h6 w' (aa b (vs.set i v)) G ⟨k1,h2⟩ (k2.mono λc _ hc=>(h2 c).2 hc) λ_ h=>.inl h
theorem St.KR{b:Nat}{u:Value}{vs:LV}(h:St F0 w0 w (aa b (u::vs)::l)){v:Value}{k:Pr}(hv:aK v)(hk:∀w',St F0 w0 w' (aa b (v::vs)::l)->k w'):Eng.st ⟨b,0,none⟩ v k w:=by
 have:=h.st (i:=0) (v:=v) (k:=k) (by simp) hv λw' h'=>hk w' h';rwa[add_zero']at this
theorem St.obj{b:Nat}{o:Obj}(h:St F0 w0 w (j6 b o::l)):w.heap[b]? =some o:=by
 obtain⟨F,H,h1,_⟩:=St.ee h;exact h1.1
theorem St.Ex(h:St F0 w0 w l)(o:Obj):St F0 w0 (w.alloc o) (j6 w.heap.size o::l):=
 St.aZ (m:=[j6 w.heap.size o]) h ⟨(Mod.refl _ w).alloc o,(·=w.heap.size),Has.P9 ⟨heap_alloc_new w o,λ_=>Iff.rfl⟩,λc hc=>.inr (by rw[hc];exact Nat.le_refl _)⟩
theorem St.putObj{b:Nat}{o:Obj}(h:St F0 w0 w (j6 b o::l))(o':Obj):St F0 w0 (w.putObj b o') (j6 b o'::l):=by
 obtain⟨G,H,⟨h1,h2⟩,h3,h4,h5,h6⟩:=St.iM h;have hlt:b<w.heap.size:=by
  rcases Nat.lt_or_ge b w.heap.size with h'|h'
  ·exact h'
  ·rw[Array.getElem?_eq_none h']at h1;cases h1
 exact h6 _ (j6 b o') G ⟨World.putObj_heap_same hlt,h2⟩ ((Mod.refl _ w).putObj (.inl ((h2 b).2 rfl))) λ_ h=>.inl h
theorem bz.YZ{n0 n:Nat}{s:Sl}{vs:LV}(h:bz w n0 n s vs):bz w 0 n s vs:=h.weaken (Nat.zero_le _)
theorem St.sl{n:Nat}{s:Sl}{vs:LV}(h:St F0 w0 w (aq n s vs::l)):bz w 0 n s vs:=by
 obtain⟨F,H,h1,_⟩:=St.ee h;exact h1.1
theorem St.HG{n:Nat}{s:Sl}{vs:LV}(h:St F0 w0 w l)(hg:Grow w w')(ho:bz w' w.heap.size n s vs):St F0 w0 w' (aq n s vs::l):=
 St.aZ (m:=[aq n s vs]) h ⟨hg,s.lq,Has.P9 ⟨ho.YZ,λ_=>Iff.rfl⟩,λc hc=>.inr (by obtain⟨ad,h1,rfl⟩:=hc;exact(ho.xk h1).1)⟩
theorem St.fe(h:St F0 w0 w l)(n:Nat):St F0 w0 w (aq n ⟨none,0,0⟩ []::l):=h.HG (Mod.refl _ _) (bz.nil _ _ _)
theorem St.NP{n:Nat}{s r:Sl}{vs us:LV}(h:St F0 w0 w (aq n s vs::l))(hm:Mod s.lq w w')(ho:bz w' 0 n r us)(hb:∀b,r.lq b->s.lq b\/w.heap.size<=b):St F0 w0 w' (aq n r us::l):=by
 obtain⟨G,H,⟨h1,h2⟩,h3,h4,h5,h6⟩:=St.iM h;exact h6 _ (aq n r us) r.lq ⟨ho,λ_=>Iff.rfl⟩ (hm.mono λc _ hc=>(h2 c).2 hc) λb hb'=>(hb b hb').imp (λh=>(h2 b).2 h) id
theorem St.app{E n b:Nat}{s x:Sl}{z:LV}{vs new:LV}{k:Sl->Pr}(h:St F0 w0 w (aq n s vs::l))(ko:x.a.isSome=true->new.length=x.len*n)(JM:x.a=none->x.len=0)(hx:bn w x.a new)
 (hna:∀v∈new,aK v)(hz:z.length=n)(hb:b≠0)(hbd:(2*(s.len+x.len)+192)*b<=2^48)
 (hk:∀r w',St F0 w0 w' (aq n r (vs++new)::l)->r.len=s.len+x.len->k r w'):app E n b z s x k w:=
 Gx h.sl (Nat.zero_le _) ko JM hx hna hz hb hbd λr w' h1 h2 _ _ h5 h6=>hk r w' (h.NP h5 h1 h6) h2
theorem St.put{n:Nat}{s:Sl}{vs:LV}{i:Nat}{v:Value}{k:Pr}(h:St F0 w0 w (aq n s vs::l))(hi:i<vs.length)(hv:aK v)
 (hk:∀w',St F0 w0 w' (aq n s (vs.set i v)::l)->k w'):∃ad,s.a=some ad/\Eng.st (ad.add i) v k w:=
 h.sl.put hi hv λw' h1 h2 _=>hk w' (h.NP h2 h1 λ_ h=>.inl h)
theorem St.get{n:Nat}{s:Sl}{vs:LV}{i:Nat}{c:CS}{p:dw c}{k:dw c->Pr}(h:St F0 w0 w (aq n s vs::l))(hi:vs[i]? =some (bC c p))(hk:k p w):∃ad,s.a=some ad/\au c (ad.add i) k w:=by
 have h1:=h.sl;rcases h1.row with⟨_,h2,_⟩|⟨b,off,spare,h2,_,_,_,h5,_⟩
 ·have:=h1.len;rw[h2]at this;simp at this;subst this;simp at hi
 ·refine⟨_,h2,dD (h5 i _ ?_) hk⟩
  rw[List.getElem?_append_left (bt hi).2];exact hi
end
structure Rd(w:World)(F:Nat->Prop)(s:Sl)(l:LB):Prop where
 bs:BS w s l
 no:∀b,l≠[]->s.lq b->¬F b
section
variable{F0 F:Nat->Prop}{w0 w:World}{L:List HA}{s:Sl}{l:LB}
theorem Rd.at(h:Rd w0 F0 s l)(hs:St F0 w0 w L):BS w s l:=h.bs.mod hs.1 λad ha hl hF=>h.no _ hl ⟨ad,ha,rfl⟩ hF
theorem Rd.lt(h:Rd w F s l){b:Nat}(hl:l≠[])(hb:s.lq b):b<w.heap.size:=by
 obtain⟨ad,ha,rfl⟩:=hb;have h1:=h.bs.row;rw[ha]at h1;exact bn.lt h1 (by simpa using hl)
theorem Rd.go(h:Rd w0 F0 s l)(hs:St F0 w0 w L)(hF:∀b,F b->F0 b\/w0.heap.size<=b):Rd w F s l:=⟨h.at hs,λb hl hb UB=>by
 rcases hF b UB with h1|h1
 ·exact h.no b hl hb h1
 ·have:=h.lt hl hb;omega⟩
theorem Rd.aA(h:BS w s l):Rd w aA s l:=⟨h,λ_ _ _ h=>h⟩
theorem Rd.own{H:Nat->Prop}(h:Has (aq 1 s (l.map ub)::L) w H)(hd:∀b,F b->¬H b):Rd w F s l:=by
 obtain⟨G,H',⟨h1,h2⟩,h3,h4,h5⟩:=h;exact⟨h1.bs,λb _ hb hF=>hd b hF ((h5 b).2 (.inl ((h2 b).2 hb)))⟩
end
section
variable{w0 w:World}{L:List HA}
theorem bY.fK{b:Nat}{v:Value}{vs:LV}(h:bY w b (v::vs)):w.cell? ⟨b,0,none⟩=some v:=by
 have:=h.row.get (j:=0) (v:=v) rfl;rwa[add_zero']at this
end
theorem St.del{F0:Nat->Prop}{w0 w:World}:∀(n:Nat) {l:List HA},St F0 w0 w l->St F0 w0 w (l.eraseIdx n):=by
 intro n l h;rw[List.eraseIdx_eq_take_drop_succ];rcases Nat.lt_or_ge n l.length with hn|hn
 ·have h1:St F0 w0 w (l.take n++l[n]::l.drop (n+1)):=by rw[<-List.drop_eq_getElem_cons hn,List.take_append_drop];exact h
  exact(h1.perm List.perm_middle).drop
 ·rw[List.take_of_length_le hn,List.drop_eq_nil_of_le (by omega),List.append_nil];exact h
theorem bz.get{w:World}{n0 n:Nat}{s:Sl}{vs:LV}{i:Nat}{c:CS}{p:dw c}{k:dw c->Pr}(h1:bz w n0 n s vs)(hi:vs[i]? =some (bC c p))(hk:k p w):∃ad,s.a=some ad/\au c (ad.add i) k w:=by
 rcases h1.row with⟨_,h2,_⟩|⟨b,off,spare,h2,_,_,_,h5,_⟩
 ·have:=h1.len;rw[h2]at this;simp at this;subst this;simp at hi
 ·refine⟨_,h2,dD (h5 i _ ?_) hk⟩
  rw[List.getElem?_append_left (bt hi).2];exact hi
def kR:List HA->Nat->Option HA
 |[],_=>none
 |A::_,0=>some A
 |_::l,n+1=>kR l n
def xl(l:List HA):List Nat->List HA
 |[]=>[]
 |
  i::ix=>
  match kR l i with
  |some A=>A::xl l ix
  |none=>xl l ix
theorem Has.fn:∀{l:List HA} {w:World} {F:Nat->Prop},Has l w F->∃f:Nat->Nat->Prop,(∀i A,kR l i=some A->A.is w (f i))/\(∀i j b,i≠j->f i b->¬f j b)/\∀i b,f i b->F b
 |[],_,_,_=>⟨λ_ _=>False,λ_ _ h=>by simp[kR]at h,λ_ _ _ _ h=>h.elim,λ_ _ h=>h.elim⟩
 |
  A::l,w,F,⟨G,H,h1,h2,h3,h4⟩=>by
  obtain⟨f,f1,f2,f3⟩:=Has.fn h2;refine⟨λi=>match i with|0=>G|i+1=>f i,?_,?_,?_⟩
  ·intro i B hB
   cases i with
   |zero=>simp only[kR,jg]at hB;subst hB;exact h1
   |succ i=>exact f1 i B hB
  ·intro i j b hij hi hj
   cases i with
   |
    zero=>
    cases j with
    |zero=>exact hij rfl
    |succ j=>exact h3 b hi (f3 j b hj)
   |
    succ i=>
    cases j with
    |zero=>exact h3 b hj (f3 i b hi)
    |succ j=>exact f2 i j b (by omega) hi hj
  ·intro i b hb
   cases i with
   |zero=>exact(h4 b).2 (.inl hb)
   |succ i=>exact(h4 b).2 (.inr (f3 i b hb))
theorem Has.xl{l:List HA}{w:World}{f:Nat->Nat->Prop}(f1:∀i A,kR l i=some A->A.is w (f i))(f2:∀i j b,i≠j->f i b->¬f j b):
 ∀{ix:List Nat},ix.Nodup->Has (Eng.xl l ix) w λb=>∃i∈ix,(kR l i).isSome=true/\f i b
 |[],_=>λb ⟨i,h,_⟩=>by cases h
 |
  i::ix,hn=>by
  rw[List.nodup_cons]at hn;have ih:=Has.xl f1 f2 (ix:=ix) hn.2;unfold Eng.xl;split
  ·rename_i A hA
   refine⟨f i,_,f1 i A hA,ih,?_,?_⟩
   ·rintro b hb ⟨j,hj,_,Y0⟩
    exact f2 i j b (λh=>hn.1 (h▸hj)) hb Y0
   ·intro b
    constructor
    ·rintro⟨j,hj,h1,h2⟩
     rcases List.mem_cons.1 hj with rfl|hj
     ·exact .inl h2
     ·exact .inr ⟨j,hj,h1,h2⟩
    ·rintro(h|⟨j,hj,h1,h2⟩)
     ·exact⟨i,by simp,by rw[hA];rfl,h⟩
     ·exact⟨j,by simp[hj],h1,h2⟩
  ·rename_i hA
   have:(λb=>∃j∈i::ix,(kR l j).isSome=true/\f j b)=λb=>∃j∈ix,(kR l j).isSome=true/\f j b:=Gy λb=>by
    constructor
    ·rintro⟨j,hj,h1,h2⟩
     rcases List.mem_cons.1 hj with rfl|hj
     ·rw[hA]at h1;cases h1
     ·exact⟨j,hj,h1,h2⟩
    ·rintro⟨j,hj,h1,h2⟩
     exact⟨j,by simp[hj],h1,h2⟩
   rw[this];exact ih
theorem St.bE{F0:Nat->Prop}{w0 w:World}{l:List HA}(ix:List Nat)(n:Nat)(h:St F0 w0 w l)(hn:ix.Nodup:=by decide):St F0 w0 w (xl (l.take n) ix++l.drop n):=by
 obtain⟨h1,F,h2,h3⟩:=h;rw[<-List.take_append_drop n l]at h2;obtain⟨G,H,h4,h5,h6,h7⟩:=Has.append.1 h2;obtain⟨f,f1,f2,f3⟩:=h4.fn;refine⟨h1,_,Has.append.2 ⟨_,H,Has.xl f1 f2 hn,h5,?_,λb=>Iff.rfl⟩,?_⟩
 ·rintro b ⟨i,_,_,hb⟩ hb'
  exact h6 b (f3 i b hb) hb'
 ·rintro b (⟨i,_,_,hb⟩|hb)
  ·exact h3 b ((h7 b).2 (.inl (f3 i b hb)))
  ·exact h3 b ((h7 b).2 (.inr hb))
theorem lB(v:Value)(n:Nat):zc [v] n=List.replicate n v:=by
 unfold zc
 induction n with
 |zero=>rfl
 |succ n ih=>rw[List.replicate_succ,List.flatten_cons,ih,List.replicate_succ];rfl
theorem St.AQ{F0:Nat->Prop}{w0 w:World}{l:List HA}{E b k:Nat}{z:LV}{n:Nat}{f:Sl->Pr}(h:St F0 w0 w l)(hz:z.length=k)(hb:b*n<=2^48)(hn:n<=2^48)
 (hk:∀r w',St F0 w0 w' (aq k r (zc z n)::l)->r.len=n->f r w'):Eng.AQ E b z (n:Int) (n:Int) f w:=by
 refine⟨by omega,by omega,by exact_mod_cast hb,by omega,?_⟩;simp only[jk];refine hk _ _ (h.HG ((Mod.refl _ w).alloc _) ⟨by rw[gA,hz],by simp,.inr ⟨w.heap.size,0,[],rfl,Nat.le_refl _,by simp,λo _ _=>World.frozen?_alloc_new w _ _ o,?_,by rw[List.append_nil,gA,hz]⟩⟩) rfl;intro j v hj;rw[jB,Nat.zero_add,World.cell?_alloc_new];simpa using hj
theorem ez{F0:Nat->Prop}{w0 w:World}{l:List HA}{s:Sl}{vs:LV}{i:Nat}{v:Value}{k:Pr}(h:St F0 w0 w (aq 1 s vs::l))(hi:i<vs.length)(hv:aK v)
 (hk:∀w',St F0 w0 w' (aq 1 s (vs.set i v)::l)->k w'):(deref s.a λa=>Eng.st (a.add (i*1)) v k) w:=by
 obtain⟨ad,ha,hst⟩:=h.put hi hv hk;rw[ha,ag,Nat.mul_one];exact hst
theorem St.vp{F0:Nat->Prop}{w0 w:World}{l:List HA}{E b k:Nat}{z:LV}{N:Int}{f:Sl->Pr}(n:Nat)(h:St F0 w0 w l)(hN:N=(n:Int))(hz:z.length=k)(hb:b*n<=2^48)(hn:n<=2^48)
 (hk:∀r w',St F0 w0 w' (aq k r (zc z n)::l)->r.len=n->f r w'):Eng.AQ E b z N N f w:=by
 subst hN;exact h.AQ hz hb hn hk
structure KT(K:Type)[DecidableEq K]where
 kd:TypeDesc
 enc:K->Value
 same:∀a b,Instr.sameNow kd (enc a) (enc b)=some (decide (a=b))
 bits:∀a,Instr.sameBits 10000 (enc a) (enc a)=true
def gD:KT Int where
 kd:=.int .i64
 enc:=.int .i64
 same a b:=by
  simp only[Instr.sameNow,if_true,jg];rw[Bool.eq_iff_iff];simp
 bits a:=by simp[Instr.sameBits]
section
variable{K:Type}[DecidableEq K](T:KT K)
structure rH(es:Array MapEntry)(clock:Nat)(kv:List (K×Value)):Prop where
 born:∀e∈es.toList,e.born<clock
 xx:(es.toList.map (·.born)).Nodup
 kvs:es.toList.map (λe=>(e.key,e.val))=kv.map λx=>(T.enc x.1,x.2)
def er(m:Nat)(kv:List (K×Value)):HA:=G9 λi:Array MapEntry×Nat=>[pA (rH T i.1 i.2 kv),j6 m (.map i.1 i.2)]
def vg(k:K):List (K×Value)->Option Value
 |[]=>none
 |x::l=>if k=x.1 then some x.2 else vg k l
variable{T}
theorem pF(k:K):∀(es:List MapEntry) (kv:List (K×Value)) (i:Nat),es.map (λe=>(e.key,e.val))=kv.map (λx=>(T.enc x.1,x.2))->
 (k∉kv.map (·.1)/\vg k kv=none/\Instr.findNow T.kd (T.enc k) es i=some none)\/
 ∃j v,kv[j]? =some (k,v)/\(∀l x,l<j->kv[l]? =some x->x.1≠k)/\vg k kv=some v/\Instr.findNow T.kd (T.enc k) es i=some (some (i+j,v))
 |
  [],kv,i,h=>by
  have:kv=[]:=by
   have:=congrArg List.length h;simp at this;exact jx this.symm
  subst this;exact .inl ⟨by simp,rfl,rfl⟩
 |e::es,[],i,h=>by simp at h
 |
  e::es,x::kv,i,h=>by
  simp only[List.map_cons,List.cons.injEq,Prod.mk.injEq]at h;unfold Instr.findNow;rw[h.1.1,T.same];by_cases hk:k=x.1
  ·subst hk
   refine .inr ⟨0,x.2,rfl,λl _ hl=>by omega,by simp[vg],?_⟩;simp only[decide_true,Nat.add_zero];rw[h.1.2]
  ·rw[decide_eq_false hk]
   rcases pF k es kv (i+1) h.2 with⟨h1,h2,h3⟩|⟨j,v,h1,h2,h3,h4⟩
   ·exact .inl ⟨by simp[hk];simpa using h1,by simp[vg,hk,h2],h3⟩
   ·refine .inr ⟨j+1,v,by simpa using h1,λl y hl hy=>?_,by simp[vg,hk,h3],by dsimp only;rw[h4];congr 3;omega⟩
    cases l with
    |zero=>simp only[List.getElem?_cons_zero,jg]at hy;subst hy;exact λh=>hk h.symm
    |succ l=>exact h2 l y (by omega) (by simpa using hy)
variable{F0:Nat->Prop}{w0 w:World}{L:List HA}{m:Nat}{kv:List (K×Value)}
theorem St.nh(h:St F0 w0 w (er T m kv::L)):∃es clock,rH T es clock kv/\St F0 w0 w (j6 m (.map es clock)::L):=by
 obtain⟨i,h⟩:=h.ex;obtain⟨h1,h⟩:=h.p;exact⟨i.1,i.2,h1,h⟩
theorem St.kS{es:Array MapEntry}{clock:Nat}(h:St F0 w0 w (j6 m (.map es clock)::L))(he:rH T es clock kv):St F0 w0 w (er T m kv::L):=
 St.iI (es,clock) (h.Dv he)
theorem St.Dy{f:Nat->Pr}(h:St F0 w0 w L)(hk:∀m w',St F0 w0 w' (er T m []::L)->f m w'):Eng.nw (.map #[] 0) f w:=by
 rw[x9];exact hk _ _ ((h.Ex (Obj.map #[] 0)).kS ⟨by simp,by simp,rfl⟩)
theorem Gz{es:Array MapEntry}{clock:Nat}(he:rH T es clock kv)(hm:w.heap[m]? =some (.map es clock)){k:K}{sh:CS}{zero:Value}{f:dw sh->Bool->Pr}
 (h1:∀v,vg k kv=some v->∃p,v=bC sh p/\f p true w)(h2:vg k kv=none->∃p,zero=bC sh p/\f p false w):gd T.kd (some m) (T.enc k) sh zero f w:=by
 rcases pF k es.toList kv 0 he.kvs with⟨_,g2,g3⟩|⟨j,v,_,_,g3,g4⟩
 ·obtain⟨p,hp,hf⟩:=h2 g2
  exact⟨es,none,p,⟨clock,hm⟩,g3,hp,hf⟩
 ·obtain⟨p,hp,hf⟩:=h1 v g3
  exact⟨es,some (0+j,v),p,⟨clock,hm⟩,g4,hp,hf⟩
theorem St.gd(h:St F0 w0 w (er T m kv::L)){k:K}{sh:CS}{zero:Value}{f:dw sh->Bool->Pr}
 (h1:∀v,vg k kv=some v->∃p,v=bC sh p/\f p true w)(h2:vg k kv=none->∃p,zero=bC sh p/\f p false w):Eng.gd T.kd (some m) (T.enc k) sh zero f w:=by
 obtain⟨es,clock,he,h⟩:=h.nh;exact Gz he h.obj h1 h2
theorem rH.len{es:Array MapEntry}{clock:Nat}(he:rH T es clock kv):es.size=kv.length:=by
 have:=congrArg List.length he.kvs;simpa using this
theorem St.nP(h:St F0 w0 w (er T m kv::L)){f:Int->Pr}(h1:f kv.length w):Eng.nP (some m) f w:=by
 obtain⟨es,clock,he,h⟩:=h.nh;exact⟨es,⟨clock,h.obj⟩,by rw[he.len];exact h1⟩
theorem jP{α β:Type}(f:α->β)(l:List α)(j:Nat):(l.eraseIdx j).map f=(l.map f).eraseIdx j:=by
 rw[List.eraseIdx_eq_take_drop_succ,List.eraseIdx_eq_take_drop_succ,jj,List.map_take,List.map_drop]
theorem St.tX(h:St F0 w0 w (er T m kv::L)){k:K}{f:Pr}(h1:∀j v w',kv[j]? =some (k,v)->(∀l x,l<j->kv[l]? =some x->x.1≠k)->St F0 w0 w' (er T m (kv.eraseIdx j)::L)->f w')
 (h2:k∉kv.map (·.1)->∀w',St F0 w0 w' (er T m kv::L)->f w'):Eng.tX T.kd (some m) (T.enc k) f w:=by
 obtain⟨es,clock,he,h⟩:=h.nh;rcases pF k es.toList kv 0 he.kvs with⟨g1,_,g3⟩|⟨j,v,g1,g2,_,g4⟩
 ·exact⟨m,es,clock,none,rfl,h.obj,g3,h2 g1 _ ((h.putObj (.map es clock)).kS he)⟩
 ·refine⟨m,es,clock,some (0+j,v),rfl,h.obj,g4,h1 j v _ g1 g2 ((h.putObj (.map (es.eraseIdxIfInBounds (0+j)) clock)).kS ?_)⟩
  have hl:(es.eraseIdxIfInBounds (0+j)).toList=es.toList.eraseIdx j:=by rw[Nat.zero_add,Array.toList_eraseIdxIfInBounds]
  refine⟨λe he'=>?_,?_,?_⟩
  ·rw[hl]at he'
   exact he.born e (List.mem_of_mem_eraseIdx he')
  ·rw[hl,jP]
   exact he.xx.sublist (List.eraseIdx_sublist _ _)
  ·rw[hl,jP,he.kvs,jP]
theorem St.ej(h:St F0 w0 w (er T m kv::L)){k:K}{v:Value}{f:Pr}(h1:∀j u w',kv[j]? =some (k,u)->(∀l x,l<j->kv[l]? =some x->x.1≠k)->St F0 w0 w' (er T m (kv.set j (k,v))::L)->f w')
 (h2:k∉kv.map (·.1)->∀w',St F0 w0 w' (er T m (kv++[(k,v)])::L)->f w'):Eng.ej T.kd (some m) (T.enc k) v f w:=by
 obtain⟨es,clock,he,h⟩:=h.nh;rcases pF k es.toList kv 0 he.kvs with⟨g1,_,g3⟩|⟨j,u,g1,g2,_,g4⟩
 ·refine⟨m,es,clock,none,rfl,h.obj,g3,h2 g1 _ ((h.putObj (.map (es.push {key:=T.enc k,val:=v,born:=clock}) (clock+1))).kS ⟨?_,?_,?_⟩)⟩
  ·intro e he'
   rw[Array.toList_push]at he';rcases jy.1 he' with h'|h'
   ·have:=he.born e h';omega
   ·rw[jo]at h';subst h';exact Nat.lt_succ_self _
  ·rw[Array.toList_push,jj,List.nodup_append]
   refine⟨he.xx,by simp,λa ha b hb=>?_⟩;obtain⟨e,he',rfl⟩:=kg.1 ha;have:=he.born e he';simp at hb;omega
  ·rw[Array.toList_push,jj,he.kvs,jj];rfl
 ·have hjl:j<es.toList.length:=by
   have h1:=congrArg List.length he.kvs;have h2:=(bt g1).2;simp at h1 h2⊢;omega
  have Y1:es[0+j]? =some es.toList[j]:=by rw[Nat.zero_add];simp at hjl⊢
  have Y2:es.toList[j].key=T.enc k:=by
   have h3:=congrArg (·[j]?) he.kvs;simp only[jf,g1,Option.map_some,jl hjl,jg,Prod.mk.injEq]at h3;exact h3.1
  refine⟨m,es,clock,some (0+j,u),rfl,h.obj,g4,?_,h1 j u _ g1 g2 ((h.putObj (.map (es.modify (0+j) λe=>{e with key:=T.enc k,val:=v}) clock)).kS ?_)⟩
  ·rw[Y1]
   simp only[Option.map_some,Option.getD_some,Y2];exact T.bits k
  ·have hl:∀{β:Type} (f:MapEntry->β) (b:β),f {es.toList[j]with key:=T.enc k,val:=v}=b->(es.modify (0+j) λe=>{e with key:=T.enc k,val:=v}).toList.map f=(es.toList.map f).set j b:=by
    intro β f b hb;refine List.ext_getElem? λi=>?_;rw[Nat.zero_add,List.getElem?_set,jf,Array.getElem?_toList,Array.getElem?_modify];by_cases hij:j=i
    ·subst hij
     rw[jd rfl,jd rfl,jd (by simpa using hjl)];have:es[j]? =some es.toList[j]:=by simp
     rw[this];simp only[Option.map_some,jg];exact hb
    ·rw[jc hij,jc hij,jf,Array.getElem?_toList]
   refine⟨λe he'=>?_,?_,?_⟩
   ·have h4:e.born∈((es.modify (0+j) λe=>{e with key:=T.enc k,val:=v}).toList.map (·.born)):=kg.2 ⟨e,he',rfl⟩
    rw[hl (·.born) es.toList[j].born rfl]at h4;rcases List.mem_or_eq_of_mem_set h4 with h5|h5
    ·obtain⟨e2,h6,h7⟩:=kg.1 h5
     have:=he.born e2 h6;omega
    ·have:=he.born _ (List.getElem_mem hjl);omega
   ·rw[hl (·.born) es.toList[j].born rfl]
    have:(es.toList.map (·.born)).set j es.toList[j].born=es.toList.map (·.born):=by
     refine List.ext_getElem? λi=>?_;rw[List.getElem?_set];by_cases hij:j=i
     ·subst hij
      rw[jd rfl,jd (by simpa using hjl),jf,jl hjl];rfl
     ·rw[jc hij]
    rw[this];exact he.xx
   ·rw[hl (λe=>(e.key,e.val)) (T.enc k,v) rfl,he.kvs,List.map_set]
def l5(es:Array MapEntry)(done:List Nat):List Nat:=done.map λj=>((es[j]?).map (·.born)).getD 0
variable(T)in
def oa(m it:Nat)(kv:List (K×Value))(done:List Nat):HA:=
 G9 λi:Array MapEntry×Nat×Array Nat=>[pA (rH T i.1 i.2.1 kv/\i.2.2.toList=l5 i.1 done/\(∀j∈done,j<kv.length)/\done.Nodup),j6 m (.map i.1 i.2.1),j6 it (.mapIter (some m) i.2.1 i.2.2 i.2.1)]
theorem St.GA{it:Nat}{done:List Nat}(h:St F0 w0 w (oa T m it kv done::L)):
 ∃es clock seen,rH T es clock kv/\seen.toList=l5 es done/\(∀j∈done,j<kv.length)/\done.Nodup/\St F0 w0 w (j6 m (.map es clock)::j6 it (.mapIter (some m) clock seen clock)::L):=by
 obtain⟨i,h⟩:=h.ex;obtain⟨⟨h1,h2,h3,h4⟩,h⟩:=h.p;exact⟨_,_,_,h1,h2,h3,h4,h⟩
theorem St.qK(h:St F0 w0 w (er T m kv::L)){k:Nat->Pr}(hk:∀it w',St F0 w0 w' (oa T m it kv []::L)->k it w'):Eng.qK (some m) k w:=by
 obtain⟨es,clock,he,h⟩:=h.nh;refine⟨es,clock,h.obj,hk _ _ ?_⟩;have h2:=h.Ex (.mapIter (some m) clock #[] clock);exact St.iI (f:=λi:Array MapEntry×Nat×Array Nat=>[pA (rH T i.1 i.2.1 kv/\i.2.2.toList=l5 i.1 []/\(∀j∈([]:List Nat),j<kv.length)/\([]:List Nat).Nodup),j6 m (.map i.1 i.2.1),j6 _ (.mapIter (some m) i.2.1 i.2.2 i.2.1)]) (es,clock,#[]) ((h2.af 1).Dv ⟨he,rfl,by simp,by simp⟩)
theorem xm{es:Array MapEntry}{clock:Nat}(he:rH T es clock kv){done:List Nat}(hd:∀j∈done,j<kv.length){i:Nat}(hi:i<kv.length){e:MapEntry}(KF:es.toList[i]? =some e):e.born∈l5 es done↔i∈done:=by
 have hsz:=he.len;unfold l5;rw[kg];constructor
 ·rintro⟨j,hj,hb⟩
  have hjl:=hd j hj;have UC:j<es.size:=by omega
  have hj2:es[j]? =some es[j]:=by simp
  rw[hj2]at hb;simp only[Option.map_some,Option.getD_some]at hb;have h1:(es.toList.map (·.born))[j]? =some e.born:=by rw[jf,Array.getElem?_toList,hj2];simp[hb]
  have h2:(es.toList.map (·.born))[i]? =some e.born:=by rw[jf,KF];rfl
  have:=(List.getElem?_inj (by simpa using(show j<es.size by omega)) he.xx).1 (h1.trans h2.symm);subst this;exact hj
 ·intro h
  refine⟨i,h,?_⟩;have:es[i]? =some e:=by rw[<-Array.getElem?_toList];exact KF
  rw[this];rfl
theorem z5:∀{n:Nat} {l:List Nat},l.Nodup->(∀j∈l,j<n)->(∀j,j<n->j∈l)->l.Perm (List.range n):=by
 intro n l h1 h2 h3;refine(List.perm_ext_iff_of_nodup h1 List.nodup_range).2 λj=>?_;rw[List.mem_range];exact⟨h2 j,h3 j⟩
theorem St.AR{it:Nat}{done:List Nat}{k0:Pr}{k1:MapEntry->Pr}(h:St F0 w0 w (oa T m it kv done::L))(h0:done.Perm (List.range kv.length)->∀w',St F0 w0 w' (oa T m it kv done::L)->k0 w')
 (h1:∀i en w',i<kv.length->i∉done->St F0 w0 w' (oa T m it kv (done++[i])::L)->k1 en w'):Eng.AR ⟨it,0,none⟩ k0 k1 w:=by
 obtain⟨es,clock,seen,he,hs,hd,hn,st⟩:=h.GA;have hsz:=he.len;refine⟨rfl,.inr ⟨m,clock,seen,clock,es,clock,(st.af 1).obj,st.obj,?_,λw1 hw1=>?_⟩⟩
 ·cases Qb:es.toList with
  |
   nil=>
   have:es= #[]:=by apply Array.ext';simpa using Qb
   simp[this]
  |
   cons e l=>
   have h1:=he.born e (by rw[Qb];simp);have:es.all (λx=>decide (x.born>=clock))=false:=by
    rw[<-Array.all_toList,Qb,List.all_cons,decide_eq_false (by omega),Bool.false_and]
   rw[this,Bool.and_false]
 have nu:St F0 w0 w1 (j6 m (.map es clock)::j6 it (.mapIter (some m) clock seen clock)::L):=by rcases hw1 with rfl|rfl;exact st;exact st.drew
 refine⟨λhall=>h0 ?_ w1 ?_,λe Qb JP=>?_⟩
 ·refine z5 hn hd λj hj=>?_
  have UC:j<es.toList.length:=by rw[Array.length_toList];omega
  have hj2:es.toList[j]? =some es.toList[j]:=by simp
  refine(xm he hd hj hj2).1 ?_;have:=hall es.toList[j] (by simp) (he.born _ (by simp));rw[<-hs,Array.mem_toList_iff,<-Array.contains_iff_mem];exact this
 ·exact St.iI (es,clock,seen) (nu.Dv ⟨he,hs,hd,hn⟩)
 ·obtain⟨i,hi,KF⟩:=List.getElem_of_mem Qb
  have Qc:es.toList[i]? =some e:=by rw[jl hi,KF]
  have hil:i<kv.length:=by simpa[hsz]using hi
  have hnd:i∉done:=λhc=>by
   have h3:=(xm he hd hil Qc).2 hc;rw[<-hs,Array.mem_toList_iff,<-Array.contains_iff_mem,JP]at h3;cases h3
  refine h1 i e _ hil hnd ?_;have Y3:=((nu.af 1).putObj (.mapIter (some m) clock (seen.push e.born) clock)).af 1;refine St.iI (es,clock,seen.push e.born) (Y3.Dv ⟨he,?_,?_,?_⟩)
  ·rw[Array.toList_push,hs]
   unfold l5;rw[jj];have:es[i]? =some e:=by rw[<-Array.getElem?_toList];exact Qc
   simp[this]
  ·intro j hj
   rcases jy.1 hj with h4|h4
   ·exact hd j h4
   ·rw[jo]at h4;subst h4;exact hil
  ·rw[List.nodup_append]
   refine⟨hn,by simp,λa ha b hb=>?_⟩;rw[jo]at hb;subst hb;exact λh=>hnd (h▸ha)
theorem St.tY{it:Nat}{done:List Nat}{i:Nat}{k:MapEntry->Pr}(h:St F0 w0 w (oa T m it kv (done++[i])::L))(hk:∀en x,kv[i]? =some x->en.key=T.enc x.1->en.val=x.2->k en w):Eng.tY ⟨it,0,none⟩ k w:=by
 obtain⟨es,clock,seen,he,hs,hd,hn,st⟩:=h.GA;have hsz:=he.len;have hil:i<kv.length:=hd i (by simp);have Y4:i<es.toList.length:=by rw[Array.length_toList];omega
 have KF:es.toList[i]? =some es.toList[i]:=by simp
 have hee:es[i]? =some es.toList[i]:=by rw[<-Array.getElem?_toList];exact KF
 have hkv:kv[i]? =some kv[i]:=by simp
 have MV:=congrArg (·[i]?) he.kvs;simp only[jf,hkv,KF,Option.map_some,jg,Prod.mk.injEq]at MV;refine⟨rfl,m,clock,seen,clock,es,clock,es.toList[i].born,es.toList[i],(st.af 1).obj,?_,st.obj,rfl,?_,hk _ _ hkv MV.1 MV.2⟩
 ·have:seen.back? =seen.toList.getLast? :=by simp
  rw[this,hs];unfold l5;rw[jj];simp[hee]
 ·rw[<-Array.find?_toList]
  refine sQ (List.getElem_mem _) (by simp) λx hx hb=>?_;obtain⟨j,hj,Wy⟩:=List.getElem_of_mem hx;have h1:(es.toList.map (·.born))[j]? =some es.toList[i].born:=by
   rw[jf,jl hj,Wy];simp at hb;simp[hb]
  have h2:(es.toList.map (·.born))[i]? =some es.toList[i].born:=by rw[jf,KF];rfl
  have:=(List.getElem?_inj (by simpa using hj) he.xx).1 (h1.trans h2.symm);subst this;rw[<-Wy]
where
 sQ {α:Type} {p:α->Bool} {e:α}:∀{l:List α},e∈l->p e=true->(∀x∈l,p x=true->x=e)->l.find? p=some e
  |[],h,_,_=>by cases h
  |
   x::l,h,hp,hu=>by
   rw[List.find?_cons];cases hx:p x with
   |true=>simp[hu x (by simp) hx]
   |
    false=>
    rcases List.mem_cons.1 h with rfl|h
    ·rw[hp]at hx;cases hx
    ·exact sQ h hp λy hy=>hu y (by simp[hy])
end
theorem gB(n:Int):IntKind.wrap .u8 n=n%256:=by
 unfold IntKind.wrap;simp only[IntKind.signed,IntKind.bits];rfl
theorem gv(n:Int):IntKind.wrap .u32 n=n%4294967296:=by
 unfold IntKind.wrap;simp only[IntKind.signed,IntKind.bits];rfl
theorem bO(n:Int):IntKind.wrap .u64 n=n%18446744073709551616:=by
 unfold IntKind.wrap;simp only[IntKind.signed,IntKind.bits];rfl
theorem l8(k:IntKind)(x y:Nat):kj k (x:Int) (y:Int)=((x/2^(min y k.bits):Nat):Int):=by
 unfold kj;rw[jk,show((2:Int)^min y k.bits)=((2^min y k.bits:Nat):Int) by simp,Int.ofNat_fdiv]
theorem fI(b:Nat)(x:Nat):(BitVec.ofInt b (x:Int)).toNat=x%2^b:=by
 rw[BitVec.ofInt_natCast,BitVec.toNat_ofNat]
theorem z8{x y:Nat}(hx:x<2^64)(hy:y<2^64):Dn .u64 (x:Int) (y:Int)=((x|||y:Nat):Int):=by
 unfold Dn;rw[bO,BitVec.toNat_or];simp only[IntKind.bits,fI];rw[Nat.mod_eq_of_lt hx,Nat.mod_eq_of_lt hy];have:=Nat.or_lt_two_pow hx hy;omega
theorem KH{x y:Nat}(hx:x<256)(hy:y<256):Dn .u8 (x:Int) (y:Int)=((x|||y:Nat):Int):=by
 unfold Dn;rw[gB,BitVec.toNat_or];simp only[IntKind.bits,fI];rw[Nat.mod_eq_of_lt (show x<2^8 from hx),Nat.mod_eq_of_lt (show y<2^8 from hy)];have:=Nat.or_lt_two_pow (n:=8) hx hy;omega
theorem gC{x y:Nat}(hx:x<2^32)(hy:y<2^32):ny .u32 (x:Int) (y:Int)=((x^^^y:Nat):Int):=by
 unfold ny;rw[gv,BitVec.toNat_xor];simp only[IntKind.bits,fI];rw[Nat.mod_eq_of_lt hx,Nat.mod_eq_of_lt hy];have:=Nat.xor_lt_two_pow hx hy;omega
theorem Dp{x y:Nat}(hx:x<2^32)(hy:y<2^32):nA .u32 (x:Int) (y:Int)=((x&&&y:Nat):Int):=by
 unfold nA;rw[gv,BitVec.toNat_and];simp only[IntKind.bits,fI];rw[Nat.mod_eq_of_lt hx,Nat.mod_eq_of_lt hy];have:x&&&y<=x:=Nat.and_le_left;omega
theorem G0{x y:Nat}(hx:x<256)(hy:y<256):nA .u8 (x:Int) (y:Int)=((x&&&y:Nat):Int):=by
 unfold nA;rw[gB,BitVec.toNat_and];simp only[IntKind.bits,fI];rw[Nat.mod_eq_of_lt (show x<2^8 from hx),Nat.mod_eq_of_lt (show y<2^8 from hy)];have:x&&&y<=x:=Nat.and_le_left;omega
theorem vm{x y:Nat}(hy:y<=64)(h:x*2^y<2^64):sU .u64 (x:Int) (y:Int)=((x*2^y:Nat):Int):=by
 unfold sU;rw[jk,bO];simp only[IntKind.bits];rw[Nat.min_eq_left hy];have:((x:Int)*2^y)=((x*2^y:Nat):Int):=by simp
 rw[this];omega
theorem sV{x y i:Nat}(h:x<2^i):x|||(y*2^i)=x+y*2^i:=by
 have:=Nat.two_pow_add_eq_or_of_lt h y;rw[Nat.or_comm,Nat.mul_comm,<-this,Nat.add_comm]
theorem pG(n:Nat):ub (UInt8.ofNat n)=.int .u8 ((n%256:Nat):Int):=by
 unfold ub;simp
theorem G6(n:Nat):n&&&127=n%128:=Nat.and_two_pow_sub_one_eq_mod n 7
theorem and_1(n:Nat):n&&&1=n%2:=Nat.and_two_pow_sub_one_eq_mod n 1
set_option maxRecDepth 20000
open Go
section
variable{P:Program}
def qI(d:Nat)(ty:TypeId)(pos:String):Oper:={dst:=some d,op:=.call {callee:=.builtin .recover,args:= #[],argTypes:= #[]},type:=ty,pos:=pos,after:= #[],guard:=none}
def Fb(fn:Func):Code:=match fn.body with
 |some (.seq _ r)=>r
 |_=>.skip
def wN(P:Program)(fn:Func)(an:An)(args:LV)(d:Nat)(v:Value)(rest:Code)(Q:Pr):Pr:=
 cC P none false an rest (Env.put (tT args fn.ntmps) (some d) (.val v)) ⟨L6 P fn [] λ_=>Q,L6 P fn [] λ_=>Q,[],false,[]⟩
theorem CQ{f:FuncId}{fn:Func}{an:An}{args:LV}{d id:Nat}{ty:TypeId}{pos:String}{rest:Code}{Q:Pr}{u:FrameMode}{v:Value}{w:World}(hf:P.funcs[f]? =some fn)
 (hb:fn.body=some (.seq (.region id #[qI d ty pos] false) rest))(hu:(u=.returning/\v=.nilIface)\/u=.panicking [⟨v,false,false⟩])(h:wN P fn an args d v rest Q w):gh P u f args Q w:=by
 refine callsDIn_of_wpSIn hf hb trivial ?_;intro c₀ cs hm;obtain⟨u',Nf,E7⟩:∃u',(∃cs',cs'={c₀ with mode:=u'}::cs/\((recoverD (c₀::cs)=none/\v=.nilIface/\cs'=c₀::cs)\/recoverD (c₀::cs)=some (v,cs')))/\settle u'=.returning:=by
  rcases hu with⟨rfl,rfl⟩|rfl
  ·refine⟨.returning,⟨_,rfl,.inl ⟨by simp[recoverD,hm],rfl,?_⟩⟩,rfl⟩
   rw[<-hm]
  ·exact⟨.panicking [⟨v,true,false⟩],⟨_,rfl,.inr (by simp[recoverD,hm])⟩,rfl⟩
 obtain⟨cs',Ox,Sw⟩:=Nf;have nv:Ag (tT args fn.ntmps) {tmps:=args.toArray++Array.replicate (fn.ntmps-args.toArray.size) undef,defers:=[]}:=pz args fn.ntmps;generalize({tmps:=args.toArray++Array.replicate (fn.ntmps-args.toArray.size) undef,defers:=[]}:Act)=a0 at nv⊢;have Sx:Ag (Env.put (tT args fn.ntmps) (some d) (.val v)) (a0.put (some d) v):=nv.put (some d) (λu hu=>by simpa[EV.v?]using hu.symm);refine wpSIn_seq (wpSIn_region ?_);have key:∀Wi,Wi=cs'->rest.wpSIn (wf none) 0 P (bodyPostS P fn c₀ cs λe u' w'=>(∃v,e=.returned v)/\settle u'=.returning/\Q w') (a0.put (some d) v) Wi w:=by
  rintro _ rfl;let Q':Exit->Act->World->Prop:=λex a w=>match ex with
   |.normal=>a.defers=[]/\∃v,(results fn a.tmps).run P w=.ok v w/\Q w
   |.ret=>a.defers=[]/\∃v,(results fn a.tmps).run P w=.ok v w/\Q w
   |_=>False
  have key:∀e' a' w',Ag e' a'->L6 P fn [] (λ_=>Q) e' w'->a'.defers=[]/\∃v,(results fn a'.tmps).run P w'=.ok v w'/\Q w':=by
   intro e' a' w' he' h;obtain⟨h1,h⟩:=oG h;obtain⟨h2,h⟩:=oG h;refine⟨by rw[he'.defers,h1,h2];rfl,?_⟩;have:=lR (R:=λe w=>aC [] (λ_=>Q) e w) (λ_ _ h=>h) he' h;obtain⟨v,hv,⟨_,_,hq⟩⟩:=this;exact⟨v,hv,hq⟩
  refine wpSIn_of_wpIn rfl ?_;refine wpIn_mono (mW (dk:=false) an none 0 none rest Q' _ _ w _ (λh=>by cases h) (λ_ _ _ _ _ _ h=>False.elim h) Sx h (λ_=>rfl) ?_ ?_ ?_ (λ_ _ _ _ _ _ h=>h.elim) (λ_ _ _ _ _ _ _ h=>h.elim)) ?_
  ·exact λe' a' w' he' _ h=>key _ _ _ he' h
  ·exact λe' a' w' he' h=>key _ _ _ he' h
  ·exact λi e' a' w' _ _ h=>h.elim
  ·intro ex a w h
   cases ex with
   |normal=>exact⟨h.1,u',Ox,h.2.imp λv hv=>⟨hv.1,⟨v,rfl⟩,E7,hv.2⟩⟩
   |ret=>exact⟨h.1,u',Ox,h.2.imp λv hv=>⟨hv.1,⟨v,rfl⟩,E7,hv.2⟩⟩
   |_=>exact h.elim
 have hr:List.range (#[qI d ty pos]).size=[0]:=rfl;have Sy:(#[qI d ty pos]:Array Oper)[0]? =some (qI d ty pos):=rfl;have he:(execOp a0.eval (qI d ty pos)).run P w=.ok .recover w:=by rfl
 have hw:Region.wanted (qI d ty pos) (yielded #[qI d ty pos] a0.tmps)=true:=rfl;rw[hr];unfold wpOpsSIn;rw[Sy];dsimp only;refine⟨λ_ _=>trivial,?_⟩;rw[jd hw,he];dsimp only;rcases Sw with⟨h1,rfl,h2⟩|h1
 ·rw[h1]
  exact key _ h2.symm
 ·rw[h1]
  exact key _ rfl
end
abbrev bA(r i:Nat):Addr:=Addr.add ⟨r,0,none⟩ i
abbrev slV(s:Sl):Value:=.slice s.a s.len s.cap
abbrev YC(a:Addr)(f:Int->Pr):Pr:=au (.int .i64) a f
abbrev Ng(a:Addr)(f:Sl->Pr):Pr:=au .slice a f
abbrev vi(a:Addr)(f:OA->Pr):Pr:=au .ptr a f
abbrev vj:CS:=.int .i64
abbrev iv(n:Int):Value:=.int .i64 n
abbrev uv(n:Int):Value:=.int .u8 n
def Kf(n:Int):Int:=IntKind.wrap .i64 n
def Oy(r:Nat):Nat->LV->Pr->Pr
 |_,[],k=>k
 |i,v::l,k=>st (bA r i) v<|Oy r (i+1) l k
def Dm(T:TypeId)(z vs:LV)(k:Nat->Pr):Pr:=nw (.cells z.toArray T) λr=>Oy r 0 vs (k r)
def el(s:Sl)(i:Int)(n:Nat)(k:Addr->Pr):Pr:=aP ((0:Int)<=i/\i<(s.len:Int))<|deref s.a λa=>k (a.add (Int.toNat i*n))
section
variable{P:Program}{f:FuncId}{fn:Func}{an:An}{args:LV}{aU:List Sh}{w:World}
theorem cF{Q:b9 aU->Pr}{F:Pr}(hf:P.funcs[f]? =some fn)(e:sy P fn an args aU Q=F)(h:F w):Calls P f args.toArray w (aC aU Q):=lS hf (by rw[e];exact h)
theorem cP{q:List PanicEntry->Pr}{Q:b9 aU->Pr}{F:Pr}(hf:P.funcs[f]? =some fn)(e:wL P fn an args aU q Q=F)(h:F w):Calls P f args.toArray w (iL q aU Q):=mX hf (by rw[e];exact h)
theorem cQ{Q:b9 aU->Pr}{F:Pr}(hf:P.funcs[f]? =some fn)(e:wM P fn an args aU Q=F)(h:F w):Calls P f args.toArray w (aC aU Q):=mY hf (by rw[e];exact h)
end
structure MS{α:Type}(g:α->Value)(w:World)(s:Sl)(l:List α):Prop where
 len:s.len=l.length
 row:bn w s.a (l.map g)
section
variable{α:Type}{g:α->Value}{w w':World}{s:Sl}{l:List α}
theorem MS.grow(h:MS g w s l)(hm:Grow w w'):MS g w' s l:=⟨h.len,h.row.grow hm⟩
theorem MS.mod{S:Nat->Prop}(h:MS g w s l)(hm:Mod S w w')(hs:∀ad,s.a=some ad->l≠[]->¬S ad.block):MS g w' s l:=
 ⟨h.len,h.row.mod hm λad ha hl=>hs ad ha λh0=>by subst h0;simp at hl⟩
theorem MS.nil(g:α->Value)(w:World)(c:Nat):MS g w ⟨none,0,c⟩ []:=⟨rfl,rfl⟩
theorem MS.dm(h:MS g w s l)(ha:s.a=none):s.len=0:=by
 have h2:=h.row;rw[ha]at h2;have:l.map g=[]:=h2;simp at this;rw[h.len,this];rfl
theorem MS.at{c:CS}{p:dw c}(h:MS g w s l){i:Nat}{k:dw c->Pr}{x:α}(hi:l[i]? =some x)(hx:g x=bC c p)(hk:k p w):(deref s.a λa=>au c (a.add (i*1)) k) w:=by
 have h1:=h.row;cases ha:s.a with
 |none=>rw[ha]at h1;have:l.map g=[]:=h1;simp at this;subst this;simp at hi
 |
  some ad=>
  rw[ha]at h1;rw[ag,Nat.mul_one];exact dD ((aF.1 h1).get (by simp[hi,hx])) hk
theorem bz.ms{n0:Nat}(h:bz w n0 1 s (l.map g)):MS g w s l:=⟨by have:=h.len;simp at this;exact this.symm,h.reads⟩
theorem BS.ms{l:LB}(h:BS w s l):MS ub w s l:=⟨h.len,h.row⟩
theorem MS.bs{l:LB}(h:MS ub w s l):BS w s l:=⟨h.len,h.row⟩
theorem MS.sub(h:MS g w s l){o n:Nat}(ho:o+n<=l.length){a:OA}{c:Nat}(ha:a=s.a.map (·.add (o*1))\/n=0)(hz:n=0->a=none\/a.isSome):MS g w ⟨a,n,c⟩ ((l.drop o).take n):=by
 refine⟨by simp;omega,?_⟩;rcases Nat.eq_zero_or_pos n with h0|h0
 ·subst h0
  simp only[List.take_zero,List.map_nil];cases a with
  |none=>rfl
  |some _=>trivial
 ·have ha:=ha.resolve_right (by omega)
  have h1:=h.row;cases hs:s.a with
  |none=>rw[hs]at h1;have:l.map g=[]:=h1;simp at this;subst this;simp at ho;omega
  |
   some ad=>
   rw[hs]at h1 ha;rw[ha];refine aF.2 λj v hj=>?_;have h2:=aF.1 h1 (o+j) v ?_
   ·rw[Nat.mul_one];rw[add_add];exact h2
   ·rw[jf]at hj⊢
    rw[List.getElem?_take,List.getElem?_drop]at hj;split at hj
    ·exact hj
    ·simp at hj
end
theorem aT{w:World}{n0:Nat}{s:Sl}{vs:LV}(h:bz w n0 1 s vs):s.len=vs.length:=by have:=h.len;omega
theorem St.Y5{F0:Nat->Prop}{w0 w:World}{L:List HA}{b n:Nat}(h:St F0 w0 w (aa b []::L)):St F0 w0 w (aq n ⟨some ⟨b,0,none⟩,0,0⟩ []::L):=by
 refine St.v9 [aa b []] h λF hF=>?_;have h1:=hF.one;refine⟨⟨by simp,by simp,.inr ⟨b,0,[],rfl,Nat.zero_le _,h1.1.lt,h1.1.N3,λj v hj=>by simp at hj,by simp⟩⟩,λc=>?_⟩;rw[h1.2];constructor
 ·rintro rfl;exact⟨_,rfl,rfl⟩
 ·rintro⟨ad,ha,rfl⟩;cases ha;rfl
structure VS(n:Nat)(w:World)(s:Sl)(vs:LV):Prop where
 len:vs.length=s.len*n
 row:bn w s.a vs
theorem VS.grow{n:Nat}{w w':World}{s:Sl}{vs:LV}(h:VS n w s vs)(hm:Grow w w'):VS n w' s vs:=⟨h.len,h.row.grow hm⟩
theorem VS.dm{n:Nat}{w:World}{s:Sl}{vs:LV}(h:VS n w s vs)(hn:n≠0)(ha:s.a=none):s.len=0:=by
 have h2:=h.row;rw[ha]at h2;have h3:vs=[]:=h2;have h4:=h.len;rw[h3]at h4;exact(Nat.mul_eq_zero.1 h4.symm).resolve_right hn
theorem MS.vs{α:Type}{g:α->Value}{w:World}{s:Sl}{l:List α}(h:MS g w s l):VS 1 w s (l.map g):=⟨by simp[h.len],h.row⟩
theorem bz.vs{w:World}{n0 n:Nat}{s:Sl}{vs:LV}(h:bz w n0 n s vs):VS n w s vs:=⟨h.len,h.reads⟩
theorem SS.vs{α:Type}{f:α->LV}{n:Nat}(hf:∀r,(f r).length=n){w:World}{s:Sl}{rs:List α}(h:SS f w s rs):VS n w s (rs.flatMap f):=⟨by rw[c9 hf,h.len],h.row⟩
theorem pK{E n b:Nat}{s:Sl}{z vs:LV}{w:World}{k:Sl->Pr}(h:VS n w s vs)(hna:∀v∈vs,aK v)(hz:z.length=n)(hn:n≠0)(hb:b≠0)(QX:b<=64)(hl:s.len<=1000000000)
 (hk:∀r w',St aA w w' [aq n r vs]->k r w'):(aP True<|br (Option.isNone s.a) (k ⟨none,0,0⟩) (nw (.cells #[] E) λr=>app E n b z ⟨(some ⟨r,0,none⟩),0,0⟩ s k)) w:=by
 refine⟨trivial,ah (λh0=>?_) (λh0=>?_)⟩
 ·have ha:s.a=none:=by simpa using h0
  have h2:=h.row;rw[ha]at h2;have:vs=[]:=h2;subst this;exact hk _ _ ((St.bp w).fe n)
 ·refine St.nw (St.bp w) λr w1 s1 g1 _=>?_
  have h1:=h.grow g1;refine s1.Y5.app (new:=vs) (λ_=>h1.len) (h1.dm hn) h1.row hna hz hb ?_ λr2 w2 s2 _=>hk r2 w2 s2;have:(2*(0+s.len)+192)*b<=(2*(0+s.len)+192)*64:=Nat.mul_le_mul_left _ QX;dsimp only;omega
end Go.Eng

namespace Go.Proofs
open Go.Eng
noncomputable abbrev Pq:=Tryz.prog
noncomputable abbrev cI(f:FuncId)(l:LV)(k:Int->Pr):Pr:=aH Pq f l [.c vj] k
noncomputable abbrev cB(f:FuncId)(l:LV)(k:Bool->Pr):Pr:=aH Pq f l [.c .bool] k
noncomputable abbrev cS(f:FuncId)(l:LV)(k:Sl->Pr):Pr:=aH Pq f l [.c .slice] k
noncomputable abbrev cO(f:FuncId)(l:LV)(k:Sl×Int->Pr):Pr:=aH Pq f l [.c .slice,.c vj] k
abbrev _root_.Go.Eng.An.n(x:An):An:=.sq .z x
set_option maxRecDepth 100000
def SF:An:=(.sq .z (.sq .z .z))
def UG(p0:Sl)(p1:Sl)(Q:Bool->Pr):Pr:=
 yS p0 λt6=>
 yS p1 λt8=>
 Q ((t6.toList==t8.toList))
theorem A5(p0:Sl)(p1:Sl)(Q:Bool->Pr)(w:World)(h:UG p0 p1 Q w):Calls Pq 11 #[(slV p0),(slV p1)] w (aC [.c .bool] Q):=cF (an:=SF) Tryz.func11 (by kernel_rfl) h
def SG:An:=(.sq .z (.sq (.sq .z (.br (.sq .z .z) .z)) (.sq .z .z)))
def UH(p0:Sl)(Q:Sl->Pr):Pr:=
 aP True<|
 br (Option.isNone p0.a) (
 Q (⟨none,0,0⟩)) (
 nw (.cells #[] 5) λr=>
 app 5 1 1 [(.int .u8 0)] ⟨(some ⟨r,0,none⟩),0,0⟩ p0 λt7=>
 Q t7)
theorem A6(p0:Sl)(Q:Sl->Pr)(w:World)(h:UH p0 Q w):Calls Pq 62 #[(slV p0)] w (aC [.c .slice] Q):=cF (an:=SG) Tryz.func62 (by kernel_rfl) h
def OJ:An:=(.sq .z (.sq (.sq .z (.br (.sq .z .z) .z)) (.sq .z .z)))
def Nl(p0:Sl)(Q:Sl->Pr):Pr:=
 aP True<|
 br (Option.isNone p0.a) (
 Q (⟨none,0,0⟩)) (
 nw (.cells #[] 3) λr=>
 app 3 1 8 [(.int .i64 0)] ⟨(some ⟨r,0,none⟩),0,0⟩ p0 λt7=>
 Q t7)
theorem xF(p0:Sl)(Q:Sl->Pr)(w:World)(h:Nl p0 Q w):Calls Pq 163 #[(slV p0)] w (aC [.c .slice] Q):=cF (an:=OJ) Tryz.func163 (by kernel_rfl) h
def OK:An:=(.sq .z (.sq (.sq .z (.br (.sq .z .z) .z)) (.sq .z .z)))
def No(p0:Sl)(Q:Sl->Pr):Pr:=
 aP True<|
 br (Option.isNone p0.a) (
 Q (⟨none,0,0⟩)) (
 nw (.cells #[] 64) λr=>
 app 64 2 24 [(.string (⟨#[]⟩:ByteArray)),(.int .i64 0)] ⟨(some ⟨r,0,none⟩),0,0⟩ p0 λt7=>
 Q t7)
theorem xJ(p0:Sl)(Q:Sl->Pr)(w:World)(h:No p0 Q w):Calls Pq 109 #[(slV p0)] w (aC [.c .slice] Q):=cF (an:=OK) Tryz.func109 (by kernel_rfl) h
def SH:An:=(.sq .z (.sq (.sq .z (.br (.sq .z .z) .z)) (.sq (.sq .z (.bl (.lp [(5,.c (.int .i64))] (.sq (.sq .z (.br .z .z)) (.sq (.bl (.sq .z (.br (.sq .z .z) .z))) .z))))) (.sq .z .z))))
def UI(p0:Sl)(p1:Sl)(Q:Bool->Pr):Pr:=
 br ((p0.len:Int)!=(p1.len:Int)) (
 Q false) (
 aM (S:=Int) (λX s=>
 br (decide (s<(p0.len:Int))) (
 jE<|
 aP ((0:Int)<=s/\s<(p0.len:Int))<|
 deref p0.a λa=>
 deref (some (a.add (Int.toNat s*1))) λa_1=>
 au (.int .i64) a_1 λ(t20:Int)=>
 aP ((0:Int)<=s/\s<(p1.len:Int))<|
 deref p1.a λa_2=>
 deref (some (a_2.add (Int.toNat s*1))) λbX=>
 au (.int .i64) bX λ(t24:Int)=>
 br (t20 !=t24) (
 Q false) (
 X ((IntKind.wrap .i64 (s+1))))) (
 Q true)) 0)
theorem A7(p0:Sl)(p1:Sl)(Q:Bool->Pr)(w:World)(h:UI p0 p1 Q w):Calls Pq 32 #[(slV p0),(slV p1)] w (aC [.c .bool] Q):=cF (an:=SH) Tryz.func32 (by kernel_rfl) h
def SI:An:=(.sq .z (.sq (.sq (.jn [(12,.c .bool)] .z) (.br (.sq .z .z) .z)) (.sq .z (.sq (.sq .z (.bl (.lp [(5,.c .slice),(6,.c (.int .i64))] (.sq (.sq .z (.br .z .z)) (.sq (.bl .z) .z))))) (.sq .z .z)))))
def Vc(p0:Int)(p1:Int)(Q:Sl->Pr):Pr:=
 jn (S:=Bool) (λR=>
 br (decide (p0<1)) (
 R true) (
 R ((decide (p0>8))))) λs=>
 br s (
 Q (⟨none,0,0⟩)) (
 aM (S:=Sl×Int) (λX s_1=>
 br (decide (s_1.2<p0)) (
 aP ((0:Int)<=(IntKind.wrap .u64 (IntKind.wrap .i64 (8*s_1.2))))<|
 nw (.cells #[(.int .u8 (IntKind.wrap .u8 (kj .u64 p1 (IntKind.wrap .u64 (IntKind.wrap .i64 (8*s_1.2))))))] 5) λr=>
 app 5 1 1 [(.int .u8 0)] s_1.1 ⟨(some ⟨r,0,none⟩),1,1⟩ λt26=>
 X (t26,(IntKind.wrap .i64 (s_1.2+1)))) (
 Q s_1.1)) (⟨none,0,0⟩,0))
theorem Bt(p0:Int)(p1:Int)(Q:Sl->Pr)(w:World)(h:Vc p0 p1 Q w):Calls Pq 39 #[(.int .i64 p0),(.int .u64 p1)] w (aC [.c .slice] Q):=cF (an:=SI) Tryz.func39 (by kernel_rfl) h
def SJ:An:=(.sq .z (.sq (.sq (.jn [(12,.c .bool)] .z) (.br (.sq .z .z) .z)) (.sq .z (.sq (.sq .z (.bl (.lp [(16,.c (.int .i64))] (.sq .z (.sq (.br .z .z) (.sq (.bl (.sq .z .z)) .z)))))) (.sq .z .z)))))
def Vd(p0:Int)(p1:Int)(Q:Sl->Pr):Pr:=
 jn (S:=Bool) (λR=>
 br (decide (p0<1)) (
 R true) (
 R ((decide (p0>8))))) λs=>
 br s (
 Q (⟨none,0,0⟩)) (
 AQ 5 1 [(.int .u8 0)] p0 p0 λt14=>
 aM (S:=Int) (λX s_1=>
 br (decide (s_1<p0)) (
 aP ((0:Int)<=(IntKind.wrap .i64 (8*s_1)))<|
 aP ((0:Int)<=s_1/\s_1<(t14.len:Int))<|
 deref t14.a λa=>
 deref (some (a.add (Int.toNat s_1*1))) λa_1=>
 st a_1 (.int .u8 (IntKind.wrap .u8 (kj .u64 p1 (IntKind.wrap .i64 (8*s_1)))))<|
 X ((IntKind.wrap .i64 (s_1+1)))) (
 Q t14)) 0)
theorem Bu(p0:Int)(p1:Int)(Q:Sl->Pr)(w:World)(h:Vd p0 p1 Q w):Calls Pq 59 #[(.int .i64 p0),(.int .u64 p1)] w (aC [.c .slice] Q):=cF (an:=SJ) Tryz.func59 (by kernel_rfl) h
def SK:An:=(.sq .z (.sq .z (.sq (.bl (.lp [(0,.c (.int .u64)),(3,.c .slice)] (.sq (.sq .z (.br .z .z)) (.bl (.sq .z .z))))) (.sq .z .z))))
def UJ(p0:Int)(Q:Sl->Pr):Pr:=
 aM (S:=Int×Sl) (λX s=>
 br (decide (s.1>=128)) (
 aP ((128:Int)≠0)<|
 nw (.cells #[(.int .u8 (IntKind.wrap .u8 (IntKind.wrap .u64 ((s.1.tmod 128)+128))))] 5) λr=>
 app 5 1 1 [(.int .u8 0)] s.2 ⟨(some ⟨r,0,none⟩),1,1⟩ λt12=>
 aP ((128:Int)≠0)<|
 X ((IntKind.wrap .u64 (s.1.tdiv 128)),t12)) (
 nw (.cells #[(.int .u8 (IntKind.wrap .u8 s.1))] 5) λr_1=>
 app 5 1 1 [(.int .u8 0)] s.2 ⟨(some ⟨r_1,0,none⟩),1,1⟩ λt19=>
 Q t19)) (p0,⟨none,0,0⟩)
theorem A8(p0:Int)(Q:Sl->Pr)(w:World)(h:UJ p0 Q w):Calls Pq 73 #[(.int .u64 p0)] w (aC [.c .slice] Q):=cF (an:=SK) Tryz.func73 (by kernel_rfl) h
def SL:An:=(.sq .z (.sq .z (.sq (.bl (.lp [(0,.c (.int .u64)),(3,.c .slice)] (.sq (.sq .z (.br .z .z)) (.bl (.sq .z .z))))) (.sq .z .z))))
def UK(p0:Int)(Q:Sl->Pr):Pr:=
 aM (S:=Int×Sl) (λX s=>
 br (decide (s.1>=128)) (
 nw (.cells #[(.int .u8 (Dn .u8 (IntKind.wrap .u8 s.1) 128))] 5) λr=>
 app 5 1 1 [(.int .u8 0)] s.2 ⟨(some ⟨r,0,none⟩),1,1⟩ λt11=>
 aP ((0:Int)<=7)<|
 X ((kj .u64 s.1 7),t11)) (
 nw (.cells #[(.int .u8 (IntKind.wrap .u8 s.1))] 5) λr_1=>
 app 5 1 1 [(.int .u8 0)] s.2 ⟨(some ⟨r_1,0,none⟩),1,1⟩ λt18=>
 Q t18)) (p0,⟨none,0,0⟩)
theorem A9(p0:Int)(Q:Sl->Pr)(w:World)(h:UK p0 Q w):Calls Pq 57 #[(.int .u64 p0)] w (aC [.c .slice] Q):=cF (an:=SL) Tryz.func57 (by kernel_rfl) h
def SM:An:=(.sq .z (.sq (.sq (.jn [(33,.c .bool)] .z) (.br (.sq .z .z) .z)) (.sq .z (.sq (.sq .z (.bl (.lp [(8,.c (.int .u64)),(35,.c (.int .i64))] (.sq .z (.sq (.br .z .z) (.sq (.bl (.sq .z .z)) .z)))))) (.sq .z .z)))))
def Vh(p0:Sl)(p1:Int)(p2:Int)(Q:Int×Bool->Pr):Pr:=
 jn (S:=Bool) (λR=>
 br (decide (p2<1)) (
 R true) (
 br (decide (p2>8)) (
 R true) (
 br (decide (p1<0)) (
 R true) (
 br (decide (p1>(p0.len:Int))) (
 R true) (
 R ((decide (p2>(IntKind.wrap .i64 ((p0.len:Int)-p1)))))))))) λs=>
 br s (
 Q (0,false)) (
 aM (S:=Int×Int) (λX s_1=>
 br (decide (s_1.2<p2)) (
 aP ((0:Int)<=(IntKind.wrap .i64 (p1+s_1.2))/\(IntKind.wrap .i64 (p1+s_1.2))<(p0.len:Int))<|
 deref p0.a λa=>
 deref (some (a.add (Int.toNat (IntKind.wrap .i64 (p1+s_1.2))*1))) λa_1=>
 au (.int .u8) a_1 λ(t44:Int)=>
 aP ((0:Int)<=(IntKind.wrap .i64 (8*s_1.2)))<|
 X ((Dn .u64 s_1.1 (sU .u64 (IntKind.wrap .u64 t44) (IntKind.wrap .i64 (8*s_1.2)))),(IntKind.wrap .i64 (s_1.2+1)))) (
 Q (s_1.1,true))) (0,0))
theorem Bx(p0:Sl)(p1:Int)(p2:Int)(Q:Int×Bool->Pr)(w:World)(h:Vh p0 p1 p2 Q w):Calls Pq 61 #[(slV p0),(.int .i64 p1),(.int .i64 p2)] w (aC [.c (.int .u64),.c .bool] Q):=cF (an:=SM) Tryz.func61 (by kernel_rfl) h
def SN:An:=(.sq .z (.sq .z (.sq (.sq .z (.bl (.lp [(3,.c (.int .u32)),(8,.c (.int .i64))] (.sq .z (.sq (.br .z .z) (.sq (.bl (.sq .z (.sq .z (.sq .z (.bl (.lp [(3,.c (.int .u32)),(16,.c (.int .i64))] (.sq .z (.sq (.br .z .z) (.sq (.bl .z) .z))))))))) .z)))))) (.sq .z .z))))
def Vf(p0:Sl)(Q:Int->Pr):Pr:=
 aM (S:=Int×Int) (λX s=>
 br (decide (s.2<(p0.len:Int))) (
 aP ((0:Int)<=s.2/\s.2<(p0.len:Int))<|
 deref p0.a λa=>
 deref (some (a.add (Int.toNat s.2*1))) λa_1=>
 au (.int .u8) a_1 λ(t11:Int)=>
 aM (S:=Int×Int) (λjM s_1=>
 br (decide (s_1.2<8)) (
 aP ((0:Int)<=1)<|
 jM ((ny .u32 (kj .u32 s_1.1 1) (IntKind.wrap .u32 (2197175160*(nA .u32 s_1.1 1)))),(IntKind.wrap .i64 (s_1.2+1)))) (
 X (s_1.1,(IntKind.wrap .i64 (s.2+1))))) ((ny .u32 s.1 (IntKind.wrap .u32 t11)),0)) (
 Q ((ny .u32 4294967295 s.1)))) (4294967295,0)
theorem Bv(p0:Sl)(Q:Int->Pr)(w:World)(h:Vf p0 Q w):Calls Pq 60 #[(slV p0)] w (aC [.c (.int .u32)] Q):=cF (an:=SN) Tryz.func60 (by kernel_rfl) h
def SO:An:=(.sq .z (.sq .z (.sq (.sq .z (.bl (.lp [(3,.c (.int .u32)),(4,.c (.int .i64))] (.sq (.sq .z (.br .z .z)) (.sq (.bl (.sq .z (.sq .z (.bl (.lp [(3,.c (.int .u32)),(5,.c (.int .i64))] (.sq (.sq .z (.br .z .z)) (.sq (.jn [(3,.c (.int .u32))] (.bl (.sq .z (.br .z .z)))) .z))))))) .z))))) (.sq .z .z))))
def Vg(p0:Sl)(Q:Int->Pr):Pr:=
 aM (S:=Int×Int) (λX s=>
 br (decide (s.2<(p0.len:Int))) (
 aP ((0:Int)<=s.2/\s.2<(p0.len:Int))<|
 deref p0.a λa=>
 deref (some (a.add (Int.toNat s.2*1))) λa_1=>
 au (.int .u8) a_1 λ(t16:Int)=>
 aM (S:=Int×Int) (λjM s_1=>
 br (decide (s_1.2<8)) (
 jn (S:=Int) (λR=>
 aP ((2:Int)≠0)<|
 br ((s_1.1.tmod 2)==1) (
 aP ((0:Int)<=1)<|
 R ((ny .u32 (kj .u32 s_1.1 1) 2197175160))) (
 aP ((0:Int)<=1)<|
 R ((kj .u32 s_1.1 1)))) λs_2=>
 jM (s_2,(IntKind.wrap .i64 (s_1.2+1)))) (
 X (s_1.1,(IntKind.wrap .i64 (s.2+1))))) ((ny .u32 s.1 (IntKind.wrap .u32 t16)),0)) (
 Q ((ny .u32 4294967295 s.1)))) (4294967295,0)
theorem Bw(p0:Sl)(Q:Int->Pr)(w:World)(h:Vg p0 Q w):Calls Pq 40 #[(slV p0)] w (aC [.c (.int .u32)] Q):=cF (an:=SO) Tryz.func40 (by kernel_rfl) h
def OL:An:=(.sq .z (.sq .z (.sq (.sq .z (.bl (.lp [(5,.c (.int .u64)),(14,.c (.int .i64))] (.sq .z (.sq (.br .z .z) (.sq (.bl (.sq .z (.sq (.sq (.jn [(32,.c .bool)] .z) (.br (.sq .z .z) .z)) (.sq .z (.sq .z (.br (.sq .z .z) .z)))))) .z)))))) (.sq .z .z))))
def NJ(p0:Sl)(Q:Int×Int×Int->Pr):Pr:=
 slc 1 p0 none (some (Bz (p0.len:Int) 10)) none λt12=>
 aM (S:=Int×Int) (λX s=>
 br (decide (s.2<(t12.len:Int))) (
 aP ((0:Int)<=s.2/\s.2<(t12.len:Int))<|
 deref t12.a λa=>
 deref (some (a.add (Int.toNat s.2*1))) λa_1=>
 au (.int .u8) a_1 λ(t18:Int)=>
 jn (S:=Bool) (λR=>
 br (s.2==9) (
 br (decide (t18>1)) (
 R true) (
 br (decide (s.2>0)) (
 R ((t18==0))) (
 R false))) (
 br (decide (s.2>0)) (
 R ((t18==0))) (
 R false))) λs_1=>
 br s_1 (
 Q (0,0,13)) (
 aP ((0:Int)<=(IntKind.wrap .i64 (7*s.2)))<|
 br (decide (t18<128)) (
 Q ((Dn .u64 s.1 (sU .u64 (IntKind.wrap .u64 (nA .u8 t18 127)) (IntKind.wrap .i64 (7*s.2)))),(IntKind.wrap .i64 (s.2+1)),0)) (
 X ((Dn .u64 s.1 (sU .u64 (IntKind.wrap .u64 (nA .u8 t18 127)) (IntKind.wrap .i64 (7*s.2)))),(IntKind.wrap .i64 (s.2+1)))))) (
 Q (0,0,10))) (0,0)
theorem xX(p0:Sl)(Q:Int×Int×Int->Pr)(w:World)(h:NJ p0 Q w):Calls Pq 112 #[(slV p0)] w (aC [.c (.int .u64),.c (.int .i64),.c (.int .i64)] Q):=cF (an:=OL) Tryz.func112 (by kernel_rfl) h
def SP:An:=(.sq .z (.sq .z .z))
def UM(p0:Sl)(p1:Int)(Q:Sl->Pr):Pr:=
 cS 73 [(.int .u64 (IntKind.wrap .u64 p1))] λt8=>
 app 5 1 1 [(.int .u8 0)] p0 t8 λt9=>
 Q t9
theorem Ba(p0:Sl)(p1:Int)(Q:Sl->Pr)(w:World)(h:UM p0 p1 Q w):Calls Pq 37 #[(slV p0),(.int .i64 p1)] w (aC [.c .slice] Q):=cF (an:=SP) Tryz.func37 (by kernel_rfl) h
def SQ:An:=(.sq .z (.sq (.sq .z (.bl (.lp [(0,.c .slice),(9,.c (.int .i64))] (.sq .z (.sq (.br .z .z) (.sq (.bl (.sq .z .z)) .z)))))) (.sq .z .z)))
def UP(p0:Sl)(p1:Sl)(Q:Sl->Pr):Pr:=
 aM (S:=Sl×Int) (λX s=>
 br (decide (s.2<(p1.len:Int))) (
 aP ((0:Int)<=s.2/\s.2<(p1.len:Int))<|
 deref p1.a λa=>
 deref (some (a.add (Int.toNat s.2*1))) λa_1=>
 au (.int .i64) a_1 λ(t12:Int)=>
 cS 57 [(.int .u64 (IntKind.wrap .u64 t12))] λt16=>
 app 5 1 1 [(.int .u8 0)] s.1 t16 λt17=>
 X (t17,(IntKind.wrap .i64 (s.2+1)))) (
 Q s.1)) (p0,0)
theorem Bc(p0:Sl)(p1:Sl)(Q:Sl->Pr)(w:World)(h:UP p0 p1 Q w):Calls Pq 23 #[(slV p0),(slV p1)] w (aC [.c .slice] Q):=cF (an:=SQ) Tryz.func23 (by kernel_rfl) h
def SR:An:=(.sq .z (.sq .z .z))
def UO(p0:Sl)(p1:Sl)(Q:Sl->Pr):Pr:=
 cS 37 [(.slice p0.a p0.len p0.cap),(.int .i64 (p1.len:Int))] λt8=>
 app 5 1 1 [(.int .u8 0)] t8 p1 λt10=>
 Q t10
theorem Bb(p0:Sl)(p1:Sl)(Q:Sl->Pr)(w:World)(h:UO p0 p1 Q w):Calls Pq 38 #[(slV p0),(slV p1)] w (aC [.c .slice] Q):=cF (an:=SR) Tryz.func38 (by kernel_rfl) h
def OM:An:=(.sq .z (.sq (.jn [] (.sq .z (.br .z .z))) (.sq (.sq .z (.sq .z (.br .z .z))) (.sq .z .z))))
def NR(p0:Sl)(p1:Int)(Q:Sl->Pr):Pr:=
 jn (S:=Unit) (λR=>
 br (decide (p1<0)) (
 bK) (
 R ())) λs=>
 br (decide ((IntKind.wrap .i64 (p1-(IntKind.wrap .i64 ((p0.cap:Int)-(p0.len:Int)))))>0)) (
 slc 1 p0 none (some (p0.cap:Int)) none λt20=>
 Fi 5 1 1 [(.int .u8 0)] t20 (IntKind.wrap .i64 (p1-(IntKind.wrap .i64 ((p0.cap:Int)-(p0.len:Int))))) λt22=>
 slc 1 t22 none (some (p0.len:Int)) none λt25=>
 Q t25) (
 Q p0)
theorem ye(p0:Sl)(p1:Int)(Q:Sl->Pr)(w:World)(h:NR p0 p1 Q w):Calls Pq 111 #[(slV p0),(.int .i64 p1)] w (aC [.c .slice] Q):=cF (an:=OM) Tryz.func111 (by kernel_rfl) h
def SU:An:=(.sq .z (.sq .z (.sq (.sq .z (.bl (.lp [(3,.c (.int .i64)),(11,.c (.int .i64))] (.sq .z (.sq (.br .z .z) (.sq (.jn [(3,.c (.int .i64))] (.bl (.sq .z (.sq .z (.sq .z (.br .z .z)))))) .z)))))) (.sq .z (.sq (.sq .z (.bl (.lp [(6,.c .slice),(27,.c (.int .i64))] (.sq .z (.sq (.br .z .z) (.sq (.bl (.sq .z .z)) .z)))))) (.sq .z .z))))))
def VD(p0:Sl)(Q:Sl->Pr):Pr:=
 aM (S:=Int×Int) (λX s=>
 br (decide (s.2<(p0.len:Int))) (
 jn (S:=Int) (λR=>
 aP ((0:Int)<=s.2/\s.2<(p0.len:Int))<|
 deref p0.a λa=>
 deref (some (a.add (Int.toNat s.2*1))) λa_1=>
 au .slice a_1 λ(t14:Sl)=>
 br (decide ((IntKind.wrap .i64 (s.1+(t14.len:Int)))<0)) (
 bK) (
 R ((IntKind.wrap .i64 (s.1+(t14.len:Int)))))) λs_1=>
 X (s_1,(IntKind.wrap .i64 (s.2+1)))) (
 cS 111 [(.slice none 0 0),(.int .i64 s.1)] λt24=>
 aM (S:=Sl×Int) (λjM s_2=>
 br (decide (s_2.2<(p0.len:Int))) (
 aP ((0:Int)<=s_2.2/\s_2.2<(p0.len:Int))<|
 deref p0.a λa_2=>
 deref (some (a_2.add (Int.toNat s_2.2*1))) λbX=>
 au .slice bX λ(t30:Sl)=>
 app 5 1 1 [(.int .u8 0)] s_2.1 t30 λt33=>
 jM (t33,(IntKind.wrap .i64 (s_2.2+1)))) (
 Q s_2.1)) (t24,0))) (0,0)
theorem BT(p0:Sl)(Q:Sl->Pr)(w:World)(h:VD p0 Q w):Calls Pq 58 #[(slV p0)] w (aC [.c .slice] Q):=cF (an:=SU) Tryz.func58 (by kernel_rfl) h
def SV:An:=(.sq .z (.sq .z .z))
def VE(p0:Sl)(Q:Sl->Pr):Pr:=
 aH Pq 60 [(.slice p0.a p0.len p0.cap)] [.c (.int .u32)] λ(t5:Int)=>
 cS 59 [(.int .i64 4),(.int .u64 (IntKind.wrap .u64 t5))] λt7=>
 nw (.cells #[(.slice p0.a p0.len p0.cap),(.slice t7.a t7.len t7.cap)] 22) λr=>
 cS 58 [(.slice (some ⟨r,0,none⟩) 2 2)] λt9=>
 Q t9
theorem BU(p0:Sl)(Q:Sl->Pr)(w:World)(h:VE p0 Q w):Calls Pq 25 #[(slV p0)] w (aC [.c .slice] Q):=cF (an:=SV) Tryz.func25 (by kernel_rfl) h
def SW:An:=(.sq .z (.sq .z (.sq (.sq .z (.br (.sq .z .z) .z)) (.sq (.sq .z (.sq .z (.br (.sq .z .z) .z))) (.sq .z .z)))))
def VF(p0:Sl)(Q:Sl×Int->Pr):Pr:=
 br (decide ((IntKind.wrap .i64 ((p0.len:Int)-4))<0)) (
 Q (⟨none,0,0⟩,10)) (
 aH Pq 61 [(.slice p0.a p0.len p0.cap),(.int .i64 (IntKind.wrap .i64 ((p0.len:Int)-4))),(.int .i64 4)] [.c (.int .u64),.c .bool] λ(t15:Int×Bool)=>
 slc 1 p0 none (some (IntKind.wrap .i64 ((p0.len:Int)-4))) none λt22=>
 aH Pq 60 [(.slice t22.a t22.len t22.cap)] [.c (.int .u32)] λ(t23:Int)=>
 br ((IntKind.wrap .u32 t15.1)!=t23) (
 Q (⟨none,0,0⟩,11)) (
 slc 1 p0 none (some (IntKind.wrap .i64 ((p0.len:Int)-4))) none λt27=>
 cS 62 [(.slice t27.a t27.len t27.cap)] λt28=>
 Q (t28,0)))
theorem BV(p0:Sl)(Q:Sl×Int->Pr)(w:World)(h:VF p0 Q w):Calls Pq 28 #[(slV p0)] w (aC [.c .slice,.c (.int .i64)] Q):=cF (an:=SW) Tryz.func28 (by kernel_rfl) h
theorem ax{j:Nat}(h:j<1000000000000000000):IntKind.wrap .i64 ((j:Int)+1)=((j+1:Nat):Int):=by rw[wrap_i64 (by omega)];rfl
def kn:Nat->Nat->LB
 |0,n=>[UInt8.ofNat n]
 |f+1,n=>if n<128 then[UInt8.ofNat n]else UInt8.ofNat (n%128+128)::kn f (n/128)
def cA(n:Nat):LB:=kn 9 n
theorem Dq(f n:Nat):(kn f n).length<=f+1:=by
 induction f generalizing n with
 |zero=>simp[kn]
 |succ f ih=>unfold kn;split<;>simp;exact ih _
theorem bP(n:Nat):(cA n).length<=10:=Dq 9 n
def gi(n v:Nat):LB:=(List.range n).map λi=>UInt8.ofNat (v/2^(8*i))
@[simp]theorem pH(n v:Nat):(gi n v).length=n:=by simp[gi]
def pI:LB->Nat
 |[]=>0
 |b::l=>b.toNat+256*pI l
def fC(s:Nat):Nat:=if s%2=1 then(s/2)^^^2197175160 else s/2
def q6:Nat->Nat->Nat
 |0,s=>s
 |k+1,s=>q6 k (fC s)
def l9:LB->Nat->Nat
 |[],s=>s
 |b::l,s=>l9 l (q6 8 (s^^^b.toNat))
def iT(l:LB):Nat:=4294967295^^^l9 l 4294967295
theorem xE{s:Nat}(h:s<2^32):fC s<2^32:=by
 unfold fC;split
 ·exact Nat.xor_lt_two_pow (by omega) (by decide)
 ·omega
theorem oV{s:Nat}:∀(k:Nat),s<2^32->q6 k s<2^32
 |0,h=>h
 |k+1,h=>by unfold q6;exact oV k (xE h)
theorem rI(k s:Nat):q6 (k+1) s=fC (q6 k s):=by
 induction k generalizing s with
 |zero=>rfl
 |
  succ k ih=>
  show q6 (k+1) (fC s)=_;rw[ih];rfl
theorem mb:∀(l:LB) {s:Nat},s<2^32->l9 l s<2^32
 |[],_,h=>h
 |
  b::l,s,h=>by
  unfold l9;refine mb l (oV 8 (Nat.xor_lt_two_pow h ?_));have:=b.toNat_lt;omega
theorem sX(l:LB):iT l<2^32:=Nat.xor_lt_two_pow (by decide) (mb l (by decide))
theorem mc(l m:LB)(s:Nat):l9 (l++m) s=l9 m (l9 l s):=by
 induction l generalizing s with
 |nil=>rfl
 |cons b l ih=>exact ih _
def pJ:LB->Nat->Nat->Nat×Nat×Int
 |[],_,_=>(0,0,10)
 |
  c::l,v,i=>
  if(i=9/\1<c.toNat)\/(0<i/\c.toNat=0)then(0,0,13)
  else if c.toNat<128 then(v+c.toNat*2^(7*i),i+1,0)
  else pJ l (v+c.toNat%128*2^(7*i)) (i+1)
def dj(l:LB):Nat×Nat×Int:=pJ l 0 0
theorem QV(s t:Sl)(l m:LB)(w:World)(hs:BS w s l)(ht:BS w t m):Calls Pq 11 #[.slice s.a s.len s.cap,.slice t.a t.len t.cap] w (aC [.c .bool] λr w'=>r=decide (l=m)/\w=w'):=by
 refine A5 s t _ _ ?_;unfold UG;refine ic hs (ic ht ⟨?_,rfl⟩);rw[aS,aS];by_cases h:l=m<;>simp[h]
abbrev iv(n:Int):Value:=.int .i64 n
abbrev IS:=MS iv
theorem JI(l:List Int):∀v∈l.map iv,aK v:=by
 intro v hv;obtain⟨n,_,rfl⟩:=kg.1 hv;trivial
theorem Qo(s:Sl)(l:LB)(w:World)(hs:BS w s l)(hl:l.length<=1000000000):Calls Pq 62 #[.slice s.a s.len s.cap] w (aC [.c .slice] λr w'=>St aA w w' [aq 1 r (l.map ub)]):=by
 refine A6 s _ _ ?_;unfold UH;have:=hs.len;exact pK hs.ms.vs gx rfl (by decide) (by decide) (by decide) (by omega) λr w' h=>h
theorem WB(s:Sl)(l:List Int)(w:World)(hs:IS w s l)(hl:l.length<=1000000000):Calls Pq 163 #[.slice s.a s.len s.cap] w (aC [.c .slice] λr w'=>St aA w w' [aq 1 r (l.map iv)]):=by
 refine xF s _ _ ?_;unfold Nl;have:=hs.len;exact pK hs.vs (JI l) rfl (by decide) (by decide) (by decide) (by omega) λr w' h=>h
abbrev RT:=ByteArray×Int
abbrev KI(r:RT):LV:=[.string r.1,.int .i64 r.2]
@[simp]theorem KJ(r:RT):(KI r).length=2:=rfl
theorem IS.at{w:World}{s:Sl}{l:List Int}(h:IS w s l){i:Nat}{k:Int->Pr}(hi:i<l.length)(hk:k l[i] w):(deref s.a λa=>au (.int .i64) (a.add (i*1)) k) w:=
 MS.at (c:=.int .i64) (p:=l[i]) (x:=l[i]) h (by simp[hi]) rfl hk
theorem BS.at{w:World}{s:Sl}{l:LB}(h:BS w s l){i:Nat}{k:Int->Pr}(hi:i<l.length)(hk:k (l[i].toNat:Int) w):(deref s.a λa=>au (.int .u8) (a.add (i*1)) k) w:=
 MS.at (c:=.int .u8) (p:=(l[i].toNat:Int)) (x:=l[i]) h.ms (by simp[hi]) rfl hk
theorem WC(s t:Sl)(l m:List Int)(w:World)(hs:IS w s l)(ht:IS w t m)(hl:l.length<=1000000000):
 Calls Pq 32 #[.slice s.a s.len s.cap,.slice t.a t.len t.cap] w (aC [.c .bool] λr w'=>r=decide (l=m)/\Grow w w'):=by
 refine A7 s t _ _ ?_;unfold UI;simp only[ag];have h1:=hs.len;have h2:=ht.len;refine ah (λh=>?_) (λh=>?_)
 ·refine⟨?_,Mod.refl _ _⟩
  have:l≠m:=λh'=>by subst h';simp at h;omega
  simp[this]
 ·have Qp:l.length=m.length:=by simp at h;omega
  refine aB (λz W=>∃j:Nat,z=j/\j<=l.length/\l.take j=m.take j/\Grow w W) (λz _=>l.length-z.toNat) ⟨0,rfl,by omega,rfl,Mod.refl _ _⟩ ?_;rintro _ W ⟨j,rfl,hj,he,g⟩;refine ah (λhlt=>?_) (λhge=>?_)
  ·simp only[jb]at hlt
   have hjl:j<l.length:=by omega
   have nB:j<m.length:=by omega
   rw[aR];have g2:=g.drew;refine⟨⟨by omega,by omega⟩,?_⟩;rw[jk];refine IS.at (hs.grow g2) hjl ⟨⟨by omega,by omega⟩,?_⟩;refine IS.at (ht.grow g2) nB ?_;refine ah (λhne=>?_) (λheq=>?_)
   ·refine⟨?_,g2⟩
    have:l≠m:=λh'=>by subst h';simp at hne
    simp[this]
   ·have:l[j]=m[j]:=by simpa using heq
    rw[ax (by omega)];refine⟨⟨j+1,rfl,by omega,?_,g2⟩,by omega⟩;rw[List.take_add_one,List.take_add_one,he,jl hjl,jl nB,this]
  ·simp only[ja]at hge
   refine⟨?_,g⟩;have hjl:j=l.length:=by omega
   rw[List.take_of_length_le (by omega),List.take_of_length_le (by omega)]at he;simp[he]
theorem fc{F0:Nat->Prop}{w0 w:World}{L:List HA}{s:Sl}{pre:LB}{n:Nat}{v:Int}{k:Sl->Pr}(h:St F0 w0 w (aq 1 s (pre.map ub)::L))(hv:v=((n%256:Nat):Int))(hl:pre.length<=100000000)
 (hk:∀r w',St F0 w0 w' (aq 1 r ((pre++[UInt8.ofNat n]).map ub)::L)->k r w'):
 (nw (.cells #[(.int .u8 v)] 5) λr=>app 5 1 1 [(.int .u8 0)] s ⟨some ⟨r,0,none⟩,1,1⟩ k) w:=by
 refine St.nw h λr w1 s1 _ _=>?_;have jZ:=aT h.sl;rw[je]at jZ;refine(s1.af 1).app (new:=[.int .u8 v]) (λ_=>rfl) (λh=>by cases h) (aF.2 s1.box.row) (by simp[aK]) rfl (by decide) (by dsimp only;omega) λr2 w2 s2 _=>?_;refine hk r2 w2 ?_;rw[jj,List.map_cons,List.map_nil,pG,<-hv];exact s2.del 1
theorem WD(n:Nat)(w:World)(hn:n<2^64):Calls Pq 73 #[.int .u64 n] w (aC [.c .slice] λr w'=>St aA w w' [aq 1 r ((cA n).map ub)]):=by
 refine A8 n _ _ ?_;unfold UJ;refine aB (λz W=>∃(m f:Nat) (pre:LB),z.1=m/\m<128^(f+1)/\cA n=pre++kn f m/\pre.length+f<=9/\m<2^64/\St aA w W [aq 1 z.2 (pre.map ub)]) (λz _=>z.1.toNat)
  ⟨n,9,[],rfl,Nat.lt_trans hn (by decide),rfl,by decide,hn,(St.bp w).fe 1⟩ ?_
 rintro⟨_,s⟩ W ⟨m,f,pre,rfl,hm,hu,hp,QW,s1⟩;dsimp only at s1⊢;refine ah (λh=>?_) (λh=>?_)
 ·simp only[ge_iff_le,jb]at h
  cases f with
  |zero=>omega
  |
   succ f=>
   have hge:¬m<128:=by omega
   refine⟨by decide,?_⟩;refine fc (n:=m%128+128) s1 ?_ (by omega) λr w2 s2=>?_
   ·rw[show((m:Int).tmod 128)=((m%128:Nat):Int) by rfl,bO,gB];omega
   ·refine⟨by decide,⟨m/128,f,pre++[UInt8.ofNat (m%128+128)],?_,?_,?_,?_,by omega,s2⟩,?_⟩
    ·rw[show((m:Int).tdiv 128)=((m/128:Nat):Int) by rfl,bO];omega
    ·rw[Nat.div_lt_iff_lt_mul (by decide)]
     rw[Nat.pow_succ]at hm;exact hm
    ·rw[hu]
     conv=>lhs;unfold kn
     rw[jc hge];simp
    ·simp;omega
    ·rw[show((m:Int).tdiv 128)=((m/128:Nat):Int) by rfl,bO]
     omega
 ·simp only[ge_iff_le,ja]at h
  have hlt:m<128:=by omega
  refine fc (n:=m) s1 (by rw[gB];omega) (by omega) λr w2 s2=>?_;have:kn f m=[UInt8.ofNat m]:=by cases f<;>simp[kn,hlt]
  rw[hu,this];exact s2
theorem WE(n:Nat)(w:World)(hn:n<2^64):Calls Pq 57 #[.int .u64 n] w (aC [.c .slice] λr w'=>St aA w w' [aq 1 r ((cA n).map ub)]):=by
 refine A9 n _ _ ?_;unfold UK;refine aB (λz W=>∃(m f:Nat) (pre:LB),z.1=m/\m<128^(f+1)/\cA n=pre++kn f m/\pre.length+f<=9/\m<2^64/\St aA w W [aq 1 z.2 (pre.map ub)]) (λz _=>z.1.toNat)
  ⟨n,9,[],rfl,Nat.lt_trans hn (by decide),rfl,by decide,hn,(St.bp w).fe 1⟩ ?_
 rintro⟨_,s⟩ W ⟨m,f,pre,rfl,hm,hu,hp,QW,s1⟩;dsimp only at s1⊢;refine ah (λh=>?_) (λh=>?_)
 ·simp only[ge_iff_le,jb]at h
  cases f with
  |zero=>omega
  |
   succ f=>
   have hge:¬m<128:=by omega
   have hsh:kj .u64 (m:Int) 7=((m/128:Nat):Int):=l8 .u64 m 7;have KK:m%256|||128=m%128+128:=by
    have h1:m%256=m%128+128*((m/128)%2):=by omega
    rcases Nat.mod_two_eq_zero_or_one (m/128)with h2|h2
    ·rw[h1,h2]
     exact sV (i:=7) (y:=1) (by omega)
    ·rw[h1,h2]
     have h3:m%128+128*1=128|||m%128:=by
      have:m%128|||128=m%128+128:=sV (x:=m%128) (i:=7) (y:=1) (by omega);rw[Nat.or_comm,this]
     rw[h3,Nat.or_comm 128,Nat.or_assoc,Nat.or_self]
   refine fc (n:=m%128+128) s1 ?_ (by omega) λr w2 s2=>?_
   ·rw[gB,show((m:Int)%256)=((m%256:Nat):Int) by rfl]
    have:=KH (x:=m%256) (y:=128) (by omega) (by decide);rw[KK]at this;refine Eq.trans this ?_;rw[Nat.mod_eq_of_lt (show m%128+128<256 by omega)]
   ·refine⟨by decide,⟨m/128,f,pre++[UInt8.ofNat (m%128+128)],hsh,?_,?_,?_,by omega,s2⟩,?_⟩
    ·rw[Nat.div_lt_iff_lt_mul (by decide)]
     rw[Nat.pow_succ]at hm;exact hm
    ·rw[hu]
     conv=>lhs;unfold kn
     rw[jc hge];simp
    ·simp;omega
    ·rw[hsh]
     omega
 ·simp only[ge_iff_le,ja]at h
  have hlt:m<128:=by omega
  refine fc (n:=m) s1 (by rw[gB];omega) (by omega) λr w2 s2=>?_;have:kn f m=[UInt8.ofNat m]:=by cases f<;>simp[kn,hlt]
  rw[hu,this];exact s2
theorem UL(s:Sl)(pre:LB)(n:Nat)(w:World)(F:Nat->Prop)(h:Has [aq 1 s (pre.map ub)] w F)(hn:n<2^62)(hl:pre.length<=1000000000):
 Calls Pq 37 #[.slice s.a s.len s.cap,.int .i64 n] w (aC [.c .slice] λr w'=>St F w w' [aq 1 r ((pre++cA n).map ub)]):=by
 refine Ba s n _ _ ?_;unfold UM;rw[bO,show((n:Int)%18446744073709551616)=(n:Int) by omega];refine ak (WD n w (by omega)) λr w1 s1=>?_;have s2:=(St.init h).aZ s1;have hb:=s2.sl.bs;have vc:=hb.len;have jZ:=aT (s2.af 1).sl;rw[je]at jZ;have:=bP n;refine(s2.af 1).app (new:=(cA n).map ub) (λ_=>by rw[je];omega) hb.dm hb.row gx rfl (by decide) (by omega) λr2 w2 s3 _=>?_;rw[jj];exact s3.del 1
theorem UN(s x:Sl)(pre l:LB)(w:World)(F:Nat->Prop)(h:Has [aq 1 s (pre.map ub)] w F)(hx:Rd w F x l)(hl:pre.length<=100000000)(xq:l.length<=100000000):
 Calls Pq 38 #[.slice s.a s.len s.cap,.slice x.a x.len x.cap] w (aC [.c .slice] λr w'=>St F w w' [aq 1 r ((pre++cA l.length++l).map ub)]):=by
 refine Bb s x _ _ ?_;unfold UO;have ko:=hx.bs.len;rw[ko];refine ak (UL s pre l.length w F h (by omega) (by omega)) λr w1 s1=>?_;have hb:=hx.at s1;have jZ:=aT s1.sl;have:=bP l.length;rw[je,jh]at jZ;refine s1.app (new:=l.map ub) (λ_=>by rw[je];omega) hb.dm hb.row gx rfl (by decide) (by omega) λr2 w2 s3 _=>?_;rw[jj];exact s3
def ie(l:List Int):LB:=l.flatMap λn=>cA n.toNat
theorem me(l:List Int):(ie l).length<=10*l.length:=by
 induction l with
 |nil=>simp[ie]
 |
  cons n l ih=>
  have:=bP n.toNat;unfold ie at *;rw[List.flatMap_cons,jh,List.length_cons];omega
theorem WG(s x:Sl)(pre:LB)(l:List Int)(w:World)(F:Nat->Prop)(h:Has [aq 1 s (pre.map ub)] w F)(hx:IS w x l)(hno:∀b,x.lq b->¬F b)(h0:∀n∈l,0<=n/\n<2^62)(hl:pre.length<=100000000)(xq:l.length<=1000):
 Calls Pq 23 #[.slice s.a s.len s.cap,.slice x.a x.len x.cap] w (aC [.c .slice] λr w'=>St F w w' [aq 1 r ((pre++ie l).map ub)]):=by
 refine Bc s x _ _ ?_;unfold UP;simp only[ag];have ko:=hx.len;refine aB (λz W=>∃j:Nat,z.2=j/\j<=l.length/\St F w W [aq 1 z.1 ((pre++ie (l.take j)).map ub)]) (λz _=>l.length-z.2.toNat) ⟨0,rfl,by omega,by simpa[ie]using St.init h⟩ ?_;rintro⟨t,_⟩ W ⟨j,rfl,hj,s1⟩;dsimp only at s1⊢;refine ah (λhlt=>?_) (λhge=>?_)
 ·simp only[jb]at hlt
  have hjl:j<l.length:=by omega
  refine⟨⟨by omega,by omega⟩,?_⟩;rw[jk];have cW:IS W x l:=hx.mod s1.G7 λad ha _=>hno _ ⟨ad,ha,rfl⟩;refine IS.at cW hjl ?_;have hn:=h0 l[j] (List.getElem_mem hjl);rw[bO,show(l[j]%18446744073709551616)=((l[j].toNat:Nat):Int) by omega];refine ak (WE l[j].toNat W (by omega)) λr w1 s2=>?_;have s3:=s1.aZ s2;have hb:=s3.sl.bs;have vc:=hb.len;have jZ:=aT (s3.af 1).sl;have u1:=bP l[j].toNat;have u2:=me (l.take j);rw[je,jh]at jZ;rw[jr]at u2;refine(s3.af 1).app (new:=(cA l[j].toNat).map ub) (λ_=>by rw[je];omega) hb.dm hb.row gx rfl (by decide) (by omega) λr2 w2 s4 _=>?_;rw[ax (by omega)];refine⟨⟨j+1,rfl,by omega,?_⟩,by omega⟩;have:ie (l.take (j+1))=ie (l.take j)++cA l[j].toNat:=by
   unfold ie;rw[List.take_add_one,jl hjl,List.flatMap_append];simp
  rw[this,<-jt,jj];exact s4.del 1
 ·simp only[ja]at hge
  rw[List.take_of_length_le (by omega)]at s1;exact s1
set_option maxRecDepth 20000
theorem nD(j v:Nat):gi (j+1) v=gi j v++[UInt8.ofNat (v/2^(8*j))]:=by
 unfold gi;rw[List.range_succ,jj];rfl
theorem NC{v j:Nat}(hj:j<8):IntKind.wrap .u8 (kj .u64 (v:Int) ((8*j:Nat):Int))=(((v/2^(8*j))%256:Nat):Int):=by
 rw[l8,gB];simp only[IntKind.bits];rw[Nat.min_eq_left (by omega)];omega
theorem Xi(n v:Nat)(w:World)(h1:1<=n)(h8:n<=8):Calls Pq 39 #[.int .i64 n,.int .u64 v] w (aC [.c .slice] λr w'=>St aA w w' [aq 1 r ((gi n v).map ub)]):=by
 refine Bt n v _ _ ?_;unfold Vc;refine aL (λb W=>b=false/\w=W) (iK (by simp;omega) ⟨by simp;omega,rfl⟩) ?_;rintro _ _ ⟨rfl,rfl⟩;refine iK rfl ?_;refine aB (λz W=>∃j:Nat,z.2=j/\j<=n/\St aA w W [aq 1 z.1 ((gi j v).map ub)]) (λz _=>n-z.2.toNat) ⟨0,rfl,by omega,(St.bp w).fe 1⟩ ?_;rintro⟨t,_⟩ W ⟨j,rfl,hj,s1⟩;dsimp only at s1⊢;refine ah (λhlt=>?_) (λhge=>?_)
 ·simp only[jb]at hlt
  have hjn:j<n:=by omega
  rw[wrap_i64 (by omega),bO,show((8*(j:Int))%18446744073709551616)=((8*j:Nat):Int) by omega];refine⟨by omega,?_⟩;refine fc s1 (NC (by omega)) (by simp;omega) λr w2 s2=>?_;rw[ax (by omega)];exact⟨⟨j+1,rfl,by omega,by rw[nD];exact s2⟩,by omega⟩
 ·simp only[ja]at hge
  have:j=n:=by omega
  subst this;exact s1
theorem Xj(n v:Nat)(w:World)(h1:1<=n)(h8:n<=8):Calls Pq 59 #[.int .i64 n,.int .u64 v] w (aC [.c .slice] λr w'=>St aA w w' [aq 1 r ((gi n v).map ub)]):=by
 refine Bu n v _ _ ?_;unfold Vd;simp only[ag];refine aL (λb W=>b=false/\w=W) (iK (by simp;omega) ⟨by simp;omega,rfl⟩) ?_;rintro _ _ ⟨rfl,rfl⟩;refine iK rfl ?_;refine(St.bp w).vp n rfl rfl (by omega) (by omega) λt w1 s1 kq=>?_;rw[lB]at s1;refine aB (λz W=>∃j:Nat,z=j/\j<=n/\St aA w W [aq 1 t ((gi j v++List.replicate (n-j) 0).map ub)]) (λz _=>n-z.toNat) ⟨0,rfl,by omega,?_⟩ ?_
 ·have:(gi 0 v++List.replicate (n-0) 0).map ub=List.replicate n (.int .u8 0):=by simp[gi,ub]
  rw[this];exact s1
 rintro _ W ⟨j,rfl,hj,s2⟩;refine ah (λhlt=>?_) (λhge=>?_)
 ·simp only[jb]at hlt
  have hjn:j<n:=by omega
  rw[wrap_i64 (by omega),show(8*(j:Int))=((8*j:Nat):Int) by omega,NC (by omega)];refine⟨by omega,⟨by omega,by omega⟩,?_⟩;rw[jk];refine ez s2 (by simp;omega) trivial λw3 s3=>?_;rw[ax (by omega)];refine⟨⟨j+1,rfl,by omega,?_⟩,by omega⟩;have:((gi j v++List.replicate (n-j) 0).map ub).set j (.int .u8 ((v/2^(8*j)%256:Nat):Int))=(gi (j+1) v++List.replicate (n-(j+1)) 0).map ub:=by
   rw[<-pG,<-List.map_set,nD,List.set_append_right _ _ (by simp)];rw[show n-j=(n-(j+1))+1 by omega,List.replicate_succ];simp
  rw[<-this];exact s3
 ·simp only[ja]at hge
  have:j=n:=by omega
  subst this;simpa using s2
theorem ND{s:Nat}(h:s<2^32):ny .u32 (kj .u32 (s:Int) 1) (IntKind.wrap .u32 (2197175160*(nA .u32 (s:Int) 1)))=((fC s:Nat):Int):=by
 have h1:kj .u32 (s:Int) 1=((s/2:Nat):Int):=l8 .u32 s 1;have h2:nA .u32 (s:Int) 1=((s%2:Nat):Int):=by
  have:=Dp (x:=s) (y:=1) h (by decide);rw[and_1]at this;exact this
 rw[h1,h2,gv];unfold fC;rcases Nat.mod_two_eq_zero_or_one s with h3|h3
 ·rw[jc (by omega),h3]
  have:=gC (x:=s/2) (y:=0) (by omega) (by decide);rw[Nat.xor_zero]at this;exact this
 ·rw[jd h3,h3]
  exact gC (x:=s/2) (y:=2197175160) (by omega) (by decide)
theorem NF{s:Nat}(h:s<2^32):(if s%2=1 then ny .u32 (kj .u32 (s:Int) 1) 2197175160 else kj .u32 (s:Int) 1)=((fC s:Nat):Int):=by
 have h1:kj .u32 (s:Int) 1=((s/2:Nat):Int):=l8 .u32 s 1;rw[h1];unfold fC;split
 ·exact gC (x:=s/2) (y:=2197175160) (by omega) (by decide)
 ·rfl
theorem Ve(s:Sl)(l:LB)(w:World)(hs:BS w s l)(hl:l.length<=1000000000):Calls Pq 60 #[.slice s.a s.len s.cap] w (aC [.c (.int .u32)] λr w'=>r=(iT l:Nat)/\w=w'):=by
 refine Bv s _ _ ?_;unfold Vf;simp only[ag];have jZ:=hs.len;refine aB (λz W=>∃(j c:Nat),z.2=j/\j<=l.length/\z.1=c/\c=l9 (l.take j) 4294967295/\w=W) (λz _=>l.length-z.2.toNat) ⟨0,_,rfl,by omega,rfl,rfl,rfl⟩ ?_;rintro⟨_,_⟩ W ⟨j,c,rfl,hj,rfl,hc,rfl⟩;dsimp only;have xV:c<2^32:=by rw[hc];exact mb _ (by decide)
 refine ah (λhlt=>?_) (λhge=>?_)
 ·simp only[jb]at hlt
  have hjl:j<l.length:=by omega
  refine⟨⟨by omega,by omega⟩,?_⟩;rw[jk];refine BS.at hs hjl ?_;have hb:=l[j].toNat_lt;rw[gv,show((l[j].toNat:Int)%4294967296)=(l[j].toNat:Int) by omega,gC xV (by omega)];have hx:c^^^l[j].toNat<2^32:=Nat.xor_lt_two_pow xV (by omega);refine aB (λz W=>∃(i:Nat),z.2=i/\i<=8/\z.1=(q6 i (c^^^l[j].toNat):Nat)/\w=W) (λz _=>8-z.2.toNat) ⟨0,rfl,by omega,rfl,rfl⟩ ?_;rintro⟨_,_⟩ W ⟨i,rfl,hi,rfl,rfl⟩;dsimp only;refine ah (λhlt=>?_) (λhge=>?_)
  ·simp only[jb]at hlt
   refine⟨by decide,?_⟩;rw[ND (oV _ hx),ax (by omega),<-rI];exact⟨⟨i+1,rfl,by omega,rfl,rfl⟩,by omega⟩
  ·simp only[ja]at hge
   have:i=8:=by omega
   subst this;rw[ax (by omega)];refine⟨⟨j+1,_,rfl,by omega,rfl,?_,rfl⟩,by omega⟩;rw[List.take_add_one,jl hjl,mc,<-hc];rfl
 ·simp only[ja]at hge
  rw[List.take_of_length_le (by omega)]at hc;have:=gC (x:=4294967295) (y:=c) (by decide) xV;refine⟨Eq.trans this ?_,rfl⟩;rw[hc];rfl
theorem Xk(s:Sl)(l:LB)(w:World)(hs:BS w s l)(hl:l.length<=1000000000):Calls Pq 40 #[.slice s.a s.len s.cap] w (aC [.c (.int .u32)] λr w'=>r=(iT l:Nat)/\w=w'):=by
 refine Bw s _ _ ?_;unfold Vg;simp only[ag];have jZ:=hs.len;refine aB (λz W=>∃(j c:Nat),z.2=j/\j<=l.length/\z.1=c/\c=l9 (l.take j) 4294967295/\w=W) (λz _=>l.length-z.2.toNat) ⟨0,_,rfl,by omega,rfl,rfl,rfl⟩ ?_;rintro⟨_,_⟩ W ⟨j,c,rfl,hj,rfl,hc,rfl⟩;dsimp only;have xV:c<2^32:=by rw[hc];exact mb _ (by decide)
 refine ah (λhlt=>?_) (λhge=>?_)
 ·simp only[jb]at hlt
  have hjl:j<l.length:=by omega
  refine⟨⟨by omega,by omega⟩,?_⟩;rw[jk];refine BS.at hs hjl ?_;have hb:=l[j].toNat_lt;rw[gv,show((l[j].toNat:Int)%4294967296)=(l[j].toNat:Int) by omega,gC xV (by omega)];have hx:c^^^l[j].toNat<2^32:=Nat.xor_lt_two_pow xV (by omega);refine aB (λz W=>∃(i:Nat),z.2=i/\i<=8/\z.1=(q6 i (c^^^l[j].toNat):Nat)/\w=W) (λz _=>8-z.2.toNat) ⟨0,rfl,by omega,rfl,rfl⟩ ?_;rintro⟨_,_⟩ W ⟨i,rfl,hi,rfl,rfl⟩;dsimp only;refine ah (λhlt=>?_) (λhge=>?_)
  ·simp only[jb]at hlt
   have hy:=oV i hx;have hst:=NF hy;generalize Rn:q6 i (c^^^l[j].toNat)=y at hst hy⊢;have hmod:((y:Int).tmod 2==1)=decide (y%2=1):=by
    rw[show((y:Int).tmod 2)=((y%2:Nat):Int) by rfl];rcases Nat.mod_two_eq_zero_or_one y with h3|h3<;>rw[h3]<;>rfl
   refine aL (λt W=>t=((fC y:Nat):Int)/\w=W) ⟨by decide,?_⟩ ?_
   ·rw[hmod]
    refine ah (λh3=>⟨by decide,?_,rfl⟩) (λh3=>⟨by decide,?_,rfl⟩)
    ·rw[jd (by simpa using h3)]at hst;exact hst
    ·rw[jc (by simpa using h3)]at hst;exact hst
   ·rintro _ _ ⟨rfl,rfl⟩
    rw[ax (by omega)];exact⟨⟨i+1,rfl,by omega,by rw[rI,Rn],rfl⟩,by omega⟩
  ·simp only[ja]at hge
   have:i=8:=by omega
   subst this;rw[ax (by omega)];refine⟨⟨j+1,_,rfl,by omega,rfl,?_,rfl⟩,by omega⟩;rw[List.take_add_one,jl hjl,mc,<-hc];rfl
 ·simp only[ja]at hge
  rw[List.take_of_length_le (by omega)]at hc;have:=gC (x:=4294967295) (y:=c) (by decide) xV;refine⟨Eq.trans this ?_,rfl⟩;rw[hc];rfl
theorem pT(l m:LB):pI (l++m)=pI l+2^(8*l.length)*pI m:=by
 induction l with
 |nil=>simp[pI]
 |
  cons b l ih=>
  simp only[List.cons_append,pI,ih,List.length_cons];rw[show 8*(l.length+1)=8+8*l.length by omega,Nat.pow_add,Nat.mul_add,Nat.mul_assoc];omega
theorem xW(l:LB):pI l<2^(8*l.length):=by
 induction l with
 |nil=>simp[pI]
 |
  cons b l ih=>
  simp only[pI,List.length_cons];have:=b.toNat_lt;rw[show 8*(l.length+1)=8+8*l.length by omega,Nat.pow_add];omega
theorem vu(n v:Nat):pI (gi n v)=v%2^(8*n):=by
 induction n with
 |zero=>simp[gi,pI,Nat.mod_one]
 |
  succ n ih=>
  rw[nD,pT,ih,pH];simp only[pI];rw[show 8*(n+1)=8*n+8 by omega,Nat.pow_add,Nat.mod_mul];simp
theorem Hr{l m:LB}(hl:l.length=m.length)(h:pI l=pI m):l=m:=by
 induction l generalizing m with
 |
  nil=>cases m with
  |nil=>rfl
  |cons _ _=>simp at hl
 |
  cons b l ih=>
  cases m with
  |nil=>simp at hl
  |
   cons c m=>
   simp only[pI]at h;have h1:=b.toNat_lt;have h2:=c.toNat_lt;have h3:b.toNat=c.toNat:=by omega
   rw[UInt8.toNat_inj.1 h3,ih (by simpa using hl) (by omega)]
theorem Xl(s:Sl)(l:LB)(o n:Nat)(w:World)(hs:BS w s l)(h1:1<=n)(h8:n<=8)(ho:o+n<=l.length)(hl:l.length<=1000000000):
 Calls Pq 61 #[.slice s.a s.len s.cap,.int .i64 o,.int .i64 n] w (aC [.c (.int .u64),.c .bool] λr w'=>r.1=(pI ((l.drop o).take n):Nat)/\r.2=true/\w=w'):=by
 refine Bx s o n _ _ ?_;unfold Vh;simp only[ag];have jZ:=hs.len;refine aL (λb W=>b=false/\w=W) ?_ ?_
 ·refine iK (by simp;omega) (iK (by simp;omega) (iK (by simp) (iK (by simp;omega) ⟨?_,rfl⟩)))
  rw[wrap_i64 (by omega)];simp;omega
 rintro _ _ ⟨rfl,rfl⟩;refine iK rfl ?_;refine aB (λz W=>∃(i:Nat),z.2=i/\i<=n/\z.1=(pI ((l.drop o).take i):Nat)/\w=W) (λz _=>n-z.2.toNat) ⟨0,rfl,by omega,by simp[pI],rfl⟩ ?_;rintro⟨_,_⟩ W ⟨i,rfl,hi,rfl,rfl⟩;dsimp only;refine ah (λhlt=>?_) (λhge=>?_)
 ·simp only[jb]at hlt
  have hin:i<n:=by omega
  rw[wrap_i64 (show _ by omega),show((o:Int)+(i:Int))=((o+i:Nat):Int) by omega];refine⟨⟨by omega,by omega⟩,?_⟩;rw[jk];refine BS.at hs (show o+i<l.length by omega) ?_;rw[wrap_i64 (show _ by omega),show(8*(i:Int))=((8*i:Nat):Int) by omega];refine⟨by omega,?_⟩;have hb:=l[o+i].toNat_lt;have vc:(l.drop o).take i++[l[o+i]]=(l.drop o).take (i+1):=by
   rw[List.take_add_one,List.getElem?_drop,jl (by omega)];rfl
  have hlen:((l.drop o).take i).length=i:=by simp;omega
  have ig:=xW ((l.drop o).take i);rw[hlen]at ig;have hle:pI ((l.drop o).take (i+1))=pI ((l.drop o).take i)+l[o+i].toNat*2^(8*i):=by
   rw[<-vc,pT,hlen];simp only[pI];rw[Nat.mul_zero,Nat.add_zero,Nat.mul_comm]
  have Ro:=xW ((l.drop o).take (i+1));have NG:((l.drop o).take (i+1)).length=i+1:=by simp;omega
  rw[NG,hle]at Ro;have Xm:2^(8*(i+1))<=2^64:=Nat.pow_le_pow_right (by decide) (by omega);have hu:IntKind.wrap .u64 (l[o+i].toNat:Int)=(l[o+i].toNat:Int):=by rw[bO];omega
  have hsh:=vm (x:=l[o+i].toNat) (y:=8*i) (by omega) (by omega);rw[hu,hsh,z8 (by omega) (by omega),sV ig,<-hle,ax (by omega)];exact⟨⟨i+1,rfl,by omega,rfl,rfl⟩,by omega⟩
 ·simp only[ja]at hge
  have:i=n:=by omega
  subst this;exact⟨rfl,trivial,rfl⟩
theorem Hs{c:Nat}{i:Nat}{R:Bool->Pr}{w:World}(hk:R (decide ((i=9/\1<c)\/(0<i/\c=0))) w):
 br ((i:Int)==9) (br (decide ((c:Int)>1)) (R true) (br (decide ((i:Int)>0)) (R ((c:Int)==0)) (R false))) (br (decide ((i:Int)>0)) (R ((c:Int)==0)) (R false)) w:=by
 have e0:((c:Int)==0)=decide (c=0):=by
  by_cases h:c=0
  ·subst h;rfl
  ·rw[decide_eq_false h];simp;omega
 rw[e0];refine ah (λh=>?_) (λh=>?_)
 ·have h9:i=9:=by simp at h;omega
  refine ah (λh1=>?_) (λh1=>?_)
  ·have:1<c:=by simp at h1;omega
   rw[decide_eq_true (.inl ⟨h9,this⟩)]at hk;exact hk
  ·have:¬1<c:=by simp at h1;omega
   refine oN (by simp;omega) ?_;have e:(decide ((i=9/\1<c)\/(0<i/\c=0)))=decide (c=0):=by
    apply decide_eq_decide.2;omega
   rwa[e]at hk
 ·have h9:i≠9:=by simp at h;omega
  refine ah (λh1=>?_) (λh1=>?_)
  ·have:0<i:=by simp at h1;omega
   have e:(decide ((i=9/\1<c)\/(0<i/\c=0)))=decide (c=0):=by
    apply decide_eq_decide.2;omega
   rwa[e]at hk
  ·have:¬0<i:=by simp at h1;omega
   have e:(decide ((i=9/\1<c)\/(0<i/\c=0)))=false:=by
    apply decide_eq_false;omega
   rwa[e]at hk
theorem K3{c v i:Nat}(hc:c<256)(hi:i<=9)(hv:v<2^(7*i))(h9:i=9->c<=1):
 Dn .u64 (v:Int) (sU .u64 (IntKind.wrap .u64 (nA .u8 (c:Int) 127)) (IntKind.wrap .i64 (7*(i:Int))))=((v+c%128*2^(7*i):Nat):Int)/\
 IntKind.wrap .u64 ((v:Int)+sU .u64 (IntKind.wrap .u64 ((c:Int).tmod 128)) (IntKind.wrap .u64 (IntKind.wrap .i64 (7*(i:Int)))))=((v+c%128*2^(7*i):Nat):Int)/\(i<=8->v+c%128*2^(7*i)<2^(7*(i+1))):=by
 have rL:c%128<2^7:=by omega
 have NH:i<=8->v+c%128*2^(7*i)<2^(7*(i+1)):=by
  intro _;rw[show 7*(i+1)=7+7*i by omega,Nat.pow_add];have:(c%128+1)*2^(7*i)<=2^7*2^(7*i):=Nat.mul_le_mul_right _ rL;rw[Nat.add_mul]at this;omega
 have Xm:v+c%128*2^(7*i)<2^64:=by
  rcases Nat.lt_or_ge i 9 with h|h
  ·have h1:=NH (by omega)
   have h2:2^(7*(i+1))<=2^63:=Nat.pow_le_pow_right (by decide) (by omega);omega
  ·have:i=9:=by omega
   subst this;have:=h9 rfl;have:c%128<=1:=by omega
   have:c%128*2^(7*9)<=1*2^(7*9):=Nat.mul_le_mul_right _ this;omega
 have hw:IntKind.wrap .i64 (7*(i:Int))=((7*i:Nat):Int):=by rw[wrap_i64 (by omega)];omega
 have NI:IntKind.wrap .u64 ((7*i:Nat):Int)=((7*i:Nat):Int):=by rw[bO];omega
 have ha:nA .u8 (c:Int) 127=((c%128:Nat):Int):=by
  have:=G0 (x:=c) (y:=127) hc (by decide);rw[G6]at this;exact this
 have ht:((c:Int).tmod 128)=((c%128:Nat):Int):=rfl;have hm:IntKind.wrap .u64 ((c%128:Nat):Int)=((c%128:Nat):Int):=by rw[bO];omega
 have hsh:=vm (x:=c%128) (y:=7*i) (by omega) (by omega);refine⟨?_,?_,NH⟩
 ·rw[ha,hm,hw,hsh,z8 (by omega) (by omega),sV hv]
 ·rw[ht,hm,hw,NI,hsh,bO]
  omega
theorem ff(c:UInt8)(l:LB)(v i:Nat):pJ (c::l) v i=if(i=9/\1<c.toNat)\/(0<i/\c.toNat=0)then(0,0,13)else if c.toNat<128 then(v+c.toNat*2^(7*i),i+1,0)else pJ l (v+c.toNat%128*2^(7*i)) (i+1):=rfl
theorem Ht{l:LB}{j:Nat}(hj:j<l.length):l.drop j=l[j]::l.drop (j+1):=List.drop_eq_getElem_cons hj
theorem By(l:LB):∀(v i n:Nat),i<=9->10<=i+n->pJ (l.take n) v i=pJ l v i:=by
 induction l with
 |nil=>intro v i n _ _;simp
 |
  cons c l ih=>
  intro v i n hi hn;cases n with
  |zero=>omega
  |
   succ n=>
   rw[List.take_succ_cons,ff,ff];split
   ·rfl
   ·split
    ·rfl
    ·have:=c.toNat_lt
     exact ih _ _ _ (by omega) (by omega)
theorem Xn(s:Sl)(l:LB)(w:World)(hs:BS w s l)(hc:s.len<=s.cap)(hl:l.length<=1000000000):
 Calls Pq 112 #[.slice s.a s.len s.cap] w (aC [.c (.int .u64),.c (.int .i64),.c (.int .i64)] λr w'=>r=(((dj l).1:Int),((dj l).2.1:Int),(dj l).2.2)/\w=w'):=by
 refine xX s _ _ ?_;unfold NJ;simp only[ag];have jZ:=hs.len;have K4:Bz (s.len:Int) 10=((min l.length 10:Nat):Int):=by unfold Bz;rw[jZ];split<;>omega
 rw[K4];refine lC (by omega) (by omega) ?_;simp only[jk,dU,ite_self];have hs':BS w ⟨s.a,min l.length 10,s.cap⟩ (l.take 10):=by
  have:=(MS.sub (o:=0) (n:=min l.length 10) (a:=s.a) (c:=s.cap) hs.ms (by omega) (.inl (by simp)) (λ_=>by cases s.a<;>simp)).bs;rwa[List.drop_zero,show l.take (min l.length 10)=l.take 10 by rw[Nat.min_comm,<-List.take_take,List.take_length]]at this
 have hn:dj l=dj (l.take 10):=(By l 0 0 10 (by omega) (by omega)).symm;have hml:(l.take 10).length=min l.length 10:=by rw[jr,Nat.min_comm]
 rw[hn];rw[<-hml]at hs'⊢;have Rp:(l.take 10).length<=10:=by rw[jr];omega
 generalize l.take 10=m at hs' Rp⊢;refine aB (λz W=>∃(j v:Nat),z.2=j/\j<=m.length/\z.1=v/\v<2^(7*j)/\dj m=pJ (m.drop j) v j/\w=W) (λz _=>m.length-z.2.toNat) ⟨0,0,rfl,by omega,rfl,by decide,rfl,rfl⟩ ?_;rintro⟨_,_⟩ W ⟨j,v,rfl,hj,rfl,hv,ht,rfl⟩;dsimp only;refine ah (λhlt=>?_) (λhge=>?_)
 ·simp only[jb]at hlt
  have hjl:j<m.length:=by omega
  refine⟨⟨by omega,by omega⟩,?_⟩;rw[jk];refine BS.at hs' hjl ?_;rw[Ht hjl,ff]at ht;have hb:=m[j].toNat_lt;refine aL (λb W=>b=decide ((j=9/\1<m[j].toNat)\/(0<j/\m[j].toNat=0))/\w=W) (Hs (c:=m[j].toNat) (i:=j) (R:=λb W=>b=decide ((j=9/\1<m[j].toNat)\/(0<j/\m[j].toNat=0))/\w=W) ⟨rfl,rfl⟩) ?_;rintro _ _ ⟨rfl,rfl⟩;refine ah (λh=>?_) (λh=>?_)
  ·rw[jd (ju h)]at ht
   rw[ht];exact⟨rfl,rfl⟩
  ·have hno:=jv h
   rw[jc hno]at ht;obtain⟨h2,_,h3⟩:=K3 (c:=m[j].toNat) (v:=v) (i:=j) (by omega) (by omega) hv (by omega);refine⟨by rw[wrap_i64 (by omega)];omega,?_⟩;rw[h2,ax (by omega)];refine ah (λh5=>?_) (λh5=>?_)
   ·have h6:m[j].toNat<128:=by simp at h5;omega
    rw[jd h6]at ht;rw[Nat.mod_eq_of_lt h6];exact⟨by rw[ht],rfl⟩
   ·have h6:¬m[j].toNat<128:=by simp at h5;omega
    rw[jc h6]at ht;exact⟨⟨j+1,_,rfl,by omega,rfl,h3 (by omega),ht,rfl⟩,by omega⟩
 ·simp only[ja]at hge
  rw[List.drop_of_length_le (by omega)]at ht;rw[ht];exact⟨rfl,rfl⟩
theorem XM(n:Int)(w:World)(h0:0<=n)(h1:n<=1000000000):Calls Pq 111 #[.slice none 0 0,.int .i64 n] w (aC [.c .slice] λr w'=>St aA w w' [aq 1 r []]):=by
 refine ye ⟨none,0,0⟩ n _ _ ?_;unfold NR;refine aL (λ_ w'=>w=w') (iK (by simpa using h0) rfl) ?_;rintro⟨⟩ _ rfl;have hw:IntKind.wrap .i64 (n-IntKind.wrap .i64 (((0:Nat):Int)-((0:Nat):Int)))=n:=by
  rw[show IntKind.wrap .i64 (((0:Nat):Int)-((0:Nat):Int))=0 from rfl,wrap_i64 (by omega)];omega
 rw[hw];refine ah (λh=>?_) (λh=>(St.bp w).fe 1);simp only[gt_iff_lt,jb]at h;refine lC (by decide) (by decide) ?_;simp only[jk,if_true];refine⟨h0,by omega,wrap_i64 (by omega),λhroom=>?_,λ_=>⟨[],λh=>by simp at h,rfl,?_,?_,?_⟩⟩
 ·have:0+n.toNat<=0:=hroom
  omega
 ·have:=nextslicecap_le (show 0<0+n.toNat by omega)
  show Builtin.nextslicecap (0+n.toNat) 0*1<=2^48;omega
 ·show 0+n.toNat<2^63
  omega
 intro cap Di rL;dsimp only at Di rL⊢;refine lC (by decide) (by dsimp only;omega) ?_;simp only[dU,ite_self];refine(St.bp w).HG ((Mod.refl _ w).drew.alloc _) ?_;generalize hL:([]++zc [.int .u8 0] n.toNat++zc [.int .u8 0] (cap-(0+n.toNat)):LV)=L;have XN:L.length=cap*1:=by rw[<-hL];simp only[List.nil_append,jh,gA,List.length_cons,List.length_nil];omega
 refine⟨by simp,by simp,.inr ⟨w.heap.size,0,L,rfl,Nat.le_refl _,by simp,λo _ _=>?_,?_,by simpa using XN⟩⟩
 ·exact World.frozen?_alloc_new w.drew _ _ o
 ·intro j v hj
  rw[jB,Nat.zero_add];have:=World.cell?_alloc_new w.drew L.toArray 5 j;rw[World.size_drew]at this;rw[this];simpa using hj
theorem XO(r:Nat)(s t:Sl)(l m:LB)(w:World)(hb:bY w r [slV s,slV t])(hs:BS w s l)(ht:BS w t m)(hl:l.length<=100000000)(hm:m.length<=100000000):
 Calls Pq 58 #[.slice (some ⟨r,0,none⟩) 2 2] w (aC [.c .slice] λq w'=>St aA w w' [aq 1 q ((l++m).map ub)]):=by
 refine BT ⟨some ⟨r,0,none⟩,2,2⟩ _ _ ?_;unfold VD;simp only[ag];have jZ:=hs.len;have kq:=ht.len;have ld:∀(W:World) (j:Nat) (k:Sl->Pr),Grow w W->j<2->k (if j=0 then s else t) W->au .slice (Addr.add ⟨r,0,none⟩ (Int.toNat (j:Int)*1)) k W:=by
  intro W j k g hj hk;rw[jk,Nat.mul_one];refine(hb.grow g).ld (s:=.slice) (p:=if j=0 then s else t) ?_ hk
  match j,hj with
  |0,_=>rfl
  |1,_=>rfl
 refine aB (λz W=>∃j:Nat,z.2=j/\j<=2/\z.1=((if j=0 then 0 else if j=1 then l.length else l.length+m.length:Nat):Int)/\w=W) (λz _=>2-z.2.toNat) ⟨0,rfl,by omega,rfl,rfl⟩ ?_;rintro⟨_,_⟩ W ⟨j,rfl,hj,rfl,rfl⟩;dsimp only;refine ah (λhlt=>?_) (λhge=>?_)
 ·simp only[jb]at hlt
  have hj2:j<2:=by omega
  refine aL (λn W=>n=((if j+1=1 then l.length else l.length+m.length:Nat):Int)/\w=W) ?_ ?_
  ·refine⟨⟨by omega,by omega⟩,ld w j _ (Mod.refl _ _) hj2 ?_⟩
   have:IntKind.wrap .i64 (((if j=0 then 0 else if j=1 then l.length else l.length+m.length:Nat):Int)+((if j=0 then s else t).len:Int))=((if j+1=1 then l.length else l.length+m.length:Nat):Int):=by
    match j,hj2 with
    |0,_=>simp[jZ];rw[wrap_i64 (by omega)]
    |1,_=>simp[kq];rw[wrap_i64 (by omega)]
   rw[this];refine iK (by simp only[ja];split<;>omega) ⟨rfl,rfl⟩
  ·rintro _ _ ⟨rfl,rfl⟩
   rw[ax (by omega)];refine⟨⟨j+1,rfl,by omega,?_,rfl⟩,by omega⟩;rw[jc (by omega:¬j+1=0)]
 ·simp only[ja]at hge
  have:j=2:=by omega
  subst this;refine ak (XM _ w (by simp;omega) (by simp;omega)) ?_;rintro q w1 s1;have Ry:∀j,j<=2->(if j=0 then[]else if j=1 then l else l++m).length<=200000000:=by
   intro j _;split
   ·simp
   ·split
    ·omega
    ·simp;omega
  refine aB (λz W=>∃j:Nat,z.2=j/\j<=2/\St aA w W [aq 1 z.1 ((if j=0 then[]else if j=1 then l else l++m).map ub)]) (λz _=>2-z.2.toNat) ⟨0,rfl,by omega,s1⟩ ?_;rintro⟨u,_⟩ W ⟨j,rfl,hj,s2⟩;dsimp only at s2⊢;refine ah (λhlt=>?_) (λhge=>?_)
  ·simp only[jb]at hlt
   have hj2:j<2:=by omega
   refine⟨⟨by omega,by omega⟩,ld W j _ s2.bh hj2 ?_⟩;have Ac:=aT s2.sl;rw[je]at Ac;have:=Ry j (by omega);have hx:BS W (if j=0 then s else t) (if j=0 then l else m):=by
    split
    ·exact hs.grow s2.bh
    ·exact ht.grow s2.bh
   have ko:=hx.len;have hle:(if j=0 then l else m).length<=100000000:=by split<;>omega
   refine s2.app (new:=(if j=0 then l else m).map ub) (λ_=>by rw[je];omega) hx.dm hx.row gx rfl (by decide) (by omega) λr2 w3 s3 _=>?_;rw[ax (by omega)];refine⟨⟨j+1,rfl,by omega,?_⟩,by omega⟩
   match j,hj2,s3 with
   |0,_,s3=>exact s3
   |
    1,_,s3=>
    simpa using s3
  ·simp only[ja]at hge
   have:j=2:=by omega
   subst this;exact s2
def pZ(l:LB):LB:=l++gi 4 (iT l)
theorem XL(s:Sl)(l:LB)(w:World)(hs:BS w s l)(hl:l.length<=100000000):Calls Pq 25 #[.slice s.a s.len s.cap] w (aC [.c .slice] λq w'=>St aA w w' [aq 1 q ((pZ l).map ub)]):=by
 refine BU s _ _ ?_;unfold VE;refine ak (Ve s l w hs (by omega)) ?_;rintro _ _ ⟨rfl,rfl⟩;have:=sX l;rw[bO,show(((iT l:Nat):Int)%18446744073709551616)=((iT l:Nat):Int) by omega];refine ak (Xj 4 (iT l) w (by decide) (by decide)) λt w1 s1=>?_;refine St.nw s1 λr w2 s2 g2 _=>?_;have Na:=hs.grow s2.bh;have Lk:=(s2.af 1).sl.bs;refine ak (XO r s t l (gi 4 (iT l)) w2 s2.box Na Lk hl (by simp)) λq w3 s3=>?_;exact St.jR (l:=[_]) (s2.aZ s3)
def mz(l:LB):Int:=if l.length<4 then 10 else if gi 4 (iT (l.take (l.length-4)))=l.drop (l.length-4)then 0 else 11
theorem XP(s:Sl)(l:LB)(w:World)(hs:BS w s l)(hc:s.len<=s.cap)(hl:l.length<=100000000):
 Calls Pq 28 #[.slice s.a s.len s.cap] w (aC [.c .slice,.c (.int .i64)] λr w'=>r.2=mz l/\Grow w w'):=by
 refine BV s _ _ ?_;unfold VF;have jZ:=hs.len;rw[wrap_i64 (by omega)];refine ah (λh=>?_) (λh=>?_)
 ·have:l.length<4:=by simp at h;omega
  exact⟨by unfold mz;rw[jd this],Mod.refl _ _⟩
 ·have h4:4<=l.length:=by simp at h;omega
  obtain⟨n,hn⟩:∃n,l.length=n+4:=⟨l.length-4,by omega⟩;have UZ:s.len=n+4:=by omega
  have e1:((s.len:Int)-4)=(n:Int):=by omega
  simp only[e1];have hY:=Xl s l n 4 w hs (by decide) (by decide) (by omega) (by omega);refine ak hY ?_;rintro⟨v,b⟩ _ ⟨hv,_,rfl⟩;dsimp only at hv⊢;refine lC (by omega) (by omega) ?_;simp only[jk,dU,ite_self];have hs':BS w ⟨s.a,n,s.cap⟩ (l.take (l.length-4)):=by
   have:=(MS.sub (o:=0) (n:=l.length-4) (a:=s.a) (c:=s.cap) hs.ms (by omega) (.inl (by simp)) (λ_=>by cases s.a<;>simp)).bs;rw[hn]at this⊢;simpa using this
  refine ak (Ve ⟨s.a,n,s.cap⟩ _ w hs' (by simp;omega)) ?_;rintro _ _ ⟨rfl,rfl⟩;have JX:(l.drop (l.length-4)).length=4:=by simp;omega
  have q9:(l.drop (l.length-4)).take 4=l.drop (l.length-4):=List.take_of_length_le (by omega);rw[show n=l.length-4 by omega,q9]at hv;have hlt:=xW (l.drop (l.length-4));rw[JX]at hlt;have hslt:=sX (l.take (l.length-4));have XQ:IntKind.wrap .u32 v=((pI (l.drop (l.length-4)):Nat):Int):=by rw[hv,gv];omega
  rw[XQ];have key:gi 4 (iT (l.take (l.length-4)))=l.drop (l.length-4)↔pI (l.drop (l.length-4))=iT (l.take (l.length-4)):=by
   constructor
   ·intro h
    rw[<-h,vu,Nat.mod_eq_of_lt hslt]
   ·intro h
    refine Hr (by rw[JX,pH]) ?_;rw[vu,h,Nat.mod_eq_of_lt hslt]
  refine ah (λhne=>?_) (λheq=>?_)
  ·refine⟨?_,Mod.refl _ _⟩
   unfold mz;rw[jc (by omega),jc];rw[key];intro h;rw[h]at hne;simp at hne
  ·refine lC (by omega) (by omega) ?_
   simp only[jk,dU,ite_self];refine ak (Qo ⟨s.a,n,s.cap⟩ _ w hs' (by simp;omega)) λq w1 s1=>⟨?_,s1.bh⟩;unfold mz;rw[jc (by omega),jd];rw[key];simp at heq;omega
structure GN where
 k:Int
 p:List Int
 d:LB
deriving DecidableEq
abbrev RM:=LB×Int
structure GG where
 n:List GN
 r:List RM
deriving DecidableEq
def b8(k np nd:Int):Bool:=decide (1<=k)&&decide (k<=3)&&decide (0<=np)&&decide (np<=126)&&decide (0<=nd)&&decide (nd<=1008)&& !(decide (k=3)&&decide (np<1))
def e9(l:LB):Bool:=decide (1<=l.length)&&decide (l.length<=16)&&l.all λb=>decide (33<=b.toNat)&&decide (b.toNat<=126)
def kr(many:Nat)(p:Int):Bool:=decide (-1<=p)&&decide (p<many)
def ec(many:Nat)(n:GN):Bool:=b8 n.k n.p.length n.d.length&&n.p.all (kr many)
def fQ(rs:List RM)(many i:Nat):Bool:=
 match rs[i]?with
 |none=>true
 |some r=>e9 r.1&&(decide (i=0)||Op.bytesLess ((rs[i-1]?.map (·.1)).getD []) r.1)&&decide (0<=r.2)&&decide (r.2<many)
def e7(g:GG):Bool:=decide (g.n.length<=8192)&&decide (g.r.length<=512)&&g.n.all (ec g.n.length)&&(List.range g.r.length).all (fQ g.r g.n.length)
def ei(g:GG):Int:=if e7 g then 0 else 180
structure NS where
 k:Int
 ps:Sl
 p:List Int
 ds:Sl
 d:LB
def NS.m(x:NS):GN:=⟨x.k,x.p,x.d⟩
abbrev aj(x:NS):LV:=[.int .i64 x.k,slV x.ps,slV x.ds]
@[simp]theorem b7(x:NS):(aj x).length=3:=rfl
abbrev ay(r:RM):LV:=[.string (bytesOf r.1),.int .i64 r.2]
@[simp]theorem bT(r:RM):(ay r).length=2:=rfl
theorem Nm(l:List NS):∀v∈l.flatMap aj,aK v:=by
 intro v hv;obtain⟨r,_,hr⟩:=List.mem_flatMap.1 hv;simp only[aj,List.mem_cons,List.not_mem_nil,or_false]at hr;rcases hr with rfl|rfl|rfl<;>trivial
theorem Dr(l:List RM):∀v∈l.flatMap ay,aK v:=by
 intro v hv;obtain⟨r,_,hr⟩:=List.mem_flatMap.1 hv;simp only[ay,List.mem_cons,List.not_mem_nil,or_false]at hr;rcases hr with rfl|rfl<;>trivial
structure GS where
 gn:Sl
 gr:Sl
 xs:List NS
 rs:List RM
def GS.m(g:GS):GG:=⟨g.xs.map NS.m,g.rs⟩
abbrev GS.v(g:GS):Value:=.agg #[slV g.gn,slV g.gr]
structure GS.small(g:GS):Prop where
 nl:g.xs.length<=20000
 rl:g.rs.length<=20000
 pl:∀x∈g.xs,x.p.length<=20000
 dl:∀x∈g.xs,x.d.length<=20000
 sl:∀r∈g.rs,r.1.length<=20000
structure RG(w:World)(F:Nat->Prop)(g:GS):Prop where
 ns:SS aj w g.gn g.xs
 rs:SS ay w g.gr g.rs
 ip:∀x∈g.xs,IS w x.ps x.p
 bd:∀x∈g.xs,BS w x.ds x.d
 Qf:g.xs≠[]->∀b,g.gn.lq b->¬F b
 Qg:g.rs≠[]->∀b,g.gr.lq b->¬F b
 M3:∀x∈g.xs,x.p≠[]->∀b,x.ps.lq b->¬F b
 Lb:∀x∈g.xs,x.d≠[]->∀b,x.ds.lq b->¬F b
 sm:g.small
theorem SS.mod'{α:Type}{f:α->LV}{S:Nat->Prop}{w w':World}{s:Sl}{rs:List α}(h:SS f w s rs)(hm:Mod S w w')(hs:rs≠[]->∀b,s.lq b->¬S b):SS f w' s rs:=
 ⟨h.len,h.row.mod hm λad ha hl=>hs (λh0=>by subst h0;simp at hl) _ ⟨ad,ha,rfl⟩⟩
theorem z6{w:World}{s:Sl}{vs:LV}(h:bn w s.a vs)(hl:vs≠[]){b:Nat}(hb:s.lq b):b<w.heap.size:=by
 obtain⟨ad,ha,rfl⟩:=hb;rw[ha]at h;exact bn.lt h hl
section
variable{F0 F:Nat->Prop}{w0 w w':World}{g:GS}{L:List HA}
theorem RG.mod(h:RG w F g)(hm:Mod F w w'):RG w' F g where
 ns:=SS.mod' h.ns hm h.Qf
 rs:=SS.mod' h.rs hm h.Qg
 ip x hx:=(h.ip x hx).mod hm λad ha hl=>h.M3 x hx hl _ ⟨ad,ha,rfl⟩
 bd x hx:=(h.bd x hx).mod hm λad ha hl=>h.Lb x hx hl _ ⟨ad,ha,rfl⟩
 Qf:=h.Qf
 Qg:=h.Qg
 M3:=h.M3
 Lb:=h.Lb
 sm:=h.sm
theorem RG.at(h:RG w0 F0 g)(hs:St F0 w0 w L):RG w F0 g:=h.mod hs.1
theorem RG.grow(h:RG w F g)(hm:Grow w w'):RG w' F g:=by
 have h1:RG w aA g:=⟨h.ns,h.rs,h.ip,h.bd,λ_ _ _ h=>h,λ_ _ _ h=>h,λ_ _ _ _ _ h=>h,λ_ _ _ _ _ h=>h,h.sm⟩;have h2:=h1.mod hm;exact⟨h2.ns,h2.rs,h2.ip,h2.bd,h.Qf,h.Qg,h.M3,h.Lb,h.sm⟩
theorem RG.go(h:RG w0 F0 g)(hs:St F0 w0 w L)(hF:∀b,F b->F0 b\/w0.heap.size<=b):RG w F g:=by
 have h2:=h.at hs;have key:∀{s:Sl} {vs:LV},bn w0 s.a vs->vs≠[]->(∀b,s.lq b->¬F0 b)->∀b,s.lq b->¬F b:=by
  intro s vs hr hl hn b hb UB;rcases hF b UB with h1|h1
  ·exact hn b hb h1
  ·have:=z6 hr hl hb;omega
 refine⟨h2.ns,h2.rs,h2.ip,h2.bd,λhne=>key h.ns.row ?_ (h.Qf hne),λhne=>key h.rs.row ?_ (h.Qg hne),λx hx hne=>key (h.ip x hx).row ?_ (h.M3 x hx hne),λx hx hne=>key (h.bd x hx).row ?_ (h.Lb x hx hne),h.sm⟩
 ·intro h0
  have:=congrArg List.length h0;rw[c9 b7]at this;simp only[List.length_nil]at this;exact hne (jx (by omega))
 ·intro h0
  have:=congrArg List.length h0;rw[c9 bT]at this;simp only[List.length_nil]at this;exact hne (jx (by omega))
 ·simpa using hne
 ·simpa using hne
theorem RG.node(h:RG w F g){i:Nat}{x:NS}{k:Int×Sl×Sl->Pr}(hi:g.xs[i]? =some x)(hk:k (x.k,x.ps,x.ds) w):(deref g.gn.a λa=>aQ [.int .i64,.slice,.slice] (a.add (i*3)) k) w:=by
 obtain⟨ad,ha,hr⟩:=h.ns.get (n:=3) b7 hi (by decide);rw[ha,ag];exact nC (p:=(x.k,x.ps,x.ds)) (show cc w _ 0 (j0 [.int .i64,.slice,.slice] (x.k,x.ps,x.ds))from aF.2 hr) hk
theorem RG.root(h:RG w F g){i:Nat}{x:RM}{k:ByteArray×Int->Pr}(hi:g.rs[i]? =some x)(hk:k (bytesOf x.1,x.2) w):(deref g.gr.a λa=>aQ [.str,.int .i64] (a.add (i*2)) k) w:=by
 obtain⟨ad,ha,hr⟩:=h.rs.get (n:=2) bT hi (by decide);rw[ha,ag];exact nC (p:=(bytesOf x.1,x.2)) (show cc w _ 0 (j0 [.str,.int .i64] (bytesOf x.1,x.2))from aF.2 hr) hk
theorem RG.od(h:RG w F g){i j:Nat}{x:NS}{c:CS}{p:dw c}{k:dw c->Pr}(hi:g.xs[i]? =some x)(hj:(aj x)[j]? =some (bC c p))(hk:k p w):(deref g.gn.a λa=>au c ((a.add (i*3)).add j) k) w:=by
 obtain⟨ad,ha,hr⟩:=h.ns.get (n:=3) b7 hi (by decide);rw[ha,ag];exact dD (hr.get hj) hk
theorem RG.oc(h:RG w F g){i j:Nat}{x:RM}{c:CS}{p:dw c}{k:dw c->Pr}(hi:g.rs[i]? =some x)(hj:(ay x)[j]? =some (bC c p))(hk:k p w):(deref g.gr.a λa=>au c ((a.add (i*2)).add j) k) w:=by
 obtain⟨ad,ha,hr⟩:=h.rs.get (n:=2) bT hi (by decide);rw[ha,ag];exact dD (hr.get hj) hk
theorem RG.nl(h:RG w F g):g.gn.len=g.xs.length:=h.ns.len
theorem RG.rl(h:RG w F g):g.gr.len=g.rs.length:=h.rs.len
end
def aG(x:NS):HA:=aN [aq 1 x.ps (x.p.map iv),aq 1 x.ds (x.d.map ub)]
def dG(g:GS):HA:=aN [aq 3 g.gn (g.xs.flatMap aj),aN (g.xs.map aG),aq 2 g.gr (g.rs.flatMap ay)]
theorem Has.mem:∀{l:List HA} {w:World} {F:Nat->Prop} {A:HA},Has l w F->A∈l->∃G,A.is w G/\∀b,G b->F b
 |[],_,_,_,_,h=>by cases h
 |
  B::l,w,F,A,⟨G,H,h1,h2,_,h4⟩,h=>by
  rcases List.mem_cons.1 h with rfl|h
  ·exact⟨G,h1,λb hb=>(h4 b).2 (.inl hb)⟩
  ·obtain⟨G',k1,k2⟩:=Has.mem h2 h
   exact⟨G',k1,λb hb=>(h4 b).2 (.inr (k2 b hb))⟩
theorem dG.rg{w:World}{F F2:Nat->Prop}{g:GS}(h:(dG g).is w F)(hs:g.small)(hd:∀b,F b->¬F2 b):RG w F2 g:=by
 have h:Has [aq 3 g.gn (g.xs.flatMap aj),aN (g.xs.map aG),aq 2 g.gr (g.rs.flatMap ay)] w F:=h;obtain⟨G1,⟨o1,m1⟩,k1⟩:=Has.mem h (A:=aq 3 g.gn (g.xs.flatMap aj)) (by simp);obtain⟨G2,o2,k2⟩:=Has.mem h (A:=aN (g.xs.map aG)) (by simp);obtain⟨G3,⟨o3,m3⟩,k3⟩:=Has.mem h (A:=aq 2 g.gr (g.rs.flatMap ay)) (by simp);have o2:Has (g.xs.map aG) w G2:=o2;have nd:∀x∈g.xs,∃G4 G5,(aq 1 x.ps (x.p.map iv)).is w G4/\(aq 1 x.ds (x.d.map ub)).is w G5/\(∀b,G4 b->F b)/\∀b,G5 b->F b:=by
  intro x hx;obtain⟨G,hG,kG⟩:=Has.mem o2 (kg.2 ⟨x,hx,rfl⟩:aG x∈g.xs.map aG);have hG:Has [aq 1 x.ps (x.p.map iv),aq 1 x.ds (x.d.map ub)] w G:=hG;obtain⟨G4,a4,b4⟩:=Has.mem hG (A:=aq 1 x.ps (x.p.map iv)) (by simp);obtain⟨G5,a5,b5⟩:=Has.mem hG (A:=aq 1 x.ds (x.d.map ub)) (by simp);exact⟨G4,G5,a4,a5,λb hb=>k2 b (kG b (b4 b hb)),λb hb=>k2 b (kG b (b5 b hb))⟩
 refine⟨bz.ss b7 (by decide) o1,bz.ss bT (by decide) o3,λx hx=>?_,λx hx=>?_,λ_ b hb=>hd b (k1 b ((m1 b).2 hb)),λ_ b hb=>hd b (k3 b ((m3 b).2 hb)),λx hx _ b hb=>?_,λx hx _ b hb=>?_,hs⟩
 ·obtain⟨G4,G5,a4,a5,_,_⟩:=nd x hx
  exact a4.1.ms
 ·obtain⟨G4,G5,a4,a5,_,_⟩:=nd x hx
  exact a5.1.bs
 ·obtain⟨G4,G5,a4,a5,b4,_⟩:=nd x hx
  exact hd b (b4 b ((a4.2 b).2 hb))
 ·obtain⟨G4,G5,a4,a5,_,b5⟩:=nd x hx
  exact hd b (b5 b ((a5.2 b).2 hb))
set_option maxRecDepth 100000
def ON:An:=(.sq .z (.sq (.sq (.jn [(40,.c .bool)] .z) (.br (.sq .z .z) .z)) (.sq .z .z)))
def NY(aD:Int)(az:Int)(bL:Int)(Q:Int->Pr):Pr:=
 nw (.cells #[(.int .i64 aD),(.int .i64 az),(.int .i64 bL)] 160) λr=>
 jn (S:=Bool) (λR=>
 deref (some ⟨r,0,none⟩) λa=>
 deref (some (a.add 0)) λa_1=>
 au (.int .i64) a_1 λ(t4:Int)=>
 br (decide (t4<1)) (
 R true) (
 deref (some ⟨r,0,none⟩) λa_2=>
 deref (some (a_2.add 0)) λbX=>
 au (.int .i64) bX λ(t8:Int)=>
 br (decide (t8>3)) (
 R true) (
 deref (some ⟨r,0,none⟩) λc6=>
 deref (some (c6.add 1)) λc7=>
 au (.int .i64) c7 λ(t13:Int)=>
 br (decide (t13<0)) (
 R true) (
 deref (some ⟨r,0,none⟩) λcV=>
 deref (some (cV.add 1)) λdy=>
 au (.int .i64) dy λ(t18:Int)=>
 br (decide (t18>126)) (
 R true) (
 deref (some ⟨r,0,none⟩) λdO=>
 deref (some (dO.add 2)) λdP=>
 au (.int .i64) dP λ(t23:Int)=>
 br (decide (t23<0)) (
 R true) (
 deref (some ⟨r,0,none⟩) λbu=>
 deref (some (bu.add 2)) λbF=>
 au (.int .i64) bF λ(t28:Int)=>
 br (decide (t28>1008)) (
 R true) (
 deref (some ⟨r,0,none⟩) λbw=>
 deref (some (bw.add 0)) λbJ=>
 au (.int .i64) bJ λ(t33:Int)=>
 br (t33==3) (
 deref (some ⟨r,0,none⟩) λbW=>
 deref (some (bW.add 1)) λbS=>
 au (.int .i64) bS λ(t37:Int)=>
 R ((decide (t37<1)))) (
 R false)))))))) λs=>
 br s (
 Q 110) (
 Q 0)
theorem yh(aD:Int)(az:Int)(bL:Int)(Q:Int->Pr)(w:World)(h:NY aD az bL Q w):Calls Pq 220 #[(.agg #[(.int .i64 aD),(.int .i64 az),(.int .i64 bL)])] w (aC [.c (.int .i64)] Q):=cF (an:=ON) Tryz.func220 (by kernel_rfl) h
def OO:An:=(.sq .z (.sq (.sq .z (.bl (.sq (.jn [] (.bl (.sq (.bl (.sq (.sq (.sq .z (.br .z .z)) (.sq (.jn [(7,.c .bool)] (.sq .z (.br .z .z))) (.br .z .z))) .z)) (.sq .z (.br (.sq .z .z) .z))))) (.sq (.sq (.jn [(30,.c .bool)] .z) (.br (.sq .z .z) .z)) .z)))) (.sq .z .z)))
def NZ(aD:Int)(az:Int)(bL:Int)(Q:Int->Pr):Pr:=
 nw (.cells #[(.int .i64 aD),(.int .i64 az),(.int .i64 bL)] 160) λr=>
 deref (some ⟨r,0,none⟩) λa=>
 deref (some (a.add 0)) λa_1=>
 au (.int .i64) a_1 λ(t4:Int)=>
 jn (S:=Unit) (λR=>
 br (t4==3) (
 deref (some ⟨r,0,none⟩) λa_2=>
 deref (some (a_2.add 1)) λbX=>
 au (.int .i64) bX λ(t11:Int)=>
 br (t11==0) (
 Q 110) (
 R ())) (
 jn (S:=Bool) (λbG=>
 br (t4==1) (
 bG ((t4==1))) (
 bG ((t4==2)))) λs_1=>
 br s_1 (
 R ()) (
 Q 110))) λs=>
 jn (S:=Bool) (λjN=>
 deref (some ⟨r,0,none⟩) λc6=>
 deref (some (c6.add 1)) λc7=>
 au (.int .i64) c7 λ(t14:Int)=>
 br (decide (t14>=0)) (
 deref (some ⟨r,0,none⟩) λcV=>
 deref (some (cV.add 1)) λdy=>
 au (.int .i64) dy λ(t18:Int)=>
 br (decide (t18<=126)) (
 deref (some ⟨r,0,none⟩) λdO=>
 deref (some (dO.add 2)) λdP=>
 au (.int .i64) dP λ(t23:Int)=>
 br (decide (t23>=0)) (
 deref (some ⟨r,0,none⟩) λbu=>
 deref (some (bu.add 2)) λbF=>
 au (.int .i64) bF λ(t28:Int)=>
 jN ((decide (t28<=1008)))) (
 jN false)) (
 jN false)) (
 jN false)) λs_2=>
 br s_2 (
 Q 0) (
 Q 110)
theorem yj(aD:Int)(az:Int)(bL:Int)(Q:Int->Pr)(w:World)(h:NZ aD az bL Q w):Calls Pq 192 #[(.agg #[(.int .i64 aD),(.int .i64 az),(.int .i64 bL)])] w (aC [.c (.int .i64)] Q):=cF (an:=OO) Tryz.func192 (by kernel_rfl) h
def OP:An:=(.sq .z (.sq (.sq (.jn [(11,.c .bool)] .z) (.br (.sq .z .z) .z)) (.sq (.sq .z (.bl (.lp [(3,.c (.int .i64))] (.sq (.sq .z (.br .z .z)) (.sq (.bl (.sq (.jn [(27,.c .bool)] .z) (.br (.sq .z .z) .z))) .z))))) (.sq .z .z))))
def N0(p0:ByteArray)(Q:Int->Pr):Pr:=
 jn (S:=Bool) (λR=>
 br (decide ((p0.size:Int)<1)) (
 R true) (
 R ((decide ((p0.size:Int)>16))))) λs=>
 br s (
 Q 161) (
 aM (S:=Int) (λX s_1=>
 br (decide (s_1<(p0.size:Int))) (
 jn (S:=Bool) (λbG=>
 aP ((0:Int)<=s_1/\s_1<(p0.size:Int))<|
 br (decide ((((p0[Int.toNat s_1]?).getD 0).toNat:Int)<33)) (
 bG true) (
 aP ((0:Int)<=s_1/\s_1<(p0.size:Int))<|
 bG ((decide ((((p0[Int.toNat s_1]?).getD 0).toNat:Int)>126))))) λs_2=>
 br s_2 (
 Q 161) (
 X ((IntKind.wrap .i64 (s_1+1))))) (
 Q 0)) 0)
theorem yl(p0:ByteArray)(Q:Int->Pr)(w:World)(h:N0 p0 Q w):Calls Pq 165 #[(.string p0)] w (aC [.c (.int .i64)] Q):=cF (an:=OP) Tryz.func165 (by kernel_rfl) h
def OQ:An:=(.sq .z (.sq .z .z))
def N1(p0:Int)(Q:Bool->Pr):Pr:=
 br (decide (p0<33)) (
 Q true) (
 Q ((decide (p0>126))))
theorem ym(p0:Int)(Q:Bool->Pr)(w:World)(h:N1 p0 Q w):Calls Pq 149 #[(.int .i32 p0)] w (aC [.c .bool] Q):=cF (an:=OQ) Tryz.func149 (by kernel_rfl) h
def OR:An:=(.sq .z (.sq (.sq .z (.bl (.lp [] (.sq .z (.sq (.br .z .z) (.bl (.sq .z (.sq .z (.br (.sq .z .z) .z))))))))) (.sq .z .z)))
def N4(p0:ByteArray)(p1:Value)(p2:Bool)(Q:Int->Pr):Pr:=
 tE p0 λit=>
 aM (S:=Unit) (λX s=>
 deref (some ⟨it,0,none⟩) λa=>
 Fj a (
 Q (-1)) λ(i c:Nat)=>
 cE Pq p1 [(.int .i32 (c:Int))] [.c .bool] λ(t17:Bool)=>
 aP True<|
 br (t17==p2) (
 Q ((i:Int))) (
 X ())) ()
theorem yD(p0:ByteArray)(p1:Value)(p2:Bool)(Q:Int->Pr)(w:World)(h:N4 p0 p1 p2 Q w):Calls Pq 253 #[(.string p0),p1,(.bool p2)] w (aC [.c (.int .i64)] Q):=cF (an:=OR) Tryz.func253 (by kernel_rfl) h
def OS:An:=(.sq .z (.sq .z .z))
def N5(p0:ByteArray)(p1:Value)(Q:Int->Pr):Pr:=
 aH Pq 253 [(.string p0),p1,(.bool true)] [.c (.int .i64)] λ(t7:Int)=>
 Q t7
theorem yE(p0:ByteArray)(p1:Value)(Q:Int->Pr)(w:World)(h:N5 p0 p1 Q w):Calls Pq 208 #[(.string p0),p1] w (aC [.c (.int .i64)] Q):=cF (an:=OS) Tryz.func208 (by kernel_rfl) h
def OT:An:=(.sq .z (.sq .z .z))
def N6(p0:ByteArray)(p1:Value)(Q:Bool->Pr):Pr:=
 aH Pq 208 [(.string p0),p1] [.c (.int .i64)] λ(t7:Int)=>
 Q ((decide (t7>=0)))
theorem yF(p0:ByteArray)(p1:Value)(Q:Bool->Pr)(w:World)(h:N6 p0 p1 Q w):Calls Pq 148 #[(.string p0),p1] w (aC [.c .bool] Q):=cF (an:=OT) Tryz.func148 (by kernel_rfl) h
def SX:An:=(.sq .z (.sq (.sq (.jn [(14,.c .bool)] .z) (.br (.sq .z .z) .z)) (.sq .z .z)))
def VZ(p0:ByteArray)(Q:Int->Pr):Pr:=
 jn (S:=Bool) (λR=>
 br (decide ((p0.size:Int)<1)) (
 R true) (
 br (decide ((p0.size:Int)>16)) (
 R true) (
 cB 148 [(.string p0),(.func (.func 149) #[] #[])] λt13=>
 R t13))) λs=>
 br s (
 Q 161) (
 Q 0)
theorem Cl(p0:ByteArray)(Q:Int->Pr)(w:World)(h:VZ p0 Q w):Calls Pq 98 #[(.string p0)] w (aC [.c (.int .i64)] Q):=cF (an:=SX) Tryz.func98 (by kernel_rfl) h
def OU:An:=(.sq .z (.sq .z .z))
def N7(p0:Int)(p1:OA)(Q:Bool->Pr):Pr:=
 br (decide (p0<(-1))) (
 Q true) (
 deref p1 λa=>
 au (.int .i64) a λ(t8:Int)=>
 Q ((decide (p0>=t8))))
theorem yG(p0:Int)(p1:OA)(Q:Bool->Pr)(w:World)(h:N7 p0 p1 Q w):Calls Pq 193 #[(.int .i64 p0),(.pointer p1)] w (aC [.c .bool] Q):=cF (an:=OU) Tryz.func193 (by kernel_rfl) h
def SY:An:=(.sq .z (.sq (.sq .z (.bl (.lp [(8,.c (.int .i64))] (.sq .z (.sq (.br .z .z) (.sq (.bl (.sq .z (.sq .z (.br (.sq .z .z) .z)))) .z)))))) (.sq .z .z)))
def V0(p0:Sl)(p1:Value)(Q:Int->Pr):Pr:=
 aM (S:=Int) (λX s=>
 br (decide (s<(p0.len:Int))) (
 aP ((0:Int)<=s/\s<(p0.len:Int))<|
 deref p0.a λa=>
 deref (some (a.add (Int.toNat s*1))) λa_1=>
 au (.int .i64) a_1 λ(t15:Int)=>
 cE Pq p1 [(.int .i64 t15)] [.c .bool] λ(t16:Bool)=>
 br t16 (
 Q s) (
 X ((IntKind.wrap .i64 (s+1))))) (
 Q (-1))) 0
theorem Cm(p0:Sl)(p1:Value)(Q:Int->Pr)(w:World)(h:V0 p0 p1 Q w):Calls Pq 95 #[(slV p0),p1] w (aC [.c (.int .i64)] Q):=cF (an:=SY) Tryz.func95 (by kernel_rfl) h
def SZ:An:=(.sq .z (.sq .z .z))
def V1(p0:Sl)(p1:Value)(Q:Bool->Pr):Pr:=
 aH Pq 95 [(.slice p0.a p0.len p0.cap),p1] [.c (.int .i64)] λ(t7:Int)=>
 Q ((decide (t7>=0)))
theorem Cn(p0:Sl)(p1:Value)(Q:Bool->Pr)(w:World)(h:V1 p0 p1 Q w):Calls Pq 47 #[(slV p0),p1] w (aC [.c .bool] Q):=cF (an:=SZ) Tryz.func47 (by kernel_rfl) h
def OV:An:=(.sq .z (.sq (.sq .z (.br (.sq .z .z) .z)) (.sq .z .z)))
def N8(aD:Int)(az:Sl)(bL:Sl)(p1:Int)(Q:Bool->Pr):Pr:=
 nw (.cells #[(.int .i64 aD),(.slice az.a az.len az.cap),(.slice bL.a bL.len bL.cap)] 62) λr=>
 aP (aK (.int .i64 p1))<|nw (.cells #[(.int .i64 p1)] 3) λr_1=>
 deref (some ⟨r,0,none⟩) λa=>
 deref (some (a.add 0)) λa_1=>
 au (.int .i64) a_1 λ(t6:Int)=>
 deref (some ⟨r,0,none⟩) λa_2=>
 deref (some (a_2.add 1)) λbX=>
 au .slice bX λ(t8:Sl)=>
 deref (some ⟨r,0,none⟩) λc6=>
 deref (some (c6.add 2)) λc7=>
 au .slice c7 λ(t11:Sl)=>
 aH Pq 192 [(.agg #[(.int .i64 t6),(.int .i64 (t8.len:Int)),(.int .i64 (t11.len:Int))])] [.c (.int .i64)] λ(t14:Int)=>
 br (t14 !=0) (
 Q false) (
 deref (some ⟨r,0,none⟩) λcV=>
 deref (some (cV.add 1)) λdy=>
 au .slice dy λ(t17:Sl)=>
 cB 47 [(.slice t17.a t17.len t17.cap),(.func (.func 193) #[] #[(.pointer (some ⟨r_1,0,none⟩))])] λt19=>
 Q (!t19))
theorem yH(aD:Int)(az:Sl)(bL:Sl)(p1:Int)(Q:Bool->Pr)(w:World)(h:N8 aD az bL p1 Q w):Calls Pq 135 #[(.agg #[(.int .i64 aD),(slV az),(slV bL)]),(.int .i64 p1)] w (aC [.c .bool] Q):=cF (an:=OV) Tryz.func135 (by kernel_rfl) h
def OW:An:=(.sq .z (.sq (.sq .z (.bl (.lp [(5,.c (.int .i64))] (.sq (.sq .z (.br .z .z)) (.sq (.bl (.sq (.jn [(27,.c .bool)] .z) (.br (.sq .z .z) .z))) .z))))) (.sq .z .z)))
def N9(aD:Int)(az:Sl)(bL:Sl)(p1:Int)(Q:Bool->Pr):Pr:=
 nw (.cells #[(.int .i64 aD),(.slice az.a az.len az.cap),(.slice bL.a bL.len bL.cap)] 62) λr=>
 aM (S:=Int) (λX s=>
 deref (some ⟨r,0,none⟩) λa=>
 deref (some (a.add 1)) λa_1=>
 au .slice a_1 λ(t8:Sl)=>
 br (decide (s<(t8.len:Int))) (
 jn (S:=Bool) (λR=>
 deref (some ⟨r,0,none⟩) λa_2=>
 deref (some (a_2.add 1)) λbX=>
 au .slice bX λ(t14:Sl)=>
 aP ((0:Int)<=s/\s<(t14.len:Int))<|
 deref t14.a λc6=>
 deref (some (c6.add (Int.toNat s*1))) λc7=>
 au (.int .i64) c7 λ(t17:Int)=>
 br (decide (t17<(-1))) (
 R true) (
 deref (some ⟨r,0,none⟩) λcV=>
 deref (some (cV.add 1)) λdy=>
 au .slice dy λ(t21:Sl)=>
 aP ((0:Int)<=s/\s<(t21.len:Int))<|
 deref t21.a λdO=>
 deref (some (dO.add (Int.toNat s*1))) λdP=>
 au (.int .i64) dP λ(t24:Int)=>
 R ((decide (t24>=p1))))) λs_1=>
 br s_1 (
 Q false) (
 X ((IntKind.wrap .i64 (s+1))))) (
 deref (some ⟨r,0,none⟩) λbu=>
 deref (some (bu.add 0)) λbF=>
 au (.int .i64) bF λ(t29:Int)=>
 deref (some ⟨r,0,none⟩) λbw=>
 deref (some (bw.add 1)) λbJ=>
 au .slice bJ λ(t31:Sl)=>
 deref (some ⟨r,0,none⟩) λbW=>
 deref (some (bW.add 2)) λbS=>
 au .slice bS λ(t34:Sl)=>
 aH Pq 220 [(.agg #[(.int .i64 t29),(.int .i64 (t31.len:Int)),(.int .i64 (t34.len:Int))])] [.c (.int .i64)] λ(t37:Int)=>
 Q ((t37==0)))) 0
theorem yI(aD:Int)(az:Sl)(bL:Sl)(p1:Int)(Q:Bool->Pr)(w:World)(h:N9 aD az bL p1 Q w):Calls Pq 164 #[(.agg #[(.int .i64 aD),(slV az),(slV bL)]),(.int .i64 p1)] w (aC [.c .bool] Q):=cF (an:=OW) Tryz.func164 (by kernel_rfl) h
def OX:An:=(.sq .z (.sq .z .z))
def Oa(aD:Int)(az:Sl)(bL:Sl)(p1:OA)(Q:Bool->Pr):Pr:=
 nw (.cells #[(.int .i64 aD),(.slice az.a az.len az.cap),(.slice bL.a bL.len bL.cap)] 62) λr=>
 deref (some ⟨r,0,none⟩) λa=>
 aQ [(.int .i64),.slice,.slice] a λ(t4:Int×Sl×Sl)=>
 deref p1 λa_1=>
 au (.int .i64) a_1 λ(t5:Int)=>
 cB 135 [(.agg #[(.int .i64 t4.1),(.slice t4.2.1.a t4.2.1.len t4.2.1.cap),(.slice t4.2.2.a t4.2.2.len t4.2.2.cap)]),(.int .i64 t5)] λt6=>
 Q (!t6)
theorem yJ(aD:Int)(az:Sl)(bL:Sl)(p1:OA)(Q:Bool->Pr)(w:World)(h:Oa aD az bL p1 Q w):Calls Pq 134 #[(.agg #[(.int .i64 aD),(slV az),(slV bL)]),(.pointer p1)] w (aC [.c .bool] Q):=cF (an:=OX) Tryz.func134 (by kernel_rfl) h
def OY:An:=(.sq .z (.sq (.sq .z (.bl (.lp [(8,.c (.int .i64))] (.sq .z (.sq (.br .z .z) (.sq (.bl (.sq .z (.sq .z (.br (.sq .z .z) .z)))) .z)))))) (.sq .z .z)))
def Ob(p0:Sl)(p1:Value)(Q:Int->Pr):Pr:=
 aM (S:=Int) (λX s=>
 br (decide (s<(p0.len:Int))) (
 aP ((0:Int)<=s/\s<(p0.len:Int))<|
 deref p0.a λa=>
 deref (some (a.add (Int.toNat s*3))) λa_1=>
 aQ [(.int .i64),.slice,.slice] a_1 λ(t15:Int×Sl×Sl)=>
 cE Pq p1 [(.agg #[(.int .i64 t15.1),(.slice t15.2.1.a t15.2.1.len t15.2.1.cap),(.slice t15.2.2.a t15.2.2.len t15.2.2.cap)])] [.c .bool] λ(t16:Bool)=>
 br t16 (
 Q s) (
 X ((IntKind.wrap .i64 (s+1))))) (
 Q (-1))) 0
theorem yK(p0:Sl)(p1:Value)(Q:Int->Pr)(w:World)(h:Ob p0 p1 Q w):Calls Pq 191 #[(slV p0),p1] w (aC [.c (.int .i64)] Q):=cF (an:=OY) Tryz.func191 (by kernel_rfl) h
def OZ:An:=(.sq .z (.sq .z .z))
def Oc(p0:Sl)(p1:Value)(Q:Bool->Pr):Pr:=
 aH Pq 191 [(.slice p0.a p0.len p0.cap),p1] [.c (.int .i64)] λ(t7:Int)=>
 Q ((decide (t7>=0)))
theorem yL(p0:Sl)(p1:Value)(Q:Bool->Pr)(w:World)(h:Oc p0 p1 Q w):Calls Pq 133 #[(slV p0),p1] w (aC [.c .bool] Q):=cF (an:=OZ) Tryz.func133 (by kernel_rfl) h
def S0:An:=(.sq .z (.sq .z (.sq (.sq (.jn [(22,.c .bool)] .z) (.br (.sq .z .z) .z)) (.sq (.sq .z (.bl (.lp [(26,.c (.int .i64))] (.sq .z (.sq (.br .z .z) (.sq (.bl (.sq .z (.sq (.jn [(61,.c .bool)] .z) (.br (.sq .z .z) .z)))) .z)))))) (.sq .z .z)))))
def V2(aD:Sl)(az:Sl)(Q:Int->Pr):Pr:=
 nw (.cells #[(.slice aD.a aD.len aD.cap),(.slice az.a az.len az.cap)] 32) λr=>
 deref (some ⟨r,0,none⟩) λa=>
 deref (some (a.add 0)) λa_1=>
 au .slice a_1 λ(t7:Sl)=>
 aP (aK (.int .i64 0))<|nw (.cells #[(.int .i64 0)] 3) λr_1=>
 deref (some ⟨r_1,0,none⟩) λa_2=>
 st a_2 (.int .i64 (t7.len:Int))<|
 jn (S:=Bool) (λR=>
 deref (some ⟨r_1,0,none⟩) λbX=>
 au (.int .i64) bX λ(t9:Int)=>
 br (decide (t9>8192)) (
 R true) (
 deref (some ⟨r,0,none⟩) λc6=>
 deref (some (c6.add 1)) λc7=>
 au .slice c7 λ(t13:Sl)=>
 br (decide ((t13.len:Int)>512)) (
 R true) (
 deref (some ⟨r,0,none⟩) λcV=>
 deref (some (cV.add 0)) λdy=>
 au .slice dy λ(t19:Sl)=>
 cB 133 [(.slice t19.a t19.len t19.cap),(.func (.func 134) #[] #[(.pointer (some ⟨r_1,0,none⟩))])] λt21=>
 R t21))) λs=>
 br s (
 Q 180) (
 deref (some ⟨r,0,none⟩) λdO=>
 deref (some (dO.add 1)) λdP=>
 au .slice dP λ(t24:Sl)=>
 aM (S:=Int) (λX s_1=>
 br (decide (s_1<(t24.len:Int))) (
 aP ((0:Int)<=s_1/\s_1<(t24.len:Int))<|
 deref t24.a λbu=>
 deref (some (bu.add (Int.toNat s_1*2))) λbF=>
 aQ [.str,(.int .i64)] bF λ(t30:ByteArray×Int)=>
 nw (.cells #[(.string (⟨#[]⟩:ByteArray)),(.int .i64 0)] 64) λr_2=>
 deref (some ⟨r_2,0,none⟩) λbw=>
 st (bw.add 0) (.string t30.1)<|
 st (bw.add 1) (.int .i64 t30.2)<|
 jn (S:=Bool) (λbG=>
 jE<|
 deref (some ⟨r_2,0,none⟩) λbJ=>
 deref (some (bJ.add 0)) λbW=>
 au .str bW λ(t32:ByteArray)=>
 aH Pq 98 [(.string t32)] [.c (.int .i64)] λ(t33:Int)=>
 br (t33 !=0) (
 bG true) (
 br (decide (s_1>0)) (
 deref (some ⟨r,0,none⟩) λbS=>
 deref (some (bS.add 1)) λcm=>
 au .slice cm λ(t40:Sl)=>
 aP ((0:Int)<=(IntKind.wrap .i64 (s_1-1))/\(IntKind.wrap .i64 (s_1-1))<(t40.len:Int))<|
 deref t40.a λcx=>
 deref (some (cx.add (Int.toNat (IntKind.wrap .i64 (s_1-1))*2))) λcy=>
 deref (some (cy.add 0)) λcz=>
 au .str cz λ(t45:ByteArray)=>
 deref (some ⟨r_2,0,none⟩) λdz=>
 deref (some (dz.add 0)) λdQ=>
 au .str dQ λ(t47:ByteArray)=>
 br (!(Op.bytesLess t45.toList t47.toList)) (
 bG true) (
 deref (some ⟨r_2,0,none⟩) λdR=>
 deref (some (dR.add 1)) λep=>
 au (.int .i64) ep λ(t53:Int)=>
 br (decide (t53<0)) (
 bG true) (
 deref (some ⟨r_2,0,none⟩) λe8=>
 deref (some (e8.add 1)) λfu=>
 au (.int .i64) fu λ(t58:Int)=>
 deref (some ⟨r_1,0,none⟩) λfy=>
 au (.int .i64) fy λ(t59:Int)=>
 bG ((decide (t58>=t59)))))) (
 deref (some ⟨r_2,0,none⟩) λfZ=>
 deref (some (fZ.add 1)) λfA=>
 au (.int .i64) fA λ(O0:Int)=>
 br (decide (O0<0)) (
 bG true) (
 deref (some ⟨r_2,0,none⟩) λgq=>
 deref (some (gq.add 1)) λiA=>
 au (.int .i64) iA λ(O1:Int)=>
 deref (some ⟨r_1,0,none⟩) λjO=>
 au (.int .i64) jO λ(wZ:Int)=>
 bG ((decide (O1>=wZ))))))) λs_2=>
 br s_2 (
 Q 180) (
 X ((IntKind.wrap .i64 (s_1+1))))) (
 Q 0)) 0)
theorem Cp(aD:Sl)(az:Sl)(Q:Int->Pr)(w:World)(h:V2 aD az Q w):Calls Pq 85 #[(.agg #[(slV aD),(slV az)])] w (aC [.c (.int .i64)] Q):=cF (an:=S0) Tryz.func85 (by kernel_rfl) h
def O2:An:=(.sq .z (.sq (.sq (.jn [(15,.c .bool)] .z) (.br (.sq .z .z) .z)) (.sq (.sq .z (.bl (.lp [(3,.c (.int .i64))] (.sq (.sq .z (.br .z .z)) (.sq (.bl (.sq .z (.br (.sq .z .z) .z))) .z))))) (.sq (.sq .z (.bl (.lp [(4,.c (.int .i64))] (.sq (.sq .z (.br .z .z)) (.sq (.bl (.sq .z (.sq (.jn [(77,.c .bool)] .z) (.br (.sq .z .z) .z)))) .z))))) (.sq .z .z)))))
def Od(aD:Sl)(az:Sl)(Q:Int->Pr):Pr:=
 nw (.cells #[(.slice aD.a aD.len aD.cap),(.slice az.a az.len az.cap)] 32) λr=>
 jn (S:=Bool) (λR=>
 deref (some ⟨r,0,none⟩) λa=>
 deref (some (a.add 0)) λa_1=>
 au .slice a_1 λ(t7:Sl)=>
 br (decide ((t7.len:Int)>8192)) (
 R true) (
 deref (some ⟨r,0,none⟩) λa_2=>
 deref (some (a_2.add 1)) λbX=>
 au .slice bX λ(t12:Sl)=>
 R ((decide ((t12.len:Int)>512))))) λs=>
 br s (
 Q 180) (
 aM (S:=Int) (λX s_1=>
 deref (some ⟨r,0,none⟩) λc6=>
 deref (some (c6.add 0)) λc7=>
 au .slice c7 λ(t18:Sl)=>
 br (decide (s_1<(t18.len:Int))) (
 jE<|
 deref (some ⟨r,0,none⟩) λcV=>
 deref (some (cV.add 0)) λdy=>
 au .slice dy λ(t24:Sl)=>
 aP ((0:Int)<=s_1/\s_1<(t24.len:Int))<|
 deref t24.a λdO=>
 deref (some (dO.add (Int.toNat s_1*3))) λdP=>
 aQ [(.int .i64),.slice,.slice] dP λ(t27:Int×Sl×Sl)=>
 deref (some ⟨r,0,none⟩) λbu=>
 deref (some (bu.add 0)) λbF=>
 au .slice bF λ(t29:Sl)=>
 cB 164 [(.agg #[(.int .i64 t27.1),(.slice t27.2.1.a t27.2.1.len t27.2.1.cap),(.slice t27.2.2.a t27.2.2.len t27.2.2.cap)]),(.int .i64 (t29.len:Int))] λt31=>
 br (!t31) (
 Q 180) (
 X ((IntKind.wrap .i64 (s_1+1))))) (
 aM (S:=Int) (λjM s_2=>
 deref (some ⟨r,0,none⟩) λbw=>
 deref (some (bw.add 1)) λbJ=>
 au .slice bJ λ(t35:Sl)=>
 br (decide (s_2<(t35.len:Int))) (
 deref (some ⟨r,0,none⟩) λbW=>
 deref (some (bW.add 1)) λbS=>
 au .slice bS λ(t41:Sl)=>
 aP ((0:Int)<=s_2/\s_2<(t41.len:Int))<|
 deref t41.a λcm=>
 deref (some (cm.add (Int.toNat s_2*2))) λcx=>
 aQ [.str,(.int .i64)] cx λ(t44:ByteArray×Int)=>
 nw (.cells #[(.string (⟨#[]⟩:ByteArray)),(.int .i64 0)] 64) λr_1=>
 deref (some ⟨r_1,0,none⟩) λcy=>
 st (cy.add 0) (.string t44.1)<|
 st (cy.add 1) (.int .i64 t44.2)<|
 jn (S:=Bool) (λbG=>
 jE<|
 deref (some ⟨r_1,0,none⟩) λcz=>
 deref (some (cz.add 0)) λdz=>
 au .str dz λ(t46:ByteArray)=>
 aH Pq 165 [(.string t46)] [.c (.int .i64)] λ(t47:Int)=>
 br (t47 !=0) (
 bG true) (
 br (decide (s_2>0)) (
 deref (some ⟨r,0,none⟩) λdQ=>
 deref (some (dQ.add 1)) λdR=>
 au .slice dR λ(t54:Sl)=>
 aP ((0:Int)<=(IntKind.wrap .i64 (s_2-1))/\(IntKind.wrap .i64 (s_2-1))<(t54.len:Int))<|
 deref t54.a λep=>
 deref (some (ep.add (Int.toNat (IntKind.wrap .i64 (s_2-1))*2))) λe8=>
 deref (some (e8.add 0)) λfu=>
 au .str fu λ(t59:ByteArray)=>
 deref (some ⟨r_1,0,none⟩) λfy=>
 deref (some (fy.add 0)) λfZ=>
 au .str fZ λ(t61:ByteArray)=>
 br (!(Op.bytesLess t59.toList t61.toList)) (
 bG true) (
 deref (some ⟨r_1,0,none⟩) λfA=>
 deref (some (fA.add 1)) λgq=>
 au (.int .i64) gq λ(t67:Int)=>
 br (decide (t67<0)) (
 bG true) (
 deref (some ⟨r_1,0,none⟩) λiA=>
 deref (some (iA.add 1)) λjO=>
 au (.int .i64) jO λ(t72:Int)=>
 deref (some ⟨r,0,none⟩) λkO=>
 deref (some (kO.add 0)) λlT=>
 au .slice lT λ(t74:Sl)=>
 bG ((decide (t72>=(t74.len:Int))))))) (
 deref (some ⟨r_1,0,none⟩) λkP=>
 deref (some (kP.add 1)) λlg=>
 au (.int .i64) lg λ(Fw:Int)=>
 br (decide (Fw<0)) (
 bG true) (
 deref (some ⟨r_1,0,none⟩) λlU=>
 deref (some (lU.add 1)) λlV=>
 au (.int .i64) lV λ(O3:Int)=>
 deref (some ⟨r,0,none⟩) λlW=>
 deref (some (lW.add 0)) λlX=>
 au .slice lX λ(O4:Sl)=>
 bG ((decide (O3>=(O4.len:Int)))))))) λdB=>
 br dB (
 Q 180) (
 jM ((IntKind.wrap .i64 (s_2+1))))) (
 Q 0)) 0)) 0)
theorem yM(aD:Sl)(az:Sl)(Q:Int->Pr)(w:World)(h:Od aD az Q w):Calls Pq 114 #[(.agg #[(slV aD),(slV az)])] w (aC [.c (.int .i64)] Q):=cF (an:=O2) Tryz.func114 (by kernel_rfl) h
set_option maxRecDepth 20000
def gJ(k np nd:Int):Int:=if b8 k np nd then 0 else 110
theorem X8(k np nd:Int)(w:World):Calls Pq 220 #[.agg #[.int .i64 k,.int .i64 np,.int .i64 nd]] w (aC [.c (.int .i64)] λr w'=>r=gJ k np nd/\Grow w w'):=by
 refine yh k np nd _ _ ?_;unfold NY;simp only[ag];refine St.nw (St.bp w) λr w1 s1 g1 _=>?_;have ld:∀{n:Nat} {p:Int} {k':Int->Pr},([.int .i64 k,.int .i64 np,.int .i64 nd]:LV)[n]? =some (.int .i64 p)->k' p w1->au (.int .i64) (Addr.add ⟨r,0,none⟩ n) k' w1:=λh hk=>s1.ld (s:=.int .i64) h hk;refine aL (λb W=>b= !b8 k np nd/\w1=W) ?_ ?_
 ·have fin:∀(b:Bool),(b=true↔¬(1<=k/\k<=3/\0<=np/\np<=126/\0<=nd/\nd<=1008/\¬(k=3/\np<1)))->(b= !b8 k np nd/\w1=w1):=by
   intro b hb;refine⟨?_,rfl⟩;have:b8 k np nd=decide (1<=k/\k<=3/\0<=np/\np<=126/\0<=nd/\nd<=1008/\¬(k=3/\np<1)):=by
    unfold b8;simp only[Bool.decide_and,Bool.and_assoc,decide_not]
   rw[this,Bool.eq_iff_iff,hb];simp only[Bool.not_eq_true',ja]
  refine ld (p:=k) rfl (ah (λh=>fin _ ?_) λh=>ld (p:=k) rfl (ah (λh2=>fin _ ?_) λh2=>ld (p:=np) rfl (ah (λh3=>fin _ ?_) λh3=>ld (p:=np) rfl (ah (λh4=>fin _ ?_) λh4=>ld (p:=nd) rfl (ah (λh5=>fin _ ?_) λh5=>ld (p:=nd) rfl (ah (λh6=>fin _ ?_) λh6=>ld (p:=k) rfl (ah (λh7=>ld (p:=np) rfl (fin _ ?_)) λh7=>fin _ ?_)))))))
  all_goals
   simp only[jb,ja,ki,beq_eq_false_iff_ne,ne_eq,gt_iff_lt,true_iff,Bool.false_eq_true,false_iff]at *;omega
 ·rintro _ _ ⟨rfl,rfl⟩
  unfold gJ;refine ah (λh=>⟨?_,g1⟩) (λh=>⟨?_,g1⟩)
  ·rw[jc (by simpa using h)]
  ·rw[jd (by simpa using h)]
theorem X9(k np nd:Int)(w:World):Calls Pq 192 #[.agg #[.int .i64 k,.int .i64 np,.int .i64 nd]] w (aC [.c (.int .i64)] λr w'=>r=gJ k np nd/\Grow w w'):=by
 refine yj k np nd _ _ ?_;unfold NZ;simp only[ag];refine St.nw (St.bp w) λr w1 s1 g1 _=>?_;have ld:∀{n:Nat} {p:Int} {k':Int->Pr},([.int .i64 k,.int .i64 np,.int .i64 nd]:LV)[n]? =some (.int .i64 p)->k' p w1->au (.int .i64) (Addr.add ⟨r,0,none⟩ n) k' w1:=λh hk=>s1.ld (s:=.int .i64) h hk;have sh:b8 k np nd=decide (1<=k/\k<=3/\0<=np/\np<=126/\0<=nd/\nd<=1008/\¬(k=3/\np<1)):=by
  unfold b8;simp only[Bool.decide_and,Bool.and_assoc,decide_not]
 have bad:¬(1<=k/\k<=3/\0<=np/\np<=126/\0<=nd/\nd<=1008/\¬(k=3/\np<1))->110=gJ k np nd:=λh=>by unfold gJ;rw[sh,jc (by rw[decide_eq_false h];decide)]
 have B7:(1<=k/\k<=3/\0<=np/\np<=126/\0<=nd/\nd<=1008/\¬(k=3/\np<1))->0=gJ k np nd:=λh=>by unfold gJ;rw[sh,jd (decide_eq_true h)]
 refine ld (p:=k) rfl ?_;refine aL (λ_ W=>(1<=k/\k<=3/\¬(k=3/\np=0))/\w1=W) ?_ ?_
 ·refine ah (λh=>ld (p:=np) rfl (ah (λh2=>⟨bad ?_,g1⟩) λh2=>⟨?_,rfl⟩)) λh=>?_
  ·simp only[ki]at h h2;omega
  ·simp only[ki,beq_eq_false_iff_ne,ne_eq]at h h2;omega
  ·simp only[beq_eq_false_iff_ne,ne_eq]at h
   refine aL (λb W=>b=decide (k=1\/k=2)/\w1=W) (ah (λh2=>⟨?_,rfl⟩) λh2=>⟨?_,rfl⟩) ?_
   ·simp only[ki]at h2;subst h2;rfl
   ·simp only[beq_eq_false_iff_ne,ne_eq]at h2
    by_cases h3:k=2
    ·subst h3;rfl
    ·simp[h2,h3]
   ·rintro _ _ ⟨rfl,rfl⟩
    refine ah (λh2=>⟨?_,rfl⟩) λh2=>⟨bad ?_,g1⟩
    ·simp only[jb]at h2;omega
    ·simp only[ja]at h2;omega
 rintro⟨⟩ _ ⟨hk,rfl⟩;refine aL (λb W=>b=decide (0<=np/\np<=126/\0<=nd/\nd<=1008)/\w1=W) ?_ ?_
 ·refine ld (p:=np) rfl (ah (λh=>ld (p:=np) rfl (ah (λh2=>ld (p:=nd) rfl (ah (λh3=>ld (p:=nd) rfl ⟨?_,rfl⟩) λh3=>⟨?_,rfl⟩)) λh2=>⟨?_,rfl⟩)) λh=>⟨?_,rfl⟩)
  all_goals
   simp only[jb,ja,ge_iff_le]at *
  ·apply decide_eq_decide.2;omega
  all_goals
   symm;apply decide_eq_false;omega
 ·rintro _ _ ⟨rfl,rfl⟩
  refine ah (λh=>⟨B7 ?_,g1⟩) λh=>⟨bad ?_,g1⟩
  ·simp only[jb]at h;omega
  ·simp only[ja]at h;omega
theorem HO{l:LB}{i:Nat}(hi:i<l.length):(((bytesOf l)[i]?).getD 0).toNat=l[i].toNat:=by
 have h1:(bytesOf l).size=l.length:=rfl;rw[getElem?_pos (bytesOf l) i (by rw[h1];exact hi)];rfl
theorem eR(l:LB):(bytesOf l).size=l.length:=rfl
def oh(l:LB):Int:=if e9 l then 0 else 161
theorem Ya(l:LB)(w:World):Calls Pq 165 #[.string (bytesOf l)] w (aC [.c (.int .i64)] λr w'=>r=oh l/\w=w'):=by
 refine yl (bytesOf l) _ _ ?_;unfold N0;rw[eR];refine aL (λb W=>b= !(decide (1<=l.length)&&decide (l.length<=16))/\w=W) (ah (λh=>⟨?_,rfl⟩) λh=>⟨?_,rfl⟩) ?_
 ·simp only[jb]at h
  rw[decide_eq_false (show¬1<=l.length by omega)];rfl
 ·simp at h
  rw[decide_eq_true (show 1<=l.length by omega)];by_cases h2:l.length<=16
  ·simp[h2];omega
  ·simp[h2];omega
 rintro _ _ ⟨rfl,rfl⟩;refine ah (λh=>⟨?_,rfl⟩) λh=>?_
 ·unfold oh e9
  rw[jc];intro h2;rw[jz]at h2;rw[h2.1]at h;cases h
 ·have hl:1<=l.length/\l.length<=16:=by simpa using h
  refine aB (λz W=>∃j:Nat,z=j/\j<=l.length/\(∀i (h:i<l.length),i<j->33<=l[i].toNat/\l[i].toNat<=126)/\w=W) (λz _=>l.length-z.toNat) ⟨0,rfl,by omega,λ_ _ h=>by omega,rfl⟩ ?_;rintro _ W ⟨j,rfl,hj,hall,rfl⟩;refine ah (λhlt=>?_) (λhge=>?_)
  ·simp only[jb]at hlt
   have hjl:j<l.length:=by omega
   rw[jk,HO hjl];refine aL (λb W=>b=decide (l[j].toNat<33\/126<l[j].toNat)/\w=W) ⟨⟨by omega,by omega⟩,ah (λh=>⟨?_,rfl⟩) λh=>⟨⟨by omega,by omega⟩,?_,rfl⟩⟩ ?_
   ·simp only[jb]at h
    symm;apply decide_eq_true;omega
   ·simp only[ja]at h
    apply decide_eq_decide.2;omega
   ·rintro _ _ ⟨rfl,rfl⟩
    refine ah (λh=>⟨?_,rfl⟩) λh=>?_
    ·simp only[jb]at h
     unfold oh e9;rw[jc];intro h2;simp only[jz,List.all_eq_true]at h2;have:=h2.2 l[j] (List.getElem_mem hjl);simp at this;omega
    ·simp only[ja]at h
     rw[ax (by omega)];refine⟨⟨j+1,rfl,by omega,λi hi hij=>?_,rfl⟩,by omega⟩;by_cases h3:i=j
     ·subst h3;omega
     ·exact hall i hi (by omega)
  ·simp only[ja]at hge
   refine⟨?_,rfl⟩;unfold oh e9;rw[jd];simp only[jz,List.all_eq_true];refine⟨⟨by simpa using hl.1,by simpa using hl.2⟩,λb hb=>?_⟩;obtain⟨i,hi,rfl⟩:=List.mem_iff_getElem.1 hb;have:=hall i hi (by omega);simp;omega
theorem RS(c:Int)(w:World):Calls Pq 149 #[.int .i32 c] w (aC [.c .bool] λr w'=>r=decide (c<33\/126<c)/\w=w'):=by
 refine ym c _ _ ?_;unfold N1;refine ah (λh=>⟨?_,rfl⟩) λh=>⟨?_,rfl⟩
 ·simp only[jb]at h
  symm;apply decide_eq_true;omega
 ·simp only[ja]at h
  apply decide_eq_decide.2;omega
theorem mI{l:LB}{i:Nat}(hi:i<l.length):(bytesOf l).get! i=l[i]:=by
 show l.toArray[i]! =l[i];simp[hi]
def nL(b:UInt8):Bool:=decide (b.toNat<33\/126<b.toNat)
theorem yC{l:LB}{i:Nat}(hi:i<l.length)(h:128<=l[i].toNat):128<=(Utf8.decode (bytesOf l) i).1:=by
 unfold Utf8.decode;simp only[Nat.add_zero,mI hi];have hr:128<=Utf8.runeError:=by decide
 rw[jc (by omega)];split
 ·split
  ·dsimp only;omega
  ·exact hr
 ·split
  ·split
   ·rename_i h2
    simp only[jz,jb]at h2;dsimp only;omega
   ·exact hr
  ·split
   ·split
    ·rename_i h2
     simp only[jz,jb]at h2;dsimp only;omega
    ·exact hr
   ·exact hr
theorem ou{l:LB}{i:Nat}(hi:i<l.length)(h:l[i].toNat<128):Utf8.decode (bytesOf l) i=(l[i].toNat,1):=by
 unfold Utf8.decode;simp only[Nat.add_zero,mI hi];rw[jd (by omega)]
theorem R1(l:LB)(w:World):Calls Pq 253 #[.string (bytesOf l),.func (.func 149) #[] #[],.bool true] w (aC [.c (.int .i64)] λr w'=>decide (r>=0)=l.any nL/\Grow w w'):=by
 refine yD (bytesOf l) _ true _ _ ?_;unfold N4 tE;simp only[ag];have s1:=(St.bp w).Ex (.stringIter (bytesOf l) 0);refine aB (λ_ W=>∃j:Nat,(∀i (h:i<l.length),i<j->nL l[i]=false)/\St aA w W [j6 w.heap.size (.stringIter (bytesOf l) j)])
  (λ_ W=>match W.heap[w.heap.size]?with|some (.stringIter _ j)=>l.length-j|_=>0) ⟨0,λ_ _ h=>by omega,s1⟩ ?_
 rintro⟨⟩ W ⟨j,hall,s2⟩;refine⟨rfl,bytesOf l,j,s2.obj,λhno=>⟨?_,s2.bh⟩,λhj=>?_⟩
 ·rw[eR]at hno
  have:l.any nL=false:=by
   rw[List.any_eq_false];intro b hb;obtain⟨i,hi,rfl⟩:=List.mem_iff_getElem.1 hb;simpa using hall i hi (by omega)
  rw[this];rfl
 ·rw[eR]at hj
  have s3:=s2.putObj (.stringIter (bytesOf l) (j+(Utf8.decode (bytesOf l) j).2));refine .inl ⟨149,#[],#[],rfl,by kernel_rfl,?_⟩;refine(RS _ _).mono ?_;rintro _ _ ⟨p,rfl,rfl,rfl⟩;refine⟨_,rfl,trivial,?_⟩;have hd:decide ((((Utf8.decode (bytesOf l) j).1:Nat):Int)<33\/126<(((Utf8.decode (bytesOf l) j).1:Nat):Int))=nL l[j]:=by
   unfold nL;rcases Nat.lt_or_ge l[j].toNat 128 with h|h
   ·rw[ou hj h]
    apply decide_eq_decide.2;omega
   ·have:=yC hj h
    apply decide_eq_decide.2;omega
  rw[hd];refine ah (λh=>⟨?_,s3.bh⟩) λh=>?_
  ·have hb:nL l[j]=true:=by simpa using h
   have:l.any nL=true:=List.any_eq_true.2 ⟨l[j],List.getElem_mem hj,hb⟩;rw[this];simp
  ·have hb:nL l[j]=false:=by simpa using h
   have R2:l[j].toNat<128:=by
    unfold nL at hb;simp only[ja]at hb;omega
   rw[ou hj R2]at s3⊢;refine⟨⟨j+1,λi hi hij=>?_,s3⟩,?_⟩
   ·by_cases h3:i=j
    ·subst h3;exact hb
    ·exact hall i hi (by omega)
   ·rw[s3.obj,s2.obj]
    dsimp only;omega
theorem R3(l:LB)(w:World):Calls Pq 208 #[.string (bytesOf l),.func (.func 149) #[] #[]] w (aC [.c (.int .i64)] λr w'=>decide (r>=0)=l.any nL/\Grow w w'):=by
 refine yE (bytesOf l) _ _ _ ?_;unfold N5;exact ak (R1 l w) λr w' h=>h
theorem R4(l:LB)(w:World):Calls Pq 148 #[.string (bytesOf l),.func (.func 149) #[] #[]] w (aC [.c .bool] λr w'=>r=l.any nL/\Grow w w'):=by
 refine yF (bytesOf l) _ _ _ ?_;unfold N6;exact ak (R3 l w) λr w' h=>h
theorem Ey(l:LB):e9 l=(decide (1<=l.length)&&decide (l.length<=16)&& !l.any nL):=by
 unfold e9
 congr 1
 rw[List.not_any_eq_all_not]
 congr 1
 funext b;unfold nL;rw[<-Bool.decide_and,<-decide_not];apply decide_eq_decide.2;omega
theorem Ye(l:LB)(w:World):Calls Pq 98 #[.string (bytesOf l)] w (aC [.c (.int .i64)] λr w'=>r=oh l/\Grow w w'):=by
 refine Cl (bytesOf l) _ _ ?_;unfold VZ;rw[eR];refine aL (λb W=>b= !e9 l/\Grow w W) ?_ ?_
 ·rw[Ey]
  refine ah (λh=>⟨?_,Mod.refl _ _⟩) λh=>ah (λh2=>⟨?_,Mod.refl _ _⟩) λh2=>ak (R4 l w) ?_
  ·simp only[jb]at h
   rw[decide_eq_false (show¬1<=l.length by omega)];rfl
  ·simp only[jb]at h2
   rw[decide_eq_false (show¬l.length<=16 by omega),Bool.and_false];rfl
  ·rintro _ W ⟨rfl,g⟩
   simp only[ja]at h h2;rw[decide_eq_true (show 1<=l.length by omega),decide_eq_true (show l.length<=16 by omega)];exact⟨by simp,g⟩
 ·rintro _ W ⟨rfl,g⟩
  unfold oh;refine ah (λh=>⟨?_,g⟩) λh=>⟨?_,g⟩
  ·rw[jc (by simpa using h)]
  ·rw[jd (by simpa using h)]
theorem fL{v:Value}{f:FuncId}{caps:Array Value}{args:LV}{aU:List Sh}{k post:b9 aU->Pr}{w:World}(hv:v=.func (.func f) #[] caps)(hc:ey Pq f=true)
 (h:Calls Pq f (args.toArray++caps) w (aC aU post))(hk:∀p w',post p w'->k p w'):cE Pq v args aU k w:=
 .inl ⟨f,#[],caps,hv,hc,by rw[Array.empty_append];exact h.mono λ_ _ ⟨p,he,hp⟩=>⟨p,he,hk _ _ hp⟩⟩
theorem R5(p:Int)(b many:Nat)(w:World)(hb:bY w b [.int .i64 many]):Calls Pq 193 #[.int .i64 p,.pointer (some ⟨b,0,none⟩)] w (aC [.c .bool] λr w'=>r= !kr many p/\w=w'):=by
 refine yG p _ _ _ ?_;unfold N7;simp only[ag];refine ah (λh=>⟨?_,rfl⟩) λh=>?_
 ·simp only[jb]at h
  unfold kr;rw[decide_eq_false (show¬-1<=p by omega)];rfl
 ·simp only[ja]at h
  refine dD (s:=.int .i64) (p:=(many:Int)) hb.fK ⟨?_,rfl⟩;unfold kr;rw[decide_eq_true (show-1<=p by omega),Bool.true_and,<-decide_not];apply decide_eq_decide.2;omega
theorem R6(s:Sl)(l:List Int)(v:Value)(pr:Int->Bool)(w:World)(hs:IS w s l)(hl:l.length<=1000000000)
 (hv:∀x∈l,∀W,Grow w W->cE Pq v [.int .i64 x] [.c .bool] (λb W'=>b=pr x/\W=W') W):
 Calls Pq 95 #[.slice s.a s.len s.cap,v] w (aC [.c (.int .i64)] λr w'=>decide (r>=0)=l.any pr/\w=w'):=by
 refine Cm s v _ _ ?_;unfold V0;simp only[ag];have jZ:=hs.len;refine aB (λz W=>∃j:Nat,z=j/\j<=l.length/\(∀i (h:i<l.length),i<j->pr l[i]=false)/\w=W) (λz _=>l.length-z.toNat) ⟨0,rfl,by omega,λ_ _ h=>by omega,rfl⟩ ?_;rintro _ W ⟨j,rfl,hj,hall,rfl⟩;refine ah (λhlt=>?_) (λhge=>?_)
 ·simp only[jb]at hlt
  have hjl:j<l.length:=by omega
  refine⟨⟨by omega,by omega⟩,?_⟩;rw[jk];refine IS.at hs hjl ?_;refine qf ?_ (hv l[j] (List.getElem_mem hjl) w (Mod.refl _ _));rintro b _ ⟨rfl,rfl⟩;refine ah (λh=>⟨?_,rfl⟩) λh=>?_
  ·rw[List.any_eq_true.2 ⟨l[j],List.getElem_mem hjl,h⟩]
   simp
  ·rw[ax (by omega)]
   refine⟨⟨j+1,rfl,by omega,λi hi hij=>?_,rfl⟩,by omega⟩;by_cases h3:i=j
   ·subst h3;exact h
   ·exact hall i hi (by omega)
 ·simp only[ja]at hge
  refine⟨?_,rfl⟩;have:l.any pr=false:=by
   rw[List.any_eq_false];intro b hb;obtain⟨i,hi,rfl⟩:=List.mem_iff_getElem.1 hb;simpa using hall i hi (by omega)
  rw[this];rfl
theorem R7(s:Sl)(l:List Int)(v:Value)(pr:Int->Bool)(w:World)(hs:IS w s l)(hl:l.length<=1000000000)
 (hv:∀x∈l,∀W,Grow w W->cE Pq v [.int .i64 x] [.c .bool] (λb W'=>b=pr x/\W=W') W):
 Calls Pq 47 #[.slice s.a s.len s.cap,v] w (aC [.c .bool] λr w'=>r=l.any pr/\w=w'):=by
 refine Cn s v _ _ ?_;unfold V1;exact ak (R6 s l v pr w hs hl hv) λr w' h=>h
structure RN(w:World)(x:NS):Prop where
 ip:IS w x.ps x.p
 bd:BS w x.ds x.d
 pl:x.p.length<=20000
 dl:x.d.length<=20000
theorem RN.grow{w w':World}{x:NS}(h:RN w x)(g:Grow w w'):RN w' x:=⟨h.ip.grow g,h.bd.grow g,h.pl,h.dl⟩
theorem RG.rn{w:World}{F:Nat->Prop}{g:GS}(h:RG w F g){x:NS}(hx:x∈g.xs):RN w x:=⟨h.ip x hx,h.bd x hx,h.sm.pl x hx,h.sm.dl x hx⟩
theorem Ez(k np nd:Int):(gJ k np nd !=0)= !b8 k np nd:=by
 unfold gJ;cases b8 k np nd<;>rfl
theorem EA(k np nd:Int):(gJ k np nd==0)=b8 k np nd:=by
 unfold gJ;cases b8 k np nd<;>rfl
theorem AA(l:LB):(oh l !=0)= !e9 l:=by
 unfold oh;cases e9 l<;>rfl
theorem Yf(x:NS)(many:Nat)(w:World)(hx:RN w x):Calls Pq 135 #[.agg #[.int .i64 x.k,slV x.ps,slV x.ds],.int .i64 many] w (aC [.c .bool] λr w'=>r=ec many x.m/\Grow w w'):=by
 refine yH x.k x.ps x.ds many _ _ ?_;unfold N8;simp only[ag];refine St.nw (St.bp w) λr w1 s1 g1 _=>⟨trivial,St.nw s1 λr1 w2 s2 g2 _=>?_⟩;have b2:=s2.af 1;refine b2.ld (s:=.int .i64) (p:=x.k) rfl ?_;refine b2.ld (s:=.slice) (p:=x.ps) rfl ?_;refine b2.ld (s:=.slice) (p:=x.ds) rfl ?_;have nq:=hx.ip.len;have ve:=hx.bd.len;rw[nq,ve];refine ak (X9 x.k x.p.length x.d.length w2) ?_;rintro _ w3 ⟨rfl,g3⟩;rw[Ez];have g:=Grow.trans s2.bh g3;refine ah (λh=>⟨?_,g⟩) λh=>?_
 ·unfold ec
  have h2:b8 x.k x.p.length x.d.length=false:=by simpa using h
  show false=(b8 x.k x.p.length x.d.length&&_);rw[h2];rfl
 ·have s3:=s2.grow g3
  refine(s3.af 1).ld (s:=.slice) (p:=x.ps) rfl ?_;refine ak (R7 x.ps x.p (.func (.func 193) #[] #[.pointer (some ⟨r1,0,none⟩)]) (λp=> !kr many p) w3 (hx.ip.grow g) (by have:=hx.pl;omega) ?_) ?_
  ·intro p _ W gW
   exact fL rfl (by kernel_rfl) (R5 p r1 many W (s3.box.grow gW)) λb W' h=>h
  ·rintro _ _ ⟨rfl,rfl⟩
   refine⟨?_,g⟩;unfold ec;have h2:b8 x.k x.p.length x.d.length=true:=by simpa using h
   show _=(b8 x.k x.p.length x.d.length&&x.p.all (kr many));rw[h2,Bool.true_and,List.not_any_eq_all_not];simp only[Bool.not_not]
theorem Yg(x:NS)(many:Nat)(w:World)(hx:RN w x):Calls Pq 164 #[.agg #[.int .i64 x.k,slV x.ps,slV x.ds],.int .i64 many] w (aC [.c .bool] λr w'=>r=ec many x.m/\Grow w w'):=by
 refine yI x.k x.ps x.ds many _ _ ?_;unfold N9;simp only[ag];have nq:=hx.ip.len;have ve:=hx.bd.len;have hp:=hx.pl;refine St.nw (St.bp w) λr w1 s1 g1 _=>?_;have hi:=hx.ip.grow g1;refine aB (λz W=>∃j:Nat,z=j/\j<=x.p.length/\(∀i (h:i<x.p.length),i<j->kr many x.p[i]=true)/\w1=W) (λz _=>x.p.length-z.toNat) ⟨0,rfl,by omega,λ_ _ h=>by omega,rfl⟩ ?_;rintro _ W ⟨j,rfl,hj,hall,rfl⟩;refine s1.ld (s:=.slice) (p:=x.ps) rfl ?_;refine ah (λhlt=>?_) (λhge=>?_)
 ·simp only[jb]at hlt
  have hjl:j<x.p.length:=by omega
  rw[jk];refine aL (λb W=>b= !kr many x.p[j]/\w1=W) ?_ ?_
  ·refine s1.ld (s:=.slice) (p:=x.ps) rfl ⟨⟨by omega,by omega⟩,IS.at hi hjl ?_⟩
   refine ah (λh=>⟨?_,rfl⟩) λh=>?_
   ·simp only[jb]at h
    unfold kr;rw[decide_eq_false (show¬-1<=x.p[j] by omega)];rfl
   ·simp only[ja]at h
    refine s1.ld (s:=.slice) (p:=x.ps) rfl ⟨⟨by omega,by omega⟩,IS.at hi hjl ⟨?_,rfl⟩⟩;unfold kr;rw[decide_eq_true (show-1<=x.p[j] by omega),Bool.true_and,<-decide_not];apply decide_eq_decide.2;omega
  ·rintro _ _ ⟨rfl,rfl⟩
   refine ah (λh=>⟨?_,g1⟩) λh=>?_
   ·have hb:kr many x.p[j]=false:=by simpa using h
    have:x.p.all (kr many)=false:=by
     rw[List.all_eq_false];exact⟨x.p[j],List.getElem_mem hjl,by simp[hb]⟩
    unfold ec;show false=(_&&x.p.all (kr many));rw[this,Bool.and_false]
   ·have hb:kr many x.p[j]=true:=by simpa using h
    rw[ax (by omega)];refine⟨⟨j+1,rfl,by omega,λi hi hij=>?_,rfl⟩,by omega⟩;by_cases h3:i=j
    ·subst h3;exact hb
    ·exact hall i hi (by omega)
 ·simp only[ja]at hge
  refine s1.ld (s:=.int .i64) (p:=x.k) rfl ?_;refine s1.ld (s:=.slice) (p:=x.ps) rfl ?_;refine s1.ld (s:=.slice) (p:=x.ds) rfl ?_;rw[nq,ve];refine ak (X8 x.k x.p.length x.d.length w1) ?_;rintro _ w3 ⟨rfl,g3⟩;refine⟨?_,Grow.trans g1 g3⟩;rw[EA];have:x.p.all (kr many)=true:=by
   rw[List.all_eq_true];intro b hb;obtain⟨i,hi,rfl⟩:=List.mem_iff_getElem.1 hb;exact hall i hi (by omega)
  unfold ec;show _=(_&&x.p.all (kr many));rw[this,Bool.and_true];rfl
theorem Yh(x:NS)(b many:Nat)(w:World)(hx:RN w x)(hb:bY w b [.int .i64 many]):Calls Pq 134 #[.agg #[.int .i64 x.k,slV x.ps,slV x.ds],.pointer (some ⟨b,0,none⟩)] w (aC [.c .bool] λr w'=>r= !ec many x.m/\Grow w w'):=by
 refine yJ x.k x.ps x.ds _ _ _ ?_;unfold Oa;simp only[ag];refine St.nw (St.bp w) λr w1 s1 g1 _=>?_;refine bY.aQ (l:=[.int .i64,.slice,.slice]) (p:=(x.k,x.ps,x.ds)) s1.box ?_;refine dD (s:=.int .i64) (p:=(many:Int)) (hb.grow g1).fK ?_;refine ak (Yf x many w1 (hx.grow g1)) ?_;rintro _ w3 ⟨rfl,g3⟩;exact⟨rfl,Grow.trans g1 g3⟩
theorem Yi(g:GS)(v:Value)(pr:NS->Bool)(w:World)(hg:RG w aA g)
 (hv:∀x∈g.xs,∀W,Grow w W->cE Pq v [.agg #[.int .i64 x.k,slV x.ps,slV x.ds]] [.c .bool] (λb W'=>b=pr x/\Grow W W') W):
 Calls Pq 191 #[slV g.gn,v] w (aC [.c (.int .i64)] λr w'=>decide (r>=0)=g.xs.any pr/\Grow w w'):=by
 refine yK g.gn v _ _ ?_;unfold Ob;simp only[ag];have jZ:=hg.nl;have hl:=hg.sm.nl;refine aB (λz W=>∃j:Nat,z=j/\j<=g.xs.length/\(∀i (h:i<g.xs.length),i<j->pr g.xs[i]=false)/\Grow w W) (λz _=>g.xs.length-z.toNat) ⟨0,rfl,by omega,λ_ _ h=>by omega,Mod.refl _ _⟩ ?_;rintro _ W ⟨j,rfl,hj,hall,gW⟩;refine ah (λhlt=>?_) (λhge=>?_)
 ·simp only[jb]at hlt
  have hjl:j<g.xs.length:=by omega
  refine⟨⟨by omega,by omega⟩,?_⟩;rw[jk];refine(hg.grow gW).node (i:=j) (x:=g.xs[j]) (by simp[hjl]) ?_;refine qf ?_ (hv g.xs[j] (List.getElem_mem hjl) W gW);rintro b W2 ⟨rfl,g2⟩;have g3:=Grow.trans gW g2;refine ah (λh=>⟨?_,g3⟩) λh=>?_
  ·rw[List.any_eq_true.2 ⟨g.xs[j],List.getElem_mem hjl,h⟩]
   simp
  ·rw[ax (by omega)]
   refine⟨⟨j+1,rfl,by omega,λi hi hij=>?_,g3⟩,by omega⟩;by_cases h3:i=j
   ·subst h3;exact h
   ·exact hall i hi (by omega)
 ·simp only[ja]at hge
  refine⟨?_,gW⟩;have:g.xs.any pr=false:=by
   rw[List.any_eq_false];intro b hb;obtain⟨i,hi,rfl⟩:=List.mem_iff_getElem.1 hb;simpa using hall i hi (by omega)
  rw[this];rfl
theorem Yj(g:GS)(v:Value)(pr:NS->Bool)(w:World)(hg:RG w aA g)
 (hv:∀x∈g.xs,∀W,Grow w W->cE Pq v [.agg #[.int .i64 x.k,slV x.ps,slV x.ds]] [.c .bool] (λb W'=>b=pr x/\Grow W W') W):
 Calls Pq 133 #[slV g.gn,v] w (aC [.c .bool] λr w'=>r=g.xs.any pr/\Grow w w'):=by
 refine yL g.gn v _ _ ?_;unfold Oc;exact ak (Yi g v pr w hg hv) λr w' h=>h
theorem Co{g:GS}{many:Nat}:(g.xs.any λx=> !ec many x.m)= !(g.m.n.all (ec many)):=by
 show _= !((g.xs.map NS.m).all (ec many));rw[List.all_map,List.not_all_eq_any_not];rfl
theorem r9{rs:List RM}{many:Nat}(h:∀i,i<rs.length->fQ rs many i=true):(List.range rs.length).all (fQ rs many)=true:=by
 rw[List.all_eq_true];intro i hi;exact h i (List.mem_range.1 hi)
theorem sg{rs:List RM}{many i:Nat}(hi:i<rs.length)(h:fQ rs many i=false):(List.range rs.length).all (fQ rs many)=false:=by
 rw[List.all_eq_false];exact⟨i,List.mem_range.2 hi,by simp[h]⟩
theorem gK{g:GS}(h:e7 g.m=false):180=ei g.m:=by unfold ei;rw[h];rfl
theorem ov{g:GS}(h:e7 g.m=true):0=ei g.m:=by unfold ei;rw[h];rfl
theorem pL{rs:List RM}{many j:Nat}{r:RM}(hr:rs[j]? =some r):fQ rs many j=(e9 r.1&&(decide (j=0)||Op.bytesLess ((rs[j-1]?.map (·.1)).getD []) r.1)&&decide (0<=r.2)&&decide (r.2<many)):=by
 unfold fQ;rw[hr]
theorem Xp(g:GS)(w:World)(hg:RG w aA g):Calls Pq 85 #[g.v] w (aC [.c (.int .i64)] λr w'=>r=ei g.m/\Grow w w'):=by
 refine Cp g.gn g.gr _ _ ?_;unfold V2;simp only[ag];have gy:=hg.nl;have hrl:=hg.rl;have hn2:=hg.sm.nl;have xK:=hg.sm.rl;have hml:g.m.n.length=g.xs.length:=by simp[GS.m]
 refine St.nw (St.bp w) λr w1 s1 g1 _=>?_;refine s1.ld (i:=0) (s:=.slice) (p:=g.gn) rfl ?_;rw[gy];refine⟨trivial,St.nw s1 λr1 w2 s2 g2 _=>s2.KR trivial λw3 s3=>?_⟩;refine aL (λb W=>b= !(decide (g.m.n.length<=8192)&&decide (g.m.r.length<=512)&&g.m.n.all (ec g.m.n.length))/\Grow w3 W) ?_ ?_
 ·refine s3.Ab (s:=.int .i64) (p:=(g.xs.length:Int)) rfl ?_
  refine ah (λh=>⟨?_,Mod.refl _ _⟩) λh=>?_
  ·simp only[jb]at h
   rw[decide_eq_false (show¬g.m.n.length<=8192 by omega)];rfl
  simp only[ja]at h;refine(s3.af 1).ld (s:=.slice) (p:=g.gr) rfl ?_;refine ah (λh2=>⟨?_,Mod.refl _ _⟩) λh2=>?_
  ·simp only[jb]at h2
   rw[decide_eq_false (show¬g.m.r.length<=512 by show¬g.rs.length<=512;omega),Bool.and_false];rfl
  simp only[ja]at h2;rw[decide_eq_true (show g.m.n.length<=8192 by omega),decide_eq_true (show g.m.r.length<=512 by show g.rs.length<=512;omega)];refine(s3.af 1).ld (s:=.slice) (p:=g.gn) rfl ?_;refine ak (Yj g (.func (.func 134) #[] #[.pointer (some ⟨r1,0,none⟩)]) (λx=> !ec g.xs.length x.m) w3 (hg.grow s3.bh) ?_) ?_
  ·intro x hx W gW
   refine fL rfl (by kernel_rfl) (Yh x r1 g.xs.length W (((hg.grow s3.bh).grow gW).rn hx) (s3.box.grow gW)) λb W' h=>h
  ·rintro _ W ⟨rfl,gW⟩
   refine⟨?_,gW⟩;rw[Co,hml];simp
 ·rintro _ W ⟨rfl,gW⟩
  have s4:=s3.grow gW;have gw:=s4.bh;refine ah (λh=>⟨?_,gw⟩) λh=>?_
  ·refine gK ?_
   unfold e7;have:(decide (g.m.n.length<=8192)&&decide (g.m.r.length<=512)&&g.m.n.all (ec g.m.n.length))=false:=by simpa only[Bool.not_eq_true']using h
   rw[this,Bool.false_and]
  have hok:(decide (g.m.n.length<=8192)&&decide (g.m.r.length<=512)&&g.m.n.all (ec g.m.n.length))=true:=by simpa only[Bool.not_eq_false']using h
  have fin:∀b,(List.range g.rs.length).all (fQ g.rs g.xs.length)=b->e7 g.m=b:=by
   intro b hb;unfold e7;rw[hok,Bool.true_and,hml];exact hb
  refine(s4.af 1).ld (s:=.slice) (p:=g.gr) rfl ?_;refine aB (λz W2=>∃j:Nat,z=j/\j<=g.rs.length/\(∀i,i<j->fQ g.rs g.xs.length i=true)/\Grow W W2) (λz _=>g.rs.length-z.toNat) ⟨0,rfl,by omega,λ_ h=>by omega,Mod.refl _ _⟩ ?_;rintro _ W2 ⟨j,rfl,hj,hall,g4⟩;have s5:=s4.grow g4;refine ah (λhlt=>?_) (λhge=>?_)
  ·simp only[jb]at hlt
   have hjl:j<g.rs.length:=by omega
   have hx:g.rs[j]? =some g.rs[j]:=by simp[hjl]
   refine⟨⟨by omega,by omega⟩,?_⟩;rw[jk];refine(hg.grow s5.bh).root hx ?_;refine St.nw (St.bp W2) λr2 w6 s6 g6 _=>s6.st (i:=0) (by simp) trivial λw7 s7=>s7.st (i:=1) (by simp) trivial λw8 s8=>?_;refine aL (λb W3=>b= !fQ g.rs g.xs.length j/\Grow W2 W3) ?_ ?_
   ·rw[aR]
    have s9:=s8.drew;refine s9.ld (i:=0) (s:=.str) (p:=bytesOf g.rs[j].1) rfl ?_;refine ak (Ye g.rs[j].1 _) ?_;rintro _ iF ⟨rfl,QF⟩;have bH:=s9.grow QF;rw[AA,pL hx];refine ah (λh=>⟨?_,bH.bh⟩) λh=>?_
    ·have:e9 g.rs[j].1=false:=by simpa using h
     rw[this];rfl
    have hnm:e9 g.rs[j].1=true:=by simpa using h
    rw[hnm,Bool.true_and];have tail:(decide (j=0)||Op.bytesLess ((g.rs[j-1]?.map (·.1)).getD []) g.rs[j].1)=true->∀(b:Bool),b= !(decide (0<=g.rs[j].2)&&decide (g.rs[j].2<g.xs.length))->b= !((decide (j=0)||Op.bytesLess ((g.rs[j-1]?.map (·.1)).getD []) g.rs[j].1)&&decide (0<=g.rs[j].2)&&decide (g.rs[j].2<g.xs.length)):=by
     intro h1 b hb;rw[h1,Bool.true_and];exact hb
    refine ah (λh0=>?_) λh0=>?_
    ·simp only[jb]at h0
     have R8:IntKind.wrap .i64 ((j:Int)-1)=((j-1:Nat):Int):=by rw[wrap_i64 (by omega)];omega
     rw[R8];refine((s5.grow bH.bh).af 1).ld (s:=.slice) (p:=g.gr) rfl ?_;refine⟨⟨by omega,by omega⟩,?_⟩;rw[jk];have LH:j-1<g.rs.length:=by omega
     have cW:g.rs[j-1]? =some g.rs[j-1]:=by simp[LH]
     refine(hg.grow (s5.grow bH.bh).bh).oc (j:=0) (c:=.str) (p:=bytesOf g.rs[j-1].1) cW rfl ?_;refine bH.ld (i:=0) (s:=.str) (p:=bytesOf g.rs[j].1) rfl ?_;rw[aS,aS];have e0:(decide (j=0))=false:=decide_eq_false (by omega);have e1:((g.rs[j-1]?.map (·.1)).getD [])=g.rs[j-1].1:=by rw[cW];rfl
     rw[e0,e1,Bool.false_or]at tail;rw[e0,e1,Bool.false_or];refine ah (λh1=>⟨?_,bH.bh⟩) λh1=>?_
     ·have:Op.bytesLess g.rs[j-1].1 g.rs[j].1=false:=by simpa using h1
      rw[this];rfl
     have vc:Op.bytesLess g.rs[j-1].1 g.rs[j].1=true:=by simpa using h1
     refine bH.ld (i:=1) (s:=.int .i64) (p:=g.rs[j].2) rfl ?_;refine ah (λh2=>⟨tail vc _ ?_,bH.bh⟩) λh2=>?_
     ·simp only[jb]at h2
      rw[decide_eq_false (show¬0<=g.rs[j].2 by omega)];rfl
     simp only[ja]at h2;refine bH.ld (i:=1) (s:=.int .i64) (p:=g.rs[j].2) rfl ?_;refine(s5.grow bH.bh).Ab (s:=.int .i64) (p:=(g.xs.length:Int)) rfl ⟨tail vc _ ?_,bH.bh⟩;rw[decide_eq_true (show 0<=g.rs[j].2 by omega),Bool.true_and,<-decide_not];apply decide_eq_decide.2;omega
    ·simp only[ja]at h0
     have e0:(decide (j=0))=true:=decide_eq_true (by omega);rw[e0,Bool.true_or]at tail;rw[e0,Bool.true_or];refine bH.ld (i:=1) (s:=.int .i64) (p:=g.rs[j].2) rfl ?_;refine ah (λh2=>⟨tail rfl _ ?_,bH.bh⟩) λh2=>?_
     ·simp only[jb]at h2
      rw[decide_eq_false (show¬0<=g.rs[j].2 by omega)];rfl
     simp only[ja]at h2;refine bH.ld (i:=1) (s:=.int .i64) (p:=g.rs[j].2) rfl ?_;refine(s5.grow bH.bh).Ab (s:=.int .i64) (p:=(g.xs.length:Int)) rfl ⟨tail rfl _ ?_,bH.bh⟩;rw[decide_eq_true (show 0<=g.rs[j].2 by omega),Bool.true_and,<-decide_not];apply decide_eq_decide.2;omega
   ·rintro _ W3 ⟨rfl,R9⟩
    have Lp:=Grow.trans g4 R9;refine ah (λh1=>⟨?_,Grow.trans gw Lp⟩) λh1=>?_
    ·have hr:fQ g.rs g.xs.length j=false:=by simpa only[Bool.not_eq_true']using h1
     exact gK (fin _ (sg hjl hr))
    ·have hr:fQ g.rs g.xs.length j=true:=by simpa only[Bool.not_eq_false']using h1
     rw[ax (by omega)];refine⟨⟨j+1,rfl,by omega,λi hij=>?_,Lp⟩,by omega⟩;by_cases h3:i=j
     ·subst h3;exact hr
     ·exact hall i (by omega)
  ·simp only[ja]at hge
   refine⟨ov (fin _ (r9 λi hi=>hall i (by omega))),Grow.trans gw g4⟩
theorem WQ(g:GS)(w:World)(hg:RG w aA g):Calls Pq 114 #[g.v] w (aC [.c (.int .i64)] λr w'=>r=ei g.m/\Grow w w'):=by
 refine yM g.gn g.gr _ _ ?_;unfold Od;simp only[ag];have gy:=hg.nl;have hrl:=hg.rl;have hn2:=hg.sm.nl;have xK:=hg.sm.rl;have hml:g.m.n.length=g.xs.length:=by simp[GS.m]
 refine St.nw (St.bp w) λr w1 s1 g1 _=>?_;refine aL (λb W=>b= !(decide (g.m.n.length<=8192)&&decide (g.m.r.length<=512))/\w1=W) ?_ ?_
 ·refine s1.ld (i:=0) (s:=.slice) (p:=g.gn) rfl ?_
  refine ah (λh=>⟨?_,rfl⟩) λh=>?_
  ·simp only[jb]at h
   rw[decide_eq_false (show¬g.m.n.length<=8192 by omega)];rfl
  simp only[ja]at h;refine s1.ld (i:=1) (s:=.slice) (p:=g.gr) rfl ⟨?_,rfl⟩;rw[decide_eq_true (show g.m.n.length<=8192 by omega),Bool.true_and,<-decide_not];apply decide_eq_decide.2;show _↔¬g.rs.length<=512;omega
 rintro _ _ ⟨rfl,rfl⟩;refine ah (λh=>⟨?_,g1⟩) λh=>?_
 ·refine gK ?_
  unfold e7;have:(decide (g.m.n.length<=8192)&&decide (g.m.r.length<=512))=false:=by simpa only[Bool.not_eq_true']using h
  rw[this,Bool.false_and,Bool.false_and]
 have Sa:(decide (g.m.n.length<=8192)&&decide (g.m.r.length<=512))=true:=by simpa only[Bool.not_eq_false']using h
 refine aB (λz W=>∃j:Nat,z=j/\j<=g.xs.length/\(∀i (h:i<g.xs.length),i<j->ec g.xs.length g.xs[i].m=true)/\Grow w1 W) (λz _=>g.xs.length-z.toNat) ⟨0,rfl,by omega,λ_ _ h=>by omega,Mod.refl _ _⟩ ?_;rintro _ W ⟨j,rfl,hj,hall,gW⟩;have s3:=s1.grow gW;refine s3.ld (i:=0) (s:=.slice) (p:=g.gn) rfl ?_;refine ah (λhlt=>?_) (λhge=>?_)
 ·simp only[jb]at hlt
  have hjl:j<g.xs.length:=by omega
  rw[aR];have s4:=s3.drew;refine s4.ld (i:=0) (s:=.slice) (p:=g.gn) rfl ?_;refine⟨⟨by omega,by omega⟩,?_⟩;rw[jk];have hx:g.xs[j]? =some g.xs[j]:=by simp[hjl]
  refine(hg.grow s4.bh).node hx ?_;refine s4.ld (i:=0) (s:=.slice) (p:=g.gn) rfl ?_;rw[gy];refine ak (Yg g.xs[j] g.xs.length _ ((hg.grow s4.bh).rn (List.getElem_mem hjl))) ?_;rintro _ w5 ⟨rfl,g5⟩;have gg:Grow w1 w5:=Grow.trans gW.drew g5;refine ah (λh2=>⟨?_,Grow.trans g1 gg⟩) λh2=>?_
  ·have h3:ec g.xs.length g.xs[j].m=false:=by simpa only[Bool.not_eq_true']using h2
   refine gK ?_;unfold e7;have:g.m.n.all (ec g.m.n.length)=false:=by
    rw[hml,List.all_eq_false];exact⟨g.xs[j].m,kg.2 ⟨_,List.getElem_mem hjl,rfl⟩,by simp[h3]⟩
   rw[this,Bool.and_false,Bool.false_and]
  ·have h3:ec g.xs.length g.xs[j].m=true:=by simpa only[Bool.not_eq_false']using h2
   rw[ax (by omega)];refine⟨⟨j+1,rfl,by omega,λi hi hij=>?_,gg⟩,by omega⟩;by_cases h4:i=j
   ·subst h4;exact h3
   ·exact hall i hi (by omega)
 ·simp only[ja]at hge
  have LI:g.m.n.all (ec g.m.n.length)=true:=by
   rw[hml,List.all_eq_true];intro n hn;obtain⟨x,hx,rfl⟩:=kg.1 hn;obtain⟨i,hi,rfl⟩:=List.mem_iff_getElem.1 hx;exact hall i hi (by omega)
  have hok:(decide (g.m.n.length<=8192)&&decide (g.m.r.length<=512)&&g.m.n.all (ec g.m.n.length))=true:=by rw[Sa,LI];rfl
  have fin:∀b,(List.range g.rs.length).all (fQ g.rs g.xs.length)=b->e7 g.m=b:=by
   intro b hb;unfold e7;rw[hok,Bool.true_and,hml];exact hb
  clear hall;have gw:=s3.bh;refine aB (λz W2=>∃j:Nat,z=j/\j<=g.rs.length/\(∀i,i<j->fQ g.rs g.xs.length i=true)/\Grow W W2) (λz _=>g.rs.length-z.toNat) ⟨0,rfl,by omega,λ_ h=>by omega,Mod.refl _ _⟩ ?_;rintro _ W2 ⟨j,rfl,hj,hall,g4⟩;have s5:=s3.grow g4;refine s5.ld (i:=1) (s:=.slice) (p:=g.gr) rfl ?_;refine ah (λhlt=>?_) (λhge=>?_)
  ·simp only[jb]at hlt
   have hjl:j<g.rs.length:=by omega
   have hx:g.rs[j]? =some g.rs[j]:=by simp[hjl]
   refine s5.ld (i:=1) (s:=.slice) (p:=g.gr) rfl ?_;refine⟨⟨by omega,by omega⟩,?_⟩;rw[jk];refine(hg.grow s5.bh).root hx ?_;refine St.nw (St.bp W2) λr2 w6 s6 g6 _=>s6.st (i:=0) (by simp) trivial λw7 s7=>s7.st (i:=1) (by simp) trivial λw8 s8=>?_;refine aL (λb W3=>b= !fQ g.rs g.xs.length j/\Grow W2 W3) ?_ ?_
   ·rw[aR]
    have s9:=s8.drew;refine s9.ld (i:=0) (s:=.str) (p:=bytesOf g.rs[j].1) rfl ?_;refine ak (Ya g.rs[j].1 _) ?_;rintro _ iF ⟨rfl,rfl⟩;have bH:=s9;rw[AA,pL hx];refine ah (λh=>⟨?_,bH.bh⟩) λh=>?_
    ·have:e9 g.rs[j].1=false:=by simpa using h
     rw[this];rfl
    have hnm:e9 g.rs[j].1=true:=by simpa using h
    rw[hnm,Bool.true_and];have tail:(decide (j=0)||Op.bytesLess ((g.rs[j-1]?.map (·.1)).getD []) g.rs[j].1)=true->∀(b:Bool),b= !(decide (0<=g.rs[j].2)&&decide (g.rs[j].2<g.xs.length))->b= !((decide (j=0)||Op.bytesLess ((g.rs[j-1]?.map (·.1)).getD []) g.rs[j].1)&&decide (0<=g.rs[j].2)&&decide (g.rs[j].2<g.xs.length)):=by
     intro h1 b hb;rw[h1,Bool.true_and];exact hb
    refine ah (λh0=>?_) λh0=>?_
    ·simp only[jb]at h0
     have R8:IntKind.wrap .i64 ((j:Int)-1)=((j-1:Nat):Int):=by rw[wrap_i64 (by omega)];omega
     rw[R8];refine(s5.grow bH.bh).ld (i:=1) (s:=.slice) (p:=g.gr) rfl ?_;refine⟨⟨by omega,by omega⟩,?_⟩;rw[jk];have LH:j-1<g.rs.length:=by omega
     have cW:g.rs[j-1]? =some g.rs[j-1]:=by simp[LH]
     refine(hg.grow (s5.grow bH.bh).bh).oc (j:=0) (c:=.str) (p:=bytesOf g.rs[j-1].1) cW rfl ?_;refine bH.ld (i:=0) (s:=.str) (p:=bytesOf g.rs[j].1) rfl ?_;rw[aS,aS];have e0:(decide (j=0))=false:=decide_eq_false (by omega);have e1:((g.rs[j-1]?.map (·.1)).getD [])=g.rs[j-1].1:=by rw[cW];rfl
     rw[e0,e1,Bool.false_or]at tail;rw[e0,e1,Bool.false_or];refine ah (λh1=>⟨?_,bH.bh⟩) λh1=>?_
     ·have:Op.bytesLess g.rs[j-1].1 g.rs[j].1=false:=by simpa using h1
      rw[this];rfl
     have vc:Op.bytesLess g.rs[j-1].1 g.rs[j].1=true:=by simpa using h1
     refine bH.ld (i:=1) (s:=.int .i64) (p:=g.rs[j].2) rfl ?_;refine ah (λh2=>⟨tail vc _ ?_,bH.bh⟩) λh2=>?_
     ·simp only[jb]at h2
      rw[decide_eq_false (show¬0<=g.rs[j].2 by omega)];rfl
     simp only[ja]at h2;refine bH.ld (i:=1) (s:=.int .i64) (p:=g.rs[j].2) rfl ?_;refine(s5.grow bH.bh).ld (i:=0) (s:=.slice) (p:=g.gn) rfl ⟨tail vc _ ?_,bH.bh⟩;rw[decide_eq_true (show 0<=g.rs[j].2 by omega),Bool.true_and,<-decide_not];apply decide_eq_decide.2;omega
    ·simp only[ja]at h0
     have e0:(decide (j=0))=true:=decide_eq_true (by omega);rw[e0,Bool.true_or]at tail;rw[e0,Bool.true_or];refine bH.ld (i:=1) (s:=.int .i64) (p:=g.rs[j].2) rfl ?_;refine ah (λh2=>⟨tail rfl _ ?_,bH.bh⟩) λh2=>?_
     ·simp only[jb]at h2
      rw[decide_eq_false (show¬0<=g.rs[j].2 by omega)];rfl
     simp only[ja]at h2;refine bH.ld (i:=1) (s:=.int .i64) (p:=g.rs[j].2) rfl ?_;refine(s5.grow bH.bh).ld (i:=0) (s:=.slice) (p:=g.gn) rfl ⟨tail rfl _ ?_,bH.bh⟩;rw[decide_eq_true (show 0<=g.rs[j].2 by omega),Bool.true_and,<-decide_not];apply decide_eq_decide.2;omega
   ·rintro _ W3 ⟨rfl,R9⟩
    have Lp:=Grow.trans g4 R9;refine ah (λh1=>⟨?_,Grow.trans gw Lp⟩) λh1=>?_
    ·have hr:fQ g.rs g.xs.length j=false:=by simpa only[Bool.not_eq_true']using h1
     exact gK (fin _ (sg hjl hr))
    ·have hr:fQ g.rs g.xs.length j=true:=by simpa only[Bool.not_eq_false']using h1
     rw[ax (by omega)];refine⟨⟨j+1,rfl,by omega,λi hij=>?_,Lp⟩,by omega⟩;by_cases h3:i=j
     ·subst h3;exact hr
     ·exact hall i (by omega)
  ·simp only[ja]at hge
   refine⟨ov (fin _ (r9 λi hi=>hall i (by omega))),Grow.trans gw g4⟩
set_option maxRecDepth 100000
def S1:An:=(.sq .z (.sq .z .z))
def V4(aD:Int)(az:Sl)(bL:Sl)(gP:Int)(ga:Sl)(CZ:Sl)(Q:Bool->Pr):Pr:=
 nw (.cells #[(.int .i64 aD),(.slice az.a az.len az.cap),(.slice bL.a bL.len bL.cap)] 62) λr=>
 nw (.cells #[(.int .i64 gP),(.slice ga.a ga.len ga.cap),(.slice CZ.a CZ.len CZ.cap)] 62) λr_1=>
 deref (some ⟨r,0,none⟩) λa=>
 deref (some (a.add 0)) λa_1=>
 au (.int .i64) a_1 λ(t6:Int)=>
 deref (some ⟨r_1,0,none⟩) λa_2=>
 deref (some (a_2.add 0)) λbX=>
 au (.int .i64) bX λ(t8:Int)=>
 br (t6==t8) (
 deref (some ⟨r,0,none⟩) λc6=>
 deref (some (c6.add 1)) λc7=>
 au .slice c7 λ(t12:Sl)=>
 deref (some ⟨r_1,0,none⟩) λcV=>
 deref (some (cV.add 1)) λdy=>
 au .slice dy λ(t14:Sl)=>
 cB 113 [(.slice t12.a t12.len t12.cap),(.slice t14.a t14.len t14.cap)] λt15=>
 br t15 (
 deref (some ⟨r,0,none⟩) λdO=>
 deref (some (dO.add 2)) λdP=>
 au .slice dP λ(t19:Sl)=>
 deref (some ⟨r_1,0,none⟩) λbu=>
 deref (some (bu.add 2)) λbF=>
 au .slice bF λ(t21:Sl)=>
 cB 11 [(.slice t19.a t19.len t19.cap),(.slice t21.a t21.len t21.cap)] λt22=>
 Q t22) (
 Q false)) (
 Q false)
theorem Cr(aD:Int)(az:Sl)(bL:Sl)(gP:Int)(ga:Sl)(CZ:Sl)(Q:Bool->Pr)(w:World)(h:V4 aD az bL gP ga CZ Q w):Calls Pq 68 #[(.agg #[(.int .i64 aD),(slV az),(slV bL)]),(.agg #[(.int .i64 gP),(slV ga),(slV CZ)])] w (aC [.c .bool] Q):=cF (an:=S1) Tryz.func68 (by kernel_rfl) h
def O5:An:=(.sq .z (.sq (.sq .z (.br (.sq .z .z) .z)) (.sq (.sq .z (.bl (.lp [(13,.c (.int .i64))] (.sq .z (.sq (.br .z .z) (.sq (.bl (.sq .z (.sq .z (.br (.sq .z .z) .z)))) .z)))))) (.sq .z .z))))
def Oe(p0:Sl)(p1:Sl)(Q:Bool->Pr):Pr:=
 br ((p0.len:Int)!=(p1.len:Int)) (
 Q false) (
 aM (S:=Int) (λX s=>
 br (decide (s<(p0.len:Int))) (
 jE<|
 aP ((0:Int)<=s/\s<(p0.len:Int))<|
 deref p0.a λa=>
 deref (some (a.add (Int.toNat s*1))) λa_1=>
 au (.int .i64) a_1 λ(t19:Int)=>
 aP ((0:Int)<=s/\s<(p1.len:Int))<|
 deref p1.a λa_2=>
 deref (some (a_2.add (Int.toNat s*1))) λbX=>
 au (.int .i64) bX λ(t23:Int)=>
 br (t19 !=t23) (
 Q false) (
 X ((IntKind.wrap .i64 (s+1))))) (
 Q true)) 0)
theorem yN(p0:Sl)(p1:Sl)(Q:Bool->Pr)(w:World)(h:Oe p0 p1 Q w):Calls Pq 113 #[(slV p0),(slV p1)] w (aC [.c .bool] Q):=cF (an:=O5) Tryz.func113 (by kernel_rfl) h
def S2:An:=(.sq .z (.sq (.sq .z (.br (.sq .z .z) .z)) (.sq (.sq .z (.bl (.lp [(13,.c (.int .i64))] (.sq .z (.sq (.br .z .z) (.sq (.bl (.sq .z (.sq .z (.br (.sq .z .z) .z)))) .z)))))) (.sq .z .z))))
def V3(p0:Sl)(p1:Sl)(Q:Bool->Pr):Pr:=
 br ((p0.len:Int)!=(p1.len:Int)) (
 Q false) (
 aM (S:=Int) (λX s=>
 br (decide (s<(p0.len:Int))) (
 jE<|
 aP ((0:Int)<=s/\s<(p0.len:Int))<|
 deref p0.a λa=>
 deref (some (a.add (Int.toNat s*2))) λa_1=>
 aQ [.str,(.int .i64)] a_1 λ(t19:ByteArray×Int)=>
 aP ((0:Int)<=s/\s<(p1.len:Int))<|
 deref p1.a λa_2=>
 deref (some (a_2.add (Int.toNat s*2))) λbX=>
 aQ [.str,(.int .i64)] bX λ(t23:ByteArray×Int)=>
 br (!((t19.1.toList==t23.1.toList)&&((t19.2==t23.2)&&true))) (
 Q false) (
 X ((IntKind.wrap .i64 (s+1))))) (
 Q true)) 0)
theorem Cq(p0:Sl)(p1:Sl)(Q:Bool->Pr)(w:World)(h:V3 p0 p1 Q w):Calls Pq 69 #[(slV p0),(slV p1)] w (aC [.c .bool] Q):=cF (an:=S2) Tryz.func69 (by kernel_rfl) h
def S3:An:=(.sq .z (.sq (.sq .z (.br (.sq .z .z) .z)) (.sq (.sq .z (.bl (.lp [(17,.c (.int .i64))] (.sq .z (.sq (.br .z .z) (.sq (.bl (.sq .z (.sq .z (.sq .z (.br (.sq .z .z) .z))))) .z)))))) (.sq .z .z))))
def V5(p0:Sl)(p1:Sl)(p2:Value)(Q:Bool->Pr):Pr:=
 br ((p0.len:Int)!=(p1.len:Int)) (
 Q false) (
 aM (S:=Int) (λX s=>
 br (decide (s<(p0.len:Int))) (
 aP ((0:Int)<=s/\s<(p0.len:Int))<|
 deref p0.a λa=>
 deref (some (a.add (Int.toNat s*3))) λa_1=>
 aQ [(.int .i64),.slice,.slice] a_1 λ(t21:Int×Sl×Sl)=>
 nw (.cells #[(.int .i64 0),(.slice none 0 0),(.slice none 0 0)] 62) λr=>
 deref (some ⟨r,0,none⟩) λa_2=>
 st (a_2.add 0) (.int .i64 t21.1)<|
 st (a_2.add 1) (.slice t21.2.1.a t21.2.1.len t21.2.1.cap)<|
 st (a_2.add 2) (.slice t21.2.2.a t21.2.2.len t21.2.2.cap)<|
 aP ((0:Int)<=s/\s<(p1.len:Int))<|
 deref p1.a λbX=>
 deref (some (bX.add (Int.toNat s*3))) λc6=>
 aQ [(.int .i64),.slice,.slice] c6 λ(t25:Int×Sl×Sl)=>
 nw (.cells #[(.int .i64 0),(.slice none 0 0),(.slice none 0 0)] 62) λr_1=>
 deref (some ⟨r_1,0,none⟩) λc7=>
 st (c7.add 0) (.int .i64 t25.1)<|
 st (c7.add 1) (.slice t25.2.1.a t25.2.1.len t25.2.1.cap)<|
 st (c7.add 2) (.slice t25.2.2.a t25.2.2.len t25.2.2.cap)<|
 deref (some ⟨r,0,none⟩) λcV=>
 aQ [(.int .i64),.slice,.slice] cV λ(t27:Int×Sl×Sl)=>
 deref (some ⟨r_1,0,none⟩) λdy=>
 aQ [(.int .i64),.slice,.slice] dy λ(t28:Int×Sl×Sl)=>
 cE Pq p2 [(.agg #[(.int .i64 t27.1),(.slice t27.2.1.a t27.2.1.len t27.2.1.cap),(.slice t27.2.2.a t27.2.2.len t27.2.2.cap)]),(.agg #[(.int .i64 t28.1),(.slice t28.2.1.a t28.2.1.len t28.2.1.cap),(.slice t28.2.2.a t28.2.2.len t28.2.2.cap)])] [.c .bool] λ(t29:Bool)=>
 br (!t29) (
 Q false) (
 X ((IntKind.wrap .i64 (s+1))))) (
 Q true)) 0)
theorem Cs(p0:Sl)(p1:Sl)(p2:Value)(Q:Bool->Pr)(w:World)(h:V5 p0 p1 p2 Q w):Calls Pq 67 #[(slV p0),(slV p1),p2] w (aC [.c .bool] Q):=cF (an:=S3) Tryz.func67 (by kernel_rfl) h
def S4:An:=(.sq .z (.sq .z .z))
def V6(aD:Sl)(az:Sl)(gP:Sl)(ga:Sl)(Q:Bool->Pr):Pr:=
 nw (.cells #[(.slice aD.a aD.len aD.cap),(.slice az.a az.len az.cap)] 32) λr=>
 nw (.cells #[(.slice gP.a gP.len gP.cap),(.slice ga.a ga.len ga.cap)] 32) λr_1=>
 deref (some ⟨r,0,none⟩) λa=>
 deref (some (a.add 0)) λa_1=>
 au .slice a_1 λ(t6:Sl)=>
 deref (some ⟨r_1,0,none⟩) λa_2=>
 deref (some (a_2.add 0)) λbX=>
 au .slice bX λ(t8:Sl)=>
 cB 67 [(.slice t6.a t6.len t6.cap),(.slice t8.a t8.len t8.cap),(.func (.func 68) #[] #[])] λt9=>
 br t9 (
 deref (some ⟨r,0,none⟩) λc6=>
 deref (some (c6.add 1)) λc7=>
 au .slice c7 λ(t12:Sl)=>
 deref (some ⟨r_1,0,none⟩) λcV=>
 deref (some (cV.add 1)) λdy=>
 au .slice dy λ(t14:Sl)=>
 cB 69 [(.slice t12.a t12.len t12.cap),(.slice t14.a t14.len t14.cap)] λt15=>
 Q t15) (
 Q false)
theorem Ct(aD:Sl)(az:Sl)(gP:Sl)(ga:Sl)(Q:Bool->Pr)(w:World)(h:V6 aD az gP ga Q w):Calls Pq 30 #[(.agg #[(slV aD),(slV az)]),(.agg #[(slV gP),(slV ga)])] w (aC [.c .bool] Q):=cF (an:=S4) Tryz.func30 (by kernel_rfl) h
def S5:An:=(.sq .z (.sq (.sq (.jn [(24,.c .bool)] .z) (.br (.sq .z .z) .z)) (.sq (.sq .z (.bl (.lp [(5,.c (.int .i64))] (.sq (.sq .z (.br .z .z)) (.sq (.bl (.sq .z (.sq .z (.sq (.jn [(63,.c .bool)] .z) (.br (.sq .z .z) .z))))) .z))))) (.sq (.sq .z (.bl (.lp [(8,.c (.int .i64))] (.sq (.sq .z (.br .z .z)) (.sq (.bl (.sq .z (.br (.sq .z .z) .z))) .z))))) (.sq .z .z)))))
def V7(aD:Sl)(az:Sl)(gP:Sl)(ga:Sl)(Q:Bool->Pr):Pr:=
 nw (.cells #[(.slice aD.a aD.len aD.cap),(.slice az.a az.len az.cap)] 32) λr=>
 nw (.cells #[(.slice gP.a gP.len gP.cap),(.slice ga.a ga.len ga.cap)] 32) λr_1=>
 jn (S:=Bool) (λR=>
 deref (some ⟨r,0,none⟩) λa=>
 deref (some (a.add 0)) λa_1=>
 au .slice a_1 λ(t10:Sl)=>
 deref (some ⟨r_1,0,none⟩) λa_2=>
 deref (some (a_2.add 0)) λbX=>
 au .slice bX λ(t13:Sl)=>
 br ((t10.len:Int)!=(t13.len:Int)) (
 R true) (
 deref (some ⟨r,0,none⟩) λc6=>
 deref (some (c6.add 1)) λc7=>
 au .slice c7 λ(t18:Sl)=>
 deref (some ⟨r_1,0,none⟩) λcV=>
 deref (some (cV.add 1)) λdy=>
 au .slice dy λ(t21:Sl)=>
 R (((t18.len:Int)!=(t21.len:Int))))) λs=>
 br s (
 Q false) (
 aM (S:=Int) (λX s_1=>
 deref (some ⟨r,0,none⟩) λdO=>
 deref (some (dO.add 0)) λdP=>
 au .slice dP λ(t27:Sl)=>
 br (decide (s_1<(t27.len:Int))) (
 deref (some ⟨r,0,none⟩) λbu=>
 deref (some (bu.add 0)) λbF=>
 au .slice bF λ(t33:Sl)=>
 aP ((0:Int)<=s_1/\s_1<(t33.len:Int))<|
 deref t33.a λbw=>
 deref (some (bw.add (Int.toNat s_1*3))) λbJ=>
 aQ [(.int .i64),.slice,.slice] bJ λ(t36:Int×Sl×Sl)=>
 nw (.cells #[(.int .i64 0),(.slice none 0 0),(.slice none 0 0)] 62) λr_2=>
 deref (some ⟨r_2,0,none⟩) λbW=>
 st (bW.add 0) (.int .i64 t36.1)<|
 st (bW.add 1) (.slice t36.2.1.a t36.2.1.len t36.2.1.cap)<|
 st (bW.add 2) (.slice t36.2.2.a t36.2.2.len t36.2.2.cap)<|
 deref (some ⟨r_1,0,none⟩) λbS=>
 deref (some (bS.add 0)) λcm=>
 au .slice cm λ(t38:Sl)=>
 aP ((0:Int)<=s_1/\s_1<(t38.len:Int))<|
 deref t38.a λcx=>
 deref (some (cx.add (Int.toNat s_1*3))) λcy=>
 aQ [(.int .i64),.slice,.slice] cy λ(t41:Int×Sl×Sl)=>
 nw (.cells #[(.int .i64 0),(.slice none 0 0),(.slice none 0 0)] 62) λr_3=>
 deref (some ⟨r_3,0,none⟩) λcz=>
 st (cz.add 0) (.int .i64 t41.1)<|
 st (cz.add 1) (.slice t41.2.1.a t41.2.1.len t41.2.1.cap)<|
 st (cz.add 2) (.slice t41.2.2.a t41.2.2.len t41.2.2.cap)<|
 jn (S:=Bool) (λbG=>
 deref (some ⟨r_2,0,none⟩) λdz=>
 deref (some (dz.add 0)) λdQ=>
 au (.int .i64) dQ λ(t43:Int)=>
 deref (some ⟨r_3,0,none⟩) λdR=>
 deref (some (dR.add 0)) λep=>
 au (.int .i64) ep λ(t45:Int)=>
 br (t43 !=t45) (
 bG true) (
 deref (some ⟨r_2,0,none⟩) λe8=>
 deref (some (e8.add 1)) λfu=>
 au .slice fu λ(t49:Sl)=>
 deref (some ⟨r_3,0,none⟩) λfy=>
 deref (some (fy.add 1)) λfZ=>
 au .slice fZ λ(t51:Sl)=>
 cB 32 [(.slice t49.a t49.len t49.cap),(.slice t51.a t51.len t51.cap)] λt52=>
 br (!t52) (
 bG true) (
 deref (some ⟨r_2,0,none⟩) λfA=>
 deref (some (fA.add 2)) λgq=>
 au .slice gq λ(t57:Sl)=>
 yS t57 λt58=>
 deref (some ⟨r_3,0,none⟩) λiA=>
 deref (some (iA.add 2)) λjO=>
 au .slice jO λ(t60:Sl)=>
 yS t60 λt61=>
 bG ((!(t58.toList==t61.toList)))))) λs_2=>
 br s_2 (
 Q false) (
 X ((IntKind.wrap .i64 (s_1+1))))) (
 aM (S:=Int) (λjM dB=>
 deref (some ⟨r,0,none⟩) λkO=>
 deref (some (kO.add 1)) λlT=>
 au .slice lT λ(t66:Sl)=>
 br (decide (dB<(t66.len:Int))) (
 jE<|
 deref (some ⟨r,0,none⟩) λkP=>
 deref (some (kP.add 1)) λlg=>
 au .slice lg λ(t72:Sl)=>
 aP ((0:Int)<=dB/\dB<(t72.len:Int))<|
 deref t72.a λlU=>
 deref (some (lU.add (Int.toNat dB*2))) λlV=>
 aQ [.str,(.int .i64)] lV λ(t75:ByteArray×Int)=>
 deref (some ⟨r_1,0,none⟩) λlW=>
 deref (some (lW.add 1)) λlX=>
 au .slice lX λ(t77:Sl)=>
 aP ((0:Int)<=dB/\dB<(t77.len:Int))<|
 deref t77.a λlY=>
 deref (some (lY.add (Int.toNat dB*2))) λm9=>
 aQ [.str,(.int .i64)] m9 λ(t80:ByteArray×Int)=>
 br (!((t75.1.toList==t80.1.toList)&&((t75.2==t80.2)&&true))) (
 Q false) (
 jM ((IntKind.wrap .i64 (dB+1))))) (
 Q true)) 0)) 0)
theorem Cu(aD:Sl)(az:Sl)(gP:Sl)(ga:Sl)(Q:Bool->Pr)(w:World)(h:V7 aD az gP ga Q w):Calls Pq 13 #[(.agg #[(slV aD),(slV az)]),(.agg #[(slV gP),(slV ga)])] w (aC [.c .bool] Q):=cF (an:=S5) Tryz.func13 (by kernel_rfl) h
def O6:An:=(.sq .z (.sq .z .z))
def Og(aD:Int)(az:Sl)(bL:Sl)(Q:Int×Sl×Sl->Pr):Pr:=
 nw (.cells #[(.int .i64 aD),(.slice az.a az.len az.cap),(.slice bL.a bL.len bL.cap)] 62) λr=>
 nw (.cells #[(.int .i64 0),(.slice none 0 0),(.slice none 0 0)] 62) λr_1=>
 jE<|
 deref (some ⟨r,0,none⟩) λa=>
 deref (some ⟨r,0,none⟩) λa_1=>
 deref (some (a_1.add 1)) λa_2=>
 au .slice a_2 λ(t6:Sl)=>
 deref (some ⟨r,0,none⟩) λbX=>
 both (
 deref (some (a.add 0)) λc6=>
 au (.int .i64) c6 λ(t4:Int)=>
 both (
 cS 163 [(.slice t6.a t6.len t6.cap)] λt7=>
 deref (some (bX.add 2)) λc7=>
 au .slice c7 λ(t9:Sl)=>
 cS 62 [(.slice t9.a t9.len t9.cap)] λt10=>
 deref (some ⟨r_1,0,none⟩) λcV=>
 st (cV.add 0) (.int .i64 t4)<|
 st (cV.add 1) (.slice t7.a t7.len t7.cap)<|
 st (cV.add 2) (.slice t10.a t10.len t10.cap)<|
 deref (some ⟨r_1,0,none⟩) λdy=>
 aQ [(.int .i64),.slice,.slice] dy λ(res:Int×Sl×Sl)=>
 Q ((res.1,res.2.1,res.2.2))) (
 deref (some (bX.add 2)) λdO=>
 au .slice dO λ(Md:Sl)=>
 cS 163 [(.slice t6.a t6.len t6.cap)] λMe=>
 cS 62 [(.slice Md.a Md.len Md.cap)] λFx=>
 deref (some ⟨r_1,0,none⟩) λdP=>
 st (dP.add 0) (.int .i64 t4)<|
 st (dP.add 1) (.slice Me.a Me.len Me.cap)<|
 st (dP.add 2) (.slice Fx.a Fx.len Fx.cap)<|
 deref (some ⟨r_1,0,none⟩) λbu=>
 aQ [(.int .i64),.slice,.slice] bu λ(cX:Int×Sl×Sl)=>
 Q ((cX.1,cX.2.1,cX.2.2)))) (
 both (
 cS 163 [(.slice t6.a t6.len t6.cap)] λC0=>
 deref (some (bX.add 2)) λbF=>
 au .slice bF λ(C1:Sl)=>
 both (
 deref (some (a.add 0)) λbw=>
 au (.int .i64) bw λ(S6:Int)=>
 cS 62 [(.slice C1.a C1.len C1.cap)] λFy=>
 deref (some ⟨r_1,0,none⟩) λbJ=>
 st (bJ.add 0) (.int .i64 S6)<|
 st (bJ.add 1) (.slice C0.a C0.len C0.cap)<|
 st (bJ.add 2) (.slice Fy.a Fy.len Fy.cap)<|
 deref (some ⟨r_1,0,none⟩) λbW=>
 aQ [(.int .i64),.slice,.slice] bW λ(kQ:Int×Sl×Sl)=>
 Q ((kQ.1,kQ.2.1,kQ.2.2))) (
 cS 62 [(.slice C1.a C1.len C1.cap)] λFz=>
 deref (some (a.add 0)) λbS=>
 au (.int .i64) bS λ(S7:Int)=>
 deref (some ⟨r_1,0,none⟩) λcm=>
 st (cm.add 0) (.int .i64 S7)<|
 st (cm.add 1) (.slice C0.a C0.len C0.cap)<|
 st (cm.add 2) (.slice Fz.a Fz.len Fz.cap)<|
 deref (some ⟨r_1,0,none⟩) λcx=>
 aQ [(.int .i64),.slice,.slice] cx λ(xb:Int×Sl×Sl)=>
 Q ((xb.1,xb.2.1,xb.2.2)))) (
 deref (some (bX.add 2)) λcy=>
 au .slice cy λ(uf:Sl)=>
 both (
 deref (some (a.add 0)) λcz=>
 au (.int .i64) cz λ(S8:Int)=>
 cS 163 [(.slice t6.a t6.len t6.cap)] λMf=>
 cS 62 [(.slice uf.a uf.len uf.cap)] λFA=>
 deref (some ⟨r_1,0,none⟩) λdz=>
 st (dz.add 0) (.int .i64 S8)<|
 st (dz.add 1) (.slice Mf.a Mf.len Mf.cap)<|
 st (dz.add 2) (.slice FA.a FA.len FA.cap)<|
 deref (some ⟨r_1,0,none⟩) λdQ=>
 aQ [(.int .i64),.slice,.slice] dQ λ(sI:Int×Sl×Sl)=>
 Q ((sI.1,sI.2.1,sI.2.2))) (
 cS 163 [(.slice t6.a t6.len t6.cap)] λC2=>
 both (
 deref (some (a.add 0)) λdR=>
 au (.int .i64) dR λ(S9:Int)=>
 cS 62 [(.slice uf.a uf.len uf.cap)] λFB=>
 deref (some ⟨r_1,0,none⟩) λep=>
 st (ep.add 0) (.int .i64 S9)<|
 st (ep.add 1) (.slice C2.a C2.len C2.cap)<|
 st (ep.add 2) (.slice FB.a FB.len FB.cap)<|
 deref (some ⟨r_1,0,none⟩) λe8=>
 aQ [(.int .i64),.slice,.slice] e8 λ(xd:Int×Sl×Sl)=>
 Q ((xd.1,xd.2.1,xd.2.2))) (
 cS 62 [(.slice uf.a uf.len uf.cap)] λFC=>
 deref (some (a.add 0)) λfu=>
 au (.int .i64) fu λ(Ta:Int)=>
 deref (some ⟨r_1,0,none⟩) λfy=>
 st (fy.add 0) (.int .i64 Ta)<|
 st (fy.add 1) (.slice C2.a C2.len C2.cap)<|
 st (fy.add 2) (.slice FC.a FC.len FC.cap)<|
 deref (some ⟨r_1,0,none⟩) λfZ=>
 aQ [(.int .i64),.slice,.slice] fZ λ(sJ:Int×Sl×Sl)=>
 Q ((sJ.1,sJ.2.1,sJ.2.2))))))
theorem yO(aD:Int)(az:Sl)(bL:Sl)(Q:Int×Sl×Sl->Pr)(w:World)(h:Og aD az bL Q w):Calls Pq 110 #[(.agg #[(.int .i64 aD),(slV az),(slV bL)])] w (aC [.agg [(.int .i64),.slice,.slice]] Q):=cF (an:=O6) Tryz.func110 (by kernel_rfl) h
def Tb:An:=(.sq .z (.sq .z (.sq (.sq .z (.bl (.lp [(13,.c (.int .i64))] (.sq .z (.sq (.br .z .z) (.sq (.jn [] (.bl (.sq .z .z))) .z)))))) (.sq .z .z))))
def UQ(aD:Sl)(az:Sl)(Q:Sl×Sl->Pr):Pr:=
 nw (.cells #[(.slice aD.a aD.len aD.cap),(.slice az.a az.len az.cap)] 32) λr=>
 nw (.cells #[(.slice none 0 0),(.slice none 0 0)] 32) λr_1=>
 deref (some ⟨r,0,none⟩) λa=>
 deref (some (a.add 1)) λa_1=>
 au .slice a_1 λ(t7:Sl)=>
 cS 109 [(.slice t7.a t7.len t7.cap)] λt8=>
 nw (.cells #[(.slice none 0 0),(.slice none 0 0)] 32) λr_2=>
 deref (some ⟨r_2,0,none⟩) λa_2=>
 st (a_2.add 0) (.slice none 0 0)<|
 st (a_2.add 1) (.slice t8.a t8.len t8.cap)<|
 deref (some ⟨r,0,none⟩) λbX=>
 deref (some (bX.add 0)) λc6=>
 au .slice c6 λ(t11:Sl)=>
 aM (S:=Int) (λX s=>
 br (decide (s<(t11.len:Int))) (
 jn (S:=Unit) (λR=>
 aP ((0:Int)<=s/\s<(t11.len:Int))<|
 deref t11.a λc7=>
 deref (some (c7.add (Int.toNat s*3))) λcV=>
 aQ [(.int .i64),.slice,.slice] cV λ(t16:Int×Sl×Sl)=>
 nw (.cells #[(.int .i64 0),(.slice none 0 0),(.slice none 0 0)] 62) λr_3=>
 deref (some ⟨r_3,0,none⟩) λdy=>
 st (dy.add 0) (.int .i64 t16.1)<|
 st (dy.add 1) (.slice t16.2.1.a t16.2.1.len t16.2.1.cap)<|
 st (dy.add 2) (.slice t16.2.2.a t16.2.2.len t16.2.2.cap)<|
 jE<|
 deref (some ⟨r_2,0,none⟩) λdO=>
 deref (some ⟨r_3,0,none⟩) λdP=>
 aQ [(.int .i64),.slice,.slice] dP λ(t19:Int×Sl×Sl)=>
 both (
 deref (some (dO.add 0)) λbu=>
 au .slice bu λ(t18:Sl)=>
 aH Pq 110 [(.agg #[(.int .i64 t19.1),(.slice t19.2.1.a t19.2.1.len t19.2.1.cap),(.slice t19.2.2.a t19.2.2.len t19.2.2.cap)])] [.agg [(.int .i64),.slice,.slice]] λ(t20:Int×Sl×Sl)=>
 nw (.cells #[(.int .i64 t20.1),(.slice t20.2.1.a t20.2.1.len t20.2.1.cap),(.slice t20.2.2.a t20.2.2.len t20.2.2.cap)] 62) λnc=>
 app 62 3 56 [(.int .i64 0),(.slice none 0 0),(.slice none 0 0)] t18 ⟨(some ⟨nc,0,none⟩),1,1⟩ λt22=>
 deref (some ⟨r_2,0,none⟩) λbF=>
 deref (some (bF.add 0)) λbw=>
 st bw (.slice t22.a t22.len t22.cap)<|
 R ()) (
 aH Pq 110 [(.agg #[(.int .i64 t19.1),(.slice t19.2.1.a t19.2.1.len t19.2.1.cap),(.slice t19.2.2.a t19.2.2.len t19.2.2.cap)])] [.agg [(.int .i64),.slice,.slice]] λ(qP:Int×Sl×Sl)=>
 deref (some (dO.add 0)) λbJ=>
 au .slice bJ λ(O7:Sl)=>
 nw (.cells #[(.int .i64 qP.1),(.slice qP.2.1.a qP.2.1.len qP.2.1.cap),(.slice qP.2.2.a qP.2.2.len qP.2.2.cap)] 62) λsK=>
 app 62 3 56 [(.int .i64 0),(.slice none 0 0),(.slice none 0 0)] O7 ⟨(some ⟨sK,0,none⟩),1,1⟩ λxe=>
 deref (some ⟨r_2,0,none⟩) λbW=>
 deref (some (bW.add 0)) λbS=>
 st bS (.slice xe.a xe.len xe.cap)<|
 R ())) λs_1=>
 X ((IntKind.wrap .i64 (s+1)))) (
 deref (some ⟨r_2,0,none⟩) λcm=>
 aQ [.slice,.slice] cm λ(t25:Sl×Sl)=>
 deref (some ⟨r_1,0,none⟩) λcx=>
 st (cx.add 0) (.slice t25.1.a t25.1.len t25.1.cap)<|
 st (cx.add 1) (.slice t25.2.a t25.2.len t25.2.cap)<|
 deref (some ⟨r_1,0,none⟩) λcy=>
 aQ [.slice,.slice] cy λ(res:Sl×Sl)=>
 Q ((res.1,res.2)))) 0
theorem Bf(aD:Sl)(az:Sl)(Q:Sl×Sl->Pr)(w:World)(h:UQ aD az Q w):Calls Pq 87 #[(.agg #[(slV aD),(slV az)])] w (aC [.agg [.slice,.slice]] Q):=cF (an:=Tb) Tryz.func87 (by kernel_rfl) h
def Tc:An:=(.sq .z (.sq .z (.sq (.sq .z (.bl (.lp [(4,.c (.int .i64))] (.sq (.sq .z (.br .z .z)) (.sq (.bl (.sq .z .z)) .z))))) (.sq .z (.sq .z .z)))))
def US(aD:Sl)(az:Sl)(Q:Sl×Sl->Pr):Pr:=
 nw (.cells #[(.slice aD.a aD.len aD.cap),(.slice az.a az.len az.cap)] 32) λr=>
 nw (.cells #[(.slice none 0 0),(.slice none 0 0)] 32) λr_1=>
 nw (.cells #[(.slice none 0 0),(.slice none 0 0)] 32) λr_2=>
 aM (S:=Int) (λX s=>
 deref (some ⟨r,0,none⟩) λa=>
 deref (some (a.add 0)) λa_1=>
 au .slice a_1 λ(t8:Sl)=>
 br (decide (s<(t8.len:Int))) (
 deref (some ⟨r,0,none⟩) λa_2=>
 deref (some (a_2.add 0)) λbX=>
 au .slice bX λ(t14:Sl)=>
 aP ((0:Int)<=s/\s<(t14.len:Int))<|
 deref t14.a λc6=>
 deref (some (c6.add (Int.toNat s*3))) λc7=>
 aQ [(.int .i64),.slice,.slice] c7 λ(t17:Int×Sl×Sl)=>
 nw (.cells #[(.int .i64 0),(.slice none 0 0),(.slice none 0 0)] 62) λr_3=>
 deref (some ⟨r_3,0,none⟩) λcV=>
 st (cV.add 0) (.int .i64 t17.1)<|
 st (cV.add 1) (.slice t17.2.1.a t17.2.1.len t17.2.1.cap)<|
 st (cV.add 2) (.slice t17.2.2.a t17.2.2.len t17.2.2.cap)<|
 jE<|
 deref (some ⟨r_2,0,none⟩) λdy=>
 deref (some (dy.add 0)) λdO=>
 au .slice dO λ(t19:Sl)=>
 deref (some ⟨r_3,0,none⟩) λdP=>
 deref (some (dP.add 0)) λbu=>
 au (.int .i64) bu λ(t21:Int)=>
 deref (some ⟨r_3,0,none⟩) λbF=>
 deref (some (bF.add 1)) λbw=>
 au .slice bw λ(t23:Sl)=>
 deref (some ⟨r_3,0,none⟩) λbJ=>
 deref (some (bJ.add 2)) λbW=>
 au .slice bW λ(t26:Sl)=>
 app 3 1 8 [(.int .i64 0)] ⟨none,0,0⟩ t23 λt24=>
 app 5 1 1 [(.int .u8 0)] ⟨none,0,0⟩ t26 λt27=>
 nw (.cells #[(.int .i64 t21),(.slice t24.a t24.len t24.cap),(.slice t27.a t27.len t27.cap)] 62) λnc=>
 app 62 3 56 [(.int .i64 0),(.slice none 0 0),(.slice none 0 0)] t19 ⟨(some ⟨nc,0,none⟩),1,1⟩ λt30=>
 deref (some ⟨r_2,0,none⟩) λbS=>
 deref (some (bS.add 0)) λcm=>
 st cm (.slice t30.a t30.len t30.cap)<|
 X ((IntKind.wrap .i64 (s+1)))) (
 deref (some ⟨r,0,none⟩) λcx=>
 deref (some (cx.add 1)) λcy=>
 au .slice cy λ(t33:Sl)=>
 app 64 2 24 [(.string (⟨#[]⟩:ByteArray)),(.int .i64 0)] ⟨none,0,0⟩ t33 λt34=>
 deref (some ⟨r_2,0,none⟩) λcz=>
 deref (some (cz.add 1)) λdz=>
 st dz (.slice t34.a t34.len t34.cap)<|
 deref (some ⟨r_2,0,none⟩) λdQ=>
 aQ [.slice,.slice] dQ λ(t36:Sl×Sl)=>
 deref (some ⟨r_1,0,none⟩) λdR=>
 st (dR.add 0) (.slice t36.1.a t36.1.len t36.1.cap)<|
 st (dR.add 1) (.slice t36.2.a t36.2.len t36.2.cap)<|
 deref (some ⟨r_1,0,none⟩) λep=>
 aQ [.slice,.slice] ep λ(res:Sl×Sl)=>
 Q ((res.1,res.2)))) 0
theorem Bg(aD:Sl)(az:Sl)(Q:Sl×Sl->Pr)(w:World)(h:US aD az Q w):Calls Pq 71 #[(.agg #[(slV aD),(slV az)])] w (aC [.agg [.slice,.slice]] Q):=cF (an:=Tc) Tryz.func71 (by kernel_rfl) h
def O8:An:=(.sq .z (.sq .z .z))
def Np(p0:Int)(p1:OA)(Q:Bool->Pr):Pr:=
 br (decide (p0<0)) (
 Q true) (
 deref p1 λa=>
 au .slice a λ(t7:Sl)=>
 aP ((0:Int)<=p0/\p0<(t7.len:Int))<|
 deref t7.a λa_1=>
 deref (some (a_1.add (Int.toNat p0*1))) λa_2=>
 au .bool a_2 λ(t10:Bool)=>
 Q (!t10))
theorem xL(p0:Int)(p1:OA)(Q:Bool->Pr)(w:World)(h:Np p0 p1 Q w):Calls Pq 137 #[(.int .i64 p0),(.pointer p1)] w (aC [.c .bool] Q):=cF (an:=O8) Tryz.func137 (by kernel_rfl) h
def Td:An:=(.sq .z (.sq .z (.sq .z (.sq (.jn [(7,.c .bool)] .z) (.sq (.sq .z (.bl (.lp [(27,.c (.int .i64))] (.sq .z (.sq (.br .z .z) (.sq (.jn [] (.bl (.sq .z (.sq (.jn [(42,.c .bool)] .z) (.br .z .z))))) .z)))))) (.sq .z .z))))))
def UT(aD:Int)(az:Sl)(bL:Sl)(p1:Sl)(Q:Int×Sl×Sl->Pr):Pr:=
 nw (.cells #[(.int .i64 aD),(.slice az.a az.len az.cap),(.slice bL.a bL.len bL.cap)] 62) λr=>
 aP (aK (.slice p1.a p1.len p1.cap))<|nw (.cells #[(.slice p1.a p1.len p1.cap)] 108) λr_1=>
 nw (.cells #[(.int .i64 0),(.slice none 0 0),(.slice none 0 0)] 62) λr_2=>
 deref (some ⟨r,0,none⟩) λa=>
 aQ [(.int .i64),.slice,.slice] a λ(t10:Int×Sl×Sl)=>
 aH Pq 110 [(.agg #[(.int .i64 t10.1),(.slice t10.2.1.a t10.2.1.len t10.2.1.cap),(.slice t10.2.2.a t10.2.2.len t10.2.2.cap)])] [.agg [(.int .i64),.slice,.slice]] λ(t11:Int×Sl×Sl)=>
 nw (.cells #[(.int .i64 0),(.slice none 0 0),(.slice none 0 0)] 62) λr_3=>
 deref (some ⟨r_3,0,none⟩) λa_1=>
 st (a_1.add 0) (.int .i64 t11.1)<|
 st (a_1.add 1) (.slice t11.2.1.a t11.2.1.len t11.2.1.cap)<|
 st (a_1.add 2) (.slice t11.2.2.a t11.2.2.len t11.2.2.cap)<|
 jn (S:=Bool) (λR=>
 deref (some ⟨r,0,none⟩) λa_2=>
 deref (some (a_2.add 0)) λbX=>
 au (.int .i64) bX λ(t14:Int)=>
 br (t14==3) (
 deref (some ⟨r,0,none⟩) λc6=>
 deref (some (c6.add 1)) λc7=>
 au .slice c7 λ(t19:Sl)=>
 aP ((0:Int)<=0/\0<(t19.len:Int))<|
 deref t19.a λcV=>
 deref (some (cV.add (Int.toNat 0*1))) λdy=>
 au (.int .i64) dy λ(t21:Int)=>
 cE Pq (.func (.func 137) #[] #[(.pointer (some ⟨r_1,0,none⟩))]) [(.int .i64 t21)] [.c .bool] λ(t22:Bool)=>
 R t22) (
 R false)) λs=>
 deref (some ⟨r,0,none⟩) λdO=>
 deref (some (dO.add 1)) λdP=>
 au .slice dP λ(t25:Sl)=>
 aM (S:=Int) (λX s_1=>
 br (decide (s_1<(t25.len:Int))) (
 jn (S:=Unit) (λbG=>
 aP ((0:Int)<=s_1/\s_1<(t25.len:Int))<|
 deref t25.a λbu=>
 deref (some (bu.add (Int.toNat s_1*1))) λbF=>
 au (.int .i64) bF λ(t31:Int)=>
 jn (S:=Bool) (λjN=>
 br s (
 jN true) (
 deref (some ⟨r,0,none⟩) λbw=>
 deref (some (bw.add 0)) λbJ=>
 au (.int .i64) bJ λ(t35:Int)=>
 br (t35==2) (
 cE Pq (.func (.func 137) #[] #[(.pointer (some ⟨r_1,0,none⟩))]) [(.int .i64 t31)] [.c .bool] λ(t40:Bool)=>
 jN t40) (
 jN false))) λdB=>
 br dB (
 deref (some ⟨r_3,0,none⟩) λbW=>
 deref (some (bW.add 1)) λbS=>
 au .slice bS λ(t44:Sl)=>
 aP ((0:Int)<=s_1/\s_1<(t44.len:Int))<|
 deref t44.a λcm=>
 deref (some (cm.add (Int.toNat s_1*1))) λcx=>
 st cx (.int .i64 (-1))<|
 bG ()) (
 bG ())) λs_2=>
 X ((IntKind.wrap .i64 (s_1+1)))) (
 deref (some ⟨r_3,0,none⟩) λcy=>
 aQ [(.int .i64),.slice,.slice] cy λ(t48:Int×Sl×Sl)=>
 deref (some ⟨r_2,0,none⟩) λcz=>
 st (cz.add 0) (.int .i64 t48.1)<|
 st (cz.add 1) (.slice t48.2.1.a t48.2.1.len t48.2.1.cap)<|
 st (cz.add 2) (.slice t48.2.2.a t48.2.2.len t48.2.2.cap)<|
 deref (some ⟨r_2,0,none⟩) λdz=>
 aQ [(.int .i64),.slice,.slice] dz λ(res:Int×Sl×Sl)=>
 Q ((res.1,res.2.1,res.2.2)))) 0
theorem Bh(aD:Int)(az:Sl)(bL:Sl)(p1:Sl)(Q:Int×Sl×Sl->Pr)(w:World)(h:UT aD az bL p1 Q w):Calls Pq 88 #[(.agg #[(.int .i64 aD),(slV az),(slV bL)]),(slV p1)] w (aC [.agg [(.int .i64),.slice,.slice]] Q):=cF (an:=Td) Tryz.func88 (by kernel_rfl) h
set_option maxRecDepth 20000
theorem Yk(s t:Sl)(l m:List Int)(w:World)(hs:IS w s l)(ht:IS w t m)(hl:l.length<=1000000000):
 Calls Pq 113 #[.slice s.a s.len s.cap,.slice t.a t.len t.cap] w (aC [.c .bool] λr w'=>r=decide (l=m)/\Grow w w'):=by
 refine yN s t _ _ ?_;unfold Oe;simp only[ag];have h1:=hs.len;have h2:=ht.len;refine ah (λh=>?_) (λh=>?_)
 ·refine⟨?_,Mod.refl _ _⟩
  have:l≠m:=λh'=>by subst h';simp at h;omega
  simp[this]
 ·have Qp:l.length=m.length:=by simp at h;omega
  refine aB (λz W=>∃j:Nat,z=j/\j<=l.length/\l.take j=m.take j/\Grow w W) (λz _=>l.length-z.toNat) ⟨0,rfl,by omega,rfl,Mod.refl _ _⟩ ?_;rintro _ W ⟨j,rfl,hj,he,g⟩;refine ah (λhlt=>?_) (λhge=>?_)
  ·simp only[jb]at hlt
   have hjl:j<l.length:=by omega
   have nB:j<m.length:=by omega
   rw[aR];have g2:=g.drew;refine⟨⟨by omega,by omega⟩,?_⟩;rw[jk];refine IS.at (hs.grow g2) hjl ⟨⟨by omega,by omega⟩,?_⟩;refine IS.at (ht.grow g2) nB ?_;refine ah (λhne=>?_) (λheq=>?_)
   ·refine⟨?_,g2⟩
    have:l≠m:=λh'=>by subst h';simp at hne
    simp[this]
   ·have:l[j]=m[j]:=by simpa using heq
    rw[ax (by omega)];refine⟨⟨j+1,rfl,by omega,?_,g2⟩,by omega⟩;rw[List.take_add_one,List.take_add_one,he,jl hjl,jl nB,this]
  ·simp only[ja]at hge
   refine⟨?_,g⟩;have hjl:j=l.length:=by omega
   rw[List.take_of_length_le (by omega),List.take_of_length_le (by omega)]at he;simp[he]
theorem gj{α:Type}{l m:List α}{j:Nat}(hl:j<l.length)(hm:j<m.length)(he:l.take j=m.take j)(h:l[j]=m[j]):l.take (j+1)=m.take (j+1):=by
 rw[List.take_add_one,List.take_add_one,he,jl hl,jl hm,h]
theorem AB(a b:RM):(((bytesOf a.1).toList==(bytesOf b.1).toList)&&((a.2==b.2)&&true))=decide (a=b):=by
 rw[aS,aS,Bool.and_true];obtain⟨a1,a2⟩:=a;obtain⟨b1,b2⟩:=b;by_cases h1:a1=b1<;>by_cases h2:a2=b2<;>simp[h1,h2]
theorem Yl(g h:GS)(w:World)(hg:RG w aA g)(hh:RG w aA h):Calls Pq 69 #[slV g.gr,slV h.gr] w (aC [.c .bool] λr w'=>r=decide (g.rs=h.rs)/\Grow w w'):=by
 refine Cq g.gr h.gr _ _ ?_;unfold V3;simp only[ag];have h1:=hg.rl;have h2:=hh.rl;have h3:=hg.sm.rl;refine ah (λhne=>?_) (λhne=>?_)
 ·refine⟨?_,Mod.refl _ _⟩
  have:g.rs≠h.rs:=λh'=>by rw[h']at h1;simp at hne;omega
  simp[this]
 ·have Qp:g.rs.length=h.rs.length:=by simp at hne;omega
  refine aB (λz W=>∃j:Nat,z=j/\j<=g.rs.length/\g.rs.take j=h.rs.take j/\Grow w W) (λz _=>g.rs.length-z.toNat) ⟨0,rfl,by omega,rfl,Mod.refl _ _⟩ ?_;rintro _ W ⟨j,rfl,hj,he,gW⟩;refine ah (λhlt=>?_) (λhge=>?_)
  ·simp only[jb]at hlt
   have hjl:j<g.rs.length:=by omega
   have nB:j<h.rs.length:=by omega
   rw[aR];have g2:=gW.drew;refine⟨⟨by omega,by omega⟩,?_⟩;rw[jk];refine(hg.grow g2).root (x:=g.rs[j]) (by simp[hjl]) ⟨⟨by omega,by omega⟩,?_⟩;refine(hh.grow g2).root (x:=h.rs[j]) (by simp[nB]) ?_;rw[AB];refine ah (λhne=>?_) (λheq=>?_)
   ·refine⟨?_,g2⟩
    have:g.rs≠h.rs:=λh'=>by
     have:g.rs[j]=h.rs[j]:=by simp only[h']
     rw[decide_eq_true this]at hne;cases hne
    simp[this]
   ·have:g.rs[j]=h.rs[j]:=by simpa using heq
    rw[ax (by omega)];exact⟨⟨j+1,rfl,by omega,gj hjl nB he this,g2⟩,by omega⟩
  ·simp only[ja]at hge
   refine⟨?_,gW⟩;rw[List.take_of_length_le (by omega),List.take_of_length_le (by omega)]at he;simp[he]
theorem Ym(x y:NS)(w:World)(hx:RN w x)(hy:RN w y):Calls Pq 68 #[.agg #[.int .i64 x.k,slV x.ps,slV x.ds],.agg #[.int .i64 y.k,slV y.ps,slV y.ds]] w (aC [.c .bool] λr w'=>r=decide (x.m=y.m)/\Grow w w'):=by
 refine Cr x.k x.ps x.ds y.k y.ps y.ds _ _ ?_;unfold V4;simp only[ag];refine St.nw (St.bp w) λr w1 s1 _ _=>St.nw s1 λr1 w2 s2 _ _=>?_;have a:=s2.af 1;have key:decide (x.m=y.m)=(decide (x.k=y.k)&&(decide (x.p=y.p)&&decide (x.d=y.d))):=by
  unfold NS.m;rw[<-Bool.decide_and,<-Bool.decide_and];apply decide_eq_decide.2;rw[GN.mk.injEq]
 rw[key];refine a.ld (s:=.int .i64) (p:=x.k) rfl (s2.ld (s:=.int .i64) (p:=y.k) rfl ?_);refine ah (λh=>?_) λh=>⟨?_,s2.bh⟩
 ·rw[decide_eq_true (by simpa using h:x.k=y.k),Bool.true_and]
  refine a.ld (s:=.slice) (p:=x.ps) rfl (s2.ld (s:=.slice) (p:=y.ps) rfl ?_);refine ak (Yk x.ps y.ps x.p y.p w2 (hx.ip.grow s2.bh) (hy.ip.grow s2.bh) (by have:=hx.pl;omega)) ?_;rintro _ w3 ⟨rfl,g3⟩;have s3:=s2.grow g3;refine ah (λh=>?_) λh=>⟨?_,s3.bh⟩
  ·rw[h,Bool.true_and]
   refine(s3.af 1).ld (s:=.slice) (p:=x.ds) rfl (s3.ld (s:=.slice) (p:=y.ds) rfl ?_);refine ak (QV x.ds y.ds x.d y.d w3 (hx.bd.grow s3.bh) (hy.bd.grow s3.bh)) ?_;rintro _ _ ⟨rfl,rfl⟩;exact⟨rfl,s3.bh⟩
  ·rw[h];rfl
 ·rw[decide_eq_false (by simpa using h:¬x.k=y.k)];rfl
theorem Yn(g h:GS)(w:World)(hg:RG w aA g)(hh:RG w aA h):Calls Pq 67 #[slV g.gn,slV h.gn,.func (.func 68) #[] #[]] w (aC [.c .bool] λr w'=>r=decide (g.m.n=h.m.n)/\Grow w w'):=by
 refine Cs g.gn h.gn _ _ _ ?_;unfold V5;simp only[ag];have h1:=hg.nl;have h2:=hh.nl;have h3:=hg.sm.nl;have m1:g.m.n.length=g.xs.length:=by simp[GS.m]
 have m2:h.m.n.length=h.xs.length:=by simp[GS.m]
 refine ah (λhne=>?_) (λhne=>?_)
 ·refine⟨?_,Mod.refl _ _⟩
  have:g.m.n≠h.m.n:=λh'=>by rw[h']at m1;simp at hne;omega
  simp[this]
 ·have Qp:g.xs.length=h.xs.length:=by simp at hne;omega
  refine aB (λz W=>∃j:Nat,z=j/\j<=g.xs.length/\g.m.n.take j=h.m.n.take j/\Grow w W) (λz _=>g.xs.length-z.toNat) ⟨0,rfl,by omega,rfl,Mod.refl _ _⟩ ?_;rintro _ W ⟨j,rfl,hj,he,gW⟩;refine ah (λhlt=>?_) (λhge=>?_)
  ·simp only[jb]at hlt
   have hjl:j<g.xs.length:=by omega
   have nB:j<h.xs.length:=by omega
   refine⟨⟨by omega,by omega⟩,?_⟩;rw[jk];refine(hg.grow gW).node (x:=g.xs[j]) (by simp[hjl]) ?_;refine St.nw (St.bp W) λr w1 s1 _ _=>s1.st (i:=0) (by simp) trivial λw2 s2=>s2.st (i:=1) (by simp) trivial λw3 s3=>s3.st (i:=2) (by simp) trivial λw4 s4=>?_;refine⟨⟨by omega,by omega⟩,?_⟩;refine(hh.grow (Grow.trans gW s4.bh)).node (x:=h.xs[j]) (by simp[nB]) ?_;refine St.nw s4 λr2 w5 s5 _ _=>s5.st (i:=0) (by simp) trivial λw6 s6=>s6.st (i:=1) (by simp) trivial λw7 s7=>s7.st (i:=2) (by simp) trivial λw8 s8=>?_;refine bY.aQ (l:=[.int .i64,.slice,.slice]) (p:=(g.xs[j].k,g.xs[j].ps,g.xs[j].ds)) (s8.af 1).box ?_;refine bY.aQ (l:=[.int .i64,.slice,.slice]) (p:=(h.xs[j].k,h.xs[j].ps,h.xs[j].ds)) s8.box ?_;have gg:=Grow.trans gW s8.bh;refine fL rfl (by kernel_rfl) (Ym g.xs[j] h.xs[j] w8 ((hg.grow gg).rn (List.getElem_mem hjl)) ((hh.grow gg).rn (List.getElem_mem nB))) ?_;rintro _ w9 ⟨rfl,g9⟩;have QF:=Grow.trans gg g9;have e1:g.m.n[j]'(by omega)=g.xs[j].m:=by simp[GS.m]
   have e2:h.m.n[j]'(by omega)=h.xs[j].m:=by simp[GS.m]
   refine ah (λhne=>?_) (λheq=>?_)
   ·refine⟨?_,QF⟩
    have:g.m.n≠h.m.n:=λh'=>by
     have:g.xs[j].m=h.xs[j].m:=by rw[<-e1,<-e2];simp only[h']
     rw[decide_eq_true this]at hne;cases hne
    simp[this]
   ·have:g.xs[j].m=h.xs[j].m:=by simpa using heq
    rw[ax (by omega)];exact⟨⟨j+1,rfl,by omega,gj (by omega) (by omega) he (by rw[e1,e2,this]),QF⟩,by omega⟩
  ·simp only[ja]at hge
   refine⟨?_,gW⟩;rw[List.take_of_length_le (by omega),List.take_of_length_le (by omega)]at he;simp[he]
theorem we(g h:GS):decide (g.m=h.m)=(decide (g.m.n=h.m.n)&&decide (g.rs=h.rs)):=by
 rw[<-Bool.decide_and];apply decide_eq_decide.2;unfold GS.m;rw[GG.mk.injEq]
theorem X6(g h:GS)(w:World)(hg:RG w aA g)(hh:RG w aA h):Calls Pq 30 #[g.v,h.v] w (aC [.c .bool] λr w'=>r=decide (g.m=h.m)/\Grow w w'):=by
 refine Ct g.gn g.gr h.gn h.gr _ _ ?_;unfold V6;simp only[ag];refine St.nw (St.bp w) λr w1 s1 _ _=>St.nw s1 λr1 w2 s2 _ _=>?_;refine(s2.af 1).ld (s:=.slice) (p:=g.gn) rfl (s2.ld (s:=.slice) (p:=h.gn) rfl ?_);refine ak (Yn g h w2 (hg.grow s2.bh) (hh.grow s2.bh)) ?_;rintro _ w3 ⟨rfl,g3⟩;have s3:=s2.grow g3;rw[we];refine ah (λh1=>?_) λh1=>⟨?_,s3.bh⟩
 ·refine(s3.af 1).ld (s:=.slice) (p:=g.gr) rfl (s3.ld (s:=.slice) (p:=h.gr) rfl ?_)
  refine ak (Yl g h w3 (hg.grow s3.bh) (hh.grow s3.bh)) ?_;rintro _ w4 ⟨rfl,g4⟩;exact⟨by rw[h1,Bool.true_and],Grow.trans s3.bh g4⟩
 ·rw[h1];rfl
theorem Ia(x y:NS):decide (x.m=y.m)=(decide (x.k=y.k)&&(decide (x.p=y.p)&&decide (x.d=y.d))):=by
 unfold NS.m;rw[<-Bool.decide_and,<-Bool.decide_and];apply decide_eq_decide.2;rw[GN.mk.injEq]
theorem Yd(g h:GS)(w:World)(hg:RG w aA g)(hh:RG w aA h):Calls Pq 13 #[g.v,h.v] w (aC [.c .bool] λr w'=>r=decide (g.m=h.m)/\Grow w w'):=by
 refine Cu g.gn g.gr h.gn h.gr _ _ ?_;unfold V7;simp only[ag];have h1:=hg.nl;have h2:=hh.nl;have h3:=hg.sm.nl;have Yo:=hg.rl;have Yp:=hh.rl;have Zm:=hg.sm.rl;have m1:g.m.n.length=g.xs.length:=by simp[GS.m]
 have m2:h.m.n.length=h.xs.length:=by simp[GS.m]
 refine St.nw (St.bp w) λr w1 s1 _ _=>St.nw s1 λr1 w2 s2 _ _=>?_;refine aL (λb W=>b= !(decide (g.xs.length=h.xs.length)&&decide (g.rs.length=h.rs.length))/\w2=W) ?_ ?_
 ·refine(s2.af 1).ld (i:=0) (s:=.slice) (p:=g.gn) rfl (s2.ld (i:=0) (s:=.slice) (p:=h.gn) rfl ?_)
  refine ah (λhne=>⟨?_,rfl⟩) λheq=>?_
  ·rw[decide_eq_false (show¬g.xs.length=h.xs.length by simp at hne;omega)];rfl
  ·rw[decide_eq_true (show g.xs.length=h.xs.length by simp at heq;omega),Bool.true_and]
   refine(s2.af 1).ld (i:=1) (s:=.slice) (p:=g.gr) rfl (s2.ld (i:=1) (s:=.slice) (p:=h.gr) rfl ⟨?_,rfl⟩);by_cases he:g.rs.length=h.rs.length
   ·rw[decide_eq_true he,Yo,Yp,he];simp
   ·rw[decide_eq_false he];simp;omega
 rintro _ _ ⟨rfl,rfl⟩;refine ah (λhne=>⟨?_,s2.bh⟩) λheq=>?_
 ·rw[we]
  have hne:¬(g.xs.length=h.xs.length/\g.rs.length=h.rs.length):=by
   intro hh;rw[decide_eq_true hh.1,decide_eq_true hh.2]at hne;cases hne
  symm
  rw[Bool.and_eq_false_iff,ja,ja];by_cases he:g.xs.length=h.xs.length
  ·exact .inr λh'=>hne ⟨he,by rw[h']⟩
  ·exact .inl λh'=>he (by rw[<-m1,<-m2,h'])
 have Of:g.xs.length=h.xs.length/\g.rs.length=h.rs.length:=by simpa using heq
 obtain⟨Qp,hlr⟩:=Of;refine aB (λz W=>∃j:Nat,z=j/\j<=g.xs.length/\g.m.n.take j=h.m.n.take j/\Grow w2 W) (λz _=>g.xs.length-z.toNat) ⟨0,rfl,by omega,rfl,Mod.refl _ _⟩ ?_;rintro _ W ⟨j,rfl,hj,he,gW⟩;have s3:=s2.grow gW;refine(s3.af 1).ld (i:=0) (s:=.slice) (p:=g.gn) rfl ?_;refine ah (λhlt=>?_) (λhge=>?_)
 ·simp only[jb]at hlt
  have hjl:j<g.xs.length:=by omega
  have nB:j<h.xs.length:=by omega
  refine(s3.af 1).ld (i:=0) (s:=.slice) (p:=g.gn) rfl ⟨⟨by omega,by omega⟩,?_⟩;rw[jk];refine(hg.grow s3.bh).node (x:=g.xs[j]) (by simp[hjl]) ?_;refine St.nw (St.bp W) λra w1 t1 _ _=>t1.st (i:=0) (by simp) trivial λZn t2=>t2.st (i:=1) (by simp) trivial λw3 t3=>t3.st (i:=2) (by simp) trivial λw4 t4=>?_;have s4:=s3.grow t4.bh;refine s4.ld (i:=0) (s:=.slice) (p:=h.gn) rfl ⟨⟨by omega,by omega⟩,?_⟩;refine(hh.grow s4.bh).node (x:=h.xs[j]) (by simp[nB]) ?_;refine St.nw t4 λrb w5 t5 _ _=>t5.st (i:=0) (by simp) trivial λw6 t6=>t6.st (i:=1) (by simp) trivial λw7 t7=>t7.st (i:=2) (by simp) trivial λw8 t8=>?_;have gg:=(s3.grow t8.bh).bh;have hx:=(hg.grow gg).rn (List.getElem_mem hjl);have hy:=(hh.grow gg).rn (List.getElem_mem nB);have e1:g.m.n[j]'(by omega)=g.xs[j].m:=by simp[GS.m]
  have e2:h.m.n[j]'(by omega)=h.xs[j].m:=by simp[GS.m]
  generalize VV:g.xs[j]=x at hx e1 t8;generalize Zo:h.xs[j]=y at hy e2 t8;refine aL (λb W3=>b= !decide (x.m=y.m)/\Grow W W3) ?_ ?_
  ·rw[Ia]
   refine(t8.af 1).ld (i:=0) (s:=.int .i64) (p:=x.k) rfl (t8.ld (i:=0) (s:=.int .i64) (p:=y.k) rfl ?_);refine ah (λhne=>⟨?_,t8.bh⟩) λheq=>?_
   ·rw[decide_eq_false (by simpa using hne:¬x.k=y.k)];rfl
   rw[decide_eq_true (by simpa using heq:x.k=y.k),Bool.true_and];refine(t8.af 1).ld (i:=1) (s:=.slice) (p:=x.ps) rfl (t8.ld (i:=1) (s:=.slice) (p:=y.ps) rfl ?_);refine ak (WC x.ps y.ps x.p y.p w8 hx.ip hy.ip (by have:=hx.pl;omega)) ?_;rintro _ w9 ⟨rfl,g9⟩;have t9:=t8.grow g9;refine ah (λhne=>⟨?_,t9.bh⟩) λheq=>?_
   ·rw[show decide (x.p=y.p)=false by simpa only[Bool.not_eq_true']using hne];rfl
   rw[show decide (x.p=y.p)=true by simpa only[Bool.not_eq_false']using heq,Bool.true_and];refine(t9.af 1).ld (i:=2) (s:=.slice) (p:=x.ds) rfl (ic (hx.bd.grow g9) (t9.ld (i:=2) (s:=.slice) (p:=y.ds) rfl (ic (hy.bd.grow g9) ⟨?_,t9.bh⟩)));rw[aS,aS];by_cases hd:x.d=y.d<;>simp[hd]
  ·rintro _ W3 ⟨rfl,g3⟩
   have g4:=Grow.trans gW g3;refine ah (λhne=>⟨?_,Grow.trans s2.bh g4⟩) λheq=>?_
   ·rw[we]
    have:g.m.n≠h.m.n:=λh'=>by
     have:x.m=y.m:=by rw[<-e1,<-e2];simp only[h']
     rw[decide_eq_true this]at hne;cases hne
    simp[this]
   ·have hxy:x.m=y.m:=by simpa using heq
    rw[ax (by omega)];exact⟨⟨j+1,rfl,by omega,gj (by omega) (by omega) he (by rw[e1,e2,hxy]),g4⟩,by omega⟩
 ·simp only[ja]at hge
  rw[List.take_of_length_le (by omega),List.take_of_length_le (by omega)]at he;refine aB (λz W2=>∃j:Nat,z=j/\j<=g.rs.length/\g.rs.take j=h.rs.take j/\Grow W W2) (λz _=>g.rs.length-z.toNat) ⟨0,rfl,by omega,rfl,Mod.refl _ _⟩ ?_;rintro _ W2 ⟨i,rfl,hi,hr,V8⟩;have s4:=s3.grow V8;refine(s4.af 1).ld (i:=1) (s:=.slice) (p:=g.gr) rfl ?_;refine ah (λhlt=>?_) (λhge=>?_)
  ·simp only[jb]at hlt
   have hjl:i<g.rs.length:=by omega
   have nB:i<h.rs.length:=by omega
   rw[aR];have s5:=s4.drew;refine(s5.af 1).ld (i:=1) (s:=.slice) (p:=g.gr) rfl ⟨⟨by omega,by omega⟩,?_⟩;rw[jk];refine(hg.grow s5.bh).root (x:=g.rs[i]) (by simp[hjl]) ?_;refine s5.ld (i:=1) (s:=.slice) (p:=h.gr) rfl ⟨⟨by omega,by omega⟩,?_⟩;refine(hh.grow s5.bh).root (x:=h.rs[i]) (by simp[nB]) ?_;rw[AB];refine ah (λhne=>?_) (λheq=>?_)
   ·refine⟨?_,s5.bh⟩
    rw[we];have:g.rs≠h.rs:=λh'=>by
     have:g.rs[i]=h.rs[i]:=by simp only[h']
     rw[decide_eq_true this]at hne;cases hne
    simp[this]
   ·have:g.rs[i]=h.rs[i]:=by simpa using heq
    rw[ax (by omega)];exact⟨⟨i+1,rfl,by omega,gj hjl nB hr this,V8.drew⟩,by omega⟩
  ·simp only[ja]at hge
   refine⟨?_,s4.bh⟩;rw[List.take_of_length_le (by omega),List.take_of_length_le (by omega)]at hr;rw[we,he,hr];simp
theorem QY(x:NS)(w:World)(hx:RN w x):Calls Pq 110 #[.agg #[.int .i64 x.k,slV x.ps,slV x.ds]] w
 (aC [.agg [.int .i64,.slice,.slice]] λr w'=>r.1=x.k/\St aA w w' [aG ⟨r.1,r.2.1,x.p,r.2.2,x.d⟩]):=by
 refine yO x.k x.ps x.ds _ _ ?_;unfold Og;simp only[ag];have hp:=hx.pl;have hd:=hx.dl;refine St.nw (St.bp w) λr w1 s1 _ _=>St.nw s1 λr1 w2 s2 _ _=>?_;rw[aR];have s3:=s2.drew;have bx:∀W,Grow w2.drew W->bY W r [.int .i64 x.k,slV x.ps,slV x.ds]:=λW g=>(s3.af 1).box.grow g;have Oh:∀W L (k:Sl->Pr),St aA w W L->(∀t W',St aA w W' (aq 1 t (x.p.map iv)::L)->Grow W W'->k t W')->aH Pq 163 [.slice x.ps.a x.ps.len x.ps.cap] [.c .slice] k W:=by
  intro W L k s hk;refine ak (WB x.ps x.p W (hx.ip.grow s.bh) (by omega)) λt W' s'=>?_;exact hk t W' (s.aZ s') s'.bh
 have LJ:∀W L (k:Sl->Pr),St aA w W L->(∀t W',St aA w W' (aq 1 t (x.d.map ub)::L)->Grow W W'->k t W')->aH Pq 62 [.slice x.ds.a x.ds.len x.ds.cap] [.c .slice] k W:=by
  intro W L k s hk;refine ak (Qo x.ds x.d W (hx.bd.grow s.bh) (by omega)) λt W' s'=>?_;exact hk t W' (s.aZ s') s'.bh
 have JW:∀W (k:Int->Pr),Grow w2.drew W->k x.k W->au (.int .i64) (Addr.add ⟨r,0,none⟩ 0) k W:=λW k g hk=>(bx W g).ld (s:=.int .i64) (p:=x.k) rfl hk;have GP:∀W (k:Sl->Pr),Grow w2.drew W->k x.ps W->au .slice (Addr.add ⟨r,0,none⟩ 1) k W:=λW k g hk=>(bx W g).ld (s:=.slice) (p:=x.ps) rfl hk;have QG:∀W (k:Sl->Pr),Grow w2.drew W->k x.ds W->au .slice (Addr.add ⟨r,0,none⟩ 2) k W:=λW k g hk=>(bx W g).ld (s:=.slice) (p:=x.ds) rfl hk;have fin:∀W t u,St aA w W [aq 1 u (x.d.map ub),aq 1 t (x.p.map iv),aa r1 [.int .i64 0,.slice none 0 0,.slice none 0 0],aa r [.int .i64 x.k,slV x.ps,slV x.ds]]->
  (Eng.st (Addr.add ⟨r1,0,none⟩ 0) (.int .i64 x.k)<|Eng.st (Addr.add ⟨r1,0,none⟩ 1) (slV t)<|Eng.st (Addr.add ⟨r1,0,none⟩ 2) (slV u)<|
    aQ [.int .i64,.slice,.slice] ⟨r1,0,none⟩ λ(res:Int×Sl×Sl) w'=>(res.1,res.2.1,res.2.2).1=x.k/\St aA w w' [aG ⟨(res.1,res.2.1,res.2.2).1,(res.1,res.2.1,res.2.2).2.1,x.p,(res.1,res.2.1,res.2.2).2.2,x.d⟩]) W:=by
  intro W t u s;refine(s.af 2).st (i:=0) (by simp) trivial λW1 k1=>k1.st (i:=1) (by simp) trivial λW2 k2=>k2.st (i:=2) (by simp) trivial λW3 k3=>?_;refine bY.aQ (l:=[.int .i64,.slice,.slice]) (p:=(x.k,t,u)) k3.box ⟨rfl,?_⟩;have k4:St aA w W3 [aq 1 t (x.p.map iv),aq 1 u (x.d.map ub)]:=k3.bE [2,1] 4;exact St.eG (xs:=[aq 1 t (x.p.map iv),aq 1 u (x.d.map ub)]) k4
 refine GP _ _ (Mod.refl _ _) ⟨?_,?_⟩
 ·refine JW _ _ (Mod.refl _ _) ⟨?_,?_⟩
  ·refine Oh _ _ _ s3 λt W1 k1 g1=>QG _ _ g1 (LJ _ _ _ k1 λu W2 k2 g2=>fin _ t u k2)
  ·refine QG _ _ (Mod.refl _ _) (Oh _ _ _ s3 λt W1 k1 g1=>LJ _ _ _ k1 λu W2 k2 g2=>fin _ t u k2)
 ·refine⟨?_,?_⟩
  ·refine Oh _ _ _ s3 λt W1 k1 g1=>QG _ _ g1 ⟨?_,?_⟩
   ·exact JW _ _ g1 (LJ _ _ _ k1 λu W2 k2 g2=>fin _ t u k2)
   ·exact LJ _ _ _ k1 λu W2 k2 g2=>JW _ _ (Grow.trans g1 g2) (fin _ t u k2)
  ·refine QG _ _ (Mod.refl _ _) ⟨?_,?_⟩
   ·exact JW _ _ (Mod.refl _ _) (Oh _ _ _ s3 λt W1 k1 g1=>LJ _ _ _ k1 λu W2 k2 g2=>fin _ t u k2)
   ·refine Oh _ _ _ s3 λt W1 k1 g1=>⟨?_,?_⟩
    ·exact JW _ _ g1 (LJ _ _ _ k1 λu W2 k2 g2=>fin _ t u k2)
    ·exact LJ _ _ _ k1 λu W2 k2 g2=>JW _ _ (Grow.trans g1 g2) (fin _ t u k2)
structure GG.small(g:GG):Prop where
 nl:g.n.length<=20000
 rl:g.r.length<=20000
 pl:∀x∈g.n,x.p.length<=20000
 dl:∀x∈g.n,x.d.length<=20000
 sl:∀r∈g.r,r.1.length<=20000
theorem GS.cJ{g:GS}:g.small↔g.m.small:=by
 constructor
 ·intro h
  refine⟨by simpa[GS.m]using h.nl,h.rl,λx hx=>?_,λx hx=>?_,h.sl⟩
  ·obtain⟨y,hy,rfl⟩:=kg.1 hx;exact h.pl y hy
  ·obtain⟨y,hy,rfl⟩:=kg.1 hx;exact h.dl y hy
 ·intro h
  exact⟨by simpa[GS.m]using h.nl,h.rl,λx hx=>h.pl x.m (kg.2 ⟨x,hx,rfl⟩),λx hx=>h.dl x.m (kg.2 ⟨x,hx,rfl⟩),h.sl⟩
theorem xG(ys:List NS)(y:NS):(ys++[y]).flatMap aj=ys.flatMap aj++aj y:=by rw[List.flatMap_append];simp
theorem xH{F0:Nat->Prop}{w0 w:World}{L:List HA}{ys:List NS}{y:NS}(h:St F0 w0 w (aG y::aN (ys.map aG)::L)):St F0 w0 w (aN ((ys++[y]).map aG)::L):=by
 rw[jj];exact h.push
theorem M0(ys:List NS):(ys.flatMap aj).length=ys.length*3:=c9 b7 ys
theorem gX{F0:Nat->Prop}{w0 w:World}{L:List HA}{t:Sl}{ys:List NS}{y:NS}{k:Sl->Pr}(h:St F0 w0 w (aG y::aq 3 t (ys.flatMap aj)::aN (ys.map aG)::L))(hl:ys.length<=1000000)
 (hk:∀r w',St F0 w0 w' (aq 3 r ((ys++[y]).flatMap aj)::aN ((ys++[y]).map aG)::L)->k r w'):
 (nw (.cells #[.int .i64 y.k,.slice y.ps.a y.ps.len y.ps.cap,.slice y.ds.a y.ds.len y.ds.cap] 62) λr=>app 62 3 56 [.int .i64 0,.slice none 0 0,.slice none 0 0] t ⟨some ⟨r,0,none⟩,1,1⟩ k) w:=by
 refine St.nw h λr w1 s1 _ _=>?_;have hlen:=(s1.af 2).sl.len;rw[M0]at hlen;refine(s1.af 2).app (new:=aj y) (λ_=>rfl) (λh=>by cases h) (aF.2 s1.box.row) (by intro v hv;exact Nm [y] v (by simpa using hv)) rfl (by decide) (by dsimp only;omega) λr2 w2 s2 _=>?_;rw[<-xG]at s2;refine hk r2 w2 ?_;have s3:St F0 w0 w2 (aq 3 r2 ((ys++[y]).flatMap aj)::aa r _::aG y::aN (ys.map aG)::L):=s2;have s4:=(xH (s3.bE [2,3,0] 4));exact s4.af 1
theorem iE{E n b:Nat}{s:Sl}{z vs:LV}{F0:Nat->Prop}{w0 w:World}{L:List HA}{k:Sl->Pr}(hs:St F0 w0 w L)(h:VS n w s vs)(hna:∀v∈vs,aK v)(hz:z.length=n)(hn:n≠0)(hb:b≠0)(QX:b<=64)(hl:s.len<=1000000000)
 (hk:∀r w',St F0 w0 w' (aq n r vs::L)->k r w'):app E n b z ⟨none,0,0⟩ s k w:=by
 refine(hs.fe n).app (new:=vs) (λ_=>h.len) (h.dm hn) h.row hna hz hb ?_ λr w' s' _=>hk r w' s';have:(2*(0+s.len)+192)*b<=(2*(0+s.len)+192)*64:=Nat.mul_le_mul_left _ QX;dsimp only;omega
theorem xI{w:World}{F:Nat->Prop}{g:GS}(h:RG w F g):VS 2 w g.gr (g.rs.flatMap ay):=SS.vs bT h.rs
theorem Nn(g:GS)(w:World)(hg:RG w aA g):Calls Pq 109 #[slV g.gr] w (aC [.c .slice] λr w'=>St aA w w' [aq 2 r (g.rs.flatMap ay)]):=by
 refine xJ g.gr _ _ ?_;unfold No;have:=hg.rl;have:=hg.sm.rl;exact pK (xI hg) (Dr g.rs) rfl (by decide) (by decide) (by decide) (by omega) λr w' h=>h
theorem dG.mk{F0:Nat->Prop}{w0 w:World}{L:List HA}{g:GS}(h:St F0 w0 w (aq 3 g.gn (g.xs.flatMap aj)::aN (g.xs.map aG)::aq 2 g.gr (g.rs.flatMap ay)::L)):St F0 w0 w (dG g::L):=
 St.eG (xs:=[_,_,_]) h
theorem dG.un{F0:Nat->Prop}{w0 w:World}{L:List HA}{g:GS}(h:St F0 w0 w (dG g::L)):St F0 w0 w (aq 3 g.gn (g.xs.flatMap aj)::aN (g.xs.map aG)::aq 2 g.gr (g.rs.flatMap ay)::L):=
 St.Bd (xs:=[_,_,_]) h
def Be(G:GG)(w:World)(r:Sl×Sl)(w':World):Prop:=∃g:GS,g.gn=r.1/\g.gr=r.2/\g.m=G/\St aA w w' [dG g]
theorem lu{g:GS}{ys:List NS}{j:Nat}{y:NS}(hj:j<g.xs.length)(h:ys.map NS.m=(g.xs.take j).map NS.m)(hy:y.m=g.xs[j].m):(ys++[y]).map NS.m=(g.xs.take (j+1)).map NS.m:=by
 rw[List.take_add_one,jl hj,jj,jj,h];simp[hy]
theorem WH(g:GS)(w:World)(hg:RG w aA g):Calls Pq 87 #[g.v] w (aC [.agg [.slice,.slice]] λr w'=>Be g.m w r w'):=by
 refine Bf g.gn g.gr _ _ ?_;unfold UQ;simp only[ag];have gy:=hg.nl;have hn2:=hg.sm.nl;refine St.nw (St.bp w) λr w1 s1 _ _=>St.nw s1 λr1 w2 s2 _ _=>?_;refine(s2.af 1).ld (s:=.slice) (p:=g.gr) rfl ?_;refine ak (Nn g w2 (hg.grow s2.bh)) λq w3 k3=>?_;have s3:=s2.aZ k3;refine St.nw s3 λr2 w4 s4 _ _=>s4.st (i:=0) (by simp) trivial λw5 s5=>s5.st (i:=1) (by simp) trivial λw6 s6=>?_;have s6:St aA w w6 [aa r2 [.slice none 0 0,slV q],aq 2 q (g.rs.flatMap ay),aa r1 [.slice none 0 0,.slice none 0 0],aa r [slV g.gn,slV g.gr]]:=s6;refine(s6.af 3).ld (s:=.slice) (p:=g.gn) rfl ?_;refine aB (λz W=>∃(j:Nat) (t:Sl) (ys:List NS),z=j/\j<=g.xs.length/\ys.map NS.m=(g.xs.take j).map NS.m/\ys.length=j/\St aA w W [aq 3 t (ys.flatMap aj),aN (ys.map aG),aa r2 [slV t,slV q],aq 2 q (g.rs.flatMap ay),aa r1 [.slice none 0 0,.slice none 0 0],aa r [slV g.gn,slV g.gr]])
  (λz _=>g.xs.length-z.toNat) ⟨0,⟨none,0,0⟩,[],rfl,by omega,rfl,rfl,s6.rJ.fe 3⟩ ?_
 rintro _ W ⟨j,t,ys,rfl,hj,hys,mg,sW⟩;refine ah (λhlt=>?_) (λhge=>?_)
 ·simp only[jb]at hlt
  have hjl:j<g.xs.length:=by omega
  refine aL (λ_ W'=>∃(t:Sl) (ys:List NS),ys.map NS.m=(g.xs.take (j+1)).map NS.m/\ys.length=j+1/\St aA w W' [aq 3 t (ys.flatMap aj),aN (ys.map aG),aa r2 [slV t,slV q],aq 2 q (g.rs.flatMap ay),aa r1 [.slice none 0 0,.slice none 0 0],aa r [slV g.gn,slV g.gr]]) ?_ ?_
  ·refine⟨⟨by omega,by omega⟩,?_⟩
   rw[jk];refine(hg.grow sW.bh).node (x:=g.xs[j]) (by simp[hjl]) ?_;refine St.nw sW λr3 w7 s7 _ _=>s7.st (i:=0) (by simp) trivial λw8 s8=>s8.st (i:=1) (by simp) trivial λw9 s9=>s9.st (i:=2) (by simp) trivial λiF bH=>?_;rw[aR];have cR:=bH.drew;have cR:St aA w iF.drew [aa r3 (aj g.xs[j]),aq 3 t (ys.flatMap aj),aN (ys.map aG),aa r2 [slV t,slV q],aq 2 q (g.rs.flatMap ay),aa r1 [.slice none 0 0,.slice none 0 0],aa r [slV g.gn,slV g.gr]]:=cR;refine bY.aQ (l:=[.int .i64,.slice,.slice]) (p:=(g.xs[j].k,g.xs[j].ps,g.xs[j].ds)) cR.box ?_;have UR:∀(k:Int×Sl×Sl->Pr),(∀y:NS,y.m=g.xs[j].m->∀W',St aA w W' [aG y,aa r3 (aj g.xs[j]),aq 3 t (ys.flatMap aj),aN (ys.map aG),aa r2 [slV t,slV q],aq 2 q (g.rs.flatMap ay),aa r1 [.slice none 0 0,.slice none 0 0],aa r [slV g.gn,slV g.gr]]->k (y.k,y.ps,y.ds) W')->
    aH Pq 110 [.agg #[.int .i64 g.xs[j].k,slV g.xs[j].ps,slV g.xs[j].ds]] [.agg [.int .i64,.slice,.slice]] k iF.drew:=by
    intro k hk;refine ak (QY g.xs[j] iF.drew ((hg.grow cR.bh).rn (List.getElem_mem hjl))) ?_;rintro⟨a,b,c⟩ W' ⟨ha,hs⟩;dsimp only at ha hs;have:=hk ⟨a,b,g.xs[j].p,c,g.xs[j].d⟩ (by rw[ha];rfl) W' (cR.aZ hs);exact this
   have tail:∀y:NS,y.m=g.xs[j].m->∀W',St aA w W' [aG y,aa r3 (aj g.xs[j]),aq 3 t (ys.flatMap aj),aN (ys.map aG),aa r2 [slV t,slV q],aq 2 q (g.rs.flatMap ay),aa r1 [.slice none 0 0,.slice none 0 0],aa r [slV g.gn,slV g.gr]]->
    (nw (.cells #[.int .i64 y.k,.slice y.ps.a y.ps.len y.ps.cap,.slice y.ds.a y.ds.len y.ds.cap] 62) λr'=>app 62 3 56 [.int .i64 0,.slice none 0 0,.slice none 0 0] t ⟨some ⟨r',0,none⟩,1,1⟩ λt22=>Eng.st (Addr.add ⟨r2,0,none⟩ 0) (slV t22) (λW'=>∃(t:Sl) (ys:List NS),ys.map NS.m=(g.xs.take (j+1)).map NS.m/\ys.length=j+1/\St aA w W' [aq 3 t (ys.flatMap aj),aN (ys.map aG),aa r2 [slV t,slV q],aq 2 q (g.rs.flatMap ay),aa r1 [.slice none 0 0,.slice none 0 0],aa r [slV g.gn,slV g.gr]])) W':=by
    intro y hy W' s;refine gX (s.bE [0,2,3,4] 5) (by omega) λt2 W2 s2=>?_;refine(s2.af 2).st (i:=0) (by simp) trivial λW3 s3=>⟨t2,ys++[y],lu hjl hys hy,by simp[mg],?_⟩;exact s3.bE [1,2,0] 3
   refine⟨?_,?_⟩
   ·refine(cR.af 3).ld (i:=0) (s:=.slice) (p:=t) rfl ?_
    exact UR _ λy hy W' s=>tail y hy W' s
   ·refine UR _ λy hy W' s=>?_
    refine(s.af 4).ld (i:=0) (s:=.slice) (p:=t) rfl ?_;exact tail y hy W' s
  ·rintro⟨⟩ W' ⟨t',ys',QZ,Q1,s'⟩
   rw[ax (by omega)];exact⟨⟨j+1,t',ys',rfl,by omega,QZ,Q1,s'⟩,by omega⟩
 ·simp only[ja]at hge
  rw[List.take_of_length_le (by omega)]at hys;refine bY.aQ (l:=[.slice,.slice]) (p:=(t,q)) (sW.af 2).box ?_;refine(sW.af 4).st (i:=0) (by simp) trivial λW1 k1=>k1.st (i:=1) (by simp) trivial λW2 k2=>?_;refine bY.aQ (l:=[.slice,.slice]) (p:=(t,q)) k2.box ?_;refine⟨⟨t,q,ys,g.rs⟩,rfl,rfl,?_,dG.mk ?_⟩
  ·unfold GS.m
   rw[hys]
  ·exact k2.bE [1,2,4] 6
theorem Y9(g:GS)(w:World)(hg:RG w aA g):Calls Pq 71 #[g.v] w (aC [.agg [.slice,.slice]] λr w'=>Be g.m w r w'):=by
 refine Bg g.gn g.gr _ _ ?_;unfold US;simp only[ag];have gy:=hg.nl;have hrl:=hg.rl;have hn2:=hg.sm.nl;have xK:=hg.sm.rl;refine St.nw (St.bp w) λr w1 s1 _ _=>St.nw s1 λr1 w2 s2 _ _=>St.nw s2 λr2 w3 s3 _ _=>?_;have s3:St aA w w3 [aa r2 [.slice none 0 0,.slice none 0 0],aa r1 [.slice none 0 0,.slice none 0 0],aa r [slV g.gn,slV g.gr]]:=s3;refine aB (λz W=>∃(j:Nat) (t:Sl) (ys:List NS),z=j/\j<=g.xs.length/\ys.map NS.m=(g.xs.take j).map NS.m/\ys.length=j/\St aA w W [aq 3 t (ys.flatMap aj),aN (ys.map aG),aa r2 [slV t,.slice none 0 0],aa r1 [.slice none 0 0,.slice none 0 0],aa r [slV g.gn,slV g.gr]])
  (λz _=>g.xs.length-z.toNat) ⟨0,⟨none,0,0⟩,[],rfl,by omega,rfl,rfl,s3.rJ.fe 3⟩ ?_
 rintro _ W ⟨j,t,ys,rfl,hj,hys,mg,sW⟩;refine(sW.af 4).ld (i:=0) (s:=.slice) (p:=g.gn) rfl ?_;refine ah (λhlt=>?_) (λhge=>?_)
 ·simp only[jb]at hlt
  have hjl:j<g.xs.length:=by omega
  refine(sW.af 4).ld (i:=0) (s:=.slice) (p:=g.gn) rfl ⟨⟨by omega,by omega⟩,?_⟩;rw[jk];refine(hg.grow sW.bh).node (x:=g.xs[j]) (by simp[hjl]) ?_;refine St.nw sW λr3 w7 s7 _ _=>s7.st (i:=0) (by simp) trivial λw8 s8=>s8.st (i:=1) (by simp) trivial λw9 s9=>s9.st (i:=2) (by simp) trivial λiF bH=>?_;rw[aR];have cR:=bH.drew;have cR:St aA w iF.drew [aa r3 (aj g.xs[j]),aq 3 t (ys.flatMap aj),aN (ys.map aG),aa r2 [slV t,.slice none 0 0],aa r1 [.slice none 0 0,.slice none 0 0],aa r [slV g.gn,slV g.gr]]:=cR;have hx:=(hg.grow cR.bh).rn (List.getElem_mem hjl);refine(cR.af 3).ld (i:=0) (s:=.slice) (p:=t) rfl ?_;refine cR.ld (i:=0) (s:=.int .i64) (p:=g.xs[j].k) rfl ?_;refine cR.ld (i:=1) (s:=.slice) (p:=g.xs[j].ps) rfl ?_;refine cR.ld (i:=2) (s:=.slice) (p:=g.xs[j].ds) rfl ?_;have hp:=hx.pl;have hd:=hx.dl;have nq:=hx.ip.len;have ve:=hx.bd.len;have Zc:=hp;refine iE cR hx.ip.vs (JI _) rfl (by decide) (by decide) (by decide) (by omega) λt24 rK eH=>?_;have cK:=(hg.grow eH.bh).rn (List.getElem_mem hjl);refine iE eH cK.bd.ms.vs gx rfl (by decide) (by decide) (by decide) (by omega) λt27 q7 fJ=>?_;have l6:St aA w q7 (aG ⟨g.xs[j].k,t24,g.xs[j].p,t27,g.xs[j].d⟩::_):=St.eG (xs:=[aq 1 t24 (g.xs[j].p.map iv),aq 1 t27 (g.xs[j].d.map ub)]) (fJ.bE [1,0] 2);refine gX (y:=⟨g.xs[j].k,t24,g.xs[j].p,t27,g.xs[j].d⟩) (l6.bE [0,2,3,4] 5) (by omega) λt30 JJ vn=>?_
  refine(vn.af 2).st (i:=0) (by simp) trivial λQq G8=>?_;rw[ax (by omega)];exact⟨⟨j+1,t30,ys++[NS.mk g.xs[j].k t24 g.xs[j].p t27 g.xs[j].d],rfl,by omega,lu hjl hys rfl,by simp[mg],G8.bE [1,2,0] 3⟩,by omega⟩
 ·simp only[ja]at hge
  rw[List.take_of_length_le (by omega)]at hys;refine(sW.af 4).ld (i:=1) (s:=.slice) (p:=g.gr) rfl ?_;refine iE sW (xI (hg.grow sW.bh)) (Dr _) rfl (by decide) (by decide) (by decide) (by omega) λq w1 s1=>?_;refine(s1.af 3).st (i:=1) (by simp) trivial λw2 s2=>?_;refine bY.aQ (l:=[.slice,.slice]) (p:=(t,q)) s2.box ?_;refine(s2.af 4).st (i:=0) (by simp) trivial λw3 s3=>s3.st (i:=1) (by simp) trivial λw4 s4=>?_;refine bY.aQ (l:=[.slice,.slice]) (p:=(t,q)) s4.box ?_;refine⟨⟨t,q,ys,g.rs⟩,rfl,rfl,?_,dG.mk ?_⟩
  ·unfold GS.m
   rw[hys]
  ·exact s4.bE [3,4,2] 6
abbrev bv(b:Bool):Value:=.bool b
abbrev BL:=MS bv
def dZ(seen:List Bool)(p:Int):Bool:=decide (p<0)|| !(seen[p.toNat]?).getD false
def allM(seen:List Bool)(n:GN):Bool:=decide (n.k=3)&&dZ seen (n.p.headD (-1))
def jQ(seen:List Bool)(n:GN):GN:=⟨n.k,n.p.map λp=>if allM seen n||decide (n.k=2)&&dZ seen p then-1 else p,n.d⟩
theorem BL.at{w:World}{s:Sl}{l:List Bool}(h:BL w s l){i:Nat}{k:Bool->Pr}(hi:i<l.length)(hk:k l[i] w):(deref s.a λa=>au .bool (a.add (i*1)) k) w:=
 MS.at (c:=.bool) (p:=l[i]) (x:=l[i]) h (by simp[hi]) rfl hk
theorem WI(p:Int)(b:Nat)(s:Sl)(seen:List Bool)(w:World)(hb:bY w b [slV s])(hs:BL w s seen)(hp:p<seen.length):Calls Pq 137 #[.int .i64 p,.pointer (some ⟨b,0,none⟩)] w (aC [.c .bool] λr w'=>r=dZ seen p/\w=w'):=by
 refine xL p _ _ _ ?_;unfold Np;simp only[ag];have jZ:=hs.len;refine ah (λh=>⟨?_,rfl⟩) λh=>?_
 ·unfold dZ
  rw[h];rfl
 ·have h0:0<=p:=by simpa using h
  refine dD (s:=.slice) (p:=s) hb.fK ⟨⟨h0,by omega⟩,?_⟩;refine BL.at hs (i:=p.toNat) (by omega) ⟨?_,rfl⟩;unfold dZ;rw[h,Bool.false_or,jl (by omega)];rfl
theorem WJ(x:NS)(s:Sl)(seen:List Bool)(w:World)(hx:RN w x)(hs:BL w s seen)(hp:∀p∈x.p,p<seen.length)(hk:x.k=3->1<=x.p.length):
 Calls Pq 88 #[.agg #[.int .i64 x.k,slV x.ps,slV x.ds],slV s] w (aC [.agg [.int .i64,.slice,.slice]] λr w'=>∃y:NS,(y.k,y.ps,y.ds)=r/\y.m=jQ seen x.m/\St aA w w' [aG y]):=by
 refine Bh x.k x.ps x.ds s _ _ ?_;unfold UT;simp only[ag];have nq:=hx.ip.len;have Q2:=hx.pl;refine St.nw (St.bp w) λr w1 s1 _ _=>⟨trivial,St.nw s1 λr1 w2 s2 _ _=>St.nw s2 λr2 w3 s3 _ _=>?_⟩;have s3:St aA w w3 [aa r2 [.int .i64 0,.slice none 0 0,.slice none 0 0],aa r1 [slV s],aa r [.int .i64 x.k,slV x.ps,slV x.ds]]:=s3;refine bY.aQ (l:=[.int .i64,.slice,.slice]) (p:=(x.k,x.ps,x.ds)) (s3.af 2).box ?_;refine ak (QY x w3 (hx.grow s3.bh)) ?_;rintro⟨k',t,u⟩ w4 ⟨hk',k4⟩;dsimp only at hk' k4;subst hk';have s4:=s3.aZ k4;refine St.nw s4 λr3 w5 s5 _ _=>s5.st (i:=0) (by simp) trivial λw6 s6=>s6.st (i:=1) (by simp) trivial λw7 s7=>s7.st (i:=2) (by simp) trivial λw8 s8=>?_;have s8:St aA w w8 [aa r3 [.int .i64 x.k,slV t,slV u],aN [aq 1 t (x.p.map iv),aq 1 u (x.d.map ub)],aa r2 [.int .i64 0,.slice none 0 0,.slice none 0 0],aa r1 [slV s],aa r [.int .i64 x.k,slV x.ps,slV x.ds]]:=s8;have s9:=((s8.af 1).Bd.bE [0,2,1] 3);have s9:St aA w w8 [aq 1 t (x.p.map iv),aa r3 [.int .i64 x.k,slV t,slV u],aq 1 u (x.d.map ub),aa r2 [.int .i64 0,.slice none 0 0,.slice none 0 0],aa r1 [slV s],aa r [.int .i64 x.k,slV x.ps,slV x.ds]]:=s9;have rd:∀{W L},St aA w W (L++[aa r1 [slV s],aa r [.int .i64 x.k,slV x.ps,slV x.ds]])->bY W r1 [slV s]/\bY W r [.int .i64 x.k,slV x.ps,slV x.ds]:=λ{W L} h=>⟨(St.z9 h).box,((St.z9 h).af 1).box⟩
 have gone:∀{W L} (p:Int) (k:Bool->Pr),St aA w W (L++[aa r1 [slV s],aa r [.int .i64 x.k,slV x.ps,slV x.ds]])->p∈x.p->k (dZ seen p) W->cE Pq (.func (.func 137) #[] #[.pointer (some ⟨r1,0,none⟩)]) [.int .i64 p] [.c .bool] k W:=by
  intro W L p k h vo hk;refine fL rfl (by kernel_rfl) (WI p r1 s seen W (rd h).1 (hs.grow h.bh) (hp p vo)) ?_;rintro _ _ ⟨rfl,rfl⟩;exact hk
 have hnp:∀(h:0<x.p.length),x.p.headD (-1)=x.p[0]:=λh=>by
  rw[List.headD_eq_head?_getD,List.head?_eq_getElem?,jl h];rfl
 refine aL (λb W=>b=allM seen x.m/\w8=W) ?_ ?_
 ·have h9:=rd (L:=[_,_,_,_]) s9
  refine h9.2.ld (i:=0) (s:=.int .i64) (p:=x.k) rfl ?_;have hall:allM seen x.m=(decide (x.k=3)&&dZ seen (x.p.headD (-1))):=rfl;refine ah (λh3=>?_) λh3=>⟨?_,rfl⟩
  ·have Ds:x.k=3:=by simpa using h3
   have h1:=hk Ds;refine h9.2.ld (i:=1) (s:=.slice) (p:=x.ps) rfl ⟨⟨by omega,by omega⟩,?_⟩;refine IS.at (hx.ip.grow s9.bh) (i:=0) (by omega) ?_;refine gone (L:=[_,_,_,_]) _ _ s9 (List.getElem_mem (by omega)) ⟨?_,rfl⟩;rw[hall,decide_eq_true Ds,Bool.true_and,hnp (by omega)]
  ·rw[hall,decide_eq_false (by simpa using h3)];rfl
 rintro _ _ ⟨rfl,rfl⟩;refine(rd (L:=[_,_,_,_]) s9).2.ld (i:=1) (s:=.slice) (p:=x.ps) rfl ?_;generalize hA:allM seen x.m=A;refine aB (λz W=>∃(j:Nat) (q:List Int),z=j/\j<=x.p.length/\q=(x.p.take j).map (λp=>if A||decide (x.k=2)&&dZ seen p then-1 else p)++x.p.drop j/\
  St aA w W [aq 1 t (q.map iv),aa r3 [.int .i64 x.k,slV t,slV u],aq 1 u (x.d.map ub),aa r2 [.int .i64 0,.slice none 0 0,.slice none 0 0],aa r1 [slV s],aa r [.int .i64 x.k,slV x.ps,slV x.ds]])
  (λz _=>x.p.length-z.toNat) ⟨0,_,rfl,by omega,rfl,by simpa using s9⟩ ?_
 rintro _ W ⟨j,q,rfl,hj,hq,sW⟩;have hW:=rd (L:=[_,_,_,_]) sW;have q8:q.length=x.p.length:=by rw[hq];simp;omega
 refine ah (λhlt=>?_) (λhge=>?_)
 ·simp only[jb]at hlt
  have hjl:j<x.p.length:=by omega
  have next:∀(b:Bool),b=(A||decide (x.k=2)&&dZ seen x.p[j])->(if b then q.set j (-1)else q)=(x.p.take (j+1)).map (λp=>if A||decide (x.k=2)&&dZ seen p then-1 else p)++x.p.drop (j+1):=by
   intro b hb;have hl:((x.p.take j).map (λp=>if A||decide (x.k=2)&&dZ seen p then-1 else p)).length=j:=by simp;omega
   rw[List.take_add_one,jl hjl,jj,hq,List.drop_eq_getElem_cons hjl];simp only[Option.toList_some,List.map_cons,List.map_nil,jt,List.cons_append,List.nil_append,<-hb];cases b with
   |
    true=>
    rw[jd rfl,List.set_append_right _ _ (by omega),hl,Nat.sub_self];rfl
   |false=>rfl
  refine aL (λ_ W'=>∃q':List Int,q'=(x.p.take (j+1)).map (λp=>if A||decide (x.k=2)&&dZ seen p then-1 else p)++x.p.drop (j+1)/\
   St aA w W' [aq 1 t (q'.map iv),aa r3 [.int .i64 x.k,slV t,slV u],aq 1 u (x.d.map ub),aa r2 [.int .i64 0,.slice none 0 0,.slice none 0 0],aa r1 [slV s],aa r [.int .i64 x.k,slV x.ps,slV x.ds]]) ?_ ?_
  ·refine⟨⟨by omega,by omega⟩,?_⟩
   rw[jk];refine IS.at (hx.ip.grow sW.bh) hjl ?_;refine aL (λb W'=>b=(A||decide (x.k=2)&&dZ seen x.p[j])/\W=W') ?_ ?_
   ·refine ah (λh=>⟨by rw[h];rfl,rfl⟩) λh=>?_
    rw[h,Bool.false_or];refine hW.2.ld (i:=0) (s:=.int .i64) (p:=x.k) rfl ?_;refine ah (λh2=>?_) λh2=>⟨?_,rfl⟩
    ·refine gone (L:=[_,_,_,_]) _ _ sW (List.getElem_mem hjl) ⟨?_,rfl⟩
     rw[decide_eq_true (by simpa using h2),Bool.true_and]
    ·rw[decide_eq_false (by simpa using h2)];rfl
   ·rintro b _ ⟨hb,rfl⟩
    refine ah (λh=>?_) λh=>⟨q,?_,sW⟩
    ·refine(sW.af 1).ld (i:=1) (s:=.slice) (p:=t) rfl ?_
     have kq:=aT sW.sl;rw[je]at kq;refine⟨⟨by omega,by omega⟩,?_⟩;refine ez sW (by simp;omega) trivial λW2 s2=>⟨q.set j (-1),?_,?_⟩
     ·have:=next b hb
      rwa[h,jd rfl]at this
     ·rw[List.map_set];exact s2
    ·have:=next b hb
     rwa[h,jc (by decide)]at this
  ·rintro⟨⟩ W' ⟨q',KL,s'⟩
   rw[ax (by omega)];exact⟨⟨j+1,q',rfl,by omega,KL,s'⟩,by omega⟩
 ·simp only[ja]at hge
  rw[List.take_of_length_le (by omega),List.drop_of_length_le (by omega),List.append_nil]at hq;refine bY.aQ (l:=[.int .i64,.slice,.slice]) (p:=(x.k,t,u)) (sW.af 1).box ?_;refine(sW.af 3).st (i:=0) (by simp) trivial λW1 k1=>k1.st (i:=1) (by simp) trivial λW2 k2=>k2.st (i:=2) (by simp) trivial λW3 k3=>?_;refine bY.aQ (l:=[.int .i64,.slice,.slice]) (p:=(x.k,t,u)) k3.box ⟨⟨x.k,t,q,u,x.d⟩,rfl,?_,?_⟩
  ·show(⟨x.k,q,x.d⟩:GN)=⟨x.k,x.p.map (λp=>if allM seen x.m||decide (x.k=2)&&dZ seen p then-1 else p),x.d⟩
   rw[hq,hA]
  ·have k4:St aA w W3 [aq 1 t (q.map iv),aq 1 u (x.d.map ub)]:=k3.bE [1,3] 6
   exact St.eG (xs:=[aq 1 t (q.map iv),aq 1 u (x.d.map ub)]) k4
inductive nr(G:GG):Nat->Prop
 |root {r:RM}:r∈G.r->nr G r.2.toNat
 |plain {i:Nat} {n:GN} {p:Int}:nr G i->G.n[i]? =some n->n.k=1->p∈n.p->0<=p->nr G p.toNat
 |pair {i:Nat} {n:GN} {q p:Int}:nr G i->G.n[i]? =some n->n.k=3->n.p.head? =some q->0<=q->nr G q.toNat->p∈n.p->0<=p->nr G p.toNat
open Classical in
noncomputable def av(G:GG):List Bool:=(List.range G.n.length).map λi=>decide (nr G i)
@[simp]theorem fj(G:GG):(av G).length=G.n.length:=by simp[av]
theorem lf(G:GG)(i:Nat)(hi:i<G.n.length):(av G)[i]? =some true↔nr G i:=by
 unfold av;rw[jf,List.getElem?_range hi];simp
def fM(seen:List Bool)(n:GN):Bool:=decide (n.k=1)||(decide (n.k=3)&&match n.p.head? with|some q=>decide (0<=q)&&(seen[q.toNat]?).getD false|none=>false)
def iH(G:GG)(seen:List Bool)(i:Nat):Prop:=∀n p,seen[i]? =some true->G.n[i]? =some n->fM seen n=true->p∈n.p->0<=p->seen[p.toNat]? =some true
def eC(G:GG)(seen:List Bool):Prop:=∀i,seen[i]? =some true->nr G i
theorem nr.live{G:GG}{seen:List Bool}{i:Nat}{n:GN}{p:Int}(hs:eC G seen)(hi:seen[i]? =some true)(hn:G.n[i]? =some n)(hl:fM seen n=true)(hp:p∈n.p)(h0:0<=p):nr G p.toNat:=by
 unfold fM at hl;rw[Bool.or_eq_true]at hl;rcases hl with hl|hl
 ·exact .plain (hs i hi) hn (by simpa using hl) hp h0
 ·rw[jz]at hl
  obtain⟨h3,hl⟩:=hl;cases hq:n.p.head? with
  |none=>rw[hq]at hl;cases hl
  |
   some q=>
   rw[hq]at hl;simp only[jz,jb]at hl h3;refine .pair (hs i hi) hn h3 hq hl.1 (hs _ ?_) hp h0;cases hc:seen[q.toNat]?with
   |none=>rw[hc]at hl;cases hl.2
   |some b=>rw[hc]at hl;simp at hl;rw[hl.2]
theorem mh{G:GG}{seen:List Bool}(hlen:seen.length=G.n.length)(hs:eC G seen)(hr:∀r∈G.r,seen[r.2.toNat]? =some true)(hc:∀i,iH G seen i):seen=av G:=by
 have all:∀i,nr G i->seen[i]? =some true:=by
  intro i h
  induction h with
  |root h=>exact hr _ h
  |plain h hn hk hp h0 ih=>exact hc _ _ _ ih hn (by unfold fM;simp[hk]) hp h0
  |
   pair h hn hk hq xy xK hp h0 ih ih2=>
   refine hc _ _ _ ih hn ?_ hp h0;unfold fM;rw[hq];simp[hk,xy,ih2]
 apply List.ext_getElem?;intro i;rcases Nat.lt_or_ge i G.n.length with hi|hi
 ·have h1:i<seen.length:=by omega
  have h2:i<(av G).length:=by simpa using hi
  rw[jl h1,jl h2]
  congr 1
  have key:seen[i]=true↔(av G)[i]=true:=by
   have e1:seen[i]? =some true↔seen[i]=true:=by rw[jl h1];simp
   have e2:(av G)[i]? =some true↔(av G)[i]=true:=by rw[jl h2];simp
   rw[<-e1,<-e2,lf G i hi];exact⟨hs i,all i⟩
  cases h3:seen[i]<;>cases h4:(av G)[i]<;>simp_all
 ·rw[List.getElem?_eq_none (by omega),List.getElem?_eq_none (by simpa using hi)]
def pM(a b:List Bool):Prop:=a.length=b.length/\∀i:Nat,a[i]? =some true->b[i]? =some true
theorem pM.refl(a:List Bool):pM a a:=⟨rfl,λ_ h=>h⟩
theorem pM.trans{a b c:List Bool}(h:pM a b)(k:pM b c):pM a c:=⟨h.1.trans k.1,λi hi=>k.2 i (h.2 i hi)⟩
theorem pM.set{a:List Bool}(i:Nat):pM a (a.set i true):=⟨by simp,λj hj=>by
 rw[List.getElem?_set];split
 ·rename_i h;subst h
  have:i<a.length:=by
   rcases Nat.lt_or_ge i a.length with h|h
   ·exact h
   ·rw[List.getElem?_eq_none h]at hj;cases hj
  rw[jd this]
 ·exact hj⟩
def xM(a:List Bool):Nat:=a.countP (!·)
theorem Dt{a:List Bool}{i:Nat}(h:a[i]? =some false):xM (a.set i true)<xM a:=by
 have hi:i<a.length:=by
  rcases Nat.lt_or_ge i a.length with h'|h'
  ·exact h'
  ·rw[List.getElem?_eq_none h']at h;cases h
 have hsp:=(bt h).1;unfold xM
 conv=>rhs;rw[hsp]
 rw[List.set_eq_take_append_cons_drop,jd hi,List.countP_append,List.countP_append,List.countP_cons,List.countP_cons];simp
theorem eC.set{G:GG}{a:List Bool}{i:Nat}(h:eC G a)(hi:nr G i):eC G (a.set i true):=λj hj=>by
 rw[List.getElem?_set]at hj;split at hj
 ·rename_i he;rw[<-he];exact hi
 ·exact h j hj
set_option maxRecDepth 100000
def Te:An:=(.sq .z (.sq .z (.bl (.sq .z (.br (.sq .z .z) (.sq .z (.br (.sq .z .z) (.sq .z .z))))))))
def UW(aD:Int)(az:Sl)(bL:Sl)(p1:Sl)(Q:Bool->Pr):Pr:=
 nw (.cells #[(.int .i64 aD),(.slice az.a az.len az.cap),(.slice bL.a bL.len bL.cap)] 62) λr=>
 deref (some ⟨r,0,none⟩) λa=>
 deref (some (a.add 0)) λa_1=>
 au (.int .i64) a_1 λ(t6:Int)=>
 br (t6==1) (
 Q true) (
 br (t6==3) (
 deref (some ⟨r,0,none⟩) λa_2=>
 deref (some (a_2.add 1)) λbX=>
 au .slice bX λ(t12:Sl)=>
 br (decide ((t12.len:Int)>0)) (
 deref (some ⟨r,0,none⟩) λc6=>
 deref (some (c6.add 1)) λc7=>
 au .slice c7 λ(t17:Sl)=>
 aP ((0:Int)<=0/\0<(t17.len:Int))<|
 deref t17.a λcV=>
 deref (some (cV.add (Int.toNat 0*1))) λdy=>
 au (.int .i64) dy λ(t19:Int)=>
 br (decide (t19>=0)) (
 deref (some ⟨r,0,none⟩) λdO=>
 deref (some (dO.add 1)) λdP=>
 au .slice dP λ(t24:Sl)=>
 aP ((0:Int)<=0/\0<(t24.len:Int))<|
 deref t24.a λbu=>
 deref (some (bu.add (Int.toNat 0*1))) λbF=>
 au (.int .i64) bF λ(t26:Int)=>
 br (decide (t26<(p1.len:Int))) (
 deref (some ⟨r,0,none⟩) λbw=>
 deref (some (bw.add 1)) λbJ=>
 au .slice bJ λ(t34:Sl)=>
 aP ((0:Int)<=0/\0<(t34.len:Int))<|
 deref t34.a λbW=>
 deref (some (bW.add (Int.toNat 0*1))) λbS=>
 au (.int .i64) bS λ(t36:Int)=>
 aP ((0:Int)<=t36/\t36<(p1.len:Int))<|
 deref p1.a λcm=>
 deref (some (cm.add (Int.toNat t36*1))) λcx=>
 au .bool cx λ(t38:Bool)=>
 Q t38) (
 Q false)) (
 Q false)) (
 Q false)) (
 Q false))
theorem Bi(aD:Int)(az:Sl)(bL:Sl)(p1:Sl)(Q:Bool->Pr)(w:World)(h:UW aD az bL p1 Q w):Calls Pq 72 #[(.agg #[(.int .i64 aD),(slV az),(slV bL)]),(slV p1)] w (aC [.c .bool] Q):=cF (an:=Te) Tryz.func72 (by kernel_rfl) h
def O9:An:=(.sq .z (.sq .z (.sq (.sq .z (.bl (.lp [(5,.c .bool),(6,.c (.int .i64))] (.sq (.sq (.jn [(20,.c .bool)] .z) (.br .z .z)) (.sq (.jn [(5,.c .bool)] (.bl (.sq .z (.sq (.sq (.jn [(38,.c .bool)] .z) (.br .z .z)) (.sq .z (.bl (.lp [(5,.c .bool),(8,.c (.int .i64))] (.sq (.sq .z (.br .z .z)) (.sq (.jn [(5,.c .bool)] (.bl (.sq .z (.sq (.jn [(65,.c .bool)] .z) (.br (.sq .z .z) .z))))) .z))))))))) .z))))) (.sq .z .z))))
def Nr(aD:Sl)(az:Sl)(p1:Sl)(Q:Bool->Pr):Pr:=
 nw (.cells #[(.slice aD.a aD.len aD.cap),(.slice az.a az.len az.cap)] 32) λr=>
 aM (S:=Bool×Int) (λX s=>
 jn (S:=Bool) (λR=>
 deref (some ⟨r,0,none⟩) λa=>
 deref (some (a.add 0)) λa_1=>
 au .slice a_1 λ(t12:Sl)=>
 br (decide (s.2<(t12.len:Int))) (
 R ((decide (s.2<(p1.len:Int))))) (
 R false)) λs_1=>
 br s_1 (
 jn (S:=Bool) (λbG=>
 deref (some ⟨r,0,none⟩) λa_2=>
 deref (some (a_2.add 0)) λbX=>
 au .slice bX λ(t24:Sl)=>
 aP ((0:Int)<=s.2/\s.2<(t24.len:Int))<|
 deref t24.a λc6=>
 deref (some (c6.add (Int.toNat s.2*3))) λc7=>
 aQ [(.int .i64),.slice,.slice] c7 λ(t27:Int×Sl×Sl)=>
 nw (.cells #[(.int .i64 0),(.slice none 0 0),(.slice none 0 0)] 62) λr_1=>
 deref (some ⟨r_1,0,none⟩) λcV=>
 st (cV.add 0) (.int .i64 t27.1)<|
 st (cV.add 1) (.slice t27.2.1.a t27.2.1.len t27.2.1.cap)<|
 st (cV.add 2) (.slice t27.2.2.a t27.2.2.len t27.2.2.cap)<|
 jn (S:=Bool) (λjN=>
 aP ((0:Int)<=s.2/\s.2<(p1.len:Int))<|
 deref p1.a λdy=>
 deref (some (dy.add (Int.toNat s.2*1))) λdO=>
 au .bool dO λ(t31:Bool)=>
 br (!t31) (
 jN true) (
 deref (some ⟨r_1,0,none⟩) λdP=>
 aQ [(.int .i64),.slice,.slice] dP λ(t34:Int×Sl×Sl)=>
 cB 72 [(.agg #[(.int .i64 t34.1),(.slice t34.2.1.a t34.2.1.len t34.2.1.cap),(.slice t34.2.2.a t34.2.2.len t34.2.2.cap)]),(.slice p1.a p1.len p1.cap)] λt36=>
 jN (!t36))) λdB=>
 br dB (
 bG s.1) (
 aM (S:=Bool×Int) (λjM bB=>
 deref (some ⟨r_1,0,none⟩) λbu=>
 deref (some (bu.add 1)) λbF=>
 au .slice bF λ(t41:Sl)=>
 br (decide (bB.2<(t41.len:Int))) (
 jn (S:=Bool) (λvk=>
 deref (some ⟨r_1,0,none⟩) λbw=>
 deref (some (bw.add 1)) λbJ=>
 au .slice bJ λ(t47:Sl)=>
 aP ((0:Int)<=bB.2/\bB.2<(t47.len:Int))<|
 deref t47.a λbW=>
 deref (some (bW.add (Int.toNat bB.2*1))) λbS=>
 au (.int .i64) bS λ(t50:Int)=>
 jn (S:=Bool) (λGZ=>
 br (decide (t50>=0)) (
 br (decide (t50<(p1.len:Int))) (
 aP ((0:Int)<=t50/\t50<(p1.len:Int))<|
 deref p1.a λcm=>
 deref (some (cm.add (Int.toNat t50*1))) λcx=>
 au .bool cx λ(t63:Bool)=>
 GZ (!t63)) (
 GZ false)) (
 GZ false)) λPa=>
 br Pa (
 aP ((0:Int)<=t50/\t50<(p1.len:Int))<|
 deref p1.a λcy=>
 deref (some (cy.add (Int.toNat t50*1))) λcz=>
 st cz (.bool true)<|
 vk true) (
 vk bB.1)) λfB=>
 jM (fB,(IntKind.wrap .i64 (bB.2+1)))) (
 bG bB.1)) (s.1,0))) λs_2=>
 X (s_2,(IntKind.wrap .i64 (s.2+1)))) (
 Q s.1)) (false,0)
theorem xN(aD:Sl)(az:Sl)(p1:Sl)(Q:Bool->Pr)(w:World)(h:Nr aD az p1 Q w):Calls Pq 115 #[(.agg #[(slV aD),(slV az)]),(slV p1)] w (aC [.c .bool] Q):=cF (an:=O9) Tryz.func115 (by kernel_rfl) h
def Tf:An:=(.sq .z (.sq (.sq .z (.sq .z (.br (.sq .z .z) .z))) (.sq .z (.sq (.sq .z (.bl (.lp [(6,.c (.int .i64))] (.sq (.sq .z (.br .z .z)) (.sq (.bl .z) .z))))) (.sq (.bl (.lp [] (.sq (.sq .z (.br .z .z)) (.bl .z)))) (.sq .z .z))))))
def UX(aD:Sl)(az:Sl)(Q:Sl×Int->Pr):Pr:=
 nw (.cells #[(.slice aD.a aD.len aD.cap),(.slice az.a az.len az.cap)] 32) λr=>
 deref (some ⟨r,0,none⟩) λa=>
 aQ [.slice,.slice] a λ(t7:Sl×Sl)=>
 aH Pq 114 [(.agg #[(.slice t7.1.a t7.1.len t7.1.cap),(.slice t7.2.a t7.2.len t7.2.cap)])] [.c (.int .i64)] λ(t8:Int)=>
 br (t8 !=0) (
 Q (⟨none,0,0⟩,t8)) (
 deref (some ⟨r,0,none⟩) λa_1=>
 deref (some (a_1.add 0)) λa_2=>
 au .slice a_2 λ(t13:Sl)=>
 AQ 4 1 [(.bool false)] (t13.len:Int) (t13.len:Int) λt15=>
 aM (S:=Int) (λX s=>
 deref (some ⟨r,0,none⟩) λbX=>
 deref (some (bX.add 1)) λc6=>
 au .slice c6 λ(t18:Sl)=>
 br (decide (s<(t18.len:Int))) (
 deref (some ⟨r,0,none⟩) λc7=>
 deref (some (c7.add 1)) λcV=>
 au .slice cV λ(t25:Sl)=>
 aP ((0:Int)<=s/\s<(t25.len:Int))<|
 deref t25.a λdy=>
 deref (some (dy.add (Int.toNat s*2))) λdO=>
 deref (some (dO.add 1)) λdP=>
 au (.int .i64) dP λ(t29:Int)=>
 aP ((0:Int)<=t29/\t29<(t15.len:Int))<|
 deref t15.a λbu=>
 deref (some (bu.add (Int.toNat t29*1))) λbF=>
 st bF (.bool true)<|
 X ((IntKind.wrap .i64 (s+1)))) (
 aM (S:=Unit) (λjM s_1=>
 deref (some ⟨r,0,none⟩) λbw=>
 aQ [.slice,.slice] bw λ(t31:Sl×Sl)=>
 cB 115 [(.agg #[(.slice t31.1.a t31.1.len t31.1.cap),(.slice t31.2.a t31.2.len t31.2.cap)]),(.slice t15.a t15.len t15.cap)] λt33=>
 br t33 (
 jM ()) (
 Q (t15,0))) ())) 0)
theorem Bm(aD:Sl)(az:Sl)(Q:Sl×Int->Pr)(w:World)(h:UX aD az Q w):Calls Pq 70 #[(.agg #[(slV aD),(slV az)])] w (aC [.c .slice,.c (.int .i64)] Q):=cF (an:=Tf) Tryz.func70 (by kernel_rfl) h
def Pb:An:=(.sq .z (.bl (.lp [(8,.c (.int .i64))] (.sq .z (.sq (.br .z .z) (.sq (.jn [] (.bl (.sq .z (.sq (.jn [(20,.c .bool)] .z) (.br (.sq .z .z) .z))))) .z))))))
def Nt(p0:Sl)(p1:OA)(p2:OA)(Q:Unit->Pr):Pr:=
 aM (S:=Int) (λX s=>
 br (decide (s<(p0.len:Int))) (
 jn (S:=Unit) (λR=>
 aP ((0:Int)<=s/\s<(p0.len:Int))<|
 deref p0.a λa=>
 deref (some (a.add (Int.toNat s*1))) λa_1=>
 au (.int .i64) a_1 λ(t11:Int)=>
 jn (S:=Bool) (λbG=>
 br (decide (t11>=0)) (
 deref p1 λa_2=>
 au .slice a_2 λ(t15:Sl)=>
 aP ((0:Int)<=t11/\t11<(t15.len:Int))<|
 deref t15.a λbX=>
 deref (some (bX.add (Int.toNat t11*1))) λc6=>
 au .bool c6 λ(t18:Bool)=>
 bG (!t18)) (
 bG false)) λs_2=>
 br s_2 (
 deref p1 λc7=>
 au .slice c7 λ(t21:Sl)=>
 aP ((0:Int)<=t11/\t11<(t21.len:Int))<|
 deref t21.a λcV=>
 deref (some (cV.add (Int.toNat t11*1))) λdy=>
 st dy (.bool true)<|
 deref p2 λdO=>
 au .slice dO λ(t24:Sl)=>
 nw (.cells #[(.int .i64 t11)] 3) λr=>
 app 3 1 8 [(.int .i64 0)] t24 ⟨(some ⟨r,0,none⟩),1,1⟩ λt27=>
 deref p2 λdP=>
 st dP (.slice t27.a t27.len t27.cap)<|
 R ()) (
 R ())) λs_1=>
 X ((IntKind.wrap .i64 (s+1)))) (
 Q ())) 0
theorem xQ(p0:Sl)(p1:OA)(p2:OA)(Q:Unit->Pr)(w:World)(h:Nt p0 p1 p2 Q w):Calls Pq 136 #[(slV p0),(.pointer p1),(.pointer p2)] w (aC [] Q):=cF (an:=Pb) Tryz.func136 (by kernel_rfl) h
def Tg:An:=(.sq .z (.sq (.sq (.jn [(15,.c .bool)] .z) (.br (.sq .z .z) .z)) (.sq .z (.sq .z .z))))
def Vp(p0:Sl)(p1:Sl)(p2:Int)(Q:Sl->Pr):Pr:=
 jn (S:=Bool) (λR=>
 br (decide (p2<0)) (
 R true) (
 aP ((0:Int)<=p2/\p2<(p0.len:Int))<|
 deref p0.a λa=>
 deref (some (a.add (Int.toNat p2*1))) λa_1=>
 au (.int .i64) a_1 λ(t13:Int)=>
 R ((decide (t13>=0))))) λs=>
 br s (
 Q p1) (
 aP ((0:Int)<=p2/\p2<(p0.len:Int))<|
 deref p0.a λa_2=>
 deref (some (a_2.add (Int.toNat p2*1))) λbX=>
 st bX (.int .i64 (p1.len:Int))<|
 nw (.cells #[(.int .i64 p2)] 3) λr=>
 app 3 1 8 [(.int .i64 0)] p1 ⟨(some ⟨r,0,none⟩),1,1⟩ λt25=>
 Q t25)
theorem BG(p0:Sl)(p1:Sl)(p2:Int)(Q:Sl->Pr)(w:World)(h:Vp p0 p1 p2 Q w):Calls Pq 34 #[(slV p0),(slV p1),(.int .i64 p2)] w (aC [.c .slice] Q):=cF (an:=Tg) Tryz.func34 (by kernel_rfl) h
def Th:An:=(.sq (.jn [(12,.c .bool)] .z) (.br (.sq .z .z) .z))
def U0(p0:Int)(p1:OA)(p2:OA)(Q:Unit->Pr):Pr:=
 jn (S:=Bool) (λR=>
 br (decide (p0>=0)) (
 deref p1 λa=>
 au .slice a λ(t7:Sl)=>
 aP ((0:Int)<=p0/\p0<(t7.len:Int))<|
 deref t7.a λa_1=>
 deref (some (a_1.add (Int.toNat p0*1))) λa_2=>
 au .bool a_2 λ(t10:Bool)=>
 R (!t10)) (
 R false)) λs=>
 br s (
 deref p1 λbX=>
 au .slice bX λ(t13:Sl)=>
 aP ((0:Int)<=p0/\p0<(t13.len:Int))<|
 deref t13.a λc6=>
 deref (some (c6.add (Int.toNat p0*1))) λc7=>
 st c7 (.bool true)<|
 deref p2 λcV=>
 au .slice cV λ(t16:Sl)=>
 nw (.cells #[(.int .i64 p0)] 3) λr=>
 app 3 1 8 [(.int .i64 0)] t16 ⟨(some ⟨r,0,none⟩),1,1⟩ λt19=>
 deref p2 λdy=>
 st dy (.slice t19.a t19.len t19.cap)<|
 Q ()) (
 Q ())
theorem Bo(p0:Int)(p1:OA)(p2:OA)(Q:Unit->Pr)(w:World)(h:U0 p0 p1 p2 Q w):Calls Pq 55 #[(.int .i64 p0),(.pointer p1),(.pointer p2)] w (aC [] Q):=cF (an:=Th) Tryz.func55 (by kernel_rfl) h
set_option maxRecDepth 20000
theorem UU(x:NS)(s:Sl)(seen:List Bool)(w:World)(hx:RN w x)(hs:BL w s seen)(hp:∀p∈x.p,p<seen.length):Calls Pq 72 #[.agg #[.int .i64 x.k,slV x.ps,slV x.ds],slV s] w (aC [.c .bool] λr w'=>r=fM seen x.m/\Grow w w'):=by
 refine Bi x.k x.ps x.ds s _ _ ?_;unfold UW;simp only[ag];have nq:=hx.ip.len;have jZ:=hs.len;refine St.nw (St.bp w) λr w1 s1 g1 _=>?_;have h1:=hx.ip.grow g1;have e:fM seen x.m=(decide (x.k=1)||(decide (x.k=3)&&match x.p.head? with|some q=>decide (0<=q)&&(seen[q.toNat]?).getD false|none=>false)):=rfl;refine s1.ld (i:=0) (s:=.int .i64) (p:=x.k) rfl ?_;refine ah (λh=>⟨?_,g1⟩) λh=>?_
 ·rw[e,decide_eq_true (by simpa using h)];rfl
 rw[e,decide_eq_false (by simpa using h),Bool.false_or];refine ah (λh=>?_) λh=>⟨?_,g1⟩
 rotate_left
 ·rw[decide_eq_false (by simpa using h)];rfl
 rw[decide_eq_true (by simpa using h),Bool.true_and];refine s1.ld (i:=1) (s:=.slice) (p:=x.ps) rfl ?_;refine ah (λh=>?_) λh=>⟨?_,g1⟩
 rotate_left
 ·have:x.p=[]:=jx (by simp at h;omega)
  rw[this];rfl
 have h0:0<x.p.length:=by simp at h;omega
 have hq:x.p.head? =some x.p[0]:=by rw[List.head?_eq_getElem?,jl h0]
 rw[hq];dsimp only;have Nq:∀(k:Int->Pr),k x.p[0] w1->(aP ((0:Int)<=0/\0<(x.ps.len:Int))<|deref x.ps.a λa=>au (.int .i64) (a.add (Int.toNat 0*1)) k) w1:=λk hk=>⟨⟨by omega,by omega⟩,IS.at h1 (i:=0) h0 hk⟩;refine s1.ld (i:=1) (s:=.slice) (p:=x.ps) rfl (Nq _ ?_);refine ah (λh=>?_) λh=>⟨?_,g1⟩
 rotate_left
 ·rw[decide_eq_false (by simpa using h)];rfl
 have hge:(0:Int)<=x.p[0]:=by simpa using h
 rw[decide_eq_true hge,Bool.true_and];refine s1.ld (i:=1) (s:=.slice) (p:=x.ps) rfl (Nq _ ?_);refine ah (λh=>?_) λh=>⟨absurd (hp x.p[0] (List.getElem_mem h0)) ?_,g1⟩
 rotate_left
 ·simp at h;omega
 have hlt:x.p[0]<seen.length:=hp _ (List.getElem_mem h0);refine s1.ld (i:=1) (s:=.slice) (p:=x.ps) rfl (Nq _ ⟨⟨hge,by omega⟩,?_⟩);refine BL.at (hs.grow g1) (i:=x.p[0].toNat) (by omega) ⟨?_,g1⟩;rw[jl (by omega)];rfl
theorem dJ{G:GG}(h:e7 G=true){n:GN}(hn:n∈G.n):b8 n.k n.p.length n.d.length=true/\∀p∈n.p,-1<=p/\p<G.n.length:=by
 unfold e7 at h;simp only[jz]at h;have h1:=List.all_eq_true.1 h.1.2 n hn;unfold ec at h1;rw[jz,List.all_eq_true]at h1;refine⟨h1.1,λp hp=>?_⟩;have:=h1.2 p hp;unfold kr at this;simpa using this
theorem iG{G:GG}(h:e7 G=true){r:RM}(hr:r∈G.r):e9 r.1=true/\0<=r.2/\r.2<G.n.length:=by
 unfold e7 at h;simp only[jz]at h;obtain⟨i,hi,rfl⟩:=List.mem_iff_getElem.1 hr;have h1:=List.all_eq_true.1 h.2 i (List.mem_range.2 hi);rw[pL (jl hi)]at h1;simp only[jz,jb]at h1;exact⟨h1.1.1.1,h1.1.2,h1.2⟩
theorem St.bl{F0:Nat->Prop}{w0 w:World}{L:List HA}{s:Sl}{c:List Bool}(h:St F0 w0 w (aq 1 s (c.map bv)::L)):BL w s c:=(St.sl h).ms
structure Pass(G:GG)(seen cur:List Bool)(Bj:Bool):Prop where
 le:pM seen cur
 sd:eC G cur
 no:Bj=false->cur=seen
 yes:Bj=true->xM cur<xM seen
theorem Pass.hit{G:GG}{seen cur:List Bool}{Bj:Bool}{p:Nat}(h:Pass G seen cur Bj)(hr:nr G p)(hp:cur[p]? =some false):Pass G seen (cur.set p true) true where
 le:=h.le.trans (pM.set p)
 sd:=h.sd.set hr
 no:=λh=>by cases h
 yes:=λ_=>by
  have h1:=Dt hp;cases Bj with
  |true=>have:=h.yes rfl;omega
  |false=>have:=h.no rfl;rw[<-this];exact h1
theorem WK(g:GS)(s:Sl)(seen:List Bool)(w:World)(F:Nat->Prop)(hs:Has [aq 1 s (seen.map bv)] w F)(hg:RG w F g)(hok:e7 g.m=true)(hlen:seen.length=g.xs.length)(Bk:eC g.m seen):
 Calls Pq 115 #[g.v,slV s] w (aC [.c .bool] λr w'=>∃cur,St F w w' [aq 1 s (cur.map bv)]/\Pass g.m seen cur r/\(r=false->∀i,iH g.m seen i)):=by
 refine xN g.gn g.gr s _ _ ?_;unfold Nr;simp only[ag];have gy:=hg.nl;have hn2:=hg.sm.nl;have hmn:∀j (h:j<g.xs.length),g.m.n[j]? =some g.xs[j].m:=λj h=>by simp[GS.m,h]
 have hml:g.m.n.length=g.xs.length:=by simp[GS.m]
 have KM:∀j (h:j<g.xs.length),∀p∈g.xs[j].p,p<g.xs.length:=λj h p hp=>by
  have:=(dJ hok (ji (hmn j h))).2 p hp;omega
 refine St.nw (St.init hs) λr w1 s1 _ _=>?_;refine aB (λz W=>∃(j:Nat) (cur:List Bool),z.2=j/\j<=g.xs.length/\Pass g.m seen cur z.1/\(z.1=false->∀i<j,iH g.m seen i)/\St F w W [aq 1 s (cur.map bv),aa r [slV g.gn,slV g.gr]])
  (λz _=>g.xs.length-z.2.toNat) ⟨0,seen,rfl,by omega,⟨pM.refl _,Bk,λ_=>rfl,λh=>by cases h⟩,λ_ _ h=>by omega,s1.af 1⟩ ?_
 rintro⟨Bj,_⟩ W ⟨j,cur,rfl,hj,hP,xu,sW⟩;dsimp only at hP xu⊢;have Q3:cur.length=g.xs.length:=by rw[<-hP.le.1];exact hlen
 have jZ:s.len=g.xs.length:=by have:=aT sW.sl;rw[je]at this;omega
 refine aL (λb W'=>b=decide (j<g.xs.length)/\W=W') ?_ ?_
 ·refine(sW.af 1).ld (i:=0) (s:=.slice) (p:=g.gn) rfl ?_
  refine ah (λh=>⟨?_,rfl⟩) λh=>⟨?_,rfl⟩
  ·apply decide_eq_decide.2;omega
  ·simp only[ja]at h
   symm;apply decide_eq_false;omega
 rintro _ _ ⟨rfl,rfl⟩;refine ah (λhlt=>?_) (λhge=>?_)
 rotate_left
 ·simp only[ja]at hge
  refine⟨cur,St.jR (l:=[_]) sW,hP,λhf i=>?_⟩;rcases Nat.lt_or_ge i j with h|h
  ·exact xu hf i h
  ·intro n p hi _ _ _ _
   have:seen[i]? =none:=List.getElem?_eq_none (by omega);rw[this]at hi;cases hi
 simp only[jb]at hlt;have WL:g.xs[j]? =some g.xs[j]:=by simp[hlt]
 refine aL (λb W'=>∃cur',Pass g.m seen cur' b/\(b=false->∀i<j+1,iH g.m seen i)/\St F w W' [aq 1 s (cur'.map bv),aa r [slV g.gn,slV g.gr]]) ?_ ?_
 rotate_left
 ·rintro b W' ⟨cur',Q4,Q5,s'⟩
  rw[ax (by omega)];exact⟨⟨j+1,cur',rfl,by omega,Q4,Q5,s'⟩,by omega⟩
 refine(sW.af 1).ld (i:=0) (s:=.slice) (p:=g.gn) rfl ⟨⟨by omega,by omega⟩,?_⟩;rw[jk];refine(hg.at sW).node WL ?_;have Q6:∀{W L},St F w W L->RN W g.xs[j]:=λh=>(hg.at h).rn (List.getElem_mem hlt);have Bl:=KM j hlt;have Qr:=hmn j hlt;generalize g.xs[j]=x at Q6 Bl Qr⊢;refine St.nw sW λr1 w2 s2 _ _=>s2.st (i:=0) (by simp) trivial λw3 s3=>s3.st (i:=1) (by simp) trivial λw4 s4=>s4.st (i:=2) (by simp) trivial λw5 s5=>?_;have s5:St F w w5 [aa r1 (aj x),aq 1 s (cur.map bv),aa r [slV g.gn,slV g.gr]]:=s5;have Q7:=Q6 s5;have Zd:=Q7.pl;have ko:=Q7.ip.len;refine aL (λb W'=>b= !((cur[j]?).getD false&&fM cur x.m)/\St F w W' [aa r1 (aj x),aq 1 s (cur.map bv),aa r [slV g.gn,slV g.gr]]) ?_ ?_
 ·refine⟨⟨by omega,by omega⟩,?_⟩
  refine BL.at (St.bl (s5.af 1)) (i:=j) (by omega) ?_;rw[jl (by omega)];refine ah (λh=>⟨?_,s5⟩) λh=>?_
  ·have:cur[j]=false:=by simpa using h
   rw[this];rfl
  ·have hc:cur[j]=true:=by simpa using h
   refine bY.aQ (l:=[.int .i64,.slice,.slice]) (p:=(x.k,x.ps,x.ds)) s5.box ?_;refine ak (UU x s cur w5 Q7 (St.bl (s5.af 1)) λp hp=>by rw[Q3];exact Bl p hp) ?_;rintro _ w6 ⟨rfl,g6⟩;exact⟨by rw[hc];rfl,s5.grow g6⟩
 rintro _ w6 ⟨rfl,s6⟩;refine ah (λh=>?_) λh=>?_
 ·refine⟨cur,hP,λhf i hi=>?_,s6.drop⟩
  rcases Nat.lt_or_ge i j with hij|hij
  ·exact xu hf i hij
  ·have hij:i=j:=by omega
   subst hij;have he:=hP.no hf;intro n p h1 h2 h3 _ _;rw[Qr]at h2;simp only[jg]at h2;subst h2;rw[he,h1,h3]at h;cases h
 have hjl:cur[j]? =some true/\fM cur x.m=true:=by
  have h':((cur[j]?).getD false&&fM cur x.m)=true:=by simpa only[Bool.not_eq_false']using h
  rw[jz]at h';rw[jl (by omega)]at h'⊢;exact⟨by rw[show cur[j]=true from h'.1],h'.2⟩
 have xO:∀p∈x.p,0<=p->nr g.m p.toNat:=λp hp h0=>nr.live hP.sd hjl.1 Qr hjl.2 hp h0;refine aB (λz W=>∃(k:Nat) (c:List Bool),z.2=k/\k<=x.p.length/\Pass g.m seen c z.1/\(z.1=false->(∀i<j,iH g.m seen i)/\∀p∈x.p.take k,0<=p->seen[p.toNat]? =some true)/\St F w W [aa r1 (aj x),aq 1 s (c.map bv),aa r [slV g.gn,slV g.gr]])
  (λz _=>x.p.length-z.2.toNat) ⟨0,cur,rfl,by omega,hP,λhf=>⟨xu hf,λp hp=>by simp at hp⟩,s6⟩ ?_
 rintro⟨gr,_⟩ W2 ⟨k,c,rfl,hk,M1,rL,iU⟩;dsimp only at M1 rL⊢;have WM:c.length=g.xs.length:=by rw[<-M1.le.1];exact hlen
 refine iU.ld (i:=1) (s:=.slice) (p:=x.ps) rfl ?_;refine ah (λig=>?_) λij=>?_
 rotate_left
 ·simp only[ja]at ij
  refine⟨c,M1,λhf i hi=>?_,iU.drop⟩;rw[List.take_of_length_le (by omega)]at rL;rcases Nat.lt_or_ge i j with hij|hij
  ·exact(rL hf).1 i hij
  ·have hij:i=j:=by omega
   subst hij;intro n p _ h2 _ hp h0;rw[Qr]at h2;simp only[jg]at h2;subst h2;exact(rL hf).2 p hp h0
 simp only[jb]at ig;have nt:k<x.p.length:=by omega
 refine aL (λb W'=>∃c',Pass g.m seen c' b/\(b=false->(∀i<j,iH g.m seen i)/\∀p∈x.p.take (k+1),0<=p->seen[p.toNat]? =some true)/\St F w W' [aa r1 (aj x),aq 1 s (c'.map bv),aa r [slV g.gn,slV g.gr]]) ?_ ?_
 rotate_left
 ·rintro b W' ⟨c',Q4,WN,s'⟩
  rw[ax (by omega)];exact⟨⟨k+1,c',rfl,by omega,Q4,WN,s'⟩,by omega⟩
 refine iU.ld (i:=1) (s:=.slice) (p:=x.ps) rfl ⟨⟨by omega,by omega⟩,?_⟩;rw[jk];refine IS.at (Q6 iU).ip nt ?_;have vo:x.p[k]∈x.p:=List.getElem_mem nt;have qY:=Bl _ vo;have q9:∀p∈x.p.take (k+1),p∈x.p.take k\/p=x.p[k]:=by
  intro p hp;rw[List.take_add_one,jl nt,jy]at hp;simpa using hp
 generalize x.p[k]=p at vo qY q9⊢;refine aL (λb W'=>b=(decide (0<=p)&& !(c[p.toNat]?).getD true)/\W2=W') ?_ ?_
 ·refine ah (λh1=>?_) λh1=>⟨?_,rfl⟩
  ·have h1:0<=p:=by simpa using h1
   rw[decide_eq_true h1,Bool.true_and];refine oN (by simp;omega) ⟨⟨h1,by omega⟩,?_⟩;refine BL.at (St.bl (iU.af 1)) (i:=p.toNat) (by omega) ⟨?_,rfl⟩;rw[jl (by omega)];rfl
  ·have h1:¬0<=p:=by simpa using h1
   rw[decide_eq_false h1];rfl
 rintro _ _ ⟨rfl,rfl⟩;refine ah (λh1=>?_) λh1=>?_
 ·rw[jz,jb]at h1
  have hpf:c[p.toNat]? =some false:=by
   have h2:=h1.2;rw[jl (by omega)]at h2⊢;simpa using h2
  refine⟨⟨h1.1,by omega⟩,?_⟩;refine ez (iU.af 1) (i:=p.toNat) (by simp;omega) trivial λW3 s3=>⟨c.set p.toNat true,M1.hit (xO p vo h1.1) hpf,λhf=>(by cases hf),?_⟩;rw[List.map_set];exact s3.af 1
 ·refine⟨c,M1,λhf=>⟨(rL hf).1,λq hq h0=>?_⟩,iU⟩
  rcases q9 q hq with h2|rfl
  ·exact(rL hf).2 q h2 h0
  ·rw[decide_eq_true h0,Bool.true_and,M1.no hf]at h1
   rw[jl (by omega)]at h1⊢;simpa using h1
def Ns:Option Value->Bool
 |some (.bool false)=>true
 |_=>false
def KN(W:World)(s:Sl):Nat:=
 match s.a with
 |some ad=>(List.range s.len).countP λi=>Ns (W.cell? (ad.add i))
 |none=>0
theorem Aa{W:World}{s:Sl}{c:List Bool}(h:BL W s c):KN W s=xM c:=by
 unfold KN;have h1:=h.row;cases ha:s.a with
 |
  none=>
  rw[ha]at h1;have:c.map bv=[]:=h1;simp at this;subst this;rfl
 |
  some ad=>
  rw[ha]at h1;have hr:=aF.1 h1;have hc:c=(List.range c.length).map λi=>(c[i]?).getD true:=by
   apply List.ext_getElem (by simp);intro i h1 h2;simp[h1]
  unfold xM
  conv=>rhs;rw[hc,List.countP_map]
  rw[h.len];apply List.countP_congr;intro i hi;rw[List.mem_range]at hi;rw[hr i (bv c[i]) (by simp[hi])];simp only[Function.comp,jl hi,Option.getD_some];cases c[i]<;>simp[Ns]
theorem Du(G:GG):(ei G !=0)= !e7 G:=by
 unfold ei;cases e7 G<;>rfl
theorem WO(g:GS)(w:World)(hg:RG w aA g):Calls Pq 70 #[g.v] w (aC [.c .slice,.c (.int .i64)] λr w'=>r.2=ei g.m/\∃l:List Bool,St aA w w' [aq 1 r.1 (l.map bv)]/\(e7 g.m=true->l=av g.m)):=by
 refine Bm g.gn g.gr _ _ ?_;unfold UX;simp only[ag];have gy:=hg.nl;have hrl:=hg.rl;have hn2:=hg.sm.nl;have xK:=hg.sm.rl;have hml:g.m.n.length=g.xs.length:=by simp[GS.m]
 refine St.nw (St.bp w) λr w1 s1 _ _=>?_;refine bY.aQ (l:=[.slice,.slice]) (p:=(g.gn,g.gr)) s1.box ?_;refine ak (WQ g w1 (hg.grow s1.bh)) ?_;rintro _ w2 ⟨rfl,g2⟩;have s2:=s1.grow g2;rw[Du];refine ah (λh=>⟨rfl,[],St.jR (l:=[_]) (s2.fe 1),λhok=>by rw[hok]at h;cases h⟩) λh=>?_;have hok:e7 g.m=true:=by simpa only[Bool.not_eq_false']using h
 refine s2.ld (i:=0) (s:=.slice) (p:=g.gn) rfl ?_;refine s2.vp g.xs.length (by omega) rfl (by omega) (by omega) λt w3 s3 kq=>?_;rw[lB]at s3;have s3:St aA w w3 [aq 1 t ((List.replicate g.xs.length false).map bv),aa r [slV g.gn,slV g.gr]]:=by
  rw[List.map_replicate];exact s3
 have Q8:eC g.m (List.replicate g.xs.length false):=by
  intro i hi;rw[List.getElem?_replicate]at hi;split at hi<;>cases hi
 refine aB (λz W=>∃(j:Nat) (c:List Bool),z=j/\j<=g.rs.length/\c.length=g.xs.length/\eC g.m c/\(∀r∈g.rs.take j,c[r.2.toNat]? =some true)/\St aA w W [aq 1 t (c.map bv),aa r [slV g.gn,slV g.gr]])
  (λz _=>g.rs.length-z.toNat) ⟨0,List.replicate g.xs.length false,rfl,by omega,by simp,Q8,λr hr=>by simp at hr,s3⟩ ?_
 rintro _ W ⟨j,c,rfl,hj,hc,Bk,GL,sW⟩;refine(sW.af 1).ld (i:=1) (s:=.slice) (p:=g.gr) rfl ?_;refine ah (λhlt=>?_) λhge=>?_
 ·simp only[jb]at hlt
  have hjl:j<g.rs.length:=by omega
  refine(sW.af 1).ld (i:=1) (s:=.slice) (p:=g.gr) rfl ⟨⟨by omega,by omega⟩,?_⟩;rw[jk];refine(hg.grow sW.bh).oc (x:=g.rs[j]) (j:=1) (c:=.int .i64) (p:=g.rs[j].2) (by simp[hjl]) rfl ?_;have hro:=iG hok (r:=g.rs[j]) (List.getElem_mem hjl);have hmem:g.rs[j]∈g.m.r:=List.getElem_mem hjl;have q9:∀q∈g.rs.take (j+1),q∈g.rs.take j\/q=g.rs[j]:=by
   intro p hp;rw[List.take_add_one,jl hjl,jy]at hp;simpa using hp
  generalize g.rs[j]=q at hro hmem q9⊢;refine⟨⟨by omega,by omega⟩,?_⟩;refine ez sW (i:=q.2.toNat) (by simp;omega) trivial λW2 k2=>?_;rw[ax (by omega)];refine⟨⟨j+1,c.set q.2.toNat true,rfl,by omega,by simpa using hc,Bk.set (.root hmem),λr hr=>?_,by rw[List.map_set];exact k2⟩,by omega⟩;rcases q9 r hr with h1|rfl
  ·exact(pM.set q.2.toNat).2 _ (GL r h1)
  ·rw[List.getElem?_set_self (by omega)]
 ·simp only[ja]at hge
  rw[List.take_of_length_le (by omega)]at GL;refine aB (λ_ W=>∃(c:List Bool),c.length=g.xs.length/\eC g.m c/\(∀r∈g.rs,c[r.2.toNat]? =some true)/\St aA w W [aq 1 t (c.map bv),aa r [slV g.gn,slV g.gr]]) (λ_ W=>KN W t) ⟨c,hc,Bk,GL,sW⟩ ?_;rintro⟨⟩ W ⟨c,hc,Bk,GL,sW⟩;refine bY.aQ (l:=[.slice,.slice]) (p:=(g.gn,g.gr)) (sW.af 1).box ?_;obtain⟨F,H,_,h1,h2,h3,h4,h5⟩:=sW.ee;have GM:RG W F g:=hg.go sW h4;refine ak (WK g t c W F h1 GM hok hc Bk) ?_;rintro b W' ⟨cur,k1,hP,xu⟩;have k2:=h5 W' _ k1;refine ah (λhb=>⟨⟨cur,by rw[<-hP.le.1];exact hc,hP.sd,λr hr=>hP.le.2 _ (GL r hr),k2⟩,?_⟩) λhb=>?_
  ·rw[Aa (St.bl k2),Aa (St.bl sW)]
   exact hP.yes hb
  ·subst hb
   have:=hP.no rfl;subst this;refine⟨?_,cur,St.jR (l:=[_]) k2,λ_=>?_⟩
   ·unfold ei;rw[hok];rfl
   ·exact mh (by omega) Bk GL (xu rfl)
abbrev AL:=List (Int×Sl×List Int)
def vf(l:AL)(k:Int):List Int:=((l.find? (·.1==k)).map (·.2.2)).getD []
abbrev oO(l:AL):List (Int×Value):=l.map λy=>(y.1,slV y.2.1)
abbrev qZ(l:AL):List HA:=l.map λy=>aq 1 y.2.1 (y.2.2.map iv)
def xw(m:Nat)(aw:Int->List Int):HA:=G9 λl:AL=>[er gD m (oO l),aN (qZ l),pA (aw=vf l)]
def JK(m:Nat)(aw:Int->List Int)(q:Int)(t:Sl):HA:=G9 λl:AL=>[G9 λo:Option Nat=>
 match o with
 |some j=>[er gD m (oO l),aN ((qZ l).eraseIdx j),pA (aw=vf l/\l[j]? =some (q,t,aw q)/\∀i x,i<j->l[i]? =some x->x.1≠q)]
 |none=>[er gD m (oO l),aN (qZ l),pA (aw=vf l/\q∉l.map (·.1))]]
section
variable{F0:Nat->Prop}{w0 w:World}{L:List HA}{m:Nat}{aw:Int->List Int}{q:Int}{t:Sl}
theorem pN{l:AL}{j:Nat}{x:Int×Sl×List Int}(hj:l[j]? =some x)(hb:∀i y,i<j->l[i]? =some y->y.1≠x.1):l.find? (·.1==x.1)=some x:=by
 induction l generalizing j with
 |nil=>simp at hj
 |
  cons y l ih=>
  cases j with
  |
   zero=>
   simp only[List.getElem?_cons_zero,jg]at hj;subst hj;simp
  |
   succ j=>
   have h0:y.1≠x.1:=hb 0 y (by omega) (by simp);rw[List.find?_cons_of_neg (by simpa using h0)];exact ih (j:=j) (by simpa using hj) λi z hi hz=>hb (i+1) z (by omega) (by simpa using hz)
theorem xP{l:AL}{j:Nat}{v:Value}(h:(oO l)[j]? =some (q,v)):∃t li,l[j]? =some (q,t,li)/\v=slV t:=by
 rw[jf]at h;cases hl:l[j]?with
 |none=>rw[hl]at h;cases h
 |
  some y=>
  rw[hl]at h;simp only[Option.map_some,jg,Prod.mk.injEq]at h;obtain⟨a,b,c⟩:=y;exact⟨b,c,by rw[<-h.1],h.2.symm⟩
theorem pO{l:AL}{j:Nat}(h:∀(i:Nat) x,i<j->(oO l)[i]? =some x->x.1≠q):∀i y,i<j->l[i]? =some y->y.1≠q:=λi y hi hy=>h i (y.1,slV y.2.1) hi (by rw[jf,hy];rfl)
theorem rM(kv:List (Int×Value)):(q∉kv.map (·.1)/\vg q kv=none)\/∃(j:Nat) (v:Value),kv[j]? =some (q,v)/\(∀(i:Nat) x,i<j->kv[i]? =some x->x.1≠q)/\vg q kv=some v:=by
 induction kv with
 |nil=>exact .inl ⟨by simp,rfl⟩
 |
  cons x kv ih=>
  by_cases h:q=x.1
  ·refine .inr ⟨0,x.2,?_,λi y hi=>by omega,by simp[vg,h]⟩
   simp[h]
  ·rcases ih with⟨h1,h2⟩|⟨j,v,h1,h2,h3⟩
   ·refine .inl ⟨?_,by simp[vg,h,h2]⟩
    simp only[List.map_cons,List.mem_cons,not_or];exact⟨h,h1⟩
   ·refine .inr ⟨j+1,v,by simpa using h1,λi y hi hy=>?_,by simp[vg,h,h3]⟩
    cases i with
    |zero=>simp at hy;subst hy;exact λh'=>h h'.symm
    |succ i=>exact h2 i y (by omega) (by simpa using hy)
theorem JL{k:Sl->Bool->Pr}(h:St F0 w0 w (xw m aw::L))(hk:∀t b,St F0 w0 w (aq 1 t ((aw q).map iv)::JK m aw q t::L)->k t b w):
 gd (.int .i64) (some m) (.int .i64 q) .slice (.slice none 0 0) k w:=by
 obtain⟨l,s⟩:=h.ex;obtain⟨Dg,s⟩:=(s.af 2).p;have s:St F0 w0 w (er gD m (oO l)::aN (qZ l)::L):=s;refine St.gd (T:=gD) (k:=q) (sh:=.slice) s (λv hv=>?_) λhn=>?_
 ·rcases rM (q:=q) (oO l)with⟨_,h2⟩|⟨j,u,h1,h2,h3⟩
  ·rw[h2]at hv;cases hv
  ·rw[h3]at hv
   simp only[jg]at hv;subst hv;obtain⟨t,li,hl,rfl⟩:=xP h1;have hb:=pO h2;have UY:aw q=li:=by
    rw[Dg];unfold vf;have:=pN hl hb;dsimp only at this;rw[this];rfl
   refine⟨t,rfl,hk t true ?_⟩;have s1:=(s.af 1).pick (i:=j) (A:=aq 1 t (li.map iv)) (by rw[jf,hl];rfl);have s2:St F0 w0 w (er gD m (oO l)::aN ((qZ l).eraseIdx j)::aq 1 t (li.map iv)::L):=s1.bE [2,1,0] 3;have s3:=(s2.Dv (p:=aw=vf l/\l[j]? =some (q,t,aw q)/\∀i x,i<j->l[i]? =some x->x.1≠q) ⟨Dg,by rw[UY];exact hl,hb⟩).bE [1,2,0] 3;have s4:St F0 w0 w (JK m aw q t::aq 1 t (li.map iv)::L):=St.iI l (St.iI (some j) s3);rw[UY];exact s4.af 1
 ·refine⟨⟨none,0,0⟩,rfl,hk _ false ?_⟩
  rcases rM (q:=q) (oO l)with⟨h1,h2⟩|⟨j,u,h1,h2,h3⟩
  ·have hq:q∉l.map (·.1):=by simpa[oO]using h1
   have Q9:aw q=[]:=by
    rw[Dg];unfold vf;have:l.find? (·.1==q)=none:=by
     rw[List.find?_eq_none];intro x hx h3;exact hq (kg.2 ⟨x,hx,by simpa using h3⟩)
    rw[this];rfl
   have s3:=(s.Dv (p:=aw=vf l/\q∉l.map (·.1)) ⟨Dg,hq⟩).bE [1,2,0] 3;have s4:St F0 w0 w (JK m aw q ⟨none,0,0⟩::L):=St.iI l (St.iI none s3);rw[Q9];exact s4.fe 1
  ·rw[h3]at hn;cases hn
theorem He(h:St F0 w0 w (aq 1 t ((aw q).map iv)::JK m aw q t::L)):St F0 w0 w (xw m aw::L):=by
 obtain⟨l,s⟩:=(h.af 1).ex;obtain⟨o,s⟩:=s.ex;cases o with
 |
  some j=>
  obtain⟨⟨Dg,hl,hb⟩,s⟩:=(s.af 2).p;have s:St F0 w0 w (er gD m (oO l)::aN ((qZ l).eraseIdx j)::aq 1 t ((aw q).map iv)::L):=s;have s1:=St.Dw (i:=j) (s.bE [2,1,0] 3) (by simpa using(bt hl).2);have e:(qZ l).set j (aq 1 t ((aw q).map iv))=qZ l:=by
   have hj:=(bt hl).2;rw[jl hj,jg]at hl;have:(qZ l)[j]'(by simpa using hj)=aq 1 t ((aw q).map iv):=by simp[hl]
   rw[<-this];exact List.set_getElem_self _
  rw[e]at s1;have s2:=(s1.Dv Dg).bE [2,1,0] 3;exact St.iI l s2
 |
  none=>
  obtain⟨⟨Dg,hq⟩,s⟩:=(s.af 2).p;have s:St F0 w0 w (er gD m (oO l)::aN (qZ l)::aq 1 t ((aw q).map iv)::L):=s;have s1:=(s.del 2).Dv Dg;exact St.iI l (s1.bE [1,2,0] 3)
def iJ(aw:Int->List Int)(q:Int)(li:List Int):Int->List Int:=λk=>if k=q then li else aw k
theorem Hf{l:AL}{j:Nat}{q:Int}{t t':Sl}{a b:List Int}(hl:l[j]? =some (q,t,a))(hb:∀i x,i<j->l[i]? =some x->x.1≠q):vf (l.set j (q,t',b))=iJ (vf l) q b:=by
 funext k;have hj:=(bt hl).2;unfold iJ;by_cases hk:k=q
 ·subst hk
  rw[jd rfl];unfold vf;have:=pN (l:=l.set j (k,t',b)) (j:=j) (x:=(k,t',b)) (by rw[List.getElem?_set_self hj]) (λi y hi hy=>hb i y hi (by rwa[List.getElem?_set_ne (by omega)]at hy));dsimp only at this;rw[this];rfl
 ·rw[jc hk]
  unfold vf
  congr 2
  clear hb
  induction l generalizing j with
  |nil=>simp at hl
  |
   cons y l ih=>
   cases j with
   |
    zero=>
    simp only[List.getElem?_cons_zero,jg]at hl;subst hl;have:(q==k)=false:=by simpa using λh=>hk h.symm
    rw[List.set_cons_zero];simp only[List.find?_cons,this]
   |
    succ j=>
    rw[List.set_cons_succ];simp only[List.find?_cons];cases hy:(y.1==k)with
    |true=>rfl
    |false=>exact ih (by simpa using hl) (by simpa using hj)
theorem Dx{l:AL}{q:Int}{t:Sl}{b:List Int}(hq:q∉l.map (·.1)):vf (l++[(q,t,b)])=iJ (vf l) q b:=by
 funext k;unfold iJ;by_cases hk:k=q
 ·subst hk
  rw[jd rfl];unfold vf;have hn:l.find? (·.1==k)=none:=by
   rw[List.find?_eq_none];intro x hx h3;exact hq (kg.2 ⟨x,hx,by simpa using h3⟩)
  rw[List.find?_append,hn];simp
 ·rw[jc hk]
  unfold vf;rw[List.find?_append];cases hf:l.find? (·.1==k)with
  |some y=>rfl
  |
   none=>
   have:([(q,t,b)]:AL).find? (·.1==k)=none:=by
    have:(q==k)=false:=by simpa using λh=>hk h.symm
    simp only[List.find?_cons,this,List.find?_nil]
   rw[this];rfl
theorem KO{t':Sl}{li:List Int}{k:Pr}(h:St F0 w0 w (aq 1 t' (li.map iv)::JK m aw q t::L))(hk:∀w',St F0 w0 w' (xw m (iJ aw q li)::L)->k w'):
 ej (.int .i64) (some m) (.int .i64 q) (.slice t'.a t'.len t'.cap) k w:=by
 obtain⟨l,s⟩:=(h.af 1).ex;obtain⟨o,s⟩:=s.ex;cases o with
 |
  some j=>
  obtain⟨⟨Dg,hl,hb⟩,s⟩:=(s.af 2).p;have s:St F0 w0 w (er gD m (oO l)::aN ((qZ l).eraseIdx j)::aq 1 t' (li.map iv)::L):=s;have hjl:=(bt hl).2;refine St.ej (T:=gD) (k:=q) (v:=slV t') s (λi u w' h1 h2 s1=>?_) λhq w' s1=>?_
  ·have hij:i=j:=by
    obtain⟨t2,WR,h3,_⟩:=xP h1;have h4:=pO h2;rcases Nat.lt_trichotomy i j with h|h|h
    ·exact absurd rfl (hb i _ h h3)
    ·exact h
    ·exact absurd rfl (h4 j _ h hl)
   subst hij;have s1:St F0 w0 w' (er gD m ((oO l).set i (q,slV t'))::aN ((qZ l).eraseIdx i)::aq 1 t' (li.map iv)::L):=s1;have s2:=St.Dw (i:=i) (s1.bE [2,1,0] 3) (by simpa using hjl);have e1:(qZ l).set i (aq 1 t' (li.map iv))=qZ (l.set i (q,t',li)):=by simp[qZ,oO,List.map_set]
   have e2:(oO l).set i (q,slV t')=oO (l.set i (q,t',li)):=by simp[qZ,oO,List.map_set]
   rw[e1,e2]at s2;have s3:=(s2.Dv (p:=iJ aw q li=vf (l.set i (q,t',li))) (by rw[Hf hl hb,Dg])).bE [2,1,0] 3;exact hk w' (St.iI _ s3)
  ·exact absurd (by simpa[oO]using⟨t,aw q,ji hl⟩) hq
 |
  none=>
  obtain⟨⟨Dg,hq⟩,s⟩:=(s.af 2).p;have s:St F0 w0 w (er gD m (oO l)::aN (qZ l)::aq 1 t' (li.map iv)::L):=s;refine St.ej (T:=gD) (k:=q) (v:=slV t') s (λi u w' h1 h2 s1=>?_) λKL w' s1=>?_
  ·obtain⟨t2,WR,h3,_⟩:=xP h1
   exact absurd (kg.2 ⟨_,ji h3,rfl⟩) hq
  ·have s1:St F0 w0 w' (er gD m (oO l++[(q,slV t')])::aN (qZ l)::aq 1 t' (li.map iv)::L):=s1
   have s2:=St.push (s1.bE [2,1,0] 3);have e1:qZ l++[aq 1 t' (li.map iv)]=qZ (l++[(q,t',li)]):=by simp[qZ,oO,List.map_set]
   have e2:oO l++[(q,slV t')]=oO (l++[(q,t',li)]):=by simp[qZ,oO,List.map_set]
   rw[e1,e2]at s2;have s3:=(s2.Dv (p:=iJ aw q li=vf (l++[(q,t',li)])) (by rw[Dx hq,Dg])).bE [2,1,0] 3;exact hk w' (St.iI _ s3)
theorem KQ{f:Nat->Pr}(h:St F0 w0 w L)(hk:∀m w',St F0 w0 w' (xw m (λ_=>[])::L)->f m w'):nw (.map #[] 0) f w:=by
 refine St.Dy (T:=gD) h λm w' s=>hk m w' ?_;have s1:=(s.rJ.Dv (p:=(λ_=>[])=vf []) rfl).bE [2,1,0] 3;exact St.iI ([]:AL) s1
end
abbrev gQ:=List Bool×List Int
def cT(st:gQ)(p:Int):gQ:=if 0<=p/\st.1[p.toNat]? =some false then(st.1.set p.toNat true,st.2++[p])else st
def bM(st:gQ)(l:List Int):gQ:=l.foldl cT st
theorem Bn(st:gQ)(p:Int):(cT st p).1.length=st.1.length/\(cT st p).2.length<=st.2.length+1:=by
 unfold cT;split<;>simp
theorem rN(l:List Int):∀st:gQ,(bM st l).1.length=st.1.length/\(bM st l).2.length<=st.2.length+l.length:=by
 induction l with
 |nil=>intro st;simp[bM]
 |
  cons p l ih=>
  intro st;have h1:=Bn st p;have h2:=ih (cT st p);have:bM st (p::l)=bM (cT st p) l:=rfl;rw[this];simp only[List.length_cons];omega
theorem mj(st:gQ)(l m:List Int):bM st (l++m)=bM (bM st l) m:=by unfold bM;rw[List.foldl_append]
def de(bs bl:Nat)(st:gQ):HA:=G9 λx:Sl×Sl=>[aq 1 x.1 (st.1.map bv),aa bs [slV x.1],aq 1 x.2 (st.2.map iv),aa bl [slV x.2]]
section
variable{F0:Nat->Prop}{w0 w:World}{L:List HA}{bs bl:Nat}{st:gQ}
theorem vq{p:Int}{f:Pr}(h:St F0 w0 w (de bs bl st::L))(hp:p<st.1.length)(hl:st.2.length<=1000000)
 (hk:∀w',St F0 w0 w' (de bs bl (cT st p)::L)->f w'):
 (jn (S:=Bool) (λR=>br (decide (p>=0)) (au .slice ⟨bs,0,none⟩ λ(t:Sl)=>aP ((0:Int)<=p/\p<(t.len:Int))<|deref t.a λa=>au .bool (a.add (Int.toNat p*1)) λ(b:Bool)=>R (!b)) (R false)) λs=>
   br s (au .slice ⟨bs,0,none⟩ λ(t:Sl)=>aP ((0:Int)<=p/\p<(t.len:Int))<|deref t.a λa=>Eng.st (a.add (Int.toNat p*1)) (.bool true)<|au .slice ⟨bl,0,none⟩ λ(u:Sl)=>
    nw (.cells #[(.int .i64 p)] 3) λr=>app 3 1 8 [(.int .i64 0)] u ⟨(some ⟨r,0,none⟩),1,1⟩ λv=>Eng.st ⟨bl,0,none⟩ (.slice v.a v.len v.cap) f) f) w:=by
 obtain⟨⟨sn,ls⟩,s⟩:=h.ex;have s:St F0 w0 w (aq 1 sn (st.1.map bv)::aa bs [slV sn]::aq 1 ls (st.2.map iv)::aa bl [slV ls]::L):=s;have UZ:=aT s.sl;have hls:=aT (s.af 2).sl;rw[je]at UZ hls;refine aL (λb W=>b=decide (0<=p/\st.1[p.toNat]? =some false)/\w=W) ?_ ?_
 ·refine ah (λh0=>?_) λh0=>⟨?_,rfl⟩
  ·have h0:0<=p:=by simpa using h0
   refine(s.af 1).Ab (s:=.slice) (p:=sn) rfl ⟨⟨h0,by omega⟩,BL.at (St.bl s) (i:=p.toNat) (by omega) ⟨?_,rfl⟩⟩;rw[jl (by omega)];cases st.1[p.toNat]<;>simp[h0]
  ·have h0:¬0<=p:=by simpa using h0
   symm;apply decide_eq_false;exact λh=>h0 h.1
 rintro _ _ ⟨rfl,rfl⟩;refine ah (λhc=>?_) λhc=>?_
 ·have hc:=ju hc
  refine(s.af 1).Ab (s:=.slice) (p:=sn) rfl ⟨⟨hc.1,by omega⟩,?_⟩;refine ez s (i:=p.toNat) (by simp;omega) trivial λw1 s1=>?_;refine(s1.af 3).Ab (s:=.slice) (p:=ls) rfl ?_;refine St.nw s1 λr w2 s2 _ _=>?_;refine(s2.af 3).app (new:=[.int .i64 p]) (λ_=>rfl) (λh=>by cases h) (aF.2 s2.box.row) (by simp[aK]) rfl (by decide) (by dsimp only;omega) λv w3 s3 _=>?_;have s3:St F0 w0 w3 (aq 1 v (st.2.map iv++[.int .i64 p])::aa r [.int .i64 p]::aq 1 sn ((st.1.map bv).set p.toNat (.bool true))::aa bs [slV sn]::aa bl [slV ls]::L):=s3;refine(s3.af 4).KR trivial λw4 s4=>hk w4 ?_;have s5:=s4.bE [3,4,1,0] 5;have e:cT st p=(st.1.set p.toNat true,st.2++[p]):=by unfold cT;rw[jd hc]
  rw[e];refine St.iI (sn,v) ?_;have e1:(st.1.map bv).set p.toNat (.bool true)=(st.1.set p.toNat true).map bv:=by rw[List.map_set]
  have e2:st.2.map iv++[.int .i64 p]=(st.2++[p]).map iv:=by rw[jj];rfl
  rw[<-e1,<-e2];exact s5
 ·have hc:=jv hc
  have e:cT st p=st:=by unfold cT;rw[jc hc]
  refine hk w ?_;rw[e];exact h
end
theorem WS(p:Int)(bs bl:Nat)(st:gQ)(w:World)(F:Nat->Prop)(h:Has [de bs bl st] w F)(hp:p<st.1.length)(hl:st.2.length<=1000000):
 Calls Pq 55 #[.int .i64 p,.pointer (some ⟨bs,0,none⟩),.pointer (some ⟨bl,0,none⟩)] w (aC [] λ_ w'=>St F w w' [de bs bl (cT st p)]):=by
 refine Bo p _ _ _ _ ?_;unfold U0;simp only[ag];exact vq (St.init h) hp hl λw' s=>s
theorem U1(x:Sl)(l:List Int)(bs bl:Nat)(st:gQ)(w:World)(F:Nat->Prop)(h:Has [de bs bl st] w F)(hx:IS w x l)(hno:l≠[]->∀b,x.lq b->¬F b)(hp:∀p∈l,p<st.1.length)(hl:st.2.length+l.length<=1000000):
 Calls Pq 136 #[slV x,.pointer (some ⟨bs,0,none⟩),.pointer (some ⟨bl,0,none⟩)] w (aC [] λ_ w'=>St F w w' [de bs bl (bM st l)]):=by
 refine xQ x _ _ _ _ ?_;unfold Nt;simp only[ag];have ko:=hx.len;refine aB (λz W=>∃j:Nat,z=j/\j<=l.length/\St F w W [de bs bl (bM st (l.take j))]) (λz _=>l.length-z.toNat) ⟨0,rfl,by omega,St.init h⟩ ?_;rintro _ W ⟨j,rfl,hj,s⟩;refine ah (λhlt=>?_) λhge=>?_
 ·simp only[jb]at hlt
  have hjl:j<l.length:=by omega
  refine aL (λ_ W'=>St F w W' [de bs bl (bM st (l.take (j+1)))]) ?_ ?_
  ·refine⟨⟨by omega,by omega⟩,?_⟩
   rw[jk];have cW:IS W x l:=hx.mod s.G7 λad ha hl=>hno hl _ ⟨ad,ha,rfl⟩;refine IS.at cW hjl ?_;have hm:=rN (l.take j) st;rw[jr]at hm;have e:bM st (l.take (j+1))=cT (bM st (l.take j)) l[j]:=by
    rw[List.take_add_one,jl hjl,mj];rfl
   rw[e];refine vq s ?_ (by omega) λw' s'=>s';rw[hm.1];exact hp _ (List.getElem_mem hjl)
  ·rintro⟨⟩ W' s'
   rw[ax (by omega)];exact⟨⟨j+1,rfl,by omega,s'⟩,by omega⟩
 ·simp only[ja]at hge
  rw[List.take_of_length_le (by omega)]at s;exact s
structure pP(n:Nat)(st:gQ):Prop where
 len:st.1.length=n
 mem:∀p∈st.2,0<=p/\st.1[p.toNat]? =some true
 all:∀i:Nat,st.1[i]? =some true->(i:Int)∈st.2
 xx:st.2.Nodup
theorem pP.pQ{n:Nat}{st:gQ}(h:pP n st){p:Int}(hp:p∈st.2):0<=p/\p<n:=by
 have h1:=h.mem p hp;refine⟨h1.1,?_⟩;rcases Nat.lt_or_ge p.toNat st.1.length with h2|h2
 ·have:=h.len;omega
 ·rw[List.getElem?_eq_none h2]at h1;cases h1.2
theorem vr{n:Nat}{l:List Int}(hn:l.Nodup)(hr:∀p∈l,0<=p/\p<n):l.length<=n:=by
 have h1:(l.map Int.toNat).Nodup:=by
  unfold List.Nodup;rw[List.pairwise_map];refine List.Pairwise.imp_of_mem (λ{x y} hx hy hne he=>?_) hn;have:=hr x hx;have:=hr y hy;omega
 have h2:(l.map Int.toNat)⊆List.range n:=by
  intro i hi;obtain⟨p,hp,rfl⟩:=kg.1 hi;have:=hr p hp;rw[List.mem_range];omega
 have:=h1.length_le_of_subset h2;simpa using this
theorem pP.le{n:Nat}{st:gQ}(h:pP n st):st.2.length<=n:=vr h.xx λp hp=>h.pQ hp
theorem pP.step{n:Nat}{st:gQ}(h:pP n st)(p:Int):pP n (cT st p)/\pM st.1 (cT st p).1/\st.2<+:(cT st p).2/\(0<=p->p<n->(cT st p).1[p.toNat]? =some true)/\(∀i:Nat,(cT st p).1[i]? =some true->st.1[i]? =some true\/(i:Int)=p):=by
 unfold cT;split
 ·rename_i hc
  have nq:p.toNat<st.1.length:=by
   rcases Nat.lt_or_ge p.toNat st.1.length with h2|h2
   ·exact h2
   ·rw[List.getElem?_eq_none h2]at hc;cases hc.2
  refine⟨⟨by simpa using h.len,λq hq=>?_,λi hi=>?_,?_⟩,pM.set _,List.prefix_append _ _,λ_ _=>by rw[List.getElem?_set_self nq],λi hi=>?_⟩
  ·rcases jy.1 hq with hq|hq
   ·have:=h.mem q hq
    exact⟨this.1,(pM.set _).2 _ this.2⟩
   ·rw[jo]at hq
    subst hq;exact⟨hc.1,by rw[List.getElem?_set_self nq]⟩
  ·rw[jy,jo]
   rw[List.getElem?_set]at hi;split at hi
   ·exact .inr (by omega)
   ·exact .inl (h.all i hi)
  ·rw[List.nodup_append]
   refine⟨h.xx,by simp,λa ha b hb=>?_⟩;rw[jo]at hb;subst hb;rintro rfl;have:=(h.mem a ha).2;rw[hc.2]at this;cases this
  ·rw[List.getElem?_set]at hi
   split at hi
   ·exact .inr (by omega)
   ·exact .inl hi
 ·rename_i hc
  refine⟨h,pM.refl _,List.prefix_refl _,λh0 hn=>?_,λi hi=>.inl hi⟩;have nq:p.toNat<st.1.length:=by rw[h.len];omega
  rw[jl nq]at hc⊢;cases hb:st.1[p.toNat]with
  |true=>rfl
  |false=>rw[hb]at hc;exact absurd ⟨h0,rfl⟩ hc
theorem pP.steps{n:Nat}(l:List Int):∀{st:gQ},pP n st->pP n (bM st l)/\pM st.1 (bM st l).1/\st.2<+:(bM st l).2/\(∀p∈l,0<=p->p<n->(bM st l).1[p.toNat]? =some true)/\(∀i:Nat,(bM st l).1[i]? =some true->st.1[i]? =some true\/(i:Int)∈l):=by
 induction l with
 |nil=>intro st h;exact⟨h,pM.refl _,List.prefix_refl _,λp hp=>(by cases hp),λi hi=>.inl hi⟩
 |
  cons p l ih=>
  intro st h;obtain⟨h1,h2,h3,h4,h5⟩:=h.step p;obtain⟨k1,k2,k3,k4,k5⟩:=ih h1;refine⟨k1,h2.trans k2,h3.trans k3,λq hq h0 hn=>?_,λi hi=>?_⟩
  ·rcases List.mem_cons.1 hq with rfl|hq
   ·exact k2.2 _ (h4 h0 hn)
   ·exact k4 q hq h0 hn
  ·rcases k5 i hi with h6|h6
   ·rcases h5 i h6 with h7|h7
    ·exact .inl h7
    ·exact .inr (by rw[h7];simp)
   ·exact .inr (List.mem_cons_of_mem _ h6)
end Go.Proofs
