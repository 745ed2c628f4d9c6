import Derived.Test.YtlkkmnlbldafpaaGreatX1
import Derived.Laws.Alloc2
import Derived.Laws.Strings
import Derived.RangeFuncBound
import Derived.Shelf.Sort.Plain
import Derived.Ground.Names2Prog
import Derived.Shelf.Slices.In.SortNone
import Derived.Test.YtlkkmnlbldafpaaGreatProg
set_option linter.unusedVariables false
set_option linter.unusedSimpArgs false
set_option linter.unusedSectionVars false
namespace Go.Eng
@[simp]theorem add_zero'(a:Addr):a.add 0=a:=by simp[Addr.add]
@[simp]theorem Qk(a:Addr)(n:Nat):(a.add n).block=a.block:=by unfold Addr.add;split<;>rfl
@[
 simp]theorem add_add(a:Addr)(m n:Nat):(a.add m).add n=a.add (m+n):=by
 unfold Addr.add;by_cases hm:m=0
 ·subst hm;simp
 ·by_cases hn:n=0
  ·subst hn;simp[hm]
  ·simp[hm,hn,Nat.add_assoc]
@[
 simp]theorem gd(b o n:Nat):(⟨b,o,none⟩:Addr).add n=⟨b,o+n,none⟩:=by
 unfold Addr.add;by_cases hn:n=0
 ·subst hn;simp
 ·simp[hn]
section
variable{w:World}
@[simp]theorem gC(a:Addr)(f:Addr->Pr):deref (some a) f w=f a w:=by simp[deref]
@[simp]theorem tQ(o:Obj)(f:Nat->Pr):nw o f w=f w.heap.size (w.alloc o):=rfl
@[simp]theorem Jv(b:Bool)(x y:Pr):br b x y w=if b=true then x w else y w:=rfl
@[simp]theorem Zd(p:Prop)(f:Pr):b8 p f w=(p/\f w):=rfl
@[simp]theorem aX(f:Pr):fJ f w=f w.drew:=rfl
@[simp]theorem S5(x y:Pr):both x y w=(x w/\y w):=rfl
@[simp]theorem Ze:tru w=True:=rfl
@[simp]theorem Zf:c7 w=False:=rfl
theorem eA{s:CS}{a:Addr}{p:dM s}{f:dM s->Pr}(h:w.cell? a=some (cu s p))(hf:f p w):cM s a f w:=⟨p,h,hf⟩
theorem fy{l:List CS}{a:Addr}{p:lC l}{f:lC l->Pr}(h:de w a 0 (gy l p))(hf:f p w):aN l a f w:=⟨p,h,hf⟩
theorem Jw{a:Addr}{v u:Value}{f:Pr}(hv:aE v)(h:w.cell? a=some u)(hz:w.frozen? a=false)(hf:f (w.setCell a v)):st a v f w:=⟨hv,by rw[h];rfl,hz,hf⟩
theorem ax{b:Bool}{x y:Pr}(h1:b=true->x w)(h2:b=false->y w):br b x y w:=by
 cases b with
 |true=>simpa using h1 rfl
 |false=>simpa using h2 rfl
theorem bz{b:Bool}{x y:Pr}(hb:b=true)(h:x w):br b x y w:=by rw[Jv,jd hb];exact h
theorem aB{b:Bool}{x y:Pr}(hb:b=false)(h:y w):br b x y w:=by rw[Jv,jc (by simp[hb])];exact h
theorem aF{S:Type}{f:(S->Pr)->Pr}{k:S->Pr}(R:S->Pr)(h:f R w)(hk:∀s w',R s w'->k s w'):jn f k w:=⟨R,h,hk⟩
theorem aU{S:Type}{G:(S->Pr)->S->Pr}{s:S}(I:S->Pr)(μ:S->World->Nat)(h0:I s w)(h:∀s w,I s w->G (λs' w'=>I s' w'/\μ s' w'<μ s w) s w):cq G s w:=⟨I,μ,h0,h⟩
theorem aa{P:Program}{f:FuncId}{args:LV}{cJ:List Sh}{k:ef cJ->Pr}{post:ef cJ->Pr}(h:Calls P f args.toArray w (aj cJ post))(hk:∀r w',post r w'->k r w'):av P f args cJ k w:=
 h.mono λ_ _ ⟨p,he,hp⟩=>⟨p,he,hk _ _ hp⟩
end
@[simp]theorem S6(k:IntKind)(n:Int):cu (.int k) n=.int k n:=rfl
@[simp]theorem Ql(b:Bool):cu .bool b=.bool b:=rfl
@[simp]theorem S7(p:OA):cu .ptr p=.pointer p:=rfl
@[simp]theorem OR(s:Sl):cu .slice s=.slice s.a s.len s.cap:=rfl
@[simp]theorem S8(r:Option Nat):cu .map r=.map r:=rfl
@[simp]theorem S9(v:Value):cu .any v=v:=rfl
@[simp]theorem Ta(v:ByteArray):cu .str v=.string v:=rfl
@[simp]theorem OS(k:IntKind)(n:Int):aE (.int k n)=True:=rfl
@[simp]theorem Nr(b:Bool):aE (.bool b)=True:=rfl
@[simp]theorem OT(p:OA):aE (.pointer p)=True:=rfl
@[simp]theorem LQ(a:OA)(l c:Nat):aE (.slice a l c)=True:=rfl
@[simp]theorem OU(r:Option Nat):aE (.map r)=True:=rfl
@[simp]theorem Ns(f:Fn)(x y:Array Value):aE (.func f x y)=True:=rfl
structure Mod(S:Nat->Prop)(w w':World):Prop where
 size:w.heap.size<=w'.heap.size
 same:∀b,b<w.heap.size->¬S b->w'.heap[b]? =w.heap[b]?
 rest:w'.os=w.os/\w'.tape=w.tape/\w'.output=w.output
abbrev Grow:World->World->Prop:=Mod λ_=>False
section
variable{S T:Nat->Prop}{w w1 w2:World}
theorem Mod.refl(S:Nat->Prop)(w:World):Mod S w w:=⟨Nat.le_refl _,λ_ _ _=>rfl,rfl,rfl,rfl⟩
theorem Mod.trans(h:Mod S w w1)(h':Mod T w1 w2)(hT:∀b,b<w.heap.size->T b->S b):Mod S w w2:=
 ⟨Nat.le_trans h.size h'.size,λb hb hs=>(h'.same b (Nat.lt_of_lt_of_le hb h.size) λht=>hs (hT b hb ht)).trans (h.same b hb hs),h'.rest.1.trans h.rest.1,h'.rest.2.1.trans h.rest.2.1,h'.rest.2.2.trans h.rest.2.2⟩
theorem Mod.mono(h:Mod S w w1)(hT:∀b,b<w.heap.size->S b->T b):Mod T w w1:=⟨h.size,λb hb hs=>h.same b hb λht=>hs (hT b hb ht),h.rest⟩
theorem Grow.trans(h:Grow w w1)(h':Grow w1 w2):Grow w w2:=Mod.trans h h' λ_ _ h=>h
theorem Grow.mod(h:Grow w w1):Mod S w w1:=h.mono λ_ _ h=>h.elim
theorem Mod.alloc(h:Mod S w w1)(o:Obj):Mod S w (w1.alloc o):=
 ⟨by have:=h.size;simp;omega,λb hb hs=>by
   rw[<-h.same b hb hs];have:b<w1.heap.size:=Nat.lt_of_lt_of_le hb h.size;show(w1.heap.push o)[b]? =w1.heap[b]?;rw[Array.getElem?_push,jc (Nat.ne_of_lt this)],h.rest⟩
theorem Mod.drew(h:Mod S w w1):Mod S w w1.drew:=⟨h.size,h.same,h.rest⟩
theorem sX(w:World){a:Addr}{v:Value}{b:Nat}(hb:a.block≠b):(w.setCell a v).heap[b]? =w.heap[b]? :=by
 simp[World.setCell,Array.getElem?_modify,hb]
theorem Mod.setCell(h:Mod S w w1){a:Addr}{v:Value}(ha:S a.block\/w.heap.size<=a.block):Mod S w (w1.setCell a v):=
 ⟨by have:=h.size;simpa using this,λb hb hs=>by
   rw[<-h.same b hb hs];refine sX w1 ?_;rintro rfl;rcases ha with ha|ha
   ·exact hs ha
   ·omega,h.rest⟩
theorem Mod.putObj(h:Mod S w w1){b:Nat}{o:Obj}(ha:S b\/w.heap.size<=b):Mod S w {w1 with heap:=w1.heap.setIfInBounds b o}:=
 ⟨by have:=h.size;simpa using this,λc hc hs=>by
   rw[<-h.same c hc hs];have hne:b≠c:=by
    rintro rfl;rcases ha with ha|ha
    ·exact hs ha
    ·omega
   simp[Array.getElem?_setIfInBounds_ne hne],h.rest⟩
theorem xW{w w':World}{a:Addr}(h:w'.heap[a.block]? =w.heap[a.block]?):w'.cell? a=w.cell? a:=by
 simp only[World.cell?,h]
theorem uP{w w':World}{a:Addr}(h:w'.heap[a.block]? =w.heap[a.block]?):w'.frozen? a=w.frozen? a:=by
 simp only[World.frozen?,h]
end
theorem sw{w:World}{a:Addr}:∀{vs:LV} {i:Nat},de w a i vs↔∀j v,vs[j]? =some v->w.cell? (a.add (i+j))=some v
 |[],i=>by simp[de]
 |
  x::vs,i=>by
  simp only[de,sw (vs:=vs)];constructor
  ·rintro⟨h1,h2⟩ j v hj
   cases j with
   |zero=>simp only[List.getElem?_cons_zero,jg]at hj;subst hj;exact h1
   |succ j=>have:=h2 j v (by simpa using hj);rwa[show i+1+j=i+(j+1) by omega]at this
  ·intro h
   refine⟨by simpa using h 0 x rfl,λj v hj=>?_⟩;have:=h (j+1) v (by simpa using hj);rwa[show i+(j+1)=i+1+j by omega]at this
def Row(w:World)(a:Addr)(vs:LV):Prop:=∀j v,vs[j]? =some v->w.cell? (a.add j)=some v
theorem ay{w:World}{a:Addr}{vs:LV}:de w a 0 vs↔Row w a vs:=by
 rw[sw];simp[Row]
theorem Row.get{w:World}{a:Addr}{vs:LV}(h:Row w a vs){j:Nat}{v:Value}(hj:vs[j]? =some v):w.cell? (a.add j)=some v:=h j v hj
theorem Row.nil(w:World)(a:Addr):Row w a []:=λj v h=>by simp at h
theorem Row.append{w:World}{a:Addr}{vs us:LV}:Row w a (vs++us)↔Row w a vs/\Row w (a.add vs.length) us:=by
 constructor
 ·intro h
  refine⟨λj v hj=>h j v ?_,λj v hj=>?_⟩
  ·have hlt:j<vs.length:=by
    rcases Nat.lt_or_ge j vs.length with h'|h'
    ·exact h'
    ·rw[List.getElem?_eq_none h']at hj;cases hj
   rw[List.getElem?_append_left hlt];exact hj
  ·rw[add_add]
   refine h _ v ?_;rw[List.getElem?_append_right (by omega)];simpa using hj
 ·rintro⟨h1,h2⟩ j v hj
  rcases Nat.lt_or_ge j vs.length with h'|h'
  ·exact h1 j v (by rwa[List.getElem?_append_left h']at hj)
  ·rw[List.getElem?_append_right h']at hj
   have:=h2 _ v hj;rwa[add_add,show vs.length+(j-vs.length)=j by omega]at this
theorem Row.take{w:World}{a:Addr}{vs:LV}(h:Row w a vs)(n:Nat):Row w a (vs.take n):=λj v hj=>by
 rw[List.getElem?_take]at hj;split at hj
 ·exact h j v hj
 ·cases hj
theorem Row.drop{w:World}{a:Addr}{vs:LV}(h:Row w a vs)(n:Nat):Row w (a.add n) (vs.drop n):=λj v hj=>by
 rw[add_add];exact h _ v (by rwa[List.getElem?_drop]at hj)
theorem Row.of_heap{w w':World}{a:Addr}{vs:LV}(h:Row w a vs)(he:w'.heap[a.block]? =w.heap[a.block]?):Row w' a vs:=λj v hj=>by
 rw[xW (w:=w) (by simpa using he)];exact h j v hj
theorem Row.zJ{w:World}{a:Addr}{vs:LV}(h:Row w a vs)(hne:vs≠[]):a.block<w.heap.size:=by
 cases vs with
 |nil=>exact absurd rfl hne
 |cons v vs=>have:=World.block_lt_of_cell? w _ (h 0 v rfl);simpa using this
theorem Row.mod{S:Nat->Prop}{w w':World}{a:Addr}{vs:LV}(h:Row w a vs)(hm:Mod S w w')(hs:¬S a.block):Row w' a vs:=by
 by_cases hv:vs=[]
 ·subst hv;exact Row.nil _ _
 ·exact h.of_heap (hm.same _ (h.zJ hv) hs)
theorem acw.some{w:World}{a:Addr}{vs:LV}:cj w (some a) vs↔Row w a vs:=ay
theorem exS{p:Sl->Prop}{a:OA}{l c:Nat}:(∃s:Sl,(a=s.a/\l=s.len/\c=s.cap)/\p s)↔p ⟨a,l,c⟩:=by
 constructor
 ·rintro⟨⟨a',l',c'⟩,⟨rfl,rfl,rfl⟩,h⟩;exact h
 ·intro h;exact⟨⟨a,l,c⟩,⟨rfl,rfl,rfl⟩,h⟩
@[simp]theorem Sl.eta(s:Sl):(⟨s.a,s.len,s.cap⟩:Sl)=s:=rfl
@[
 simp]theorem Nu(w:World)(c:Array Value)(t:TypeId)(i:Nat)(v:Value):(w.alloc (.cells c t)).setCell ⟨w.heap.size,i,none⟩ v=w.alloc (.cells (c.setIfInBounds i v) t):=
 World.setCell_alloc_new (w:=w) c t i v
@[
 simp]theorem heap_alloc_new(w:World)(o:Obj):(w.alloc o).heap[w.heap.size]? =some o:=by
 show(w.heap.push o)[w.heap.size]? =some o;simp
theorem ku{w:World}{o:Obj}{b:Nat}(h:b<w.heap.size):(w.alloc o).heap[b]? =w.heap[b]? :=by
 show(w.heap.push o)[b]? =w.heap[b]?;rw[Array.getElem?_push,jc (Nat.ne_of_lt h)]
@[simp]theorem heap_drew(w:World):w.drew.heap=w.heap:=rfl
theorem wrap_i64{n:Int}(h: -9223372036854775808<=n/\n<=9223372036854775807):IntKind.wrap .i64 n=n:=by
 simp only[IntKind.wrap,IntKind.signed,IntKind.bits];simp;omega
theorem wrap_u8{n:Int}(h:0<=n/\n<=255):IntKind.wrap .u8 n=n:=by
 simp only[IntKind.wrap,IntKind.signed,IntKind.bits];simp;omega
def ub(b:UInt8):Value:=.int .u8 (b.toNat:Int)
structure BS(w:World)(s:Sl)(l:LB):Prop where
 len:s.len=l.length
 row:cj w s.a (l.map ub)
section
variable{w w' w1:World}{s x:Sl}{l:LB}
theorem cj.row{ad:Addr}{vs:LV}(h:cj w (some ad) vs):Row w ad vs:=ay.1 h
theorem cj.mod{S:Nat->Prop}{a:OA}{vs:LV}(h:cj w a vs)(hm:Mod S w w')(hs:∀ad,a=some ad->vs≠[]->¬S ad.block):cj w' a vs:=by
 cases a with
 |none=>exact h
 |
  some ad=>
  by_cases hv:vs=[]
  ·subst hv;exact ay.2 (Row.nil _ _)
  ·exact ay.2 ((ay.1 h).mod hm (hs ad rfl hv))
theorem cj.grow{a:OA}{vs:LV}(h:cj w a vs)(hm:Grow w w'):cj w' a vs:=h.mod hm λ_ _ _ h=>h
theorem cj.lt{ad:Addr}{vs:LV}(h:cj w (some ad) vs)(hv:vs≠[]):ad.block<w.heap.size:=(ay.1 h).zJ hv
theorem BS.grow(h:BS w s l)(hm:Grow w w'):BS w' s l:=⟨h.len,h.row.grow hm⟩
theorem BS.mod{S:Nat->Prop}(h:BS w s l)(hm:Mod S w w')(hs:∀ad,s.a=some ad->l≠[]->¬S ad.block):BS w' s l:=
 ⟨h.len,h.row.mod hm λad ha hv=>hs ad ha (by simpa using hv)⟩
theorem BS.nil(w:World)(c:Nat):BS w ⟨none,0,c⟩ []:=⟨rfl,rfl⟩
theorem BS.get(h:BS w s l){j:Nat}{b:UInt8}(hj:l[j]? =some b):∃ad,s.a=some ad/\w.cell? (ad.add j)=some (ub b):=by
 obtain⟨h1,h2⟩:=h;cases ha:s.a with
 |
  none=>
  rw[ha]at h2;have:l.map ub=[]:=h2;simp at this;subst this;simp at hj
 |
  some ad=>
  rw[ha]at h2;exact⟨ad,rfl,(ay.1 h2).get (by simp[hj])⟩
def E1(w:World)(b:Nat):Prop:=∀o v,w.cell? ⟨b,o,none⟩=some v->w.frozen? ⟨b,o,none⟩=false
theorem vM{w:World}{a c:Addr}{v u:Value}(h:(w.setCell c v).cell? a=some u):∃u',w.cell? a=some u':=by
 by_cases hac:c=a
 ·subst hac
  cases hc:w.cell? c with
  |some u'=>exact⟨u',rfl⟩
  |
   none=>
   exfalso;simp only[World.cell?,World.setCell,Array.getElem?_modify]at h hc;cases hb:w.heap[c.block]?with
   |none=>simp[hb]at h
   |
    some o=>
    cases o<;>simp[hb]at h hc;rename_i cs el fz;obtain⟨b,o,sp⟩:=c;cases sp<;>simp_all[Array.getElem?_setIfInBounds]
 ·rw[World.cell?_setCell_other _ _ _ _ hac]at h
  exact⟨u,h⟩
theorem E1.add{b:Nat}(h:E1 w b){a:Addr}(ha:a.block=b)(hs:a.spot=none){n:Nat}{v:Value}(hv:w.cell? (a.add n)=some v):w.frozen? (a.add n)=false:=by
 obtain⟨b',o,sp⟩:=a;dsimp only at ha hs;subst ha hs;rw[gd]at hv⊢;exact h _ _ hv
theorem E1.setCell{b:Nat}(h:E1 w b){c:Addr}{v:Value}:E1 (w.setCell c v) b:=λo u hu=>by
 obtain⟨u',Y5⟩:=vM hu;rw[World.frozen?_setCell];exact h o u' Y5
theorem LR{a:Addr}(hs:a.spot=none){i j:Nat}(h:a.add i=a.add j):i=j:=by
 obtain⟨b,o,sp⟩:=a;dsimp only at hs;subst hs;rw[gd,gd]at h;simp at h;exact h
theorem Row.set{a:Addr}{vs:LV}(h:Row w a vs)(hs:a.spot=none){i:Nat}{v:Value}:Row (w.setCell (a.add i) v) a (vs.set i v):=λj u hj=>by
 rw[List.getElem?_set]at hj;by_cases hij:i=j
 ·subst hij
  simp only[if_true]at hj;split at hj
  ·rename_i hlt
   simp only[jg]at hj;subst hj;have h0:=h i vs[i] (by simp[hlt]);exact World.cell?_setCell_same _ _ _ h0
  ·cases hj
 ·rw[jc hij]at hj
  rw[World.cell?_setCell_other]
  ·exact h j u hj
  ·exact λhe=>hij (LR hs he)
theorem kN{a:Addr}{m:Nat}{k:Pr}:∀{l:LV} {i:Nat},FN (a.add m) i l k=FN a (m+i) l k
 |[],_=>rfl
 |v::l,i=>by simp only[FN,add_add,kN (l:=l),Nat.add_assoc]
theorem tV{a:Addr}{k:Pr}(hs:a.spot=none):∀{new:LV} {i:Nat} {vs:LV} {w:World},Row w a vs->i+new.length<=vs.length->(∀v∈new,aE v)->E1 w a.block->
 (∀w',Row w' a (vs.take i++new++vs.drop (i+new.length))->Mod (·=a.block) w w'->w'.heap.size=w.heap.size->(∀b,E1 w b->E1 w' b)->k w')->FN a i new k w
 |[],i,vs,w,hr,hl,hn,hu,hk=>hk w (by simpa using hr) (Mod.refl _ _) rfl (λ_ h=>h)
 |
  v::new,i,vs,w,hr,hl,hn,hu,hk=>by
  simp only[List.length_cons]at hl;have hlt:i<vs.length:=by omega
  refine Jw (u:=vs[i]) (hn v (by simp)) (hr i _ (by simp[hlt])) (hu.add rfl hs (hr i vs[i] (by simp[hlt]))) ?_;refine tV hs (vs:=vs.set i v) (hr.set hs) (by simp;omega) (λu hu=>hn u (by simp[hu])) hu.setCell ?_;intro w' h1 h2 h3 h4;refine hk w' ?_ (((Mod.refl _ w).setCell (.inl (by simp))).trans h2 λ_ _ h=>h) (by simpa using h3) (λb hb=>h4 b hb.setCell);have e1:(vs.set i v).take (i+1)=vs.take i++[v]:=by
   rw[List.take_add_one];simp[List.take_set_of_le,hlt]
  have e2:(vs.set i v).drop (i+1+new.length)=vs.drop (i+(new.length+1)):=by
   rw[List.drop_set_of_lt (by omega)]
   congr 1;omega
  rw[e1,e2]at h1;simpa using h1
structure aQ(w:World)(n0 n:Nat)(s:Sl)(vs:LV):Prop where
 len:vs.length=s.len*n
 le:s.len<=s.cap
 row:(s.a=none/\s.len=0/\s.cap=0)\/∃b off spare,s.a=some ⟨b,off,none⟩/\n0<=b/\b<w.heap.size/\E1 w b/\Row w ⟨b,off,none⟩ (vs++spare)/\(vs++spare).length=s.cap*n
theorem aQ.nil(w:World)(n0 n:Nat):aQ w n0 n ⟨none,0,0⟩ []:=⟨by simp,by simp,.inl ⟨rfl,rfl,rfl⟩⟩
theorem aQ.reads{n0 n:Nat}{vs:LV}(h:aQ w n0 n s vs):cj w s.a vs:=by
 rcases h.row with⟨h1,h2,h3⟩|⟨b,off,spare,h1,_,_,_,h2,_⟩
 ·rw[h1]
  have:=h.len;rw[h2]at this;simp at this;exact this
 ·rw[h1];exact ay.2 (Row.append.1 h2).1
theorem E1.of_heap{b:Nat}(h:E1 w b)(he:w'.heap[b]? =w.heap[b]?):E1 w' b:=λo v hv=>by
 rw[uP (w:=w) he];refine h o v ?_;have:(⟨b,o,none⟩:Addr).block=b:=rfl;simp only[World.cell?,this,he]at hv⊢;exact hv
theorem aQ.mod{S:Nat->Prop}{n0 n:Nat}{vs:LV}(h:aQ w n0 n s vs)(hm:Mod S w w')(hs:∀ad,s.a=some ad->¬S ad.block):aQ w' n0 n s vs:=by
 refine⟨h.len,h.le,?_⟩;rcases h.row with h1|⟨b,off,spare,h1,h2,h3,h4,h5,h6⟩
 ·exact .inl h1
 ·have hsb:¬S b:=hs _ h1
  exact .inr ⟨b,off,spare,h1,h2,Nat.lt_of_lt_of_le h3 hm.size,h4.of_heap (hm.same b h3 hsb),h5.of_heap (hm.same b h3 hsb),h6⟩
theorem aQ.grow{n0 n:Nat}{vs:LV}(h:aQ w n0 n s vs)(hm:Grow w w'):aQ w' n0 n s vs:=h.mod hm λ_ _ h=>h
theorem aQ.tO{n0 n:Nat}{vs:LV}(h:aQ w n0 n s vs){ad:Addr}(ha:s.a=some ad):n0<=ad.block/\ad.block<w.heap.size/\ad.spot=none/\E1 w ad.block:=by
 rcases h.row with⟨h1,_⟩|⟨b,off,spare,h1,h2,h3,h4,_⟩
 ·rw[h1]at ha;cases ha
 ·rw[h1]at ha;simp only[jg]at ha;subst ha;exact⟨h2,h3,rfl,h4⟩
theorem aQ.weaken{n0 n1 n:Nat}{vs:LV}(h:aQ w n0 n s vs)(hn:n1<=n0):aQ w n1 n s vs:=by
 refine⟨h.len,h.le,?_⟩;rcases h.row with h1|⟨b,off,spare,h1,h2,rest⟩
 ·exact .inl h1
 ·exact .inr ⟨b,off,spare,h1,Nat.le_trans hn h2,rest⟩
def Sl.blk(s:Sl)(b:Nat):Prop:=∃ad,s.a=some ad/\ad.block=b
theorem wI(n:Nat):∀(r c m:Nat),c<=m->n<=m->Builtin.growBy n r c<=m+(m+768)/4
 |0,c,m,hc,_=>by simp only[Builtin.growBy];omega
 |
  r+1,c,m,hc,hn=>by
  simp only[Builtin.growBy];split
  ·omega
  ·rename_i hlt
   by_cases h2:c+(c+768)/4<=m
   ·exact wI n r _ m h2 hn
   ·
    cases r with
    |zero=>simp only[Builtin.growBy];omega
    |
     succ r=>
     simp only[Builtin.growBy];rw[jd (by omega)];omega
theorem nextslicecap_le{n c:Nat}(h:c<n):Builtin.nextslicecap n c<=2*n+192:=by
 unfold Builtin.nextslicecap;split
 ·omega
 ·split
  ·omega
  ·have:=wI n 4 c n (by omega) (Nat.le_refl _)
   omega
theorem eo(z:LV)(n:Nat):(zc z n).length=n*z.length:=by simp[zc]
theorem uQ{E n b n0 m:Nat}{z:LV}{vs new:LV}{k:Sl->Pr}(h:aQ w n0 n s vs)(hn0:n0<=w.heap.size)(hnl:new.length=m*n)
 (hna:∀v∈new,aE v)(hz:z.length=n)(hb:b≠0)(hbd:(2*(s.len+m)+192)*b<=2^48)
 (hk:∀r w',aQ w' n0 n r (vs++new)->r.len=s.len+m->(s.a.isSome=true\/0<m->r.a.isSome=true)->(s.a=none->m=0->r.a=none)->Mod s.blk w w'->(∀b,r.blk b->s.blk b\/w.heap.size<=b)->k r w'):(s.len+m<=s.cap->KW s.a (s.len*n) new (k ⟨s.a,s.len+m,s.cap⟩) w)/\
 (s.cap<s.len+m->∃old:LV,(s.a.isSome=true->old.length=s.len*n)/\cj w s.a old/\(b≠0)/\
   (Builtin.nextslicecap (s.len+m) s.cap*b<=2^48)/\(s.len+m<2^63)/\
   ∀
    cap,s.len+m<=cap->cap<2^63->
    k ⟨some ⟨w.heap.size,0,none⟩,s.len+m,cap⟩ (w.drew.alloc (.cells (old++new++zc z (cap-(s.len+m))).toArray E))):=by
 refine⟨?_,?_⟩
 ·intro hroom
  rcases h.row with⟨h1,h2,h3⟩|⟨bb,off,spare,h1,h2,h3,h4,h5,h6⟩
  ·rw[h1]
   have Tb:m=0:=by omega
   have hnew:new=[]:=by
    apply jy;rw[hnl,Tb];simp
   refine hk _ _ ?_ rfl ?_ ?_ (Mod.refl _ _) ?_
   ·rw[hnew,List.append_nil]
    exact⟨by simp[h.len,Tb],by simp;omega,.inl ⟨by simp,by simp;omega,h3⟩⟩
   ·rintro(h|h)
    ·simp[h1]at h
    ·omega
   ·intro _ _;rfl
   ·rintro b ⟨ad,hh,_⟩;cases hh
  ·rw[h1]
   have hlen:=h.len;have LS:(vs++spare).length=vs.length+spare.length:=jh;have hle:s.len*n+new.length<=(vs++spare).length:=by
    rw[hnl,h6,<-Nat.add_mul];exact Nat.mul_le_mul_right n hroom
   show FN _ 0 new _ w;rw[kN,Nat.add_zero,<-hlen];refine tV rfl h5 (by rw[hlen];exact hle) hna h4 ?_;intro w' g1 g2 g3 g4;have e1:(vs++spare).take vs.length=vs:=by simp
   have e2:(vs++spare).drop (vs.length+new.length)=spare.drop new.length:=by
    rw[List.drop_append,List.drop_eq_nil_of_le (by omega),List.nil_append]
    congr 1;omega
   rw[e1,e2]at g1;refine hk _ _ ⟨?_,hroom,.inr ⟨bb,off,spare.drop new.length,rfl,h2,by rw[g3];exact h3,g4 _ h4,g1,?_⟩⟩ rfl ?_ ?_ ?_ ?_
   ·rw[jh,hlen,hnl,Nat.add_mul]
   ·simp only[jh,kg]at *
    omega
   ·intro _;rfl
   ·intro h;rw[h1]at h;cases h
   ·exact g2.mono λc _ hc=>⟨_,h1,hc.symm⟩
   ·rintro c ⟨ad,hh,hc⟩
    simp only[jg]at hh;exact .inl ⟨_,h1,by rw[<-hc,<-hh]⟩
 ·intro hgrow
  have hold:=h.reads;refine⟨vs,λ_=>h.len,hold,hb,?_,?_,?_⟩
  ·exact Nat.le_trans (Nat.mul_le_mul_right b (nextslicecap_le hgrow)) hbd
  ·have:(2*(s.len+m)+192)*1<=(2*(s.len+m)+192)*b:=Nat.mul_le_mul_left _ (by omega)
   omega
  ·intro cap hc1 jT
   have hl:(vs++new++zc z (cap-(s.len+m))).length=cap*n:=by
    simp only[jh,eo,h.len,hnl,hz];rw[<-Nat.add_mul,<-Nat.add_mul]
    congr 1;omega
   refine hk _ _ ⟨?_,hc1,.inr ⟨w.heap.size,0,zc z (cap-(s.len+m)),rfl,hn0,?_,?_,?_,hl⟩⟩ rfl (λ_=>rfl) ?_ ((Mod.refl _ w).drew.alloc _) ?_
   ·simp only[jh,h.len,hnl,Nat.add_mul]
   ·simp
   ·intro o _ _
    exact World.frozen?_alloc_new w.drew _ E o
   ·intro j v hj
    rw[gd,Nat.zero_add];have:=World.cell?_alloc_new w.drew (vs++new++zc z (cap-(s.len+m))).toArray E j;rw[World.size_drew]at this;rw[this];simpa using hj
   ·intro hsa hx0'
    exfalso;rcases h.row with⟨_,g2,g3⟩|⟨bb,_,_,g1,_⟩
    ·omega
    ·rw[g1]at hsa;cases hsa
   ·rintro c ⟨ad,hh,hc⟩
    simp only[jg]at hh;refine .inr ?_;rw[<-hc,<-hh];exact Nat.le_refl _
theorem o9{E n b n0:Nat}{z:LV}{vs new:LV}{k:Sl->Pr}(h:aQ w n0 n s vs)(hn0:n0<=w.heap.size)(iF:x.a.isSome=true->new.length=x.len*n)(hx0:x.a=none->x.len=0)(hx:cj w x.a new)
 (hna:∀v∈new,aE v)(hz:z.length=n)(hb:b≠0)(hbd:(2*(s.len+x.len)+192)*b<=2^48)
 (hk:∀r w',aQ w' n0 n r (vs++new)->r.len=s.len+x.len->(s.a.isSome=true\/0<x.len->r.a.isSome=true)->(s.a=none->x.len=0->r.a=none)->Mod s.blk w w'->(∀b,r.blk b->s.blk b\/w.heap.size<=b)->k r w'):app E n b z s x k w:=by
 have hnl:new.length=x.len*n:=by
  cases OW:x.a with
  |some _=>exact iF (by simp[OW])
  |
   none=>
   rw[OW]at hx;have:new=[]:=hx;rw[this,hx0 OW];simp
 exact⟨new,λ_=>hnl,hx,uQ h hn0 hnl hna hz hb hbd hk⟩
theorem EB{E n b n0:Nat}{z:LV}{vs new:LV}{k:Sl->Pr}(h:aQ w n0 n s vs)(hn0:n0<=w.heap.size)(iF:x.a.isSome=true->new.length=x.len*n)(hx0:x.a=none->x.len=0)(hx:cj w x.a new)
 (hna:∀v∈new,aE v)(hz:z.length=n)(hb:b≠0)(hbd:(2*(s.len+x.len)+192)*b<=2^48)
 (hk:∀r w',aQ w' n0 n r (vs++new)->r.len=s.len+x.len->(s.a.isSome=true\/0<x.len->r.a.isSome=true)->(s.a=none->x.len=0->r.a=none)->Mod s.blk w w'->k r w'):app E n b z s x k w:=
 o9 h hn0 iF hx0 hx hna hz hb hbd λr w' h1 h2 h3 h4 h5 _=>hk r w' h1 h2 h3 h4 h5
end
theorem mP{α:Type}{f:α->LV}{n:Nat}(hf:∀r,(f r).length=n):∀{rs:List α} {w:World} {a:Addr},Row w a (rs.flatMap f)↔∀i r,rs[i]? =some r->Row w (a.add (i*n)) (f r)
 |[],w,a=>by simp[Row.nil]
 |
  x::rs,w,a=>by
  rw[List.flatMap_cons,Row.append,mP hf (rs:=rs),hf];constructor
  ·rintro⟨h1,h2⟩ i r hi
   cases i with
   |zero=>simp only[List.getElem?_cons_zero,jg]at hi;subst hi;simpa using h1
   |
    succ i=>
    have:=h2 i r (by simpa using hi);rwa[add_add,show n+i*n=(i+1)*n by rw[Nat.add_mul];omega]at this
  ·intro h
   refine⟨by simpa using h 0 x rfl,λi r hi=>?_⟩;have:=h (i+1) r (by simpa using hi);rwa[show(i+1)*n=n+i*n by rw[Nat.add_mul];omega,<-add_add]at this
theorem c6{α:Type}{f:α->LV}{n:Nat}(hf:∀r,(f r).length=n)(rs:List α):(rs.flatMap f).length=rs.length*n:=by
 induction rs with
 |nil=>simp
 |cons x rs ih=>rw[List.flatMap_cons,jh,ih,hf,List.length_cons,Nat.add_mul];omega
structure SS{α:Type}(f:α->LV)(w:World)(s:Sl)(rs:List α):Prop where
 len:s.len=rs.length
 row:cj w s.a (rs.flatMap f)
section
variable{α:Type}{f:α->LV}{n:Nat}{w w':World}{s:Sl}{rs:List α}
theorem SS.get(hf:∀r,(f r).length=n)(h:SS f w s rs){i:Nat}{r:α}(hi:rs[i]? =some r)(hn:n≠0):∃ad,s.a=some ad/\Row w (ad.add (i*n)) (f r):=by
 obtain⟨h1,h2⟩:=h;cases ha:s.a with
 |
  none=>
  rw[ha]at h2;have h3:rs.flatMap f=[]:=h2;have h4:=c6 hf rs;rw[h3]at h4;simp only[List.length_nil]at h4;have:rs.length=0:=(Nat.mul_eq_zero.1 h4.symm).resolve_right hn;have:rs=[]:=jy this;subst this;simp at hi
 |
  some ad=>
  rw[ha]at h2;exact⟨ad,rfl,(mP hf).1 (ay.1 h2) i r hi⟩
theorem SS.grow(h:SS f w s rs)(hm:Grow w w'):SS f w' s rs:=⟨h.len,h.row.grow hm⟩
theorem SS.mod{S:Nat->Prop}(h:SS f w s rs)(hm:Mod S w w')(hs:∀ad,s.a=some ad->¬S ad.block):SS f w' s rs:=⟨h.len,h.row.mod hm λad ha _=>hs ad ha⟩
theorem SS.nil(w:World)(c:Nat):SS f w ⟨none,0,c⟩ []:=⟨rfl,rfl⟩
theorem SS.cQ(hf:∀r,(f r).length=n)(hn:n≠0)(h:SS f w s rs)(ha:s.a=none):s.len=0:=by
 rw[h.len];have h2:=h.row;rw[ha]at h2;have h3:rs.flatMap f=[]:=h2;have h4:=c6 hf rs;rw[h3]at h4;simp only[List.length_nil]at h4;exact(Nat.mul_eq_zero.1 h4.symm).resolve_right hn
end
theorem BS.cQ{w:World}{s:Sl}{l:LB}(h:BS w s l)(ha:s.a=none):s.len=0:=by
 have h2:=h.row;rw[ha]at h2;have:l.map ub=[]:=h2;simp at this;rw[h.len,this];rfl
def bytesOf(l:LB):ByteArray:=⟨l.toArray⟩
@[
 simp]theorem Jy(l:LB):(bytesOf l).toList=l:=by
 rw[ByteArray.toList_eq];rfl
theorem HM{w:World}{s:Sl}{l:LB}{k:ByteArray->Pr}(h:BS w s l)(hk:k (bytesOf l) w):Oo s k w:=by
 refine⟨l.map λb=>(b.toNat:Int),λ_=>by simp[h.len],?_,?_⟩
 ·rw[List.map_map]
  exact h.row
 ·have:(l.map λb=>(b.toNat:Int)).map (λn=>UInt8.ofNat n.toNat)=l:=by
   rw[List.map_map]
   conv=>rhs;rw[<-List.map_id l]
   apply List.map_congr_left;intro b _;simp
  rw[this];exact hk
theorem aQ.bs{w:World}{n0:Nat}{s:Sl}{l:LB}(h:aQ w n0 1 s (l.map ub)):BS w s l:=
 ⟨by have:=h.len;simp at this;exact this.symm,h.reads⟩
theorem aQ.ss{α:Type}{f:α->LV}{n:Nat}(hf:∀r,(f r).length=n)(hn:n≠0){w:World}{n0:Nat}{s:Sl}{rs:List α}(h:aQ w n0 n s (rs.flatMap f)):SS f w s rs:=
 ⟨by have:=h.len;rw[c6 hf]at this;exact(Nat.eq_of_mul_eq_mul_right (Nat.pos_of_ne_zero hn) this).symm,h.reads⟩
theorem iR{l:LB}:∀v∈l.map ub,aE v:=by
 intro v hv;obtain⟨b,_,rfl⟩:=ki.1 hv;trivial
theorem aQ.put{w:World}{n0 n:Nat}{s:Sl}{vs:LV}(h:aQ w n0 n s vs){i:Nat}{v:Value}{k:Pr}(hi:i<vs.length)(hv:aE v)
 (hk:∀w',aQ w' n0 n s (vs.set i v)->Mod s.blk w w'->w'.heap.size=w.heap.size->k w'):∃ad,s.a=some ad/\st (ad.add i) v k w:=by
 rcases h.row with⟨_,h2,_⟩|⟨b,off,spare,h1,h2,h3,h4,h5,h6⟩
 ·have:=h.len;rw[h2]at this;simp at this;subst this;simp at hi
 ·refine⟨_,h1,Jw (u:=vs[i]) hv ?_ (h4.add rfl rfl (h5 i vs[i] (by rw[List.getElem?_append_left hi];simp[hi]))) ?_⟩
  ·exact h5 i _ (by rw[List.getElem?_append_left hi];simp[hi])
  ·refine hk _ ⟨by simpa using h.len,h.le,.inr ⟨b,off,spare,h1,h2,by simpa using h3,h4.setCell,?_,by simpa using h6⟩⟩ ?_ (by simp)
   ·have:=h5.set rfl (i:=i) (v:=v)
    rwa[List.set_append_left _ _ hi]at this
   ·exact(Mod.refl _ w).setCell (.inl ⟨_,h1,by simp⟩)
theorem EJ{a:OA}{off:Nat}{k:Pr}:KW a off [] k=k:=by cases a<;>rfl
theorem pn{w:World}{n0 n:Nat}{t s' src:Sl}{vs new:LV}{k:Pr}{o:Nat}(h:aQ w n0 n t vs)(ho:o<=t.len)(ha:s'.a=t.a.map (·.add (o*n))\/s'.len=0)(hl:s'.len=t.len-o)
 (hr:cj w src.a new)(hn:src.a.isSome=true->new.length=src.len*n)(hn0:src.a=none->src.len=0)(hle:src.len<=s'.len)(hna:∀v∈new,aE v)
 (hk:∀w',aQ w' n0 n t (vs.take (o*n)++new++vs.drop (o*n+new.length))->Mod t.blk w w'->w'.heap.size=w.heap.size->k w'):mo n s' src k w:=by
 have hnl:new.length=src.len*n:=by
  cases hsa:src.a with
  |some _=>exact hn (by simp[hsa])
  |
   none=>
   rw[hsa]at hr;have:new=[]:=hr;rw[this,hn0 hsa];simp
 refine⟨new,λ_=>by rw[hnl,show Nat.min src.len s'.len=src.len from Nat.min_eq_left hle],hr,?_⟩;by_cases hz:new=[]
 ·subst hz
  rw[EJ];refine hk w ?_ (Mod.refl _ _) rfl;simpa using h
 ·have hpos:src.len≠0:=by
   intro h0;rw[h0]at hnl;simp at hnl;exact hz hnl
  have Rn:s'.a=t.a.map (·.add (o*n)):=ha.resolve_right (by omega);rcases h.row with⟨h1,h2,h3⟩|⟨b,off,spare,h1,h2,h3,h4,h5,h6⟩
  ·omega
  ·rw[Rn,h1]
   show FN ((Addr.add ⟨b,off,none⟩ (o*n)).add 0) 0 new k w;rw[add_zero',kN,Nat.add_zero];have hlen:=h.len;have hb:o*n+new.length<=vs.length:=by
    rw[hnl,hlen,<-Nat.add_mul];exact Nat.mul_le_mul_right n (by omega)
   refine tV rfl h5 (by rw[jh];omega) hna h4 ?_;intro w' g1 g2 g3 g4;refine hk w' ⟨?_,h.le,.inr ⟨b,off,spare,h1,h2,by rw[g3];exact h3,g4 _ h4,?_,?_⟩⟩ (g2.mono λc _ hc=>⟨_,h1,hc.symm⟩) g3
   ·simp only[jh,jt,kg]
    omega
   ·rw[List.take_append_of_le_length (by omega),List.drop_append_of_le_length (by omega)]at g1
    simpa[ju]using g1
   ·simp only[jh,jt,kg]at *
    omega
theorem tN{w:World}{n:Nat}{s:Sl}{o:Int}{k:Sl->Pr}(h0:0<=o)(h1:o<=(s.len:Int))
 (hk:k ⟨if s.cap=o.toNat then s.a else s.a.map (·.add (o.toNat*n)),s.len-o.toNat,s.cap-o.toNat⟩ w):slc n s (some o) none none k w:=by
 refine⟨by simp,by simp,by simp,λl hl=>?_,by simpa using hk⟩;simp only[jg]at hl;subst hl;simpa using⟨h0,h1⟩
theorem xY{w:World}{n:Nat}{s:Sl}{o:Int}{k:Sl->Pr}(h0:0<=o)(h1:o<=(s.cap:Int))
 (hk:k ⟨if s.cap=0 then s.a else s.a.map (·.add 0),o.toNat,s.cap⟩ w):slc n s none (some o) none k w:=by
 refine⟨by simp,by simp,λl hl=>?_,by simp,by simpa using hk⟩;simp only[jg]at hl;subst hl;simpa using⟨h0,h1⟩
theorem gq(a:OA):a.map (·.add 0)=a:=by cases a<;>simp
section
variable{w w':World}{s:Sl}{l:LB}
theorem Jz{i e:Int}{k:Sl->Pr}(h:BS w s l)(hle:s.len<=s.cap)(h0:0<=i)(h1:i<=e)(h2:e<=(s.len:Int))(hk:∀r,BS w r ((l.take e.toNat).drop i.toNat)->r.len=e.toNat-i.toNat->k r w):slc 1 s (some i) (some e) none k w:=by
 have hl:=h.len;refine⟨by simp,by simp,λx hx=>?_,λx hx=>?_,?_⟩
 ·simp only[jg]at hx;subst hx;simp;omega
 ·simp only[jg]at hx;subst hx;simp;omega
 ·simp only[Option.map_none,Option.map_some,Option.getD_none,Option.getD_some]
  refine hk _ ⟨?_,?_⟩ rfl
  ·simp;omega
  ·have hrow:=h.row
   have hr:∀ad,s.a=some ad->Row w (ad.add (i.toNat*1)) (((l.take e.toNat).drop i.toNat).map ub):=by
    intro ad had;rw[had]at hrow;have:=((ay.1 hrow).take e.toNat).drop i.toNat;simpa[List.map_take,List.map_drop]using this
   split
   ·have:(l.take e.toNat).drop i.toNat=[]:=by apply jy;simp;omega
    rw[this];cases s.a with
    |none=>rfl
    |some ad=>exact ay.2 (Row.nil _ _)
   ·cases ha:s.a with
    |
     none=>
     have h0:=h.cQ ha;have:(l.take e.toNat).drop i.toNat=[]:=by apply jy;simp;omega
     rw[this];rfl
    |some ad=>exact ay.2 (hr ad ha)
end
structure gH(w:World)(b:Nat)(vs:LV):Prop where
 lt:b<w.heap.size
 Tc:E1 w b
 row:Row w ⟨b,0,none⟩ vs
section
variable{w w':World}{b:Nat}{vs:LV}
theorem gH.mod{S:Nat->Prop}(h:gH w b vs)(hm:Mod S w w')(hs:¬S b):gH w' b vs:=
 ⟨Nat.lt_of_lt_of_le h.lt hm.size,h.Tc.of_heap (hm.same b h.lt hs),h.row.mod hm hs⟩
theorem gH.grow(h:gH w b vs)(hm:Grow w w'):gH w' b vs:=h.mod hm λh=>h
theorem rK{cs:Array Value}{T:TypeId}{f:Nat->Pr}(h:∀b w2,Grow w w2->b=w.heap.size->w2.heap.size=w.heap.size+1->gH w2 b cs.toList->f b w2):nw (.cells cs T) f w:=by
 rw[tQ];refine h _ _ ((Mod.refl _ w).alloc _) rfl (by simp) ⟨by simp,λo _ _=>World.frozen?_alloc_new _ _ _ _,λj v hj=>?_⟩;rw[gd,Nat.zero_add,World.cell?_alloc_new];simpa using hj
theorem gH.ld(h:gH w b vs){s:CS}{p:dM s}{k:dM s->Pr}{i:Nat}(hi:vs[i]? =some (cu s p))(hk:k p w):cM s (Addr.add ⟨b,0,none⟩ i) k w:=eA (h.row.get hi) hk
theorem gH.aN{l:List CS}{p:lC l}{k:lC l->Pr}(h:gH w b (gy l p))(hk:k p w):aN l ⟨b,0,none⟩ k w:=fy (ay.2 h.row) hk
theorem gH.st(h:gH w b vs){i:Nat}{v:Value}{k:Pr}(hi:i<vs.length)(hv:aE v)(hk:∀w',gH w' b (vs.set i v)->Mod (·=b) w w'->w'.heap.size=w.heap.size->k w'):st (Addr.add ⟨b,0,none⟩ i) v k w:=by
 refine Jw (u:=vs[i]) hv (h.row.get (by simp[hi])) (h.Tc.add (v:=vs[i]) rfl rfl (h.row.get (by simp[hi]))) ?_;refine hk _ ⟨by simpa using h.lt,h.Tc.setCell,h.row.set rfl⟩ ((Mod.refl _ w).setCell (.inl (by simp))) (by simp)
end
theorem ah(a:Addr)(f:Addr->Pr):deref (some a) f=f a:=by funext w;exact gC a f
theorem fN{P:Program}{v:Value}{args:LV}{cJ:List Sh}{k k':ef cJ->Pr}{w:World}(h:∀p w',k p w'->k' p w')(hh:dx P v args cJ k w):dx P v args cJ k' w:=by
 rcases hh with⟨f,first,caps,h1,h2,h3⟩|⟨l,caps,h1,h2⟩
 ·exact .inl ⟨f,first,caps,h1,h2,h3.mono λe w' ⟨p,he,hp⟩=>⟨p,he,h p w' hp⟩⟩
 ·exact .inr ⟨l,caps,h1,h2.mono λe w' ⟨p,he,hp⟩=>⟨p,he,h p w' hp⟩⟩
structure HA where
 is:World->(Nat->Prop)->Prop
 lt:∀{w:World} {F:Nat->Prop} {b:Nat},is w F->F b->b<w.heap.size
 mod:∀{w w':World} {F S:Nat->Prop},is w F->Mod S w w'->(∀b,F b->¬S b)->is w' F
def Has:List HA->World->(Nat->Prop)->Prop
 |[],_,F=>∀b,¬F b
 |A::l,w,F=>∃G H,A.is w G/\Has l w H/\(∀b,G b->¬H b)/\∀b,F b↔G b\/H b
theorem JB{F G:Nat->Prop}(h:∀b,F b↔G b):F=G:=funext λb=>propext (h b)
theorem Has.lt:∀{l:List HA} {w:World} {F:Nat->Prop} {b:Nat},Has l w F->F b->b<w.heap.size
 |[],_,_,b,h,hb=>(h b hb).elim
 |A::l,_,_,b,⟨G,H,h1,h2,_,h4⟩,hb=>((h4 b).1 hb).elim (λh=>A.lt h1 h) λh=>Has.lt h2 h
theorem Has.mod:∀{l:List HA} {w w':World} {F S:Nat->Prop},Has l w F->Mod S w w'->(∀b,F b->¬S b)->Has l w' F
 |[],_,_,_,_,h,_,_=>h
 |
  A::l,_,_,_,_,⟨G,H,h1,h2,h3,h4⟩,hm,hs=>
  ⟨G,H,A.mod h1 hm λb hb=>hs b ((h4 b).2 (.inl hb)),Has.mod h2 hm λb hb=>hs b ((h4 b).2 (.inr hb)),h3,h4⟩
theorem Has.append:∀{l m:List HA} {w:World} {F:Nat->Prop},Has (l++m) w F↔∃G H,Has l w G/\Has m w H/\(∀b,G b->¬H b)/\∀b,F b↔G b\/H b
 |
  [],m,w,F=>by
  constructor
  ·intro h
   exact⟨λ_=>False,F,λ_ h=>h,h,λ_ h=>h.elim,λb=>by simp⟩
  ·rintro⟨G,H,h1,h2,_,h4⟩
   have:F=H:=JB λb=>by rw[h4 b];exact⟨λh=>h.elim (λh=>(h1 b h).elim) id,.inr⟩
   rw[this];exact h2
 |
  A::l,m,w,F=>by
  constructor
  ·rintro⟨G,H,h1,h2,h3,h4⟩
   obtain⟨G',H',h5,h6,h7,h8⟩:=Has.append.1 h2;refine⟨λb=>G b\/G' b,H',⟨G,G',h1,h5,λb hb hb'=>h3 b hb ((h8 b).2 (.inl hb')),λb=>Iff.rfl⟩,h6,?_,?_⟩
   ·rintro b (hb|hb) hb'
    ·exact h3 b hb ((h8 b).2 (.inr hb'))
    ·exact h7 b hb hb'
   ·intro b
    rw[h4 b,h8 b,or_assoc]
  ·rintro⟨G,H,⟨G1,G2,h1,h2,h3,h4⟩,h5,h6,h7⟩
   refine⟨G1,λb=>G2 b\/H b,h1,Has.append.2 ⟨G2,H,h2,h5,λb hb=>h6 b ((h4 b).2 (.inr hb)),λb=>Iff.rfl⟩,?_,?_⟩
   ·rintro b hb (hb'|hb')
    ·exact h3 b hb hb'
    ·exact h6 b ((h4 b).2 (.inl hb)) hb'
   ·intro b
    rw[h7 b,h4 b,or_assoc]
theorem Has.perm{l m:List HA}(h:l.Perm m):∀{w:World} {F:Nat->Prop},Has l w F->Has m w F:=by
 induction h with
 |nil=>exact λh=>h
 |cons A _ ih=>rintro w F ⟨G,H,h1,h2,h3,h4⟩;exact⟨G,H,h1,ih h2,h3,h4⟩
 |
  swap A B l=>
  rintro w F ⟨G,H,h1,⟨G',H',h5,h6,h7,h8⟩,h3,h4⟩;refine⟨G',λb=>G b\/H' b,h5,⟨G,H',h1,h6,λb hb hb'=>h3 b hb ((h8 b).2 (.inr hb')),λb=>Iff.rfl⟩,?_,?_⟩
  ·rintro b hb (hb'|hb')
   ·exact h3 b hb' ((h8 b).2 (.inl hb))
   ·exact h7 b hb hb'
  ·intro b
   rw[h4 b,h8 b];constructor
   ·rintro(h|h|h)
    ·exact .inr (.inl h)
    ·exact .inl h
    ·exact .inr (.inr h)
   ·rintro(h|h|h)
    ·exact .inr (.inl h)
    ·exact .inl h
    ·exact .inr (.inr h)
 |trans _ _ ih1 ih2=>exact λh=>ih2 (ih1 h)
def aq:Nat->List HA->List HA
 |_,[]=>[]
 |0,A::l=>A::l
 |
  n+1,A::l=>
  match aq n l with
  |[]=>[A]
  |B::m=>B::A::m
theorem lU:∀(n:Nat) (l:List HA),l.Perm (aq n l)
 |0,[]=>.refl _
 |_+1,[]=>.refl _
 |0,A::l=>.refl _
 |
  n+1,A::l=>by
  have h:=lU n l;unfold aq;split
  ·rename_i h2
   rw[h2]at h;rw[h.eq_nil]
  ·rename_i B m h2
   rw[h2]at h;exact(h.cons A).trans (.swap B A m)
def St(F0:Nat->Prop)(w0 w:World)(l:List HA):Prop:=Mod F0 w0 w/\∃F,Has l w F/\∀b,F b->F0 b\/w0.heap.size<=b
abbrev aM:Nat->Prop:=λ_=>False
section
variable{F0:Nat->Prop}{w0 w w':World}{l m:List HA}{A B:HA}
theorem St.init{F:Nat->Prop}(h:Has l w F):St F w w l:=⟨Mod.refl _ _,F,h,λ_ h=>.inl h⟩
theorem St.bh(w:World):St aM w w []:=⟨Mod.refl _ _,aM,λ_ h=>h,λ_ h=>h.elim⟩
theorem St.cw(h:St aM w0 w l):Grow w0 w:=h.1
theorem St.perm(h:St F0 w0 w l)(hp:l.Perm m):St F0 w0 w m:=let⟨h1,F,h2,h3⟩:=h;⟨h1,F,h2.perm hp,h3⟩
theorem St.aq(n:Nat)(h:St F0 w0 w l):St F0 w0 w (Eng.aq n l):=h.perm (lU n l)
theorem St.drop(h:St F0 w0 w (A::l)):St F0 w0 w l:=by
 obtain⟨h1,F,⟨G,H,_,h5,_,h7⟩,h3⟩:=h;exact⟨h1,H,h5,λb hb=>h3 b ((h7 b).2 (.inr hb))⟩
theorem St.vY(h:St F0 w0 w (l++m)):St F0 w0 w m:=by
 obtain⟨h1,F,h2,h3⟩:=h;obtain⟨G,H,_,h5,_,h7⟩:=Has.append.1 h2;exact⟨h1,H,h5,λb hb=>h3 b ((h7 b).2 (.inr hb))⟩
theorem St.yS(h:St F0 w0 w (l++m)):St F0 w0 w l:=by
 obtain⟨h1,F,h2,h3⟩:=h;obtain⟨G,H,h4,_,_,h7⟩:=Has.append.1 h2;exact⟨h1,G,h4,λb hb=>h3 b ((h7 b).2 (.inl hb))⟩
theorem St.call(As:List HA)(h:St F0 w0 w (As++l)):∃F H,Has As w F/\Has l w H/\(∀b,F b->¬H b)/\(∀b,F b->F0 b\/w0.heap.size<=b)/\∀w' l',St F w w' l'->St F0 w0 w' (l'++l):=by
 obtain⟨h1,F,h2,h3⟩:=h;obtain⟨G,H,h4,h5,h6,h7⟩:=Has.append.1 h2;refine⟨G,H,h4,h5,h6,λb hb=>h3 b ((h7 b).2 (.inl hb)),?_⟩;rintro w' l' ⟨k1,F',k2,k3⟩;have hsz:=h1.size;refine⟨h1.trans k1 ?_,λb=>F' b\/H b,Has.append.2 ⟨F',H,k2,h5.mod k1 λb hb hg=>h6 b hg hb,?_,λb=>Iff.rfl⟩,?_⟩
 ·intro b hb hg
  rcases h3 b ((h7 b).2 (.inl hg))with h|h
  ·exact h
  ·omega
 ·intro b hb hb'
  rcases k3 b hb with h|h
  ·exact h6 b h hb'
  ·have:=h5.lt hb';omega
 ·rintro b (hb|hb)
  ·rcases k3 b hb with h|h
   ·exact h3 b ((h7 b).2 (.inl h))
   ·exact .inr (Nat.le_trans hsz h)
  ·exact h3 b ((h7 b).2 (.inr hb))
theorem St.iD(h:St F0 w0 w (A::l)):∃F H,A.is w F/\Has [A] w F/\Has l w H/\(∀b,F b->¬H b)/\(∀b,F b->F0 b\/w0.heap.size<=b)/\∀w' l',St F w w' l'->St F0 w0 w' (l'++l):=by
 obtain⟨F,H,h1,h2,h3,h4,h5⟩:=St.call [A] h;have HT:=h1;obtain⟨G,K,k1,k2,_,k4⟩:=HT;have:F=G:=JB λb=>by rw[k4 b];exact⟨λh=>h.elim id λh=>(k2 b h).elim,.inl⟩
 subst this;exact⟨F,H,k1,h1,h2,h3,h4,h5⟩
theorem Has.one{F:Nat->Prop}(h:Has [A] w F):A.is w F:=by
 obtain⟨G,K,k1,k2,_,k4⟩:=h;have:F=G:=JB λb=>by rw[k4 b];exact⟨λh=>h.elim id λh=>(k2 b h).elim,.inl⟩
 subst this;exact k1
theorem Has.Td{F:Nat->Prop}(h:A.is w F):Has [A] w F:=⟨F,aM,h,λ_ h=>h,λ_ _ h=>h,λb=>by simp⟩
theorem St.bC(h:St F0 w0 w l)(k:St aM w w' m):St F0 w0 w' (m++l):=by
 obtain⟨F,H,h1,h2,h3,h4,h5⟩:=St.call [] (l:=l) h;have:F=aM:=JB λb=>⟨λhb=>h1 b hb,λh=>h.elim⟩;subst this;exact h5 w' m k
theorem St.grow(h:St F0 w0 w l)(k:Grow w w'):St F0 w0 w' l:=St.bC (m:=[]) h ⟨k,aM,λ_ h=>h,λ_ h=>h.elim⟩
theorem St.drew(h:St F0 w0 w l):St F0 w0 w.drew l:=h.grow (Mod.refl _ w).drew
theorem St.kL(h:St F0 w0 w (A::l)):∃G H,A.is w G/\Has l w H/\(∀b,G b->¬H b)/\(∀b,G b->F0 b\/w0.heap.size<=b)/\∀w' (B:HA) G',B.is w' G'->Mod G w w'->(∀b,G' b->G b\/w.heap.size<=b)->St F0 w0 w' (B::l):=by
 obtain⟨F,H,h1,_,h2,h3,h4,h5⟩:=St.iD h;exact⟨F,H,h1,h2,h3,h4,λw' B G' k1 k2 k3=>h5 w' [B] ⟨k2,G',Has.Td k1,k3⟩⟩
theorem St.conv(h:St F0 w0 w (A::l))(hk:∀F,A.is w F->Has m w F):St F0 w0 w (m++l):=by
 obtain⟨F,H,h1,_,h2,h3,h4,h5⟩:=St.iD h;exact h5 w m ⟨Mod.refl _ _,F,hk F h1,λ_ h=>.inl h⟩
theorem St.zK(As:List HA)(h:St F0 w0 w (As++l))(hk:∀F,Has As w F->B.is w F):St F0 w0 w (B::l):=by
 obtain⟨F,H,h1,h2,h3,h4,h5⟩:=St.call As h;exact h5 w [B] ⟨Mod.refl _ _,F,Has.Td (hk F h1),λ_ h=>.inl h⟩
end
def ag(b:Nat)(vs:LV):HA where
 is w F:=gH w b vs/\∀c,F c↔c=b
 lt:=λh hb=>by rw[(h.2 _).1 hb];exact h.1.lt
 mod:=λh hm hs=>⟨h.1.mod hm (hs _ ((h.2 _).2 rfl)),h.2⟩
def cm(b:Nat)(o:Obj):HA where
 is w F:=w.heap[b]? =some o/\∀c,F c↔c=b
 lt:=λ{w F c} h hb=>by
  rw[(h.2 _).1 hb];rcases Nat.lt_or_ge b w.heap.size with h'|h'
  ·exact h'
  ·have:=h.1;rw[Array.getElem?_eq_none h']at this;cases this
 mod:=λ{w w' F S} h hm hs=>by
  have hlt:b<w.heap.size:=by
   rcases Nat.lt_or_ge b w.heap.size with h'|h'
   ·exact h'
   ·have:=h.1;rw[Array.getElem?_eq_none h']at this;cases this
  exact⟨(hm.same b hlt (hs _ ((h.2 _).2 rfl))).trans h.1,h.2⟩
def az(n:Nat)(s:Sl)(vs:LV):HA where
 is w F:=aQ w 0 n s vs/\∀c,F c↔s.blk c
 lt:=λh hb=>by
  obtain⟨ad,h1,rfl⟩:=(h.2 _).1 hb;exact(h.1.tO h1).2.1
 mod:=λh hm hs=>⟨h.1.mod hm λad ha hS=>hs _ ((h.2 _).2 ⟨ad,ha,rfl⟩) hS,h.2⟩
def KQ{ι:Type}(f:ι->List HA):HA where
 is w F:=∃i,Has (f i) w F
 lt:=λ⟨_,h⟩ hb=>h.lt hb
 mod:=λ⟨i,h⟩ hm hs=>⟨i,h.mod hm hs⟩
def ck(xs:List HA):HA where
 is w F:=Has xs w F
 lt:=λh hb=>Has.lt h hb
 mod:=λh hm hs=>Has.mod h hm hs
def pA(p:Prop):HA where
 is _ F:=p/\∀b,¬F b
 lt:=λh hb=>(h.2 _ hb).elim
 mod:=λh _ _=>h
section
variable{F0:Nat->Prop}{w0 w w':World}{l:List HA}
theorem St.ex{ι:Type}{f:ι->List HA}(h:St F0 w0 w (KQ f::l)):∃i,St F0 w0 w (f i++l):=by
 obtain⟨F,H,⟨i,h1⟩,_,h2,h3,h4,h5⟩:=St.iD h;exact⟨i,h5 w (f i) ⟨Mod.refl _ _,F,h1,λ_ h=>.inl h⟩⟩
theorem St.vD{ι:Type}{f:ι->List HA}(i:ι)(h:St F0 w0 w (f i++l)):St F0 w0 w (KQ f::l):=h.zK (f i) λ_ h=>⟨i,h⟩
theorem St.S1{xs:List HA}(h:St F0 w0 w (ck xs::l)):St F0 w0 w (xs++l):=h.conv λ_ h=>h
theorem St.uM{xs:List HA}(h:St F0 w0 w (xs++l)):St F0 w0 w (ck xs::l):=h.zK xs λ_ h=>h
theorem St.p{p:Prop}(h:St F0 w0 w (pA p::l)):p/\St F0 w0 w l:=⟨by obtain⟨F,H,h1,_⟩:=St.iD h;exact h1.1,h.drop⟩
theorem St.KR{p:Prop}(h:St F0 w0 w l)(hp:p):St F0 w0 w (pA p::l):=St.zK [] h λ_ h=>⟨hp,h⟩
theorem aC{α:Type}{xs:List α}{i:Nat}{x:α}(h:xs[i]? =some x):xs=xs.take i++x::xs.drop (i+1)/\i<xs.length:=by
 have hi:i<xs.length:=by
  rcases Nat.lt_or_ge i xs.length with h'|h'
  ·exact h'
  ·rw[List.getElem?_eq_none h']at h;cases h
 refine⟨?_,hi⟩;rw[jo hi,jg]at h;rw[<-h,<-List.drop_eq_getElem_cons hi,List.take_append_drop]
theorem St.pick{xs:List HA}{i:Nat}{A:HA}(h:St F0 w0 w (ck xs::l))(hi:xs[i]? =some A):St F0 w0 w (A::ck (xs.eraseIdx i)::l):=by
 have h1:=aC hi;have h2:=h.S1;have hp:(xs++l).Perm (A::(xs.eraseIdx i++l)):=by
  rw[List.eraseIdx_eq_take_drop_succ]
  conv=>lhs;rw[h1.1]
  simp only[ju,List.cons_append];exact List.perm_middle
 have h3:St F0 w0 w (xs.eraseIdx i++(l++[A])):=by
  rw[<-ju];exact(h2.perm hp).perm (List.perm_append_comm (l₁:=[A]) (l₂:=xs.eraseIdx i++l))
 have h4:=St.uM h3;exact h4.perm (((List.perm_append_comm (l₁:=l) (l₂:=[A])).cons _).trans (.swap _ _ _))
theorem St.xx{xs:List HA}{i:Nat}{A:HA}(h:St F0 w0 w (A::ck (xs.eraseIdx i)::l))(hi:i<xs.length):St F0 w0 w (ck (xs.set i A)::l):=by
 have h1:=h.perm (.swap _ _ _);have h2:=h1.S1;refine St.uM (h2.perm ?_);rw[List.eraseIdx_eq_take_drop_succ,List.set_eq_take_append_cons_drop,jd hi];simp only[ju,List.cons_append];refine(List.perm_append_left_iff _).2 ?_;exact List.perm_middle
theorem St.push{xs:List HA}{A:HA}(h:St F0 w0 w (A::ck xs::l)):St F0 w0 w (ck (xs++[A])::l):=by
 have h1:=(h.perm (.swap _ _ _)).S1;refine St.uM (h1.perm ?_);rw[ju];exact .refl _
theorem St.pE(h:St F0 w0 w l):St F0 w0 w (ck []::l):=St.uM (xs:=[]) h
theorem St.box{b:Nat}{vs:LV}(h:St F0 w0 w (ag b vs::l)):gH w b vs:=by
 obtain⟨F,H,h1,_⟩:=St.iD h;exact h1.1
theorem St.Te{b:Nat}{vs:LV}(h:St F0 w0 w l)(hg:Grow w w')(hb:gH w' b vs)(hn:w.heap.size<=b):St F0 w0 w' (ag b vs::l):=
 St.bC (m:=[ag b vs]) h ⟨hg,(·=b),Has.Td ⟨hb,λ_=>Iff.rfl⟩,λc hc=>.inr (by rw[hc];exact hn)⟩
theorem St.nw{cs:Array Value}{T:TypeId}{f:Nat->Pr}(h:St F0 w0 w l)(hk:∀b w2,St F0 w0 w2 (ag b cs.toList::l)->Grow w w2->b=w.heap.size->f b w2):nw (.cells cs T) f w:=
 rK λb w2 g e _ bx=>hk b w2 (h.Te g bx (by omega)) g e
theorem St.ld{b:Nat}{vs:LV}(h:St F0 w0 w (ag b vs::l)){s:CS}{p:dM s}{k:dM s->Pr}{i:Nat}(hi:vs[i]? =some (cu s p))(hk:k p w):cM s (Addr.add ⟨b,0,none⟩ i) k w:=h.box.ld hi hk
theorem St.Le{b:Nat}{v:Value}{vs:LV}(h:St F0 w0 w (ag b (v::vs)::l)){s:CS}{p:dM s}{k:dM s->Pr}(hi:v=cu s p)(hk:k p w):cM s ⟨b,0,none⟩ k w:=by
 have:=h.box.ld (i:=0) (s:=s) (p:=p) (k:=k) (by rw[hi];rfl) hk;rwa[add_zero']at this
theorem St.st{b:Nat}{vs:LV}(h:St F0 w0 w (ag b vs::l)){i:Nat}{v:Value}{k:Pr}(hi:i<vs.length)(hv:aE v)(hk:∀w',St F0 w0 w' (ag b (vs.set i v)::l)->k w'):Eng.st (Addr.add ⟨b,0,none⟩ i) v k w:=by
 obtain⟨G,H,⟨h1,h2⟩,h3,h4,h5,h6⟩:=St.kL h;refine h1.st hi hv λw' k1 k2 k3=>hk w' ?_;refine h6 w' (ag b (vs.set i v)) G ⟨k1,h2⟩ (k2.mono λc _ hc=>(h2 c).2 hc) λ_ h=>.inl h
theorem St.M0{b:Nat}{u:Value}{vs:LV}(h:St F0 w0 w (ag b (u::vs)::l)){v:Value}{k:Pr}(hv:aE v)(hk:∀w',St F0 w0 w' (ag b (v::vs)::l)->k w'):Eng.st ⟨b,0,none⟩ v k w:=by
 have:=h.st (i:=0) (v:=v) (k:=k) (by simp) hv λw' h'=>hk w' h';rwa[add_zero']at this
theorem St.obj{b:Nat}{o:Obj}(h:St F0 w0 w (cm b o::l)):w.heap[b]? =some o:=by
 obtain⟨F,H,h1,_⟩:=St.iD h;exact h1.1
theorem St.rN(h:St F0 w0 w l)(o:Obj):St F0 w0 (w.alloc o) (cm w.heap.size o::l):=
 St.bC (m:=[cm w.heap.size o]) h ⟨(Mod.refl _ w).alloc o,(·=w.heap.size),Has.Td ⟨heap_alloc_new w o,λ_=>Iff.rfl⟩,λc hc=>.inr (by rw[hc];exact Nat.le_refl _)⟩
theorem St.putObj{b:Nat}{o:Obj}(h:St F0 w0 w (cm b o::l))(o':Obj):St F0 w0 (w.putObj b o') (cm b o'::l):=by
 obtain⟨G,H,⟨h1,h2⟩,h3,h4,h5,h6⟩:=St.kL h;have hlt:b<w.heap.size:=by
  rcases Nat.lt_or_ge b w.heap.size with h'|h'
  ·exact h'
  ·rw[Array.getElem?_eq_none h']at h1;cases h1
 exact h6 _ (cm b o') G ⟨World.putObj_heap_same hlt,h2⟩ ((Mod.refl _ w).putObj (.inl ((h2 b).2 rfl))) λ_ h=>.inl h
theorem aQ.to0{n0 n:Nat}{s:Sl}{vs:LV}(h:aQ w n0 n s vs):aQ w 0 n s vs:=h.weaken (Nat.zero_le _)
theorem St.sl{n:Nat}{s:Sl}{vs:LV}(h:St F0 w0 w (az n s vs::l)):aQ w 0 n s vs:=by
 obtain⟨F,H,h1,_⟩:=St.iD h;exact h1.1
theorem St.mS{n:Nat}{s:Sl}{vs:LV}(h:St F0 w0 w l)(hg:Grow w w')(ho:aQ w' w.heap.size n s vs):St F0 w0 w' (az n s vs::l):=
 St.bC (m:=[az n s vs]) h ⟨hg,s.blk,Has.Td ⟨ho.to0,λ_=>Iff.rfl⟩,λc hc=>.inr (by obtain⟨ad,h1,rfl⟩:=hc;exact(ho.tO h1).1)⟩
theorem St.gh(h:St F0 w0 w l)(n:Nat):St F0 w0 w (az n ⟨none,0,0⟩ []::l):=h.mS (Mod.refl _ _) (aQ.nil _ _ _)
theorem St.HD{n:Nat}{s r:Sl}{vs us:LV}(h:St F0 w0 w (az n s vs::l))(hm:Mod s.blk w w')(ho:aQ w' 0 n r us)(hb:∀b,r.blk b->s.blk b\/w.heap.size<=b):St F0 w0 w' (az n r us::l):=by
 obtain⟨G,H,⟨h1,h2⟩,h3,h4,h5,h6⟩:=St.kL h;exact h6 _ (az n r us) r.blk ⟨ho,λ_=>Iff.rfl⟩ (hm.mono λc _ hc=>(h2 c).2 hc) λb hb'=>(hb b hb').imp (λh=>(h2 b).2 h) id
theorem St.app{E n b:Nat}{s x:Sl}{z:LV}{vs new:LV}{k:Sl->Pr}(h:St F0 w0 w (az n s vs::l))(iF:x.a.isSome=true->new.length=x.len*n)(hx0:x.a=none->x.len=0)(hx:cj w x.a new)
 (hna:∀v∈new,aE v)(hz:z.length=n)(hb:b≠0)(hbd:(2*(s.len+x.len)+192)*b<=2^48)
 (hk:∀r w',St F0 w0 w' (az n r (vs++new)::l)->r.len=s.len+x.len->k r w'):app E n b z s x k w:=
 o9 h.sl (Nat.zero_le _) iF hx0 hx hna hz hb hbd λr w' h1 h2 _ _ h5 h6=>hk r w' (h.HD h5 h1 h6) h2
theorem St.put{n:Nat}{s:Sl}{vs:LV}{i:Nat}{v:Value}{k:Pr}(h:St F0 w0 w (az n s vs::l))(hi:i<vs.length)(hv:aE v)
 (hk:∀w',St F0 w0 w' (az n s (vs.set i v)::l)->k w'):∃ad,s.a=some ad/\Eng.st (ad.add i) v k w:=
 h.sl.put hi hv λw' h1 h2 _=>hk w' (h.HD h2 h1 λ_ h=>.inl h)
theorem St.get{n:Nat}{s:Sl}{vs:LV}{i:Nat}{c:CS}{p:dM c}{k:dM c->Pr}(h:St F0 w0 w (az n s vs::l))(hi:vs[i]? =some (cu c p))(hk:k p w):∃ad,s.a=some ad/\cM c (ad.add i) k w:=by
 have h1:=h.sl;rcases h1.row with⟨_,h2,_⟩|⟨b,off,spare,h2,_,_,_,h5,_⟩
 ·have:=h1.len;rw[h2]at this;simp at this;subst this;simp at hi
 ·refine⟨_,h2,eA (h5 i _ ?_) hk⟩
  rw[List.getElem?_append_left (aC hi).2];exact hi
end
structure Rd(w:World)(F:Nat->Prop)(s:Sl)(l:LB):Prop where
 bs:BS w s l
 no:∀b,l≠[]->s.blk b->¬F b
section
variable{F0 F:Nat->Prop}{w0 w:World}{L:List HA}{s:Sl}{l:LB}
theorem Rd.at(h:Rd w0 F0 s l)(hs:St F0 w0 w L):BS w s l:=h.bs.mod hs.1 λad ha hl hF=>h.no _ hl ⟨ad,ha,rfl⟩ hF
theorem Rd.lt(h:Rd w F s l){b:Nat}(hl:l≠[])(hb:s.blk b):b<w.heap.size:=by
 obtain⟨ad,ha,rfl⟩:=hb;have h1:=h.bs.row;rw[ha]at h1;exact cj.lt h1 (by simpa using hl)
theorem Rd.go(h:Rd w0 F0 s l)(hs:St F0 w0 w L)(hF:∀b,F b->F0 b\/w0.heap.size<=b):Rd w F s l:=⟨h.at hs,λb hl hb hFb=>by
 rcases hF b hFb with h1|h1
 ·exact h.no b hl hb h1
 ·have:=h.lt hl hb;omega⟩
theorem Rd.aM(h:BS w s l):Rd w aM s l:=⟨h,λ_ _ _ h=>h⟩
theorem Rd.own{H:Nat->Prop}(h:Has (az 1 s (l.map ub)::L) w H)(hd:∀b,F b->¬H b):Rd w F s l:=by
 obtain⟨G,H',⟨h1,h2⟩,h3,h4,h5⟩:=h;exact⟨h1.bs,λb _ hb hF=>hd b hF ((h5 b).2 (.inl ((h2 b).2 hb)))⟩
end
section
variable{w0 w:World}{L:List HA}
theorem St.own{n:Nat}{s:Sl}{vs:LV}(h:St aM w0 w (az n s vs::L)):aQ w w0.heap.size n s vs:=by
 obtain⟨G,H,⟨h1,h2⟩,_,_,h5,_⟩:=h.kL;refine⟨h1.len,h1.le,?_⟩;rcases h1.row with h|⟨b,off,spare,k1,_,k3⟩
 ·exact .inl h
 ·refine .inr ⟨b,off,spare,k1,?_,k3⟩
  rcases h5 b ((h2 b).2 ⟨_,k1,rfl⟩)with h|h
  ·exact h.elim
  ·exact h
theorem yR{F0:Nat->Prop}{D:Nat}{k:Pr}(h:St F0 w0 w (cm D (.deferred (some []))::L))(hk:∀w',St F0 w0 w' (cm D (.deferred none)::L)->k w'):takes [D] k w:=
 ⟨h.obj,hk _ (h.putObj _)⟩
theorem gH.yQ{b:Nat}{v:Value}{vs:LV}(h:gH w b (v::vs)):w.cell? ⟨b,0,none⟩=some v:=by
 have:=h.row.get (j:=0) (v:=v) rfl;rwa[add_zero']at this
end
theorem St.del{F0:Nat->Prop}{w0 w:World}:∀(n:Nat) {l:List HA},St F0 w0 w l->St F0 w0 w (l.eraseIdx n):=by
 intro n l h;rw[List.eraseIdx_eq_take_drop_succ];rcases Nat.lt_or_ge n l.length with hn|hn
 ·have h1:St F0 w0 w (l.take n++l[n]::l.drop (n+1)):=by rw[<-List.drop_eq_getElem_cons hn,List.take_append_drop];exact h
  exact(h1.perm List.perm_middle).drop
 ·rw[List.take_of_length_le hn,List.drop_eq_nil_of_le (by omega),List.append_nil];exact h
theorem aQ.get{w:World}{n0 n:Nat}{s:Sl}{vs:LV}{i:Nat}{c:CS}{p:dM c}{k:dM c->Pr}(h1:aQ w n0 n s vs)(hi:vs[i]? =some (cu c p))(hk:k p w):∃ad,s.a=some ad/\cM c (ad.add i) k w:=by
 rcases h1.row with⟨_,h2,_⟩|⟨b,off,spare,h2,_,_,_,h5,_⟩
 ·have:=h1.len;rw[h2]at this;simp at this;subst this;simp at hi
 ·refine⟨_,h2,eA (h5 i _ ?_) hk⟩
  rw[List.getElem?_append_left (aC hi).2];exact hi
theorem Bk{w:World}{n0:Nat}{s:Sl}{vs:LV}{i:Nat}{c:CS}{p:dM c}{k:dM c->Pr}(h1:aQ w n0 1 s vs)(hi:vs[i]? =some (cu c p))(hk:k p w):(deref s.a λa=>cM c (a.add (i*1)) k) w:=by
 obtain⟨ad,ha,Ic⟩:=h1.get hi hk;rw[ha,ah,Nat.mul_one];exact Ic
def lV:List HA->Nat->Option HA
 |[],_=>none
 |A::_,0=>some A
 |_::l,n+1=>lV l n
def zL(l:List HA):List Nat->List HA
 |[]=>[]
 |
  i::ix=>
  match lV l i with
  |some A=>A::zL l ix
  |none=>zL l ix
theorem Has.fn:∀{l:List HA} {w:World} {F:Nat->Prop},Has l w F->∃f:Nat->Nat->Prop,(∀i A,lV l i=some A->A.is w (f i))/\(∀i j b,i≠j->f i b->¬f j b)/\∀i b,f i b->F b
 |[],_,_,_=>⟨λ_ _=>False,λ_ _ h=>by simp[lV]at h,λ_ _ _ _ h=>h.elim,λ_ _ h=>h.elim⟩
 |
  A::l,w,F,⟨G,H,h1,h2,h3,h4⟩=>by
  obtain⟨f,f1,f2,f3⟩:=Has.fn h2;refine⟨λi=>match i with|0=>G|i+1=>f i,?_,?_,?_⟩
  ·intro i B hB
   cases i with
   |zero=>simp only[lV,jg]at hB;subst hB;exact h1
   |succ i=>exact f1 i B hB
  ·intro i j b hij hi hj
   cases i with
   |
    zero=>
    cases j with
    |zero=>exact hij rfl
    |succ j=>exact h3 b hi (f3 j b hj)
   |
    succ i=>
    cases j with
    |zero=>exact h3 b hj (f3 i b hi)
    |succ j=>exact f2 i j b (by omega) hi hj
  ·intro i b hb
   cases i with
   |zero=>exact(h4 b).2 (.inl hb)
   |succ i=>exact(h4 b).2 (.inr (f3 i b hb))
theorem Has.zL{l:List HA}{w:World}{f:Nat->Nat->Prop}(f1:∀i A,lV l i=some A->A.is w (f i))(f2:∀i j b,i≠j->f i b->¬f j b):
 ∀{ix:List Nat},ix.Nodup->Has (Eng.zL l ix) w λb=>∃i∈ix,(lV l i).isSome=true/\f i b
 |[],_=>λb ⟨i,h,_⟩=>by cases h
 |
  i::ix,hn=>by
  rw[List.nodup_cons]at hn;have ih:=Has.zL f1 f2 (ix:=ix) hn.2;unfold Eng.zL;split
  ·rename_i A hA
   refine⟨f i,_,f1 i A hA,ih,?_,?_⟩
   ·rintro b hb ⟨j,hj,_,hjb⟩
    exact f2 i j b (λh=>hn.1 (h▸hj)) hb hjb
   ·intro b
    constructor
    ·rintro⟨j,hj,h1,h2⟩
     rcases List.mem_cons.1 hj with rfl|hj
     ·exact .inl h2
     ·exact .inr ⟨j,hj,h1,h2⟩
    ·rintro(h|⟨j,hj,h1,h2⟩)
     ·exact⟨i,by simp,by rw[hA];rfl,h⟩
     ·exact⟨j,by simp[hj],h1,h2⟩
  ·rename_i hA
   have:(λb=>∃j∈i::ix,(lV l j).isSome=true/\f j b)=λb=>∃j∈ix,(lV l j).isSome=true/\f j b:=JB λb=>by
    constructor
    ·rintro⟨j,hj,h1,h2⟩
     rcases List.mem_cons.1 hj with rfl|hj
     ·rw[hA]at h1;cases h1
     ·exact⟨j,hj,h1,h2⟩
    ·rintro⟨j,hj,h1,h2⟩
     exact⟨j,by simp[hj],h1,h2⟩
   rw[this];exact ih
theorem St.bp{F0:Nat->Prop}{w0 w:World}{l:List HA}(ix:List Nat)(n:Nat)(h:St F0 w0 w l)(hn:ix.Nodup:=by decide):St F0 w0 w (zL (l.take n) ix++l.drop n):=by
 obtain⟨h1,F,h2,h3⟩:=h;rw[<-List.take_append_drop n l]at h2;obtain⟨G,H,h4,h5,h6,h7⟩:=Has.append.1 h2;obtain⟨f,f1,f2,f3⟩:=h4.fn;refine⟨h1,_,Has.append.2 ⟨_,H,Has.zL f1 f2 hn,h5,?_,λb=>Iff.rfl⟩,?_⟩
 ·rintro b ⟨i,_,_,hb⟩ hb'
  exact h6 b (f3 i b hb) hb'
 ·rintro b (⟨i,_,_,hb⟩|hb)
  ·exact h3 b ((h7 b).2 (.inl (f3 i b hb)))
  ·exact h3 b ((h7 b).2 (.inr hb))
theorem xu(v:Value)(n:Nat):zc [v] n=List.replicate n v:=by
 unfold zc
 induction n with
 |zero=>rfl
 |succ n ih=>rw[List.replicate_succ,List.flatten_cons,ih,List.replicate_succ];rfl
theorem St.yD{F0:Nat->Prop}{w0 w:World}{l:List HA}{E b k:Nat}{z:LV}{n:Nat}{f:Sl->Pr}(h:St F0 w0 w l)(hz:z.length=k)(hb:b*n<=2^48)(hn:n<=2^48)
 (hk:∀r w',St F0 w0 w' (az k r (zc z n)::l)->r.len=n->f r w'):Eng.yD E b z (n:Int) (n:Int) f w:=by
 refine⟨by omega,by omega,by exact_mod_cast hb,by omega,?_⟩;simp only[jl];refine hk _ _ (h.mS ((Mod.refl _ w).alloc _) ⟨by rw[eo,hz],by simp,.inr ⟨w.heap.size,0,[],rfl,Nat.le_refl _,by simp,λo _ _=>World.frozen?_alloc_new w _ _ o,?_,by rw[List.append_nil,eo,hz]⟩⟩) rfl;intro j v hj;rw[gd,Nat.zero_add,World.cell?_alloc_new];simpa using hj
theorem EI{F0:Nat->Prop}{w0 w:World}{l:List HA}{s:Sl}{vs:LV}{i:Nat}{v:Value}{k:Pr}(h:St F0 w0 w (az 1 s vs::l))(hi:i<vs.length)(hv:aE v)
 (hk:∀w',St F0 w0 w' (az 1 s (vs.set i v)::l)->k w'):(deref s.a λa=>Eng.st (a.add (i*1)) v k) w:=by
 obtain⟨ad,ha,hst⟩:=h.put hi hv hk;rw[ha,ah,Nat.mul_one];exact hst
theorem St.yT{F0:Nat->Prop}{w0 w:World}{l:List HA}{E b k:Nat}{z:LV}{N:Int}{f:Sl->Pr}(n:Nat)(h:St F0 w0 w l)(hN:N=(n:Int))(hz:z.length=k)(hb:b*n<=2^48)(hn:n<=2^48)
 (hk:∀r w',St F0 w0 w' (az k r (zc z n)::l)->r.len=n->f r w'):Eng.yD E b z N N f w:=by
 subst hN;exact h.yD hz hb hn hk
structure KT(K:Type)[DecidableEq K]where
 kd:TypeDesc
 enc:K->Value
 same:∀a b,Instr.sameNow kd (enc a) (enc b)=some (decide (a=b))
 bits:∀a,Instr.sameBits 10000 (enc a) (enc a)=true
def ec:KT Int where
 kd:=.int .i64
 enc:=.int .i64
 same a b:=by
  simp only[Instr.sameNow,if_true,jg];rw[Bool.eq_iff_iff];simp
 bits a:=by simp[Instr.sameBits]
section
variable{K:Type}[DecidableEq K](T:KT K)
structure vN(es:Array MapEntry)(clock:Nat)(kv:List (K×Value)):Prop where
 born:∀e∈es.toList,e.born<clock
 mR:(es.toList.map (·.born)).Nodup
 kvs:es.toList.map (λe=>(e.key,e.val))=kv.map λx=>(T.enc x.1,x.2)
def gz(m:Nat)(kv:List (K×Value)):HA:=KQ λi:Array MapEntry×Nat=>[pA (vN T i.1 i.2 kv),cm m (.map i.1 i.2)]
def mB(k:K):List (K×Value)->Option Value
 |[]=>none
 |x::l=>if k=x.1 then some x.2 else mB k l
variable{T}
theorem tC(k:K):∀(es:List MapEntry) (kv:List (K×Value)) (i:Nat),es.map (λe=>(e.key,e.val))=kv.map (λx=>(T.enc x.1,x.2))->
 (k∉kv.map (·.1)/\mB k kv=none/\Instr.findNow T.kd (T.enc k) es i=some none)\/
 ∃j v,kv[j]? =some (k,v)/\(∀l x,l<j->kv[l]? =some x->x.1≠k)/\mB k kv=some v/\Instr.findNow T.kd (T.enc k) es i=some (some (i+j,v))
 |
  [],kv,i,h=>by
  have:kv=[]:=by
   have:=congrArg List.length h;simp at this;exact jy this.symm
  subst this;exact .inl ⟨by simp,rfl,rfl⟩
 |e::es,[],i,h=>by simp at h
 |
  e::es,x::kv,i,h=>by
  simp only[List.map_cons,List.cons.injEq,Prod.mk.injEq]at h;unfold Instr.findNow;rw[h.1.1,T.same];by_cases hk:k=x.1
  ·subst hk
   refine .inr ⟨0,x.2,rfl,λl _ hl=>by omega,by simp[mB],?_⟩;simp only[decide_true,Nat.add_zero];rw[h.1.2]
  ·rw[decide_eq_false hk]
   rcases tC k es kv (i+1) h.2 with⟨h1,h2,h3⟩|⟨j,v,h1,h2,h3,h4⟩
   ·exact .inl ⟨by simp[hk];simpa using h1,by simp[mB,hk,h2],h3⟩
   ·refine .inr ⟨j+1,v,by simpa using h1,λl y hl hy=>?_,by simp[mB,hk,h3],by dsimp only;rw[h4];congr 3;omega⟩
    cases l with
    |zero=>simp only[List.getElem?_cons_zero,jg]at hy;subst hy;exact λh=>hk h.symm
    |succ l=>exact h2 l y (by omega) (by simpa using hy)
variable{F0:Nat->Prop}{w0 w:World}{L:List HA}{m:Nat}{kv:List (K×Value)}
theorem St.p8(h:St F0 w0 w (gz T m kv::L)):∃es clock,vN T es clock kv/\St F0 w0 w (cm m (.map es clock)::L):=by
 obtain⟨i,h⟩:=h.ex;obtain⟨h1,h⟩:=h.p;exact⟨i.1,i.2,h1,h⟩
theorem St.kW{es:Array MapEntry}{clock:Nat}(h:St F0 w0 w (cm m (.map es clock)::L))(he:vN T es clock kv):St F0 w0 w (gz T m kv::L):=
 St.vD (es,clock) (h.KR he)
theorem St.Ci{f:Nat->Pr}(h:St F0 w0 w L)(hk:∀m w',St F0 w0 w' (gz T m []::L)->f m w'):Eng.nw (.map #[] 0) f w:=by
 rw[tQ];exact hk _ _ ((h.rN (Obj.map #[] 0)).kW ⟨by simp,by simp,rfl⟩)
theorem JC{es:Array MapEntry}{clock:Nat}(he:vN T es clock kv)(hm:w.heap[m]? =some (.map es clock)){k:K}{sh:CS}{zero:Value}{f:dM sh->Bool->Pr}
 (h1:∀v,mB k kv=some v->∃p,v=cu sh p/\f p true w)(h2:mB k kv=none->∃p,zero=cu sh p/\f p false w):gS T.kd (some m) (T.enc k) sh zero f w:=by
 rcases tC k es.toList kv 0 he.kvs with⟨_,g2,g3⟩|⟨j,v,_,_,g3,g4⟩
 ·obtain⟨p,hp,hf⟩:=h2 g2
  exact⟨es,none,p,⟨clock,hm⟩,g3,hp,hf⟩
 ·obtain⟨p,hp,hf⟩:=h1 v g3
  exact⟨es,some (0+j,v),p,⟨clock,hm⟩,g4,hp,hf⟩
theorem St.gS(h:St F0 w0 w (gz T m kv::L)){k:K}{sh:CS}{zero:Value}{f:dM sh->Bool->Pr}
 (h1:∀v,mB k kv=some v->∃p,v=cu sh p/\f p true w)(h2:mB k kv=none->∃p,zero=cu sh p/\f p false w):Eng.gS T.kd (some m) (T.enc k) sh zero f w:=by
 obtain⟨es,clock,he,h⟩:=h.p8;exact JC he h.obj h1 h2
theorem vN.len{es:Array MapEntry}{clock:Nat}(he:vN T es clock kv):es.size=kv.length:=by
 have:=congrArg List.length he.kvs;simpa using this
theorem St.mX(h:St F0 w0 w (gz T m kv::L)){f:Int->Pr}(h1:f kv.length w):Eng.mX (some m) f w:=by
 obtain⟨es,clock,he,h⟩:=h.p8;exact⟨es,⟨clock,h.obj⟩,by rw[he.len];exact h1⟩
theorem dS{α β:Type}(f:α->β)(l:List α)(j:Nat):(l.eraseIdx j).map f=(l.map f).eraseIdx j:=by
 rw[List.eraseIdx_eq_take_drop_succ,List.eraseIdx_eq_take_drop_succ,jk,List.map_take,List.map_drop]
theorem St.qQ(h:St F0 w0 w (gz T m kv::L)){k:K}{f:Pr}(h1:∀j v w',kv[j]? =some (k,v)->(∀l x,l<j->kv[l]? =some x->x.1≠k)->St F0 w0 w' (gz T m (kv.eraseIdx j)::L)->f w')
 (h2:k∉kv.map (·.1)->∀w',St F0 w0 w' (gz T m kv::L)->f w'):Eng.qQ T.kd (some m) (T.enc k) f w:=by
 obtain⟨es,clock,he,h⟩:=h.p8;rcases tC k es.toList kv 0 he.kvs with⟨g1,_,g3⟩|⟨j,v,g1,g2,_,g4⟩
 ·exact⟨m,es,clock,none,rfl,h.obj,g3,h2 g1 _ ((h.putObj (.map es clock)).kW he)⟩
 ·refine⟨m,es,clock,some (0+j,v),rfl,h.obj,g4,h1 j v _ g1 g2 ((h.putObj (.map (es.eraseIdxIfInBounds (0+j)) clock)).kW ?_)⟩
  have hl:(es.eraseIdxIfInBounds (0+j)).toList=es.toList.eraseIdx j:=by rw[Nat.zero_add,Array.toList_eraseIdxIfInBounds]
  refine⟨λe he'=>?_,?_,?_⟩
  ·rw[hl]at he'
   exact he.born e (List.mem_of_mem_eraseIdx he')
  ·rw[hl,dS]
   exact he.mR.sublist (List.eraseIdx_sublist _ _)
  ·rw[hl,dS,he.kvs,dS]
theorem St.iY(h:St F0 w0 w (gz T m kv::L)){k:K}{v:Value}{f:Pr}(h1:∀j u w',kv[j]? =some (k,u)->(∀l x,l<j->kv[l]? =some x->x.1≠k)->St F0 w0 w' (gz T m (kv.set j (k,v))::L)->f w')
 (h2:k∉kv.map (·.1)->∀w',St F0 w0 w' (gz T m (kv++[(k,v)])::L)->f w'):Eng.iY T.kd (some m) (T.enc k) v f w:=by
 obtain⟨es,clock,he,h⟩:=h.p8;rcases tC k es.toList kv 0 he.kvs with⟨g1,_,g3⟩|⟨j,u,g1,g2,_,g4⟩
 ·refine⟨m,es,clock,none,rfl,h.obj,g3,h2 g1 _ ((h.putObj (.map (es.push {key:=T.enc k,val:=v,born:=clock}) (clock+1))).kW ⟨?_,?_,?_⟩)⟩
  ·intro e he'
   rw[Array.toList_push]at he';rcases jz.1 he' with h'|h'
   ·have:=he.born e h';omega
   ·rw[jq]at h';subst h';exact Nat.lt_succ_self _
  ·rw[Array.toList_push,jk,List.nodup_append]
   refine⟨he.mR,by simp,λa ha b hb=>?_⟩;obtain⟨e,he',rfl⟩:=ki.1 ha;have:=he.born e he';simp at hb;omega
  ·rw[Array.toList_push,jk,he.kvs,jk];rfl
 ·have hjl:j<es.toList.length:=by
   have h1:=congrArg List.length he.kvs;have h2:=(aC g1).2;simp at h1 h2⊢;omega
  have hej:es[0+j]? =some es.toList[j]:=by rw[Nat.zero_add];simp at hjl⊢
  have hkj:es.toList[j].key=T.enc k:=by
   have h3:=congrArg (·[j]?) he.kvs;simp only[jf,g1,Option.map_some,jo hjl,jg,Prod.mk.injEq]at h3;exact h3.1
  refine⟨m,es,clock,some (0+j,u),rfl,h.obj,g4,?_,h1 j u _ g1 g2 ((h.putObj (.map (es.modify (0+j) λe=>{e with key:=T.enc k,val:=v}) clock)).kW ?_)⟩
  ·rw[hej]
   simp only[Option.map_some,Option.getD_some,hkj];exact T.bits k
  ·have hl:∀{β:Type} (f:MapEntry->β) (b:β),f {es.toList[j]with key:=T.enc k,val:=v}=b->(es.modify (0+j) λe=>{e with key:=T.enc k,val:=v}).toList.map f=(es.toList.map f).set j b:=by
    intro β f b hb;refine List.ext_getElem? λi=>?_;rw[Nat.zero_add,List.getElem?_set,jf,Array.getElem?_toList,Array.getElem?_modify];by_cases hij:j=i
    ·subst hij
     rw[jd rfl,jd rfl,jd (by simpa using hjl)];have:es[j]? =some es.toList[j]:=by simp
     rw[this];simp only[Option.map_some,jg];exact hb
    ·rw[jc hij,jc hij,jf,Array.getElem?_toList]
   refine⟨λe he'=>?_,?_,?_⟩
   ·have h4:e.born∈((es.modify (0+j) λe=>{e with key:=T.enc k,val:=v}).toList.map (·.born)):=ki.2 ⟨e,he',rfl⟩
    rw[hl (·.born) es.toList[j].born rfl]at h4;rcases List.mem_or_eq_of_mem_set h4 with h5|h5
    ·obtain⟨e2,h6,h7⟩:=ki.1 h5
     have:=he.born e2 h6;omega
    ·have:=he.born _ (List.getElem_mem hjl);omega
   ·rw[hl (·.born) es.toList[j].born rfl]
    have:(es.toList.map (·.born)).set j es.toList[j].born=es.toList.map (·.born):=by
     refine List.ext_getElem? λi=>?_;rw[List.getElem?_set];by_cases hij:j=i
     ·subst hij
      rw[jd rfl,jd (by simpa using hjl),jf,jo hjl];rfl
     ·rw[jc hij]
    rw[this];exact he.mR
   ·rw[hl (λe=>(e.key,e.val)) (T.enc k,v) rfl,he.kvs,List.map_set]
def nv(es:Array MapEntry)(done:List Nat):List Nat:=done.map λj=>((es[j]?).map (·.born)).getD 0
variable(T)in
def kI(m it:Nat)(kv:List (K×Value))(done:List Nat):HA:=
 KQ λi:Array MapEntry×Nat×Array Nat=>[pA (vN T i.1 i.2.1 kv/\i.2.2.toList=nv i.1 done/\(∀j∈done,j<kv.length)/\done.Nodup),cm m (.map i.1 i.2.1),cm it (.mapIter (some m) i.2.1 i.2.2 i.2.1)]
def oL(it:Nat)(w:World):Nat:=
 match w.heap[it]?with
 |some (.mapIter _ _ seen _)=>seen.size
 |_=>0
theorem St.qX{it:Nat}{done:List Nat}(h:St F0 w0 w (kI T m it kv done::L)):
 ∃es clock seen,vN T es clock kv/\seen.toList=nv es done/\(∀j∈done,j<kv.length)/\done.Nodup/\St F0 w0 w (cm m (.map es clock)::cm it (.mapIter (some m) clock seen clock)::L):=by
 obtain⟨i,h⟩:=h.ex;obtain⟨⟨h1,h2,h3,h4⟩,h⟩:=h.p;exact⟨_,_,_,h1,h2,h3,h4,h⟩
theorem St.oL{it:Nat}{done:List Nat}(h:St F0 w0 w (kI T m it kv done::L)):Eng.oL it w=done.length:=by
 obtain⟨es,clock,seen,_,h2,_,_,h⟩:=h.qX;unfold Eng.oL;rw[(h.aq 1).obj];have:=congrArg List.length h2;simpa[nv]using this
theorem St.Np{it:Nat}{done:List Nat}(h:St F0 w0 w (kI T m it kv done::L)):St F0 w0 w (gz T m kv::L):=by
 obtain⟨es,clock,seen,h1,h2,_,_,h⟩:=h.qX;exact(h.del 1).kW h1
theorem St.nq(h:St F0 w0 w (gz T m kv::L)){k:Nat->Pr}(hk:∀it w',St F0 w0 w' (kI T m it kv []::L)->k it w'):Eng.nq (some m) k w:=by
 obtain⟨es,clock,he,h⟩:=h.p8;refine⟨es,clock,h.obj,hk _ _ ?_⟩;have h2:=h.rN (.mapIter (some m) clock #[] clock);exact St.vD (f:=λi:Array MapEntry×Nat×Array Nat=>[pA (vN T i.1 i.2.1 kv/\i.2.2.toList=nv i.1 []/\(∀j∈([]:List Nat),j<kv.length)/\([]:List Nat).Nodup),cm m (.map i.1 i.2.1),cm _ (.mapIter (some m) i.2.1 i.2.2 i.2.1)]) (es,clock,#[]) ((h2.aq 1).KR ⟨he,rfl,by simp,by simp⟩)
theorem zM{es:Array MapEntry}{clock:Nat}(he:vN T es clock kv){done:List Nat}(hd:∀j∈done,j<kv.length){i:Nat}(hi:i<kv.length){e:MapEntry}(KX:es.toList[i]? =some e):e.born∈nv es done↔i∈done:=by
 have hsz:=he.len;unfold nv;rw[ki];constructor
 ·rintro⟨j,hj,hb⟩
  have hjl:=hd j hj;have aaj:j<es.size:=by omega
  have hj2:es[j]? =some es[j]:=by simp
  rw[hj2]at hb;simp only[Option.map_some,Option.getD_some]at hb;have h1:(es.toList.map (·.born))[j]? =some e.born:=by rw[jf,Array.getElem?_toList,hj2];simp[hb]
  have h2:(es.toList.map (·.born))[i]? =some e.born:=by rw[jf,KX];rfl
  have:=(List.getElem?_inj (by simpa using(show j<es.size by omega)) he.mR).1 (h1.trans h2.symm);subst this;exact hj
 ·intro h
  refine⟨i,h,?_⟩;have:es[i]? =some e:=by rw[<-Array.getElem?_toList];exact KX
  rw[this];rfl
theorem Ck:∀{n:Nat} {l:List Nat},l.Nodup->(∀j∈l,j<n)->(∀j,j<n->j∈l)->l.Perm (List.range n):=by
 intro n l h1 h2 h3;refine(List.perm_ext_iff_of_nodup h1 List.nodup_range).2 λj=>?_;rw[List.mem_range];exact⟨h2 j,h3 j⟩
theorem St.uF{it:Nat}{done:List Nat}{k0:Pr}{k1:MapEntry->Pr}(h:St F0 w0 w (kI T m it kv done::L))(h0:done.Perm (List.range kv.length)->∀w',St F0 w0 w' (kI T m it kv done::L)->k0 w')
 (h1:∀i en w',i<kv.length->i∉done->St F0 w0 w' (kI T m it kv (done++[i])::L)->k1 en w'):Eng.uF ⟨it,0,none⟩ k0 k1 w:=by
 obtain⟨es,clock,seen,he,hs,hd,hn,st⟩:=h.qX;have hsz:=he.len;refine⟨rfl,.inr ⟨m,clock,seen,clock,es,clock,(st.aq 1).obj,st.obj,?_,λw1 hw1=>?_⟩⟩
 ·cases K8:es.toList with
  |
   nil=>
   have:es= #[]:=by apply Array.ext';simpa using K8
   simp[this]
  |
   cons e l=>
   have h1:=he.born e (by rw[K8];simp);have:es.all (λx=>decide (x.born>=clock))=false:=by
    rw[<-Array.all_toList,K8,List.all_cons,decide_eq_false (by omega),Bool.false_and]
   rw[this,Bool.and_false]
 have Y0:St F0 w0 w1 (cm m (.map es clock)::cm it (.mapIter (some m) clock seen clock)::L):=by rcases hw1 with rfl|rfl;exact st;exact st.drew
 refine⟨λhall=>h0 ?_ w1 ?_,λe K8 KM=>?_⟩
 ·refine Ck hn hd λj hj=>?_
  have aaj:j<es.toList.length:=by rw[Array.length_toList];omega
  have hj2:es.toList[j]? =some es.toList[j]:=by simp
  refine(zM he hd hj hj2).1 ?_;have:=hall es.toList[j] (by simp) (he.born _ (by simp));rw[<-hs,Array.mem_toList_iff,<-Array.contains_iff_mem];exact this
 ·exact St.vD (es,clock,seen) (Y0.KR ⟨he,hs,hd,hn⟩)
 ·obtain⟨i,hi,KX⟩:=List.getElem_of_mem K8
  have Tf:es.toList[i]? =some e:=by rw[jo hi,KX]
  have hil:i<kv.length:=by simpa[hsz]using hi
  have hnd:i∉done:=λhc=>by
   have h3:=(zM he hd hil Tf).2 hc;rw[<-hs,Array.mem_toList_iff,<-Array.contains_iff_mem,KM]at h3;cases h3
  refine h1 i e _ hil hnd ?_;have ZJ:=((Y0.aq 1).putObj (.mapIter (some m) clock (seen.push e.born) clock)).aq 1;refine St.vD (es,clock,seen.push e.born) (ZJ.KR ⟨he,?_,?_,?_⟩)
  ·rw[Array.toList_push,hs]
   unfold nv;rw[jk];have:es[i]? =some e:=by rw[<-Array.getElem?_toList];exact Tf
   simp[this]
  ·intro j hj
   rcases jz.1 hj with h4|h4
   ·exact hd j h4
   ·rw[jq]at h4;subst h4;exact hil
  ·rw[List.nodup_append]
   refine⟨hn,by simp,λa ha b hb=>?_⟩;rw[jq]at hb;subst hb;exact λh=>hnd (h▸ha)
theorem St.oH{it:Nat}{done:List Nat}{i:Nat}{k:MapEntry->Pr}(h:St F0 w0 w (kI T m it kv (done++[i])::L))(hk:∀en x,kv[i]? =some x->en.key=T.enc x.1->en.val=x.2->k en w):Eng.oH ⟨it,0,none⟩ k w:=by
 obtain⟨es,clock,seen,he,hs,hd,hn,st⟩:=h.qX;have hsz:=he.len;have hil:i<kv.length:=hd i (by simp);have acy:i<es.toList.length:=by rw[Array.length_toList];omega
 have KX:es.toList[i]? =some es.toList[i]:=by simp
 have hee:es[i]? =some es.toList[i]:=by rw[<-Array.getElem?_toList];exact KX
 have hkv:kv[i]? =some kv[i]:=by simp
 have OX:=congrArg (·[i]?) he.kvs;simp only[jf,hkv,KX,Option.map_some,jg,Prod.mk.injEq]at OX;refine⟨rfl,m,clock,seen,clock,es,clock,es.toList[i].born,es.toList[i],(st.aq 1).obj,?_,st.obj,rfl,?_,hk _ _ hkv OX.1 OX.2⟩
 ·have:seen.back? =seen.toList.getLast? :=by simp
  rw[this,hs];unfold nv;rw[jk];simp[hee]
 ·rw[<-Array.find?_toList]
  refine wJ (List.getElem_mem _) (by simp) λx hx hb=>?_;obtain⟨j,hj,hjx⟩:=List.getElem_of_mem hx;have h1:(es.toList.map (·.born))[j]? =some es.toList[i].born:=by
   rw[jf,jo hj,hjx];simp at hb;simp[hb]
  have h2:(es.toList.map (·.born))[i]? =some es.toList[i].born:=by rw[jf,KX];rfl
  have:=(List.getElem?_inj (by simpa using hj) he.mR).1 (h1.trans h2.symm);subst this;rw[<-hjx]
where
 wJ {α:Type} {p:α->Bool} {e:α}:∀{l:List α},e∈l->p e=true->(∀x∈l,p x=true->x=e)->l.find? p=some e
  |[],h,_,_=>by cases h
  |
   x::l,h,hp,hu=>by
   rw[List.find?_cons];cases hx:p x with
   |true=>simp[hu x (by simp) hx]
   |
    false=>
    rcases List.mem_cons.1 h with rfl|h
    ·rw[hp]at hx;cases hx
    ·exact wJ h hp λy hy=>hu y (by simp[hy])
end
theorem mO(n:Int):IntKind.wrap .u8 n=n%256:=by
 unfold IntKind.wrap;simp only[IntKind.signed,IntKind.bits];rfl
theorem fc(n:Int):IntKind.wrap .u32 n=n%4294967296:=by
 unfold IntKind.wrap;simp only[IntKind.signed,IntKind.bits];rfl
theorem iQ(n:Int):IntKind.wrap .u64 n=n%18446744073709551616:=by
 unfold IntKind.wrap;simp only[IntKind.signed,IntKind.bits];rfl
theorem iV(k:IntKind)(x y:Nat):dJ k (x:Int) (y:Int)=((x/2^(min y k.bits):Nat):Int):=by
 unfold dJ;rw[jl,show((2:Int)^min y k.bits)=((2^min y k.bits:Nat):Int) by simp,Int.ofNat_fdiv]
theorem dQ(b:Nat)(x:Nat):(BitVec.ofInt b (x:Int)).toNat=x%2^b:=by
 rw[BitVec.ofInt_natCast,BitVec.toNat_ofNat]
theorem xk{x y:Nat}(hx:x<2^64)(hy:y<2^64):AF .u64 (x:Int) (y:Int)=((x|||y:Nat):Int):=by
 unfold AF;rw[iQ,BitVec.toNat_or];simp only[IntKind.bits,dQ];rw[Nat.mod_eq_of_lt hx,Nat.mod_eq_of_lt hy];have:=Nat.or_lt_two_pow hx hy;omega
theorem oW{x y:Nat}(hx:x<2^32)(hy:y<2^32):sR .u32 (x:Int) (y:Int)=((x^^^y:Nat):Int):=by
 unfold sR;rw[fc,BitVec.toNat_xor];simp only[IntKind.bits,dQ];rw[Nat.mod_eq_of_lt hx,Nat.mod_eq_of_lt hy];have:=Nat.xor_lt_two_pow hx hy;omega
theorem yF{x y:Nat}(hx:x<2^32)(hy:y<2^32):gP .u32 (x:Int) (y:Int)=((x&&&y:Nat):Int):=by
 unfold gP;rw[fc,BitVec.toNat_and];simp only[IntKind.bits,dQ];rw[Nat.mod_eq_of_lt hx,Nat.mod_eq_of_lt hy];have:x&&&y<=x:=Nat.and_le_left;omega
theorem K3{x y:Nat}(hx:x<256)(hy:y<256):gP .u8 (x:Int) (y:Int)=((x&&&y:Nat):Int):=by
 unfold gP;rw[mO,BitVec.toNat_and];simp only[IntKind.bits,dQ];rw[Nat.mod_eq_of_lt (show x<2^8 from hx),Nat.mod_eq_of_lt (show y<2^8 from hy)];have:x&&&y<=x:=Nat.and_le_left;omega
theorem tL{x y:Nat}(hy:y<=64)(h:x*2^y<2^64):iW .u64 (x:Int) (y:Int)=((x*2^y:Nat):Int):=by
 unfold iW;rw[jl,iQ];simp only[IntKind.bits];rw[Nat.min_eq_left hy];have:((x:Int)*2^y)=((x*2^y:Nat):Int):=by simp
 rw[this];omega
theorem qx{x y i:Nat}(h:x<2^i):x|||(y*2^i)=x+y*2^i:=by
 have:=Nat.two_pow_add_eq_or_of_lt h y;rw[Nat.or_comm,Nat.mul_comm,<-this,Nat.add_comm]
theorem iX(n:Nat):ub (UInt8.ofNat n)=.int .u8 ((n%256:Nat):Int):=by
 unfold ub;simp
theorem and_1(n:Nat):n&&&1=n%2:=Nat.and_two_pow_sub_one_eq_mod n 1
structure MS{α:Type}(g:α->Value)(w:World)(s:Sl)(l:List α):Prop where
 len:s.len=l.length
 row:cj w s.a (l.map g)
section
variable{α:Type}{g:α->Value}{w w':World}{s:Sl}{l:List α}
theorem MS.grow(h:MS g w s l)(hm:Grow w w'):MS g w' s l:=⟨h.len,h.row.grow hm⟩
theorem MS.mod{S:Nat->Prop}(h:MS g w s l)(hm:Mod S w w')(hs:∀ad,s.a=some ad->l≠[]->¬S ad.block):MS g w' s l:=
 ⟨h.len,h.row.mod hm λad ha hl=>hs ad ha λh0=>by subst h0;simp at hl⟩
theorem MS.nil(g:α->Value)(w:World)(c:Nat):MS g w ⟨none,0,c⟩ []:=⟨rfl,rfl⟩
theorem MS.cQ(h:MS g w s l)(ha:s.a=none):s.len=0:=by
 have h2:=h.row;rw[ha]at h2;have:l.map g=[]:=h2;simp at this;rw[h.len,this];rfl
theorem MS.at{c:CS}{p:dM c}(h:MS g w s l){i:Nat}{k:dM c->Pr}{x:α}(hi:l[i]? =some x)(hx:g x=cu c p)(hk:k p w):(deref s.a λa=>cM c (a.add (i*1)) k) w:=by
 have h1:=h.row;cases ha:s.a with
 |none=>rw[ha]at h1;have:l.map g=[]:=h1;simp at this;subst this;simp at hi
 |
  some ad=>
  rw[ha]at h1;rw[ah,Nat.mul_one];exact eA ((ay.1 h1).get (by simp[hi,hx])) hk
theorem aQ.ms{n0:Nat}(h:aQ w n0 1 s (l.map g)):MS g w s l:=⟨by have:=h.len;simp at this;exact this.symm,h.reads⟩
theorem BS.ms{l:LB}(h:BS w s l):MS ub w s l:=⟨h.len,h.row⟩
theorem MS.bs{l:LB}(h:MS ub w s l):BS w s l:=⟨h.len,h.row⟩
theorem MS.sub(h:MS g w s l){o n:Nat}(ho:o+n<=l.length){a:OA}{c:Nat}(ha:a=s.a.map (·.add (o*1))\/n=0)(hz:n=0->a=none\/a.isSome):MS g w ⟨a,n,c⟩ ((l.drop o).take n):=by
 refine⟨by simp;omega,?_⟩;rcases Nat.eq_zero_or_pos n with h0|h0
 ·subst h0
  simp only[List.take_zero,List.map_nil];cases a with
  |none=>rfl
  |some _=>trivial
 ·have ha:=ha.resolve_right (by omega)
  have h1:=h.row;cases hs:s.a with
  |none=>rw[hs]at h1;have:l.map g=[]:=h1;simp at this;subst this;simp at ho;omega
  |
   some ad=>
   rw[hs]at h1 ha;rw[ha];refine ay.2 λj v hj=>?_;have h2:=ay.1 h1 (o+j) v ?_
   ·rw[Nat.mul_one];rw[add_add];exact h2
   ·rw[jf]at hj⊢
    rw[List.getElem?_take,List.getElem?_drop]at hj;split at hj
    ·exact hj
    ·simp at hj
end
theorem bS{w:World}{n0:Nat}{s:Sl}{vs:LV}(h:aQ w n0 1 s vs):s.len=vs.length:=by have:=h.len;omega
theorem St.sl0{F0:Nat->Prop}{w0 w:World}{L:List HA}{b n:Nat}(h:St F0 w0 w (ag b []::L)):St F0 w0 w (az n ⟨some ⟨b,0,none⟩,0,0⟩ []::L):=by
 refine St.zK [ag b []] h λF hF=>?_;have h1:=hF.one;refine⟨⟨by simp,by simp,.inr ⟨b,0,[],rfl,Nat.zero_le _,h1.1.lt,h1.1.Tc,λj v hj=>by simp at hj,by simp⟩⟩,λc=>?_⟩;rw[h1.2];constructor
 ·rintro rfl;exact⟨_,rfl,rfl⟩
 ·rintro⟨ad,ha,rfl⟩;cases ha;rfl
structure VS(n:Nat)(w:World)(s:Sl)(vs:LV):Prop where
 len:vs.length=s.len*n
 row:cj w s.a vs
theorem VS.grow{n:Nat}{w w':World}{s:Sl}{vs:LV}(h:VS n w s vs)(hm:Grow w w'):VS n w' s vs:=⟨h.len,h.row.grow hm⟩
theorem VS.cQ{n:Nat}{w:World}{s:Sl}{vs:LV}(h:VS n w s vs)(hn:n≠0)(ha:s.a=none):s.len=0:=by
 have h2:=h.row;rw[ha]at h2;have h3:vs=[]:=h2;have h4:=h.len;rw[h3]at h4;exact(Nat.mul_eq_zero.1 h4.symm).resolve_right hn
theorem MS.vs{α:Type}{g:α->Value}{w:World}{s:Sl}{l:List α}(h:MS g w s l):VS 1 w s (l.map g):=⟨by simp[h.len],h.row⟩
theorem aQ.vs{w:World}{n0 n:Nat}{s:Sl}{vs:LV}(h:aQ w n0 n s vs):VS n w s vs:=⟨h.len,h.reads⟩
theorem SS.vs{α:Type}{f:α->LV}{n:Nat}(hf:∀r,(f r).length=n){w:World}{s:Sl}{rs:List α}(h:SS f w s rs):VS n w s (rs.flatMap f):=⟨by rw[c6 hf,h.len],h.row⟩
theorem uR{E n b:Nat}{s:Sl}{z vs:LV}{w:World}{k:Sl->Pr}(h:VS n w s vs)(hna:∀v∈vs,aE v)(hz:z.length=n)(hn:n≠0)(hb:b≠0)(KO:b<=64)(hl:s.len<=1000000000)
 (hk:∀r w',St aM w w' [az n r vs]->k r w'):(b8 True<|br (Option.isNone s.a) (k ⟨none,0,0⟩) (nw (.cells #[] E) λr=>app E n b z ⟨(some ⟨r,0,none⟩),0,0⟩ s k)) w:=by
 refine⟨trivial,ax (λh0=>?_) (λh0=>?_)⟩
 ·have ha:s.a=none:=by simpa using h0
  have h2:=h.row;rw[ha]at h2;have:vs=[]:=h2;subst this;exact hk _ _ ((St.bh w).gh n)
 ·refine St.nw (St.bh w) λr w1 s1 g1 _=>?_
  have h1:=h.grow g1;refine s1.sl0.app (new:=vs) (λ_=>h1.len) (h1.cQ hn) h1.row hna hz hb ?_ λr2 w2 s2 _=>hk r2 w2 s2;have:(2*(0+s.len)+192)*b<=(2*(0+s.len)+192)*64:=Nat.mul_le_mul_left _ KO;dsimp only;omega
theorem jD{j:Nat}(h:j<1000000000000000000):IntKind.wrap .i64 ((j:Int)+1)=((j+1:Nat):Int):=by rw[wrap_i64 (by omega)];rfl
theorem aH{n:Int}(h: -9223372036854775808<=n/\n<=9223372036854775807):aO n=n:=wrap_i64 h
theorem bE{j:Nat}(h:j<1000000000000000000):aO ((j:Int)+1)=((j+1:Nat):Int):=jD h
@[simp]theorem Qm(n:Int):aE (iv n)=True:=rfl
@[simp]theorem Qn(n:Int):aE (uv n)=True:=rfl
section
variable{w w':World}{s:Sl}
theorem BS.at{l:LB}(h:BS w s l){i:Nat}{k:Int->Pr}(hi:i<l.length)(hk:k (l[i].toNat:Int) w):(deref s.a λa=>cM (.int .u8) (a.add (i*1)) k) w:=
 MS.at (c:=.int .u8) (p:=(l[i].toNat:Int)) (x:=l[i]) h.ms (by simp[hi]) rfl hk
theorem xZ{α:Type}{l:List α}{i:Nat}{x:α}(h:l[i]? =some x):i<l.length:=(aC h).2
theorem uS{s:Sl}{ad:Addr}{j n:Nat}{k:Addr->Pr}(ha:s.a=some ad)(hj:j<s.len)(hk:k (ad.add (j*n)) w):el s (j:Int) n k w:=by
 refine⟨⟨by omega,by omega⟩,?_⟩;rw[ha,jl];exact hk
theorem MS.nO{α:Type}{g:α->Value}{l:List α}(h:MS g w s l){c:CS}{p:dM c}{j:Nat}{k:dM c->Pr}{x:α}(hx:l[j]? =some x)(hg:g x=cu c p)(hk:k p w):el s (j:Int) 1 (λa=>cM c a k) w:=by
 have hlt:=xZ hx;have h1:=h.row;cases ha:s.a with
 |none=>rw[ha]at h1;have:l.map g=[]:=h1;simp at this;subst this;simp at hx
 |
  some ad=>
  rw[ha]at h1;refine uS ha (by rw[h.len];exact hlt) ?_;rw[Nat.mul_one];exact eA ((ay.1 h1).get (by simp[hx,hg])) hk
theorem BS.nO{l:LB}(h:BS w s l){j:Nat}{k:Int->Pr}{x:UInt8}(hx:l[j]? =some x)(hk:k (x.toNat:Int) w):el s (j:Int) 1 (λa=>cM (.int .u8) a k) w:=
 MS.nO (c:=.int .u8) (p:=(x.toNat:Int)) h.ms hx rfl hk
theorem SS.nO{α:Type}{f:α->LV}{n:Nat}{rs:List α}(hf:∀r,(f r).length=n)(h:SS f w s rs){j:Nat}{r:α}{cs:List CS}{p:lC cs}{k:lC cs->Pr}(hr:rs[j]? =some r)(hn:n≠0)(hp:f r=gy cs p)(hk:k p w):
 el s (j:Int) n (λa=>aN cs a k) w:=by
 obtain⟨ad,ha,hrow⟩:=h.get hf hr hn;refine uS ha (by rw[h.len];exact xZ hr) ?_;exact fy (ay.2 (hp▸hrow)) hk
end
section
variable{F0:Nat->Prop}{w0 w w':World}{l:List HA}
theorem St.nO{s:Sl}{vs:LV}{j:Nat}{c:CS}{p:dM c}{k:dM c->Pr}(h:St F0 w0 w (az 1 s vs::l))(hi:vs[j]? =some (cu c p))(hk:k p w):el s (j:Int) 1 (λa=>cM c a k) w:=by
 have h1:=h.sl;obtain⟨ad,ha,Ic⟩:=h1.get hi hk;have:=xZ hi;have:=h1.len;refine uS ha (by omega) ?_;rw[Nat.mul_one];exact Ic
theorem St.els{s:Sl}{vs:LV}{j:Nat}{v:Value}{k:Pr}(h:St F0 w0 w (az 1 s vs::l))(hi:j<vs.length)(hv:aE v)(hk:∀w',St F0 w0 w' (az 1 s (vs.set j v)::l)->k w'):el s (j:Int) 1 (λa=>Eng.st a v k) w:=by
 have h1:=h.sl;obtain⟨ad,ha,hst⟩:=h.put hi hv hk;have:=h1.len;refine uS ha (by omega) ?_;rw[Nat.mul_one];exact hst
theorem Cl{b:Nat}{k:Pr}:∀(vs:LV) {us pre:LV} {w:World},us.length=vs.length->(∀v∈vs,aE v)->St F0 w0 w (ag b (pre++us)::l)->(∀w',St F0 w0 w' (ag b (pre++vs)::l)->k w')->ij b pre.length vs k w
 |
  [],us,pre,w,hl,_,h,hk=>by
  have:us=[]:=jy hl;subst this;exact hk w h
 |
  v::vs,us,pre,w,hl,hn,h,hk=>by
  cases us with
  |nil=>simp at hl
  |
   cons u us=>
   show Eng.st (bA b pre.length) v (ij b (pre.length+1) vs k) w;refine h.st (by simp) (hn v (List.mem_cons_self ..)) λw1 h1=>?_;have e:(pre++u::us).set pre.length v=(pre++[v])++us:=by simp
   rw[e]at h1;have:=Cl vs (pre:=pre++[v]) (by simpa using hl) (λx hx=>hn x (List.mem_cons_of_mem _ hx)) h1 λw' h'=>hk w' (by simpa using h');simpa using this
theorem St.eM{T:TypeId}{z vs:LV}{f:Nat->Pr}(h:St F0 w0 w l)(hz:z.length=vs.length)(hn:∀v∈vs,aE v)(hk:∀b w2,St F0 w0 w2 (ag b vs::l)->f b w2):eM T z vs f w:=
 St.nw h λr w1 s1 _ _=>Cl vs (pre:=[]) hz hn s1 λw' h'=>hk r w' h'
end
def jE:List HA->Nat->HA->List HA
 |[],_,_=>[]
 |_::l,0,B=>B::l
 |A::l,n+1,B=>A::jE l n B
theorem qZ:∀{l:List HA} {n:Nat} {A B:HA},lV l n=some A->∃m,l.Perm (A::m)/\(jE l n B).Perm (B::m)
 |[],_,_,_,h=>by simp[lV]at h
 |A::l,0,_,B,h=>by simp only[lV,jg]at h;subst h;exact⟨l,.refl _,.refl _⟩
 |
  A::l,n+1,C,B,h=>by
  obtain⟨m,h1,h2⟩:=qZ (B:=B) (show lV l n=some C from h);exact⟨A::m,(h1.cons A).trans (.swap _ _ _),(h2.cons A).trans (.swap _ _ _)⟩
section
variable{F0:Nat->Prop}{w0 w:World}{l:List HA}
theorem St.JD(n:Nat)(h:St F0 w0 w l){A:HA}(hn:lV l n=some A):∃F,A.is w F:=by
 obtain⟨_,F,h2,_⟩:=h;obtain⟨f,f1,_⟩:=h2.fn;exact⟨_,f1 n A hn⟩
theorem St.L(n:Nat)(h:St F0 w0 w l){b i:Nat}{vs:LV}{c:CS}{p:dM c}{k:dM c->Pr}(hn:lV l n=some (ag b vs))(hi:vs[i]? =some (cu c p))(hk:k p w):cM c (bA b i) k w:=by
 obtain⟨F,hb,_⟩:=h.JD n hn;exact hb.ld hi hk
theorem St.LA(n:Nat)(h:St F0 w0 w l){b:Nat}{vs:LV}{cs:List CS}{p:lC cs}{k:lC cs->Pr}(hn:lV l n=some (ag b vs))(hv:vs=gy cs p)(hk:k p w):aN cs (bA b 0) k w:=by
 obtain⟨F,hb,_⟩:=h.JD n hn;subst hv;have:=gH.aN hb hk;unfold bA;rwa[add_zero']
theorem St.S(n:Nat)(h:St F0 w0 w l){b i:Nat}{vs:LV}{v:Value}{k:Pr}(hn:lV l n=some (ag b vs))(hi:i<vs.length)(hv:aE v)(hk:∀w',St F0 w0 w' (jE l n (ag b (vs.set i v)))->k w'):Eng.st (bA b i) v k w:=by
 obtain⟨m,h1,h2⟩:=qZ (B:=ag b (vs.set i v)) hn;exact(h.perm h1).st hi hv λw' h'=>hk w' (h'.perm h2.symm)
theorem St.SB(n:Nat)(h:St F0 w0 w l){b:Nat}{vs us:LV}{k:Pr}(hn:lV l n=some (ag b us))(hl:us.length=vs.length)(hv:∀v∈vs,aE v)(hk:∀w',St F0 w0 w' (jE l n (ag b vs))->k w'):ij b 0 vs k w:=by
 obtain⟨m,h1,h2⟩:=qZ (B:=ag b vs) hn;exact Cl vs (pre:=[]) hl hv (h.perm h1) λw' h'=>hk w' (h'.perm h2.symm)
end
section
variable{F0:Nat->Prop}{w0 w:World}{l:List HA}
theorem St.Gk{E n b:Nat}{s:Sl}{x:ByteArray}{z:LV}{vs:LV}{k:Sl->Pr}(h:St F0 w0 w (az n s vs::l))(hn:n=1)(hz:z.length=n)(hb:b≠0)(hbd:(2*(s.len+x.size)+192)*b<=2^48)
 (hk:∀r w',St F0 w0 w' (az n r (vs++Nh x)::l)->r.len=s.len+x.size->k r w'):Gk E n b z s x k w:=by
 subst hn;have hna:∀v∈Nh x,aE v:=by
  intro v hv;obtain⟨c,_,rfl⟩:=ki.1 hv;trivial
 exact uQ h.sl (Nat.zero_le _) (m:=x.size) (by rw[Nat.mul_one];show(x.data.toList.map _).length=x.data.size;rw[je,Array.length_toList]) hna hz hb hbd λr w' h1 h2 _ _ h5 h6=>hk r w' (h.HD h5 h1 h6) h2
theorem St.pU{E n b m:Nat}{s:Sl}{M:Int}{z:LV}{vs:LV}{k:Sl->Pr}(h:St F0 w0 w (az n s vs::l))(hM:M=(m:Int))(hm:m<=1000000000)(hz:z.length=n)(hzn:∀v∈z,aE v)(hb:b≠0)(jO:b<=64)(hbd:(2*(s.len+m)+192)*b<=2^48)
 (hk:∀r w',St F0 w0 w' (az n r (vs++zc z m)::l)->r.len=s.len+m->k r w'):pU E n b z s M k w:=by
 subst hM;have hna:∀v∈zc z m,aE v:=by
  intro v hv;unfold zc at hv;obtain⟨c,hc,hv⟩:=List.mem_flatten.1 hv;rw[(List.mem_replicate.1 hc).2]at hv;exact hzn v hv
 have hc:=uQ (E:=E) (k:=k) h.sl (Nat.zero_le _) (m:=m) (new:=zc z m) (by rw[eo,hz]) hna hz hb hbd λr w' h1 h2 _ _ h5 h6=>hk r w' (h.HD h5 h1 h6) h2;refine⟨by omega,?_,wrap_i64 ⟨by omega,by omega⟩,?_⟩
 ·have h2:=Int.ofNat_le.2 (Nat.mul_le_mul hm jO)
  rw[Int.natCast_mul]at h2;omega
 ·rw[jl]
  refine⟨hc.1,λh1=>?_⟩;obtain⟨old,e1,e2,_,e4,e5,e6⟩:=hc.2 h1;exact⟨old,e1,e2,e4,e5,e6⟩
end
theorem gL{n:Int}(h:0<=n/\n<=18446744073709551615):dH n=n:=by
 unfold dH;simp only[IntKind.wrap,IntKind.signed,IntKind.bits];simp;omega
section
variable{F0:Nat->Prop}{w0 w:World}{l:List HA}
theorem St.aak{E b k c:Nat}{z:LV}{f:Sl->Pr}(h:St F0 w0 w l)(hz:z.length=k)(hb:b*c<=2^48)(hc:c<=2^48)(hk:∀r w',St F0 w0 w' (az k r []::l)->r.len=0->f r w'):Eng.yD E b z 0 (c:Int) f w:=by
 refine⟨by omega,by omega,by exact_mod_cast hb,by omega,?_⟩;simp only[jl];refine hk _ _ (h.mS ((Mod.refl _ w).alloc _) ⟨by simp,by simp,.inr ⟨w.heap.size,0,zc z c,rfl,Nat.le_refl _,by simp,λo _ _=>World.frozen?_alloc_new w _ _ o,?_,by rw[List.nil_append,eo,hz]⟩⟩) rfl;intro j v hj;rw[gd,Nat.zero_add,World.cell?_alloc_new];simpa using hj
theorem St.OY{E:Nat}{s x:Sl}{A B:LB}{k:Sl->Pr}(h:St F0 w0 w (az 1 s (A.map ub)::az 1 x (B.map ub)::l))(hl:A.length+B.length<=1000000000)
 (hk:∀r w',St F0 w0 w' (az 1 r ((A++B).map ub)::az 1 x (B.map ub)::l)->k r w'):Eng.app E 1 1 [.int .u8 0] s x k w:=by
 have h1:=h.sl;have h2:=(h.aq 1).sl;have e1:=bS h1;have e2:=bS h2;rw[je]at e1 e2;refine h.app (new:=B.map ub) (λ_=>h2.len) (λha=>h2.bs.ms.cQ ha) h2.reads (λv hv=>by obtain⟨c,_,rfl⟩:=ki.1 hv;trivial) rfl (by decide) (by omega) λr w' h' _=>hk r w' (by rw[jk];exact h')
end
theorem Cm{α:Type}(a:Option α):a=none\/a.isSome=true:=by cases a<;>simp
theorem JE{w:World}{s:Sl}{l:LB}{o:Nat}{k:Sl->Pr}(h:BS w s l)(hle:s.len<=s.cap)(ho:o<=l.length)(hk:∀r,BS w r (l.drop o)->r.len=l.length-o->r.len<=r.cap->(s.a=none->r.a=none)->(∀b,r.blk b->s.blk b)->k r w):slc 1 s (some (o:Int)) none none k w:=by
 have hl:=h.len;refine tN (by omega) (by omega) ?_;rw[jl];refine hk _ ?_ (by show s.len-o=_;omega) (by show s.len-o<=s.cap-o;omega) (λha=>by show(if s.cap=o then s.a else s.a.map (·.add (o*1)))=none;rw[ha];simp) ?_
 ·have:=h.ms.sub (o:=o) (n:=s.len-o) (c:=s.cap-o) (by omega) (a:=if s.cap=o then s.a else s.a.map (·.add (o*1)))
   (by
    by_cases hc:s.cap=o
    ·exact .inr (by omega)
    ·exact .inl (by rw[jc hc])) (λ_=>Cm _)
  rw[List.take_of_length_le (by rw[kg];omega)]at this;exact this.bs
 ·rintro b ⟨ad,ha,rfl⟩
  by_cases hc:s.cap=o
  ·rw[jd hc]at ha;exact⟨ad,ha,rfl⟩
  ·rw[jc hc]at ha
   obtain⟨a0,h1,h2⟩:=Option.map_eq_some_iff.1 ha;exact⟨a0,h1,by rw[<-h2];simp⟩
section
variable{P:Program}{F0:Nat->Prop}{w0 w:World}
abbrev q5:Obj:=.deferred (some [])
theorem St.sx{V T:List HA}{l:Nat}{o:Obj}(h:St F0 w0 w (V++cm l o::T)):w.heap[l]? =some o:=(St.vY h).obj
theorem St.putAt{V T:List HA}{l:Nat}{o:Obj}(h:St F0 w0 w (V++cm l o::T))(o':Obj):St F0 w0 (w.putObj l o') (V++cm l o'::T):=
 ((h.perm List.perm_middle).putObj o').perm List.perm_middle.symm
theorem BS.aal{w:World}{s:Sl}{bs:LB}{l:Nat}{r:Loop}(h:BS w s bs)(hl:w.heap[l]? =some (.loop r))(o:Obj):BS (w.putObj l o) s bs:=by
 refine h.mod (S:=λb=>b=l) ((Mod.refl _ w).putObj (.inl rfl)) λad ha hne he=>?_;have hr:=h.row;rw[ha]at hr;cases bs with
 |nil=>exact hne rfl
 |
  cons b bs=>
  have h1:=hr.1;unfold World.cell? at h1;rw[show(Addr.add ad 0).block=l from he,hl]at h1;cases h1
def Nw(P:Program)(v:Value)(cJ:List Sh)(n:Nat)(X:Nat->ef cJ->World->Prop)(M:World->Prop):Prop:=
 ∃f caps,v=.func (.func f) #[] caps/\eH P f=true/\
 ∀
  (y:Value) (w:World) (I:Nat->World->Prop) (D:World->Prop),(∀j W,I j W->M W)->(∀j W W',I j W->Grow W W'->I j W')->I 0 w->
  (∀j x W,X j x W->I j W->dx P y (pG cJ x) [.c .bool] (λb W'=>if b=true then I (j+1) W' else D W') W)->
  Calls P f (#[y]++caps) w (aj [] λ_ w'=>I n w'\/D w')
abbrev E3(P:Program)(v:Value)(cJ:List Sh)(xs:List (ef cJ))(M:World->Prop):Prop:=Nw P v cJ xs.length (λj x _=>xs[j]? =some x) M
theorem x4{v:Value}{cJ:List Sh}{n:Nat}{X:Nat->ef cJ->World->Prop}{M:World->Prop}(hv:Nw P v cJ n X M){σ τ:Type}(U:σ->List HA)(Pj:Nat->σ->Prop)(UE:τ->List HA)(E:Option Nat->τ->Prop)
 {R:Nat->ef cJ->(Pr->Pr)->Pr->(Option Nat->Pr)->Pr}{K Jr:Nat->Pr}{Jx:Nat->List (Nat×Pr)}(s0:σ)(hP0:Pj 0 s0)(h0:St F0 w0 w (U s0))
 (hM:∀j s W T,Pj j s->St F0 w0 W (U s++T)->M W)
 (AZ:∀(l m:Nat) (Ro:LoopState->Obj) j x s W (bg:Pr->Pr) (nx:Pr) (lv:Option Nat->Pr),X j x W->Pj j s->St F0 w0 W (U s++[cm l (Ro .ready),cm m q5])->
   (∀V (c:Pr) W',St F0 w0 W' (V++[cm l (Ro .ready),cm m q5])->(∀W2,(∀s bs,BS W' s bs->BS W2 s bs)->St F0 w0 W2 (V++[cm l (Ro .busy),cm m q5])->c W2)->bg c W')->
   (∀s' W',Pj (j+1) s'->St F0 w0 W' (U s'++[cm l (Ro .busy),cm m q5])->nx W')->
   (∀q t W',E q t->St F0 w0 W' (UE t++[cm l (Ro .busy),cm m q5])->lv q W')->R l x bg nx lv W)
 (hK:∀m s W,Pj n s->St F0 w0 W (U s++[cm m q5])->K m W)
 (hJ:∀m q t W,E q t->St F0 w0 W (UE t++[cm m q5])->jmp (Jr m) (Jx m) q W):xp P v cJ R K Jr Jx w:=by
 obtain⟨f,caps,rfl,vV,o7⟩:=hv;refine⟨f,caps,rfl,vV,λL hL hY=>?_⟩;have Rj:=(h0.rN q5).rN (L .ready none);rw[World.size_alloc]at Rj;have st7:St F0 w0 ((w.alloc q5).alloc (L .ready none)) (U s0++[cm (w.heap.size+1) (L .ready none),cm w.heap.size q5]):=Rj.perm (List.perm_append_comm (l₁:=[_,_]));refine(o7 (.func (.yield (w.heap.size+1)) #[] #[]) _ (λj W=>∃s,Pj j s/\St F0 w0 W (U s++[cm (w.heap.size+1) (L .ready none),cm w.heap.size q5]))
  (λW=>∃q t,E q t/\St F0 w0 W (UE t++[cm (w.heap.size+1) (L .done (some (o8 q))),cm w.heap.size q5])) ?_ ?_ ⟨s0,hP0,st7⟩ ?_).mono ?_
 ·rintro j W ⟨s,hp,hs⟩;exact hM j s W _ hp hs
 ·rintro j W W' ⟨s,hp,hs⟩ g;exact⟨s,hp,hs.grow g⟩
 ·rintro j x W hx ⟨s,hp,hs⟩
  refine .inr ⟨w.heap.size+1,#[],rfl,?_⟩;refine hY W x _ hs.sx ?_;refine AZ (w.heap.size+1) w.heap.size (λph=>L ph none) j x s W _ _ _ hx hp hs ?_ ?_ ?_
  ·intro V c W' h1 h2
   obtain⟨r,hr⟩:=hL .ready none;exact⟨h1.sx,h2 _ (λ_ _ hb=>hb.aal (hr▸h1.sx) _) (h1.putAt _)⟩
  ·intro s' W' Qh h1
   refine⟨h1.sx,?_⟩;rw[jd rfl];exact⟨s',Qh,h1.putAt _⟩
  ·intro q t W' hq h1
   refine⟨h1.sx,?_⟩;rw[jc (by simp)];exact⟨q,t,hq,h1.putAt _⟩
 ·have drop:∀{V:List HA} {W:World} {o:Obj},St F0 w0 W (V++[cm (w.heap.size+1) o,cm w.heap.size q5])->∀o',St F0 w0 (W.putObj (w.heap.size+1) o') (V++[cm w.heap.size q5]):=by
   intro V W o h o';exact((h.putAt o').perm List.perm_middle).drop
  rintro e W ⟨p,rfl,⟨s,hp,hs⟩|⟨q,t,hq,hs⟩⟩
  ·exact⟨⟨_,rfl⟩,.inl ⟨hs.sx,hK _ s _ hp (drop hs _)⟩⟩
  ·exact⟨⟨_,rfl⟩,.inr ⟨q,hs.sx,hJ _ q t _ hq (drop hs _)⟩⟩
theorem nP{V T:List HA}{D:Nat}{k:Pr}(h:St F0 w0 w (V++cm D q5::T))(hk:∀w',St F0 w0 w' (V++T)->k w'):takes [D] k w:=
 ⟨h.sx,hk _ ((h.putAt (.deferred none)).perm List.perm_middle).drop⟩
end
section
variable{F0:Nat->Prop}{w0 w:World}{l:List HA}
theorem St.Tg{s:Sl}{vs:LV}{j:Nat}{k:Addr->Pr}(h:St F0 w0 w (az 1 s vs::l))(hj:j<vs.length)(hk:∀ad,s.a=some ad->k (ad.add (j*1)) w):el s (j:Int) 1 k w:=by
 have h1:=h.sl;have hlen:=h1.len;rcases h1.row with⟨_,h2,_⟩|⟨b,off,spare,h2,_⟩
 ·omega
 ·exact uS h2 (by omega) (hk _ h2)
theorem St.Th{s:Sl}{vs:LV}{j:Nat}{v:Value}{ad:Addr}{k:Pr}(h:St F0 w0 w (az 1 s vs::l))(ha:s.a=some ad)(hj:j<vs.length)(hv:aE v)(hk:∀w',St F0 w0 w' (az 1 s (vs.set j v)::l)->k w'):Eng.st (ad.add (j*1)) v k w:=by
 obtain⟨Qo,h1,h2⟩:=h.put hj hv hk;rw[ha]at h1;cases h1;rw[Nat.mul_one];exact h2
end
theorem aam{w:World}{s:Sl}{l:LB}{o n:Nat}{H M:Int}{k:Sl->Pr}(h:BS w s l)(hle:s.len<=s.cap)(hH:H=((o+n:Nat):Int))(hM:M=((o+n:Nat):Int))(hn:o+n<=l.length)
 (hk:∀r,BS w r ((l.drop o).take n)->r.len=n->r.len<=r.cap->k r w):slc 1 s (some (o:Int)) (some H) (some M) k w:=by
 subst hH hM;have hl:=h.len;refine⟨λm hm=>?_,λ_=>rfl,λx hx=>?_,λx hx=>?_,?_⟩
 ·simp only[jg]at hm;subst hm;omega
 ·simp only[jg]at hx;subst hx;simp;omega
 ·simp only[jg]at hx;subst hx;simp;omega
 ·simp only[Option.map_some,Option.getD_some,jl]
  refine hk _ ?_ (by show o+n-o=n;omega) (by show o+n-o<=o+n-o;omega);have:=h.ms.sub (o:=o) (n:=n) (c:=o+n-o) hn (a:=if o+n=o then s.a else s.a.map (·.add (o*1)))
   (by
    by_cases hc:o+n=o
    ·exact .inr (by omega)
    ·exact .inl (by rw[jc hc])) (λ_=>Cm _)
  rw[show o+n-o=n by omega]at this⊢;exact this.bs
structure KG(K:Type)[DecidableEq K]where
 g:Value->Value->Option Bool
 enc:K->Value
 same:∀a b,g (enc a) (enc b)=some (decide (a=b))
 bits:∀a,Instr.sameBits 10000 (enc a) (enc a)=true
section
variable{K:Type}[DecidableEq K](T:KG K)
structure OV(es:Array MapEntry)(clock:Nat)(kv:List (K×Value)):Prop where
 born:∀e∈es.toList,e.born<clock
 mR:(es.toList.map (·.born)).Nodup
 kvs:es.toList.map (λe=>(e.key,e.val))=kv.map λx=>(T.enc x.1,x.2)
def mJ(m:Nat)(kv:List (K×Value)):HA:=KQ λi:Array MapEntry×Nat=>[pA (OV T i.1 i.2 kv),cm m (.map i.1 i.2)]
variable{T}
theorem xX(k:K):∀(es:List MapEntry) (kv:List (K×Value)) (i:Nat),es.map (λe=>(e.key,e.val))=kv.map (λx=>(T.enc x.1,x.2))->
 (k∉kv.map (·.1)/\mB k kv=none/\nr T.g (T.enc k) es i=some none)\/
 ∃j v,kv[j]? =some (k,v)/\(∀l x,l<j->kv[l]? =some x->x.1≠k)/\mB k kv=some v/\nr T.g (T.enc k) es i=some (some (i+j,v))
 |
  [],kv,i,h=>by
  have:kv=[]:=by
   have:=congrArg List.length h;simp at this;exact jy this.symm
  subst this;exact .inl ⟨by simp,rfl,rfl⟩
 |e::es,[],i,h=>by simp at h
 |
  e::es,x::kv,i,h=>by
  simp only[List.map_cons,List.cons.injEq,Prod.mk.injEq]at h;unfold nr;rw[h.1.1,T.same];by_cases hk:k=x.1
  ·subst hk
   refine .inr ⟨0,x.2,rfl,λl _ hl=>by omega,by simp[mB],?_⟩;simp only[decide_true,Nat.add_zero];rw[h.1.2]
  ·rw[decide_eq_false hk]
   rcases xX k es kv (i+1) h.2 with⟨h1,h2,h3⟩|⟨j,v,h1,h2,h3,h4⟩
   ·exact .inl ⟨by simp[hk];simpa using h1,by simp[mB,hk,h2],h3⟩
   ·refine .inr ⟨j+1,v,by simpa using h1,λl y hl hy=>?_,by simp[mB,hk,h3],by dsimp only;rw[h4];congr 3;omega⟩
    cases l with
    |zero=>simp only[List.getElem?_cons_zero,jg]at hy;subst hy;exact λh=>hk h.symm
    |succ l=>exact h2 l y (by omega) (by simpa using hy)
variable{F0:Nat->Prop}{w0 w:World}{L:List HA}{m:Nat}{kv:List (K×Value)}
theorem St.Nv(h:St F0 w0 w (mJ T m kv::L)):∃es clock,OV T es clock kv/\St F0 w0 w (cm m (.map es clock)::L):=by
 obtain⟨i,h⟩:=h.ex;obtain⟨h1,h⟩:=h.p;exact⟨i.1,i.2,h1,h⟩
theorem St.Cj{es:Array MapEntry}{clock:Nat}(h:St F0 w0 w (cm m (.map es clock)::L))(he:OV T es clock kv):St F0 w0 w (mJ T m kv::L):=
 St.vD (es,clock) (h.KR he)
theorem St.aai{f:Nat->Pr}(h:St F0 w0 w L)(hk:∀m w',St F0 w0 w' (mJ T m []::L)->f m w'):Eng.nw (.map #[] 0) f w:=by
 rw[tQ];exact hk _ _ ((h.rN (Obj.map #[] 0)).Cj ⟨by simp,by simp,rfl⟩)
theorem KG.self(k:K):T.g (T.enc k) (T.enc k)=some true:=by rw[T.same];simp
theorem St.fQ(h:St F0 w0 w (mJ T m kv::L)){k:K}{sh:CS}{zero:Value}{f:dM sh->Bool->Pr}
 (h1:∀v,mB k kv=some v->∃p,v=cu sh p/\f p true w)(h2:mB k kv=none->∃p,zero=cu sh p/\f p false w):Eng.fQ T.g (some m) (T.enc k) sh zero f w:=by
 obtain⟨es,clock,he,h⟩:=h.Nv;have hm:=h.obj;rcases xX k es.toList kv 0 he.kvs with⟨_,g2,g3⟩|⟨j,v,_,_,g3,g4⟩
 ·obtain⟨p,hp,hf⟩:=h2 g2
  exact⟨es,none,p,⟨clock,hm⟩,KG.self k,g3,hp,hf⟩
 ·obtain⟨p,hp,hf⟩:=h1 v g3
  exact⟨es,some (0+j,v),p,⟨clock,hm⟩,KG.self k,g4,hp,hf⟩
theorem St.jZ(h:St F0 w0 w (mJ T m kv::L)){k:K}{v:Value}{f:Pr}(h1:∀j u w',kv[j]? =some (k,u)->(∀l x,l<j->kv[l]? =some x->x.1≠k)->St F0 w0 w' (mJ T m (kv.set j (k,v))::L)->f w')
 (h2:k∉kv.map (·.1)->∀w',St F0 w0 w' (mJ T m (kv++[(k,v)])::L)->f w'):Eng.jZ T.g (some m) (T.enc k) v f w:=by
 obtain⟨es,clock,he,h⟩:=h.Nv;rcases xX k es.toList kv 0 he.kvs with⟨g1,_,g3⟩|⟨j,u,g1,g2,_,g4⟩
 ·refine⟨m,es,clock,none,rfl,h.obj,KG.self k,g3,h2 g1 _ ((h.putObj (.map (es.push {key:=T.enc k,val:=v,born:=clock}) (clock+1))).Cj ⟨?_,?_,?_⟩)⟩
  ·intro e he'
   rw[Array.toList_push]at he';rcases jz.1 he' with h'|h'
   ·have:=he.born e h';omega
   ·rw[jq]at h';subst h';exact Nat.lt_succ_self _
  ·rw[Array.toList_push,jk,List.nodup_append]
   refine⟨he.mR,by simp,λa ha b hb=>?_⟩;obtain⟨e,he',rfl⟩:=ki.1 ha;have:=he.born e he';simp at hb;omega
  ·rw[Array.toList_push,jk,he.kvs,jk];rfl
 ·have hjl:j<es.toList.length:=by
   have h1:=congrArg List.length he.kvs;have h2:=(aC g1).2;simp at h1 h2⊢;omega
  have hej:es[0+j]? =some es.toList[j]:=by rw[Nat.zero_add];simp at hjl⊢
  have hkj:es.toList[j].key=T.enc k:=by
   have h3:=congrArg (·[j]?) he.kvs;simp only[jf,g1,Option.map_some,jo hjl,jg,Prod.mk.injEq]at h3;exact h3.1
  refine⟨m,es,clock,some (0+j,u),rfl,h.obj,KG.self k,g4,?_,h1 j u _ g1 g2 ((h.putObj (.map (es.modify (0+j) λe=>{e with key:=T.enc k,val:=v}) clock)).Cj ?_)⟩
  ·rw[hej]
   simp only[Option.map_some,Option.getD_some,hkj];exact T.bits k
  ·have hl:∀{β:Type} (f:MapEntry->β) (b:β),f {es.toList[j]with key:=T.enc k,val:=v}=b->(es.modify (0+j) λe=>{e with key:=T.enc k,val:=v}).toList.map f=(es.toList.map f).set j b:=by
    intro β f b hb;refine List.ext_getElem? λi=>?_;rw[Nat.zero_add,List.getElem?_set,jf,Array.getElem?_toList,Array.getElem?_modify];by_cases hij:j=i
    ·subst hij
     rw[jd rfl,jd rfl,jd (by simpa using hjl)];have:es[j]? =some es.toList[j]:=by simp
     rw[this];simp only[Option.map_some,jg];exact hb
    ·rw[jc hij,jc hij,jf,Array.getElem?_toList]
   refine⟨λe he'=>?_,?_,?_⟩
   ·have h4:e.born∈((es.modify (0+j) λe=>{e with key:=T.enc k,val:=v}).toList.map (·.born)):=ki.2 ⟨e,he',rfl⟩
    rw[hl (·.born) es.toList[j].born rfl]at h4;rcases List.mem_or_eq_of_mem_set h4 with h5|h5
    ·obtain⟨e2,h6,h7⟩:=ki.1 h5
     have:=he.born e2 h6;omega
    ·have:=he.born _ (List.getElem_mem hjl);omega
   ·rw[hl (·.born) es.toList[j].born rfl]
    have:(es.toList.map (·.born)).set j es.toList[j].born=es.toList.map (·.born):=by
     refine List.ext_getElem? λi=>?_;rw[List.getElem?_set];by_cases hij:j=i
     ·subst hij
      rw[jd rfl,jd (by simpa using hjl),jf,jo hjl];rfl
     ·rw[jc hij]
    rw[this];exact he.mR
   ·rw[hl (λe=>(e.key,e.val)) (T.enc k,v) rfl,he.kvs,List.map_set]
end
end Go.Eng

set_option maxRecDepth 100000
namespace Go.Proofs
open Go.Eng
def an4:An:=(.sq .z (.sq .z (.sq (.sq (.jn [(40,.c .bool)] .z) (.br (.sq .z .z) .z)) (.sq .z (.sq .z (.sq (.sq .z (.bl (.lp [(7,.c .slice),(48,.c (.int .i64))] (.sq .z (.sq (.br .z .z) (.sq (.bl (.sq .z (.sq (.jn [(7,.c .slice)] (.sq .z (.bl (.sq .z (.br (.sq .z (.sq .z (.br (.sq (.sq .z (.sq .z (.br (.sq .z .z) .z))) (.sq .z .z)) .z))) (.sq .z (.br (.sq .z (.sq (.sq .z (.sq (.jn [(100,.c .bool)] .z) (.br (.sq .z .z) .z))) (.sq .z (.br .z .z)))) .z))))))) (.sq .z (.bl (.lp [(108,.c (.int .i64))] (.sq .z (.sq (.br .z .z) (.sq (.bl (.sq .z (.sq .z (.bl (.lp [(112,.c (.int .i64))] (.sq .z (.sq (.br .z .z) (.sq (.bl (.sq .z (.sq .z (.sq (.jn [] (.sq .z (.bl (.sq .z (.br .z (.sq .z (.br .z (.sq .z (.br .z .z))))))))) (.sq .z (.sq (.jn [(166,.c .bool)] .z) (.br (.sq .z .z) .z))))))) .z)))))))) .z))))))))) .z)))))) (.sq .z (.sq .z .z))))))))
def F4(p0:Sl)(p1:Int)(Q:Bool->Pr):Pr:=
 av Pq 9 [] [.agg [af,af,af,af]] λ(t26:I4)=>
 av Pq 8 [(.agg #[(iv t26.1),(iv t26.2.1),(iv t26.2.2.1),(iv t26.2.2.2)])] [.c .ptr,.c .ptr] λ(t27:(OA)×OA)=>
 jn (S:=Bool) (λR=>
 cB 10 [] λt30=>
 br (!t30) (
 R true) (
 b8 True<|
 br (Option.isNone t27.2) (
 R true) (
 cI 11 [(.pointer t27.2)] λt38=>
 R ((t38 !=0))))) λs=>
 br s (
 Q false) (
 nw (.map #[] 0) λr=>
 slc 16 p0 none (some (lM (p0.len:Int) 60)) none λt46=>
 cq (S:=Sl×Int) (λX s_1=>
 br (decide (s_1.2<(t46.len:Int))) (
 el t46 s_1.2 16 λa=>
 aN [af,af,af,af,.bool,af,af,af,af,.bool,af,af,af,af,af,.slice] a λ(t51:Int×Int×Int×Int×Bool×Int×Int×Int×Int×Bool×Int×Int×Int×Int×Int×Sl)=>
 eM 42 [(iv 0),(iv 0),(iv 0),(iv 0),(.bool false),(iv 0),(iv 0),(iv 0),(iv 0),(.bool false),(iv 0),(iv 0),(iv 0),(iv 0),(iv 0),(.slice none 0 0)] [(iv t51.1),(iv t51.2.1),(iv t51.2.2.1),(iv t51.2.2.2.1),(.bool t51.2.2.2.2.1),(iv t51.2.2.2.2.2.1),(iv t51.2.2.2.2.2.2.1),(iv t51.2.2.2.2.2.2.2.1),(iv t51.2.2.2.2.2.2.2.2.1),(.bool t51.2.2.2.2.2.2.2.2.2.1),(iv t51.2.2.2.2.2.2.2.2.2.2.1),(iv t51.2.2.2.2.2.2.2.2.2.2.2.1),(iv t51.2.2.2.2.2.2.2.2.2.2.2.2.1),(iv t51.2.2.2.2.2.2.2.2.2.2.2.2.2.1),(iv t51.2.2.2.2.2.2.2.2.2.2.2.2.2.2.1),(slV t51.2.2.2.2.2.2.2.2.2.2.2.2.2.2.2)] λr_1=>
 jn (S:=Sl) (λeu=>
 bL (bA r_1 0) λt53=>
 br (t53==3) (
 aN [af,af,af] (bA r_1 1) λ(t59:Int×Int×Int)=>
 av Pq 12 [(.pointer t27.2),(.agg #[(iv t59.1),(iv t59.2.1),(iv t59.2.2)])] [.agg [af,af,af],.c af] λ(t60:(Int×Int×Int)×Int)=>
 eM 37 [(iv 0),(iv 0),(iv 0)] [(iv t60.1.1),(iv t60.1.2.1),(iv t60.1.2.2)] λr_2=>
 br (t60.2==0) (
 aN [af,af,af] (bA r_2 0) λ(t67:Int×Int×Int)=>
 fQ (uf Pq 37) (some r) (.agg #[(iv t67.1),(iv t67.2.1),(iv t67.2.2)]) .bool (.bool false) λ(t68:Bool) (Yl:Bool)=>
 br Yl (
 Q false) (
 aN [af,af,af] (bA r_2 0) λ(t73:Int×Int×Int)=>
 nw (.cells #[(iv t73.1),(iv t73.2.1),(iv t73.2.2)] 37) λr_3=>
 app 37 3 24 [(iv 0),(iv 0),(iv 0)] s_1.1 ⟨(some ⟨r_3,0,none⟩),1,1⟩ λt75=>
 aN [af,af,af] (bA r_2 0) λ(t77:Int×Int×Int)=>
 jZ (uf Pq 37) (some r) (.agg #[(iv t77.1),(iv t77.2.1),(iv t77.2.2)]) (.bool true)<|
 eu t75)) (
 eu s_1.1)) (
 br (t53==4) (
 aN [.bool,af,af,af,af] (bA r_1 4) λ(t82:Bool×Int×Int×Int×Int)=>
 av Pq 14 [(slV s_1.1),(.agg #[(.bool t82.1),(iv t82.2.1),(iv t82.2.2.1),(iv t82.2.2.2.1),(iv t82.2.2.2.2)])] [.agg [af,af,af]] λ(t83:Int×Int×Int)=>
 eM 37 [(iv 0),(iv 0),(iv 0)] [(iv t83.1),(iv t83.2.1),(iv t83.2.2)] λAN=>
 aN [af,af,af] (bA AN 0) λ(t85:Int×Int×Int)=>
 cI 13 [(.pointer t27.2),(.agg #[(iv t85.1),(iv t85.2.1),(iv t85.2.2)])] λt86=>
 jn (S:=Bool) (λmb=>
 aN [af,af,af] (bA AN 0) λ(t90:Int×Int×Int)=>
 fQ (uf Pq 37) (some r) (.agg #[(iv t90.1),(iv t90.2.1),(iv t90.2.2)]) .bool (.bool false) λ(t91:Bool) (aco:Bool)=>
 b8 True<|
 br (!((t86==0)==t91)) (
 mb true) (
 br (t86 !=0) (
 mb ((t86 !=170))) (
 mb false))) λAO=>
 br AO (
 Q false) (
 aN [af,af,af] (bA AN 0) λ(t102:Int×Int×Int)=>
 fQ (uf Pq 37) (some r) (.agg #[(iv t102.1),(iv t102.2.1),(iv t102.2.2)]) .bool (.bool false) λ(t103:Bool) (abA:Bool)=>
 br t103 (
 aN [af,af,af] (bA AN 0) λ(t105:Int×Int×Int)=>
 jZ (uf Pq 37) (some r) (.agg #[(iv t105.1),(iv t105.2.1),(iv t105.2.2)]) (.bool false)<|
 eu s_1.1) (
 eu s_1.1))) (
 eu s_1.1))) λs_2=>
 cq (S:=Int) (λJm NF=>
 br (decide (NF<(s_2.len:Int))) (
 el s_2 NF 3 λoJ=>
 aN [af,af,af] oJ λ(t111:Int×Int×Int)=>
 eM 37 [(iv 0),(iv 0),(iv 0)] [(iv t111.1),(iv t111.2.1),(iv t111.2.2)] λK0=>
 cq (S:=Int) (λX_2 Fc=>
 br (decide (Fc<4)) (
 aN [af,af,af] (bA K0 0) λ(t115:Int×Int×Int)=>
 eM 37 [(iv 0),(iv 0),(iv 0)] [(iv t115.1),(iv t115.2.1),(iv t115.2.2)] λFb=>
 jn (S:=Unit) (λHI=>
 br (Fc==1) (
 bL (bA Fb 2) λt120=>
 b8 ((3:Int)≠0)<|
 st (bA Fb 2) (iv (aO (t120+(aO (1+(aO (p1.tmod 3)))))))<|
 HI ()) (
 br (Fc==2) (
 bL (bA Fb 1) λt130=>
 b8 ((3:Int)≠0)<|
 st (bA Fb 1) (iv (sR .i64 t130 (aO (1+(aO (p1.tmod 3))))))<|
 HI ()) (
 br (Fc==3) (
 bL (bA Fb 0) λt140=>
 b8 ((3:Int)≠0)<|
 st (bA Fb 0) (iv (sR .i64 t140 (aO (1+(aO (p1.tmod 3))))))<|
 HI ()) (
 HI ())))) λs_6=>
 aN [af,af,af] (bA Fb 0) λ(t149:Int×Int×Int)=>
 av Pq 21 [(.pointer t27.2),(.agg #[(iv t149.1),(iv t149.2.1),(iv t149.2.2)])] [.agg [af,af,af],.c af] λ(t150:(Int×Int×Int)×Int)=>
 eM 24 [(iv 0),(iv 0),(iv 0)] [(iv t150.1.1),(iv t150.1.2.1),(iv t150.1.2.2)] λO8=>
 jn (S:=Bool) (λK1=>
 aN [af,af,af] (bA Fb 0) λ(t156:Int×Int×Int)=>
 fQ (uf Pq 37) (some r) (.agg #[(iv t156.1),(iv t156.2.1),(iv t156.2.2)]) .bool (.bool false) λ(t157:Bool) (abB:Bool)=>
 b8 True<|
 br (!((t150.2==0)==t157)) (
 K1 true) (
 br (t150.2 !=0) (
 K1 ((t150.2 !=170))) (
 K1 false))) λs_7=>
 br s_7 (
 Q false) (
 X_2 ((aO (Fc+1))))) (
 Jm ((aO (NF+1))))) 0) (
 X (s_2,(aO (s_1.2+1))))) 0) (
 av Pq 21 [(.pointer t27.2),(.agg #[(iv 0),(iv 0),(iv 0)])] [.agg [af,af,af],.c af] λ(t173:(Int×Int×Int)×Int)=>
 eM 24 [(iv 0),(iv 0),(iv 0)] [(iv t173.1.1),(iv t173.1.2.1),(iv t173.1.2.2)] λQs=>
 Q ((t173.2==170)))) (⟨none,0,0⟩,0))
theorem Kg(p0:Sl)(p1:Int)(Q:Bool->Pr)(w:World)(h:F4 p0 p1 Q w):Calls Pq 4 #[(slV p0),(uv p1)] w (aj [.c .bool] Q):=cF (an:=an4) Tryz.func4 (by kernel_rfl) h
def Ue:An:=(.n (.sq (.n (.br (.n .z) .z)) (.n (.sq (.sq (.jn [(25,.c .bool)] .z) (.br (.n .z) .z)) (.n .z)))))
def Uf(p0:Sl)(p1:Int)(Q:(Int×Int×Int×Sl×Int)×Int->Pr):Pr:=
 nw (.cells #[(iv 0),(iv 0),(iv 0),(.slice none 0 0),(iv 0)] 234) λr=>
 cB 299 [(iv p1)] λt10=>
 br (!t10) (
 ij r 0 [(iv 0),(iv 0),(iv 0),(.slice none 0 0),(iv 0)]<|
 aN [af,af,af,.slice,af] (bA r 0) λ(res:Int×Int×Int×Sl×Int)=>
 Q (res,1)) (
 av Pq 300 [(slV p0)] [.agg [af,af,af,.slice,af],.c af,.c af] λ(t15:(Int×Int×Int×Sl×Int)×Int×Int)=>
 eM 234 [(iv 0),(iv 0),(iv 0),(.slice none 0 0),(iv 0)] [(iv t15.1.1),(iv t15.1.2.1),(iv t15.1.2.2.1),(slV t15.1.2.2.2.1),(iv t15.1.2.2.2.2)] λr_1=>
 jn (S:=Bool) (λR=>
 br (t15.2.2==0) (
 R ((t15.2.1 !=p1))) (
 R false)) λs=>
 br s (
 ij r 0 [(iv 0),(iv 0),(iv 0),(.slice none 0 0),(iv 0)]<|
 aN [af,af,af,.slice,af] (bA r 0) λ(cE:Int×Int×Int×Sl×Int)=>
 Q (cE,61)) (
 aN [af,af,af,.slice,af] (bA r_1 0) λ(t27:Int×Int×Int×Sl×Int)=>
 ij r 0 [(iv t27.1),(iv t27.2.1),(iv t27.2.2.1),(slV t27.2.2.2.1),(iv t27.2.2.2.2)]<|
 aN [af,af,af,.slice,af] (bA r 0) λ(gY:Int×Int×Int×Sl×Int)=>
 Q (gY,t15.2.2)))
theorem CP(p0 p1 Q w)(h:Uf p0 p1 Q w):Calls Pq 260 #[(slV p0),(iv p1)] w (aj [.agg [af,af,af,.slice,af],.c af] Q):=cF (an:=Ue) Tryz.func260 (by kernel_rfl) h
def Ug:An:=(.n (.n .z))
def Uh(p0:Int)(Q:Bool->Pr):Pr:=
 br (decide (p0>=0)) (
 Q ((decide (p0<=2305843009213693952)))) (
 Q false)
theorem CQ(p0 Q w)(h:Uh p0 Q w):Calls Pq 299 #[(iv p0)] w (aj [.c .bool] Q):=cF (an:=Ug) Tryz.func299 (by kernel_rfl) h
def Ui:An:=(.n (.sq (.sq (.jn [(18,.c .bool)] .z) (.br (.n .z) .z)) (.sq (.jn [(5,.c .ptr),(6,.c af)] (.rj [⟨false,[2,6,10,11],[2,3,6,7,8,10,11],[(5,.c .ptr),(28,.agg [(.int .i64),(.int .i64),(.int .i64),.slice,(.int .i64)]),(30,.c af)]⟩])) (.sq (.jn [] (.n (.n (.bl (.n (.br .z .z)))))) (.sq (.n (.sq (.jn [(68,.c .bool)] .z) (.br (.n .z) .z))) (.n .z))))))
def Uj(p0:Sl)(Q:(Int×Int×Int×Sl×Int)×Int×Int->Pr):Pr:=
 nw (.cells #[(iv 0),(iv 0),(iv 0),(.slice none 0 0),(iv 0)] 234) λr=>
 jn (S:=Bool) (λR=>
 br ((p0.len:Int)!=64) (
 R true) (
 el p0 1 1 λa=>
 nU a λt16=>
 R ((decide (t16>44))))) λs=>
 br s (
 ij r 0 [(iv 0),(iv 0),(iv 0),(.slice none 0 0),(iv 0)]<|
 aN [af,af,af,.slice,af] (bA r 0) λ(res:Int×Int×Int×Sl×Int)=>
 Q (res,0,61)) (
 jn (S:=(OA)×Int) (λeu=>
 fJ<|
 el p0 0 1 λeX=>
 el p0 14 1 λgw=>
 jn (S:=(OA)×(Int×Int×Int×Sl×Int)×Int) (λmb=>
 both (
 nU eX λt22=>
 both (
 nU gw λt26=>
 both (
 cI 321 [(slV p0),(iv 2),(iv 8)] λt30=>
 nw (.cells #[(iv 0),(iv 0),(iv 0),(.slice none 0 0),(iv 0)] 234) λr_1=>
 mb ((some ⟨r_1,0,none⟩),((aO t22),0,(aO t26),⟨none,0,0⟩,0),t30)) (
 nw (.cells #[(iv 0),(iv 0),(iv 0),(.slice none 0 0),(iv 0)] 234) λr_2=>
 cI 321 [(slV p0),(iv 2),(iv 8)] λAa=>
 mb ((some ⟨r_2,0,none⟩),((aO t22),0,(aO t26),⟨none,0,0⟩,0),Aa))) (
 both (
 cI 321 [(slV p0),(iv 2),(iv 8)] λJ0=>
 nU gw λUk=>
 nw (.cells #[(iv 0),(iv 0),(iv 0),(.slice none 0 0),(iv 0)] 234) λr_3=>
 mb ((some ⟨r_3,0,none⟩),((aO t22),0,(aO Uk),⟨none,0,0⟩,0),J0)) (
 nw (.cells #[(iv 0),(iv 0),(iv 0),(.slice none 0 0),(iv 0)] 234) λAN=>
 both (
 nU gw λUl=>
 cI 321 [(slV p0),(iv 2),(iv 8)] λFa=>
 mb ((some ⟨AN,0,none⟩),((aO t22),0,(aO Ul),⟨none,0,0⟩,0),Fa)) (
 cI 321 [(slV p0),(iv 2),(iv 8)] λUm=>
 nU gw λUn=>
 mb ((some ⟨AN,0,none⟩),((aO t22),0,(aO Un),⟨none,0,0⟩,0),Um))))) (
 both (
 nU gw λAb=>
 both (
 nU eX λE9=>
 both (
 cI 321 [(slV p0),(iv 2),(iv 8)] λUo=>
 nw (.cells #[(iv 0),(iv 0),(iv 0),(.slice none 0 0),(iv 0)] 234) λK0=>
 mb ((some ⟨K0,0,none⟩),((aO E9),0,(aO Ab),⟨none,0,0⟩,0),Uo)) (
 nw (.cells #[(iv 0),(iv 0),(iv 0),(.slice none 0 0),(iv 0)] 234) λFb=>
 cI 321 [(slV p0),(iv 2),(iv 8)] λUp=>
 mb ((some ⟨Fb,0,none⟩),((aO E9),0,(aO Ab),⟨none,0,0⟩,0),Up))) (
 both (
 cI 321 [(slV p0),(iv 2),(iv 8)] λUq=>
 nU eX λUr=>
 nw (.cells #[(iv 0),(iv 0),(iv 0),(.slice none 0 0),(iv 0)] 234) λO8=>
 mb ((some ⟨O8,0,none⟩),((aO Ur),0,(aO Ab),⟨none,0,0⟩,0),Uq)) (
 nw (.cells #[(iv 0),(iv 0),(iv 0),(.slice none 0 0),(iv 0)] 234) λQs=>
 both (
 nU eX λUs=>
 cI 321 [(slV p0),(iv 2),(iv 8)] λUt=>
 mb ((some ⟨Qs,0,none⟩),((aO Us),0,(aO Ab),⟨none,0,0⟩,0),Ut)) (
 cI 321 [(slV p0),(iv 2),(iv 8)] λUu=>
 nU eX λUv=>
 mb ((some ⟨Qs,0,none⟩),((aO Uv),0,(aO Ab),⟨none,0,0⟩,0),Uu))))) (
 both (
 cI 321 [(slV p0),(iv 2),(iv 8)] λO9=>
 nU eX λUw=>
 nU gw λUx=>
 nw (.cells #[(iv 0),(iv 0),(iv 0),(.slice none 0 0),(iv 0)] 234) λr_9=>
 mb ((some ⟨r_9,0,none⟩),((aO Uw),0,(aO Ux),⟨none,0,0⟩,0),O9)) (
 nw (.cells #[(iv 0),(iv 0),(iv 0),(.slice none 0 0),(iv 0)] 234) λCR=>
 both (
 nU eX λNC=>
 both (
 nU gw λUy=>
 cI 321 [(slV p0),(iv 2),(iv 8)] λPa=>
 mb ((some ⟨CR,0,none⟩),((aO NC),0,(aO Uy),⟨none,0,0⟩,0),Pa)) (
 cI 321 [(slV p0),(iv 2),(iv 8)] λPb=>
 nU gw λUz=>
 mb ((some ⟨CR,0,none⟩),((aO NC),0,(aO Uz),⟨none,0,0⟩,0),Pb))) (
 both (
 nU gw λND=>
 both (
 nU eX λUA=>
 cI 321 [(slV p0),(iv 2),(iv 8)] λPc=>
 mb ((some ⟨CR,0,none⟩),((aO UA),0,(aO ND),⟨none,0,0⟩,0),Pc)) (
 cI 321 [(slV p0),(iv 2),(iv 8)] λPd=>
 nU eX λUB=>
 mb ((some ⟨CR,0,none⟩),((aO UB),0,(aO ND),⟨none,0,0⟩,0),Pd))) (
 cI 321 [(slV p0),(iv 2),(iv 8)] λPe=>
 nU eX λUC=>
 nU gw λUD=>
 mb ((some ⟨CR,0,none⟩),((aO UC),0,(aO UD),⟨none,0,0⟩,0),Pe))))))) λs_2=>
 deref s_2.1 λxT=>
 st (xT.add 0) (iv s_2.2.1.1)<|
 st (xT.add 1) (iv s_2.2.1.2.1)<|
 st (xT.add 2) (iv s_2.2.1.2.2.1)<|
 st (xT.add 3) (slV s_2.2.1.2.2.2.1)<|
 st (xT.add 4) (iv s_2.2.1.2.2.2.2)<|
 eu (s_2.1,s_2.2.2)) λs_1=>
 jn (S:=Unit) (λHI=>
 cI 321 [(slV p0),(iv 10),(iv 4)] λt32=>
 deref s_1.1 λB9=>
 bL (B9.add 0) λt34=>
 br (t34==1) (
 fJ<|
 el p0 1 1 λJk=>
 nU Jk λt43=>
 el p0 1 1 λOP=>
 nU OP λt48=>
 slc 1 p0 (some 16) (some (aO (16+(aO t43)))) (some (aO (16+(aO t48)))) λt51=>
 deref s_1.1 λPf=>
 cS 95 [(slV t51)] λt52=>
 st (Pf.add 1) (iv t32)<|
 deref s_1.1 λaaq=>
 st (aaq.add 3) (slV t52)<|
 HI ()) (
 deref s_1.1 λaar=>
 st (aar.add 4) (iv t32)<|
 HI ())) λAO=>
 deref s_1.1 λaas=>
 aN [af,af,af,.slice,af] aas λ(t57:Int×Int×Int×Sl×Int)=>
 cO 313 [(iv s_1.2),(.agg #[(iv t57.1),(iv t57.2.1),(iv t57.2.2.1),(slV t57.2.2.2.1),(iv t57.2.2.2.2)])] λt58=>
 jn (S:=Bool) (λK1=>
 br (t58.2 !=0) (
 K1 true) (
 cB 143 [(slV t58.1),(slV p0)] λt66=>
 K1 (!t66))) λNF=>
 br NF (
 ij r 0 [(iv 0),(iv 0),(iv 0),(.slice none 0 0),(iv 0)]<|
 aN [af,af,af,.slice,af] (bA r 0) λ(cE:Int×Int×Int×Sl×Int)=>
 Q (cE,0,61)) (
 deref s_1.1 λPh=>
 aN [af,af,af,.slice,af] Ph λ(t70:Int×Int×Int×Sl×Int)=>
 ij r 0 [(iv t70.1),(iv t70.2.1),(iv t70.2.2.1),(slV t70.2.2.2.1),(iv t70.2.2.2.2)]<|
 aN [af,af,af,.slice,af] (bA r 0) λ(gY:Int×Int×Int×Sl×Int)=>
 Q (gY,s_1.2,0)))
theorem CT(p0 Q w)(h:Uj p0 Q w):Calls Pq 300 #[(slV p0)] w (aj [.agg [af,af,af,.slice,af],.c af,.c af] Q):=cF (an:=Ui) Tryz.func300 (by kernel_rfl) h
def UF:An:=(.n (.sq (.n (.br (.n .z) .z)) (.sq (.n (.n (.br (.n .z) .z))) (.n (.sq (.jn [] .z) (.n (.n (.n (.n (.n (.n .z)))))))))))
def UG(p0:Int)(bJ:Int)(bH:Int)(cN:Int)(iM:Sl)(mc:Int)(Q:Sl×Int->Pr):Pr:=
 nw (.cells #[(iv bJ),(iv bH),(iv cN),(slV iM),(iv mc)] 234) λr=>
 cB 299 [(iv p0)] λt9=>
 br (!t9) (
 Q (⟨none,0,0⟩,1)) (
 aN [af,af,af,.slice,af] (bA r 0) λ(t11:Int×Int×Int×Sl×Int)=>
 cI 262 [(.agg #[(iv t11.1),(iv t11.2.1),(iv t11.2.2.1),(slV t11.2.2.2.1),(iv t11.2.2.2.2)])] λt12=>
 br (t12 !=0) (
 Q (⟨none,0,0⟩,t12)) (
 yD 5 1 [(uv 0)] 64 64 λt16=>
 jn (S:=Unit) (λR=>
 fJ<|
 bL (bA r 0) λt20=>
 el t16 0 1 λeX=>
 both (
 jY (bA r 3) λt23=>
 st eX (uv (lK t20))<|
 el t16 1 1 λmA=>
 st mA (uv (lK (t23.len:Int)))<|
 R ()) (
 st eX (uv (lK t20))<|
 jY (bA r 3) λUH=>
 el t16 1 1 λgb=>
 st gb (uv (lK (UH.len:Int)))<|
 R ())) λs=>
 fJ<|
 slc 1 t16 (some 2) none none λt29=>
 cS 80 [(iv 8),(.int .u64 (dH p0))] λt32=>
 mo 1 t29 t32<|
 fJ<|
 slc 1 t16 (some 10) none none λt35=>
 bL (bA r 1) λt37=>
 bL (bA r 4) λt39=>
 cS 80 [(iv 4),(.int .u64 (dH (imax t37 t39)))] λt42=>
 mo 1 t35 t42<|
 bL (bA r 2) λt46=>
 el t16 14 1 λkV=>
 st kV (uv (lK t46))<|
 fJ<|
 slc 1 t16 (some 16) none none λt50=>
 jY (bA r 3) λt52=>
 mo 1 t50 t52<|
 fJ<|
 slc 1 t16 (some 60) none none λt55=>
 slc 1 t16 none (some 60) none λt57=>
 av Pq 305 [(slV t57)] [.c (.int .u32)] λ(t58:Int)=>
 cS 80 [(iv 4),(.int .u64 (dH t58))] λt60=>
 mo 1 t55 t60<|
 Q (t16,0)))
theorem CU(p0 bJ bH cN iM mc Q w)(h:UG p0 bJ bH cN iM mc Q w):Calls Pq 313 #[(iv p0),(.agg #[(iv bJ),(iv bH),(iv cN),(slV iM),(iv mc)])] w (aj [.c .slice,.c af] Q):=cF (an:=UF) Tryz.func313 (by kernel_rfl) h
def UI:An:=(.n (.n (.n .z)))
def UJ(p0:Sl)(p1:Int)(p2:Int)(Q:Int->Pr):Pr:=
 av Pq 141 [(slV p0),(iv p1),(iv p2)] [.c (.int .u64),.c .bool] λ(t13:Int×Bool)=>
 Q ((aO t13.1))
theorem CV(p0 p1 p2 Q w)(h:UJ p0 p1 p2 Q w):Calls Pq 321 #[(slV p0),(iv p1),(iv p2)] w (aj [.c af] Q):=cF (an:=UI) Tryz.func321 (by kernel_rfl) h
def TD:An:=(.n (.sq (.n (.n (.br (.n .z) .z))) (.sq (.sq (.jn [(27,.c .bool)] .z) (.br (.n .z) .z)) (.n .z))))
def TE(aD:Int)(aG:Int)(aP:Int)(bB:Int)(cW:Int)(eF:Int)(Q:Int->Pr):Pr:=
 nw (.cells #[(iv aD),(iv aG),(iv aP),(iv bB),(iv cW),(iv eF)] 94) λr=>
 aN [af,af,af,af] (bA r 1) λ(t5:I4)=>
 cI 197 [(.agg #[(iv t5.1),(iv t5.2.1),(iv t5.2.2.1),(iv t5.2.2.2)])] λt6=>
 br (t6 !=0) (
 Q t6) (
 jn (S:=Bool) (λR=>
 bL (bA r 0) λt11=>
 br (decide (t11<1)) (
 R true) (
 bL (bA r 0) λt15=>
 br (decide (t15>1152921504606846976)) (
 R true) (
 bL (bA r 5) λt20=>
 br (decide (t20<0)) (
 R true) (
 bL (bA r 5) λt25=>
 R ((decide (t25>1152921504606846976))))))) λs=>
 br s (
 Q 50) (
 Q 0))
theorem Cy(aD aG aP bB cW eF Q w)(h:TE aD aG aP bB cW eF Q w):Calls Pq 269 #[(.agg #[(iv aD),(iv aG),(iv aP),(iv bB),(iv cW),(iv eF)])] w (aj [.c af] Q):=cF (an:=TD) Tryz.func269 (by kernel_rfl) h
def TF:An:=(.n (.sq (.n (.n (.br (.n .z) .z))) (.n .z)))
def TG(aD:Int)(aG:Int)(aP:Int)(bB:Int)(Q:(I6)×Int->Pr):Pr:=
 nw (.cells #[(iv aD),(iv aG),(iv aP),(iv bB)] 30) λr=>
 nw (.cells #[(iv 0),(iv 0),(iv 0),(iv 0),(iv 0),(iv 0)] 94) λr_1=>
 aN [af,af,af,af] (bA r 0) λ(t5:I4)=>
 cI 197 [(.agg #[(iv t5.1),(iv t5.2.1),(iv t5.2.2.1),(iv t5.2.2.2)])] λt6=>
 br (t6 !=0) (
 ij r_1 0 [(iv 0),(iv 0),(iv 0),(iv 0),(iv 0),(iv 0)]<|
 aN [af,af,af,af,af,af] (bA r_1 0) λ(res:I6)=>
 Q (res,t6)) (
 aN [af,af,af,af] (bA r 0) λ(t11:I4)=>
 bL (bA r 1) λt13=>
 ij r_1 0 [(iv 2),(iv t11.1),(iv t11.2.1),(iv t11.2.2.1),(iv t11.2.2.2),(iv (aO (4*t13)))]<|
 aN [af,af,af,af,af,af] (bA r_1 0) λ(cE:I6)=>
 Q (cE,0))
theorem Cz(aD aG aP bB Q w)(h:TG aD aG aP bB Q w):Calls Pq 115 #[(.agg #[(iv aD),(iv aG),(iv aP),(iv bB)])] w (aj [.agg [af,af,af,af,af,af],.c af] Q):=cF (an:=TF) Tryz.func115 (by kernel_rfl) h
def TI:An:=(.n (.n (.sq (.jn [(6,.c af)] (.bl (.n (.br .z (.sq (.jn [(12,.c .bool)] .z) (.br .z (.n (.br .z .z)))))))) (.sq (.n (.br (.n .z) .z)) (.n (.n (.n .z)))))))
def TJ(aD:Int)(aG:Int)(aP:Int)(bB:Int)(cW:Int)(eF:Int)(p1:Int)(Q:(I6)×Int->Pr):Pr:=
 nw (.cells #[(iv aD),(iv aG),(iv aP),(iv bB),(iv cW),(iv eF)] 94) λr=>
 nw (.cells #[(iv 0),(iv 0),(iv 0),(iv 0),(iv 0),(iv 0)] 94) λr_1=>
 aN [af,af,af,af,af,af] (bA r 0) λ(t7:I6)=>
 cI 269 [(.agg #[(iv t7.1),(iv t7.2.1),(iv t7.2.2.1),(iv t7.2.2.2.1),(iv t7.2.2.2.2.1),(iv t7.2.2.2.2.2)])] λt8=>
 jn (S:=Int) (λR=>
 br (t8 !=0) (
 R t8) (
 jn (S:=Bool) (λeu=>
 bL (bA r 5) λt15=>
 br (decide (p1<t15)) (
 eu true) (
 eu ((decide (p1>1152921504606846976))))) λs_1=>
 br s_1 (
 R 1) (
 bL (bA r 0) λt23=>
 br (t23==1152921504606846976) (
 R 6) (
 R t8)))) λs=>
 br (s !=0) (
 ij r_1 0 [(iv 0),(iv 0),(iv 0),(iv 0),(iv 0),(iv 0)]<|
 aN [af,af,af,af,af,af] (bA r_1 0) λ(res:I6)=>
 Q (res,s)) (
 bL (bA r 0) λt30=>
 st (bA r 0) (iv (aO (t30+1)))<|
 st (bA r 5) (iv p1)<|
 aN [af,af,af,af,af,af] (bA r 0) λ(t35:I6)=>
 ij r_1 0 [(iv t35.1),(iv t35.2.1),(iv t35.2.2.1),(iv t35.2.2.2.1),(iv t35.2.2.2.2.1),(iv t35.2.2.2.2.2)]<|
 aN [af,af,af,af,af,af] (bA r_1 0) λ(cE:I6)=>
 Q (cE,0))
theorem CB(aD aG aP bB cW eF p1 Q w)(h:TJ aD aG aP bB cW eF p1 Q w):Calls Pq 226 #[(.agg #[(iv aD),(iv aG),(iv aP),(iv bB),(iv cW),(iv eF)]),(iv p1)] w (aj [.agg [af,af,af,af,af,af],.c af] Q):=cF (an:=TI) Tryz.func226 (by kernel_rfl) h
def TK:An:=(.n (.n .z))
def TL(aD:Int)(aG:Int)(aP:Int)(bB:Int)(cW:Int)(eF:Int)(Q:Int->Pr):Pr:=
 nw (.cells #[(iv aD),(iv aG),(iv aP),(iv bB),(iv cW),(iv eF)] 94) λr=>
 bL (bA r 0) λt4=>
 b8 ((2:Int)≠0)<|
 Q (((imax t4 0).tmod 2))
theorem CD(aD aG aP bB cW eF Q w)(h:TL aD aG aP bB cW eF Q w):Calls Pq 202 #[(.agg #[(iv aD),(iv aG),(iv aP),(iv bB),(iv cW),(iv eF)])] w (aj [.c af] Q):=cF (an:=TK) Tryz.func202 (by kernel_rfl) h
def TN:An:=(.n (.sq (.n (.n (.br (.n .z) .z))) (.n (.n (.n (.sq (.n (.bl (.lp [(5,.c .slice),(36,.c af)] (.n (.sq (.br .z .z) (.sq (.bl (.n .z)) .z)))))) (.n (.n (.n .z)))))))))
def TO(aD:Int)(aG:Int)(aP:Int)(bB:Int)(cW:Int)(eF:Int)(Q:Sl×Int->Pr):Pr:=
 nw (.cells #[(iv aD),(iv aG),(iv aP),(iv bB),(iv cW),(iv eF)] 94) λr=>
 aN [af,af,af,af,af,af] (bA r 0) λ(t8:I6)=>
 cI 269 [(.agg #[(iv t8.1),(iv t8.2.1),(iv t8.2.2.1),(iv t8.2.2.2.1),(iv t8.2.2.2.2.1),(iv t8.2.2.2.2.2)])] λt9=>
 br (t9 !=0) (
 Q (⟨none,0,0⟩,t9)) (
 yD 5 1 [(uv 0)] 0 256 λt13=>
 Gk 5 1 1 [(uv 0)] t13 (⟨#[97,116,116,105,99,32,49,10]⟩:ByteArray) λt15=>
 bL (bA r 0) λt18=>
 cS 80 [(iv 8),(.int .u64 (dH t18))] λt20=>
 app 5 1 1 [(uv 0)] t15 t20 λt21=>
 bL (bA r 1) λt24=>
 bL (bA r 2) λt27=>
 bL (bA r 3) λt30=>
 bL (bA r 4) λt33=>
 nw (.cells #[(iv t24),(iv t27),(iv t30),(iv t33)] 3) λr_1=>
 cq (S:=Sl×Int) (λX s=>
 br (decide (s.2<(4:Int))) (
 b8 ((0:Int)<=s.2/\s.2<(4:Int))<|
 bL ((bA r_1 0).add (Int.toNat s.2*1)) λt39=>
 cS 80 [(iv 4),(.int .u64 (dH t39))] λt43=>
 app 5 1 1 [(uv 0)] s.1 t43 λt44=>
 X (t44,(aO (s.2+1)))) (
 bL (bA r 5) λt48=>
 cS 80 [(iv 8),(.int .u64 (dH t48))] λt50=>
 app 5 1 1 [(uv 0)] s.1 t50 λt51=>
 pU 5 1 1 [(uv 0)] t51 (aO (60-(t51.len:Int))) λt56=>
 cS 270 [(slV t56)] λt57=>
 pU 5 1 1 [(uv 0)] t57 (aO (256-(t57.len:Int))) λt62=>
 Q (t62,0))) (t21,0))
theorem CE(aD aG aP bB cW eF Q w)(h:TO aD aG aP bB cW eF Q w):Calls Pq 201 #[(.agg #[(iv aD),(iv aG),(iv aP),(iv bB),(iv cW),(iv eF)])] w (aj [.c .slice,.c af] Q):=cF (an:=TN) Tryz.func201 (by kernel_rfl) h
def TP:An:=(.n (.sq (.n (.br (.n .z) .z)) (.n (.n (.n (.n (.sq (.n (.bl (.lp [(34,.c af)] (.n (.sq (.br .z .z) (.sq (.bl (.n .z)) .z)))))) (.n (.n (.sq (.sq (.jn [(60,.c .bool)] .z) (.br (.n .z) .z)) (.n .z)))))))))))
def TQ(p0:Sl)(Q:(I6)×Int->Pr):Pr:=
 nw (.cells #[(iv 0),(iv 0),(iv 0),(iv 0),(iv 0),(iv 0)] 94) λr=>
 br ((p0.len:Int)!=256) (
 ij r 0 [(iv 0),(iv 0),(iv 0),(iv 0),(iv 0),(iv 0)]<|
 aN [af,af,af,af,af,af] (bA r 0) λ(res:I6)=>
 Q (res,50)) (
 slc 1 p0 (some 8) none none λt16=>
 av Pq 319 [(slV t16)] [.c .ptr] λ(t17:OA)=>
 nw (.cells #[(iv 0),(iv 0),(iv 0),(iv 0),(iv 0),(iv 0)] 94) λr_1=>
 dx Pq (.func (.func 320) #[(.pointer t17)] #[]) [(iv 8)] [.c (.int .u64)] λ(t21:Int)=>
 st (bA r_1 0) (iv (aO t21))<|
 nw (.cells #[(.pointer (some (bA r_1 1))),(.pointer (some (bA r_1 2))),(.pointer (some (bA r_1 3))),(.pointer (some (bA r_1 4)))] 365) λr_2=>
 cq (S:=Int) (λX s=>
 br (decide (s<(4:Int))) (
 b8 ((0:Int)<=s/\s<(4:Int))<|
 uD ((bA r_2 0).add (Int.toNat s*1)) λt37=>
 dx Pq (.func (.func 320) #[(.pointer t17)] #[]) [(iv 4)] [.c (.int .u64)] λ(t40:Int)=>
 deref t37 λnt=>
 st nt (iv (aO t40))<|
 X ((aO (s+1)))) (
 dx Pq (.func (.func 320) #[(.pointer t17)] #[]) [(iv 8)] [.c (.int .u64)] λ(t45:Int)=>
 st (bA r_1 5) (iv (aO t45))<|
 aN [af,af,af,af,af,af] (bA r_1 0) λ(t49:I6)=>
 cO 201 [(.agg #[(iv t49.1),(iv t49.2.1),(iv t49.2.2.1),(iv t49.2.2.2.1),(iv t49.2.2.2.2.1),(iv t49.2.2.2.2.2)])] λt50=>
 jn (S:=Bool) (λR=>
 br (t50.2 !=0) (
 R true) (
 cB 143 [(slV t50.1),(slV p0)] λt58=>
 R (!t58))) λs_1=>
 br s_1 (
 ij r 0 [(iv 0),(iv 0),(iv 0),(iv 0),(iv 0),(iv 0)]<|
 aN [af,af,af,af,af,af] (bA r 0) λ(cE:I6)=>
 Q (cE,50)) (
 aN [af,af,af,af,af,af] (bA r_1 0) λ(t62:I6)=>
 ij r 0 [(iv t62.1),(iv t62.2.1),(iv t62.2.2.1),(iv t62.2.2.2.1),(iv t62.2.2.2.2.1),(iv t62.2.2.2.2.2)]<|
 aN [af,af,af,af,af,af] (bA r 0) λ(gY:I6)=>
 Q (gY,0)))) 0)
theorem CF(p0 Q w)(h:TQ p0 Q w):Calls Pq 298 #[(slV p0)] w (aj [.agg [af,af,af,af,af,af],.c af] Q):=cF (an:=TP) Tryz.func298 (by kernel_rfl) h
def TR:An:=(.n (.n (.sq (.n (.bl (.rf [.c af,.c .slice] (.n .z) (.bl (.n (.sq (.jn [(36,.c .bool)] .z) (.br .z .z))))))) (.sq (.n (.br (.n .z) .z)) (.n .z)))))
def TS(p0:Sl)(p1:Sl)(Q:(I6)×Int->Pr):Pr:=
 nw (.cells #[(iv 0),(iv 0),(iv 0),(iv 0),(iv 0),(iv 0)] 94) λr=>
 nw (.cells #[(iv 0),(iv 0),(iv 0),(iv 0),(iv 0),(iv 0)] 94) λr_1=>
 nw (.cells #[(slV p0),(slV p1)] 40) λr_2=>
 av Pq 297 [(.slice (some ⟨r_2,0,none⟩) 2 2)] [.c .any] λ(t14:Value)=>
 xp Pq t14 [.c af,.c .slice] (λl (z:Int×Sl) bg nx lv=>
 bg (
 av Pq 298 [(slV z.2)] [.agg [af,af,af,af,af,af],.c af] λ(t19:(I6)×Int)=>
 eM 94 [(iv 0),(iv 0),(iv 0),(iv 0),(iv 0),(iv 0)] [(iv t19.1.1),(iv t19.1.2.1),(iv t19.1.2.2.1),(iv t19.1.2.2.2.1),(iv t19.1.2.2.2.2.1),(iv t19.1.2.2.2.2.2)] λr_3=>
 jn (S:=Bool) (λR=>
 br (t19.2==0) (
 aN [af,af,af,af,af,af] (bA r_3 0) λ(t25:I6)=>
 cI 202 [(.agg #[(iv t25.1),(iv t25.2.1),(iv t25.2.2.1),(iv t25.2.2.2.1),(iv t25.2.2.2.2.1),(iv t25.2.2.2.2.2)])] λt26=>
 br (t26==z.1) (
 bL (bA r_3 0) λt32=>
 bL (bA r_1 0) λt34=>
 R ((decide (t32>t34)))) (
 R false)) (
 R false)) λs=>
 br s (
 aN [af,af,af,af,af,af] (bA r_3 0) λ(t37:I6)=>
 ij r_1 0 [(iv t37.1),(iv t37.2.1),(iv t37.2.2.1),(iv t37.2.2.2.1),(iv t37.2.2.2.2.1),(iv t37.2.2.2.2.2)]<|
 nx) (
 nx))) (λD=>
 aN [af,af,af,af,af,af] (bA r_1 0) λ(t38:I6)=>
 br ((t38.1==0)&&(((t38.2.1==0)&&((t38.2.2.1==0)&&((t38.2.2.2.1==0)&&((t38.2.2.2.2.1==0)&&true))))&&((t38.2.2.2.2.2==0)&&true))) (
 aN [af,af,af,af,af,af] (bA r_1 0) λ(t41:I6)=>
 ij r 0 [(iv t41.1),(iv t41.2.1),(iv t41.2.2.1),(iv t41.2.2.2.1),(iv t41.2.2.2.2.1),(iv t41.2.2.2.2.2)]<|
 takes [D]<|
 aN [af,af,af,af,af,af] (bA r 0) λ(res:I6)=>
 Q (res,50)) (
 aN [af,af,af,af,af,af] (bA r_1 0) λ(t42:I6)=>
 ij r 0 [(iv t42.1),(iv t42.2.1),(iv t42.2.2.1),(iv t42.2.2.2.1),(iv t42.2.2.2.2.1),(iv t42.2.2.2.2.2)]<|
 takes [D]<|
 aN [af,af,af,af,af,af] (bA r 0) λ(cE:I6)=>
 Q (cE,0))) (λD=>
 c7) (λD=>[])
theorem CG(p0 p1 Q w)(h:TS p0 p1 Q w):Calls Pq 258 #[(slV p0),(slV p1)] w (aj [.agg [af,af,af,af,af,af],.c af] Q):=cF (an:=TR) Tryz.func258 (by kernel_rfl) h
def TT:An:=(.n (.n .z))
def TU(p0:Sl)(Q:Value->Pr):Pr:=
 b8 (aE (slV p0))<|nw (.cells #[(slV p0)] 118) λr=>
 Q ((.func (.func 318) #[] #[(.pointer (some ⟨r,0,none⟩))]))
theorem CH(p0 Q w)(h:TU p0 Q w):Calls Pq 297 #[(slV p0)] w (aj [.c .any] Q):=cF (an:=TT) Tryz.func297 (by kernel_rfl) h
def TV:An:=(.n (.bl (.lp [(7,.c af)] (.n (.sq (.br .z .z) (.sq (.bl (.n (.n (.br .z .z)))) .z))))))
def TW(p0:Value)(p1:OA)(Q:Unit->Pr):Pr:=
 deref p1 λa=>
 jY a λt5=>
 cq (S:=Int) (λX s=>
 br (decide (s<(t5.len:Int))) (
 el t5 s 1 λa_1=>
 jY a_1 λt11=>
 dx Pq p0 [(iv s),(slV t11)] [.c .bool] λ(t15:Bool)=>
 br (!t15) (
 Q ()) (
 X ((aO (s+1))))) (
 Q ())) 0
theorem CI(p0 p1 Q w)(h:TW p0 p1 Q w):Calls Pq 318 #[p0,(.pointer p1)] w (aj [] Q):=cF (an:=TV) Tryz.func318 (by kernel_rfl) h
def aaA:An:=(.n (.sq (.sq (.jn [(12,.c .bool)] .z) (.br (.n .z) .z)) (.n (.sq (.n (.bl (.lp [(16,.c af)] (.n (.sq (.br .z .z) (.sq (.bl (.n .z)) .z)))))) (.n .z)))))
def F80(p0:Int)(p1:Int)(Q:Sl->Pr):Pr:=
 jn (S:=Bool) (λR=>
 br (decide (p0<1)) (
 R true) (
 R ((decide (p0>8))))) λs=>
 br s (
 Q (⟨none,0,0⟩)) (
 yD 5 1 [(.int .u8 0)] p0 p0 λt14=>
 cq (S:=Int) (λX s_1=>
 br (decide (s_1<p0)) (
 b8 ((0:Int)<=(IntKind.wrap .i64 (8*s_1)))<|
 b8 ((0:Int)<=s_1/\s_1<(t14.len:Int))<|
 deref t14.a λa=>
 deref (some (a.add (Int.toNat s_1*1))) λa_1=>
 st a_1 (.int .u8 (IntKind.wrap .u8 (dJ .u64 p1 (IntKind.wrap .i64 (8*s_1)))))<|
 X ((IntKind.wrap .i64 (s_1+1)))) (
 Q t14)) 0)
theorem GM(p0 p1 Q w)(h:F80 p0 p1 Q w):Calls Pq 80 #[(.int .i64 p0),(.int .u64 p1)] w (aj [.c .slice] Q):=cF (an:=aaA) Tryz.func80 (by kernel_rfl) h
def VF:An:=(.n (.n (.sq (.n (.bl (.lp [(3,.c (.int .u32)),(8,.c af)] (.n (.sq (.br .z .z) (.sq (.bl (.n (.n (.n (.bl (.lp [(3,.c (.int .u32)),(16,.c af)] (.n (.sq (.br .z .z) (.sq (.bl .z) .z))))))))) .z)))))) (.n .z))))
def VG(p0:Sl)(Q:Int->Pr):Pr:=
 cq (S:=Int×Int) (λX s=>
 br (decide (s.2<(p0.len:Int))) (
 b8 ((0:Int)<=s.2/\s.2<(p0.len:Int))<|
 deref p0.a λa=>
 deref (some (a.add (Int.toNat s.2*1))) λa_1=>
 cM (.int .u8) a_1 λ(t11:Int)=>
 cq (S:=Int×Int) (λJm s_1=>
 br (decide (s_1.2<8)) (
 b8 ((0:Int)<=1)<|
 Jm ((sR .u32 (dJ .u32 s_1.1 1) (IntKind.wrap .u32 (2197175160*(gP .u32 s_1.1 1)))),(IntKind.wrap .i64 (s_1.2+1)))) (
 X (s_1.1,(IntKind.wrap .i64 (s.2+1))))) ((sR .u32 s.1 (IntKind.wrap .u32 t11)),0)) (
 Q ((sR .u32 4294967295 s.1)))) (4294967295,0)
theorem Dm(p0 Q w)(h:VG p0 Q w):Calls Pq 305 #[(slV p0)] w (aj [.c (.int .u32)] Q):=cF (an:=VF) Tryz.func305 (by kernel_rfl) h
def VH:An:=(.n (.n .z))
def VI(p0:Sl)(Q:Sl->Pr):Pr:=
 av Pq 305 [(.slice p0.a p0.len p0.cap)] [.c (.int .u32)] λ(t5:Int)=>
 cS 80 [(.int .i64 4),(.int .u64 (IntKind.wrap .u64 t5))] λt7=>
 nw (.cells #[(.slice p0.a p0.len p0.cap),(.slice t7.a t7.len t7.cap)] 40) λr=>
 cS 304 [(.slice (some ⟨r,0,none⟩) 2 2)] λt9=>
 Q t9
theorem Dn(p0 Q w)(h:VI p0 Q w):Calls Pq 270 #[(slV p0)] w (aj [.c .slice] Q):=cF (an:=VH) Tryz.func270 (by kernel_rfl) h
def VJ:An:=(.n (.sq (.sq (.jn [(33,.c .bool)] .z) (.br (.n .z) .z)) (.n (.sq (.n (.bl (.lp [(8,.c (.int .u64)),(35,.c af)] (.n (.sq (.br .z .z) (.sq (.bl (.n .z)) .z)))))) (.n .z)))))
def VK(p0:Sl)(p1:Int)(p2:Int)(Q:Int×Bool->Pr):Pr:=
 jn (S:=Bool) (λR=>
 br (decide (p2<1)) (
 R true) (
 br (decide (p2>8)) (
 R true) (
 br (decide (p1<0)) (
 R true) (
 br (decide (p1>(p0.len:Int))) (
 R true) (
 R ((decide (p2>(IntKind.wrap .i64 ((p0.len:Int)-p1)))))))))) λs=>
 br s (
 Q (0,false)) (
 cq (S:=Int×Int) (λX s_1=>
 br (decide (s_1.2<p2)) (
 b8 ((0:Int)<=(IntKind.wrap .i64 (p1+s_1.2))/\(IntKind.wrap .i64 (p1+s_1.2))<(p0.len:Int))<|
 deref p0.a λa=>
 deref (some (a.add (Int.toNat (IntKind.wrap .i64 (p1+s_1.2))*1))) λa_1=>
 cM (.int .u8) a_1 λ(t44:Int)=>
 b8 ((0:Int)<=(IntKind.wrap .i64 (8*s_1.2)))<|
 X ((AF .u64 s_1.1 (iW .u64 (IntKind.wrap .u64 t44) (IntKind.wrap .i64 (8*s_1.2)))),(IntKind.wrap .i64 (s_1.2+1)))) (
 Q (s_1.1,true))) (0,0))
theorem Dp(p0 p1 p2 Q w)(h:VK p0 p1 p2 Q w):Calls Pq 141 #[(slV p0),(.int .i64 p1),(.int .i64 p2)] w (aj [.c (.int .u64),.c .bool] Q):=cF (an:=VJ) Tryz.func141 (by kernel_rfl) h
def SX:An:=(.n (.n (.sq (.n (.bl (.lp [(3,.c af),(11,.c af)] (.n (.sq (.br .z .z) (.sq (.jn [(3,.c af)] (.bl (.n (.n (.n (.br .z .z)))))) .z)))))) (.n (.sq (.n (.bl (.lp [(6,.c .slice),(27,.c af)] (.n (.sq (.br .z .z) (.sq (.bl (.n .z)) .z)))))) (.n .z))))))
def SY(p0:Sl)(Q:Sl->Pr):Pr:=
 cq (S:=Int×Int) (λX s=>
 br (decide (s.2<(p0.len:Int))) (
 jn (S:=Int) (λR=>
 b8 ((0:Int)<=s.2/\s.2<(p0.len:Int))<|
 deref p0.a λa=>
 deref (some (a.add (Int.toNat s.2*1))) λa_1=>
 cM .slice a_1 λ(t14:Sl)=>
 br (decide ((IntKind.wrap .i64 (s.1+(t14.len:Int)))<0)) (
 c7) (
 R ((IntKind.wrap .i64 (s.1+(t14.len:Int)))))) λs_1=>
 X (s_1,(IntKind.wrap .i64 (s.2+1)))) (
 cS 323 [(.slice none 0 0),(.int .i64 s.1)] λt24=>
 cq (S:=Sl×Int) (λJm s_2=>
 br (decide (s_2.2<(p0.len:Int))) (
 b8 ((0:Int)<=s_2.2/\s_2.2<(p0.len:Int))<|
 deref p0.a λa_2=>
 deref (some (a_2.add (Int.toNat s_2.2*1))) λiA=>
 cM .slice iA λ(t30:Sl)=>
 app 5 1 1 [(.int .u8 0)] s_2.1 t30 λt33=>
 Jm (t33,(IntKind.wrap .i64 (s_2.2+1)))) (
 Q s_2.1)) (t24,0))) (0,0)
theorem Cg(p0 Q w)(h:SY p0 Q w):Calls Pq 304 #[(slV p0)] w (aj [.c .slice] Q):=cF (an:=SX) Tryz.func304 (by kernel_rfl) h
def SZ:An:=(.n (.sq (.jn [] (.n (.br .z .z))) (.sq (.n (.n (.br .z .z))) (.n .z))))
def S0(p0:Sl)(p1:Int)(Q:Sl->Pr):Pr:=
 jn (S:=Unit) (λR=>
 br (decide (p1<0)) (
 c7) (
 R ())) λs=>
 br (decide ((IntKind.wrap .i64 (p1-(IntKind.wrap .i64 ((p0.cap:Int)-(p0.len:Int)))))>0)) (
 slc 1 p0 none (some (p0.cap:Int)) none λt20=>
 pU 5 1 1 [(.int .u8 0)] t20 (IntKind.wrap .i64 (p1-(IntKind.wrap .i64 ((p0.cap:Int)-(p0.len:Int))))) λt22=>
 slc 1 t22 none (some (p0.len:Int)) none λt25=>
 Q t25) (
 Q p0)
theorem Ch(p0 p1 Q w)(h:S0 p0 p1 Q w):Calls Pq 323 #[(slV p0),(.int .i64 p1)] w (aj [.c .slice] Q):=cF (an:=SZ) Tryz.func323 (by kernel_rfl) h
set_option maxRecDepth 20000
def aZ(n v:Nat):LB:=(List.range n).map λi=>UInt8.ofNat (v/2^(8*i))
@[simp]theorem bn(n v:Nat):(aZ n v).length=n:=by simp[aZ]
def oe:LB->Nat
 |[]=>0
 |b::l=>b.toNat+256*oe l
def me(s:Nat):Nat:=if s%2=1 then(s/2)^^^2197175160 else s/2
def Ac:Nat->Nat->Nat
 |0,s=>s
 |k+1,s=>Ac k (me s)
def sK:LB->Nat->Nat
 |[],s=>s
 |b::l,s=>sK l (Ac 8 (s^^^b.toNat))
def sZ(l:LB):Nat:=4294967295^^^sK l 4294967295
theorem Dq{s:Nat}(h:s<2^32):me s<2^32:=by
 unfold me;split
 ·exact Nat.xor_lt_two_pow (by omega) (by decide)
 ·omega
theorem yj{s:Nat}:∀(k:Nat),s<2^32->Ac k s<2^32
 |0,h=>h
 |k+1,h=>by unfold Ac;exact yj k (Dq h)
theorem GN(k s:Nat):Ac (k+1) s=me (Ac k s):=by
 induction k generalizing s with
 |zero=>rfl
 |
  succ k ih=>
  show Ac (k+1) (me s)=_;rw[ih];rfl
theorem vf:∀(l:LB) {s:Nat},s<2^32->sK l s<2^32
 |[],_,h=>h
 |
  b::l,s,h=>by
  unfold sK;refine vf l (yj 8 (Nat.xor_lt_two_pow h ?_));have:=b.toNat_lt;omega
theorem Fe(l:LB):sZ l<2^32:=Nat.xor_lt_two_pow (by decide) (vf l (by decide))
theorem yl(l m:LB)(s:Nat):sK (l++m) s=sK m (sK l s):=by
 induction l generalizing s with
 |nil=>rfl
 |cons b l ih=>exact ih _
theorem wX(j v:Nat):aZ (j+1) v=aZ j v++[UInt8.ofNat (v/2^(8*j))]:=by
 unfold aZ;rw[List.range_succ,jk];rfl
theorem aaB{v j:Nat}(hj:j<8):IntKind.wrap .u8 (dJ .u64 (v:Int) ((8*j:Nat):Int))=(((v/2^(8*j))%256:Nat):Int):=by
 rw[iV,mO];simp only[IntKind.bits];rw[Nat.min_eq_left (by omega)];omega
theorem Qt(n v:Nat)(w:World)(h1:1<=n)(h8:n<=8):Calls Pq 80 #[.int .i64 n,.int .u64 v] w (aj [.c .slice] λr w'=>St aM w w' [az 1 r ((aZ n v).map ub)]):=by
 refine GM n v _ _ ?_;unfold F80;simp only[ah];refine aF (λb W=>b=false/\w=W) (aB (by simp;omega) ⟨by simp;omega,rfl⟩) ?_;rintro _ _ ⟨rfl,rfl⟩;refine aB rfl ?_;refine(St.bh w).yT n rfl rfl (by omega) (by omega) λt w1 s1 qw=>?_;rw[xu]at s1;refine aU (λz W=>∃j:Nat,z=j/\j<=n/\St aM w W [az 1 t ((aZ j v++List.replicate (n-j) 0).map ub)]) (λz _=>n-z.toNat) ⟨0,rfl,by omega,?_⟩ ?_
 ·have:(aZ 0 v++List.replicate (n-0) 0).map ub=List.replicate n (.int .u8 0):=by simp[aZ,ub]
  rw[this];exact s1
 rintro _ W ⟨j,rfl,hj,s2⟩;refine ax (λhlt=>?_) (λhge=>?_)
 ·simp only[jb]at hlt
  have hjn:j<n:=by omega
  rw[wrap_i64 (by omega),show(8*(j:Int))=((8*j:Nat):Int) by omega,aaB (by omega)];refine⟨by omega,⟨by omega,by omega⟩,?_⟩;rw[jl];refine EI s2 (by simp;omega) trivial λw3 s3=>?_;rw[jD (by omega)];refine⟨⟨j+1,rfl,by omega,?_⟩,by omega⟩;have:((aZ j v++List.replicate (n-j) 0).map ub).set j (.int .u8 ((v/2^(8*j)%256:Nat):Int))=(aZ (j+1) v++List.replicate (n-(j+1)) 0).map ub:=by
   rw[<-iX,<-List.map_set,wX,List.set_append_right _ _ (by simp)];rw[show n-j=(n-(j+1))+1 by omega,List.replicate_succ];simp
  rw[<-this];exact s3
 ·simp only[ja]at hge
  have:j=n:=by omega
  subst this;simpa using s2
theorem VL{s:Nat}(h:s<2^32):sR .u32 (dJ .u32 (s:Int) 1) (IntKind.wrap .u32 (2197175160*(gP .u32 (s:Int) 1)))=((me s:Nat):Int):=by
 have h1:dJ .u32 (s:Int) 1=((s/2:Nat):Int):=iV .u32 s 1;have h2:gP .u32 (s:Int) 1=((s%2:Nat):Int):=by
  have:=yF (x:=s) (y:=1) h (by decide);rw[and_1]at this;exact this
 rw[h1,h2,fc];unfold me;rcases Nat.mod_two_eq_zero_or_one s with h3|h3
 ·rw[jc (by omega),h3]
  have:=oW (x:=s/2) (y:=0) (by omega) (by decide);rw[Nat.xor_zero]at this;exact this
 ·rw[jd h3,h3]
  exact oW (x:=s/2) (y:=2197175160) (by omega) (by decide)
theorem Y51(s:Sl)(l:LB)(w:World)(hs:BS w s l)(hl:l.length<=1000000000):Calls Pq 305 #[.slice s.a s.len s.cap] w (aj [.c (.int .u32)] λr w'=>r=(sZ l:Nat)/\w=w'):=by
 refine Dm s _ _ ?_;unfold VG;simp only[ah];have fV:=hs.len;refine aU (λz W=>∃(j c:Nat),z.2=j/\j<=l.length/\z.1=c/\c=sK (l.take j) 4294967295/\w=W) (λz _=>l.length-z.2.toNat) ⟨0,_,rfl,by omega,rfl,rfl,rfl⟩ ?_;rintro⟨_,_⟩ W ⟨j,c,rfl,hj,rfl,hc,rfl⟩;dsimp only;have Pm:c<2^32:=by rw[hc];exact vf _ (by decide)
 refine ax (λhlt=>?_) (λhge=>?_)
 ·simp only[jb]at hlt
  have hjl:j<l.length:=by omega
  refine⟨⟨by omega,by omega⟩,?_⟩;rw[jl];refine BS.at hs hjl ?_;have hb:=l[j].toNat_lt;rw[fc,show((l[j].toNat:Int)%4294967296)=(l[j].toNat:Int) by omega,oW Pm (by omega)];have hx:c^^^l[j].toNat<2^32:=Nat.xor_lt_two_pow Pm (by omega);refine aU (λz W=>∃(i:Nat),z.2=i/\i<=8/\z.1=(Ac i (c^^^l[j].toNat):Nat)/\w=W) (λz _=>8-z.2.toNat) ⟨0,rfl,by omega,rfl,rfl⟩ ?_;rintro⟨_,_⟩ W ⟨i,rfl,hi,rfl,rfl⟩;dsimp only;refine ax (λhlt=>?_) (λhge=>?_)
  ·simp only[jb]at hlt
   refine⟨by decide,?_⟩;rw[VL (yj _ hx),jD (by omega),<-GN];exact⟨⟨i+1,rfl,by omega,rfl,rfl⟩,by omega⟩
  ·simp only[ja]at hge
   have:i=8:=by omega
   subst this;rw[jD (by omega)];refine⟨⟨j+1,_,rfl,by omega,rfl,?_,rfl⟩,by omega⟩;rw[List.take_add_one,jo hjl,yl,<-hc];rfl
 ·simp only[ja]at hge
  rw[List.take_of_length_le (by omega)]at hc;have:=oW (x:=4294967295) (y:=c) (by decide) Pm;refine⟨Eq.trans this ?_,rfl⟩;rw[hc];rfl
theorem vg(l m:LB):oe (l++m)=oe l+2^(8*l.length)*oe m:=by
 induction l with
 |nil=>simp[oe]
 |
  cons b l ih=>
  simp only[List.cons_append,oe,ih,List.length_cons];rw[show 8*(l.length+1)=8+8*l.length by omega,Nat.pow_add,Nat.mul_add,Nat.mul_assoc];omega
theorem ym(l:LB):oe l<2^(8*l.length):=by
 induction l with
 |nil=>simp[oe]
 |
  cons b l ih=>
  simp only[oe,List.length_cons];have:=b.toNat_lt;rw[show 8*(l.length+1)=8+8*l.length by omega,Nat.pow_add];omega
theorem qf(n v:Nat):oe (aZ n v)=v%2^(8*n):=by
 induction n with
 |zero=>simp[aZ,oe,Nat.mod_one]
 |
  succ n ih=>
  rw[wX,vg,ih,bn];simp only[oe];rw[show 8*(n+1)=8*n+8 by omega,Nat.pow_add,Nat.mod_mul];simp
theorem VM(s:Sl)(l:LB)(o n:Nat)(w:World)(hs:BS w s l)(h1:1<=n)(h8:n<=8)(ho:o+n<=l.length)(hl:l.length<=1000000000):
 Calls Pq 141 #[.slice s.a s.len s.cap,.int .i64 o,.int .i64 n] w (aj [.c (.int .u64),.c .bool] λr w'=>r.1=(oe ((l.drop o).take n):Nat)/\r.2=true/\w=w'):=by
 refine Dp s o n _ _ ?_;unfold VK;simp only[ah];have fV:=hs.len;refine aF (λb W=>b=false/\w=W) ?_ ?_
 ·refine aB (by simp;omega) (aB (by simp;omega) (aB (by simp) (aB (by simp;omega) ⟨?_,rfl⟩)))
  rw[wrap_i64 (by omega)];simp;omega
 rintro _ _ ⟨rfl,rfl⟩;refine aB rfl ?_;refine aU (λz W=>∃(i:Nat),z.2=i/\i<=n/\z.1=(oe ((l.drop o).take i):Nat)/\w=W) (λz _=>n-z.2.toNat) ⟨0,rfl,by omega,by simp[oe],rfl⟩ ?_;rintro⟨_,_⟩ W ⟨i,rfl,hi,rfl,rfl⟩;dsimp only;refine ax (λhlt=>?_) (λhge=>?_)
 ·simp only[jb]at hlt
  have hin:i<n:=by omega
  rw[wrap_i64 (show _ by omega),show((o:Int)+(i:Int))=((o+i:Nat):Int) by omega];refine⟨⟨by omega,by omega⟩,?_⟩;rw[jl];refine BS.at hs (show o+i<l.length by omega) ?_;rw[wrap_i64 (show _ by omega),show(8*(i:Int))=((8*i:Nat):Int) by omega];refine⟨by omega,?_⟩;have hb:=l[o+i].toNat_lt;have oq:(l.drop o).take i++[l[o+i]]=(l.drop o).take (i+1):=by
   rw[List.take_add_one,List.getElem?_drop,jo (by omega)];rfl
  have hlen:((l.drop o).take i).length=i:=by simp;omega
  have FF:=ym ((l.drop o).take i);rw[hlen]at FF;have hle:oe ((l.drop o).take (i+1))=oe ((l.drop o).take i)+l[o+i].toNat*2^(8*i):=by
   rw[<-oq,vg,hlen];simp only[oe];rw[Nat.mul_zero,Nat.add_zero,Nat.mul_comm]
  have hlt3:=ym ((l.drop o).take (i+1));have VN:((l.drop o).take (i+1)).length=i+1:=by simp;omega
  rw[VN,hle]at hlt3;have Tn:2^(8*(i+1))<=2^64:=Nat.pow_le_pow_right (by decide) (by omega);have hu:IntKind.wrap .u64 (l[o+i].toNat:Int)=(l[o+i].toNat:Int):=by rw[iQ];omega
  have R4:=tL (x:=l[o+i].toNat) (y:=8*i) (by omega) (by omega);rw[hu,R4,xk (by omega) (by omega),qx FF,<-hle,jD (by omega)];exact⟨⟨i+1,rfl,by omega,rfl,rfl⟩,by omega⟩
 ·simp only[ja]at hge
  have:i=n:=by omega
  subst this;exact⟨rfl,trivial,rfl⟩
theorem Y77(n:Int)(w:World)(h0:0<=n)(h1:n<=1000000000):Calls Pq 323 #[.slice none 0 0,.int .i64 n] w (aj [.c .slice] λr w'=>St aM w w' [az 1 r []]):=by
 refine Ch ⟨none,0,0⟩ n _ _ ?_;unfold S0;refine aF (λ_ w'=>w=w') (aB (by simpa using h0) rfl) ?_;rintro⟨⟩ _ rfl;have hw:IntKind.wrap .i64 (n-IntKind.wrap .i64 (((0:Nat):Int)-((0:Nat):Int)))=n:=by
  rw[show IntKind.wrap .i64 (((0:Nat):Int)-((0:Nat):Int))=0 from rfl,wrap_i64 (by omega)];omega
 rw[hw];refine ax (λh=>?_) (λh=>(St.bh w).gh 1);simp only[gt_iff_lt,jb]at h;refine xY (by decide) (by decide) ?_;simp only[jl,if_true];refine⟨h0,by omega,wrap_i64 (by omega),λhroom=>?_,λ_=>⟨[],λh=>by simp at h,rfl,?_,?_,?_⟩⟩
 ·have:0+n.toNat<=0:=hroom
  omega
 ·have:=nextslicecap_le (show 0<0+n.toNat by omega)
  show Builtin.nextslicecap (0+n.toNat) 0*1<=2^48;omega
 ·show 0+n.toNat<2^63
  omega
 intro cap hc1 jT;dsimp only at hc1 jT⊢;refine xY (by decide) (by dsimp only;omega) ?_;simp only[gq,ite_self];refine(St.bh w).mS ((Mod.refl _ w).drew.alloc _) ?_;generalize hL:([]++zc [.int .u8 0] n.toNat++zc [.int .u8 0] (cap-(0+n.toNat)):LV)=L;have hLl:L.length=cap*1:=by rw[<-hL];simp only[List.nil_append,jh,eo,List.length_cons,List.length_nil];omega
 refine⟨by simp,by simp,.inr ⟨w.heap.size,0,L,rfl,Nat.le_refl _,by simp,λo _ _=>?_,?_,by simpa using hLl⟩⟩
 ·exact World.frozen?_alloc_new w.drew _ _ o
 ·intro j v hj
  rw[gd,Nat.zero_add];have:=World.cell?_alloc_new w.drew L.toArray 5 j;rw[World.size_drew]at this;rw[this];simpa using hj
theorem Y49(r:Nat)(s t:Sl)(l m:LB)(w:World)(hb:gH w r [slV s,slV t])(hs:BS w s l)(ht:BS w t m)(hl:l.length<=100000000)(hm:m.length<=100000000):
 Calls Pq 304 #[.slice (some ⟨r,0,none⟩) 2 2] w (aj [.c .slice] λq w'=>St aM w w' [az 1 q ((l++m).map ub)]):=by
 refine Cg ⟨some ⟨r,0,none⟩,2,2⟩ _ _ ?_;unfold SY;simp only[ah];have fV:=hs.len;have qw:=ht.len;have ld:∀(W:World) (j:Nat) (k:Sl->Pr),Grow w W->j<2->k (if j=0 then s else t) W->cM .slice (Addr.add ⟨r,0,none⟩ (Int.toNat (j:Int)*1)) k W:=by
  intro W j k g hj hk;rw[jl,Nat.mul_one];refine(hb.grow g).ld (s:=.slice) (p:=if j=0 then s else t) ?_ hk
  match j,hj with
  |0,_=>rfl
  |1,_=>rfl
 refine aU (λz W=>∃j:Nat,z.2=j/\j<=2/\z.1=((if j=0 then 0 else if j=1 then l.length else l.length+m.length:Nat):Int)/\w=W) (λz _=>2-z.2.toNat) ⟨0,rfl,by omega,rfl,rfl⟩ ?_;rintro⟨_,_⟩ W ⟨j,rfl,hj,rfl,rfl⟩;dsimp only;refine ax (λhlt=>?_) (λhge=>?_)
 ·simp only[jb]at hlt
  have hj2:j<2:=by omega
  refine aF (λn W=>n=((if j+1=1 then l.length else l.length+m.length:Nat):Int)/\w=W) ?_ ?_
  ·refine⟨⟨by omega,by omega⟩,ld w j _ (Mod.refl _ _) hj2 ?_⟩
   have:IntKind.wrap .i64 (((if j=0 then 0 else if j=1 then l.length else l.length+m.length:Nat):Int)+((if j=0 then s else t).len:Int))=((if j+1=1 then l.length else l.length+m.length:Nat):Int):=by
    match j,hj2 with
    |0,_=>simp[fV];rw[wrap_i64 (by omega)]
    |1,_=>simp[qw];rw[wrap_i64 (by omega)]
   rw[this];refine aB (by simp only[ja];split<;>omega) ⟨rfl,rfl⟩
  ·rintro _ _ ⟨rfl,rfl⟩
   rw[jD (by omega)];refine⟨⟨j+1,rfl,by omega,?_,rfl⟩,by omega⟩;rw[jc (by omega:¬j+1=0)]
 ·simp only[ja]at hge
  have:j=2:=by omega
  subst this;refine aa (Y77 _ w (by simp;omega) (by simp;omega)) ?_;rintro q w1 s1;have aaC:∀j,j<=2->(if j=0 then[]else if j=1 then l else l++m).length<=200000000:=by
   intro j _;split
   ·simp
   ·split
    ·omega
    ·simp;omega
  refine aU (λz W=>∃j:Nat,z.2=j/\j<=2/\St aM w W [az 1 z.1 ((if j=0 then[]else if j=1 then l else l++m).map ub)]) (λz _=>2-z.2.toNat) ⟨0,rfl,by omega,s1⟩ ?_;rintro⟨u,_⟩ W ⟨j,rfl,hj,s2⟩;dsimp only at s2⊢;refine ax (λhlt=>?_) (λhge=>?_)
  ·simp only[jb]at hlt
   have hj2:j<2:=by omega
   refine⟨⟨by omega,by omega⟩,ld W j _ s2.cw hj2 ?_⟩;have L9:=bS s2.sl;rw[je]at L9;have:=aaC j (by omega);have hx:BS W (if j=0 then s else t) (if j=0 then l else m):=by
    split
    ·exact hs.grow s2.cw
    ·exact ht.grow s2.cw
   have iF:=hx.len;have hle:(if j=0 then l else m).length<=100000000:=by split<;>omega
   refine s2.app (new:=(if j=0 then l else m).map ub) (λ_=>by rw[je];omega) hx.cQ hx.row iR rfl (by decide) (by omega) λr2 w3 s3 _=>?_;rw[jD (by omega)];refine⟨⟨j+1,rfl,by omega,?_⟩,by omega⟩
   match j,hj2,s3 with
   |0,_,s3=>exact s3
   |
    1,_,s3=>
    simpa using s3
  ·simp only[ja]at hge
   have:j=2:=by omega
   subst this;exact s2
def sA(l:LB):LB:=l++aZ 4 (sZ l)
theorem Y27(s:Sl)(l:LB)(w:World)(hs:BS w s l)(hl:l.length<=100000000):Calls Pq 270 #[.slice s.a s.len s.cap] w (aj [.c .slice] λq w'=>St aM w w' [az 1 q ((sA l).map ub)]):=by
 refine Dn s _ _ ?_;unfold VI;refine aa (Y51 s l w hs (by omega)) ?_;rintro _ _ ⟨rfl,rfl⟩;have:=Fe l;rw[iQ,show(((sZ l:Nat):Int)%18446744073709551616)=((sZ l:Nat):Int) by omega];refine aa (Qt 4 (sZ l) w (by decide) (by decide)) λt w1 s1=>?_;refine St.nw s1 λr w2 s2 g2 _=>?_;have jO:=hs.grow s2.cw;have ht2:=(s2.aq 1).sl.bs;refine aa (Y49 r s t l (aZ 4 (sZ l)) w2 s2.box jO ht2 hl (by simp)) λq w3 s3=>?_;exact St.yS (l:=[_]) (s2.bC s3)
set_option maxRecDepth 100000
def Tq:An:=(.n (.sq (.bl (.sq (.jn [] (.bl (.bl (.bl (.sq (.sq (.n (.br .z .z)) (.sq (.n (.br .z .z)) (.n (.br .z .z)))) .z))))) (.sq (.n .z) .z))) (.sq (.n (.sq (.jn [(31,.c .bool)] .z) (.br (.n .z) .z))) (.n .z))))
def Tr(aD:Int)(aG:Int)(aP:Int)(bB:Int)(Q:Int->Pr):Pr:=
 nw (.cells #[(iv aD),(iv aG),(iv aP),(iv bB)] 30) λr=>
 jn (S:=Unit) (λR=>
 bL (bA r 1) λt6=>
 cB 234 [(iv t6),(iv 8),(iv 256)] λt7=>
 br (!t7) (
 R ()) (
 bL (bA r 2) λt11=>
 cB 234 [(iv t11),(iv 1),(iv 64)] λt12=>
 br (!t12) (
 R ()) (
 bL (bA r 3) λt16=>
 cB 234 [(iv t16),(iv 1),(iv 256)] λt17=>
 br (!t17) (
 R ()) (
 aN [af,af,af,af] (bA r 0) λ(t19:I4)=>
 av Pq 198 [(.agg #[(iv t19.1),(iv t19.2.1),(iv t19.2.2.1),(iv t19.2.2.2)])] [.agg [af,af,af,af,af,af]] λ(t20:I6)=>
 eM 69 [(iv 0),(iv 0),(iv 0),(iv 0),(iv 0),(iv 0)] [(iv t20.1),(iv t20.2.1),(iv t20.2.2.1),(iv t20.2.2.2.1),(iv t20.2.2.2.2.1),(iv t20.2.2.2.2.2)] λr_1=>
 jn (S:=Bool) (λeu=>
 bL (bA r 0) λt22=>
 bL (bA r_1 5) λt24=>
 cB 234 [(iv t22),(iv t24),(iv 2048)] λt25=>
 br (!t25) (
 eu true) (
 aN [af,af,af,af,af,af] (bA r_1 0) λ(t28:I6)=>
 eu (((t28.1==0)&&((t28.2.1==0)&&((t28.2.2.1==0)&&((t28.2.2.2.1==0)&&((t28.2.2.2.2.1==0)&&((t28.2.2.2.2.2==0)&&true))))))))) λs_1=>
 br s_1 (
 Q 40) (
 Q 0))))) λs=>
 Q 40
theorem Ct(aD aG aP bB Q w)(h:Tr aD aG aP bB Q w):Calls Pq 197 #[(.agg #[(iv aD),(iv aG),(iv aP),(iv bB)])] w (aj [.c af] Q):=cF (an:=Tq) Tryz.func197 (by kernel_rfl) h
def Ts:An:=(.n (.n (.n (.sq (.jn [] .z) (.sq (.jn [] .z) (.n (.n (.n .z))))))))
def Tt(aD:Int)(aG:Int)(aP:Int)(bB:Int)(Q:I6->Pr):Pr:=
 nw (.cells #[(iv aD),(iv aG),(iv aP),(iv bB)] 30) λr=>
 nw (.cells #[(iv 0),(iv 0),(iv 0),(iv 0),(iv 0),(iv 0)] 69) λr_1=>
 eM 69 [(iv 0),(iv 0),(iv 0),(iv 0),(iv 0),(iv 0)] [(iv 3),(iv 0),(iv 0),(iv 0),(iv 0),(iv 0)] λr_2=>
 bL (bA r_2 0) λt6=>
 bL (bA r 1) λt8=>
 st (bA r_2 1) (iv (aO (t6+t8)))<|
 jn (S:=Unit) (λR=>
 fJ<|
 bL (bA r 3) λt14=>
 both (
 bL (bA r_2 1) λt12=>
 cI 266 [(iv t14),(iv 32)] λt15=>
 st (bA r_2 2) (iv (aO (t12+t15)))<|
 R ()) (
 cI 266 [(iv t14),(iv 32)] λTu=>
 bL (bA r_2 1) λTv=>
 st (bA r_2 2) (iv (aO (Tv+Tu)))<|
 R ())) λs=>
 jn (S:=Unit) (λeu=>
 fJ<|
 bL (bA r 3) λt21=>
 both (
 bL (bA r_2 2) λt19=>
 cI 266 [(iv t21),(iv 64)] λt22=>
 st (bA r_2 3) (iv (aO (t19+t22)))<|
 eu ()) (
 cI 266 [(iv t21),(iv 64)] λE9=>
 bL (bA r_2 2) λJZ=>
 st (bA r_2 3) (iv (aO (JZ+E9)))<|
 eu ())) λs_1=>
 bL (bA r_2 3) λt26=>
 bL (bA r 2) λt28=>
 st (bA r_2 4) (iv (aO (t26+t28)))<|
 bL (bA r_2 4) λt32=>
 bL (bA r 3) λt34=>
 st (bA r_2 5) (iv (aO (t32+(aO (t34*4)))))<|
 aN [af,af,af,af,af,af] (bA r_2 0) λ(t38:I6)=>
 ij r_1 0 [(iv t38.1),(iv t38.2.1),(iv t38.2.2.1),(iv t38.2.2.2.1),(iv t38.2.2.2.2.1),(iv t38.2.2.2.2.2)]<|
 aN [af,af,af,af,af,af] (bA r_1 0) λ(res:I6)=>
 Q (res)
theorem Cu(aD aG aP bB Q w)(h:Tt aD aG aP bB Q w):Calls Pq 198 #[(.agg #[(iv aD),(iv aG),(iv aP),(iv bB)])] w (aj [.agg [af,af,af,af,af,af]] Q):=cF (an:=Ts) Tryz.func198 (by kernel_rfl) h
def Tx:An:=(.n (.n .z))
def Ty(p0:Int)(p1:Int)(p2:Int)(Q:Bool->Pr):Pr:=
 br (decide (p0>=p1)) (
 Q ((decide (p0<=p2)))) (
 Q false)
theorem Cv(p0 p1 p2 Q w)(h:Ty p0 p1 p2 Q w):Calls Pq 234 #[(iv p0),(iv p1),(iv p2)] w (aj [.c .bool] Q):=cF (an:=Tx) Tryz.func234 (by kernel_rfl) h
def Tz:An:=(.n (.n .z))
def TA(p0:Int)(p1:Int)(Q:Int->Pr):Pr:=
 b8 ((p1:Int)≠0)<|
 Q ((aO ((aO ((aO (p0+p1))-1)).tdiv p1)))
theorem Cw(p0 p1 Q w)(h:TA p0 p1 Q w):Calls Pq 266 #[(iv p0),(iv p1)] w (aj [.c af] Q):=cF (an:=Tz) Tryz.func266 (by kernel_rfl) h
def TB:An:=(.n (.sq (.n (.n (.br (.n .z) .z))) (.n .z)))
def TC(aD:Int)(aG:Int)(aP:Int)(bB:Int)(Q:(I6)×Int->Pr):Pr:=
 nw (.cells #[(iv aD),(iv aG),(iv aP),(iv bB)] 30) λr=>
 nw (.cells #[(iv 0),(iv 0),(iv 0),(iv 0),(iv 0),(iv 0)] 69) λr_1=>
 aN [af,af,af,af] (bA r 0) λ(t5:I4)=>
 cI 197 [(.agg #[(iv t5.1),(iv t5.2.1),(iv t5.2.2.1),(iv t5.2.2.2)])] λt6=>
 br (t6 !=0) (
 ij r_1 0 [(iv 0),(iv 0),(iv 0),(iv 0),(iv 0),(iv 0)]<|
 aN [af,af,af,af,af,af] (bA r_1 0) λ(res:I6)=>
 Q (res,t6)) (
 aN [af,af,af,af] (bA r 0) λ(t11:I4)=>
 av Pq 198 [(.agg #[(iv t11.1),(iv t11.2.1),(iv t11.2.2.1),(iv t11.2.2.2)])] [.agg [af,af,af,af,af,af]] λ(t12:I6)=>
 ij r_1 0 [(iv t12.1),(iv t12.2.1),(iv t12.2.2.1),(iv t12.2.2.2.1),(iv t12.2.2.2.2.1),(iv t12.2.2.2.2.2)]<|
 aN [af,af,af,af,af,af] (bA r_1 0) λ(cE:I6)=>
 Q (cE,0))
theorem Cx(aD aG aP bB Q w)(h:TC aD aG aP bB Q w):Calls Pq 112 #[(.agg #[(iv aD),(iv aG),(iv aP),(iv bB)])] w (aj [.agg [af,af,af,af,af,af],.c af] Q):=cF (an:=TB) Tryz.func112 (by kernel_rfl) h
set_option maxRecDepth 20000
abbrev mD:=I4
abbrev cx:=I6
abbrev mD.v(g:mD):Value:=.agg #[iv g.1,iv g.2.1,iv g.2.2.1,iv g.2.2.2]
abbrev fE(g:mD):LV:=[iv g.1,iv g.2.1,iv g.2.2.1,iv g.2.2.2]
abbrev aA(p:cx):LV:=[iv p.1,iv p.2.1,iv p.2.2.1,iv p.2.2.2.1,iv p.2.2.2.2.1,iv p.2.2.2.2.2]
def qh(g:mD):Prop:=(8<=g.2.1/\g.2.1<=256)/\(1<=g.2.2.1/\g.2.2.1<=64)/\1<=g.2.2.2/\g.2.2.2<=256
instance(g:mD):Decidable (qh g):=by unfold qh;exact inferInstance
def bW(g:mD):cx:=
 let t:=3+g.2.1;let m:=t+(g.2.2.2+31)/32;let d:=m+(g.2.2.2+63)/64;let h:=d+g.2.2.1
 (3,t,m,d,h,h+g.2.2.2*4)
def fH(g:mD):Int:=if qh g/\(bW g).2.2.2.2.2<=g.1/\g.1<=2048 then 0 else 40
def ri(g:mD):cx×Int:=if fH g=0 then(bW g,0)else((0,0,0,0,0,0),40)
theorem NI(l:List Int):∀v∈l.map iv,aE v:=by
 intro v hv;obtain⟨b,_,rfl⟩:=ki.1 hv;trivial
theorem gG(p:cx):∀v∈aA p,aE v:=NI [p.1,p.2.1,p.2.2.1,p.2.2.2.1,p.2.2.2.2.1,p.2.2.2.2.2]
theorem VX(g:mD):∀v∈fE g,aE v:=NI [g.1,g.2.1,g.2.2.1,g.2.2.2]
theorem nE{a:Int}(h:0<=a)(n:Int):a.tdiv n=a/n:=Int.tdiv_eq_ediv_of_nonneg h
theorem Af(a b c:Int)(w:World):Calls Pq 234 #[iv a,iv b,iv c] w (aj [.c .bool] λr w'=>r=decide (b<=a/\a<=c)/\w=w'):=by
 refine Cv a b c _ _ ?_;unfold Ty;refine ax (λh=>⟨?_,rfl⟩) λh=>⟨?_,rfl⟩
 ·simp only[jb]at h
  exact decide_eq_decide.2 ⟨λh2=>⟨h,h2⟩,λh2=>h2.2⟩
 ·simp only[ja]at h
  symm;rw[ja];omega
theorem Me(n e:Int)(w:World)(hn:0<=n/\n<=256)(he:1<=e/\e<=1000):Calls Pq 266 #[iv n,iv e] w (aj [.c af] λr w'=>r=(n+e-1)/e/\w=w'):=by
 refine Cw n e _ _ ?_;unfold TA;have h1:(n+e-1)/e<=n+e-1:=Int.ediv_le_self _ (by omega);have h2:0<=(n+e-1)/e:=Int.ediv_nonneg (by omega) (by omega);refine⟨by omega,?_,rfl⟩;rw[aH (n:=n+e) ⟨by omega,by omega⟩,aH (n:=n+e-1) ⟨by omega,by omega⟩,nE (by omega),aH ⟨by omega,by omega⟩]
theorem VY(g:mD)(w:World)(hg:qh g):Calls Pq 198 #[g.v] w (aj [.agg [af,af,af,af,af,af]] λr w'=>r=bW g/\Grow w w'):=by
 refine Cu g.1 g.2.1 g.2.2.1 g.2.2.2 _ _ ?_;unfold Tt;obtain⟨h1,h2,h3⟩:=hg;refine St.nw (St.bh w) λr w1 s1 _ _=>St.nw s1 λr1 w2 s2 _ _=>s2.eM rfl (gG (3,0,0,0,0,0)) λr2 w3 s3=>?_;refine s3.L 0 rfl (p:=3) rfl (s3.L 2 rfl (p:=g.2.1) rfl ?_);rw[aH ⟨by omega,by omega⟩];refine s3.S 0 rfl (by simp) trivial λw4 s4=>?_;have s4:St aM w w4 [ag r2 [iv 3,iv (3+g.2.1),iv 0,iv 0,iv 0,iv 0],ag r1 [iv 0,iv 0,iv 0,iv 0,iv 0,iv 0],ag r (fE g)]:=s4;generalize hT:3+g.2.1=T at s4;refine aF (λ_ W=>St aM w W [ag r2 [iv 3,iv T,iv (T+(g.2.2.2+31)/32),iv 0,iv 0,iv 0],ag r1 [iv 0,iv 0,iv 0,iv 0,iv 0,iv 0],ag r (fE g)]) ?_ ?_
 ·have sd:=s4.drew
  refine sd.L 2 rfl (p:=g.2.2.2) rfl ⟨?_,?_⟩
  ·refine sd.L 0 rfl (p:=T) rfl (aa (Me _ 32 _ (by omega) (by omega)) ?_)
   rintro _ _ ⟨rfl,rfl⟩;rw[show g.2.2.2+32-1=g.2.2.2+31 by omega,aH ⟨by omega,by omega⟩];exact sd.S 0 rfl (by simp) trivial λw5 s5=>s5
  ·refine aa (Me _ 32 _ (by omega) (by omega)) ?_
   rintro _ _ ⟨rfl,rfl⟩;refine sd.L 0 rfl (p:=T) rfl ?_;rw[show g.2.2.2+32-1=g.2.2.2+31 by omega,aH ⟨by omega,by omega⟩];exact sd.S 0 rfl (by simp) trivial λw5 s5=>s5
 rintro⟨⟩ W5 s5;generalize hM:T+(g.2.2.2+31)/32=M at s5;refine aF (λ_ W=>St aM w W [ag r2 [iv 3,iv T,iv M,iv (M+(g.2.2.2+63)/64),iv 0,iv 0],ag r1 [iv 0,iv 0,iv 0,iv 0,iv 0,iv 0],ag r (fE g)]) ?_ ?_
 ·have sd:=s5.drew
  refine sd.L 2 rfl (p:=g.2.2.2) rfl ⟨?_,?_⟩
  ·refine sd.L 0 rfl (p:=M) rfl (aa (Me _ 64 _ (by omega) (by omega)) ?_)
   rintro _ _ ⟨rfl,rfl⟩;rw[show g.2.2.2+64-1=g.2.2.2+63 by omega,aH ⟨by omega,by omega⟩];exact sd.S 0 rfl (by simp) trivial λw5 s5=>s5
  ·refine aa (Me _ 64 _ (by omega) (by omega)) ?_
   rintro _ _ ⟨rfl,rfl⟩;refine sd.L 0 rfl (p:=M) rfl ?_;rw[show g.2.2.2+64-1=g.2.2.2+63 by omega,aH ⟨by omega,by omega⟩];exact sd.S 0 rfl (by simp) trivial λw5 s5=>s5
 rintro⟨⟩ W6 s6;generalize hD:M+(g.2.2.2+63)/64=D at s6;refine s6.L 0 rfl (p:=D) rfl (s6.L 2 rfl (p:=g.2.2.1) rfl (s6.S 0 rfl (by simp) trivial λw7 s7=>?_));rw[aH ⟨by omega,by omega⟩]at s7;refine s7.L 0 rfl (p:=D+g.2.2.1) rfl (s7.L 2 rfl (p:=g.2.2.2) rfl (s7.S 0 rfl (by simp[jE]) trivial λw8 s8=>?_));rw[aH (n:=g.2.2.2*4) ⟨by omega,by omega⟩,aH ⟨by omega,by omega⟩]at s8;have s8:St aM w w8 [ag r2 (aA (bW g)),ag r1 [iv 0,iv 0,iv 0,iv 0,iv 0,iv 0],ag r (fE g)]:=by subst hD hM hT;exact s8
 refine s8.LA 0 rfl (p:=bW g) rfl (s8.SB 1 rfl rfl (gG (bW g)) λw9 s9=>?_);exact St.LA 1 s9 rfl (p:=bW g) rfl ⟨rfl,s9.cw⟩
theorem Fh(p:Prop)[Decidable p]:(!decide p)=decide (¬p):=by simp
theorem Pu(g:mD)(w:World):Calls Pq 197 #[g.v] w (aj [.c af] λr w'=>r=fH g/\Grow w w'):=by
 refine Ct g.1 g.2.1 g.2.2.1 g.2.2.2 _ _ ?_;unfold Tr;refine St.nw (St.bh w) λr w1 s1 _ _=>?_;have s1:St aM w w1 [ag r (fE g)]:=s1;refine aF (λ_ W=>fH g=40/\Grow w W) ?_ λ_ _ h=>⟨h.1.symm,h.2⟩;have bad:¬qh g->fH g=40:=λh=>jc λh'=>h h'.1;refine s1.L 0 rfl (p:=g.2.1) rfl (aa (Af _ _ _ _) ?_);rintro _ _ ⟨rfl,rfl⟩;refine ax (λh=>⟨bad λh'=>?_,s1.cw⟩) λh1=>?_
 ·have:=h'.1;simp at h;omega
 refine s1.L 0 rfl (p:=g.2.2.1) rfl (aa (Af _ _ _ _) ?_);rintro _ _ ⟨rfl,rfl⟩;refine ax (λh=>⟨bad λh'=>?_,s1.cw⟩) λh2=>?_
 ·have:=h'.2.1;simp at h;omega
 refine s1.L 0 rfl (p:=g.2.2.2) rfl (aa (Af _ _ _ _) ?_);rintro _ _ ⟨rfl,rfl⟩;refine ax (λh=>⟨bad λh'=>?_,s1.cw⟩) λh3=>?_
 ·have:=h'.2.2;simp at h;omega
 have hr:qh g:=⟨by simpa using h1,by simpa using h2,by simpa using h3⟩;refine s1.LA 0 rfl (p:=g) rfl ?_;refine aa (VY g w1 hr) ?_;rintro P w2 ⟨hP,g2⟩;refine(s1.grow g2).eM rfl (gG P) λr1 w3 s3=>?_;have hb:(P.1==0)=false:=by rw[hP];rfl
 have hE:fH g=if qh g/\P.2.2.2.2.2<=g.1/\g.1<=2048 then 0 else 40:=by rw[hP];rfl
 clear hP;refine aF (λb W=>b=decide (¬(P.2.2.2.2.2<=g.1/\g.1<=2048))/\Grow w W) ?_ ?_
 ·refine s3.L 1 rfl (p:=g.1) rfl (s3.L 0 rfl (p:=P.2.2.2.2.2) rfl (aa (Af _ _ _ _) ?_))
  rintro _ _ ⟨rfl,rfl⟩;refine ax (λh=>⟨?_,s3.cw⟩) λh=>?_
  ·rw[Fh]at h;exact h.symm
  ·refine s3.LA 0 rfl (p:=P) rfl ⟨?_,s3.cw⟩
   rw[hb,Bool.false_and,<-Fh,h]
 rintro _ W ⟨rfl,gW⟩;rw[hE];refine ax (λh=>⟨?_,gW⟩) λh=>⟨?_,gW⟩
 ·simp only[jb]at h
  exact(jc λh'=>h h'.2).symm
 ·simp only[ja,Classical.not_not]at h
  exact(jd ⟨hr,h⟩).symm
theorem mg(g:mD):fH g=0\/fH g=40:=by unfold fH;split<;>simp
theorem uX{g:mD}(h:fH g=0):qh g:=by
 unfold fH at h;split at h
 ·rename_i h';exact h'.1
 ·cases h
theorem V71(g:mD)(w:World):Calls Pq 112 #[g.v] w (aj [.agg [af,af,af,af,af,af],.c af] λr w'=>r=ri g/\Grow w w'):=by
 refine Cx g.1 g.2.1 g.2.2.1 g.2.2.2 _ _ ?_;unfold TC ri;refine St.nw (St.bh w) λr w1 s1 _ _=>St.nw s1 λr1 w2 s2 _ _=>?_;refine s2.LA 1 rfl (p:=g) rfl ?_;refine aa (Pu g w2) ?_;rintro _ w3 ⟨rfl,g3⟩;have s3:=s2.grow g3;refine ax (λh=>?_) λh=>?_
 ·have h:fH g≠0:=by simpa using h
  refine s3.SB 0 rfl rfl (gG (0,0,0,0,0,0)) λw4 s4=>St.LA 0 s4 rfl (p:=(0,0,0,0,0,0)) rfl ⟨?_,s4.cw⟩;rw[jc h,(mg g).resolve_left h]
 ·have h:fH g=0:=by simpa using h
  refine s3.LA 1 rfl (p:=g) rfl ?_;refine aa (VY g w3 (uX h)) ?_;rintro P w4 ⟨hP,g4⟩;refine(s3.grow g4).SB 0 rfl rfl (gG P) λw5 s5=>St.LA 0 s5 rfl (p:=P) rfl ⟨?_,s5.cw⟩;rw[jd h,<-hP]
abbrev dX:=I6
abbrev dX.v(s:dX):Value:=.agg #[iv s.1,iv s.2.1,iv s.2.2.1,iv s.2.2.2.1,iv s.2.2.2.2.1,iv s.2.2.2.2.2]
abbrev bI:dX:=(0,0,0,0,0,0)
abbrev cZ(s:dX):mD:=(s.2.1,s.2.2.1,s.2.2.2.1,s.2.2.2.2.1)
def Dt(s:dX):Prop:=1<=s.1/\s.1<=1152921504606846976/\0<=s.2.2.2.2.2/\s.2.2.2.2.2<=1152921504606846976
instance(s:dX):Decidable (Dt s):=by unfold Dt;exact inferInstance
def gA(s:dX):Int:=if fH (cZ s)=40 then 40 else if Dt s then 0 else 50
def oP(g:mD):dX×Int:=if fH g=0 then((2,g.1,g.2.1,g.2.2.1,g.2.2.2,4*g.2.1),0)else(bI,40)
def qi(s:dX)(h:Int):Int:=if gA s≠0 then gA s else if h<s.2.2.2.2.2\/h>1152921504606846976 then 1 else if s.1=1152921504606846976 then 6 else 0
def vb(s:dX)(h:Int):dX×Int:=if qi s h=0 then((s.1+1,s.2.1,s.2.2.1,s.2.2.2.1,s.2.2.2.2.1,h),0)else(bI,qi s h)
def cy(s:dX):Int:=if s.1<0 then 0 else s.1%2
def jJ:LB:=[97,116,116,105,99,32,49,10]
def l5(s:dX):LB:=jJ++aZ 8 s.1.toNat++aZ 4 s.2.1.toNat++aZ 4 s.2.2.1.toNat++aZ 4 s.2.2.2.1.toNat++aZ 4 s.2.2.2.2.1.toNat++aZ 8 s.2.2.2.2.2.toNat
def bV(s:dX):LB:=sA (l5 s++List.replicate 20 0)++List.replicate 192 0
theorem jL(s:dX):(l5 s).length=40:=by simp[l5,bn,jJ]
theorem gv{s:dX}(h:gA s=0):fH (cZ s)=0/\Dt s:=by
 unfold gA at h;split at h
 ·cases h
 ·rename_i hg
  split at h
  ·rename_i hr;exact⟨(mg _).resolve_right hg,hr⟩
  ·cases h
theorem Cs{s:dX}(h:fH (cZ s)=0):gA s=if Dt s then 0 else 50:=by unfold gA;rw[jc (by rw[h];decide)]
theorem dU{p:Prop}[Decidable p](h:p):true=decide p:=by simp[h]
theorem V5(s:dX)(w:World):Calls Pq 269 #[s.v] w (aj [.c af] λr w'=>r=gA s/\Grow w w'):=by
 refine Cy s.1 s.2.1 s.2.2.1 s.2.2.2.1 s.2.2.2.2.1 s.2.2.2.2.2 _ _ ?_;unfold TE;refine St.nw (St.bh w) λr w1 s1 _ _=>?_;have s1:St aM w w1 [ag r (aA s)]:=s1;have hrow:de w1 (bA r 1) 0 (gy [af,af,af,af] (cZ s)):=by
  exact ay.2 ((s1.box.row.drop 1).take 4)
 refine fy (l:=[af,af,af,af]) (p:=cZ s) hrow ?_;refine aa (Pu (cZ s) w1) ?_;rintro e w2 ⟨he,g2⟩;have s2:=s1.grow g2;refine ax (λh=>?_) λh=>?_
 ·have h:e≠0:=by simpa using h
  have h4:fH (cZ s)=40:=by rw[<-he];exact(he▸mg _:e=0\/e=40).resolve_left h
  refine⟨?_,s2.cw⟩;unfold gA;rw[jd h4,he,h4]
 have h:e=0:=by simpa using h
 rw[Cs (by rw[<-he,h])];refine aF (λb W=>b=decide (¬Dt s)/\W=w2) ?_ ?_
 ·unfold Dt
  refine s2.L 0 rfl (p:=s.1) rfl (ax (λh=>⟨dU (by simp at h;omega),rfl⟩) λh1=>?_);refine s2.L 0 rfl (p:=s.1) rfl (ax (λh=>⟨dU (by simp at h;omega),rfl⟩) λh2=>?_);refine s2.L 0 rfl (p:=s.2.2.2.2.2) rfl (ax (λh=>⟨dU (by simp at h;omega),rfl⟩) λh3=>?_);refine s2.L 0 rfl (p:=s.2.2.2.2.2) rfl ⟨?_,rfl⟩;simp only[ja]at h1 h2 h3;exact decide_eq_decide.2 (by omega)
 rintro _ _ ⟨rfl,rfl⟩;refine ax (λh=>⟨?_,s2.cw⟩) λh=>⟨?_,s2.cw⟩
 ·simp only[jb]at h;rw[jc h]
 ·simp only[ja,Classical.not_not]at h;rw[jd h]
theorem V85(g:mD)(w:World):Calls Pq 115 #[g.v] w (aj [.agg [af,af,af,af,af,af],.c af] λr w'=>r=oP g/\Grow w w'):=by
 refine Cz g.1 g.2.1 g.2.2.1 g.2.2.2 _ _ ?_;unfold TG oP;refine St.nw (St.bh w) λr w1 s1 _ _=>St.nw s1 λr1 w2 s2 _ _=>?_;refine s2.LA 1 rfl (p:=g) rfl ?_;refine aa (Pu g w2) ?_;rintro e w3 ⟨he,g3⟩;have s3:=s2.grow g3;rw[<-he];refine ax (λh=>?_) λh=>?_
 ·have h:e≠0:=by simpa using h
  refine s3.SB 0 rfl rfl (gG bI) λw4 s4=>St.LA 0 s4 rfl (p:=bI) rfl ⟨?_,s4.cw⟩;rw[jc h,(he▸mg g:e=0\/e=40).resolve_left h]
 ·have h:e=0:=by simpa using h
  have hr:=(uX (he.symm.trans h)).1;refine s3.LA 1 rfl (p:=g) rfl ?_;refine s3.L 1 rfl (p:=g.2.1) rfl ?_;rw[aH ⟨by omega,by omega⟩];refine s3.SB 0 rfl rfl (gG (2,g.1,g.2.1,g.2.2.1,g.2.2.2,4*g.2.1)) λw4 s4=>St.LA 0 s4 rfl (p:=(2,g.1,g.2.1,g.2.2.1,g.2.2.2,4*g.2.1)) rfl ⟨?_,s4.cw⟩;rw[jd h]
theorem aaS(s:dX)(h:Int)(w:World):Calls Pq 226 #[s.v,iv h] w (aj [.agg [af,af,af,af,af,af],.c af] λr w'=>r=vb s h/\Grow w w'):=by
 refine CB s.1 s.2.1 s.2.2.1 s.2.2.2.1 s.2.2.2.2.1 s.2.2.2.2.2 h _ _ ?_;unfold TJ vb;refine St.nw (St.bh w) λr w1 s1 _ _=>St.nw s1 λr1 w2 s2 _ _=>?_;have s2:St aM w w2 [ag r1 (aA bI),ag r (aA s)]:=s2;refine s2.LA 1 rfl (p:=s) rfl ?_;refine aa (V5 s w2) ?_;rintro e w3 ⟨he,g3⟩;have s3:=s2.grow g3;refine aF (λx W=>x=qi s h/\W=w3) ?_ ?_
 ·unfold qi
  rw[<-he];refine ax (λh1=>⟨(jd (by simpa using h1)).symm,rfl⟩) λh1=>?_;rw[jc (by simpa using h1)];have h1:e=0:=by simpa using h1
  refine aF (λb W=>b=decide (h<s.2.2.2.2.2\/h>1152921504606846976)/\W=w3) ?_ ?_
  ·refine s3.L 1 rfl (p:=s.2.2.2.2.2) rfl (ax (λh=>⟨dU (.inl (by simpa using h)),rfl⟩) λh2=>⟨?_,rfl⟩)
   simp only[ja]at h2;exact decide_eq_decide.2 (by omega)
  rintro _ _ ⟨rfl,rfl⟩;refine ax (λh2=>⟨(jd (by simpa using h2)).symm,rfl⟩) λh2=>?_;rw[jc (by simpa using h2)];refine s3.L 1 rfl (p:=s.1) rfl (ax (λh3=>⟨(jd (by simpa using h3)).symm,rfl⟩) λh3=>⟨?_,rfl⟩);rw[jc (by simpa using h3),h1]
 rintro x _ ⟨hx,rfl⟩;rw[<-hx];refine ax (λh1=>?_) λh1=>?_
 ·refine s3.SB 0 rfl rfl (gG bI) λw4 s4=>St.LA 0 s4 rfl (p:=bI) rfl ⟨?_,s4.cw⟩
  rw[jc (by simpa using h1)]
 ·have h1:x=0:=by simpa using h1
  have hr:1<=s.1/\s.1<=1152921504606846976:=by
   rw[h1]at hx;unfold qi at hx;split at hx
   ·rename_i h2;exact absurd hx.symm h2
   ·rename_i h2
    have:=(gv (Classical.not_not.1 h2)).2;exact⟨this.1,this.2.1⟩
  refine s3.L 1 rfl (p:=s.1) rfl (s3.S 1 rfl (by simp) trivial λw4 s4=>St.S 1 s4 rfl (by simp) trivial λw5 s5=>?_);rw[aH ⟨by omega,by omega⟩]at s5;have s5:St aM w w5 [ag r1 (aA bI),ag r (aA (s.1+1,s.2.1,s.2.2.1,s.2.2.2.1,s.2.2.2.2.1,h))]:=s5;refine s5.LA 1 rfl (p:=(s.1+1,s.2.1,s.2.2.1,s.2.2.2.1,s.2.2.2.2.1,h)) rfl ?_;refine s5.SB 0 rfl rfl (gG (s.1+1,s.2.1,s.2.2.1,s.2.2.2.1,s.2.2.2.2.1,h)) λw6 s6=>St.LA 0 s6 rfl (p:=(s.1+1,s.2.1,s.2.2.1,s.2.2.2.1,s.2.2.2.2.1,h)) rfl ⟨?_,s6.cw⟩;rw[jd h1]
theorem VW(s:dX)(w:World):Calls Pq 202 #[s.v] w (aj [.c af] λr w'=>r=cy s/\Grow w w'):=by
 refine CD s.1 s.2.1 s.2.2.1 s.2.2.2.1 s.2.2.2.2.1 s.2.2.2.2.2 _ _ ?_;unfold TL;refine St.nw (St.bh w) λr w1 s1 _ _=>s1.L 0 rfl (p:=s.1) rfl ⟨by decide,?_,s1.cw⟩;unfold cy imax;split
 ·rfl
 ·rw[Int.tmod_eq_emod_of_nonneg (by omega)]
theorem zX{s:dX}(h:gA s=0):(1<=s.1/\s.1<=1152921504606846976)/\(0<=s.2.1/\s.2.1<=2048)/\(0<=s.2.2.1/\s.2.2.1<=2048)/\(0<=s.2.2.2.1/\s.2.2.2.1<=2048)/\(0<=s.2.2.2.2.1/\s.2.2.2.2.1<=2048)/\0<=s.2.2.2.2.2/\s.2.2.2.2.2<=1152921504606846976:=by
 obtain⟨hg,h1,h2,h3,h4⟩:=gv h;have hr:=uX hg;unfold fH at hg;split at hg
 ·rename_i h5
  obtain⟨_,h6,h7⟩:=h5;obtain⟨⟨a1,a2⟩,⟨b1,b2⟩,c1,c2⟩:=hr;unfold bW at h6;dsimp only at h6 h7 a1 a2 b1 b2 c1 c2;exact⟨⟨h1,h2⟩,⟨by omega,h7⟩,⟨by omega,by omega⟩,⟨by omega,by omega⟩,⟨by omega,by omega⟩,h3,h4⟩
 ·cases hg
theorem yt{F0:Nat->Prop}{w0 w:World}{L:List HA}{s:Sl}{A:LB}{n:Nat}{v:Int}{k:Sl->Pr}(h:St F0 w0 w (az 1 s (A.map ub)::L))(h1:1<=n)(h8:n<=8)(hv:0<=v/\v<=1152921504606846976)(hl:A.length<=1000000)
 (hk:∀r w',St F0 w0 w' (az 1 r ((A++aZ n v.toNat).map ub)::L)->k r w'):
 av Pq 80 [iv n,.int .u64 (dH v)] [.c .slice] (λt=>app 5 1 1 [uv 0] s t k) w:=by
 rw[gL ⟨by omega,by omega⟩];have e:v=(v.toNat:Int):=by omega
 generalize v.toNat=m at e hk;subst e;refine aa (Qt n m w h1 h8) λt w1 s1=>?_;have s2:St F0 w0 w1 (az 1 s (A.map ub)::az 1 t ((aZ n m).map ub)::L):=(h.bC s1).aq 1;exact s2.OY (by rw[bn];omega) λr w2 s3=>hk r w2 (s3.del 1)
theorem vk(n:Nat):zc [uv 0] n=(List.replicate n (0:UInt8)).map ub:=by rw[xu,List.map_replicate];rfl
theorem gF(s:dX):(bV s).length=256:=by simp[bV,sA,jL]
theorem VV(s:dX)(w:World):Calls Pq 201 #[s.v] w (aj [.c .slice,.c af] λr w'=>r.2=gA s/\((gA s≠0/\r.1=⟨none,0,0⟩/\Grow w w')\/gA s=0/\St aM w w' [az 1 r.1 ((bV s).map ub)])):=by
 refine CE s.1 s.2.1 s.2.2.1 s.2.2.2.1 s.2.2.2.2.1 s.2.2.2.2.2 _ _ ?_;unfold TO;refine St.nw (St.bh w) λr w1 s1 _ _=>?_;have s1:St aM w w1 [ag r (aA s)]:=s1;refine s1.LA 0 rfl (p:=s) rfl ?_;refine aa (V5 s w1) ?_;rintro e w2 ⟨he,g2⟩;have s2:=s1.grow g2;refine ax (λh=>⟨he,.inl ⟨by rw[<-he];simpa using h,rfl,s2.cw⟩⟩) λh=>?_;have h0:gA s=0:=by rw[<-he];simpa using h
 obtain⟨b1,b2,b3,b4,b5,b6⟩:=zX h0;refine s2.aak (c:=256) (k:=1) rfl (by decide) (by decide) λt w3 s3 _=>?_;have s3:St aM w w3 [az 1 t [],ag r (aA s)]:=s3;have ht:t.len=0:=by have:=bS s3.sl;simpa using this
 refine s3.Gk rfl rfl (by decide) (by rw[ht];decide) λt1 w4 s4 _=>?_;have s4:St aM w w4 [az 1 t1 (jJ.map ub),ag r (aA s)]:=s4;refine s4.L 1 rfl (p:=s.1) rfl ?_;refine yt (n:=8) s4 (by decide) (by decide) ⟨by omega,b1.2⟩ (by decide) λt2 w5 s5=>?_;refine s5.L 1 rfl (p:=s.2.1) rfl (s5.L 1 rfl (p:=s.2.2.1) rfl (s5.L 1 rfl (p:=s.2.2.2.1) rfl (s5.L 1 rfl (p:=s.2.2.2.2.1) rfl ?_)));refine St.nw s5 λr1 w6 s6 _ _=>?_;let ns:List Int:=[s.2.1,s.2.2.1,s.2.2.2.1,s.2.2.2.2.1];have KM:∀n∈ns,0<=n/\n<=2048:=by
  intro n hn;simp only[ns,List.mem_cons,List.not_mem_nil,or_false]at hn;rcases hn with rfl|rfl|rfl|rfl<;>assumption
 have s6:St aM w w6 [ag r1 (ns.map iv),az 1 t2 ((jJ++aZ 8 s.1.toNat).map ub),ag r (aA s)]:=s6;refine aU (λz W=>∃j:Nat,z.2=(j:Int)/\j<=4/\St aM w W [az 1 z.1 ((jJ++aZ 8 s.1.toNat++(ns.take j).flatMap λn=>aZ 4 n.toNat).map ub),ag r1 (ns.map iv),ag r (aA s)])
  (λz _=>4-z.2.toNat) ⟨0,rfl,by omega,by rw[List.take_zero,List.flatMap_nil,List.append_nil];exact s6.aq 1⟩ ?_
 rintro⟨u,z⟩ W ⟨j,hz,hj,sW⟩;dsimp only at hz sW⊢;subst hz;have hfl:∀l:List Int,(l.flatMap λn=>aZ 4 n.toNat).length=4*l.length:=by
  intro l
  induction l with
  |nil=>rfl
  |cons x l ih=>rw[List.flatMap_cons,jh,ih,bn,List.length_cons];omega
 refine ax (λhlt=>?_) λhge=>?_
 ·simp only[jb]at hlt
  have hjl:j<ns.length:=by show j<4;omega
  refine⟨⟨by omega,by omega⟩,?_⟩;rw[jl,Nat.mul_one];have hx:=KM _ (List.getElem_mem hjl);have Ge:ns.take (j+1)=ns.take j++[ns[j]]:=by rw[List.take_add_one,jo hjl];rfl
  have hcell:(ns.map iv)[j]? =some (cu (.int .i64) ns[j]):=by rw[jf,jo hjl];rfl
  generalize ns[j]=x at hx Ge hcell;obtain⟨_,hb,_⟩:=sW.JD 1 rfl;have Ic:cM (.int .i64) (Addr.add ⟨r1,0,none⟩ j) _ W:=hb.ld (i:=j) (k:=λt39=>av Pq 80 [iv 4,.int .u64 (dH t39)] [.c .slice] λt43=>app 5 1 1 [uv 0] u t43 λt44 w'=>(∃j_1:Nat,aO ((j:Int)+1)=(j_1:Int)/\j_1<=4/\St aM w w' [az 1 t44 ((jJ++aZ 8 s.1.toNat++(ns.take j_1).flatMap λn=>aZ 4 n.toNat).map ub),ag r1 (ns.map iv),ag r (aA s)])/\4-(aO ((j:Int)+1)).toNat<4-(j:Int).toNat) hcell ?_
  ·rw[bA,add_zero'];exact Ic
  refine yt (n:=4) sW (by decide) (by decide) ⟨hx.1,by omega⟩ (by rw[jh,jh,bn,hfl,jt];simp[jJ];omega) λt3 w7 s7=>?_;rw[bE (by omega)];refine⟨⟨j+1,rfl,by omega,?_⟩,by omega⟩;rw[Ge,List.flatMap_append,<-ju];simpa using s7
 ·simp only[ja]at hge
  have:j=4:=by omega
  subst this;have e4:jJ++aZ 8 s.1.toNat++(ns.take 4).flatMap (λn=>aZ 4 n.toNat)=jJ++aZ 8 s.1.toNat++aZ 4 s.2.1.toNat++aZ 4 s.2.2.1.toNat++aZ 4 s.2.2.2.1.toNat++aZ 4 s.2.2.2.2.1.toNat:=by
   simp[ns]
  rw[e4]at sW;refine sW.L 2 rfl (p:=s.2.2.2.2.2) rfl ?_;refine yt (n:=8) sW (by decide) (by decide) b6 (by simp[jJ]) λt4 w8 s8=>?_;have s8:St aM w w8 [az 1 t4 ((l5 s).map ub),ag r1 (ns.map iv),ag r (aA s)]:=s8;have hl4:t4.len=40:=by have:=bS s8.sl;rw[je,jL]at this;exact this
  rw[hl4,aH ⟨by omega,by omega⟩];refine s8.pU (m:=20) (by rfl) (by decide) rfl (by simp) (by decide) (by decide) (by rw[hl4];decide) λt5 w9 s9 _=>?_;rw[vk,<-jk]at s9;refine aa (Y27 t5 (l5 s++List.replicate 20 0) w9 s9.sl.bs (by simp[jL])) λt6 MZ eC=>?_;have hl6:t6.len=64:=by have:=bS eC.sl;rw[je]at this;rw[this];simp[sA,jL]
  rw[hl6,aH ⟨by omega,by omega⟩];refine(s9.bC eC).pU (m:=192) (by rfl) (by decide) rfl (by simp) (by decide) (by decide) (by rw[hl6];decide) λt7 Zm eU _=>?_;rw[vk,<-jk]at eU;exact⟨h0.symm,.inr ⟨h0,St.yS (l:=[_]) eU⟩⟩
set_option maxRecDepth 100000
def R8:An:=(.n (.n (.n .z)))
def Qy(aD:Int)(aG:Int)(aP:Int)(bB:Sl)(cW:Int)(Q:Bool->Pr):Pr:=
 nw (.cells #[(.int .i64 aD),(.int .i64 aG),(.int .i64 aP),(.slice bB.a bB.len bB.cap),(.int .i64 cW)] 234) λr=>
 deref (some ⟨r,0,none⟩) λa=>
 deref (some (a.add 3)) λa_1=>
 cM .slice a_1 λ(t5:Sl)=>
 deref (some ⟨r,0,none⟩) λa_2=>
 deref (some (a_2.add 4)) λiA=>
 cM (.int .i64) iA λ(t8:Int)=>
 br (t8==0) (
 deref (some ⟨r,0,none⟩) λeX=>
 deref (some (eX.add 1)) λgw=>
 cM (.int .i64) gw λ(t12:Int)=>
 br (decide (t12>=0)) (
 deref (some ⟨r,0,none⟩) λlN=>
 deref (some (lN.add 1)) λmA=>
 cM (.int .i64) mA λ(t17:Int)=>
 br (decide (t17<2048)) (
 br (decide ((t5.len:Int)>=1)) (
 br (decide ((t5.len:Int)<=44)) (
 deref (some ⟨r,0,none⟩) λkG=>
 deref (some (kG.add 2)) λpZ=>
 cM (.int .i64) pZ λ(t30:Int)=>
 br (decide (t30>=0)) (
 deref (some ⟨r,0,none⟩) λkH=>
 deref (some (kH.add 2)) λgb=>
 cM (.int .i64) gb λ(t35:Int)=>
 Q ((decide (t35<=(IntKind.wrap .i64 (256-(t5.len:Int))))))) (
 Q false)) (
 Q false)) (
 Q false)) (
 Q false)) (
 Q false)) (
 Q false)
theorem AP(aD aG aP bB cW Q w)(h:Qy aD aG aP bB cW Q w):Calls Pq 301 #[(.agg #[(.int .i64 aD),(.int .i64 aG),(.int .i64 aP),(slV bB),(.int .i64 cW)])] w (aj [.c .bool] Q):=cF (an:=R8) Tryz.func301 (by kernel_rfl) h
def R9:An:=(.n (.n (.sq (.jn [(3,.c .bool)] (.n (.bl (.n (.br .z (.n (.br .z .z))))))) (.sq (.n (.br (.n .z) .z)) (.n .z)))))
def Qz(aD:Int)(aG:Int)(aP:Int)(bB:Sl)(cW:Int)(Q:Int->Pr):Pr:=
 nw (.cells #[(.int .i64 aD),(.int .i64 aG),(.int .i64 aP),(.slice bB.a bB.len bB.cap),(.int .i64 cW)] 234) λr=>
 jn (S:=Bool) (λR=>
 deref (some ⟨r,0,none⟩) λa=>
 deref (some (a.add 0)) λa_1=>
 cM (.int .i64) a_1 λ(t5:Int)=>
 br (t5==1) (
 deref (some ⟨r,0,none⟩) λa_2=>
 aN [(.int .i64),(.int .i64),(.int .i64),.slice,(.int .i64)] a_2 λ(t8:Int×Int×Int×Sl×Int)=>
 cB 301 [(.agg #[(.int .i64 t8.1),(.int .i64 t8.2.1),(.int .i64 t8.2.2.1),(.slice t8.2.2.2.1.a t8.2.2.2.1.len t8.2.2.2.1.cap),(.int .i64 t8.2.2.2.2)])] λt9=>
 R t9) (
 br (t5==2) (
 deref (some ⟨r,0,none⟩) λiA=>
 deref (some (iA.add 4)) λeX=>
 cM (.int .i64) eX λ(t13:Int)=>
 br (decide (t13>=0)) (
 deref (some ⟨r,0,none⟩) λgw=>
 deref (some (gw.add 4)) λlN=>
 cM (.int .i64) lN λ(t17:Int)=>
 br (decide (t17<=65536)) (
 deref (some ⟨r,0,none⟩) λmA=>
 deref (some (mA.add 1)) λkG=>
 cM (.int .i64) kG λ(t22:Int)=>
 br (t22==0) (
 deref (some ⟨r,0,none⟩) λpZ=>
 deref (some (pZ.add 2)) λkH=>
 cM (.int .i64) kH λ(t27:Int)=>
 br (t27==0) (
 deref (some ⟨r,0,none⟩) λgb=>
 deref (some (gb.add 3)) λlP=>
 cM .slice lP λ(t32:Sl)=>
 R (((t32.len:Int)==0))) (
 R false)) (
 R false)) (
 R false)) (
 R false)) (
 R false))) λs=>
 br (!s) (
 Q 60) (
 Q 0)
theorem AQ(aD aG aP bB cW Q w)(h:Qz aD aG aP bB cW Q w):Calls Pq 262 #[(.agg #[(.int .i64 aD),(.int .i64 aG),(.int .i64 aP),(slV bB),(.int .i64 cW)])] w (aj [.c af] Q):=cF (an:=R9) Tryz.func262 (by kernel_rfl) h
def Sa:An:=(.n (.n .z))
def QA(aD:Int)(aG:Int)(aP:Int)(bB:Sl)(cW:Int)(Q:Bool->Pr):Pr:=
 nw (.cells #[(.int .i64 aD),(.int .i64 aG),(.int .i64 aP),(.slice bB.a bB.len bB.cap),(.int .i64 cW)] 234) λr=>
 deref (some ⟨r,0,none⟩) λa=>
 aN [(.int .i64),(.int .i64),(.int .i64),.slice,(.int .i64)] a λ(t3:Int×Int×Int×Sl×Int)=>
 cI 262 [(.agg #[(.int .i64 t3.1),(.int .i64 t3.2.1),(.int .i64 t3.2.2.1),(.slice t3.2.2.2.1.a t3.2.2.2.1.len t3.2.2.2.1.cap),(.int .i64 t3.2.2.2.2)])] λt4=>
 Q ((t4 !=0))
theorem AR(aD aG aP bB cW Q w)(h:QA aD aG aP bB cW Q w):Calls Pq 303 #[(.agg #[(.int .i64 aD),(.int .i64 aG),(.int .i64 aP),(slV bB),(.int .i64 cW)])] w (aj [.c .bool] Q):=cF (an:=Sa) Tryz.func303 (by kernel_rfl) h
def Sb:An:=(.n (.sq (.n (.bl (.lp [(8,.c af)] (.n (.sq (.br .z .z) (.sq (.bl (.n (.n (.br (.n .z) .z)))) .z)))))) (.n .z)))
def QB(p0:Sl)(p1:Value)(Q:Int->Pr):Pr:=
 cq (S:=Int) (λX s=>
 br (decide (s<(p0.len:Int))) (
 b8 ((0:Int)<=s/\s<(p0.len:Int))<|
 deref p0.a λa=>
 deref (some (a.add (Int.toNat s*5))) λa_1=>
 aN [(.int .i64),(.int .i64),(.int .i64),.slice,(.int .i64)] a_1 λ(t15:Int×Int×Int×Sl×Int)=>
 dx Pq p1 [(.agg #[(.int .i64 t15.1),(.int .i64 t15.2.1),(.int .i64 t15.2.2.1),(.slice t15.2.2.2.1.a t15.2.2.2.1.len t15.2.2.2.1.cap),(.int .i64 t15.2.2.2.2)])] [.c .bool] λ(t16:Bool)=>
 br t16 (
 Q s) (
 X ((IntKind.wrap .i64 (s+1))))) (
 Q (-1))) 0
theorem AS(p0 p1 Q w)(h:QB p0 p1 Q w):Calls Pq 322 #[(slV p0),p1] w (aj [.c af] Q):=cF (an:=Sb) Tryz.func322 (by kernel_rfl) h
def Sc:An:=(.n (.n .z))
def QC(p0:Sl)(p1:Value)(Q:Bool->Pr):Pr:=
 cI 322 [(.slice p0.a p0.len p0.cap),p1] λt7=>
 Q ((decide (t7>=0)))
theorem AT(p0 p1 Q w)(h:QC p0 p1 Q w):Calls Pq 302 #[(slV p0),p1] w (aj [.c .bool] Q):=cF (an:=Sc) Tryz.func302 (by kernel_rfl) h
def aac:An:=(.n (.sq (.n (.br (.n .z) .z)) (.n .z)))
def F95(p0:Sl)(Q:Sl->Pr):Pr:=
 b8 True<|
 br (Option.isNone p0.a) (
 Q (⟨none,0,0⟩)) (
 nw (.cells #[] 5) λr=>
 app 5 1 1 [(.int .u8 0)] ⟨(some ⟨r,0,none⟩),0,0⟩ p0 λt7=>
 Q t7)
theorem FE(p0 Q w)(h:F95 p0 Q w):Calls Pq 95 #[(slV p0)] w (aj [.c .slice] Q):=cF (an:=aac) Tryz.func95 (by kernel_rfl) h
def Sd:An:=(.n (.n .z))
def QE(p0:Sl)(p1:Sl)(Q:Bool->Pr):Pr:=
 Oo p0 λt6=>
 Oo p1 λt8=>
 Q ((t6.toList==t8.toList))
theorem AU(p0 p1 Q w)(h:QE p0 p1 Q w):Calls Pq 143 #[(slV p0),(slV p1)] w (aj [.c .bool] Q):=cF (an:=Sd) Tryz.func143 (by kernel_rfl) h
def Se:An:=(.n (.sq (.n (.br (.n .z) .z)) (.sq (.n (.br (.n .z) .z)) (.n (.sq (.n (.bl (.lp [(20,.c af)] (.n (.sq (.br .z .z) (.sq (.jn [] (.bl (.n (.sq (.jn [(32,.c .bool)] .z) (.br .z .z))))) .z)))))) (.n .z))))))
def QM(p0:Sl)(p1:Int)(p2:Sl)(Q:Sl×Int->Pr):Pr:=
 br ((p0.len:Int)!=256) (
 Q (⟨none,0,0⟩,1)) (
 cB 302 [(.slice p2.a p2.len p2.cap),(.func (.func 303) #[] #[])] λt15=>
 br t15 (
 Q (⟨none,0,0⟩,60)) (
 cS 95 [(.slice p0.a p0.len p0.cap)] λt17=>
 cq (S:=Int) (λX s=>
 br (decide (s<(p2.len:Int))) (
 jn (S:=Unit) (λR=>
 b8 ((0:Int)<=s/\s<(p2.len:Int))<|
 deref p2.a λa=>
 deref (some (a.add (Int.toNat s*5))) λa_1=>
 aN [(.int .i64),(.int .i64),(.int .i64),.slice,(.int .i64)] a_1 λ(t23:Int×Int×Int×Sl×Int)=>
 nw (.cells #[(.int .i64 0),(.int .i64 0),(.int .i64 0),(.slice none 0 0),(.int .i64 0)] 234) λr=>
 deref (some ⟨r,0,none⟩) λa_2=>
 st (a_2.add 0) (.int .i64 t23.1)<|
 st (a_2.add 1) (.int .i64 t23.2.1)<|
 st (a_2.add 2) (.int .i64 t23.2.2.1)<|
 st (a_2.add 3) (.slice t23.2.2.2.1.a t23.2.2.2.1.len t23.2.2.2.1.cap)<|
 st (a_2.add 4) (.int .i64 t23.2.2.2.2)<|
 jn (S:=Bool) (λeu=>
 deref (some ⟨r,0,none⟩) λiA=>
 deref (some (iA.add 0)) λeX=>
 cM (.int .i64) eX λ(t25:Int)=>
 br (t25==1) (
 deref (some ⟨r,0,none⟩) λgw=>
 deref (some (gw.add 1)) λlN=>
 cM (.int .i64) lN λ(t29:Int)=>
 eu ((t29==p1))) (
 eu false)) λs_2=>
 br s_2 (
 fJ<|
 deref (some ⟨r,0,none⟩) λmA=>
 deref (some (mA.add 2)) λkG=>
 cM (.int .i64) kG λ(t35:Int)=>
 slc 1 t17 (some t35) none none λt36=>
 deref (some ⟨r,0,none⟩) λpZ=>
 deref (some (pZ.add 3)) λkH=>
 cM .slice kH λ(t38:Sl)=>
 mo 1 t36 t38<|
 R ()) (
 R ())) λs_1=>
 X ((IntKind.wrap .i64 (s+1)))) (
 Q (t17,0))) 0))
theorem A5(p0 p1 p2 Q w)(h:QM p0 p1 p2 Q w):Calls Pq 265 #[(slV p0),(.int .i64 p1),(slV p2)] w (aj [.c .slice,.c af] Q):=cF (an:=Se) Tryz.func265 (by kernel_rfl) h
def og(b o m:Int)(n:Nat):Bool:=decide (m=0/\0<=b/\b<2048/\1<=n/\n<=44/\0<=o/\o<=256-(n:Int))
def dF(k b o m:Int)(n:Nat):Bool:=(k==1&&og b o m n)||(k==2&&decide (0<=m/\m<=65536/\b=0/\o=0/\n=0))
theorem C88(k b o m:Int)(s:Sl)(w:World):Calls Pq 301 #[.agg #[.int .i64 k,.int .i64 b,.int .i64 o,.slice s.a s.len s.cap,.int .i64 m]] w (aj [.c .bool] λr w'=>r=og b o m s.len/\Grow w w'):=by
 refine AP _ _ _ _ _ _ _ ?_;unfold Qy;simp[cM,exS];have hg:∀o,Grow w (w.alloc o):=λo=>(Mod.refl _ w).alloc o;have hw:(s.len:Int)<=44->IntKind.wrap .i64 (256-(s.len:Int))=256-s.len:=λh=>wrap_i64 (by omega)
 repeat' split
 all_goals refine⟨?_,hg _⟩
 all_goals simp only[og,Bool.false_eq,ja]
 all_goals first|omega|(rw[hw (by assumption)];congr 1;apply propext;omega)
theorem Zw(k b o m:Int)(s:Sl)(w:World):Calls Pq 262 #[.agg #[.int .i64 k,.int .i64 b,.int .i64 o,.slice s.a s.len s.cap,.int .i64 m]] w (aj [.c af] λr w'=>r=(if dF k b o m s.len then 0 else 60)/\Grow w w'):=by
 refine AQ _ _ _ _ _ _ _ ?_;unfold Qz;simp;have hg:∀o,Grow w (w.alloc o):=λo=>(Mod.refl _ w).alloc o;refine aF (λr w'=>r=dF k b o m s.len/\Grow w w') ?_ ?_
 ·simp[cM,exS]
  split
  ·rename_i hk
   subst hk;refine fy (p:=(1,b,o,s,m)) (by simp[gy,de]) ?_;refine aa (C88 _ _ _ _ _ _) ?_;rintro r w' ⟨rfl,h⟩;exact⟨by simp[dF],Grow.trans (hg _) h⟩
  ·rename_i hk
   repeat' split
   all_goals refine⟨?_,hg _⟩
   all_goals simp only[dF]
   all_goals(rw[Bool.eq_iff_iff];simp_all;try omega)
 ·rintro r w' ⟨rfl,h⟩
  refine ax (λh2=>⟨?_,h⟩) (λh2=>⟨?_,h⟩)<;>simp_all
theorem C58(k b o m:Int)(s:Sl)(w:World):Calls Pq 303 #[.agg #[.int .i64 k,.int .i64 b,.int .i64 o,.slice s.a s.len s.cap,.int .i64 m]] w (aj [.c .bool] λr w'=>r= !dF k b o m s.len/\Grow w w'):=by
 refine AR _ _ _ _ _ _ _ ?_;unfold QA;simp;refine fy (p:=(k,b,o,s,m)) (by simp[gy,de]) ?_;refine aa (Zw _ _ _ _ _ _) ?_;rintro r w' ⟨rfl,h⟩;exact⟨by cases dF k b o m s.len<;>rfl,Grow.trans ((Mod.refl _ w).alloc _) h⟩
structure Rw where
 k:Int
 b:Int
 o:Int
 s:Sl
 m:Int
def Rw.cells(r:Rw):LV:=[.int .i64 r.k,.int .i64 r.b,.int .i64 r.o,.slice r.s.a r.s.len r.s.cap,.int .i64 r.m]
@[simp]theorem Rw.cH(r:Rw):r.cells.length=5:=rfl
def Rw.p(r:Rw):Int×Int×Int×Sl×Int:=(r.k,r.b,r.o,r.s,r.m)
def Rw.ok(r:Rw):Bool:=dF r.k r.b r.o r.m r.s.len
theorem Rw.reads{w:World}{r:Rw}{a:Addr}(h:Row w a r.cells):de w a 0 (gy [af,af,af,.slice,af] r.p):=ay.2 h
abbrev RS:=SS Rw.cells
theorem C87(s:Sl)(rs:List Rw)(w:World)(h:RS w s rs)(hl:s.len<=1000000):Calls Pq 322 #[.slice s.a s.len s.cap,.func (.func 303) #[] #[]] w
 (aj [.c af] λr w'=>(0<=r↔∃x∈rs,x.ok=false)/\Grow w w'):=by
 refine AS s (.func (.func 303) #[] #[]) _ _ ?_;unfold QB;refine aU (λi w'=>∃j:Nat,i=j/\j<=rs.length/\Grow w w'/\∀k x,k<j->rs[k]? =some x->x.ok=true) (λi _=>(s.len:Int).toNat-i.toNat) ⟨0,rfl,by omega,Mod.refl _ _,λk x hk=>by omega⟩ ?_;rintro _ w1 ⟨j,rfl,hj,hg,hall⟩;have hlen:=h.len;refine ax (λhlt=>?_) (λhge=>?_)
 ·simp only[jb]at hlt
  have hjl:j<rs.length:=by omega
  obtain⟨ad,ha,hrow⟩:=(h.grow hg).get (n:=5) Rw.cH (i:=j) (r:=rs[j]) (by simp[hjl]) (by omega);refine⟨⟨by omega,hlt⟩,?_⟩;rw[ha];simp only[gC,jl];refine fy (p:=rs[j].p) (Rw.reads hrow) ?_;refine .inl ⟨303,#[],#[],rfl,by kernel_rfl,?_⟩;refine Calls.mono (C58 _ _ _ _ _ _) ?_;rintro e w2 ⟨p,rfl,rfl,AG⟩;refine⟨_,rfl,?_⟩;refine ax (λhb=>?_) (λhb=>?_)
  ·refine⟨⟨λ_=>⟨rs[j],by simp,by simpa[Rw.ok,Rw.p]using hb⟩,λ_=>Int.natCast_nonneg _⟩,Grow.trans hg AG⟩
  ·have hw:IntKind.wrap .i64 ((j:Int)+1)=((j+1:Nat):Int):=by rw[wrap_i64 (by omega)];rfl
   rw[hw];refine⟨⟨j+1,rfl,by omega,Grow.trans hg AG,λk x hk hx=>?_⟩,by omega⟩;rcases Nat.lt_or_ge k j with h'|h'
   ·exact hall k x h' hx
   ·have:k=j:=by omega
    subst this;simp[hjl]at hx;subst hx;simpa[Rw.ok,Rw.p]using hb
 ·simp only[ja]at hge
  refine⟨⟨λh=>absurd (show(0:Int)≤-1 from h) (by decide),λ⟨x,hx,hok⟩=>?_⟩,hg⟩;obtain⟨k,hk,rfl⟩:=List.getElem_of_mem hx;have:=hall k rs[k] (by omega) (by simp);rw[this]at hok;cases hok
theorem C57(s:Sl)(rs:List Rw)(w:World)(h:RS w s rs)(hl:s.len<=1000000):Calls Pq 302 #[.slice s.a s.len s.cap,.func (.func 303) #[] #[]] w
 (aj [.c .bool] λr w'=>r=rs.any (λx=> !x.ok)/\Grow w w'):=by
 refine AT s (.func (.func 303) #[] #[]) _ _ ?_;unfold QC;refine aa (C87 s rs w h hl) ?_;rintro r w' ⟨h1,h2⟩;refine⟨?_,h2⟩;rw[Bool.eq_iff_iff];simp only[jb,List.any_eq_true,Bool.not_eq_true'];exact h1
theorem KK(s:Sl)(l:LB)(w:World)(h:BS w s l)(hl:s.len<=140737488351232):Calls Pq 95 #[.slice s.a s.len s.cap] w
 (aj [.c .slice] λr w'=>aQ w' w.heap.size 1 r (l.map ub)/\(s.a=none->r.a=none)/\Grow w w'):=by
 refine FE s _ _ ?_;unfold F95;refine⟨trivial,ax (λhn=>?_) (λhn=>?_)⟩
 ·have ha:s.a=none:=by simpa using hn
  have h0:=h.cQ ha;have hl0:l=[]:=jy (by rw[<-h.len,h0]);subst hl0;exact⟨aQ.nil _ _ _,λ_=>rfl,Mod.refl _ _⟩
 ·have ha:s.a≠none:=λh=>by simp[h]at hn
  refine EB (n0:=w.heap.size) (vs:=[]) (new:=l.map ub) ⟨by simp,by simp,.inr ⟨w.heap.size,0,[],rfl,Nat.le_refl _,by simp,λo=>by simp,Row.nil _ _,rfl⟩⟩ (by simp) (λ_=>by simp[h.len]) (λhx=>absurd hx ha)
   (h.row.grow ((Mod.refl _ w).alloc _)) iR rfl (by decide) (by simp;omega) ?_
  intro r w' h1 h2 h3 h4 h5;refine⟨by simpa using h1,λhx=>absurd hx ha,Mod.trans ((Mod.refl _ w).alloc _) h5 ?_⟩;rintro b hb ⟨ad,had,rfl⟩;simp only[jg]at had;subst had;exact absurd hb (Nat.lt_irrefl _)
theorem QD(s t:Sl)(l m:LB)(w:World)(h:BS w s l)(h2:BS w t m):Calls Pq 143 #[.slice s.a s.len s.cap,.slice t.a t.len t.cap] w
 (aj [.c .bool] λr w'=>r=(l==m)/\w'=w):=by
 refine AU s t _ _ ?_;unfold QE;refine HM h (HM h2 ?_);simp
abbrev Rc:=Rw×LB
def RL(w:World)(s:Sl)(xs:List Rc):Prop:=RS w s (xs.map (·.1))/\∀x∈xs,BS w x.1.s x.2
theorem RL.grow{w w':World}{s:Sl}{xs:List Rc}(h:RL w s xs)(hm:Grow w w'):RL w' s xs:=⟨h.1.grow hm,λx hx=>(h.2 x hx).grow hm⟩
theorem RL.len{w:World}{s:Sl}{xs:List Rc}(h:RL w s xs):s.len=xs.length:=by rw[h.1.len];simp
def lay(p:LB)(o:Nat)(d:LB):LB:=p.take o++d++p.drop (o+d.length)
def iC(blk:Int)(p:LB)(xs:List Rc):LB:=xs.foldl (λp x=>if x.1.b=blk then lay p x.1.o.toNat x.2 else p) p
def nZ(p:LB)(xs:List Rc):Int:=if p.length≠256 then 1 else if xs.any (λx=> !x.1.ok)then 60 else 0
theorem gI{p d:LB}{o:Nat}(h:o+d.length<=p.length):(lay p o d).length=p.length:=by
 simp[lay];omega
theorem xq(p:LB)(o:Nat):lay p o []=p:=by simp[lay]
theorem qA{r:Rw}(h:r.ok=true):r.s.len<=44/\0<=r.o/\r.o+r.s.len<=256/\((r.k=1/\1<=r.s.len)\/(r.k=2/\r.s.len=0)):=by
 simp only[Rw.ok,dF,og,Bool.or_eq_true,kf,kn,jb]at h;omega
theorem vX{blk:Int}:∀{xs:List Rc} {p:LB},p.length=256->(∀x∈xs,x.1.ok=true/\x.1.s.len=x.2.length)->(iC blk p xs).length=256
 |[],p,hp,_=>hp
 |
  x::xs,p,hp,h=>by
  have hx:=h x (by simp);have hb:=qA hx.1;unfold iC;rw[List.foldl_cons];refine vX ?_ (λy hy=>h y (by simp[hy]));split
  ·rw[gI]
   ·exact hp
   ·omega
  ·exact hp
theorem A4(blk:Int)(p:LB)(xs:List Rc)(x:Rc):iC blk p (xs++[x])=if x.1.b=blk then lay (iC blk p xs) x.1.o.toNat x.2 else iC blk p xs:=by
 simp[iC,List.foldl_append]
theorem ot{α:Type}{l:List α}{j:Nat}(h:j<l.length):l.take (j+1)=l.take j++[l[j]]:=by
 rw[List.take_add_one];simp[h]
theorem fW{j:Nat}(h:j<1000000000000000000):IntKind.wrap .i64 ((j:Int)+1)=((j+1:Nat):Int):=by rw[wrap_i64 (by omega)];rfl
theorem C16(pg s:Sl)(blk:Int)(l:LB)(xs:List Rc)(w:World)(hp:BS w pg l)(hs:RL w s xs)(hl:s.len<=1000000):
 Calls Pq 265 #[.slice pg.a pg.len pg.cap,.int .i64 blk,.slice s.a s.len s.cap] w (aj [.c .slice,.c af] λr w'=>
  r.2=nZ l xs/\aQ w' w.heap.size 1 r.1 ((if nZ l xs=0 then iC blk l xs else[]).map ub)/\Grow w w'):=by
 refine A5 pg blk s _ _ ?_;unfold QM;refine ax (λh1=>?_) (λh1=>?_)
 ·have hne:nZ l xs=1:=by
   unfold nZ;rw[jd];have:=hp.len;simp at h1;omega
  rw[hne];exact⟨rfl,aQ.nil _ _ _,Mod.refl _ _⟩
 have rL:l.length=256:=by
  have:=hp.len;simp at h1;omega
 refine aa (C57 s (xs.map (·.1)) w hs.1 hl) ?_;rintro r w1 ⟨rfl,vz⟩;refine ax (λh2=>?_) (λh2=>?_)
 ·have hne:nZ l xs=60:=by
   unfold nZ;rw[jc (by simp[rL]),jd];simpa[List.any_map,Function.comp_def]using h2
  rw[hne];exact⟨rfl,aQ.nil _ _ _,vz⟩
 have hne:nZ l xs=0:=by
  unfold nZ;rw[jc (by simp[rL]),jc];rw[List.any_map]at h2;simp only[Function.comp_def]at h2;rw[h2];simp
 have hall:∀x∈xs,x.1.ok=true/\x.1.s.len=x.2.length:=by
  intro x hx;refine⟨?_,(hs.2 x hx).len⟩;rw[List.any_eq_false]at h2;simpa using h2 x.1 (ki.2 ⟨x,hx,rfl⟩)
 rw[hne,jd rfl];refine aa (KK pg l w1 (hp.grow vz) (by rw[hp.len,rL];decide)) ?_;rintro t w2 ⟨ht,_,AG⟩;have ZC:=Grow.trans vz AG;refine aU (λi w'=>∃j:Nat,i=j/\j<=xs.length/\Grow w w'/\aQ w' w.heap.size 1 t ((iC blk l (xs.take j)).map ub)) (λi _=>(s.len:Int).toNat-i.toNat)
  ⟨0,rfl,by omega,ZC,by simpa[iC]using ht.weaken vz.size⟩ ?_
 rintro _ w3 ⟨j,rfl,hj,N6,ho⟩;have hlen:=hs.len;refine ax (λhlt=>?_) (λhge=>?_)
 rotate_left
 ·simp only[ja]at hge
  refine⟨rfl,?_,N6⟩;rwa[List.take_of_length_le (by omega)]at ho
 simp only[jb]at hlt;have hjl:j<xs.length:=by omega
 refine aF (λ_ w'=>Grow w w'/\aQ w' w.heap.size 1 t ((iC blk l (xs.take (j+1))).map ub)) ?_ ?_
 rotate_left
 ·rintro⟨⟩ w' ⟨h4,h5⟩
  rw[fW (by omega)];exact⟨⟨j+1,rfl,by omega,h4,h5⟩,by omega⟩
 obtain⟨ad,ha,hrow⟩:=(hs.1.grow N6).get (n:=5) Rw.cH (i:=j) (r:=xs[j].1) (by simp[hjl]) (by omega);refine⟨⟨by omega,hlt⟩,?_⟩;rw[ha];simp only[gC,jl];refine fy (p:=xs[j].1.p) (Rw.reads hrow) ?_;simp[st,Rw.p];have MX:=hall xs[j] (by simp);have hb:=qA MX.1;refine aF (λb w'=>b=decide (xs[j].1.k=1/\xs[j].1.b=blk)/\w'=w3.alloc (.cells #[.int .i64 xs[j].1.k,.int .i64 xs[j].1.b,.int .i64 xs[j].1.o,.slice xs[j].1.s.a xs[j].1.s.len xs[j].1.s.cap,.int .i64 xs[j].1.m] 234)) ?_ ?_
 ·by_cases hk:xs[j].1.k=1
  ·simp[cM,hk]
   rw[Bool.eq_iff_iff];simp
  ·simp[cM,hk]
 ·rintro b w4 ⟨rfl,rfl⟩
  have hg4:Grow w (w3.alloc (.cells #[.int .i64 xs[j].1.k,.int .i64 xs[j].1.b,.int .i64 xs[j].1.o,.slice xs[j].1.s.a xs[j].1.s.len xs[j].1.s.cap,.int .i64 xs[j].1.m] 234)):=N6.alloc _;have QN:=ho.grow ((Mod.refl _ w3).alloc (.cells #[.int .i64 xs[j].1.k,.int .i64 xs[j].1.b,.int .i64 xs[j].1.o,.slice xs[j].1.s.a xs[j].1.s.len xs[j].1.s.cap,.int .i64 xs[j].1.m] 234));have hF:iC blk l (xs.take (j+1))=if xs[j].1.b=blk then lay (iC blk l (xs.take j)) xs[j].1.o.toNat xs[j].2 else iC blk l (xs.take j):=by
   rw[ot hjl,A4]
  have MY:(iC blk l (xs.take j)).length=256:=vX rL λx hx=>hall x (List.mem_of_mem_take hx);refine ax (λjO=>?_) (λjO=>?_)
  ·simp only[jb]at jO
   simp[cM];refine tN (by omega) (by have:=QN.bs.len;rw[MY]at this;omega) ?_;simp;refine eA (p:=xs[j].1.s) (by simp) ?_;have hg5:=Mod.drew hg4;have Qb:=QN.grow ((Mod.refl _ _).drew);have qw:t.len=256:=by have:=QN.bs.len;simpa[MY]using this
   have KN:=(hs.2 xs[j] (by simp)).grow hg5;have iF:=KN.len;refine pn (o:=xs[j].1.o.toNat) (src:=xs[j].1.s) (new:=xs[j].2.map ub) Qb (by omega) ?_ rfl KN.row (λ_=>by simp[iF]) KN.cQ (by dsimp only;omega) iR ?_
   ·by_cases hc:t.cap=xs[j].1.o.toNat
    ·right
     have:=Qb.le;dsimp only;omega
    ·left;dsimp only;rw[jc hc];simp
   ·intro w5 g1 g2 g3
    refine⟨Mod.trans hg5 g2 ?_,?_⟩
    ·rintro b hb9 ⟨QO,h3,rfl⟩
     have:=(Qb.tO h3).1;omega
    ·rw[hF,jd jO.2]
     simpa[lay,List.map_take,List.map_drop]using g1
  ·refine⟨hg4,?_⟩
   rw[hF];split
   ·rename_i KO
    simp only[ja,not_and]at jO;have:xs[j].1.k=2:=by
     rcases hb.2.2.2 with⟨h,_⟩|⟨h,_⟩
     ·exact absurd KO (jO h)
     ·exact h
    have N7:xs[j].2=[]:=jy (by omega);rw[N7,xq];exact QN
   ·exact QN
def Sf:An:=(.n (.n (.n .z)))
def QV(aD:Int)(aG:Int)(aP:Int)(bB:Sl)(cW:Int)(Q:Int×Int×Int×Sl×Int->Pr):Pr:=
 nw (.cells #[(.int .i64 aD),(.int .i64 aG),(.int .i64 aP),(.slice bB.a bB.len bB.cap),(.int .i64 cW)] 234) λr=>
 nw (.cells #[(.int .i64 0),(.int .i64 0),(.int .i64 0),(.slice none 0 0),(.int .i64 0)] 234) λr_1=>
 deref (some ⟨r,0,none⟩) λa=>
 deref (some (a.add 3)) λa_1=>
 cM .slice a_1 λ(t4:Sl)=>
 cS 95 [(.slice t4.a t4.len t4.cap)] λt5=>
 deref (some ⟨r,0,none⟩) λa_2=>
 deref (some (a_2.add 3)) λiA=>
 st iA (.slice t5.a t5.len t5.cap)<|
 deref (some ⟨r,0,none⟩) λeX=>
 aN [(.int .i64),(.int .i64),(.int .i64),.slice,(.int .i64)] eX λ(t7:Int×Int×Int×Sl×Int)=>
 deref (some ⟨r_1,0,none⟩) λgw=>
 st (gw.add 0) (.int .i64 t7.1)<|
 st (gw.add 1) (.int .i64 t7.2.1)<|
 st (gw.add 2) (.int .i64 t7.2.2.1)<|
 st (gw.add 3) (.slice t7.2.2.2.1.a t7.2.2.2.1.len t7.2.2.2.1.cap)<|
 st (gw.add 4) (.int .i64 t7.2.2.2.2)<|
 deref (some ⟨r_1,0,none⟩) λlN=>
 aN [(.int .i64),(.int .i64),(.int .i64),.slice,(.int .i64)] lN λ(res:Int×Int×Int×Sl×Int)=>
 Q ((res.1,res.2.1,res.2.2.1,res.2.2.2.1,res.2.2.2.2))
theorem A9(aD aG aP bB cW Q w)(h:QV aD aG aP bB cW Q w):Calls Pq 263 #[(.agg #[(.int .i64 aD),(.int .i64 aG),(.int .i64 aP),(slV bB),(.int .i64 cW)])] w (aj [.agg [(.int .i64),(.int .i64),(.int .i64),.slice,(.int .i64)]] Q):=cF (an:=Sf) Tryz.func263 (by kernel_rfl) h
def Sg:An:=(.n (.n (.n (.sq (.jn [(4,.c .slice),(6,.c af)] (.n (.bl (.lp [(4,.c .slice),(5,.c .slice),(6,.c af),(11,.c af)] (.n (.sq (.br .z .z) (.sq (.jn [(4,.c .slice),(5,.c .slice),(6,.c af)] (.bl (.n (.sq (.n (.br .z .z)) (.sq (.n (.br (.n .z) .z)) (.sq (.n (.br .z .z)) .z)))))) .z))))))) (.n .z)))))
def QY(p0:Sl)(Q:Sl×Int->Pr):Pr:=
 jn (S:=Sl×Int) (λR=>
 cq (S:=Sl×Sl×Int×Int) (λX s_1=>
 br (decide (s_1.2.2.2<(p0.len:Int))) (
 jn (S:=Sl×Sl×Int) (λeu=>
 b8 ((0:Int)<=s_1.2.2.2/\s_1.2.2.2<(p0.len:Int))<|
 deref p0.a λa=>
 deref (some (a.add (Int.toNat s_1.2.2.2*5))) λa_1=>
 aN [(.int .i64),(.int .i64),(.int .i64),.slice,(.int .i64)] a_1 λ(t15:Int×Int×Int×Sl×Int)=>
 nw (.cells #[(.int .i64 0),(.int .i64 0),(.int .i64 0),(.slice none 0 0),(.int .i64 0)] 234) λr=>
 deref (some ⟨r,0,none⟩) λa_2=>
 st (a_2.add 0) (.int .i64 t15.1)<|
 st (a_2.add 1) (.int .i64 t15.2.1)<|
 st (a_2.add 2) (.int .i64 t15.2.2.1)<|
 st (a_2.add 3) (.slice t15.2.2.2.1.a t15.2.2.2.1.len t15.2.2.2.1.cap)<|
 st (a_2.add 4) (.int .i64 t15.2.2.2.2)<|
 deref (some ⟨r,0,none⟩) λiA=>
 aN [(.int .i64),(.int .i64),(.int .i64),.slice,(.int .i64)] iA λ(t16:Int×Int×Int×Sl×Int)=>
 cI 262 [(.agg #[(.int .i64 t16.1),(.int .i64 t16.2.1),(.int .i64 t16.2.2.1),(.slice t16.2.2.2.1.a t16.2.2.2.1.len t16.2.2.2.1.cap),(.int .i64 t16.2.2.2.2)])] λt17=>
 br (t17 !=0) (
 R (s_1.1,s_1.2.2.1)) (
 deref (some ⟨r,0,none⟩) λeX=>
 deref (some (eX.add 0)) λgw=>
 cM (.int .i64) gw λ(t20:Int)=>
 br (t20==1) (
 deref (some ⟨r,0,none⟩) λlN=>
 aN [(.int .i64),(.int .i64),(.int .i64),.slice,(.int .i64)] lN λ(t23:Int×Int×Int×Sl×Int)=>
 av Pq 263 [(.agg #[(.int .i64 t23.1),(.int .i64 t23.2.1),(.int .i64 t23.2.2.1),(.slice t23.2.2.2.1.a t23.2.2.2.1.len t23.2.2.2.1.cap),(.int .i64 t23.2.2.2.2)])] [.agg [(.int .i64),(.int .i64),(.int .i64),.slice,(.int .i64)]] λ(t24:Int×Int×Int×Sl×Int)=>
 nw (.cells #[(.int .i64 t24.1),(.int .i64 t24.2.1),(.int .i64 t24.2.2.1),(.slice t24.2.2.2.1.a t24.2.2.2.1.len t24.2.2.2.1.cap),(.int .i64 t24.2.2.2.2)] 234) λr_1=>
 app 234 5 56 [(.int .i64 0),(.int .i64 0),(.int .i64 0),(.slice none 0 0),(.int .i64 0)] s_1.2.1 ⟨(some ⟨r_1,0,none⟩),1,1⟩ λt26=>
 eu (s_1.1,t26,s_1.2.2.1)) (
 deref (some ⟨r,0,none⟩) λmA=>
 deref (some (mA.add 4)) λkG=>
 cM (.int .i64) kG λ(t28:Int)=>
 br (t28 !=(s_1.2.1.len:Int)) (
 R (s_1.1,s_1.2.2.1)) (
 app 234 5 56 [(.int .i64 0),(.int .i64 0),(.int .i64 0),(.slice none 0 0),(.int .i64 0)] s_1.1 s_1.2.1 λt34=>
 eu (t34,⟨none,0,0⟩,(IntKind.wrap .i64 (s_1.2.2.2+1))))))) λs_2=>
 X (s_2.1,s_2.2.1,s_2.2.2,(IntKind.wrap .i64 (s_1.2.2.2+1)))) (
 R (s_1.1,s_1.2.2.1))) (⟨none,0,0⟩,⟨none,0,0⟩,0,0)) λs=>
 Q (s.1,s.2)
theorem Bb(p0 Q w)(h:QY p0 Q w):Calls Pq 190 #[(slV p0)] w (aj [.c .slice,.c af] Q):=cF (an:=Sg) Tryz.func190 (by kernel_rfl) h
def Si:An:=(.n (.sq (.n (.br (.n .z) .z)) (.n .z)))
def Q3(p0:Sl)(Q:Sl->Pr):Pr:=
 b8 True<|
 br (Option.isNone p0.a) (
 Q (⟨none,0,0⟩)) (
 nw (.cells #[] 234) λr=>
 app 234 5 56 [(.int .i64 0),(.int .i64 0),(.int .i64 0),(.slice none 0 0),(.int .i64 0)] ⟨(some ⟨r,0,none⟩),0,0⟩ p0 λt7=>
 Q t7)
theorem Bc(p0 Q w)(h:Q3 p0 Q w):Calls Pq 155 #[(slV p0)] w (aj [.c .slice] Q):=cF (an:=Si) Tryz.func155 (by kernel_rfl) h
def rcs(xs:List Rc):LV:=xs.flatMap (·.1.cells)
theorem lz(xs ys:List Rc):rcs (xs++ys)=rcs xs++rcs ys:=by simp[rcs]
theorem EE(x:Rc):rcs [x]=x.1.cells:=by simp[rcs]
theorem jS(xs:List Rc):rcs xs=(xs.map (·.1)).flatMap Rw.cells:=by simp[rcs,List.flatMap_map]
theorem H6(xs:List Rc):∀v∈rcs xs,aE v:=by
 intro v hv;simp only[rcs,List.mem_flatMap]at hv;obtain⟨x,_,hv⟩:=hv;simp only[Rw.cells,List.mem_cons,List.not_mem_nil,or_false]at hv;rcases hv with rfl|rfl|rfl|rfl|rfl<;>trivial
def gQ(s t:Sl):Prop:=∀b,s.blk b->t.blk b->False
theorem gQ.symm{s t:Sl}(h:gQ s t):gQ t s:=λb h1 h2=>h b h2 h1
structure dR(w:World)(n0:Nat)(s:Sl)(xs:List Rc):Prop where
 own:aQ w n0 5 s (rcs xs)
 dat:∀x∈xs,aQ w n0 1 x.1.s (x.2.map ub)
 YZ:∀x∈xs,gQ s x.1.s
 pw:xs.Pairwise λx y=>gQ x.1.s y.1.s
theorem aQ.kC{w:World}{n0 n:Nat}{s:Sl}{vs:LV}(h:aQ w n0 n s vs){b:Nat}(hb:s.blk b):b<w.heap.size:=by
 obtain⟨ad,h1,rfl⟩:=hb;rcases h.row with⟨h2,_⟩|⟨b,off,spare,h2,h3,h4,_⟩
 ·rw[h2]at h1;cases h1
 ·rw[h2]at h1;cases h1;exact h4
theorem aQ.kz{w:World}{n0 n:Nat}{s:Sl}{vs:LV}(h:aQ w n0 n s vs){b:Nat}(hb:s.blk b):n0<=b:=by
 obtain⟨ad,h1,rfl⟩:=hb;rcases h.row with⟨h2,_⟩|⟨b,off,spare,h2,h3,h4,_⟩
 ·rw[h2]at h1;cases h1
 ·rw[h2]at h1;cases h1;exact h3
theorem dR.nil(w:World)(n0:Nat):dR w n0 ⟨none,0,0⟩ []:=⟨aQ.nil _ _ _,by simp,by simp,.nil⟩
theorem dR.mod{S:Nat->Prop}{w w':World}{n0:Nat}{s:Sl}{xs:List Rc}(h:dR w n0 s xs)(hm:Mod S w w')(hs:∀b,S b->s.blk b->False)(hx:∀x∈xs,∀b,S b->x.1.s.blk b->False):dR w' n0 s xs:=
 ⟨h.own.mod hm λad ha hS=>hs _ hS ⟨ad,ha,rfl⟩,λx hx'=>(h.dat x hx').mod hm λad ha hS=>hx x hx' _ hS ⟨ad,ha,rfl⟩,h.YZ,h.pw⟩
theorem dR.grow{w w':World}{n0:Nat}{s:Sl}{xs:List Rc}(h:dR w n0 s xs)(hm:Grow w w'):dR w' n0 s xs:=h.mod hm (λ_ h _=>h) (λ_ _ _ h _=>h)
theorem dR.len{w:World}{n0:Nat}{s:Sl}{xs:List Rc}(h:dR w n0 s xs):s.len=xs.length:=by
 have:=h.own.len;rw[jS,c6 Rw.cH]at this;simp only[je]at this;omega
theorem dR.rl{w:World}{n0:Nat}{s:Sl}{xs:List Rc}(h:dR w n0 s xs):RL w s xs:=by
 refine⟨aQ.ss Rw.cH (by decide) (n0:=n0) ?_,λx hx=>(h.dat x hx).bs⟩;rw[<-jS];exact h.own
abbrev H7:LV:=[.int .i64 0,.int .i64 0,.int .i64 0,.slice none 0 0,.int .i64 0]
theorem dR.more{w:World}{n0:Nat}{s t:Sl}{xs ys:List Rc}{k:Sl->Pr}(h:dR w n0 s xs)(hn0:n0<=w.heap.size)(ht:cj w t.a (rcs ys))(qw:t.len=ys.length)
 (hd:∀y∈ys,aQ w n0 1 y.1.s (y.2.map ub))(hs:∀y∈ys,gQ s y.1.s)(hp:(xs++ys).Pairwise λx y=>gQ x.1.s y.1.s)(hb:xs.length+ys.length<=100000000000)
 (hk:∀r w',dR w' n0 r (xs++ys)->Mod s.blk w w'->(∀b,r.blk b->s.blk b\/w.heap.size<=b)->k r w'):app 234 5 56 H7 s t k w:=by
 have hlen:(rcs ys).length=ys.length*5:=by rw[jS,c6 Rw.cH];simp
 have fV:=h.len;refine o9 (vs:=rcs xs) (new:=rcs ys) h.own hn0 (λ_=>by rw[hlen,qw]) ?_ ht (H6 ys) rfl (by decide) (by rw[qw,fV];omega) ?_
 ·intro ha
  rw[ha]at ht;have h0:rcs ys=[]:=ht;rw[h0]at hlen;simp only[List.length_nil]at hlen;omega
 intro r w' h1 h2 _ _ h5 h6;refine hk r w' ⟨by rw[lz];exact h1,?_,?_,hp⟩ h5 h6
 ·intro x hx
  rcases jz.1 hx with hx|hx
  ·exact(h.dat x hx).mod h5 λad ha hS=>h.YZ x hx _ hS ⟨ad,ha,rfl⟩
  ·exact(hd x hx).mod h5 λad ha hS=>hs x hx _ hS ⟨ad,ha,rfl⟩
 ·intro x hx b td jO
  rcases jz.1 hx with hx|hx
  ·rcases h6 b td with h7|h7
   ·exact h.YZ x hx b h7 jO
   ·have:=aQ.kC (h.dat x hx) jO
    omega
  ·rcases h6 b td with h7|h7
   ·exact hs x hx b h7 jO
   ·have:=aQ.kC (hd x hx) jO
    omega
theorem dR.push{w0 w:World}{n0:Nat}{s:Sl}{xs:List Rc}{x:Rc}{k:Sl->Pr}(h:dR w0 n0 s xs)(hn0:n0<=w0.heap.size)(hg:Grow w0 w)
 (hd:aQ w w0.heap.size 1 x.1.s (x.2.map ub))(hb:xs.length<100000000000)
 (hk:∀r w',dR w' n0 r (xs++[x])->Mod s.blk w w'->(∀b,r.blk b->s.blk b\/w.heap.size<=b)->k r w'):
 app 234 5 56 H7 s ⟨some ⟨w.heap.size,0,none⟩,1,1⟩ k (w.alloc (.cells x.1.cells.toArray 234)):=by
 have AG:Grow w (w.alloc (.cells x.1.cells.toArray 234)):=(Mod.refl _ w).alloc _;have h2:=h.grow (Grow.trans hg AG);have hsz:=hg.size;have acr:=AG.size;refine dR.more (ys:=[x]) h2 (by omega) ?_ rfl ?_ ?_ ?_ (by simp only[List.length_singleton];omega) ?_
 ·rw[EE]
  refine ay.2 λj v hj=>?_;rw[gd,Nat.zero_add,World.cell?_alloc_new];simpa using hj
 ·intro y hy
  rw[jq]at hy;subst hy;exact(hd.grow AG).weaken hn0
 ·intro y hy b td jO
  rw[jq]at hy;subst hy;have h3:=aQ.kC h.own td;have h4:=aQ.kz hd jO;omega
 ·rw[List.pairwise_append]
  refine⟨h.pw,List.pairwise_singleton _ _,λy hy c hc b td jO=>?_⟩;rw[jq]at hc;subst hc;have h3:=aQ.kC (h.dat y hy) td;have h4:=aQ.kz hd jO;omega
 ·intro r w' g1 g2 g3
  refine hk r w' g1 (Mod.trans AG.mod g2 λ_ _ h=>h) λb hb=>?_;rcases g3 b hb with h5|h5
  ·exact .inl h5
  ·exact .inr (by omega)
abbrev Rv:=Int×Int×Int×Int×LB
def rv(x:Rc):Rv:=(x.1.k,x.1.b,x.1.o,x.1.m,x.2)
abbrev ZG(r:Rw):Value:=.agg #[.int .i64 r.k,.int .i64 r.b,.int .i64 r.o,.slice r.s.a r.s.len r.s.cap,.int .i64 r.m]
abbrev lR:List CS:=[af,af,af,.slice,af]
theorem HW{w:World}{s:Sl}{xs:List Rc}{j:Nat}{k:Int×Int×Int×Sl×Int->Pr}(h:RL w s xs)(hj:j<xs.length)(hk:k xs[j].1.p w):
 (b8 ((0:Int)<=(j:Int)/\(j:Int)<(s.len:Int))<|deref s.a λa=>deref (some (a.add (Int.toNat j*5))) λa1=>aN [af,af,af,.slice,af] a1 k) w:=by
 have hl:=h.len;obtain⟨ad,ha,hrow⟩:=h.1.get (n:=5) Rw.cH (i:=j) (r:=xs[j].1) (by simp[hj]) (by omega);refine⟨by omega,?_⟩;rw[ha];simp only[gC,jl];exact fy (p:=xs[j].1.p) (Rw.reads hrow) hk
theorem A8{w w3:World}{x:Rw}{d:Sl}{l:LB}{b1 b2:Nat}{Q:Int×Int×Int×Sl×Int->Pr}(h1:gH w3 b1 x.cells)(h2:gH w3 b2 H7)(hne:b1≠b2)(hg:Grow w w3)(td:w.heap.size<=b1)(jO:w.heap.size<=b2)
 (hd:aQ w3 (w.heap.size+2) 1 d (l.map ub))(KO:b1<w.heap.size+2/\b2<w.heap.size+2)(hk:∀w',aQ w' w.heap.size 1 d (l.map ub)->Grow w w'->Q ({x with s:=d}:Rw).p w'):
 (st (Addr.add ⟨b1,0,none⟩ 3) (.slice d.a d.len d.cap)<|aN [af,af,af,.slice,af] ⟨b1,0,none⟩ λ(t7:Int×Int×Int×Sl×Int)=>
   st (Addr.add ⟨b2,0,none⟩ 0) (.int .i64 t7.1)<|st (Addr.add ⟨b2,0,none⟩ 1) (.int .i64 t7.2.1)<|st (Addr.add ⟨b2,0,none⟩ 2) (.int .i64 t7.2.2.1)<|
   st (Addr.add ⟨b2,0,none⟩ 3) (.slice t7.2.2.2.1.a t7.2.2.2.1.len t7.2.2.2.1.cap)<|st (Addr.add ⟨b2,0,none⟩ 4) (.int .i64 t7.2.2.2.2)<|
   aN [af,af,af,.slice,af] ⟨b2,0,none⟩ Q) w3:=by
 refine h1.st (by simp) trivial λw4 k1 m1 s1=>?_;refine gH.aN (l:=lR) (p:=({x with s:=d}:Rw).p) k1 ?_;have h2':=h2.mod m1 (λh=>hne h.symm);refine h2'.st (by simp) trivial λw5 k5 m5 s5=>?_;refine k5.st (by simp) trivial λw6 k6 m6 s6=>?_;refine k6.st (by simp) trivial λw7 k7 m7 s7=>?_;refine k7.st (by simp) trivial λw8 k8 m8 s8=>?_;refine k8.st (by simp) trivial λw9 k9 m9 s9=>?_;refine gH.aN (l:=lR) (p:=({x with s:=d}:Rw).p) k9 ?_;have hm:Mod (λb=>b=b1\/b=b2) w3 w9:=by
  refine Mod.trans (Mod.trans (Mod.trans (Mod.trans (Mod.trans (Mod.mono (T:=λb=>b=b1\/b=b2) m1 λ_ _ h=>.inl h) m5 ?_) m6 ?_) m7 ?_) m8 ?_) m9 ?_<;>exact λ_ _ h=>.inr h
 refine hk w9 ((hd.mod hm λad ha hS=>?_).weaken (by omega)) (Mod.trans hg hm λb hb hS=>?_)
 ·have:=aQ.kz hd ⟨ad,ha,rfl⟩
  omega
 ·omega
theorem C61(x:Rc)(w:World)(hx:BS w x.1.s x.2)(hb:x.1.s.len<=100000000000000):Calls Pq 263 #[ZG x.1] w (aj [.agg [af,af,af,.slice,af]] λr w'=>
 (∃d,r=({x.1 with s:=d}:Rw).p/\aQ w' w.heap.size 1 d (x.2.map ub))/\Grow w w'):=by
 refine A9 _ _ _ _ _ _ _ ?_;unfold QV;refine rK λb1 w1 g1 e1 s1 td=>rK λb2 w2 g2 e2 s2 jO=>?_;have hg:=Grow.trans g1 g2;have QW:=td.grow g2;simp only[gC];refine QW.ld (i:=3) (s:=.slice) (p:=x.1.s) rfl ?_;refine aa (KK x.1.s x.2 _ (hx.grow hg) (by omega)) ?_;rintro d w3 ⟨hd,_,N6⟩;simp only[ah];refine A8 (x:=x.1) (l:=x.2) (QW.grow N6) (jO.grow N6) (by omega) (Grow.trans hg N6) (by omega) (by omega) (by rwa[s2,s1]at hd) (by omega) ?_;intro w' h1 h2;exact⟨⟨d,rfl,h1⟩,h2⟩
def Sw:An:=(.n (.sq (.n (.br (.n .z) .z)) (.n .z)))
def Q5(p0:OA)(Q:Int->Pr):Pr:=
 b8 True<|
 br (Option.isNone p0) (
 Q 0) (
 deref p0 λa=>
 deref (some a) λa_1=>
 deref (some (a_1.add 0)) λa_2=>
 cM .slice a_2 λ(t8:Sl)=>
 Q ((t8.len:Int)))
theorem Bd(p0 Q w)(h:Q5 p0 Q w):Calls Pq 113 #[(.pointer p0)] w (aj [.c af] Q):=cF (an:=Sw) Tryz.func113 (by kernel_rfl) h
def Sx:An:=(.n (.sq (.bl (.n (.br (.n .z) (.n (.br (.n .z) .z))))) (.n .z)))
def Q6(p0:OA)(Q:Int->Pr):Pr:=
 cI 113 [(.pointer p0)] λt5=>
 br (t5==0) (
 Q 2) (
 deref p0 λa=>
 deref (some a) λa_1=>
 deref (some (a_1.add 2)) λa_2=>
 cM .bool a_2 λ(t11:Bool)=>
 br t11 (
 Q 5) (
 Q 0))
theorem Be(p0 Q w)(h:Q6 p0 Q w):Calls Pq 106 #[(.pointer p0)] w (aj [.c af] Q):=cF (an:=Sx) Tryz.func106 (by kernel_rfl) h
def Sy:An:=(.n (.sq (.n (.n (.br (.n .z) .z))) (.sq (.sq (.jn [(21,.c .bool)] .z) (.br (.n .z) .z)) (.n .z))))
def Q7(p0:OA)(p1:Int)(Q:Int->Pr):Pr:=
 cI 106 [(.pointer p0)] λt7=>
 br (t7 !=0) (
 Q t7) (
 jn (S:=Bool) (λR=>
 br (decide (p1<0)) (
 R true) (
 deref p0 λa=>
 deref (some a) λa_1=>
 deref (some (a_1.add 0)) λa_2=>
 cM .slice a_2 λ(t18:Sl)=>
 R ((decide (p1>=(t18.len:Int)))))) λs=>
 br s (
 Q 30) (
 Q 0))
theorem Bg(p0 p1 Q w)(h:Q7 p0 p1 Q w):Calls Pq 267 #[(.pointer p0),(.int .i64 p1)] w (aj [.c af] Q):=cF (an:=Sy) Tryz.func267 (by kernel_rfl) h
def Sz:An:=(.n (.n .z))
def Q8(p0:Sl)(Q:Value->Pr):Pr:=
 b8 (aE (.slice p0.a p0.len p0.cap))<|nw (.cells #[(.slice p0.a p0.len p0.cap)] 176) λr=>
 Q ((.func (.func 317) #[] #[(.pointer (some ⟨r,0,none⟩))]))
theorem Bh(p0 Q w)(h:Q8 p0 Q w):Calls Pq 296 #[(slV p0)] w (aj [.c .any] Q):=cF (an:=Sz) Tryz.func296 (by kernel_rfl) h
def SA:An:=(.n (.bl (.lp [(3,.c af)] (.sq (.n (.br .z .z)) (.sq (.bl (.n (.br .z .z))) .z)))))
def Q9(p0:Value)(p1:OA)(Q:Unit->Pr):Pr:=
 deref p1 λa=>
 cM .slice a λ(t4:Sl)=>
 cq (S:=Int) (λX s=>
 br (decide (s>=0)) (
 deref p1 λa_1=>
 cM .slice a_1 λ(t13:Sl)=>
 b8 ((0:Int)<=s/\s<(t13.len:Int))<|
 deref t13.a λa_2=>
 deref (some (a_2.add (Int.toNat s*2))) λiA=>
 aN [(.int .i64),.slice] iA λ(t16:Int×Sl)=>
 dx Pq p0 [(.int .i64 s),(.agg #[(.int .i64 t16.1),(.slice t16.2.a t16.2.len t16.2.cap)])] [.c .bool] λ(t17:Bool)=>
 br (!t17) (
 Q ()) (
 X ((IntKind.wrap .i64 (s-1))))) (
 Q ())) ((IntKind.wrap .i64 ((t4.len:Int)-1)))
theorem Bi(p0 p1 Q w)(h:Q9 p0 p1 Q w):Calls Pq 317 #[p0,(.pointer p1)] w (aj [] Q):=cF (an:=SA) Tryz.func317 (by kernel_rfl) h
def SC:An:=(.n (.sq (.n (.n (.br (.n .z) .z))) (.sq (.n (.bl (.rf [.c af,.agg [(.int .i64),.slice]] .z (.bl (.n (.br (.n .z) .z)))))) (.n .z))))
def Rb(p0:OA)(p1:Int)(Q:Sl×Int->Pr):Pr:=
 b8 (aE (.int .i64 p1))<|nw (.cells #[(.int .i64 p1)] 3) λr=>
 b8 (aE (.slice none 0 0))<|nw (.cells #[(.slice none 0 0)] 40) λr_1=>
 b8 (aE (.int .i64 0))<|nw (.cells #[(.int .i64 0)] 33) λr_2=>
 deref (some ⟨r,0,none⟩) λa=>
 cM (.int .i64) a λ(t10:Int)=>
 cI 267 [(.pointer p0),(.int .i64 t10)] λt11=>
 br (t11 !=0) (
 deref (some ⟨r_1,0,none⟩) λa_1=>
 st a_1 (.slice none 0 0)<|
 deref (some ⟨r_2,0,none⟩) λa_2=>
 st a_2 (.int .i64 t11)<|
 deref (some ⟨r_1,0,none⟩) λiA=>
 cM .slice iA λ(res:Sl)=>
 deref (some ⟨r_2,0,none⟩) λeX=>
 cM (.int .i64) eX λ(cE:Int)=>
 Q (res,cE)) (
 deref p0 λgw=>
 deref (some gw) λlN=>
 deref (some (lN.add 1)) λmA=>
 cM .slice mA λ(t18:Sl)=>
 av Pq 296 [(.slice t18.a t18.len t18.cap)] [.c .any] λ(t19:Value)=>
 xp Pq t19 [.c af,.agg [(.int .i64),.slice]] (λl (z:Int×Int×Sl) bg nx lv=>
 nw (.cells #[(.int .i64 0),(.slice none 0 0)] 269) λr_3=>
 deref (some ⟨r_3,0,none⟩) λkG=>
 st (kG.add 0) (.int .i64 z.2.1)<|
 st (kG.add 1) (.slice z.2.2.a z.2.2.len z.2.2.cap)<|
 bg (
 deref (some ⟨r_3,0,none⟩) λpZ=>
 deref (some (pZ.add 0)) λkH=>
 cM (.int .i64) kH λ(t23:Int)=>
 deref (some ⟨r,0,none⟩) λgb=>
 cM (.int .i64) gb λ(t24:Int)=>
 br (t23==t24) (
 deref (some ⟨r_3,0,none⟩) λlP=>
 deref (some (lP.add 1)) λqU=>
 cM .slice qU λ(t27:Sl)=>
 cS 95 [(.slice t27.a t27.len t27.cap)] λt28=>
 deref (some ⟨r_1,0,none⟩) λnt=>
 st nt (.slice t28.a t28.len t28.cap)<|
 deref (some ⟨r_2,0,none⟩) λqV=>
 st qV (.int .i64 0)<|
 lv none) (
 nx))) (λD=>
 fJ<|
 deref p0 λoI=>
 deref (some oI) λsV=>
 deref (some (sV.add 0)) λoJ=>
 cM .slice oJ λ(t32:Sl)=>
 deref (some ⟨r,0,none⟩) λkV=>
 cM (.int .i64) kV λ(t33:Int)=>
 b8 ((0:Int)<=t33/\t33<(t32.len:Int))<|
 deref t32.a λqW=>
 deref (some (qW.add (Int.toNat t33*1))) λJf=>
 cM .slice Jf λ(t35:Sl)=>
 cS 95 [(.slice t35.a t35.len t35.cap)] λt36=>
 deref (some ⟨r_1,0,none⟩) λB8=>
 st B8 (.slice t36.a t36.len t36.cap)<|
 deref (some ⟨r_2,0,none⟩) λJg=>
 st Jg (.int .i64 0)<|
 takes [D]<|
 deref (some ⟨r_1,0,none⟩) λJh=>
 cM .slice Jh λ(gY:Sl)=>
 deref (some ⟨r_2,0,none⟩) λJi=>
 cM (.int .i64) Ji λ(p6:Int)=>
 Q (gY,p6)) (λD=>
 takes [D]<|
 deref (some ⟨r_1,0,none⟩) λxT=>
 cM .slice xT λ(uK:Sl)=>
 deref (some ⟨r_2,0,none⟩) λB9=>
 cM (.int .i64) B9 λ(zE:Int)=>
 Q (uK,zE)) (λD=>[]))
theorem Bj(p0 p1 Q w)(h:Rb p0 p1 Q w):Calls Pq 257 #[(.pointer p0),(.int .i64 p1)] w (aj [.c .slice,.c af] Q):=cF (an:=SC) Tryz.func257 (by kernel_rfl) h
def SD:An:=(.n (.n (.bl (.lp [(8,.c af)] (.n (.sq (.br .z .z) (.sq (.jn [] (.bl (.n (.n (.br (.n .z) .z))))) .z)))))))
def Rq(p0:OA)(bJ:Int)(bH:Sl)(p2:Int)(Q:Unit->Pr):Pr:=
 nw (.cells #[(.int .i64 bJ),(.slice bH.a bH.len bH.cap)] 269) λr=>
 cq (S:=Int) (λX s=>
 br (decide (s<4)) (
 jn (S:=Unit) (λR=>
 b8 ((0:Int)<=s)<|
 br ((gP .u8 (dJ .u8 p2 s) 1)==1) (
 fJ<|
 deref p0 λa=>
 deref (some a) λa_1=>
 deref (some (a_1.add 0)) λa_2=>
 cM .slice a_2 λ(t21:Sl)=>
 deref (some ⟨r,0,none⟩) λiA=>
 deref (some (iA.add 0)) λeX=>
 cM (.int .i64) eX λ(t23:Int)=>
 b8 ((0:Int)<=t23/\t23<(t21.len:Int))<|
 deref t21.a λgw=>
 deref (some (gw.add (Int.toNat t23*1))) λlN=>
 cM .slice lN λ(t25:Sl)=>
 slc 1 t25 (some (IntKind.wrap .i64 (s*64))) (some (IntKind.wrap .i64 ((IntKind.wrap .i64 (s*64))+64))) none λt29=>
 deref (some ⟨r,0,none⟩) λmA=>
 deref (some (mA.add 1)) λkG=>
 cM .slice kG λ(t31:Sl)=>
 slc 1 t31 (some (IntKind.wrap .i64 (s*64))) none none λt33=>
 mo 1 t29 t33<|
 R ()) (
 R ())) λs_1=>
 X ((IntKind.wrap .i64 (s+1)))) (
 Q ())) 0
theorem Bn(p0 bJ bH p2 Q w)(h:Rq p0 bJ bH p2 Q w):Calls Pq 196 #[(.pointer p0),(.agg #[(.int .i64 bJ),(slV bH)]),(.int .u8 p2)] w (aj [] Q):=cF (an:=SD) Tryz.func196 (by kernel_rfl) h
def SE:An:=(.sq (.n (.bl (.lp [(11,.c af)] (.n (.sq (.br .z .z) (.sq (.jn [] (.bl (.n (.n (.br .z .z))))) .z)))))) (.n .z))
def Ry(p0:OA)(p1:Sl)(Q:Unit->Pr):Pr:=
 deref p0 λa=>
 deref (some a) λa_1=>
 deref (some (a_1.add 1)) λa_2=>
 cM .slice a_2 λ(t9:Sl)=>
 cq (S:=Int) (λX s=>
 br (decide (s<(t9.len:Int))) (
 jn (S:=Unit) (λR=>
 b8 ((0:Int)<=s/\s<(t9.len:Int))<|
 deref t9.a λiA=>
 deref (some (iA.add (Int.toNat s*2))) λeX=>
 aN [(.int .i64),.slice] eX λ(t15:Int×Sl)=>
 nw (.cells #[(.int .i64 0),(.slice none 0 0)] 269) λr=>
 deref (some ⟨r,0,none⟩) λgw=>
 st (gw.add 0) (.int .i64 t15.1)<|
 st (gw.add 1) (.slice t15.2.a t15.2.len t15.2.cap)<|
 br (decide (s<(p1.len:Int))) (
 fJ<|
 deref (some ⟨r,0,none⟩) λlN=>
 aN [(.int .i64),.slice] lN λ(t21:Int×Sl)=>
 b8 ((0:Int)<=s/\s<(p1.len:Int))<|
 deref p1.a λmA=>
 deref (some (mA.add (Int.toNat s*1))) λkG=>
 cM (.int .u8) kG λ(t25:Int)=>
 av Pq 196 [(.pointer p0),(.agg #[(.int .i64 t21.1),(.slice t21.2.a t21.2.len t21.2.cap)]),(.int .u8 t25)] [] λ(t26:Unit)=>
 R ()) (
 R ())) λs_1=>
 X ((IntKind.wrap .i64 (s+1)))) (
 deref p0 λpZ=>
 deref (some pZ) λkH=>
 deref (some (kH.add 1)) λgb=>
 st gb (.slice none 0 0)<|
 deref p0 λlP=>
 deref (some lP) λqU=>
 deref (some (qU.add 5)) λnt=>
 st nt (.slice none 0 0)<|
 deref p0 λqV=>
 deref (some qV) λoI=>
 deref (some (oI.add 2)) λsV=>
 st sV (.bool true)<|
 deref p0 λoJ=>
 deref (some oJ) λkV=>
 deref (some (kV.add 4)) λqW=>
 st qW (.int .i64 0)<|
 Q ())) 0
theorem Bo(p0 p1 Q w)(h:Ry p0 p1 Q w):Calls Pq 110 #[(.pointer p0),(slV p1)] w (aj [] Q):=cF (an:=SE) Tryz.func110 (by kernel_rfl) h
def SF:An:=(.n (.n (.sq (.n (.br (.n .z) .z)) (.n (.sq (.n (.br (.n .z) .z)) (.n (.n .z)))))))
def RC(p0:OA)(Q:Bool->Pr):Pr:=
 deref p0 λa=>
 deref (some a) λa_1=>
 deref (some (a_1.add 3)) λa_2=>
 cM (.int .i64) a_2 λ(t6:Int)=>
 deref p0 λiA=>
 deref (some iA) λeX=>
 deref (some (eX.add 3)) λgw=>
 st gw (.int .i64 (IntKind.wrap .i64 (t6+1)))<|
 deref p0 λlN=>
 deref (some lN) λmA=>
 deref (some (mA.add 4)) λkG=>
 cM (.int .i64) kG λ(t13:Int)=>
 br (t13==0) (
 Q false) (
 deref p0 λpZ=>
 deref (some pZ) λkH=>
 deref (some (kH.add 4)) λgb=>
 cM (.int .i64) gb λ(t18:Int)=>
 deref p0 λlP=>
 deref (some lP) λqU=>
 deref (some (qU.add 4)) λnt=>
 st nt (.int .i64 (IntKind.wrap .i64 (t18-1)))<|
 deref p0 λqV=>
 deref (some qV) λoI=>
 deref (some (oI.add 4)) λsV=>
 cM (.int .i64) sV λ(t25:Int)=>
 br (decide (t25>0)) (
 Q false) (
 deref p0 λoJ=>
 deref (some oJ) λkV=>
 deref (some (kV.add 5)) λqW=>
 cM .slice qW λ(t31:Sl)=>
 av Pq 110 [(.pointer p0),(.slice t31.a t31.len t31.cap)] [] λ(t32:Unit)=>
 Q true))
theorem Bp(p0 Q w)(h:RC p0 Q w):Calls Pq 268 #[(.pointer p0)] w (aj [.c .bool] Q):=cF (an:=SF) Tryz.func268 (by kernel_rfl) h
def SG:An:=(.n (.sq (.n (.n (.br (.n .z) .z))) (.sq (.n (.br (.n .z) .z)) (.sq (.jn [] .z) (.sq (.n (.br (.n .z) .z)) (.n .z))))))
def Rk(p0:OA)(p1:Int)(p2:Sl)(Q:Int->Pr):Pr:=
 cI 267 [(.pointer p0),(.int .i64 p1)] λt10=>
 br (t10 !=0) (
 Q t10) (
 br ((p2.len:Int)!=256) (
 Q 31) (
 jn (S:=Unit) (λR=>
 fJ<|
 deref p0 λa=>
 deref (some a) λa_1=>
 both (
 deref (some (a_1.add 1)) λa_2=>
 cM .slice a_2 λ(t21:Sl)=>
 cS 95 [(.slice p2.a p2.len p2.cap)] λt24=>
 nw (.cells #[(.int .i64 p1),(.slice t24.a t24.len t24.cap)] 269) λr=>
 app 269 2 32 [(.int .i64 0),(.slice none 0 0)] t21 ⟨(some ⟨r,0,none⟩),1,1⟩ λt27=>
 deref p0 λiA=>
 deref (some iA) λeX=>
 deref (some (eX.add 1)) λgw=>
 st gw (.slice t27.a t27.len t27.cap)<|
 R ()) (
 cS 95 [(.slice p2.a p2.len p2.cap)] λJj=>
 deref (some (a_1.add 1)) λlN=>
 cM .slice lN λ(SH:Sl)=>
 nw (.cells #[(.int .i64 p1),(.slice Jj.a Jj.len Jj.cap)] 269) λr_1=>
 app 269 2 32 [(.int .i64 0),(.slice none 0 0)] SH ⟨(some ⟨r_1,0,none⟩),1,1⟩ λsn=>
 deref p0 λmA=>
 deref (some mA) λkG=>
 deref (some (kG.add 1)) λpZ=>
 st pZ (.slice sn.a sn.len sn.cap)<|
 R ())) λs=>
 cB 268 [(.pointer p0)] λt31=>
 br t31 (
 Q 5) (
 Q 0)))
theorem Bl(p0 p1 p2 Q w)(h:Rk p0 p1 p2 Q w):Calls Pq 199 #[(.pointer p0),(.int .i64 p1),(slV p2)] w (aj [.c af] Q):=cF (an:=SG) Tryz.func199 (by kernel_rfl) h
def aad:An:=(.n (.sq (.sq (.jn [(11,.c .bool)] .z) (.br (.n .z) .z)) (.n (.sq (.n (.bl (.lp [(21,.c af)] (.n (.sq (.br .z .z) (.sq (.jn [] (.bl (.n .z))) .z)))))) (.n .z)))))
def F45(p0:Int)(Q:(OA)×Int->Pr):Pr:=
 jn (S:=Bool) (λR=>
 br (decide (p0<1)) (
 R true) (
 R ((decide (p0>2048))))) λs=>
 br s (
 Q (none,1)) (
 yD 40 24 [(.slice none 0 0)] p0 p0 λt13=>
 nw (.cells #[(.slice t13.a t13.len t13.cap),(.slice none 0 0),(.bool false),(.int .i64 0),(.int .i64 0),(.slice none 0 0)] 178) λr=>
 deref (some ⟨r,0,none⟩) λa=>
 deref (some a) λa_1=>
 deref (some (a_1.add 0)) λa_2=>
 cM .slice a_2 λ(t19:Sl)=>
 cq (S:=Int) (λX s_1=>
 br (decide (s_1<(t19.len:Int))) (
 jn (S:=Unit) (λeu=>
 fJ<|
 deref (some ⟨r,0,none⟩) λiA=>
 deref (some iA) λeX=>
 both (
 deref (some (eX.add 0)) λgw=>
 cM .slice gw λ(t27:Sl)=>
 yD 5 1 [(.int .u8 0)] 256 256 λt29=>
 b8 ((0:Int)<=s_1/\s_1<(t27.len:Int))<|
 deref t27.a λlN=>
 deref (some (lN.add (Int.toNat s_1*1))) λmA=>
 st mA (.slice t29.a t29.len t29.cap)<|
 eu ()) (
 yD 5 1 [(.int .u8 0)] 256 256 λzF=>
 deref (some (eX.add 0)) λkG=>
 cM .slice kG λ(sn:Sl)=>
 b8 ((0:Int)<=s_1/\s_1<(sn.len:Int))<|
 deref sn.a λpZ=>
 deref (some (pZ.add (Int.toNat s_1*1))) λkH=>
 st kH (.slice zF.a zF.len zF.cap)<|
 eu ())) λs_2=>
 X ((IntKind.wrap .i64 (s_1+1)))) (
 Q ((some ⟨r,0,none⟩),0))) 0)
theorem FM(p0 Q w)(h:F45 p0 Q w):Calls Pq 45 #[(.int .i64 p0)] w (aj [.c .ptr,.c af] Q):=cF (an:=aad) Tryz.func45 (by kernel_rfl) h
structure DM where
 blocks:List (LB)
 wait:List (Int×LB)
 off:Bool
 ops:Int
 bY:Int
 pz:LB
@[simp]theorem Oa(s:Sl):aE (slV s)=True:=rfl
structure DI where
 bs:Sl
 ws:Sl
 ps:Sl
 bl:List (Sl×LB)
 wl:List (Int×Sl×LB)
def er(x:Sl×LB):HA:=az 1 x.1 (x.2.map ub)
def gD(x:Int×Sl×LB):LV:=[.int .i64 x.1,slV x.2.1]
def Q4(p:Nat)(D:DM)(i:DI):List HA:=
 [
  pA (D.blocks=i.bl.map (·.2)/\D.wait=i.wl.map λx=>(x.1,x.2.2)),
  ag p [slV i.bs,slV i.ws,.bool D.off,.int .i64 D.ops,.int .i64 D.bY,slV i.ps],
  az 1 i.bs (i.bl.map λx=>slV x.1),
  az 2 i.ws (i.wl.flatMap gD),
  az 1 i.ps (D.pz.map ub),
  ck (i.bl.map er),
  ck (i.wl.map λx=>er x.2)]
def au(p:Nat)(D:DM):HA:=KQ (Q4 p D)
structure DM.ok(D:DM):Prop where
 len:∀b∈D.blocks,b.length=256
 mT:∀x∈D.wait,0<=x.1/\x.1<D.blocks.length/\x.2.length=256
 pos:1<=D.blocks.length
 le:D.blocks.length<=2048
def Ib(D:DM):Int:=if D.off then 5 else 0
def bt(D:DM)(i:Int):Int:=if D.off then 5 else if i<0\/i>=D.blocks.length then 30 else 0
theorem bS{w:World}{s:Sl}{vs:LV}(h:aQ w 0 1 s vs):s.len=vs.length:=by have:=h.len;omega
abbrev P0(p:Nat):Value:=.pointer (some ⟨p,0,none⟩)
theorem Qc(p:Nat)(D:DM)(w:World)(F:Nat->Prop)(h:Has [au p D] w F):
 Calls Pq 113 #[P0 p] w (aj [.c af] λr w'=>r=D.blocks.length/\w=w'):=by
 refine Bd _ _ _ ?_;unfold Q5;obtain⟨i,st⟩:=(St.init h).ex;obtain⟨⟨hb,hw⟩,st⟩:=st.p;refine⟨trivial,aB rfl ?_⟩;simp only[ah];refine St.ld st (i:=0) (s:=.slice) (p:=i.bs) rfl ⟨?_,rfl⟩;rw[bS (st.aq 1).sl,hb];simp
theorem ZI(p:Nat)(D:DM)(w:World)(F:Nat->Prop)(h:Has [au p D] w F)(hok:D.ok):
 Calls Pq 106 #[P0 p] w (aj [.c af] λr w'=>r=Ib D/\w=w'):=by
 refine Be _ _ _ ?_;unfold Q6;refine aa (Qc p D w F h) ?_;rintro _ _ ⟨rfl,rfl⟩;have hp:=hok.pos;obtain⟨i,st⟩:=(St.init h).ex;obtain⟨⟨hb,hw⟩,st⟩:=st.p;refine aB (by rw[beq_eq_false_iff_ne];omega) ?_;simp only[ah];refine St.ld st (i:=2) (s:=.bool) (p:=D.off) rfl ?_;unfold Ib;refine ax (λh=>⟨by rw[jd h],rfl⟩) (λh=>⟨by rw[jc (by simp[h])],rfl⟩)
theorem C70(p:Nat)(D:DM)(j:Int)(w:World)(F:Nat->Prop)(h:Has [au p D] w F)(hok:D.ok):
 Calls Pq 267 #[P0 p,.int .i64 j] w (aj [.c af] λr w'=>r=bt D j/\w=w'):=by
 refine Bg _ _ _ _ ?_;unfold Q7;refine aa (ZI p D w F h hok) ?_;rintro _ _ ⟨rfl,rfl⟩;unfold Ib bt;refine ax (λhne=>?_) (λheq=>?_)
 ·have:D.off=true:=by
   cases hh:D.off
   ·rw[hh]at hne;simp at hne
   ·rfl
  simp[this]
 ·have:D.off=false:=by
   cases hh:D.off
   ·rfl
   ·rw[hh]at heq;simp at heq
  rw[this];obtain⟨i,st⟩:=(St.init h).ex;obtain⟨⟨hb,hw⟩,st⟩:=st.p;refine aF (λb w'=>b=decide (j<0\/j>=D.blocks.length)/\w=w') ?_ ?_
  ·refine ax (λh0=>⟨?_,rfl⟩) (λh0=>?_)
   ·simp only[jb]at h0
    symm;rw[jb];exact .inl h0
   ·simp only[ja]at h0
    simp only[ah];refine St.ld st (i:=0) (s:=.slice) (p:=i.bs) rfl ⟨?_,rfl⟩;have hl:i.bs.len=D.blocks.length:=by rw[bS (st.aq 1).sl,hb];simp
    rw[hl,decide_eq_decide];omega
  ·rintro _ _ ⟨rfl,rfl⟩
   by_cases hc:j<0\/j>=D.blocks.length
   ·refine bz (by simp[hc]) ⟨?_,rfl⟩
    rw[jc (by simp),jd hc]
   ·refine aB (by simp[hc]) ⟨?_,rfl⟩
    rw[jc (by simp),jc hc]
@[simp]theorem eB(x:Int×Sl×LB):(gD x).length=2:=rfl
abbrev WS:=SS gD
def cr(D:DM)(i:Int):LB:=((D.wait.reverse.find? (·.1==i)).map (·.2)).getD ((D.blocks[i.toNat]?).getD [])
theorem C71(s:Sl)(w:World):Calls Pq 296 #[.slice s.a s.len s.cap] w (aj [.c .any] λr w'=>∃b,r=.func (.func 317) #[] #[P0 b]/\St aM w w' [ag b [slV s]]):=by
 refine Bh s _ _ ?_;unfold Q8;exact⟨trivial,St.nw (St.bh w) λb w2 st _ _=>⟨b,rfl,st⟩⟩
theorem C94(y:Value)(b:Nat)(s:Sl)(xs:List (Int×Sl×LB))(w:World)(I:Nat->World->Prop)(D:World->Prop)(hM:∀j W,I j W->gH W b [slV s]/\WS W s xs)(h0:I xs.length w)(hl:xs.length<=1000000000)
 (hr:∀j x W,xs[j]? =some x->I (j+1) W->dx Pq y [.int .i64 j,.agg #[.int .i64 x.1,.slice x.2.1.a x.2.1.len x.2.1.cap]] [.c .bool] (λc W'=>if c=true then I j W' else D W') W):
 Calls Pq 317 #[y,P0 b] w (aj [] λ_ w'=>I 0 w'\/D w'):=by
 refine Bi y _ _ _ ?_;unfold Q9;simp only[ah];have Ic:∀j W (k:Sl->Pr),I j W->k s W->cM .slice ⟨b,0,none⟩ k W:=λj W k hI hk=>eA (s:=.slice) (p:=s) (hM j W hI).1.yQ hk;refine Ic _ _ _ h0 ?_;have fV:=(hM _ _ h0).2.len;rw[show IntKind.wrap .i64 ((s.len:Int)-1)=(s.len:Int)-1 from wrap_i64 (by omega)];refine aU (λz W=>∃j:Nat,z=(j:Int)-1/\j<=xs.length/\I j W) (λz _=>(z+1).toNat) ⟨xs.length,by rw[fV],Nat.le_refl _,h0⟩ ?_;rintro _ W ⟨j,rfl,hj,hI⟩;refine ax (λhge=>?_) (λhlt=>?_)
 ·simp only[ge_iff_le,jb]at hge
  obtain⟨j,rfl⟩:∃k,j=k+1:=⟨j-1,by omega⟩;refine Ic _ _ _ hI ?_;have hjl:j<xs.length:=by omega
  have hx:xs[j]? =some xs[j]:=by simp[hjl]
  rw[show((j+1:Nat):Int)-1=(j:Int) by omega];refine⟨⟨by omega,by omega⟩,?_⟩;obtain⟨ad,ha,hrow⟩:=(hM _ _ hI).2.get (n:=2) eB hx (by decide);rw[ha];simp only[ah,jl];refine fy (p:=(xs[j].1,xs[j].2.1)) (show de W (ad.add (j*2)) 0 (gy [af,.slice] (xs[j].1,xs[j].2.1))from ay.2 hrow) ?_;refine fN ?_ (hr j xs[j] W hx hI);intro c W' hc;refine ax (λhf=>?_) (λht=>?_)
  ·rw[jc (by simpa using hf)]at hc
   exact .inr hc
  ·rw[jd (by simpa using ht)]at hc
   rw[show IntKind.wrap .i64 ((j:Int)-1)=(j:Int)-1 from wrap_i64 (by omega)];exact⟨⟨j,rfl,by omega,hc⟩,by omega⟩
 ·simp only[ge_iff_le,ja]at hlt
  have:j=0:=by omega
  subst this;exact .inl hI
theorem FK{wl:List (Int×Sl×LB)}{W:List (Int×LB)}(hw:W=wl.map λx=>(x.1,x.2.2)){i:Int}(h:∀(k:Nat) x,wl[k]? =some x->x.1≠i):W.reverse.find? (·.1==i)=none:=by
 rw[List.find?_eq_none];intro x hx;rw[List.mem_reverse,hw,ki]at hx;obtain⟨y,hy,rfl⟩:=hx;obtain⟨k,hk⟩:=List.getElem?_of_mem hy;simpa using h k y hk
theorem FL{wl:List (Int×Sl×LB)}{W:List (Int×LB)}(hw:W=wl.map λx=>(x.1,x.2.2)){j:Nat}{y:Int×Sl×LB}(hj:wl[j]? =some y)(h:∀(k:Nat) x,j<k->wl[k]? =some x->x.1≠y.1):
 W.reverse.find? (·.1==y.1)=some (y.1,y.2.2):=by
 have h1:=(aC hj).1;rw[hw]
 conv=>lhs;rw[h1]
 rw[jk,List.reverse_append,List.map_cons,List.reverse_cons,ju,List.find?_append];have:((wl.drop (j+1)).map λx=>(x.1,x.2.2)).reverse.find? (·.1==y.1)=none:=by
  rw[List.find?_eq_none];intro x hx;rw[List.mem_reverse,ki]at hx;obtain⟨z,hz,rfl⟩:=hx;obtain⟨k,hk⟩:=List.getElem?_of_mem hz;rw[List.getElem?_drop]at hk;simpa using h (j+1+k) z (by omega) hk
 rw[this];simp
theorem Ra(p:Nat)(D:DM)(i:Int)(w:World)(F:Nat->Prop)(h:Has [au p D] w F)(hok:D.ok)(lq:D.wait.length<=1000000000):
 Calls Pq 257 #[P0 p,.int .i64 i] w (aj [.c .slice,.c af] λr w'=>r.2=bt D i/\St aM w w' [az 1 r.1 ((if bt D i=0 then cr D i else[]).map ub)]):=by
 refine Bj _ _ _ _ ?_;unfold Rb;have hF:∀W,Grow w W->Has [au p D] W F:=λW g=>h.mod g λ_ _ h=>h;refine⟨trivial,St.nw (St.bh w) λr w1 Y0 g1 e1=>⟨trivial,St.nw Y0 λr1 w2 ZJ g2 e2=>⟨trivial,St.nw ZJ λr2 w3 Re g3 e3=>?_⟩⟩⟩;simp only[ah];refine St.Le (Re.aq 2) (s:=af) (p:=i) rfl ?_;refine aa (C70 p D i w3 F (hF _ Re.cw) hok) ?_;rintro _ _ ⟨rfl,rfl⟩;refine ax (λhne=>?_) (λheq=>?_)
 ·have hne:bt D i≠0:=by simpa using hne
  refine(Re.aq 1).M0 trivial λw4 Rg=>?_;refine(Rg.aq 1).M0 trivial λw5 Rh=>?_;refine(Rh.aq 1).Le (s:=.slice) (p:=⟨none,0,0⟩) rfl ?_;refine Rh.Le (s:=af) (p:=bt D i) rfl ?_;rw[jc hne];exact⟨rfl,(St.vY (l:=[_,_,_]) Rh).gh 1⟩
 have EF:bt D i=0:=by simpa using heq
 have hoff:D.off=false/\0<=i/\i<D.blocks.length:=by
  unfold bt at EF;split at EF
  ·cases EF
  ·split at EF
   ·cases EF
   ·rename_i h1 h2
    exact⟨by simpa using h1,by omega⟩
 rw[EF,jd rfl];obtain⟨di,sd⟩:=(St.init h).ex;obtain⟨⟨hb,hw⟩,sd⟩:=sd.p;have Ri:WS w di.ws di.wl:=aQ.ss eB (by decide) (sd.aq 2).sl;have hwn:di.wl.length<=1000000000:=by rw[hw,je]at lq;exact lq
 have hfd:∀W,Grow w W->∀{n:Nat} {c:CS} {q:dM c} {k:dM c->Pr},([slV di.bs,slV di.ws,.bool D.off,.int .i64 D.ops,.int .i64 D.bY,slV di.ps]:LV)[n]? =some (cu c q)->k q W->cM c (Addr.add ⟨p,0,none⟩ n) k W:=
  λW g n c q k h1 h2=>(sd.box.grow g).ld h1 h2
 refine hfd _ Re.cw (n:=1) (c:=.slice) (q:=di.ws) rfl ?_;refine aa (C71 di.ws w3) ?_;rintro _ w4 ⟨rb,rfl,Rg⟩;have Rh:St aM w w4 [ag rb [slV di.ws],ag r2 [.int .i64 0],ag r1 [slV ⟨none,0,0⟩],ag r [.int .i64 i]]:=Re.bC Rg;refine⟨317,_,rfl,by kernel_rfl,λL hL hY=>?_⟩;have Rj:=(Rh.rN (.deferred (some []))).rN (L .ready none);rw[World.size_alloc]at Rj;refine Calls.mono (C94 (.func (.yield (w4.heap.size+1)) #[] #[]) rb di.ws di.wl _
  (λj W=>(∀(k:Nat) x,j<=k->di.wl[k]? =some x->x.1≠i)/\St aM w W [cm (w4.heap.size+1) (L .ready none),cm w4.heap.size (.deferred (some [])),ag rb [slV di.ws],ag r2 [.int .i64 0],ag r1 [slV ⟨none,0,0⟩],ag r [.int .i64 i]])
  (λW=>∃t,St aM w W [cm (w4.heap.size+1) (L .done (some (o8 none))),ag r2 [.int .i64 0],ag r1 [slV t],az 1 t ((cr D i).map ub),cm w4.heap.size (.deferred (some []))])
  (λj W hI=>⟨(hI.2.aq 2).box,Ri.grow hI.2.cw⟩) ⟨λk x hk hx=>?_,Rj⟩ hwn ?_) ?_
 ·rw[List.getElem?_eq_none hk]at hx;cases hx
 ·rintro j x W hx ⟨hno,sW⟩
  refine .inr ⟨w4.heap.size+1,#[],rfl,?_⟩;refine hY W ((j:Int),x.1,x.2.1) _ sW.obj ?_;refine St.nw sW λb W1 s1 g1' _=>?_;refine s1.M0 trivial λW2 s2=>?_;refine s2.st (i:=1) (by simp) trivial λW3 s3=>?_;refine⟨(s3.aq 1).obj,?_⟩;have s4:=(s3.aq 1).putObj (L .busy none);refine(s4.aq 1).ld (i:=0) (s:=af) (p:=x.1) rfl ?_;refine(s4.aq 6).Le (s:=af) (p:=i) rfl ?_;refine ax (λheq=>?_) (λhne=>?_)
  ·have Y1:x.1=i:=by simpa using heq
   refine(s4.aq 1).ld (i:=1) (s:=.slice) (p:=x.2.1) rfl ?_;have HN:BS w x.2.1 x.2.2:=by
    have h1:=(sd.aq 5).pick (i:=j) (A:=er x.2) (by simp[hx]);exact h1.sl.bs
   have EG:x.2.2.length=256:=by
    have:=hok.mT (x.1,x.2.2) (by rw[hw];exact ki.2 ⟨x,jj hx,rfl⟩);exact this.2.2
   have oq:=HN.len;refine aa (KK x.2.1 x.2.2 _ (HN.grow s4.cw) (by omega)) ?_;rintro t W5 ⟨ht,_,g5⟩;have s5:=s4.mS g5 ht;refine(s5.aq 6).M0 trivial λW6 s6=>?_;refine(s6.aq 6).M0 trivial λW7 s7=>?_;refine⟨(s7.aq 3).obj,?_⟩;have s8:=(s7.aq 3).putObj (L .done (some (o8 none)));rw[jc (by simp)];refine⟨t,?_⟩;have hrd:cr D i=x.2.2:=by
    unfold cr;rw[<-Y1,FL hw hx λk y hk hy=>by rw[Y1];exact hno k y hk hy];rfl
   rw[hrd];exact(s8.del 4).del 5|>.del 5
  ·have Y1:x.1≠i:=by simpa using hne
   refine⟨s4.obj,?_⟩;have s5:=s4.putObj (L .ready none);rw[jd rfl];refine⟨λk y hk hy=>?_,s5.del 1⟩;rcases Nat.lt_or_ge j k with h'|h'
   ·exact hno k y h' hy
   ·have:k=j:=by omega
    subst this;rw[hx]at hy;simp only[jg]at hy;rw[<-hy];exact Y1
 ·rintro e W ⟨u,rfl,hI|hD⟩
  ·refine⟨⟨_,rfl⟩,.inl ⟨hI.2.obj,?_⟩⟩
   have s7:=(hI.2.putObj (L .exhausted none)).drew;refine hfd _ s7.cw (n:=0) (c:=.slice) (q:=di.bs) rfl ?_;refine(s7.aq 5).Le (s:=af) (p:=i) rfl ?_;have KN:=bS (sd.aq 1).sl;have oq:di.bl.length=D.blocks.length:=by rw[hb];simp
   rw[je]at KN;refine⟨⟨by omega,by omega⟩,?_⟩;have hlt:i.toNat<di.bl.length:=by omega
   have HN:BS w di.bl[i.toNat].1 di.bl[i.toNat].2:=((sd.aq 4).pick (i:=i.toNat) (A:=er di.bl[i.toNat]) (by simp[hlt])).sl.bs;have n6:di.bl[i.toNat].2.length=256:=hok.len _ (by rw[hb];exact ki.2 ⟨_,List.getElem_mem hlt,rfl⟩);have acs:=HN.len;refine Bk ((sd.aq 1).sl.grow s7.cw) (p:=di.bl[i.toNat].1) (by simp[hlt,slV]) ?_;refine aa (KK di.bl[i.toNat].1 di.bl[i.toNat].2 _ (HN.grow s7.cw) (by omega)) ?_;rintro t W5 ⟨ht,_,g5⟩;have s8:=s7.mS g5 ht;refine(s8.aq 5).M0 trivial λW6 s9=>?_;refine(s9.aq 5).M0 trivial λW7 eC=>?_;refine yR (eC.aq 4) λW8 eU=>?_;refine(eU.aq 2).Le (s:=.slice) (p:=t) rfl ?_;refine(eU.aq 1).Le (s:=af) (p:=0) rfl ?_;have hrd:cr D i=di.bl[i.toNat].2:=by
    unfold cr;rw[FK hw λk y hy=>hI.1 k y (Nat.zero_le _) hy,hb];simp[hlt]
   rw[hrd];exact⟨rfl,St.yS (l:=[_]) (eU.aq 3)⟩
  ·obtain⟨t,sD⟩:=hD
   refine⟨⟨_,rfl⟩,.inr ⟨none,sD.obj,?_⟩⟩;have s7:=sD.putObj (L .exhausted (some (o8 none)));refine yR (s7.aq 4) λW2 s8=>?_;refine(s8.aq 3).Le (s:=.slice) (p:=t) rfl ?_;refine(s8.aq 2).Le (s:=af) (p:=0) rfl ?_;exact⟨rfl,St.yS (l:=[_]) (s8.aq 4)⟩
def i7(D:DM)(i:Int)(l:LB):DM:={D with wait:=D.wait++[(i,l)]}
theorem vC{x:Int×Sl×LB}:∀v∈gD x,aE v:=by
 intro v hv;simp only[gD,List.mem_cons,List.not_mem_nil,or_false]at hv;rcases hv with rfl|rfl<;>trivial
theorem qD{F0:Nat->Prop}{w0 w:World}{L:List HA}{p:Nat}{D:DM}(i:DI)(hb:D.blocks=i.bl.map (·.2))(hw:D.wait=i.wl.map λx=>(x.1,x.2.2))
 (h:St F0 w0 w (ag p [slV i.bs,slV i.ws,.bool D.off,.int .i64 D.ops,.int .i64 D.bY,slV i.ps]::az 1 i.bs (i.bl.map λx=>slV x.1)::az 2 i.ws (i.wl.flatMap gD)::az 1 i.ps (D.pz.map ub)::
   ck (i.bl.map er)::ck (i.wl.map λx=>er x.2)::L)):St F0 w0 w (au p D::L):=
 St.vD i (h.KR ⟨hb,hw⟩)
theorem EH{F0:Nat->Prop}{w0 w:World}{L:List HA}{p r:Nat}{D:DM}{di:DI}{i:Int}{t:Sl}{l:LB}{k:Pr}(hb:D.blocks=di.bl.map (·.2))(hw:D.wait=di.wl.map λx=>(x.1,x.2.2))(hn:D.wait.length<=1000000000)
 (st:St F0 w0 w (ag r [.int .i64 i,slV t]::az 1 t (l.map ub)::ag p [slV di.bs,slV di.ws,.bool D.off,.int .i64 D.ops,.int .i64 D.bY,slV di.ps]::az 1 di.bs (di.bl.map λx=>slV x.1)::az 2 di.ws (di.wl.flatMap gD)::az 1 di.ps (D.pz.map ub)::
   ck (di.bl.map er)::ck (di.wl.map λx=>er x.2)::L))(hk:∀w',St F0 w0 w' (au p (i7 D i l)::L)->k w'):
 app 269 2 32 [.int .i64 0,.slice none 0 0] di.ws ⟨some ⟨r,0,none⟩,1,1⟩ (λt27=>Eng.st (Addr.add ⟨p,0,none⟩ 1) (.slice t27.a t27.len t27.cap) k) w:=by
 have lq:=(st.aq 4).sl.len;rw[c6 eB]at lq;have hn2:di.wl.length<=1000000000:=by rw[hw,je]at hn;exact hn
 refine(st.aq 4).app (new:=gD (i,t,l)) (λ_=>rfl) (λh=>by cases h) (ay.2 st.box.row) vC rfl (by decide) (by dsimp only;omega) λr2 w2 s2 _=>?_;refine(s2.aq 3).st (i:=1) (by simp) trivial λw3 s3=>?_;refine hk w3 (qD (D:=i7 D i l) {di with ws:=r2,wl:=di.wl++[(i,t,l)]} hb (by simp[i7,hw]) ?_);dsimp only[i7];rw[List.flatMap_append,jk];have s5:=(s3.bp [3,7,0,4,1,5,6] 8).push;exact s5.bp [1,2,3,4,5,0] 6
theorem C40(p:Nat)(D D2:DM)(i:Int)(b:Sl)(l:LB)(g:Bool)(w:World)(F:Nat->Prop)(h:Has [au p D] w F)(hb:Rd w F b l)(hok:D.ok)(lq:D.wait.length<=1000000000)
 (hg:bt D i=0->l.length=256->∀W G,Has [au p (i7 D i l)] W G->Calls Pq 268 #[P0 p] W (aj [.c .bool] λr w'=>r=g/\St G W w' [au p D2])):
 Calls Pq 199 #[P0 p,.int .i64 i,.slice b.a b.len b.cap] w (aj [.c af] λr w'=>
  if bt D i≠0 then r=bt D i/\w=w' else if l.length≠256 then r=31/\w=w' else r=(if g then 5 else 0)/\St F w w' [au p D2]):=by
 refine Bl _ _ _ _ _ ?_;unfold Rk;refine aa (C70 p D i w F h hok) ?_;rintro _ _ ⟨rfl,rfl⟩;refine ax (λhne=>?_) (λheq=>?_)
 ·have hne:bt D i≠0:=by simpa using hne
  dsimp only;rw[jd hne];exact⟨rfl,rfl⟩
 have EF:bt D i=0:=by simpa using heq
 have oq:=hb.bs.len;refine ax (λhne=>?_) (λheq=>?_)
 ·have hne:l.length≠256:=by simp at hne;omega
  dsimp only;rw[jc (by simp[EF]),jd hne];exact⟨rfl,rfl⟩
 have hl:l.length=256:=by simp at heq;omega
 refine aF (λ_ W=>St F w W [au p (i7 D i l)]) ?_ ?_
 rotate_left
 ·rintro⟨⟩ W st
  obtain⟨G,H,_,h1,_,_,_,vV⟩:=st.iD;refine aa (hg EF hl W G h1) ?_;rintro r w' ⟨rfl,s2⟩;have s3:=vV w' _ s2;have e1:¬bt D i≠0:=by simp[EF]
  have e2:¬l.length≠256:=by simp[hl]
  refine ax (λh=>?_) (λh=>?_)
  ·dsimp only
   rw[jc e1,jc e2,jd h];exact⟨rfl,s3⟩
  ·dsimp only
   rw[jc e1,jc e2,jc (by simp[h])];exact⟨rfl,s3⟩
 obtain⟨di,st⟩:=(St.init h).drew.ex;obtain⟨⟨Rl,hw⟩,st⟩:=st.p;rw[aX];simp only[ah];have Ie:∀W L,St F w W L->∀k:Sl->Pr,(∀t w',St F w w' (az 1 t (l.map ub)::L)->k t w')->av Pq 95 [.slice b.a b.len b.cap] [.c .slice] k W:=by
  intro W L s k hk;refine aa (KK b l W (hb.at s) (by omega)) ?_;rintro t w' ⟨ht,_,g5⟩;exact hk t w' (s.mS g5 ht)
 refine⟨?_,?_⟩
 ·refine st.ld (i:=1) (s:=.slice) (p:=di.ws) rfl ?_
  refine Ie _ _ st _ λt w1 s1=>?_;refine St.nw s1 λr w2 s2 _ _=>?_;exact EH Rl hw lq s2 λw' s=>s
 refine Ie _ _ st _ λt w1 s1=>?_;refine(s1.aq 1).ld (i:=1) (s:=.slice) (p:=di.ws) rfl ?_;refine St.nw s1 λr w2 s2 _ _=>?_;exact EH Rl hw lq s2 λw' s=>s
def bF:LB:=List.replicate 256 0
def jP(n:Nat):DM:=⟨List.replicate n bF,[],false,0,0,[]⟩
theorem Lf{n:Nat}(h1:1<=n)(h2:n<=2048):(jP n).ok:=
 ⟨λb hb=>by simp only[jP,List.mem_replicate]at hb;rw[hb.2];exact kj,λx hx=>by simp[jP]at hx,by simpa[jP]using h1,by simpa[jP]using h2⟩
theorem M1(n:Nat):zc [.int .u8 0] n=(List.replicate n (0:UInt8)).map ub:=by rw[xu,List.map_replicate];rfl
theorem C30(n:Int)(w:World):Calls Pq 45 #[.int .i64 n] w (aj [.c .ptr,.c af] λr w'=>
 if 1<=n/\n<=2048 then r.2=0/\∃p,r.1=some ⟨p,0,none⟩/\St aM w w' [au p (jP n.toNat)]else r=(none,1)/\w=w'):=by
 refine FM _ _ _ ?_;unfold F45;refine aF (λb W=>b=decide (n<1\/n>2048)/\w=W) ?_ ?_
 ·refine ax (λh0=>⟨?_,rfl⟩) (λh0=>⟨?_,rfl⟩)
  ·simp only[jb]at h0
   symm;rw[jb];exact .inl h0
  ·simp only[ja]at h0
   rw[decide_eq_decide];omega
 rintro _ _ ⟨rfl,rfl⟩;refine ax (λOb=>?_) (λRm=>?_)
 ·simp only[jb]at Ob
  dsimp only;rw[jc (by omega)];exact⟨rfl,rfl⟩
 simp only[ja]at Rm;obtain⟨n,rfl⟩:∃m:Nat,n=(m:Int):=⟨n.toNat,by omega⟩;simp only[jl];refine(St.bh w).yD (k:=1) rfl (by omega) (by omega) λt w1 s1 qw=>?_;refine St.nw s1 λr w2 s2 _ _=>?_;simp only[ah];refine s2.ld (i:=0) (s:=.slice) (p:=t) rfl ?_;rw[qw];rw[xu]at s2;refine aU (λz W=>∃(j:Nat) (bl:List (Sl×LB)),z=j/\j<=n/\bl.length=j/\bl.map (·.2)=List.replicate j bF/\
  St aM w W [ag r [slV t,slV ⟨none,0,0⟩,.bool false,.int .i64 0,.int .i64 0,slV ⟨none,0,0⟩],az 1 t (bl.map (λx=>slV x.1)++List.replicate (n-j) (slV ⟨none,0,0⟩)),ck (bl.map er)]) (λz _=>n-z.toNat)
  ⟨0,[],rfl,by omega,rfl,rfl,(s2.pE).bp [1,2,0] 3⟩ ?_
 rintro _ W ⟨j,bl,rfl,hj,oq,hz,st⟩;refine ax (λhlt=>?_) (λhge=>?_)
 ·simp only[jb]at hlt
  refine aF (λ_ W'=>∃u,St aM w W' [ag r [slV t,slV ⟨none,0,0⟩,.bool false,.int .i64 0,.int .i64 0,slV ⟨none,0,0⟩],az 1 t ((bl++[(u,bF)]).map (λx=>slV x.1)++List.replicate (n-(j+1)) (slV ⟨none,0,0⟩)),ck ((bl++[(u,bF)]).map er)]) ?_ ?_
  rotate_left
  ·rintro⟨⟩ W' ⟨u,s3⟩
   rw[fW (by omega)];exact⟨⟨j+1,_,rfl,by omega,by simp[oq],by rw[jk,hz,List.replicate_succ'];rfl,s3⟩,by omega⟩
  have fin:∀u W2,St aM w W2 [az 1 u (zc [.int .u8 0] 256),ag r [slV t,slV ⟨none,0,0⟩,.bool false,.int .i64 0,.int .i64 0,slV ⟨none,0,0⟩],az 1 t (bl.map (λx=>slV x.1)++List.replicate (n-j) (slV ⟨none,0,0⟩)),ck (bl.map er)]->
   (b8 ((0:Int)<=(j:Int)/\(j:Int)<(t.len:Int))<|deref t.a λa=>Eng.st (a.add (Int.toNat (j:Int)*1)) (.slice u.a u.len u.cap) λW'=>∃u,St aM w W' [ag r [slV t,slV ⟨none,0,0⟩,.bool false,.int .i64 0,.int .i64 0,slV ⟨none,0,0⟩],az 1 t ((bl++[(u,bF)]).map (λx=>slV x.1)++List.replicate (n-(j+1)) (slV ⟨none,0,0⟩)),ck ((bl++[(u,bF)]).map er)]) W2:=by
   intro u W2 s3;refine⟨⟨by omega,by rw[qw];exact hlt⟩,?_⟩;rw[jl];refine EI (s3.bp [2,0,1,3] 4) (by simp;omega) trivial λW3 s4=>⟨u,?_⟩;rw[jk,jk];have e1:(bl.map (λx=>slV x.1)++List.replicate (n-j) (slV ⟨none,0,0⟩)).set j (.slice u.a u.len u.cap)=bl.map (λx=>slV x.1)++[(u,bF)].map (λx=>slV x.1)++List.replicate (n-(j+1)) (slV ⟨none,0,0⟩):=by
    rw[List.set_append_right _ _ (by simp[oq]),je,oq,Nat.sub_self,show n-j=(n-(j+1))+1 by omega,List.replicate_succ];simp[slV]
   rw[e1,M1]at s4;have s5:=(s4.bp [1,3,2,0] 4).push;exact s5.bp [1,2,0] 3
  have st:=st.drew;refine⟨?_,?_⟩
  ·refine st.ld (i:=0) (s:=.slice) (p:=t) rfl ?_
   exact st.yT (k:=1) 256 rfl rfl (by omega) (by omega) λu W2 s3 _=>fin u W2 s3
  ·refine st.yT (k:=1) 256 rfl rfl (by omega) (by omega) λu W2 s3 _=>?_
   refine(s3.aq 1).ld (i:=0) (s:=.slice) (p:=t) rfl ?_;exact fin u W2 s3
 ·simp only[ja]at hge
  have:j=n:=by omega
  subst this;rw[jd (by omega)];refine⟨trivial,r,rfl,?_⟩;rw[Nat.sub_self,List.replicate_zero,List.append_nil]at st;refine qD (D:=jP j) ⟨t,⟨none,0,0⟩,⟨none,0,0⟩,bl,[]⟩ hz.symm rfl ?_;exact(((st.gh 2).gh 1).pE).bp [3,4,2,1,5,0] 6
def SJ:An:=(.n (.sq (.bl (.n (.br (.n .z) (.sq (.jn [(10,.c .bool)] .z) (.br (.n .z) .z))))) (.n .z)))
def SK(p0:OA)(p1:Int)(Q:(OA)×Int->Pr):Pr:=
 cI 113 [(.pointer p0)] λt8=>
 br (t8==0) (
 Q (none,2)) (
 jn (S:=Bool) (λR=>
 br (decide (p1<2)) (
 R true) (
 R ((decide (p1>256))))) λs=>
 br s (
 Q (none,1)) (
 nw (.map #[] 0) λr=>
 nw (.cells #[(.pointer p0),(.int .i64 p1),(.map (some r)),(.int .i64 0)] 319) λr_1=>
 Q ((some ⟨r_1,0,none⟩),0)))
theorem Ca(p0 p1 Q w)(h:SK p0 p1 Q w):Calls Pq 195 #[(.pointer p0),(.int .i64 p1)] w (aj [.c .ptr,.c af] Q):=cF (an:=SJ) Tryz.func195 (by kernel_rfl) h
def SL:An:=(.n (.n .z))
def SM(p0:OA)(Q:Bool->Pr):Pr:=
 b8 True<|
 br (Option.isNone p0) (
 Q true) (
 deref p0 λa=>
 deref (some a) λa_1=>
 deref (some (a_1.add 0)) λa_2=>
 cM .ptr a_2 λ(t9:OA)=>
 b8 True<|
 Q ((Option.isNone t9)))
theorem Cb(p0 Q w)(h:SM p0 Q w):Calls Pq 290 #[(.pointer p0)] w (aj [.c .bool] Q):=cF (an:=SL) Tryz.func290 (by kernel_rfl) h
def SN:An:=(.n (.sq (.bl (.n (.br (.n .z) (.sq (.jn [(8,.c .bool)] .z) (.br (.n .z) .z))))) (.n .z)))
def SO(p0:OA)(p1:Int)(Q:Int->Pr):Pr:=
 cB 290 [(.pointer p0)] λt7=>
 br t7 (
 Q 2) (
 jn (S:=Bool) (λR=>
 br (decide (p1<0)) (
 R true) (
 deref p0 λa=>
 deref (some a) λa_1=>
 deref (some (a_1.add 0)) λa_2=>
 cM .ptr a_2 λ(t16:OA)=>
 cI 113 [(.pointer t16)] λt17=>
 R ((decide (p1>=t17))))) λs=>
 br s (
 Q 30) (
 Q 0))
theorem Cc(p0 p1 Q w)(h:SO p0 p1 Q w):Calls Pq 284 #[(.pointer p0),(.int .i64 p1)] w (aj [.c af] Q):=cF (an:=SN) Tryz.func284 (by kernel_rfl) h
def SP:An:=(.n (.n (.sq (.n (.bl (.lp [(3,.c af)] (.n (.sq (.br .z .z) (.bl (.n (.sq (.jn [(40,.c .bool)] .z) (.br .z .z))))))))) (.n .z))))
def SQ(p0:OA)(Q:Int->Pr):Pr:=
 deref p0 λa=>
 deref (some a) λa_1=>
 deref (some (a_1.add 2)) λa_2=>
 cM .map a_2 λ(t9:Option Nat)=>
 nq t9 λit=>
 cq (S:=Int) (λX s=>
 deref (some ⟨it,0,none⟩) λiA=>
 uF iA (
 Q s) λen=>
 deref (some ⟨it,0,none⟩) λeX=>
 oH eX λLO=>
 Bx (.int .i64) LO.key λ(key:Int)=>
 Bx .ptr LO.val λ(val:OA)=>
 jn (S:=Bool) (λR=>
 fJ<|
 deref val λgw=>
 deref (some gw) λlN=>
 deref (some (lN.add 1)) λmA=>
 cM .bool mA λ(t19:Bool)=>
 br (!t19) (
 br (decide (s<0)) (
 R true) (
 deref val λkG=>
 deref (some kG) λpZ=>
 deref (some (pZ.add 2)) λkH=>
 cM (.int .i64) kH λ(t28:Int)=>
 deref p0 λgb=>
 deref (some gb) λlP=>
 deref (some (lP.add 2)) λqU=>
 cM .map qU λ(t32:Option Nat)=>
 gS (.int .i64) t32 (.int .i64 s) .ptr (.pointer none) λ(t34:OA) (acj:Bool)=>
 deref t34 λnt=>
 deref (some nt) λqV=>
 deref (some (qV.add 2)) λoI=>
 cM (.int .i64) oI λ(t37:Int)=>
 R ((decide (t28<t37))))) (
 R false)) λs_1=>
 br s_1 (
 X key) (
 X s)) (-1)
theorem Cd(p0 Q w)(h:SQ p0 Q w):Calls Pq 312 #[(.pointer p0)] w (aj [.c af] Q):=cF (an:=SP) Tryz.func312 (by kernel_rfl) h
def SR:An:=(.n (.n (.sq (.n (.n (.br (.n (.n .z)) .z))) (.n (.n (.sq (.jn [(8,.c af)] (.n (.br (.n (.n (.br (.n .z) .z))) .z))) (.n (.sq (.n (.br (.n .z) .z)) (.sq (.jn [] (.n (.br .z .z))) (.n (.n (.n .z))))))))))))
def SU(p0:OA)(p1:Int)(Q:(OA)×Int->Pr):Pr:=
 deref p0 λa=>
 deref (some a) λa_1=>
 deref (some (a_1.add 3)) λa_2=>
 cM (.int .i64) a_2 λ(t15:Int)=>
 deref p0 λiA=>
 deref (some iA) λeX=>
 deref (some (eX.add 3)) λgw=>
 st gw (.int .i64 (IntKind.wrap .i64 (t15+1)))<|
 deref p0 λlN=>
 deref (some lN) λmA=>
 deref (some (mA.add 2)) λkG=>
 cM .map kG λ(t22:Option Nat)=>
 gS (.int .i64) t22 (.int .i64 p1) .ptr (.pointer none) λ(t24:OA) (ack:Bool)=>
 b8 True<|
 br (!(Option.isNone t24)) (
 deref p0 λpZ=>
 deref (some pZ) λkH=>
 deref (some (kH.add 3)) λgb=>
 cM (.int .i64) gb λ(t31:Int)=>
 deref t24 λlP=>
 deref (some lP) λqU=>
 deref (some (qU.add 2)) λnt=>
 st nt (.int .i64 t31)<|
 Q (t24,0)) (
 fJ<|
 deref p0 λqV=>
 deref (some qV) λoI=>
 deref (some (oI.add 2)) λsV=>
 cM .map sV λ(t38:Option Nat)=>
 mX t38 λt39=>
 deref p0 λoJ=>
 deref (some oJ) λkV=>
 deref (some (kV.add 1)) λqW=>
 cM (.int .i64) qW λ(t43:Int)=>
 jn (S:=Int) (λR=>
 br (decide (t39>=t43)) (
 cI 312 [(.pointer p0)] λt47=>
 br (decide (t47<0)) (
 Q (none,6)) (
 R t47)) (
 R (-1))) λs=>
 deref p0 λJf=>
 deref (some Jf) λB8=>
 deref (some (B8.add 0)) λJg=>
 cM .ptr Jg λ(t54:OA)=>
 av Pq 257 [(.pointer t54),(.int .i64 p1)] [.c .slice,.c af] λ(t56:Sl×Int)=>
 br (t56.2 !=0) (
 Q (none,t56.2)) (
 jn (S:=Unit) (λeu=>
 br (decide (t39>=t43)) (
 deref p0 λJh=>
 deref (some Jh) λJi=>
 deref (some (Ji.add 2)) λxT=>
 cM .map xT λ(t66:Option Nat)=>
 qQ (.int .i64) t66 (.int .i64 s)<|
 eu ()) (
 eu ())) λs_1=>
 deref p0 λB9=>
 deref (some B9) λON=>
 deref (some (ON.add 3)) λJk=>
 cM (.int .i64) Jk λ(t72:Int)=>
 nw (.cells #[(.slice t56.1.a t56.1.len t56.1.cap),(.bool false),(.int .i64 t72)] 333) λr=>
 deref p0 λOO=>
 deref (some OO) λOP=>
 deref (some (OP.add 2)) λJl=>
 cM .map Jl λ(t78:Option Nat)=>
 iY (.int .i64) t78 (.int .i64 p1) (.pointer (some ⟨r,0,none⟩))<|
 Q ((some ⟨r,0,none⟩),0)))
theorem Ce(p0 p1 Q w)(h:SU p0 p1 Q w):Calls Pq 285 #[(.pointer p0),(.int .i64 p1)] w (aj [.c .ptr,.c af] Q):=cF (an:=SR) Tryz.func285 (by kernel_rfl) h
def SV:An:=(.n (.sq (.n (.n (.br (.n .z) .z))) (.n (.sq (.n (.br (.n .z) .z)) (.n .z)))))
def SW(p0:OA)(p1:Int)(Q:Sl×Int->Pr):Pr:=
 cI 284 [(.pointer p0),(.int .i64 p1)] λt11=>
 br (t11 !=0) (
 Q (⟨none,0,0⟩,t11)) (
 av Pq 285 [(.pointer p0),(.int .i64 p1)] [.c .ptr,.c af] λ(t18:(OA)×Int)=>
 br (t18.2 !=0) (
 Q (⟨none,0,0⟩,t18.2)) (
 deref t18.1 λa=>
 deref (some a) λa_1=>
 deref (some (a_1.add 0)) λa_2=>
 cM .slice a_2 λ(t27:Sl)=>
 cS 95 [(.slice t27.a t27.len t27.cap)] λt28=>
 Q (t28,0)))
theorem Cf(p0 p1 Q w)(h:SW p0 p1 Q w):Calls Pq 220 #[(.pointer p0),(.int .i64 p1)] w (aj [.c .slice,.c af] Q):=cF (an:=SV) Tryz.func220 (by kernel_rfl) h
def rM(v:Rv):Bool:=dF v.1 v.2.1 v.2.2.1 v.2.2.2.1 v.2.2.2.2.length
def fF:List Rv->List Rv->List Rv->Nat->Nat->List Rv×Nat
 |[],out,_,n,_=>(out,n)
 |
  x::xs,out,wait,n,i=>
  if rM x=false then(out,n)else if x.1=1 then fF xs out (wait++[x]) n (i+1)
  else if x.2.2.2.1≠(wait.length:Int)then(out,n)else fF xs (out++wait) [] (i+1) (i+1)
def qy(xs:List Rv):List Rv×Nat:=fF xs [] [] 0 0
structure AI(w:World)(n0:Nat)(a b:Sl)(xo xw:List Rc):Prop where
 o:dR w n0 a xo
 p:dR w n0 b xw
 pw:(xo++xw).Pairwise λx y=>gQ x.1.s y.1.s
 ow:∀x∈xw,gQ a x.1.s
 wo:∀x∈xo,gQ b x.1.s
 ab:gQ a b
theorem gQ.nil(s:Sl):gQ s ⟨none,0,0⟩:=λb _ ⟨ad,h,_⟩=>by cases h
theorem AI.nil(w:World)(n0:Nat):AI w n0 ⟨none,0,0⟩ ⟨none,0,0⟩ [] []:=⟨dR.nil _ _,dR.nil _ _,.nil,by simp,by simp,gQ.nil _⟩
theorem AI.grow{w w':World}{n0:Nat}{a b:Sl}{xo xw:List Rc}(h:AI w n0 a b xo xw)(hg:Grow w w'):AI w' n0 a b xo xw:=⟨h.o.grow hg,h.p.grow hg,h.pw,h.ow,h.wo,h.ab⟩
theorem AI.push{w0 w:World}{n0:Nat}{a b:Sl}{xo xw:List Rc}{x:Rc}{k:Sl->Pr}(h:AI w0 n0 a b xo xw)(hn0:n0<=w0.heap.size)(hg:Grow w0 w)
 (hd:aQ w w0.heap.size 1 x.1.s (x.2.map ub))(hb:xw.length<100000000000)(hk:∀r w',AI w' n0 a r xo (xw++[x])->Mod b.blk w w'->k r w'):
 app 234 5 56 H7 b ⟨some ⟨w.heap.size,0,none⟩,1,1⟩ k (w.alloc (.cells x.1.cells.toArray 234)):=by
 refine dR.push h.p hn0 hg hd hb ?_;intro r w' h1 h2 h3;have hsz:=hg.size;have hlt:∀{b},x.1.s.blk b->w0.heap.size<=b:=λh=>aQ.kz hd h;refine hk r w' ⟨(h.o.grow hg).mod h2 (λc hc1 jT=>h.ab c jT hc1) (λy hy c hc1 jT=>h.wo y hy c hc1 jT),h1,?_,?_,?_,?_⟩ h2
 ·rw[<-ju,List.pairwise_append]
  refine⟨h.pw,List.pairwise_singleton _ _,λy hy c hc b' td jO=>?_⟩;rw[jq]at hc;subst hc;have h4:=hlt jO;rcases jz.1 hy with hy|hy
  ·have h5:=aQ.kC (h.o.dat y hy) td;omega
  ·have h5:=aQ.kC (h.p.dat y hy) td;omega
 ·intro y hy c hc1 jT
  rcases jz.1 hy with hy|hy
  ·exact h.ow y hy c hc1 jT
  ·rw[jq]at hy
   subst hy;have h4:=hlt jT;have h5:=aQ.kC h.o.own hc1;omega
 ·intro y hy c hc1 jT
  rcases h3 c hc1 with h4|h4
  ·exact h.wo y hy c h4 jT
  ·have h5:=aQ.kC (h.o.dat y hy) jT;omega
 ·intro c hc1 jT
  rcases h3 c jT with h4|h4
  ·exact h.ab c hc1 h4
  ·have h5:=aQ.kC h.o.own hc1;omega
theorem AI.join{w:World}{n0:Nat}{a b:Sl}{xo xw:List Rc}{k:Sl->Pr}(h:AI w n0 a b xo xw)(hn0:n0<=w.heap.size)(hb:xo.length+xw.length<=100000000000)
 (hk:∀r w',AI w' n0 r ⟨none,0,0⟩ (xo++xw) []->Mod a.blk w w'->k r w'):app 234 5 56 H7 a b k w:=by
 refine dR.more h.o hn0 h.p.own.reads h.p.len h.p.dat h.ow h.pw hb ?_;intro r w' h1 h2 h3;exact hk r w' ⟨h1,dR.nil _ _,by simpa using h1.pw,by simp,λx _=>(gQ.nil _).symm,gQ.nil _⟩ h2
theorem Ba{w:World}{x:Rc}(h:BS w x.1.s x.2):rM (rv x)=x.1.ok:=by
 unfold rM Rw.ok rv;rw[h.len]
theorem H8{xs:List Rc}{j:Nat}(hj:j<xs.length)(out wait:List Rv)(n:Nat):fF ((xs.drop j).map rv) out wait n j=
 if rM (rv xs[j])=false then(out,n)else if xs[j].1.k=1 then fF ((xs.drop (j+1)).map rv) out (wait++[rv xs[j]]) n (j+1)
 else if xs[j].1.m≠(wait.length:Int)then(out,n)else fF ((xs.drop (j+1)).map rv) (out++wait) [] (j+1) (j+1):=by
 rw[List.drop_eq_getElem_cons hj,List.map_cons,fF];rfl
def QX(w:World)(xs:List Rc)(a b:Sl)(n i:Int)(w':World):Prop:=
 ∃(j m:Nat),i=j/\j<=xs.length/\n=m/\Grow w w'/\∃xo xw,AI w' w.heap.size a b xo xw/\xo.length+xw.length<=j/\fF ((xs.drop j).map rv) (xo.map rv) (xw.map rv) m j=qy (xs.map rv)
def N8(w:World)(xs:List Rc)(a:Sl)(n:Int)(w':World):Prop:=
 n=(qy (xs.map rv)).2/\(∃ys,dR w' w.heap.size a ys/\ys.map rv=(qy (xs.map rv)).1)/\Grow w w'
theorem H9{w w':World}{xs:List Rc}{a b:Sl}{m j:Nat}{xo xw:List Rc}(h:AI w' w.heap.size a b xo xw)(hg:Grow w w')(he:fF ((xs.drop j).map rv) (xo.map rv) (xw.map rv) m j=qy (xs.map rv))
 (hs:fF ((xs.drop j).map rv) (xo.map rv) (xw.map rv) m j=(xo.map rv,m)):N8 w xs a m w':=by
 rw[hs]at he;exact⟨by rw[<-he],⟨xo,h.o,by rw[<-he]⟩,hg⟩
theorem C24(s:Sl)(xs:List Rc)(w:World)(h:RL w s xs)(hl:s.len<=1000000):Calls Pq 190 #[.slice s.a s.len s.cap] w (aj [.c .slice,.c af] λr w'=>N8 w xs r.1 r.2 w'):=by
 refine Bb s _ _ ?_;unfold QY;have fV:=h.len;refine aF (λr w'=>N8 w xs r.1 r.2 w') ?_ (λr w' h=>h);refine aU (λt w'=>QX w xs t.1 t.2.1 t.2.2.1 t.2.2.2 w') (λt _=>xs.length-t.2.2.2.toNat)
  ⟨0,0,rfl,by omega,rfl,Mod.refl _ _,[],[],AI.nil _ _,by simp,rfl⟩ ?_
 rintro⟨a,b,_,_⟩ w1 ⟨j,m,rfl,hj,rfl,hg,xo,xw,ht,iF,he⟩;dsimp only;refine ax (λhlt=>?_) (λhge=>?_)
 rotate_left
 ·simp only[ja]at hge
  have:j=xs.length:=by omega
  subst this;refine H9 ht hg he ?_;simp[fF]
 simp only[jb]at hlt;have hjl:j<xs.length:=by omega
 have hbj:=h.2 xs[j] (by simp);refine aF (λt w'=>QX w xs t.1 t.2.1 t.2.2 ((j+1:Nat):Int) w') ?_ ?_
 rotate_left
 ·rintro t w' g1
  rw[fW (by omega)];refine⟨g1,?_⟩;omega
 rw[H8 hjl]at he;refine HW (⟨h.1.grow hg,λx hx=>(h.2 x hx).grow hg⟩:RL _ s xs) hjl ?_;refine rK λr w2 g2 e2 s2 bx=>?_;simp only[ah];have AG:=Grow.trans hg g2;have tT:∀{w4 w5:World},Grow w1 w4->Mod (·=r) w4 w5->Grow w1 w5:=λh4 h5=>Mod.trans h4 h5 λc hc1 jT=>by omega
 refine bx.st (by simp) trivial λw3 k3 m3 s3=>?_;refine k3.st (by simp) trivial λw4 k4 m4 s4=>?_;refine k4.st (by simp) trivial λw5 k5 m5 s5=>?_;refine k5.st (by simp) trivial λw6 k6 m6 s6=>?_;refine k6.st (by simp) trivial λw7 k7 m7 s7=>?_;have g7:Grow w1 w7:=tT (tT (tT (tT (tT g2 m3) m4) m5) m6) m7;have QZ:gH w7 r xs[j].1.cells:=k7;refine gH.aN (l:=lR) (p:=xs[j].1.p) QZ ?_;refine aa (Zw _ _ _ _ _ _) ?_;rintro c w8 ⟨rfl,g8⟩;have g18:=Grow.trans g7 g8;have N9:=Grow.trans hg g18;have Ia:=QZ.grow g8;have hok:dF xs[j].1.p.1 xs[j].1.p.2.1 xs[j].1.p.2.2.1 xs[j].1.p.2.2.2.2 xs[j].1.p.2.2.2.1.len=xs[j].1.ok:=rfl;rw[hok];have Q1:=Ba hbj;refine ax (λhc=>?_) (λhc=>?_)
 ·have:xs[j].1.ok=false:=by
   cases hh:xs[j].1.ok
   ·rfl
   ·rw[hh]at hc;simp at hc
  rw[Q1,jd this]at he;exact⟨by rw[<-he],⟨xo,ht.o.grow g18,by rw[<-he]⟩,N9⟩
 have Q2:xs[j].1.ok=true:=by
  cases hh:xs[j].1.ok
  ·rw[hh]at hc;simp at hc
  ·rfl
 rw[Q1,jc (by simp[Q2])]at he;refine Ia.ld (i:=0) (s:=af) (p:=xs[j].1.k) rfl ?_;refine ax (λHC=>?_) (λHC=>?_)
 ·simp only[kn]at HC
  rw[jd HC]at he;refine gH.aN (l:=lR) (p:=xs[j].1.p) Ia ?_;have hb8:=hbj.grow N9;have hbd:=qA Q2;refine aa (C61 xs[j] _ hb8 (by omega)) ?_;rintro q w9 ⟨⟨d,rfl,hd⟩,g9⟩;rw[tQ];refine AI.push (w0:=w8) (x:=(({xs[j].1 with s:=d}:Rw),xs[j].2)) (ht.grow g18) N9.size g9 hd (by omega) ?_;intro r' MZ YX ZH;refine⟨j+1,m,rfl,hjl,rfl,?_,xo,_,YX,by simp only[jh,List.length_singleton];omega,?_⟩
  ·exact Mod.trans (Grow.trans N9 g9) ZH λc hc1 jT=>absurd (aQ.kz ht.p.own jT) (by omega)
  ·rw[jk,<-he]
   rfl
 ·simp only[beq_eq_false_iff_ne]at HC
  rw[jc HC]at he;refine Ia.ld (i:=4) (s:=af) (p:=xs[j].1.m) rfl ?_;have lq:=ht.p.len;refine ax (λhm=>?_) (λhm=>?_)
  ·simp only[bne_iff_ne,ne_eq]at hm
   have hm':¬xs[j].1.m=(b.len:Int):=hm;have hm2:xs[j].1.m≠((xw.map rv).length:Int):=by rw[je,<-lq];exact hm'
   rw[jd hm2]at he;exact⟨by rw[<-he],⟨xo,ht.o.grow g18,by rw[<-he]⟩,N9⟩
  ·simp only[bne_eq_false_iff_eq]at hm
   have hm':xs[j].1.m=(b.len:Int):=hm;have hm2:¬xs[j].1.m≠((xw.map rv).length:Int):=by rw[je,<-lq];exact λh=>h hm'
   rw[jc hm2]at he;refine AI.join (ht.grow g18) N9.size (by omega) ?_;intro r' MZ YX ZH;rw[fW (by omega)];refine⟨j+1,j+1,rfl,hjl,rfl,?_,_,_,YX,by simp only[jh,List.length_nil];omega,?_⟩
   ·exact Mod.trans N9 ZH λc hc1 jT=>absurd (aQ.kz ht.o.own jT) (by omega)
   ·rw[jk,<-he]
    rfl
def dG(blk:Int)(p:LB)(vs:List Rv):LB:=vs.foldl (λp v=>if v.2.1=blk then lay p v.2.2.1.toNat v.2.2.2.2 else p) p
def i6(p:LB)(vs:List Rv):Int:=if p.length≠256 then 1 else if vs.any (λv=> !rM v)then 60 else 0
theorem yP(blk:Int):∀(xs:List Rc) (p:LB),iC blk p xs=dG blk p (xs.map rv)
 |[],p=>rfl
 |
  x::xs,p=>by
  unfold iC dG;rw[List.foldl_cons,List.map_cons,List.foldl_cons];exact yP blk xs _
theorem HZ{w:World}{s:Sl}{xs:List Rc}(h:RL w s xs)(p:LB):nZ p xs=i6 p (xs.map rv):=by
 unfold nZ i6;rw[List.any_map];have:xs.any (λx=> !x.1.ok)=xs.any ((λv=> !rM v)∘rv):=by
  rw[Bool.eq_iff_iff,List.any_eq_true,List.any_eq_true];constructor
  ·rintro⟨x,hx,h2⟩
   exact⟨x,hx,by simpa[Ba (h.2 x hx)]using h2⟩
  ·rintro⟨x,hx,h2⟩
   exact⟨x,hx,by simpa[Ba (h.2 x hx)]using h2⟩
 rw[this]
theorem C56(s:Sl)(xs:List Rc)(w:World)(h:RL w s xs)(hl:s.len<=1000000):Calls Pq 155 #[.slice s.a s.len s.cap] w (aj [.c .slice] λr w'=>aQ w' w.heap.size 5 r (rcs xs)/\Grow w w'):=by
 refine Bc s _ _ ?_;unfold Q3;have hlen:(rcs xs).length=xs.length*5:=by rw[jS,c6 Rw.cH];simp
 have fV:=h.len;refine⟨trivial,ax (λhn=>?_) (λhn=>?_)⟩
 ·have ha:s.a=none:=by simpa using hn
  have h0:=h.1.cQ Rw.cH (by decide) ha;have hl0:xs=[]:=jy (by omega);subst hl0;exact⟨aQ.nil _ _ _,Mod.refl _ _⟩
 ·have ha:s.a≠none:=λh=>by simp[h]at hn
  have hrow:=h.1.row;rw[<-jS]at hrow;refine EB (n0:=w.heap.size) (vs:=[]) (new:=rcs xs) ⟨by simp,by simp,.inr ⟨w.heap.size,0,[],rfl,Nat.le_refl _,by simp,λo=>by simp,Row.nil _ _,rfl⟩⟩ (by simp) (λ_=>by omega) (λhx=>absurd hx ha)
   (hrow.grow ((Mod.refl _ w).alloc _)) (H6 _) rfl (by decide) (by simp;omega) ?_
  intro r w' h1 h2 h3 h4 h5;refine⟨by simpa using h1,Mod.trans ((Mod.refl _ w).alloc _) h5 ?_⟩;rintro b hb ⟨ad,had,rfl⟩;simp only[jg]at had;subst had;exact absurd hb (Nat.lt_irrefl _)
theorem oX{p d:LB}{o i:Nat}(h:o+d.length<=p.length):(lay p o d)[i]? =if o<=i/\i<o+d.length then d[i-o]?else p[i]? :=by
 unfold lay;rw[ju,List.getElem?_append];have hl:(p.take o).length=o:=by simp;omega
 rw[hl];split
 ·rename_i h1
  rw[jc (by omega),List.getElem?_take,jd h1]
 ·rw[List.getElem?_append]
  split
  ·rw[jd (by omega)]
  ·rw[jc (by omega),List.getElem?_drop]
   congr 1;omega
theorem xm(blk:Int)(p:LB)(a b:List Rv):dG blk p (a++b)=dG blk (dG blk p a) b:=by simp[dG,List.foldl_append]
theorem lu(xs:List Rc):(rcs xs).length=xs.length*5:=by rw[jS,c6 Rw.cH];simp
theorem oh:∀(xs out wait:List Rv) (n i:Nat),(fF xs out wait n i).1.length<=out.length+wait.length+xs.length
 |
  [],out,wait,n,i=>by
  show out.length<=_;omega
 |
  x::xs,out,wait,n,i=>by
  unfold fF;simp only[List.length_cons];split
  ·dsimp only;omega
  ·split
   ·have:=oh xs out (wait++[x]) n (i+1)
    simp only[jh,List.length_singleton]at this;omega
   ·split
    ·dsimp only;omega
    ·have:=oh xs (out++wait) [] (i+1) (i+1)
     simp only[jh,List.length_nil]at this;omega
theorem yH(xs:List Rv):(qy xs).1.length<=xs.length:=by
 have:=oh xs [] [] 0 0;simpa[qy]using this
open Go.Shelf
def Tryz.z8:Go.Shelf.Ren:=⟨λ|189=>310|125=>328|257=>327|128=>343|129=>344|294=>334|295=>335|296=>336|297=>337|298=>338|299=>339|216=>340|300=>341|301=>342|328=>345|329=>346|330=>347|331=>348|332=>349|215=>350|343=>351|n=>n,λ|28=>82|3=>3|46=>43|0=>0|51=>139|53=>148|4=>4|183=>385|182=>384|131=>279|5=>5|9=>9|218=>393|222=>365|228=>398|229=>212|n=>n,λ|n=>n⟩
theorem Tryz.E8:Go.Proofs.Lays.n189 Tryz.prog Tryz.z8:={
 mixed:=by kernel_rfl
 f125:=Tryz.func328.trans (congrArg some (by kernel_rfl))
 f128:=Tryz.func343.trans (congrArg some (by kernel_rfl))
 f129:=Tryz.func344.trans (congrArg some (by kernel_rfl))
 f189:=Tryz.func310.trans (congrArg some (by kernel_rfl))
 f215:=Tryz.func350.trans (congrArg some (by kernel_rfl))
 f216:=Tryz.func340.trans (congrArg some (by kernel_rfl))
 f257:=Tryz.func327.trans (congrArg some (by kernel_rfl))
 f294:=Tryz.func334.trans (congrArg some (by kernel_rfl))
 f295:=Tryz.func335.trans (congrArg some (by kernel_rfl))
 f296:=Tryz.func336.trans (congrArg some (by kernel_rfl))
 f297:=Tryz.func337.trans (congrArg some (by kernel_rfl))
 f298:=Tryz.func338.trans (congrArg some (by kernel_rfl))
 f299:=Tryz.func339.trans (congrArg some (by kernel_rfl))
 f300:=Tryz.func341.trans (congrArg some (by kernel_rfl))
 f301:=Tryz.func342.trans (congrArg some (by kernel_rfl))
 f328:=Tryz.func345.trans (congrArg some (by kernel_rfl))
 f329:=Tryz.func346.trans (congrArg some (by kernel_rfl))
 f330:=Tryz.func347.trans (congrArg some (by kernel_rfl))
 f331:=Tryz.func348.trans (congrArg some (by kernel_rfl))
 f332:=Tryz.func349.trans (congrArg some (by kernel_rfl))
 f343:=Tryz.func351.trans (congrArg some (by kernel_rfl))
 t0:=Tryz.underlying0
 a0:=Tryz.isAgg0
 z0:=Tryz.sizeOf0
 v0:=Tryz.zeroValue0
 t3:=Tryz.underlying3
 a3:=Tryz.isAgg3
 z3:=Tryz.sizeOf3
 v3:=Tryz.zeroValue3
 t4:=Tryz.underlying4
 a4:=Tryz.isAgg4
 z4:=Tryz.sizeOf4
 v4:=Tryz.zeroValue4
 t5:=Tryz.underlying5
 a5:=Tryz.isAgg5
 z5:=Tryz.sizeOf5
 v5:=Tryz.zeroValue5
 t9:=Tryz.underlying9
 a9:=Tryz.isAgg9
 z9:=Tryz.sizeOf9
 v9:=Tryz.zeroValue9
 t28:=Tryz.underlying82
 a28:=Tryz.isAgg82
 z28:=Tryz.sizeOf82
 v28:=Tryz.zeroValue82
 t46:=Tryz.underlying43
 a46:=Tryz.isAgg43
 z46:=Tryz.sizeOf43
 v46:=Tryz.zeroValue43
 t51:=Tryz.underlying139
 a51:=Tryz.isAgg139
 z51:=Tryz.sizeOf139
 v51:=Tryz.zeroValue139
 t53:=Tryz.underlying148
 a53:=Tryz.isAgg148
 z53:=Tryz.sizeOf148
 v53:=Tryz.zeroValue148
 t131:=Tryz.underlying279
 a131:=Tryz.isAgg279
 z131:=Tryz.sizeOf279
 v131:=Tryz.zeroValue279
 t182:=Tryz.underlying384
 a182:=Tryz.isAgg384
 z182:=Tryz.sizeOf384
 v182:=Tryz.zeroValue384
 t183:=Tryz.underlying385
 a183:=Tryz.isAgg385
 z183:=Tryz.sizeOf385
 v183:=Tryz.zeroValue385
 t218:=Tryz.underlying393
 a218:=Tryz.isAgg393
 z218:=Tryz.sizeOf393
 v218:=Tryz.zeroValue393
 t222:=Tryz.underlying365
 a222:=Tryz.isAgg365
 z222:=Tryz.sizeOf365
 v222:=Tryz.zeroValue365
 t228:=Tryz.underlying398
 a228:=Tryz.isAgg398
 z228:=Tryz.sizeOf398
 v228:=Tryz.zeroValue398
 t229:=Tryz.underlying212
 a229:=Tryz.isAgg212
 z229:=Tryz.sizeOf212
 v229:=Tryz.zeroValue212}
open Go.Sort Go.RowKit in
theorem Tryz.slices_Sort_int(blk off cap:Nat)(zs:List Int)(w:World)(hH:Holds (Value.int .i64) w blk off zs.toArray)(hblk:blk<w.heap.size)(hsz:zs.length<4611686018427387904):
 Calls Tryz.prog 310 #[.slice (some ⟨blk,off,none⟩) zs.length cap] w λe w'=>
  e=.returned (.tuple #[])/\∃n os,w'=grow (putRow (Value.int .i64) (Sort.ahead w n) blk off (zs.mergeSort λx y=>decide (x<=y)).toArray) os:=Any.slices_Sort_int Tryz.E8 blk off cap zs w hH hblk hsz
open Go.RowKit Go.Sort in
theorem Tryz.slices_Sort_int_none(p:Option Addr)(cap:Nat)(w:World):
 Calls Tryz.prog 310 #[.slice p 0 cap] w λe w'=>e=.returned (.tuple #[])/\w'=w:=Any.slices_Sort_int_none Tryz.E8 p cap w
def ints(l:List Int):LV:=l.map (Value.int .i64)
@[simp]theorem MU(l:List Int):(ints l).length=l.length:=by simp[ints]
theorem mQ(a b:List Int):ints (a++b)=ints a++ints b:=by simp[ints]
structure IS(w:World)(s:Sl)(l:List Int):Prop where
 len:s.len=l.length
 row:cj w s.a (ints l)
theorem IS.grow{w w':World}{s:Sl}{l:List Int}(h:IS w s l)(hm:Grow w w'):IS w' s l:=⟨h.len,h.row.grow hm⟩
theorem IS.mod{S:Nat->Prop}{w w':World}{s:Sl}{l:List Int}(h:IS w s l)(hm:Mod S w w')(hs:∀ad,s.a=some ad->¬S ad.block):IS w' s l:=⟨h.len,h.row.mod hm λad ha _=>hs ad ha⟩
theorem nI{w:World}{n0:Nat}{s:Sl}{l:List Int}(h:aQ w n0 1 s (ints l)):IS w s l:=⟨by have:=h.len;simp at this;exact this.symm,h.reads⟩
theorem IS.cQ{w:World}{s:Sl}{l:List Int}(h:IS w s l)(ha:s.a=none):s.len=0:=by
 have h2:=h.row;rw[ha]at h2;have:ints l=[]:=h2;have h3:=congrArg List.length this;simp at h3;rw[h.len,h3];rfl
theorem N0{w:World}{s:Sl}{l:List Int}{i:Int}{b:Int}{k:Int->Pr}(h:IS w s l)(h0:0<=i)(hb:l[i.toNat]? =some b)(hk:k b w):
 (b8 ((0:Int)<=i/\i<(s.len:Int))<|deref s.a λa=>deref (some (a.add (Int.toNat i*1))) λa1=>cM (.int .i64) a1 k) w:=by
 have hl:=h.len;have hlt:i.toNat<l.length:=by
  rcases Nat.lt_or_ge i.toNat l.length with h'|h'
  ·exact h'
  ·rw[List.getElem?_eq_none h']at hb;cases hb
 refine⟨⟨h0,by omega⟩,?_⟩;have hr:=h.row;cases ha:s.a with
 |
  none=>
  have:=h.cQ ha;omega
 |
  some ad=>
  rw[ha]at hr;simp only[gC,Nat.mul_one];exact eA (s:=af) (p:=b) ((ay.1 hr).get (by simp[ints,hb])) hk
def mj(l:List Int):List Int:=l.mergeSort λx y=>decide (x<=y)
theorem C91(s:Sl)(zs:List Int)(n0:Nat)(w:World)(h:aQ w n0 1 s (ints zs))(hb:s.len<=1000000000):Calls Pq 310 #[.slice s.a s.len s.cap] w
 (aj [] λ_ w'=>aQ w' n0 1 s (ints (mj zs))/\Mod s.blk w w'):=by
 have hl:=(nI h).len;by_cases h0:s.len=0
 ·have hz:zs=[]:=jy (by omega)
  subst hz;have:=Tryz.slices_Sort_int_none s.a s.cap w;rw[h0];refine this.mono ?_;rintro e w' ⟨rfl,rfl⟩;refine⟨(),rfl,?_,Mod.refl _ _⟩;simpa[mj]using h
 ·rcases h.row with⟨_,h2,_⟩|⟨b,off,spare,h1,h2,h3,h4,h5,h6⟩
  ·exact absurd h2 h0
  have hH:Sort.Holds (Value.int .i64) w b off zs.toArray:=by
   intro j hj;have hj':j<zs.length:=by simpa using hj
   have:=h5 j (.int .i64 zs[j]) (by rw[List.getElem?_append_left (by simpa using hj')];simp[ints,hj']);rw[gd]at this;refine⟨?_,h4 _ _ this⟩;rw[this];simp[hj']
  have hc:=Tryz.slices_Sort_int b off s.cap zs w hH h3 (by omega);rw[h1,hl];refine hc.mono ?_;rintro e w' ⟨rfl,n,os,rfl⟩;have hsz:(mj zs).length=zs.length:=List.length_mergeSort zs;have hH':=Sort.holds_grow (Value.int .i64) _ os b off (mj zs).toArray (by simpa using h3) (Sort.holds_putRow (Value.int .i64) (Sort.ahead w n) b off zs.toArray (mj zs).toArray hH (by simpa using hsz));refine⟨(),rfl,⟨by simp[hsz,hl],h.le,.inr ⟨b,off,spare,h1,h2,by simp;omega,?_,?_,?_⟩⟩,?_⟩
  ·intro o v hv
   rw[Sort.frozen?_grow _ _ _ (by simpa using h3),Sort.frozen?_putRow];by_cases hin:off<=o/\o<off+zs.length
   ·have:=(hH (o-off) (by simp;omega)).2
    rwa[show off+(o-off)=o by omega]at this
   ·rw[Sort.cell?_grow _ _ _ (by simpa using h3),Sort.cell?_putRow_other _ _ _ _ _ _ (by simp[hsz];omega)]at hv
    exact h4 o v hv
  ·intro j v hj
   rw[gd];by_cases hlt:j<zs.length
   ·have h7:=(hH' j (by simpa[hsz]using hlt)).1
    rw[List.getElem?_append_left (by simpa[hsz]using hlt)]at hj;refine h7.trans ?_;rw[<-hj];have FF:j<(mj zs).length:=by omega
    simp[ints,FF]
   ·rw[Sort.cell?_grow _ _ _ (by simpa using h3),Sort.cell?_putRow_other _ _ _ _ _ _ (.inr (.inr (by simp[hsz];omega)))]
    have h8:=h5 j v (by
     rw[List.getElem?_append_right (by simp[hsz];omega)]at hj;rw[List.getElem?_append_right (by simp;omega)];simpa[hsz]using hj)
    rwa[gd]at h8
  ·rw[jh]at h6⊢
   simpa[hsz]using h6
  ·refine⟨by simp,λc hc hS=>?_,rfl,rfl,rfl⟩
   rw[Sort.heap_grow_old _ _ (by simpa using hc)];show(w.heap.modify b _)[c]? =_;rw[Array.getElem?_modify,jc];intro hbc;exact hS ⟨_,h1,hbc⟩
structure Bf where
 key:Int
 ptr:Nat
 s:Sl
 b:LB
 dz:Bool
 asked:Int
structure Bm where
 key:Int
 b:LB
 dz:Bool
 asked:Int
structure CM where
 room:Int
 asked:Int
 l:List Bm
def Bf.m(x:Bf):Bm:=⟨x.key,x.b,x.dz,x.asked⟩
def oK(x:Bf):HA:=ck [ag x.ptr [slV x.s,.bool x.dz,.int .i64 x.asked],az 1 x.s (x.b.map ub)]
def wF(x:Bf):Int×Value:=(x.key,P0 x.ptr)
def Jn(c dp:Nat)(C:CM)(m:Nat)(bs:List Bf):List HA:=
 [ag c [P0 dp,.int .i64 C.room,.map (some m),.int .i64 C.asked],gz ec m (bs.map wF),ck (bs.map oK)]
def dB(c dp:Nat)(C:CM):HA:=KQ λi:Nat×List Bf=>pA (C.l=i.2.map Bf.m)::Jn c dp C i.1 i.2
structure CM.ok(C:CM)(n:Nat):Prop where
 mR:(C.l.map (·.key)).Nodup
 len:∀x∈C.l,x.b.length=256
 key:∀x∈C.l,0<=x.key/\x.key<n
 room:2<=C.room/\C.room<=256
 le:(C.l.length:Int)<=C.room
 LP:∀x∈C.l,x.asked<=C.asked
 Jo:(C.l.map (·.asked)).Nodup
 small:0<=C.asked
section
variable{F0:Nat->Prop}{w0 w:World}{L:List HA}{c dp:Nat}{C:CM}
theorem _root_.Go.Eng.St.zG(h:St F0 w0 w (dB c dp C::L)):∃(m:Nat) (bs:List Bf),C.l=bs.map Bf.m/\St F0 w0 w (ag c [P0 dp,.int .i64 C.room,.map (some m),.int .i64 C.asked]::gz ec m (bs.map wF)::ck (bs.map oK)::L):=by
 obtain⟨i,h⟩:=h.ex;obtain⟨h1,h⟩:=h.p;exact⟨i.1,i.2,h1,h⟩
theorem _root_.Go.Eng.St.uL{m:Nat}{bs:List Bf}(h:St F0 w0 w (ag c [P0 dp,.int .i64 C.room,.map (some m),.int .i64 C.asked]::gz ec m (bs.map wF)::ck (bs.map oK)::L))(hl:C.l=bs.map Bf.m):St F0 w0 w (dB c dp C::L):=
 St.vD (f:=λi:Nat×List Bf=>pA (C.l=i.2.map Bf.m)::Jn c dp C i.1 i.2) (m,bs) (h.KR hl)
theorem _root_.Go.Eng.St.buf{bs:List Bf}{j:Nat}{x:Bf}(h:St F0 w0 w (ck (bs.map oK)::L))(hj:bs[j]? =some x):gH w x.ptr [slV x.s,.bool x.dz,.int .i64 x.asked]/\aQ w 0 1 x.s (x.b.map ub):=by
 have h1:=(h.pick (i:=j) (A:=oK x) (by simp[hj])).S1;exact⟨h1.box,(h1.aq 1).sl⟩
end
theorem p7(k:Int):∀(bs:List Bf),(mB k (bs.map wF)=none/\∀x∈bs,x.key≠k)\/∃(j:Nat) (x:Bf),bs[j]? =some x/\x.key=k/\mB k (bs.map wF)=some (P0 x.ptr)
 |[]=>.inl ⟨rfl,by simp⟩
 |
  x::bs=>by
  by_cases h:k=x.key
  ·exact .inr ⟨0,x,rfl,h.symm,by simp[mB,wF,h]⟩
  ·rcases p7 k bs with⟨h1,h2⟩|⟨j,y,h1,h2,h3⟩
   ·refine .inl ⟨by simp[mB,wF,h];exact h1,λy hy=>?_⟩
    rcases List.mem_cons.1 hy with rfl|hy
    ·exact λh'=>h h'.symm
    ·exact h2 y hy
   ·exact .inr ⟨j+1,y,by simpa using h1,h2,by simp[mB,wF,h];exact h3⟩
theorem C72(c dp:Nat)(vs:LV)(w:World)(h:gH w c (P0 dp::vs)):Calls Pq 290 #[P0 c] w (aj [.c .bool] λr w'=>r=false/\w=w'):=by
 refine Cb _ _ _ ?_;unfold SM;refine⟨trivial,aB rfl ?_⟩;simp only[ah];exact h.ld (i:=0) (s:=.ptr) (p:=some ⟨dp,0,none⟩) rfl ⟨trivial,rfl,rfl⟩
theorem aae{c dp:Nat}{C:CM}{w:World}{F:Nat->Prop}(h:Has [dB c dp C] w F):∃m,gH w c [P0 dp,.int .i64 C.room,.map (some m),.int .i64 C.asked]:=by
 obtain⟨m,bs,_,st⟩:=(St.init h).zG;exact⟨m,st.box⟩
theorem C68(c dp:Nat)(C:CM)(D:DM)(i:Int)(w:World)(F G:Nat->Prop)(h:Has [dB c dp C] w F)(hd:Has [au dp D] w G):
 Calls Pq 284 #[P0 c,.int .i64 i] w (aj [.c af] λr w'=>r=(if 0<=i/\i<D.blocks.length then 0 else 30)/\w=w'):=by
 refine Cc _ _ _ _ ?_;unfold SO;obtain⟨m,hb⟩:=aae h;refine aa (C72 c dp _ w hb) ?_;rintro _ _ ⟨rfl,rfl⟩;refine aB rfl (aF (λb w'=>b=decide (i<0\/i>=D.blocks.length)/\w=w') ?_ ?_)
 ·refine ax (λh0=>⟨?_,rfl⟩) (λh0=>?_)
  ·simp only[jb]at h0
   symm;rw[jb];exact .inl h0
  ·simp only[ja]at h0
   simp only[ah];refine hb.ld (i:=0) (s:=.ptr) (p:=some ⟨dp,0,none⟩) rfl ?_;refine aa (Qc dp D w G hd) ?_;rintro _ _ ⟨rfl,rfl⟩;refine⟨?_,rfl⟩;rw[decide_eq_decide];omega
 ·rintro _ _ ⟨rfl,rfl⟩
  by_cases hc:i<0\/i>=D.blocks.length
  ·refine bz (by simp[hc]) ⟨?_,rfl⟩
   rw[jc (by omega)]
  ·refine aB (by simp[hc]) ⟨?_,rfl⟩
   rw[jd (by omega)]
theorem C32(dp:Nat)(D:DM)(room:Int)(w:World)(F:Nat->Prop)(h:Has [au dp D] w F)(hok:D.ok):
 Calls Pq 195 #[P0 dp,.int .i64 room] w (aj [.c .ptr,.c af] λr w'=>
  if 2<=room/\room<=256 then r.2=0/\∃c,r.1=some ⟨c,0,none⟩/\St aM w w' [dB c dp ⟨room,0,[]⟩]else r=(none,1)/\w=w'):=by
 refine Ca _ _ _ _ ?_;unfold SK;refine aa (Qc dp D w F h) ?_;rintro _ _ ⟨rfl,rfl⟩;have hp:=hok.pos;refine aB (by rw[beq_eq_false_iff_ne];omega) (aF (λb w'=>b=decide (room<2\/room>256)/\w=w') ?_ ?_)
 ·refine ax (λh0=>⟨?_,rfl⟩) (λh0=>⟨?_,rfl⟩)
  ·simp only[jb]at h0
   symm;rw[jb];exact .inl h0
  ·simp only[ja]at h0
   rw[decide_eq_decide];omega
 ·rintro _ _ ⟨rfl,rfl⟩
  by_cases hc:room<2\/room>256
  ·refine bz (by simp[hc]) ?_
   dsimp only;rw[jc (by omega)];exact⟨rfl,rfl⟩
  ·refine aB (by simp[hc]) ?_
   refine St.Ci (T:=ec) (St.bh w) λm w1 s1=>?_;refine St.nw s1 λc w2 s2 _ _=>?_;dsimp only;rw[jd (by omega)];refine⟨rfl,c,rfl,?_⟩;exact St.uL (C:=⟨room,0,[]⟩) (bs:=[]) (s2.pE.bp [1,2,0] 3) rfl
theorem E0{α:Type}:∀{l1 l2:List α},l1.Nodup->(∀x∈l1,x∈l2)->l1.length<=l2.length
 |[],_,_,_=>by simp
 |
  x::l1,l2,h,hs=>by
  rw[List.nodup_cons]at h;obtain⟨a,b,rfl⟩:=List.append_of_mem (hs x (by simp));have:=E0 (l1:=l1) (l2:=a++b) h.2 λy hy=>by
   have h2:=hs y (by simp[hy]);rcases jz.1 h2 with h3|h3
   ·exact List.mem_append_left _ h3
   ·rcases List.mem_cons.1 h3 with h4|h4
    ·exact absurd (h4▸hy) h.1
    ·exact List.mem_append_right _ h4
  simp only[jh,List.length_cons]at this⊢;omega
theorem zH{n:Nat}{l:List Nat}(h1:l.Nodup)(h2:∀j∈l,j<n):l.length<=n:=by
 have:=E0 h1 (l2:=List.range n) λj hj=>List.mem_range.2 (h2 j hj);simpa using this
def aaf(C:CM)(r:Int):Prop:=(r= -1/\∀x∈C.l,x.dz=true)\/∃x∈C.l,r=x.key/\x.dz=false/\∀y∈C.l,y.dz=false->x.asked<=y.asked
theorem C93(c dp:Nat)(C:CM)(n:Nat)(w:World)(F:Nat->Prop)(h:Has [dB c dp C] w F)(hok:C.ok n):
 Calls Pq 312 #[P0 c] w (aj [.c af] λr w'=>aaf C r/\St F w w' [dB c dp C]):=by
 refine Cd _ _ _ ?_;unfold SQ;obtain⟨m,bs,hl,st⟩:=(St.init h).zG;simp only[ah];refine st.ld (i:=2) (s:=.map) (p:=some m) rfl ?_;refine St.nq (T:=ec) (st.aq 1) λit w1 s1=>?_;have vB:(bs.map wF).length=bs.length:=by simp
 have Jp:∀x∈bs,0<=x.key:=λx hx=>(hok.key x.m (by rw[hl];exact ki.2 ⟨x,hx,rfl⟩)).1;refine aU (λr W=>∃done,St F w W [kI ec m it (bs.map wF) done,ag c [P0 dp,.int .i64 C.room,.map (some m),.int .i64 C.asked],ck (bs.map oK)]/\
  ((r= -1/\∀(j:Nat) x,j∈done->bs[j]? =some x->x.dz=true)\/∃(k:Nat) (x:Bf),k∈done/\bs[k]? =some x/\r=x.key/\x.dz=false/\∀(j:Nat) y,j∈done->bs[j]? =some y->y.dz=false->x.asked<=y.asked))
  (λ_ W=>bs.length-oL it W) ⟨[],s1,.inl ⟨rfl,by simp⟩⟩ ?_
 rintro r W ⟨done,s,hr⟩;have hds:=s.oL;have hdl:done.length<=bs.length:=by
  obtain⟨_,_,_,_,_,h3,h4,_⟩:=s.qX;rw[vB]at h3;have:=zH h4 h3;exact this
 refine St.uF s (λhp W' s'=>?_) (λi en W' hi hnd s'=>?_)
 ·refine⟨?_,St.uL (C:=C) ((s'.Np).bp [1,0,2] 3) hl⟩
  have hall:∀j,j<bs.length->j∈done:=λj hj=>hp.symm.subset (by rw[vB];exact List.mem_range.2 hj);rcases hr with⟨h1,h2⟩|⟨k,x,_,h2,h3,h4,h5⟩
  ·refine .inl ⟨h1,λy hy=>?_⟩
   rw[hl]at hy;obtain⟨x,hx,rfl⟩:=ki.1 hy;obtain⟨j,hj,rfl⟩:=List.getElem_of_mem hx;exact h2 j _ (hall j hj) (by simp)
  ·refine .inr ⟨x.m,by rw[hl];exact ki.2 ⟨x,jj h2,rfl⟩,h3,h4,λy hy hd=>?_⟩
   rw[hl]at hy;obtain⟨z,hz,rfl⟩:=ki.1 hy;obtain⟨j,hj,rfl⟩:=List.getElem_of_mem hz;exact h5 j _ (hall j hj) (by simp) hd
 ·rw[vB]at hi
  refine s'.oH λen2 kvx hkv hk hv=>?_;have Zc:bs[i]? =some bs[i]:=by simp
  rw[jf,Zc,Option.map_some,jg]at hkv;subst hkv;refine⟨bs[i].key,hk,some ⟨bs[i].ptr,0,none⟩,hv,?_⟩;have aag:=s'.oL;simp only[jh,List.length_singleton]at aag;have acv:done.length+1<=bs.length:=by
   obtain⟨_,_,_,_,_,h3,h4,_⟩:=s'.qX;rw[vB]at h3;have:=zH h4 h3;simpa using this
  refine aF (λb W2=>St F w W2 [kI ec m it (bs.map wF) (done++[i]),ag c [P0 dp,.int .i64 C.room,.map (some m),.int .i64 C.asked],ck (bs.map oK)]/\
   (b=true->bs[i].dz=false/\(r= -1\/∀(k:Nat) x,bs[k]? =some x->r=x.key->bs[i].asked<=x.asked))/\(b=false->bs[i].dz=true\/(∀(k:Nat) x,bs[k]? =some x->r=x.key->x.asked<=bs[i].asked)/\r≠-1)) ?_ ?_
  ·rw[aX]
   simp only[ah];have sd:=s'.drew;have S2:=(sd.aq 2).buf Zc;refine S2.1.ld (i:=1) (s:=.bool) (p:=bs[i].dz) rfl ?_;refine ax (λvV=>?_) (λhdt=>⟨sd,⟨λh=>(by cases h),λ_=>.inl (by simpa using hdt)⟩⟩);have vV:bs[i].dz=false:=by simpa using vV
   refine ax (λhneg=>?_) (λhpos=>?_)
   ·simp only[jb]at hneg
    refine⟨sd,λ_=>⟨vV,.inl ?_⟩,λh=>(by cases h)⟩;rcases hr with⟨h1,_⟩|⟨k,x,_,h2,h3,_⟩
    ·exact h1
    ·have:=Jp x (jj h2);omega
   ·simp only[ja]at hpos
    rcases hr with⟨h1,_⟩|⟨k,x,_,h2,h3,h4,h5⟩
    ·rw[h1]at hpos;exact absurd (by decide) hpos
    refine S2.1.ld (i:=2) (s:=af) (p:=bs[i].asked) rfl ?_;refine(sd.aq 1).ld (i:=2) (s:=.map) (p:=some m) rfl ?_;have Jq:∀(k':Nat) x',bs[k']? =some x'->r=x'.key->x'=x:=by
     intro k' x' hk' hrk;have hn:=hok.mR;rw[hl,List.map_map]at hn;have e1:(bs.map ((λx=>x.key)∘Bf.m))[k']? =some r:=by rw[jf,hk',hrk];rfl
     have e2:(bs.map ((λx=>x.key)∘Bf.m))[k]? =some r:=by rw[jf,h2,h3];rfl
     have:=(List.getElem?_inj (aC e1).2 hn).1 (e1.trans e2.symm);subst this;rw[h2]at hk';exact(Option.some.inj hk').symm
    refine St.gS (T:=ec) (sd.Np) (k:=r) (λv hv=>?_) (λhv=>?_)
    ·rcases p7 r bs with⟨g1,_⟩|⟨k',x',g1,g2,g3⟩
     ·rw[g1]at hv;cases hv
     ·rw[g3,jg]at hv
      have hx':=Jq k' x' g1 g2.symm;refine⟨some ⟨x'.ptr,0,none⟩,hv.symm,?_⟩;simp only[ah];refine((sd.aq 2).buf g1).1.ld (i:=2) (s:=af) (p:=x'.asked) rfl ?_;refine⟨sd,λhb=>⟨vV,.inr λk2 x2 hk2 NY=>?_⟩,λhb=>.inr ⟨λk2 x2 hk2 NY=>?_,?_⟩⟩
      ·rw[Jq k2 x2 hk2 NY,<-hx']
       simp only[jb]at hb;omega
      ·rw[Jq k2 x2 hk2 NY,<-hx']
       simp only[ja]at hb;omega
      ·have:=Jp x (jj h2);omega
    ·rcases p7 r bs with⟨_,g1⟩|⟨k',x',g1,g2,g3⟩
     ·exact absurd h3.symm (g1 x (jj h2))
     ·rw[g3]at hv;cases hv
  ·rintro b W2 ⟨s2,td,jO⟩
   have aah:=s2.oL;simp only[jh,List.length_singleton]at aah;have OQ:∀(j:Nat) y,j∈done++[i]->bs[j]? =some y->j∈done\/y=bs[i]:=by
    intro j y hj hy;rcases jz.1 hj with h|h
    ·exact .inl h
    ·rw[jq]at h;subst h;rw[Zc]at hy;exact .inr (Option.some.inj hy).symm
   refine ax (λhb=>?_) (λhb=>?_)
   ·obtain⟨g1,g2⟩:=td hb
    refine⟨⟨done++[i],s2,.inr ⟨i,bs[i],by simp,Zc,rfl,g1,λj y hj hy Qi=>?_⟩⟩,by omega⟩;rcases OQ j y hj hy with h|h
    ·rcases hr with⟨_,h2⟩|⟨k,x,_,h2,h3,h4,h5⟩
     ·have:=h2 j y h hy;rw[this]at Qi;cases Qi
     ·rcases g2 with g2|g2
      ·have:=Jp x (jj h2);omega
      ·have:=g2 k x h2 h3
       have:=h5 j y h hy Qi;omega
    ·rw[h];exact Int.le_refl _
   ·refine⟨⟨done++[i],s2,?_⟩,by omega⟩
    rcases hr with⟨h1,h2⟩|⟨k,x,h0,h2,h3,h4,h5⟩
    ·refine .inl ⟨h1,λj y hj hy=>?_⟩
     rcases OQ j y hj hy with h|h
     ·exact h2 j y h hy
     ·rcases jO hb with g|⟨_,g⟩
      ·rw[h];exact g
      ·exact absurd h1 g
    ·refine .inr ⟨k,x,by simp[h0],h2,h3,h4,λj y hj hy Qi=>?_⟩
     rcases OQ j y hj hy with h|h
     ·exact h5 j y h hy Qi
     ·rcases jO hb with g|⟨g,_⟩
      ·rw[<-h,Qi]at g;cases g
      ·rw[h];exact g k x h2 h3
def CM.tick(C:CM):CM:={C with asked:=C.asked+1}
def oM(C:CM)(D:DM)(i:Int):Bm:=⟨i,cr D i,false,C.asked+1⟩
inductive dW(C:CM)(D:DM)(i:Int):Int->CM->Nat->Prop
 |hit (k:Nat) (x:Bm) (h1:C.l[k]? =some x) (h2:x.key=i):dW C D i 0 {C.tick with l:=C.l.set k {x with asked:=C.asked+1}} k
 |full (no:∀x∈C.l,x.key≠i) (hf:C.room<=(C.l.length:Int)) (hd:∀x∈C.l,x.dz=true):dW C D i 6 C.tick 0
 |err (no:∀x∈C.l,x.key≠i) (he:bt D i≠0) (hc:C.room<=(C.l.length:Int)->∃x∈C.l,x.dz=false):dW C D i (bt D i) C.tick 0
 |more (no:∀x∈C.l,x.key≠i) (hp:bt D i=0) (hf:¬C.room<=(C.l.length:Int)):dW C D i 0 {C.tick with l:=C.l++[oM C D i]} C.l.length
 |
  swap (no:∀x∈C.l,x.key≠i) (hp:bt D i=0) (hf:C.room<=(C.l.length:Int)) (k:Nat) (y:Bm) (h1:C.l[k]? =some y) (h2:y.dz=false) (h3:∀z∈C.l,z.dz=false->y.asked<=z.asked):
  dW C D i 0 {C.tick with l:=C.l.eraseIdx k++[oM C D i]} (C.l.length-1)
theorem CM.xU{C:CM}{n:Nat}(h:C.ok n):C.tick.ok n:=
 ⟨h.mR,h.len,h.key,h.room,h.le,λx hx=>by have:=h.LP x hx;show x.asked<=C.asked+1;omega,h.Jo,by have:=h.small;show 0<=C.asked+1;omega⟩
theorem key_inj{C:CM}{n:Nat}(h:C.ok n){j k:Nat}{x y:Bm}(hx:C.l[j]? =some x)(hy:C.l[k]? =some y)(hk:x.key=y.key):j=k:=by
 have e1:(C.l.map (·.key))[j]? =some x.key:=by rw[jf,hx];rfl
 have e2:(C.l.map (·.key))[k]? =some x.key:=by rw[jf,hy,hk];rfl
 exact(List.getElem?_inj (aC e1).2 h.mR).1 (e1.trans e2.symm)
theorem C69(c dp:Nat)(C:CM)(D:DM)(i:Int)(n:Nat)(w:World)(F:Nat->Prop)(h:Has [dB c dp C,au dp D] w F)(hok:C.ok n)(hD:D.ok)(lq:D.wait.length<=1000000000)(ha:C.asked<=1000000000000000):
 Calls Pq 285 #[P0 c,.int .i64 i] w (aj [.c .ptr,.c af] λr w'=>∃C' j,dW C D i r.2 C' j/\∃(m:Nat) (bs:List Bf),C'.l=bs.map Bf.m/\(r.2=0->∃x:Bf,bs[j]? =some x/\r.1=some ⟨x.ptr,0,none⟩)/\
  St F w w' [ag c [P0 dp,.int .i64 C'.room,.map (some m),.int .i64 C'.asked],gz ec m (bs.map wF),ck (bs.map oK),au dp D]):=by
 refine Ce _ _ _ _ ?_;unfold SU;obtain⟨m,bs,hl,st⟩:=(St.init h).zG;have hsm:=hok.small;simp only[ah];refine st.ld (i:=3) (s:=af) (p:=C.asked) rfl ?_;rw[show IntKind.wrap .i64 (C.asked+1)=C.asked+1 from wrap_i64 (by omega)];refine st.st (i:=3) (by simp) trivial λw1 s1=>?_;replace s1:St F w w1 [ag c [P0 dp,.int .i64 C.tick.room,.map (some m),.int .i64 C.tick.asked],gz ec m (bs.map wF),ck (bs.map oK),au dp D]:=s1;refine s1.ld (i:=2) (s:=.map) (p:=some m) rfl ?_;refine St.gS (T:=ec) (s1.aq 1) (k:=i) (λv hv=>?_) (λhv=>?_)
 ·
  rcases p7 i bs with⟨h1,_⟩|⟨j,x,h1,h2,h3⟩
  ·rw[h1]at hv;cases hv
  rw[h3,jg]at hv;refine⟨some ⟨x.ptr,0,none⟩,hv.symm,trivial,bz rfl ?_⟩;refine s1.ld (i:=3) (s:=af) (p:=C.tick.asked) rfl ?_;simp only[ah];have s2:=((s1.aq 2).pick (i:=j) (A:=oK x) (by simp[h1])).S1;refine s2.st (i:=2) (by simp) trivial λw2 s3=>?_;have hjl:j<(bs.map oK).length:=(aC (show(bs.map oK)[j]? =some (oK x) by simp[h1])).2;have s4:=(St.uM (xs:=[_,_]) s3).xx hjl;refine⟨{C.tick with l:=C.l.set j {x.m with asked:=C.asked+1}},j,.hit j x.m (by rw[hl];simp[h1]) h2,m,bs.set j {x with asked:=C.asked+1},by rw[hl,List.map_set];rfl,λ_=>⟨{x with asked:=C.asked+1},?_,rfl⟩,?_⟩
  ·rw[List.getElem?_set_self (by simpa using hjl)]
  ·have e1:(bs.set j {x with asked:=C.asked+1}).map wF=bs.map wF:=by
    rw[List.map_set];refine List.ext_getElem? λk=>?_;rw[List.getElem?_set];split
    ·rename_i hjk
     subst hjk;rw[jf,h1];simp[wF,(aC h1).2]
    ·rfl
   rw[e1,List.map_set];exact s4.bp [1,2,0,3] 4
 have hno:∀x∈C.l,x.key≠i:=by
  rcases p7 i bs with⟨_,h1⟩|⟨j,x,h1,h2,h3⟩
  ·intro y hy
   rw[hl]at hy;obtain⟨x,hx,rfl⟩:=ki.1 hy;exact h1 x hx
  ·rw[h3]at hv;cases hv
 refine⟨none,rfl,trivial,aB rfl ?_⟩;have s2:=s1.drew;rw[aX];refine s2.ld (i:=2) (s:=.map) (p:=some m) rfl ?_;refine St.mX (T:=ec) (s2.aq 1) ?_;refine s2.ld (i:=1) (s:=af) (p:=C.room) rfl ?_;have hlen:((bs.map wF).length:Int)=(C.l.length:Int):=by rw[hl];simp
 rw[hlen];refine aF (λs W=>St F w W [dB c dp C.tick,au dp D]/\(C.room<=(C.l.length:Int)->∃(k:Nat) (y:Bm),C.l[k]? =some y/\s=y.key/\y.dz=false/\∀z∈C.l,z.dz=false->y.asked<=z.asked)) ?_ ?_
 ·have s3:=s2.uL (C:=C.tick) hl
  refine ax (λhf=>?_) (λhf=>⟨s3,λh=>?_⟩)
  ·simp only[ge_iff_le,jb]at hf
   obtain⟨G,H,_,g1,_,_,_,gc⟩:=s3.iD;refine aa (C93 c dp C.tick n _ G g1 (CM.xU hok)) ?_;rintro r w3 ⟨hr,s4⟩;have s5:=gc w3 _ s4;refine ax (λhneg=>?_) (λhpos=>?_)
   ·simp only[jb]at hneg
    obtain⟨m',bs',hl',s6⟩:=St.zG s5;refine⟨C.tick,0,.full hno hf ?_,m',bs',hl',λh=>(by cases h),s6⟩;rcases hr with⟨_,h2⟩|⟨x,hx,h2,_⟩
    ·exact h2
    ·have:=(hok.key x hx).1;omega
   ·simp only[ja]at hpos
    refine⟨s5,λ_=>?_⟩;rcases hr with⟨h1,_⟩|⟨x,hx,h2,h3,h4⟩
    ·rw[h1]at hpos;exact absurd (by decide) hpos
    ·obtain⟨k,hk⟩:=List.getElem?_of_mem hx
     exact⟨k,x,hk,h2,h3,h4⟩
  ·simp only[ge_iff_le,ja]at hf
   exact absurd h hf
 rintro s W ⟨sW,hs⟩;obtain⟨m1,Nq,AH,s3⟩:=St.zG sW;refine s3.ld (i:=0) (s:=.ptr) (p:=some ⟨dp,0,none⟩) rfl ?_;obtain⟨G,H,_,g1,_,_,_,_⟩:=(s3.aq 3).iD;refine aa (Ra dp D i W G g1 hD lq) ?_;rintro⟨t,e⟩ w4 ⟨rfl,Rg⟩;have s4:=s3.bC Rg;dsimp only at s4⊢;refine ax (λhne=>?_) (λheq=>?_)
 ·have hne:bt D i≠0:=by simpa using hne
  refine⟨C.tick,0,.err hno hne λhf=>?_,m1,Nq,AH,λh=>absurd h hne,s4.drop⟩;obtain⟨k,y,h1,_,h3,_⟩:=hs hf;exact⟨y,jj h1,h3⟩
 have EF:bt D i=0:=by simpa using heq
 rw[jd EF]at s4;have hmem:∀x∈Nq,x.key≠i:=λx hx=>hno x.m (by show x.m∈C.tick.l;rw[AH];exact ki.2 ⟨x,hx,rfl⟩);refine aF (λ_ W2=>∃Js:List Bf,(∀x∈Js,x.key≠i)/\(C.room<=(C.l.length:Int)->∃(k:Nat) (y:Bm),C.l[k]? =some y/\y.dz=false/\(∀z∈C.l,z.dz=false->y.asked<=z.asked)/\Js.map Bf.m=C.l.eraseIdx k)/\
  (¬C.room<=(C.l.length:Int)->Js.map Bf.m=C.l)/\
  St F w W2 [ag c [P0 dp,.int .i64 C.tick.room,.map (some m1),.int .i64 C.tick.asked],gz ec m1 (Js.map wF),ck (Js.map oK),az 1 t ((cr D i).map ub),au dp D]) ?_ ?_
 ·refine ax (λhf=>?_) (λhf=>?_)
  ·simp only[ge_iff_le,jb]at hf
   obtain⟨k,y,h1,rfl,h3,h4⟩:=hs hf;refine(s4.aq 1).ld (i:=2) (s:=.map) (p:=some m1) rfl ?_;have hkb:∃x:Bf,Nq[k]? =some x/\x.m=y:=by
    have h5:(Nq.map Bf.m)[k]? =some y:=by rw[<-AH];exact h1
    rw[jf]at h5;cases hb:Nq[k]?with
    |none=>rw[hb]at h5;cases h5
    |some x=>rw[hb]at h5;exact⟨x,rfl,Option.some.inj h5⟩
   obtain⟨x,hx,rfl⟩:=hkb;refine St.qQ (T:=ec) (k:=x.m.key) (s4.aq 2) (λk' v W2 hk' _ s5=>?_) (λhnk=>?_)
   ·have hkk:k'=k:=by
     rw[jf]at hk';cases hb:Nq[k']?with
     |none=>rw[hb]at hk';cases hk'
     |
      some x'=>
      rw[hb]at hk';simp only[Option.map_some,jg,wF,Prod.mk.injEq]at hk';refine key_inj (CM.xU hok) (x:=x'.m) (y:=x.m) ?_ ?_ hk'.1
      ·rw[AH,jf,hb];rfl
      ·rw[AH,jf,hx];rfl
    subst hkk;refine⟨Nq.eraseIdx k',λz hz=>hmem z (List.mem_of_mem_eraseIdx hz),λ_=>⟨k',x.m,h1,h3,h4,?_⟩,λh=>absurd hf h,?_⟩
    ·rw[dS,<-AH];rfl
    ·rw[dS,dS]
     have s6:=(s5.aq 3).pick (i:=k') (A:=oK x) (by simp[hx]);exact s6.bp [4,2,1,3,5] 6
   ·exfalso
    refine hnk ?_;rw[List.map_map];exact ki.2 ⟨x,jj hx,rfl⟩
  ·simp only[ge_iff_le,ja]at hf
   exact⟨Nq,hmem,λh=>absurd h hf,λ_=>AH.symm,s4.bp [1,2,3,0,4] 5⟩
 rintro⟨⟩ W2 ⟨Js,hn2,Qj,Ld,s5⟩;refine s5.ld (i:=3) (s:=af) (p:=C.tick.asked) rfl ?_;refine St.nw s5 λr W3 s6 _ _=>?_;refine(s6.aq 1).ld (i:=2) (s:=.map) (p:=some m1) rfl ?_;refine St.iY (T:=ec) (k:=i) (s6.aq 2) (λk' u W4 hk' _ _=>?_) (λ_ W4 s7=>?_)
 ·exfalso
  rw[jf]at hk';cases hb:Js[k']?with
  |none=>rw[hb]at hk';cases hk'
  |
   some x'=>
   rw[hb]at hk';simp only[Option.map_some,jg,wF,Prod.mk.injEq]at hk';exact hn2 x' (jj hb) hk'.1
 have s8:=(St.uM (xs:=[_,_]) (s7.bp [1,4,3,2,0,5] 6)).push;obtain⟨nb,vB⟩:∃nb:Bf,nb=⟨i,r,t,cr D i,false,C.tick.asked⟩:=⟨_,rfl⟩;have hl9:(Js++[nb]).map Bf.m=Js.map Bf.m++[oM C D i]:=by rw[jk,vB];rfl
 by_cases hf:C.room<=(C.l.length:Int)
 ·obtain⟨k,y,h1,h2,h3,h4⟩:=Qj hf
  refine⟨{C.tick with l:=C.l.eraseIdx k++[oM C D i]},C.l.length-1,.swap hno EF hf k y h1 h2 h3,m1,Js++[nb],?_,λ_=>⟨nb,?_,by rw[vB]⟩,?_⟩
  ·rw[hl9,h4]
  ·have h5:=congrArg List.length h4
   rw[je,List.length_eraseIdx_of_lt (aC h1).2]at h5;rw[List.getElem?_append_right (by omega),h5,Nat.sub_self];rfl
  ·rw[jk,jk,vB]
   exact s8.bp [1,2,0,3] 4
 ·have h4:=Ld hf
  refine⟨{C.tick with l:=C.l++[oM C D i]},C.l.length,.more hno EF hf,m1,Js++[nb],?_,λ_=>⟨nb,?_,by rw[vB]⟩,?_⟩
  ·rw[hl9,h4]
  ·have h5:=congrArg List.length h4
   rw[je]at h5;rw[List.getElem?_append_right (by omega),h5,Nat.sub_self];rfl
  ·rw[jk,jk,vB]
   exact s8.bp [1,2,0,3] 4
theorem fL{D:DM}(hD:D.ok){i:Int}(h0:0<=i)(h1:i<D.blocks.length):(cr D i).length=256:=by
 unfold cr;cases hf:D.wait.reverse.find? (·.1==i)with
 |
  none=>
  simp only[Option.map_none,Option.getD_none];have hi:i.toNat<D.blocks.length:=by omega
  rw[jo hi];exact hD.len _ (List.getElem_mem hi)
 |
  some x=>
  have:=List.mem_of_find?_eq_some hf;exact(hD.mT x (List.mem_reverse.1 this)).2.2
theorem xV{D:DM}{i:Int}(h:bt D i=0):D.off=false/\0<=i/\i<D.blocks.length:=by
 unfold bt at h;split at h
 ·cases h
 ·split at h
  ·cases h
  ·rename_i h1 h2
   exact⟨by simpa using h1,by omega⟩
theorem cR{α:Type}{l:List α}{k:Nat}{a b:α}(h:b∈l.set k a):b∈l\/b=a:=List.mem_or_eq_of_mem_set h
theorem lQ{α β:Type}(f:α->β){l:List α}{k:Nat}{a x:α}(hx:l[k]? =some x)(hf:f a=f x):(l.set k a).map f=l.map f:=by
 rw[List.map_set,hf];refine List.ext_getElem? λj=>?_;rw[List.getElem?_set];split
 ·rename_i h;subst h
  rw[jf,hx];simp[(aC hx).2]
 ·rfl
theorem nu{α:Type}{l:List α}(h:l.Nodup)(k:Nat):(l.eraseIdx k).Nodup:=h.sublist (List.eraseIdx_sublist _ _)
theorem lS{α:Type}{l:List α}{a:α}(h:l.Nodup)(ha:a∉l):(l++[a]).Nodup:=by
 rw[List.nodup_append];refine⟨h,by simp,λx hx y hy=>?_⟩;rw[jq]at hy;subst hy;exact λe=>ha (e▸hx)
theorem wG{α:Type}{a:α}:∀{l:List α},l.Nodup->a∉l->∀k,(l.set k a).Nodup
 |[],h,_,_=>h
 |
  x::l,h,ha,0=>by
  rw[List.nodup_cons]at h;exact List.nodup_cons.2 ⟨λhm=>ha (by simp[hm]),h.2⟩
 |
  x::l,h,ha,k+1=>by
  rw[List.nodup_cons]at h;refine List.nodup_cons.2 ⟨λhm=>?_,wG h.2 (λhm=>ha (by simp[hm])) k⟩;rcases List.mem_or_eq_of_mem_set hm with h1|h1
  ·exact h.1 h1
  ·exact ha (by simp[h1])
theorem dW.asked{C C':CM}{D:DM}{i e:Int}{j:Nat}(h:dW C D i e C' j):C'.asked=C.asked+1/\C'.room=C.room:=by
 cases h<;>exact⟨rfl,rfl⟩
theorem dW.ok{C C':CM}{D:DM}{i e:Int}{j:Nat}(h:dW C D i e C' j)(hok:C.ok D.blocks.length)(hD:D.ok):C'.ok D.blocks.length:=by
 have ht:=CM.xU hok;cases h with
 |
  hit _ x h1 h2=>
  have hmem:=jj h1;refine⟨?_,?_,?_,hok.room,?_,?_,?_,ht.small⟩
  ·show((C.l.set j _).map (·.key)).Nodup
   rw[lQ (·.key) (a:={x with asked:=C.asked+1}) h1 rfl];exact hok.mR
  ·intro y hy
   rcases cR hy with h|rfl
   ·exact hok.len y h
   ·exact hok.len x hmem
  ·intro y hy
   rcases cR hy with h|rfl
   ·exact hok.key y h
   ·exact hok.key x hmem
  ·show(((C.l.set j _).length:Nat):Int)<=C.room
   rw[List.length_set];exact hok.le
  ·intro y hy
   rcases cR hy with h|rfl
   ·exact ht.LP y h
   ·exact Int.le_refl _
  ·show((C.l.set j _).map (·.asked)).Nodup
   rw[List.map_set];refine wG hok.Jo (λhm=>?_) j;obtain⟨y,hy,hk⟩:=ki.1 hm;have:=hok.LP y hy;have hk':y.asked=C.asked+1:=hk;omega
 |full no hf hd=>exact ht
 |err no he hc=>exact ht
 |
  more no hp hf=>
  obtain⟨_,p1,p2⟩:=xV hp;refine⟨?_,?_,?_,hok.room,?_,?_,?_,ht.small⟩
  ·show((C.l++[oM C D i]).map (·.key)).Nodup
   rw[jk];refine lS hok.mR λhm=>?_;obtain⟨x,hx,hk⟩:=ki.1 hm;exact no x hx hk
  ·intro y hy
   rcases jz.1 hy with h|h
   ·exact hok.len y h
   ·rw[jq]at h;subst h;exact fL hD p1 p2
  ·intro y hy
   rcases jz.1 hy with h|h
   ·exact hok.key y h
   ·rw[jq]at h;subst h;exact⟨p1,p2⟩
  ·show(((C.l++[oM C D i]).length:Nat):Int)<=C.room
   rw[jh,List.length_singleton];omega
  ·intro y hy
   rcases jz.1 hy with h|h
   ·exact ht.LP y h
   ·rw[jq]at h;subst h;exact Int.le_refl _
  ·show((C.l++[oM C D i]).map (·.asked)).Nodup
   rw[jk];refine lS hok.Jo λhm=>?_;obtain⟨x,hx,hk⟩:=ki.1 hm;have:=hok.LP x hx;have hk':x.asked=C.asked+1:=hk;omega
 |
  swap no hp hf k y h1 h2 h3=>
  obtain⟨_,p1,p2⟩:=xV hp;refine⟨?_,?_,?_,hok.room,?_,?_,?_,ht.small⟩
  ·show((C.l.eraseIdx k++[oM C D i]).map (·.key)).Nodup
   rw[jk,dS];refine lS (nu hok.mR k) λhm=>?_;obtain⟨x,hx,hk⟩:=ki.1 (List.mem_of_mem_eraseIdx hm);exact no x hx hk
  ·intro y hy
   rcases jz.1 hy with h|h
   ·exact hok.len y (List.mem_of_mem_eraseIdx h)
   ·rw[jq]at h;subst h;exact fL hD p1 p2
  ·intro y hy
   rcases jz.1 hy with h|h
   ·exact hok.key y (List.mem_of_mem_eraseIdx h)
   ·rw[jq]at h;subst h;exact⟨p1,p2⟩
  ·show(((C.l.eraseIdx k++[oM C D i]).length:Nat):Int)<=C.room
   rw[jh,List.length_singleton,List.length_eraseIdx_of_lt (aC h1).2];have:=hok.le;have:=(aC h1).2;omega
  ·intro y hy
   rcases jz.1 hy with h|h
   ·exact ht.LP y (List.mem_of_mem_eraseIdx h)
   ·rw[jq]at h;subst h;exact Int.le_refl _
  ·show((C.l.eraseIdx k++[oM C D i]).map (·.asked)).Nodup
   rw[jk,dS];refine lS (nu hok.Jo k) λhm=>?_;obtain⟨x,hx,hk⟩:=ki.1 (List.mem_of_mem_eraseIdx hm);have:=hok.LP x hx;have hk':x.asked=C.asked+1:=hk;omega
theorem dW.at{C C':CM}{D:DM}{i:Int}{j:Nat}(h:dW C D i 0 C' j):∃x,C'.l[j]? =some x/\x.key=i:=by
 generalize he:(0:Int)=e at h;cases h with
 |hit _ x h1 h2=>exact⟨{x with asked:=C.asked+1},by show(C.l.set j _)[j]? =_;rw[List.getElem?_set_self (aC h1).2],h2⟩
 |full no hf hd=>cases he
 |err no he' hc=>exact absurd he.symm he'
 |more no hp hf=>exact⟨oM C D i,by show(C.l++[_])[C.l.length]? =_;simp,rfl⟩
 |
  swap no hp hf k y h1 h2 h3=>
  refine⟨oM C D i,?_,rfl⟩;show(C.l.eraseIdx k++[_])[C.l.length-1]? =_;have h5:=List.length_eraseIdx_of_lt (aC h1).2;rw[List.getElem?_append_right (by omega),h5,Nat.sub_self];rfl
def su(C:CM)(D:DM)(i e:Int)(C':CM)(out:LB):Prop:=
 (¬(0<=i/\i<D.blocks.length)/\e=30/\C'=C/\out=[])\/
 ((0<=i/\i<D.blocks.length)/\∃j,dW C D i e C' j/\((e≠0/\out=[])\/(e=0/\∃x,C'.l[j]? =some x/\out=x.b)))
theorem C34(c dp:Nat)(C:CM)(D:DM)(i:Int)(w:World)(F:Nat->Prop)(h:Has [dB c dp C,au dp D] w F)(hok:C.ok D.blocks.length)(hD:D.ok)(lq:D.wait.length<=1000000000)(ha:C.asked<=1000000000000000):
 Calls Pq 220 #[P0 c,.int .i64 i] w (aj [.c .slice,.c af] λr w'=>∃C' out,su C D i r.2 C' out/\St F w w' [az 1 r.1 (out.map ub),dB c dp C',au dp D]):=by
 refine Cf _ _ _ _ ?_;unfold SW;have st:=St.init h;obtain⟨G1,_,_,g1,_,_,_,_⟩:=st.iD;obtain⟨G2,_,_,g2,_,_,_,_⟩:=(st.aq 1).iD;refine aa (C68 c dp C D i w G1 G2 g1 g2) ?_;rintro _ _ ⟨rfl,rfl⟩;by_cases hr:0<=i/\i<D.blocks.length
 rotate_left
 ·refine bz (by rw[jc hr];rfl) ⟨C,[],.inl ⟨hr,by rw[jc hr],rfl,rfl⟩,st.gh 1⟩
 refine aB (by rw[jd hr];rfl) ?_;refine aa (C69 c dp C D i D.blocks.length w F h hok hD lq ha) ?_;rintro⟨p,e⟩ w1 ⟨C',j,hq,m,bs,hl,hx,s1⟩;dsimp only at hq hx⊢;refine ax (λhne=>?_) (λheq=>?_)
 ·have hne:e≠0:=by simpa using hne
  exact⟨C',[],.inr ⟨hr,j,hq,.inl ⟨hne,rfl⟩⟩,(St.uL s1 hl).gh 1⟩
 have he:e=0:=by simpa using heq
 subst he;obtain⟨x,MX,rfl⟩:=hx rfl;simp only[ah];have hb:=(s1.aq 2).buf MX;refine hb.1.ld (i:=0) (s:=.slice) (p:=x.s) rfl ?_;have Lt:C'.l[j]? =some x.m:=by rw[hl,jf,MX];rfl
 have S3:x.b.length=256:=(hq.ok hok hD).len x.m (jj Lt);have KN:=hb.2.bs;have:=KN.len;refine aa (KK x.s x.b _ KN (by omega)) ?_;rintro t w2 ⟨ht,_,g5⟩;have s2:=(St.uL s1 hl).mS g5 ht;exact⟨C',x.b,.inr ⟨hr,j,hq,.inr ⟨rfl,x.m,Lt,rfl⟩⟩,s2⟩
def qY(C:CM)(D:DM)(i off:Int)(l:LB)(e:Int)(C':CM):Prop:=
 (¬(0<=i/\i<D.blocks.length)/\e=30/\C'=C)\/
 ((0<=i/\i<D.blocks.length)/\¬(0<=off/\off+l.length<=256)/\e=1/\C'=C)\/
 ((0<=i/\i<D.blocks.length)/\(0<=off/\off+l.length<=256)/\∃C1 j,dW C D i e C1 j/\(((e≠0\/l=[])/\C'=C1)\/(e=0/\l≠[]/\∃x,C1.l[j]? =some x/\C'={C1 with l:=C1.l.set j {x with b:=lay x.b off.toNat l,dz:=true}})))
set_option maxRecDepth 20000
def Fq(t:Sl)(o:Nat):Sl:=⟨if t.cap=o then t.a else t.a.map (·.add (o*1)),t.len-o,t.cap-o⟩
theorem mh{w:World}{t:Sl}{o:Nat}{k:Sl->Pr}(h1:o<=t.len)(hk:k (Fq t o) w):slc 1 t (some (o:Int)) none none k w:=tN (by omega) (by omega) hk
section
variable{F0:Nat->Prop}{w0 w:World}{L:List HA}
theorem yq{t src:Sl}{vs l:LB}{o:Nat}{k:Pr}(h:St F0 w0 w (az 1 t (vs.map ub)::L))(hs:BS w src l)(h1:o+l.length<=vs.length)
 (hk:∀w',St F0 w0 w' (az 1 t ((lay vs o l).map ub)::L)->k w'):mo 1 (Fq t o) src k w:=by
 have hl:=bS h.sl;rw[je]at hl;have fV:=hs.len;have hle:=h.sl.le;unfold Fq;refine pn h.sl (o:=o) (by omega) ?_ rfl hs.row (λ_=>by simp[fV]) hs.cQ (by dsimp only;omega) iR ?_
 ·dsimp only
  by_cases hc:t.cap=o
  ·exact .inr (by omega)
  ·rw[jc hc];exact .inl rfl
 ·intro w' g1 g2 g3
  refine hk w' (h.HD g2 ?_ λ_ h=>.inl h);have e:(vs.map ub).take (o*1)++l.map ub++(vs.map ub).drop (o*1+(l.map ub).length)=(lay vs o l).map ub:=by
   unfold lay;simp only[Nat.mul_one,jk,List.map_take,List.map_drop,je]
  rw[<-e];exact g1
theorem Du{t:Sl}{vs:LB}{j:Nat}{v:Int}{k:Pr}(h:St F0 w0 w (az 1 t (vs.map ub)::L))(hj:j<vs.length)(hv:0<=v/\v<=255)
 (hk:∀w',St F0 w0 w' (az 1 t ((vs.set j (UInt8.ofNat v.toNat)).map ub)::L)->k w'):el t (j:Int) 1 (λa=>Eng.st a (uv (lK v)) k) w:=by
 have e:lK v=v:=wrap_u8 hv;rw[e];refine h.els (by simpa using hj) trivial λw' h'=>hk w' ?_;rw[List.map_set];have:ub (UInt8.ofNat v.toNat)=uv v:=by
  rw[iX]
  congr 1;omega
 rw[this];exact h'
end
def vO(n k b o m:Int)(d:LB):LB:=
 [UInt8.ofNat k.toNat,UInt8.ofNat d.length]++aZ 8 n.toNat++aZ 4 (imax b m).toNat++[UInt8.ofNat o.toNat,0]++d++List.replicate (44-d.length) 0
def J1(n k b o m:Int)(d:LB):LB:=vO n k b o m d++aZ 4 (sZ (vO n k b o m d))
def qg(n:Int):Prop:=0<=n/\n<=2305843009213693952
instance(n:Int):Decidable (qg n):=by unfold qg;exact inferInstance
def zW(n k b o m:Int)(d:LB):Int:=if¬qg n then 1 else if dF k b o m d.length then 0 else 60
theorem l6{k b o m:Int}{n:Nat}(h:dF k b o m n=true):(1<=k/\k<=2)/\n<=44/\(0<=b/\b<2048)/\(0<=o/\o<=255)/\0<=m/\m<=65536:=by
 unfold dF og at h;simp only[Bool.or_eq_true,kf,kn,jb]at h;rcases h with⟨h1,h2⟩|⟨h1,h2⟩<;>omega
theorem Ad{n k b o m:Int}{d:LB}(h:d.length<=44):(vO n k b o m d).length=60:=by simp[vO,bn];omega
theorem VP(n:Int)(w:World):Calls Pq 299 #[iv n] w (aj [.c .bool] λr w'=>r=decide (qg n)/\w=w'):=by
 refine CQ _ _ _ ?_;unfold Uh;refine ax (λh=>⟨?_,rfl⟩) λh=>⟨?_,rfl⟩
 ·simp only[jb]at h
  exact decide_eq_decide.2 ⟨λh2=>⟨h,h2⟩,λh2=>h2.2⟩
 ·simp only[ja]at h
  symm;rw[ja];exact λh2=>h h2.1
theorem VO(s:Sl)(l:LB)(o n:Nat)(w:World)(hs:BS w s l)(h1:1<=n)(h8:n<=8)(ho:o+n<=l.length)(hl:l.length<=1000000):
 Calls Pq 321 #[slV s,iv o,iv n] w (aj [.c af] λr w'=>r=aO (oe ((l.drop o).take n):Nat)/\w=w'):=by
 refine CV _ _ _ _ _ ?_;unfold UJ;refine aa (VM s l o n w hs h1 h8 ho (by omega)) ?_;rintro⟨v,b⟩ _ ⟨rfl,_,rfl⟩;exact⟨rfl,rfl⟩
theorem Mn{A B C D:LB}{o:Nat}(h:A.length=o)(hb:B.length=C.length):lay (A++B++D) o C=A++C++D:=by
 subst h;unfold lay;rw[ju A B D,List.take_left,<-List.drop_drop,List.drop_left,List.drop_append_of_le_length (by omega),<-hb,List.drop_length,List.nil_append]
def ZZ(n:Nat):LB:=List.replicate n 0
@[simp]theorem Dv(n:Nat):(ZZ n).length=n:=by simp[ZZ]
theorem Dw(a b:Nat):ZZ (a+b)=ZZ a++ZZ b:=by unfold ZZ;rw[List.replicate_append_replicate]
theorem Fs(n:Nat):ZZ (n+1)=0::ZZ n:=List.replicate_succ
theorem vn(n:Nat):zc [uv 0] n=(ZZ n).map ub:=vk n
theorem J9{A C:LB}{m o:Nat}(h:A.length=o)(hc:C.length<=m):lay (A++ZZ m) o C=A++C++ZZ (m-C.length):=by
 have e:ZZ m=ZZ C.length++ZZ (m-C.length):=by rw[<-Dw];congr 1;omega
 rw[e,<-ju];exact Mn h (by simp)
theorem Ao{A:LB}{m o:Nat}{b:UInt8}(h:A.length=o):(A++ZZ (m+1)).set o b=A++[b]++ZZ m:=by
 subst h;rw[List.set_append_right _ _ (Nat.le_refl _),Nat.sub_self,ju,Fs];rfl
theorem qq{F0:Nat->Prop}{w0 w:World}{L:List HA}{t:Sl}{A:LB}{m o n:Nat}{v:Int}{k:Pr}(h:St F0 w0 w (az 1 t ((A++ZZ m).map ub)::L))(h1:1<=n)(h8:n<=8)(hv:0<=v/\v<=18446744073709551615)(ho:A.length=o)(hm:n<=m)
 (hk:∀w',St F0 w0 w' (az 1 t ((A++aZ n v.toNat++ZZ (m-n)).map ub)::L)->k w'):
 av Pq 80 [iv n,.int .u64 (dH v)] [.c .slice] (λx=>mo 1 (Fq t o) x k) w:=by
 rw[gL hv];have e:v=(v.toNat:Int):=by omega
 generalize v.toNat=q at e hk;subst e;refine aa (Qt n q w h1 h8) λx w1 s1=>?_;have s2:St F0 w0 w1 (az 1 t ((A++ZZ m).map ub)::az 1 x ((aZ n q).map ub)::L):=(h.bC s1).aq 1;refine yq s2 (s2.aq 1).sl.bs (by simp[bn];omega) λw2 s3=>hk w2 ?_;rw[J9 ho (by rw[bn];omega),bn]at s3;exact s3.del 1
theorem aaE(n k b o m:Int)(s:Sl)(d:LB)(w:World)(hs:BS w s d):
 Calls Pq 313 #[iv n,.agg #[iv k,iv b,iv o,slV s,iv m]] w (aj [.c .slice,.c af] λr w'=>r.2=zW n k b o m d/\
  ((zW n k b o m d≠0/\r.1=⟨none,0,0⟩/\Grow w w')\/zW n k b o m d=0/\St aM w w' [az 1 r.1 ((J1 n k b o m d).map ub)])):=by
 refine CU _ _ _ _ _ _ _ _ ?_;unfold UG;have fV:=hs.len;refine St.nw (St.bh w) λr w1 s1 _ _=>?_;have s1:St aM w w1 [ag r [iv k,iv b,iv o,slV s,iv m]]:=s1;refine aa (VP n w1) ?_;rintro _ _ ⟨rfl,rfl⟩;refine ax (λh=>?_) λh=>?_
 ·have h:¬qg n:=by simpa using h
  have e:zW n k b o m d=1:=jd h;rw[e];exact⟨rfl,.inl ⟨by decide,rfl,s1.cw⟩⟩
 have hn:qg n:=by simpa using h
 refine s1.LA 0 rfl (p:=(k,b,o,s,m)) rfl ?_;refine aa (Zw k b o m s _) ?_;rintro e w2 ⟨he,g2⟩;have s2:=s1.grow g2;have hE:zW n k b o m d=e:=by rw[he,fV];exact jc (by simpa using hn)
 rw[hE];refine ax (λh=>⟨rfl,.inl ⟨by simpa using h,rfl,s2.cw⟩⟩) λh=>?_;have h0:e=0:=by simpa using h
 have hc:dF k b o m d.length=true:=by
  rw[h0]at he;rw[<-fV];cases hh:dF k b o m s.len
  ·rw[hh]at he;cases he
  ·rfl
 clear he hE h;obtain⟨hk2,hd,hb,ho,hm⟩:=l6 hc;refine s2.yT (k:=1) 64 rfl rfl (by decide) (by decide) λt w3 s3 qw=>?_;rw[vn]at s3;have s3:St aM w w3 [az 1 t ((ZZ 64).map ub),ag r [iv k,iv b,iv o,slV s,iv m]]:=s3;refine aF (λ_ W=>St aM w W [az 1 t (([UInt8.ofNat k.toNat,UInt8.ofNat d.length]++ZZ 62).map ub),ag r [iv k,iv b,iv o,slV s,iv m]]) ?_ ?_
 ·have sd:=s3.drew
  have two:∀W (k':Pr),St aM w W [az 1 t (([UInt8.ofNat k.toNat]++ZZ 63).map ub),ag r [iv k,iv b,iv o,slV s,iv m]]->(∀W',St aM w W' [az 1 t (([UInt8.ofNat k.toNat,UInt8.ofNat d.length]++ZZ 62).map ub),ag r [iv k,iv b,iv o,slV s,iv m]]->k' W')->
   el t 1 1 (λa=>Eng.st a (uv (lK (s.len:Int))) k') W:=by
   intro W k' st hk';refine Du (j:=1) st (by simp) ⟨by omega,by omega⟩ λW' st'=>hk' W' ?_;rw[show((s.len:Int)).toNat=d.length by omega,Ao (A:=[UInt8.ofNat k.toNat]) (o:=1) (m:=62) rfl]at st';exact st'
  have hz:St aM w w3.drew [az 1 t (([]++ZZ (63+1)).map ub),ag r [iv k,iv b,iv o,slV s,iv m]]:=sd;refine sd.L 1 rfl (p:=k) rfl (sd.Tg (j:=0) (by simp) λad ha=>?_);have one:∀W (k':Pr),St aM w W [az 1 t (([]++ZZ (63+1)).map ub),ag r [iv k,iv b,iv o,slV s,iv m]]->(∀W',St aM w W' [az 1 t (([UInt8.ofNat k.toNat]++ZZ 63).map ub),ag r [iv k,iv b,iv o,slV s,iv m]]->k' W')->
   Eng.st (ad.add (0*1)) (uv (lK k)) k' W:=by
   intro W k' st hk';rw[show lK k=k from wrap_u8 ⟨by omega,by omega⟩];refine st.Th ha (by simp) trivial λW' st'=>hk' W' ?_;have e:(([]++ZZ (63+1)).map ub).set 0 (uv k)=([UInt8.ofNat k.toNat]++ZZ 63).map ub:=by
    have:uv k=ub (UInt8.ofNat k.toNat):=by rw[iX];congr 1;omega
    rw[this,<-List.map_set,Ao (A:=[]) (o:=0) (m:=63) rfl];rfl
   rw[e]at st';exact st'
  refine⟨?_,?_⟩
  ·refine sd.L 1 rfl (p:=s) rfl ?_
   refine one _ _ hz λW s4=>?_;exact two _ _ s4 λW' s5=>s5
  ·refine one _ _ hz λW s4=>?_
   refine s4.L 1 rfl (p:=s) rfl ?_;exact two _ _ s4 λW' s5=>s5
 rintro⟨⟩ W s4;have s4:=s4.drew;have hl:∀{W:World} {L:List HA} {A:LB},St aM w W (az 1 t (A.map ub)::L)->t.len=A.length:=λst=>by have:=bS st.sl;simpa using this
 refine mh (o:=2) (by rw[hl s4];simp) ?_;refine qq (n:=8) (o:=2) s4 (by decide) (by decide) ⟨hn.1,by have:=hn.2;omega⟩ rfl (by decide) λW5 s5=>?_;have s5:=s5.drew;refine mh (o:=10) (by rw[hl s5];simp[bn]) ?_;refine s5.L 1 rfl (p:=b) rfl ?_;refine s5.L 1 rfl (p:=m) rfl ?_;have him:0<=imax b m/\imax b m<=65536:=by unfold imax;split<;>omega
 refine qq (n:=4) (o:=10) s5 (by decide) (by decide) ⟨him.1,by omega⟩ (by simp[bn]) (by decide) λW6 s6=>?_;refine s6.L 1 rfl (p:=o) rfl ?_;refine Du (j:=14) s6 (by simp[bn]) ⟨ho.1,ho.2⟩ λW7 s7=>?_;rw[Ao (by simp[bn])]at s7;have s7:=s7.drew;refine mh (o:=16) (by rw[hl s7];simp[bn]) ?_;refine s7.L 1 rfl (p:=s) rfl ?_;have e16:∀A:LB,A++[UInt8.ofNat o.toNat]++ZZ 49=A++[UInt8.ofNat o.toNat,0]++ZZ 48:=λA=>by rw[Fs];simp
 rw[e16]at s7;refine yq s7 (hs.grow s7.cw) (by simp[bn];omega) λW8 s8=>?_;rw[J9 (by simp[bn]) (by omega)]at s8;have s8:=s8.drew;have e60:ZZ (48-d.length)=ZZ (44-d.length)++ZZ 4:=by rw[<-Dw];congr 1;omega
 rw[e60,<-ju]at s8;have s8:St aM w W8.drew [az 1 t ((vO n k b o m d++ZZ 4).map ub),ag r [iv k,iv b,iv o,slV s,iv m]]:=s8;have hB:=Ad (n:=n) (k:=k) (b:=b) (o:=o) (m:=m) hd;unfold J1;generalize vO n k b o m d=B at hB s8;have qw:=hl s8;rw[jh,hB,Dv]at qw;refine mh (o:=60) (by omega) ?_;refine xY (by omega) (by have:=s8.sl.le;omega) ?_;rw[show(if t.cap=0 then t.a else t.a.map (·.add 0))=t.a by rw[gq,ite_self],show(60:Int).toNat=60 from rfl];have aa3:BS W8.drew ⟨t.a,60,t.cap⟩ B:=by
  have h2:=s8.sl.bs.row;refine⟨hB.symm,?_⟩;rw[jk]at h2;cases ha:t.a with
  |none=>have:=s8.sl.bs.ms.cQ ha;omega
  |
   some ad=>
   rw[ha]at h2;exact ay.2 (Row.append.1 (ay.1 h2)).1
 refine aa (Y51 _ B _ aa3 (by omega)) ?_;rintro _ _ ⟨rfl,rfl⟩;have hsm:=Fe B;refine qq (n:=4) (o:=60) (v:=((sZ B:Nat):Int)) s8 (by decide) (by decide) ⟨by omega,by omega⟩ hB (by decide) λW9 s9=>?_;rw[jl,show ZZ (4-4)=[]from rfl,List.append_nil]at s9;exact⟨h0.symm,.inr ⟨h0,St.yS (l:=[_]) s9⟩⟩
set_option maxRecDepth 100000
def TX:An:=(.n (.n .z))
def TY(p0:Sl)(Q:OA->Pr):Pr:=
 cS 95 [(slV p0)] λt4=>
 nw (.cells #[(slV t4),(iv 0),(iv 0),(.bool true)] 381) λr=>
 Q ((some ⟨r,0,none⟩))
theorem CJ(p0 Q w)(h:TY p0 Q w):Calls Pq 319 #[(slV p0)] w (aj [.c .ptr] Q):=cF (an:=TX) Tryz.func319 (by kernel_rfl) h
def TZ:An:=(.n (.sq (.n (.br (.n .z) .z)) (.sq (.jn [] .z) (.sq (.n (.br (.n .z) .z)) (.n (.n (.n .z)))))))
def T7(p0:OA)(p1:Int)(Q:Int->Pr):Pr:=
 cB 331 [(.pointer p0)] λt8=>
 br t8 (
 Q 0) (
 jn (S:=Unit) (λR=>
 deref p0 λa=>
 br (decide (p1<1)) (
 av Pq 332 [(.pointer (some (a.add 0))),(.bool true),(iv 1)] [] λ(t18:Unit)=>
 R ()) (
 av Pq 332 [(.pointer (some (a.add 0))),(.bool (decide (p1>8))),(iv 1)] [] λ(acm:Unit)=>
 R ())) λs=>
 deref p0 λa_2=>
 cB 333 [(.pointer (some (a_2.add 0))),(iv p1)] λt23=>
 br (!t23) (
 Q 0) (
 fJ<|
 deref p0 λeX=>
 jY (eX.add 0) λt30=>
 deref p0 λkG=>
 bL (kG.add 1) λt35=>
 av Pq 141 [(slV t30),(iv t35),(iv p1)] [.c (.int .u64),.c .bool] λ(t37:Int×Bool)=>
 deref p0 λlP=>
 bL (lP.add 1) λt44=>
 deref p0 λoI=>
 st (oI.add 1) (iv (aO (t44+p1)))<|
 Q t37.1))
theorem CK(p0 p1 Q w)(h:T7 p0 p1 Q w):Calls Pq 320 #[(.pointer p0),(iv p1)] w (aj [.c (.int .u64)] Q):=cF (an:=TZ) Tryz.func320 (by kernel_rfl) h
def T8:An:=(.n (.n .z))
def T9(p0:OA)(Q:Bool->Pr):Pr:=
 b8 True<|
 br (Option.isNone p0) (
 Q true) (
 deref p0 λa=>
 OH (a.add 3) λt10=>
 Q (!t10))
theorem CL(p0 Q w)(h:T9 p0 Q w):Calls Pq 331 #[(.pointer p0)] w (aj [.c .bool] Q):=cF (an:=T8) Tryz.func331 (by kernel_rfl) h
def Ua:An:=(.sq (.jn [(13,.c .bool)] .z) (.br .z .z))
def Ub(p0:OA)(p1:Bool)(p2:Int)(Q:Unit->Pr):Pr:=
 jn (S:=Bool) (λR=>
 br p1 (
 deref p0 λa=>
 bL (a.add 2) λt11=>
 R ((t11==0))) (
 R false)) λs=>
 br s (
 deref p0 λiA=>
 st (iA.add 2) (iv p2)<|
 Q ()) (
 Q ())
theorem CN(p0 p1 p2 Q w)(h:Ub p0 p1 p2 Q w):Calls Pq 332 #[(.pointer p0),(.bool p1),(iv p2)] w (aj [] Q):=cF (an:=Ua) Tryz.func332 (by kernel_rfl) h
def Uc:An:=(.n (.sq (.jn [] (.sq (.jn [(23,.c .bool)] .z) (.br .z .z))) (.n .z)))
def Ud(p0:OA)(p1:Int)(Q:Bool->Pr):Pr:=
 jn (S:=Unit) (λR=>
 jn (S:=Bool) (λeu=>
 fJ<|
 deref p0 λa=>
 bL (a.add 2) λt8=>
 br (t8==0) (
 deref p0 λiA=>
 jY (iA.add 0) λt15=>
 deref p0 λlN=>
 bL (lN.add 1) λt20=>
 eu ((decide (p1>(aO ((t15.len:Int)-t20)))))) (
 eu false)) λs_1=>
 br s_1 (
 deref p0 λpZ=>
 st (pZ.add 2) (iv 10)<|
 R ()) (
 R ())) λs=>
 deref p0 λlP=>
 bL (lP.add 2) λt30=>
 Q ((t30==0))
theorem CO(p0 p1 Q w)(h:Ud p0 p1 Q w):Calls Pq 333 #[(.pointer p0),(iv p1)] w (aj [.c .bool] Q):=cF (an:=Uc) Tryz.func333 (by kernel_rfl) h
end Go.Proofs
