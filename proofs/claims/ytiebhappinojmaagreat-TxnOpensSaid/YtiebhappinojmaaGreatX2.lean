import Derived.Test.YtiebhappinojmaaGreatX1
import Derived.Laws.Alloc2
import Derived.Laws.Strings
import Derived.RangeFuncBound
import Derived.RecoverIn
import Derived.Test.YtiebhappinojmaaGreatProg
set_option linter.unusedVariables false
set_option linter.unusedSimpArgs false
set_option linter.unusedSectionVars false
namespace Go.Eng
@[simp]theorem add_zero'(a:Addr):a.add 0=a:=by simp[Addr.add]
@[simp]theorem add_block(a:Addr)(n:Nat):(a.add n).block=a.block:=by unfold Addr.add;split<;>rfl
@[simp]theorem add_add(a:Addr)(m n:Nat):(a.add m).add n=a.add (m+n):=by
  unfold Addr.add;by_cases hm:m=0
  ·subst hm;simp
  ·by_cases hn:n=0
   ·subst hn;simp[hm]
   ·simp[hm,hn,Nat.add_assoc]
@[simp]theorem add_mk(b o n:Nat):(⟨b,o,none⟩:Addr).add n=⟨b,o+n,none⟩:=by
  unfold Addr.add;by_cases hn:n=0
  ·subst hn;simp
  ·simp[hn]
section
variable{w:World}
@[simp]theorem deref_some(a:Addr)(f:Addr->Pr):deref (some a) f w=f a w:=by simp[deref]
@[simp]theorem nw_def(o:Obj)(f:Nat->Pr):nw o f w=f w.heap.size (w.alloc o):=rfl
@[simp]theorem br_def(b:Bool)(x y:Pr):br b x y w=if b=true then x w else y w:=rfl
@[simp]theorem owe_def(p:Prop)(f:Pr):owe p f w=(p/\f w):=rfl
@[simp]theorem drw_def(f:Pr):drw f w=f w.drew:=rfl
@[simp]theorem both_def(x y:Pr):both x y w=(x w/\y w):=rfl
@[simp]theorem tru_def:tru w=True:=rfl
@[simp]theorem fls_def:fls w=False:=rfl
theorem ldC_of{s:CS}{a:Addr}{p:PayC s}{f:PayC s->Pr}(h:w.cell? a=some (valC s p))(hf:f p w):ldC s a f w:=⟨p,h,hf⟩
theorem ldA_of{l:List CS}{a:Addr}{p:PayA l}{f:PayA l->Pr}(h:readsAt w a 0 (valA l p))(hf:f p w):ldA l a f w:=⟨p,h,hf⟩
theorem st_of{a:Addr}{v u:Value}{f:Pr}(hv:NotAgg v)(h:w.cell? a=some u)(hz:w.frozen? a=false)(hf:f (w.setCell a v)):st a v f w:=⟨hv,by rw[h];rfl,hz,hf⟩
theorem br_of{b:Bool}{x y:Pr}(h1:b=true->x w)(h2:b=false->y w):br b x y w:=by
 cases b with
 |true=>simpa using h1 rfl
 |false=>simpa using h2 rfl
theorem br_t{b:Bool}{x y:Pr}(hb:b=true)(h:x w):br b x y w:=by rw[br_def,if_pos hb];exact h
theorem br_f{b:Bool}{x y:Pr}(hb:b=false)(h:y w):br b x y w:=by rw[br_def,if_neg (by simp[hb])];exact h
theorem jn_of{S:Type}{f:(S->Pr)->Pr}{k:S->Pr}(R:S->Pr)(h:f R w)(hk:∀s w',R s w'->k s w'):jn f k w:=⟨R,h,hk⟩
theorem loop_of{S:Type}{G:(S->Pr)->S->Pr}{s:S}(I:S->Pr)(μ:S->World->Nat)(h0:I s w)(h:∀s w,I s w->G (λs' w'=>I s' w'/\μ s' w'<μ s w) s w):loopE G s w:=⟨I,μ,h0,h⟩
theorem callF_of{P:Program}{f:FuncId}{args:List Value}{shs:List Sh}{k:PayL shs->Pr}{post:PayL shs->Pr}(h:Calls P f args.toArray w (RetT shs post))(hk:∀r w',post r w'->k r w'):callF P f args shs k w:=
 h.mono λ_ _ ⟨p,he,hp⟩=>⟨p,he,hk _ _ hp⟩
end
@[simp]theorem valC_int(k:IntKind)(n:Int):valC (.int k) n=.int k n:=rfl
@[simp]theorem valC_bool(b:Bool):valC .bool b=.bool b:=rfl
@[simp]theorem valC_ptr(p:Option Addr):valC .ptr p=.pointer p:=rfl
@[simp]theorem valC_slice(s:Sl):valC .slice s=.slice s.a s.len s.cap:=rfl
@[simp]theorem valC_map(r:Option Nat):valC .map r=.map r:=rfl
@[simp]theorem valC_any(v:Value):valC .any v=v:=rfl
@[simp]theorem valC_str(v:ByteArray):valC .str v=.string v:=rfl
@[simp]theorem NotAgg_int(k:IntKind)(n:Int):NotAgg (.int k n)=True:=rfl
@[simp]theorem NotAgg_bool(b:Bool):NotAgg (.bool b)=True:=rfl
@[simp]theorem NotAgg_ptr(p:Option Addr):NotAgg (.pointer p)=True:=rfl
@[simp]theorem NotAgg_slice(a:Option Addr)(l c:Nat):NotAgg (.slice a l c)=True:=rfl
@[simp]theorem NotAgg_map(r:Option Nat):NotAgg (.map r)=True:=rfl
@[simp]theorem NotAgg_func(f:Fn)(x y:Array Value):NotAgg (.func f x y)=True:=rfl
structure Mod(S:Nat->Prop)(w w':World):Prop where
 size:w.heap.size<=w'.heap.size
 same:∀b,b<w.heap.size->¬S b->w'.heap[b]? =w.heap[b]?
 rest:w'.os=w.os/\w'.tape=w.tape/\w'.output=w.output
abbrev Grow:World->World->Prop:=Mod λ_=>False
section
variable{S T:Nat->Prop}{w w1 w2:World}
theorem Mod.refl(S:Nat->Prop)(w:World):Mod S w w:=⟨Nat.le_refl _,λ_ _ _=>rfl,rfl,rfl,rfl⟩
theorem Mod.trans(h:Mod S w w1)(h':Mod T w1 w2)(hT:∀b,b<w.heap.size->T b->S b):Mod S w w2:=
 ⟨Nat.le_trans h.size h'.size,λb hb hs=>(h'.same b (Nat.lt_of_lt_of_le hb h.size) λht=>hs (hT b hb ht)).trans (h.same b hb hs),h'.rest.1.trans h.rest.1,h'.rest.2.1.trans h.rest.2.1,h'.rest.2.2.trans h.rest.2.2⟩
theorem Mod.mono(h:Mod S w w1)(hT:∀b,b<w.heap.size->S b->T b):Mod T w w1:=⟨h.size,λb hb hs=>h.same b hb λht=>hs (hT b hb ht),h.rest⟩
theorem Grow.trans(h:Grow w w1)(h':Grow w1 w2):Grow w w2:=Mod.trans h h' λ_ _ h=>h
theorem Grow.mod(h:Grow w w1):Mod S w w1:=h.mono λ_ _ h=>h.elim
theorem Mod.alloc(h:Mod S w w1)(o:Obj):Mod S w (w1.alloc o):=
 ⟨by have:=h.size;simp;omega,λb hb hs=>by
   rw[<-h.same b hb hs];have:b<w1.heap.size:=Nat.lt_of_lt_of_le hb h.size;show(w1.heap.push o)[b]? =w1.heap[b]?;rw[Array.getElem?_push,if_neg (Nat.ne_of_lt this)],h.rest⟩
theorem Mod.drew(h:Mod S w w1):Mod S w w1.drew:=⟨h.size,h.same,h.rest⟩
theorem heap_setCell_ne(w:World){a:Addr}{v:Value}{b:Nat}(hb:a.block≠b):(w.setCell a v).heap[b]? =w.heap[b]? :=by
 simp[World.setCell,Array.getElem?_modify,hb]
theorem Mod.setCell(h:Mod S w w1){a:Addr}{v:Value}(ha:S a.block\/w.heap.size<=a.block):Mod S w (w1.setCell a v):=
 ⟨by have:=h.size;simpa using this,λb hb hs=>by
   rw[<-h.same b hb hs];refine heap_setCell_ne w1 ?_;rintro rfl;rcases ha with ha|ha
   ·exact hs ha
   ·omega,h.rest⟩
theorem Mod.putObj(h:Mod S w w1){b:Nat}{o:Obj}(ha:S b\/w.heap.size<=b):Mod S w {w1 with heap:=w1.heap.setIfInBounds b o}:=
 ⟨by have:=h.size;simpa using this,λc hc hs=>by
   rw[<-h.same c hc hs];have hne:b≠c:=by
    rintro rfl;rcases ha with ha|ha
    ·exact hs ha
    ·omega
   simp[Array.getElem?_setIfInBounds_ne hne],h.rest⟩
theorem cell_of_heap{w w':World}{a:Addr}(h:w'.heap[a.block]? =w.heap[a.block]?):w'.cell? a=w.cell? a:=by
 simp only[World.cell?,h]
theorem frozen_of_heap{w w':World}{a:Addr}(h:w'.heap[a.block]? =w.heap[a.block]?):w'.frozen? a=w.frozen? a:=by
 simp only[World.frozen?,h]
end
theorem readsAt_iff{w:World}{a:Addr}:∀{vs:List Value} {i:Nat},readsAt w a i vs↔∀j v,vs[j]? =some v->w.cell? (a.add (i+j))=some v
 |[],i=>by simp[readsAt]
 |x::vs,i=>by
  simp only[readsAt,readsAt_iff (vs:=vs)];constructor
  ·rintro⟨h1,h2⟩ j v hj
   cases j with
   |zero=>simp only[List.getElem?_cons_zero,Option.some.injEq]at hj;subst hj;exact h1
   |succ j=>have:=h2 j v (by simpa using hj);rwa[show i+1+j=i+(j+1) by omega]at this
  ·intro h
   refine⟨by simpa using h 0 x rfl,λj v hj=>?_⟩;have:=h (j+1) v (by simpa using hj);rwa[show i+(j+1)=i+1+j by omega]at this
def Row(w:World)(a:Addr)(vs:List Value):Prop:=∀j v,vs[j]? =some v->w.cell? (a.add j)=some v
theorem readsAt_row{w:World}{a:Addr}{vs:List Value}:readsAt w a 0 vs↔Row w a vs:=by
 rw[readsAt_iff];simp[Row]
theorem Row.get{w:World}{a:Addr}{vs:List Value}(h:Row w a vs){j:Nat}{v:Value}(hj:vs[j]? =some v):w.cell? (a.add j)=some v:=h j v hj
theorem Row.nil(w:World)(a:Addr):Row w a []:=λj v h=>by simp at h
theorem Row.append{w:World}{a:Addr}{vs us:List Value}:Row w a (vs++us)↔Row w a vs/\Row w (a.add vs.length) us:=by
 constructor
 ·intro h
  refine⟨λj v hj=>h j v ?_,λj v hj=>?_⟩
  ·have hlt:j<vs.length:=by
    rcases Nat.lt_or_ge j vs.length with h'|h'
    ·exact h'
    ·rw[List.getElem?_eq_none h']at hj;cases hj
   rw[List.getElem?_append_left hlt];exact hj
  ·rw[add_add]
   refine h _ v ?_;rw[List.getElem?_append_right (by omega)];simpa using hj
 ·rintro⟨h1,h2⟩ j v hj
  rcases Nat.lt_or_ge j vs.length with h'|h'
  ·exact h1 j v (by rwa[List.getElem?_append_left h']at hj)
  ·rw[List.getElem?_append_right h']at hj
   have:=h2 _ v hj;rwa[add_add,show vs.length+(j-vs.length)=j by omega]at this
theorem Row.take{w:World}{a:Addr}{vs:List Value}(h:Row w a vs)(n:Nat):Row w a (vs.take n):=λj v hj=>by
 rw[List.getElem?_take]at hj;split at hj
 ·exact h j v hj
 ·cases hj
theorem Row.drop{w:World}{a:Addr}{vs:List Value}(h:Row w a vs)(n:Nat):Row w (a.add n) (vs.drop n):=λj v hj=>by
 rw[add_add];exact h _ v (by rwa[List.getElem?_drop]at hj)
theorem Row.of_heap{w w':World}{a:Addr}{vs:List Value}(h:Row w a vs)(he:w'.heap[a.block]? =w.heap[a.block]?):Row w' a vs:=λj v hj=>by
 rw[cell_of_heap (w:=w) (by simpa using he)];exact h j v hj
theorem Row.block_lt{w:World}{a:Addr}{vs:List Value}(h:Row w a vs)(hne:vs≠[]):a.block<w.heap.size:=by
 cases vs with
 |nil=>exact absurd rfl hne
 |cons v vs=>have:=World.block_lt_of_cell? w _ (h 0 v rfl);simpa using this
theorem Row.mod{S:Nat->Prop}{w w':World}{a:Addr}{vs:List Value}(h:Row w a vs)(hm:Mod S w w')(hs:¬S a.block):Row w' a vs:=by
 by_cases hv:vs=[]
 ·subst hv;exact Row.nil _ _
 ·exact h.of_heap (hm.same _ (h.block_lt hv) hs)
theorem RowO.some{w:World}{a:Addr}{vs:List Value}:readsO w (some a) vs↔Row w a vs:=readsAt_row
theorem exS{p:Sl->Prop}{a:Option Addr}{l c:Nat}:(∃s:Sl,(a=s.a/\l=s.len/\c=s.cap)/\p s)↔p ⟨a,l,c⟩:=by
 constructor
 ·rintro⟨⟨a',l',c'⟩,⟨rfl,rfl,rfl⟩,h⟩;exact h
 ·intro h;exact⟨⟨a,l,c⟩,⟨rfl,rfl,rfl⟩,h⟩
@[simp]theorem Sl.eta(s:Sl):(⟨s.a,s.len,s.cap⟩:Sl)=s:=rfl
@[simp]theorem setCell_new(w:World)(c:Array Value)(t:TypeId)(i:Nat)(v:Value):(w.alloc (.cells c t)).setCell ⟨w.heap.size,i,none⟩ v=w.alloc (.cells (c.setIfInBounds i v) t):=
  World.setCell_alloc_new (w:=w) c t i v
@[simp]theorem heap_alloc_new(w:World)(o:Obj):(w.alloc o).heap[w.heap.size]? =some o:=by
  show(w.heap.push o)[w.heap.size]? =some o;simp
theorem heap_alloc_lt{w:World}{o:Obj}{b:Nat}(h:b<w.heap.size):(w.alloc o).heap[b]? =w.heap[b]? :=by
 show(w.heap.push o)[b]? =w.heap[b]?;rw[Array.getElem?_push,if_neg (Nat.ne_of_lt h)]
@[simp]theorem heap_drew(w:World):w.drew.heap=w.heap:=rfl
theorem wrap_i64{n:Int}(h: -9223372036854775808<=n/\n<=9223372036854775807):IntKind.wrap .i64 n=n:=by
 simp only[IntKind.wrap,IntKind.signed,IntKind.bits];simp;omega
theorem wrap_u8{n:Int}(h:0<=n/\n<=255):IntKind.wrap .u8 n=n:=by
 simp only[IntKind.wrap,IntKind.signed,IntKind.bits];simp;omega
def ub(b:UInt8):Value:=.int .u8 (b.toNat:Int)
structure BS(w:World)(s:Sl)(l:List UInt8):Prop where
 len:s.len=l.length
 row:readsO w s.a (l.map ub)
section
variable{w w' w1:World}{s x:Sl}{l:List UInt8}
theorem readsO.row{ad:Addr}{vs:List Value}(h:readsO w (some ad) vs):Row w ad vs:=readsAt_row.1 h
theorem readsO.mod{S:Nat->Prop}{a:Option Addr}{vs:List Value}(h:readsO w a vs)(hm:Mod S w w')(hs:∀ad,a=some ad->vs≠[]->¬S ad.block):readsO w' a vs:=by
 cases a with
 |none=>exact h
 |some ad=>
  by_cases hv:vs=[]
  ·subst hv;exact readsAt_row.2 (Row.nil _ _)
  ·exact readsAt_row.2 ((readsAt_row.1 h).mod hm (hs ad rfl hv))
theorem readsO.grow{a:Option Addr}{vs:List Value}(h:readsO w a vs)(hm:Grow w w'):readsO w' a vs:=h.mod hm λ_ _ _ h=>h
theorem readsO.lt{ad:Addr}{vs:List Value}(h:readsO w (some ad) vs)(hv:vs≠[]):ad.block<w.heap.size:=(readsAt_row.1 h).block_lt hv
theorem BS.grow(h:BS w s l)(hm:Grow w w'):BS w' s l:=⟨h.len,h.row.grow hm⟩
theorem BS.mod{S:Nat->Prop}(h:BS w s l)(hm:Mod S w w')(hs:∀ad,s.a=some ad->l≠[]->¬S ad.block):BS w' s l:=
 ⟨h.len,h.row.mod hm λad ha hv=>hs ad ha (by simpa using hv)⟩
theorem BS.nil(w:World)(c:Nat):BS w ⟨none,0,c⟩ []:=⟨rfl,rfl⟩
theorem BS.get(h:BS w s l){j:Nat}{b:UInt8}(hj:l[j]? =some b):∃ad,s.a=some ad/\w.cell? (ad.add j)=some (ub b):=by
 obtain⟨h1,h2⟩:=h;cases ha:s.a with
 |none=>
  rw[ha]at h2;have:l.map ub=[]:=h2;simp at this;subst this;simp at hj
 |some ad=>
  rw[ha]at h2;exact⟨ad,rfl,(readsAt_row.1 h2).get (by simp[hj])⟩
def Unf(w:World)(b:Nat):Prop:=∀o v,w.cell? ⟨b,o,none⟩=some v->w.frozen? ⟨b,o,none⟩=false
theorem cell_set_some{w:World}{a c:Addr}{v u:Value}(h:(w.setCell c v).cell? a=some u):∃u',w.cell? a=some u':=by
 by_cases hac:c=a
 ·subst hac
  cases hc:w.cell? c with
  |some u'=>exact⟨u',rfl⟩
  |none=>
   exfalso;simp only[World.cell?,World.setCell,Array.getElem?_modify]at h hc;cases hb:w.heap[c.block]?with
   |none=>simp[hb]at h
   |some o=>
    cases o<;>simp[hb]at h hc;rename_i cs el fz;obtain⟨b,o,sp⟩:=c;cases sp<;>simp_all[Array.getElem?_setIfInBounds]
 ·rw[World.cell?_setCell_other _ _ _ _ hac]at h
  exact⟨u,h⟩
theorem Unf.add{b:Nat}(h:Unf w b){a:Addr}(ha:a.block=b)(hs:a.spot=none){n:Nat}{v:Value}(hv:w.cell? (a.add n)=some v):w.frozen? (a.add n)=false:=by
 obtain⟨b',o,sp⟩:=a;dsimp only at ha hs;subst ha hs;rw[add_mk]at hv⊢;exact h _ _ hv
theorem Unf.setCell{b:Nat}(h:Unf w b){c:Addr}{v:Value}:Unf (w.setCell c v) b:=λo u hu=>by
 obtain⟨u',hu'⟩:=cell_set_some hu;rw[World.frozen?_setCell];exact h o u' hu'
theorem add_inj{a:Addr}(hs:a.spot=none){i j:Nat}(h:a.add i=a.add j):i=j:=by
 obtain⟨b,o,sp⟩:=a;dsimp only at hs;subst hs;rw[add_mk,add_mk]at h;simp at h;exact h
theorem Row.set{a:Addr}{vs:List Value}(h:Row w a vs)(hs:a.spot=none){i:Nat}{v:Value}:Row (w.setCell (a.add i) v) a (vs.set i v):=λj u hj=>by
 rw[List.getElem?_set]at hj;by_cases hij:i=j
 ·subst hij
  simp only[if_true]at hj;split at hj
  ·rename_i hlt
   simp only[Option.some.injEq]at hj;subst hj;have h0:=h i vs[i] (by simp[hlt]);exact World.cell?_setCell_same _ _ _ h0
  ·cases hj
 ·rw[if_neg hij]at hj
  rw[World.cell?_setCell_other]
  ·exact h j u hj
  ·exact λhe=>hij (add_inj hs he)
theorem stL_shift{a:Addr}{m:Nat}{k:Pr}:∀{l:List Value} {i:Nat},stL (a.add m) i l k=stL a (m+i) l k
 |[],_=>rfl
 |v::l,i=>by simp only[stL,add_add,stL_shift (l:=l),Nat.add_assoc]
theorem stL_of{a:Addr}{k:Pr}(hs:a.spot=none):∀{new:List Value} {i:Nat} {vs:List Value} {w:World},Row w a vs->i+new.length<=vs.length->(∀v∈new,NotAgg v)->Unf w a.block->
 (∀w',Row w' a (vs.take i++new++vs.drop (i+new.length))->Mod (·=a.block) w w'->w'.heap.size=w.heap.size->(∀b,Unf w b->Unf w' b)->k w')->stL a i new k w
 |[],i,vs,w,hr,hl,hn,hu,hk=>hk w (by simpa using hr) (Mod.refl _ _) rfl (λ_ h=>h)
 |v::new,i,vs,w,hr,hl,hn,hu,hk=>by
  simp only[List.length_cons]at hl;have hlt:i<vs.length:=by omega
  refine st_of (u:=vs[i]) (hn v (by simp)) (hr i _ (by simp[hlt])) (hu.add rfl hs (hr i vs[i] (by simp[hlt]))) ?_;refine stL_of hs (vs:=vs.set i v) (hr.set hs) (by simp;omega) (λu hu=>hn u (by simp[hu])) hu.setCell ?_;intro w' h1 h2 h3 h4;refine hk w' ?_ (((Mod.refl _ w).setCell (.inl (by simp))).trans h2 λ_ _ h=>h) (by simpa using h3) (λb hb=>h4 b hb.setCell);have e1:(vs.set i v).take (i+1)=vs.take i++[v]:=by
   rw[List.take_add_one];simp[List.take_set_of_le,hlt]
  have e2:(vs.set i v).drop (i+1+new.length)=vs.drop (i+(new.length+1)):=by
   rw[List.drop_set_of_lt (by omega)]
   congr 1;omega
  rw[e1,e2]at h1;simpa using h1
structure OwnS(w:World)(n0 n:Nat)(s:Sl)(vs:List Value):Prop where
 len:vs.length=s.len*n
 le:s.len<=s.cap
 row:(s.a=none/\s.len=0/\s.cap=0)\/∃b off spare,s.a=some ⟨b,off,none⟩/\n0<=b/\b<w.heap.size/\Unf w b/\Row w ⟨b,off,none⟩ (vs++spare)/\(vs++spare).length=s.cap*n
theorem OwnS.nil(w:World)(n0 n:Nat):OwnS w n0 n ⟨none,0,0⟩ []:=⟨by simp,by simp,.inl ⟨rfl,rfl,rfl⟩⟩
theorem OwnS.reads{n0 n:Nat}{vs:List Value}(h:OwnS w n0 n s vs):readsO w s.a vs:=by
 rcases h.row with⟨h1,h2,h3⟩|⟨b,off,spare,h1,_,_,_,h2,_⟩
 ·rw[h1]
  have:=h.len;rw[h2]at this;simp at this;exact this
 ·rw[h1];exact readsAt_row.2 (Row.append.1 h2).1
theorem Unf.of_heap{b:Nat}(h:Unf w b)(he:w'.heap[b]? =w.heap[b]?):Unf w' b:=λo v hv=>by
 rw[frozen_of_heap (w:=w) he];refine h o v ?_;have:(⟨b,o,none⟩:Addr).block=b:=rfl;simp only[World.cell?,this,he]at hv⊢;exact hv
theorem OwnS.mod{S:Nat->Prop}{n0 n:Nat}{vs:List Value}(h:OwnS w n0 n s vs)(hm:Mod S w w')(hs:∀ad,s.a=some ad->¬S ad.block):OwnS w' n0 n s vs:=by
 refine⟨h.len,h.le,?_⟩;rcases h.row with h1|⟨b,off,spare,h1,h2,h3,h4,h5,h6⟩
 ·exact .inl h1
 ·have hsb:¬S b:=hs _ h1
  exact .inr ⟨b,off,spare,h1,h2,Nat.lt_of_lt_of_le h3 hm.size,h4.of_heap (hm.same b h3 hsb),h5.of_heap (hm.same b h3 hsb),h6⟩
theorem OwnS.grow{n0 n:Nat}{vs:List Value}(h:OwnS w n0 n s vs)(hm:Grow w w'):OwnS w' n0 n s vs:=h.mod hm λ_ _ h=>h
theorem OwnS.le_block{n0 n:Nat}{vs:List Value}(h:OwnS w n0 n s vs){ad:Addr}(ha:s.a=some ad):n0<=ad.block/\ad.block<w.heap.size/\ad.spot=none/\Unf w ad.block:=by
 rcases h.row with⟨h1,_⟩|⟨b,off,spare,h1,h2,h3,h4,_⟩
 ·rw[h1]at ha;cases ha
 ·rw[h1]at ha;simp only[Option.some.injEq]at ha;subst ha;exact⟨h2,h3,rfl,h4⟩
theorem OwnS.weaken{n0 n1 n:Nat}{vs:List Value}(h:OwnS w n0 n s vs)(hn:n1<=n0):OwnS w n1 n s vs:=by
 refine⟨h.len,h.le,?_⟩;rcases h.row with h1|⟨b,off,spare,h1,h2,rest⟩
 ·exact .inl h1
 ·exact .inr ⟨b,off,spare,h1,Nat.le_trans hn h2,rest⟩
def Sl.blk(s:Sl)(b:Nat):Prop:=∃ad,s.a=some ad/\ad.block=b
theorem growBy_le(n:Nat):∀(r c m:Nat),c<=m->n<=m->Builtin.growBy n r c<=m+(m+768)/4
 |0,c,m,hc,_=>by simp only[Builtin.growBy];omega
 |r+1,c,m,hc,hn=>by
  simp only[Builtin.growBy];split
  ·omega
  ·rename_i hlt
   by_cases h2:c+(c+768)/4<=m
   ·exact growBy_le n r _ m h2 hn
   ·
    cases r with
    |zero=>simp only[Builtin.growBy];omega
    |succ r=>
     simp only[Builtin.growBy];rw[if_pos (by omega)];omega
theorem nextslicecap_le{n c:Nat}(h:c<n):Builtin.nextslicecap n c<=2*n+192:=by
 unfold Builtin.nextslicecap;split
 ·omega
 ·split
  ·omega
  ·have:=growBy_le n 4 c n (by omega) (Nat.le_refl _)
   omega
theorem zc_length(z:List Value)(n:Nat):(zc z n).length=n*z.length:=by simp[zc]
theorem app_core{E n b n0 m:Nat}{z:List Value}{vs new:List Value}{k:Sl->Pr}(h:OwnS w n0 n s vs)(hn0:n0<=w.heap.size)(hnl:new.length=m*n)
 (hna:∀v∈new,NotAgg v)(hz:z.length=n)(hb:b≠0)(hbd:(2*(s.len+m)+192)*b<=2^48)
 (hk:∀r w',OwnS w' n0 n r (vs++new)->r.len=s.len+m->(s.a.isSome=true\/0<m->r.a.isSome=true)->(s.a=none->m=0->r.a=none)->Mod s.blk w w'->(∀b,r.blk b->s.blk b\/w.heap.size<=b)->k r w'):(s.len+m<=s.cap->stO s.a (s.len*n) new (k ⟨s.a,s.len+m,s.cap⟩) w)/\
 (s.cap<s.len+m->∃old:List Value,(s.a.isSome=true->old.length=s.len*n)/\readsO w s.a old/\(b≠0)/\
   (Builtin.nextslicecap (s.len+m) s.cap*b<=2^48)/\(s.len+m<2^63)/\
   ∀cap,s.len+m<=cap->cap<2^63->
    k ⟨some ⟨w.heap.size,0,none⟩,s.len+m,cap⟩ (w.drew.alloc (.cells (old++new++zc z (cap-(s.len+m))).toArray E))):=by
 refine⟨?_,?_⟩
 ·intro hroom
  rcases h.row with⟨h1,h2,h3⟩|⟨bb,off,spare,h1,h2,h3,h4,h5,h6⟩
  ·rw[h1]
   have hx00:m=0:=by omega
   have hnew:new=[]:=by
    apply List.eq_nil_of_length_eq_zero;rw[hnl,hx00];simp
   refine hk _ _ ?_ rfl ?_ ?_ (Mod.refl _ _) ?_
   ·rw[hnew,List.append_nil]
    exact⟨by simp[h.len,hx00],by simp;omega,.inl ⟨by simp,by simp;omega,h3⟩⟩
   ·rintro(h|h)
    ·simp[h1]at h
    ·omega
   ·intro _ _;rfl
   ·rintro b ⟨ad,hh,_⟩;cases hh
  ·rw[h1]
   have hlen:=h.len;have hspl:(vs++spare).length=vs.length+spare.length:=List.length_append;have hle:s.len*n+new.length<=(vs++spare).length:=by
    rw[hnl,h6,<-Nat.add_mul];exact Nat.mul_le_mul_right n hroom
   show stL _ 0 new _ w;rw[stL_shift,Nat.add_zero,<-hlen];refine stL_of rfl h5 (by rw[hlen];exact hle) hna h4 ?_;intro w' g1 g2 g3 g4;have e1:(vs++spare).take vs.length=vs:=by simp
   have e2:(vs++spare).drop (vs.length+new.length)=spare.drop new.length:=by
    rw[List.drop_append,List.drop_eq_nil_of_le (by omega),List.nil_append]
    congr 1;omega
   rw[e1,e2]at g1;refine hk _ _ ⟨?_,hroom,.inr ⟨bb,off,spare.drop new.length,rfl,h2,by rw[g3];exact h3,g4 _ h4,g1,?_⟩⟩ rfl ?_ ?_ ?_ ?_
   ·rw[List.length_append,hlen,hnl,Nat.add_mul]
   ·simp only[List.length_append,List.length_drop]at *
    omega
   ·intro _;rfl
   ·intro h;rw[h1]at h;cases h
   ·exact g2.mono λc _ hc=>⟨_,h1,hc.symm⟩
   ·rintro c ⟨ad,hh,hc⟩
    simp only[Option.some.injEq]at hh;exact .inl ⟨_,h1,by rw[<-hc,<-hh]⟩
 ·intro hgrow
  have hold:=h.reads;refine⟨vs,λ_=>h.len,hold,hb,?_,?_,?_⟩
  ·exact Nat.le_trans (Nat.mul_le_mul_right b (nextslicecap_le hgrow)) hbd
  ·have:(2*(s.len+m)+192)*1<=(2*(s.len+m)+192)*b:=Nat.mul_le_mul_left _ (by omega)
   omega
  ·intro cap hc1 hc2
   have hl:(vs++new++zc z (cap-(s.len+m))).length=cap*n:=by
    simp only[List.length_append,zc_length,h.len,hnl,hz];rw[<-Nat.add_mul,<-Nat.add_mul]
    congr 1;omega
   refine hk _ _ ⟨?_,hc1,.inr ⟨w.heap.size,0,zc z (cap-(s.len+m)),rfl,hn0,?_,?_,?_,hl⟩⟩ rfl (λ_=>rfl) ?_ ((Mod.refl _ w).drew.alloc _) ?_
   ·simp only[List.length_append,h.len,hnl,Nat.add_mul]
   ·simp
   ·intro o _ _
    exact World.frozen?_alloc_new w.drew _ E o
   ·intro j v hj
    rw[add_mk,Nat.zero_add];have:=World.cell?_alloc_new w.drew (vs++new++zc z (cap-(s.len+m))).toArray E j;rw[World.size_drew]at this;rw[this];simpa using hj
   ·intro hsa hx0'
    exfalso;rcases h.row with⟨_,g2,g3⟩|⟨bb,_,_,g1,_⟩
    ·omega
    ·rw[g1]at hsa;cases hsa
   ·rintro c ⟨ad,hh,hc⟩
    simp only[Option.some.injEq]at hh;refine .inr ?_;rw[<-hc,<-hh];exact Nat.le_refl _
theorem app_own2{E n b n0:Nat}{z:List Value}{vs new:List Value}{k:Sl->Pr}(h:OwnS w n0 n s vs)(hn0:n0<=w.heap.size)(hxl:x.a.isSome=true->new.length=x.len*n)(hx0:x.a=none->x.len=0)(hx:readsO w x.a new)
 (hna:∀v∈new,NotAgg v)(hz:z.length=n)(hb:b≠0)(hbd:(2*(s.len+x.len)+192)*b<=2^48)
 (hk:∀r w',OwnS w' n0 n r (vs++new)->r.len=s.len+x.len->(s.a.isSome=true\/0<x.len->r.a.isSome=true)->(s.a=none->x.len=0->r.a=none)->Mod s.blk w w'->(∀b,r.blk b->s.blk b\/w.heap.size<=b)->k r w'):app E n b z s x k w:=by
 have hnl:new.length=x.len*n:=by
  cases hxa:x.a with
  |some _=>exact hxl (by simp[hxa])
  |none=>
   rw[hxa]at hx;have:new=[]:=hx;rw[this,hx0 hxa];simp
 exact⟨new,λ_=>hnl,hx,app_core h hn0 hnl hna hz hb hbd hk⟩
theorem app_own{E n b n0:Nat}{z:List Value}{vs new:List Value}{k:Sl->Pr}(h:OwnS w n0 n s vs)(hn0:n0<=w.heap.size)(hxl:x.a.isSome=true->new.length=x.len*n)(hx0:x.a=none->x.len=0)(hx:readsO w x.a new)
 (hna:∀v∈new,NotAgg v)(hz:z.length=n)(hb:b≠0)(hbd:(2*(s.len+x.len)+192)*b<=2^48)
 (hk:∀r w',OwnS w' n0 n r (vs++new)->r.len=s.len+x.len->(s.a.isSome=true\/0<x.len->r.a.isSome=true)->(s.a=none->x.len=0->r.a=none)->Mod s.blk w w'->k r w'):app E n b z s x k w:=
 app_own2 h hn0 hxl hx0 hx hna hz hb hbd λr w' h1 h2 h3 h4 h5 _=>hk r w' h1 h2 h3 h4 h5
end
theorem flatMap_row{α:Type}{f:α->List Value}{n:Nat}(hf:∀r,(f r).length=n):∀{rs:List α} {w:World} {a:Addr},Row w a (rs.flatMap f)↔∀i r,rs[i]? =some r->Row w (a.add (i*n)) (f r)
 |[],w,a=>by simp[Row.nil]
 |x::rs,w,a=>by
  rw[List.flatMap_cons,Row.append,flatMap_row hf (rs:=rs),hf];constructor
  ·rintro⟨h1,h2⟩ i r hi
   cases i with
   |zero=>simp only[List.getElem?_cons_zero,Option.some.injEq]at hi;subst hi;simpa using h1
   |succ i=>
    have:=h2 i r (by simpa using hi);rwa[add_add,show n+i*n=(i+1)*n by rw[Nat.add_mul];omega]at this
  ·intro h
   refine⟨by simpa using h 0 x rfl,λi r hi=>?_⟩;have:=h (i+1) r (by simpa using hi);rwa[show(i+1)*n=n+i*n by rw[Nat.add_mul];omega,<-add_add]at this
theorem flatMap_len{α:Type}{f:α->List Value}{n:Nat}(hf:∀r,(f r).length=n)(rs:List α):(rs.flatMap f).length=rs.length*n:=by
 induction rs with
 |nil=>simp
 |cons x rs ih=>rw[List.flatMap_cons,List.length_append,ih,hf,List.length_cons,Nat.add_mul];omega
structure SS{α:Type}(f:α->List Value)(w:World)(s:Sl)(rs:List α):Prop where
 len:s.len=rs.length
 row:readsO w s.a (rs.flatMap f)
section
variable{α:Type}{f:α->List Value}{n:Nat}{w w':World}{s:Sl}{rs:List α}
theorem SS.get(hf:∀r,(f r).length=n)(h:SS f w s rs){i:Nat}{r:α}(hi:rs[i]? =some r)(hn:n≠0):∃ad,s.a=some ad/\Row w (ad.add (i*n)) (f r):=by
 obtain⟨h1,h2⟩:=h;cases ha:s.a with
 |none=>
  rw[ha]at h2;have h3:rs.flatMap f=[]:=h2;have h4:=flatMap_len hf rs;rw[h3]at h4;simp only[List.length_nil]at h4;have:rs.length=0:=(Nat.mul_eq_zero.1 h4.symm).resolve_right hn;have:rs=[]:=List.eq_nil_of_length_eq_zero this;subst this;simp at hi
 |some ad=>
  rw[ha]at h2;exact⟨ad,rfl,(flatMap_row hf).1 (readsAt_row.1 h2) i r hi⟩
theorem SS.grow(h:SS f w s rs)(hm:Grow w w'):SS f w' s rs:=⟨h.len,h.row.grow hm⟩
theorem SS.mod{S:Nat->Prop}(h:SS f w s rs)(hm:Mod S w w')(hs:∀ad,s.a=some ad->¬S ad.block):SS f w' s rs:=⟨h.len,h.row.mod hm λad ha _=>hs ad ha⟩
theorem SS.nil(w:World)(c:Nat):SS f w ⟨none,0,c⟩ []:=⟨rfl,rfl⟩
theorem SS.none_len(hf:∀r,(f r).length=n)(hn:n≠0)(h:SS f w s rs)(ha:s.a=none):s.len=0:=by
 rw[h.len];have h2:=h.row;rw[ha]at h2;have h3:rs.flatMap f=[]:=h2;have h4:=flatMap_len hf rs;rw[h3]at h4;simp only[List.length_nil]at h4;exact(Nat.mul_eq_zero.1 h4.symm).resolve_right hn
end
theorem BS.none_len{w:World}{s:Sl}{l:List UInt8}(h:BS w s l)(ha:s.a=none):s.len=0:=by
 have h2:=h.row;rw[ha]at h2;have:l.map ub=[]:=h2;simp at this;rw[h.len,this];rfl
def bytesOf(l:List UInt8):ByteArray:=⟨l.toArray⟩
@[simp]theorem bytesOf_toList(l:List UInt8):(bytesOf l).toList=l:=by
  rw[ByteArray.toList_eq];rfl
theorem b2s_of{w:World}{s:Sl}{l:List UInt8}{k:ByteArray->Pr}(h:BS w s l)(hk:k (bytesOf l) w):b2s s k w:=by
 refine⟨l.map λb=>(b.toNat:Int),λ_=>by simp[h.len],?_,?_⟩
 ·rw[List.map_map]
  exact h.row
 ·have:(l.map λb=>(b.toNat:Int)).map (λn=>UInt8.ofNat n.toNat)=l:=by
   rw[List.map_map]
   conv=>rhs;rw[<-List.map_id l]
   apply List.map_congr_left;intro b _;simp
  rw[this];exact hk
theorem OwnS.bs{w:World}{n0:Nat}{s:Sl}{l:List UInt8}(h:OwnS w n0 1 s (l.map ub)):BS w s l:=
 ⟨by have:=h.len;simp at this;exact this.symm,h.reads⟩
theorem OwnS.ss{α:Type}{f:α->List Value}{n:Nat}(hf:∀r,(f r).length=n)(hn:n≠0){w:World}{n0:Nat}{s:Sl}{rs:List α}(h:OwnS w n0 n s (rs.flatMap f)):SS f w s rs:=
 ⟨by have:=h.len;rw[flatMap_len hf]at this;exact(Nat.eq_of_mul_eq_mul_right (Nat.pos_of_ne_zero hn) this).symm,h.reads⟩
theorem NotAgg_ub{l:List UInt8}:∀v∈l.map ub,NotAgg v:=by
 intro v hv;obtain⟨b,_,rfl⟩:=List.mem_map.1 hv;trivial
theorem OwnS.put{w:World}{n0 n:Nat}{s:Sl}{vs:List Value}(h:OwnS w n0 n s vs){i:Nat}{v:Value}{k:Pr}(hi:i<vs.length)(hv:NotAgg v)
 (hk:∀w',OwnS w' n0 n s (vs.set i v)->Mod s.blk w w'->w'.heap.size=w.heap.size->k w'):∃ad,s.a=some ad/\st (ad.add i) v k w:=by
 rcases h.row with⟨_,h2,_⟩|⟨b,off,spare,h1,h2,h3,h4,h5,h6⟩
 ·have:=h.len;rw[h2]at this;simp at this;subst this;simp at hi
 ·refine⟨_,h1,st_of (u:=vs[i]) hv ?_ (h4.add rfl rfl (h5 i vs[i] (by rw[List.getElem?_append_left hi];simp[hi]))) ?_⟩
  ·exact h5 i _ (by rw[List.getElem?_append_left hi];simp[hi])
  ·refine hk _ ⟨by simpa using h.len,h.le,.inr ⟨b,off,spare,h1,h2,by simpa using h3,h4.setCell,?_,by simpa using h6⟩⟩ ?_ (by simp)
   ·have:=h5.set rfl (i:=i) (v:=v)
    rwa[List.set_append_left _ _ hi]at this
   ·exact(Mod.refl _ w).setCell (.inl ⟨_,h1,by simp⟩)
theorem stO_nil{a:Option Addr}{off:Nat}{k:Pr}:stO a off [] k=k:=by cases a<;>rfl
theorem cpy_own{w:World}{n0 n:Nat}{t s' src:Sl}{vs new:List Value}{k:Pr}{o:Nat}(h:OwnS w n0 n t vs)(ho:o<=t.len)(ha:s'.a=t.a.map (·.add (o*n))\/s'.len=0)(hl:s'.len=t.len-o)
 (hr:readsO w src.a new)(hn:src.a.isSome=true->new.length=src.len*n)(hn0:src.a=none->src.len=0)(hle:src.len<=s'.len)(hna:∀v∈new,NotAgg v)
 (hk:∀w',OwnS w' n0 n t (vs.take (o*n)++new++vs.drop (o*n+new.length))->Mod t.blk w w'->w'.heap.size=w.heap.size->k w'):cpy n s' src k w:=by
 have hnl:new.length=src.len*n:=by
  cases hsa:src.a with
  |some _=>exact hn (by simp[hsa])
  |none=>
   rw[hsa]at hr;have:new=[]:=hr;rw[this,hn0 hsa];simp
 refine⟨new,λ_=>by rw[hnl,show Nat.min src.len s'.len=src.len from Nat.min_eq_left hle],hr,?_⟩;by_cases hz:new=[]
 ·subst hz
  rw[stO_nil];refine hk w ?_ (Mod.refl _ _) rfl;simpa using h
 ·have hpos:src.len≠0:=by
   intro h0;rw[h0]at hnl;simp at hnl;exact hz hnl
  have ha':s'.a=t.a.map (·.add (o*n)):=ha.resolve_right (by omega);rcases h.row with⟨h1,h2,h3⟩|⟨b,off,spare,h1,h2,h3,h4,h5,h6⟩
  ·omega
  ·rw[ha',h1]
   show stL ((Addr.add ⟨b,off,none⟩ (o*n)).add 0) 0 new k w;rw[add_zero',stL_shift,Nat.add_zero];have hlen:=h.len;have hb:o*n+new.length<=vs.length:=by
    rw[hnl,hlen,<-Nat.add_mul];exact Nat.mul_le_mul_right n (by omega)
   refine stL_of rfl h5 (by rw[List.length_append];omega) hna h4 ?_;intro w' g1 g2 g3 g4;refine hk w' ⟨?_,h.le,.inr ⟨b,off,spare,h1,h2,by rw[g3];exact h3,g4 _ h4,?_,?_⟩⟩ (g2.mono λc _ hc=>⟨_,h1,hc.symm⟩) g3
   ·simp only[List.length_append,List.length_take,List.length_drop]
    omega
   ·rw[List.take_append_of_le_length (by omega),List.drop_append_of_le_length (by omega)]at g1
    simpa[List.append_assoc]using g1
   ·simp only[List.length_append,List.length_take,List.length_drop]at *
    omega
theorem slc_lo{w:World}{n:Nat}{s:Sl}{o:Int}{k:Sl->Pr}(h0:0<=o)(h1:o<=(s.len:Int))
 (hk:k ⟨if s.cap=o.toNat then s.a else s.a.map (·.add (o.toNat*n)),s.len-o.toNat,s.cap-o.toNat⟩ w):slc n s (some o) none none k w:=by
 refine⟨by simp,by simp,by simp,λl hl=>?_,by simpa using hk⟩;simp only[Option.some.injEq]at hl;subst hl;simpa using⟨h0,h1⟩
theorem slc_hi{w:World}{n:Nat}{s:Sl}{o:Int}{k:Sl->Pr}(h0:0<=o)(h1:o<=(s.cap:Int))
 (hk:k ⟨if s.cap=0 then s.a else s.a.map (·.add 0),o.toNat,s.cap⟩ w):slc n s none (some o) none k w:=by
 refine⟨by simp,by simp,λl hl=>?_,by simp,by simpa using hk⟩;simp only[Option.some.injEq]at hl;subst hl;simpa using⟨h0,h1⟩
theorem map_add_zero(a:Option Addr):a.map (·.add 0)=a:=by cases a<;>simp
section
variable{w w':World}{s:Sl}{l:List UInt8}
theorem at_of{i:Int}{b:UInt8}{k:Int->Pr}(h:BS w s l)(h0:0<=i)(hb:l[i.toNat]? =some b)(hk:k (b.toNat:Int) w):
 (owe ((0:Int)<=i/\i<(s.len:Int))<|deref s.a λa=>deref (some (a.add (Int.toNat i*1))) λa1=>ldC (.int .u8) a1 k) w:=by
 obtain⟨ad,h1,h2⟩:=h.get hb;have hl:=h.len;have hlt:i.toNat<l.length:=by
  rcases Nat.lt_or_ge i.toNat l.length with h'|h'
  ·exact h'
  ·rw[List.getElem?_eq_none h']at hb;cases hb
 refine⟨⟨h0,by omega⟩,?_⟩;rw[h1];simp only[deref_some,Nat.mul_one];exact ldC_of (s:=.int .u8) (p:=(b.toNat:Int)) h2 hk
theorem slc_bs{i e:Int}{k:Sl->Pr}(h:BS w s l)(hle:s.len<=s.cap)(h0:0<=i)(h1:i<=e)(h2:e<=(s.len:Int))(hk:∀r,BS w r ((l.take e.toNat).drop i.toNat)->r.len=e.toNat-i.toNat->k r w):slc 1 s (some i) (some e) none k w:=by
 have hl:=h.len;refine⟨by simp,by simp,λx hx=>?_,λx hx=>?_,?_⟩
 ·simp only[Option.some.injEq]at hx;subst hx;simp;omega
 ·simp only[Option.some.injEq]at hx;subst hx;simp;omega
 ·simp only[Option.map_none,Option.map_some,Option.getD_none,Option.getD_some]
  refine hk _ ⟨?_,?_⟩ rfl
  ·simp;omega
  ·have hrow:=h.row
   have hr:∀ad,s.a=some ad->Row w (ad.add (i.toNat*1)) (((l.take e.toNat).drop i.toNat).map ub):=by
    intro ad had;rw[had]at hrow;have:=((readsAt_row.1 hrow).take e.toNat).drop i.toNat;simpa[List.map_take,List.map_drop]using this
   split
   ·have:(l.take e.toNat).drop i.toNat=[]:=by apply List.eq_nil_of_length_eq_zero;simp;omega
    rw[this];cases s.a with
    |none=>rfl
    |some ad=>exact readsAt_row.2 (Row.nil _ _)
   ·cases ha:s.a with
    |none=>
     have h0:=h.none_len ha;have:(l.take e.toNat).drop i.toNat=[]:=by apply List.eq_nil_of_length_eq_zero;simp;omega
     rw[this];rfl
    |some ad=>exact readsAt_row.2 (hr ad ha)
theorem toNat_beq(a b:UInt8):(((a.toNat:Int))==((b.toNat:Int)))=decide (a=b):=by
 rw[Bool.eq_iff_iff];simp only[beq_iff_eq,decide_eq_true_eq];constructor
 ·intro h;exact UInt8.toNat_inj.1 (by omega)
 ·rintro rfl;rfl
end
theorem clone_app{w:World}{s:Sl}{l:List UInt8}{k:Sl->Pr}(h:BS w s l)(hl:s.len<=100000000000000)
 (hk:∀r w',OwnS w' w.heap.size 1 r (l.map ub)->Grow w w'->k r w'):app 5 1 1 [.int .u8 0] ⟨none,0,0⟩ s k w:=by
 have hn:=h.len;refine app_own (n0:=w.heap.size) (vs:=[]) (new:=l.map ub) (OwnS.nil _ _ _) (Nat.le_refl _) (λ_=>by simp;omega) h.none_len h.row NotAgg_ub rfl (by decide) (by simp;omega) ?_;intro r w' h1 _ _ _ h5;refine hk r w' (by simpa using h1) (h5.mono λb _ hb=>?_);obtain⟨ad,had,_⟩:=hb;cases had
structure Box(w:World)(b:Nat)(vs:List Value):Prop where
 lt:b<w.heap.size
 unf:Unf w b
 row:Row w ⟨b,0,none⟩ vs
section
variable{w w':World}{b:Nat}{vs:List Value}
theorem Box.mod{S:Nat->Prop}(h:Box w b vs)(hm:Mod S w w')(hs:¬S b):Box w' b vs:=
 ⟨Nat.lt_of_lt_of_le h.lt hm.size,h.unf.of_heap (hm.same b h.lt hs),h.row.mod hm hs⟩
theorem Box.grow(h:Box w b vs)(hm:Grow w w'):Box w' b vs:=h.mod hm λh=>h
theorem nw_of{cs:Array Value}{T:TypeId}{f:Nat->Pr}(h:∀b w2,Grow w w2->b=w.heap.size->w2.heap.size=w.heap.size+1->Box w2 b cs.toList->f b w2):nw (.cells cs T) f w:=by
 rw[nw_def];refine h _ _ ((Mod.refl _ w).alloc _) rfl (by simp) ⟨by simp,λo _ _=>World.frozen?_alloc_new _ _ _ _,λj v hj=>?_⟩;rw[add_mk,Nat.zero_add,World.cell?_alloc_new];simpa using hj
theorem Box.ld(h:Box w b vs){s:CS}{p:PayC s}{k:PayC s->Pr}{i:Nat}(hi:vs[i]? =some (valC s p))(hk:k p w):ldC s (Addr.add ⟨b,0,none⟩ i) k w:=ldC_of (h.row.get hi) hk
theorem Box.ldA{l:List CS}{p:PayA l}{k:PayA l->Pr}(h:Box w b (valA l p))(hk:k p w):ldA l ⟨b,0,none⟩ k w:=ldA_of (readsAt_row.2 h.row) hk
theorem Box.st(h:Box w b vs){i:Nat}{v:Value}{k:Pr}(hi:i<vs.length)(hv:NotAgg v)(hk:∀w',Box w' b (vs.set i v)->Mod (·=b) w w'->w'.heap.size=w.heap.size->k w'):st (Addr.add ⟨b,0,none⟩ i) v k w:=by
 refine st_of (u:=vs[i]) hv (h.row.get (by simp[hi])) (h.unf.add (v:=vs[i]) rfl rfl (h.row.get (by simp[hi]))) ?_;refine hk _ ⟨by simpa using h.lt,h.unf.setCell,h.row.set rfl⟩ ((Mod.refl _ w).setCell (.inl (by simp))) (by simp)
end
theorem deref_some'(a:Addr)(f:Addr->Pr):deref (some a) f=f a:=by funext w;exact deref_some a f
theorem callV_mono{P:Program}{v:Value}{args:List Value}{shs:List Sh}{k k':PayL shs->Pr}{w:World}(h:∀p w',k p w'->k' p w')(hh:callV P v args shs k w):callV P v args shs k' w:=by
 rcases hh with⟨f,first,caps,h1,h2,h3⟩|⟨l,caps,h1,h2⟩
 ·exact .inl ⟨f,first,caps,h1,h2,h3.mono λe w' ⟨p,he,hp⟩=>⟨p,he,h p w' hp⟩⟩
 ·exact .inr ⟨l,caps,h1,h2.mono λe w' ⟨p,he,hp⟩=>⟨p,he,h p w' hp⟩⟩
structure HA where
 is:World->(Nat->Prop)->Prop
 lt:∀{w:World} {F:Nat->Prop} {b:Nat},is w F->F b->b<w.heap.size
 mod:∀{w w':World} {F S:Nat->Prop},is w F->Mod S w w'->(∀b,F b->¬S b)->is w' F
def Has:List HA->World->(Nat->Prop)->Prop
 |[],_,F=>∀b,¬F b
 |A::l,w,F=>∃G H,A.is w G/\Has l w H/\(∀b,G b->¬H b)/\∀b,F b↔G b\/H b
theorem fext{F G:Nat->Prop}(h:∀b,F b↔G b):F=G:=funext λb=>propext (h b)
theorem Has.lt:∀{l:List HA} {w:World} {F:Nat->Prop} {b:Nat},Has l w F->F b->b<w.heap.size
 |[],_,_,b,h,hb=>(h b hb).elim
 |A::l,_,_,b,⟨G,H,h1,h2,_,h4⟩,hb=>((h4 b).1 hb).elim (λh=>A.lt h1 h) λh=>Has.lt h2 h
theorem Has.mod:∀{l:List HA} {w w':World} {F S:Nat->Prop},Has l w F->Mod S w w'->(∀b,F b->¬S b)->Has l w' F
 |[],_,_,_,_,h,_,_=>h
 |A::l,_,_,_,_,⟨G,H,h1,h2,h3,h4⟩,hm,hs=>
  ⟨G,H,A.mod h1 hm λb hb=>hs b ((h4 b).2 (.inl hb)),Has.mod h2 hm λb hb=>hs b ((h4 b).2 (.inr hb)),h3,h4⟩
theorem Has.append:∀{l m:List HA} {w:World} {F:Nat->Prop},Has (l++m) w F↔∃G H,Has l w G/\Has m w H/\(∀b,G b->¬H b)/\∀b,F b↔G b\/H b
 |[],m,w,F=>by
  constructor
  ·intro h
   exact⟨λ_=>False,F,λ_ h=>h,h,λ_ h=>h.elim,λb=>by simp⟩
  ·rintro⟨G,H,h1,h2,_,h4⟩
   have:F=H:=fext λb=>by rw[h4 b];exact⟨λh=>h.elim (λh=>(h1 b h).elim) id,.inr⟩
   rw[this];exact h2
 |A::l,m,w,F=>by
  constructor
  ·rintro⟨G,H,h1,h2,h3,h4⟩
   obtain⟨G',H',h5,h6,h7,h8⟩:=Has.append.1 h2;refine⟨λb=>G b\/G' b,H',⟨G,G',h1,h5,λb hb hb'=>h3 b hb ((h8 b).2 (.inl hb')),λb=>Iff.rfl⟩,h6,?_,?_⟩
   ·rintro b (hb|hb) hb'
    ·exact h3 b hb ((h8 b).2 (.inr hb'))
    ·exact h7 b hb hb'
   ·intro b
    rw[h4 b,h8 b,or_assoc]
  ·rintro⟨G,H,⟨G1,G2,h1,h2,h3,h4⟩,h5,h6,h7⟩
   refine⟨G1,λb=>G2 b\/H b,h1,Has.append.2 ⟨G2,H,h2,h5,λb hb=>h6 b ((h4 b).2 (.inr hb)),λb=>Iff.rfl⟩,?_,?_⟩
   ·rintro b hb (hb'|hb')
    ·exact h3 b hb hb'
    ·exact h6 b ((h4 b).2 (.inl hb)) hb'
   ·intro b
    rw[h7 b,h4 b,or_assoc]
theorem Has.perm{l m:List HA}(h:l.Perm m):∀{w:World} {F:Nat->Prop},Has l w F->Has m w F:=by
 induction h with
 |nil=>exact λh=>h
 |cons A _ ih=>rintro w F ⟨G,H,h1,h2,h3,h4⟩;exact⟨G,H,h1,ih h2,h3,h4⟩
 |swap A B l=>
  rintro w F ⟨G,H,h1,⟨G',H',h5,h6,h7,h8⟩,h3,h4⟩;refine⟨G',λb=>G b\/H' b,h5,⟨G,H',h1,h6,λb hb hb'=>h3 b hb ((h8 b).2 (.inr hb')),λb=>Iff.rfl⟩,?_,?_⟩
  ·rintro b hb (hb'|hb')
   ·exact h3 b hb' ((h8 b).2 (.inl hb))
   ·exact h7 b hb hb'
  ·intro b
   rw[h4 b,h8 b];constructor
   ·rintro(h|h|h)
    ·exact .inr (.inl h)
    ·exact .inl h
    ·exact .inr (.inr h)
   ·rintro(h|h|h)
    ·exact .inr (.inl h)
    ·exact .inl h
    ·exact .inr (.inr h)
 |trans _ _ ih1 ih2=>exact λh=>ih2 (ih1 h)
def bring:Nat->List HA->List HA
 |_,[]=>[]
 |0,A::l=>A::l
 |n+1,A::l=>
  match bring n l with
  |[]=>[A]
  |B::m=>B::A::m
theorem bring_perm:∀(n:Nat) (l:List HA),l.Perm (bring n l)
 |0,[]=>.refl _
 |_+1,[]=>.refl _
 |0,A::l=>.refl _
 |n+1,A::l=>by
  have h:=bring_perm n l;unfold bring;split
  ·rename_i h2
   rw[h2]at h;rw[h.eq_nil]
  ·rename_i B m h2
   rw[h2]at h;exact(h.cons A).trans (.swap B A m)
def St(F0:Nat->Prop)(w0 w:World)(l:List HA):Prop:=Mod F0 w0 w/\∃F,Has l w F/\∀b,F b->F0 b\/w0.heap.size<=b
abbrev noF:Nat->Prop:=λ_=>False
section
variable{F0:Nat->Prop}{w0 w w':World}{l m:List HA}{A B:HA}
theorem St.init{F:Nat->Prop}(h:Has l w F):St F w w l:=⟨Mod.refl _ _,F,h,λ_ h=>.inl h⟩
theorem St.init0(w:World):St noF w w []:=⟨Mod.refl _ _,noF,λ_ h=>h,λ_ h=>h.elim⟩
theorem St.gro(h:St noF w0 w l):Grow w0 w:=h.1
theorem St.perm(h:St F0 w0 w l)(hp:l.Perm m):St F0 w0 w m:=let⟨h1,F,h2,h3⟩:=h;⟨h1,F,h2.perm hp,h3⟩
theorem St.bring(n:Nat)(h:St F0 w0 w l):St F0 w0 w (Eng.bring n l):=h.perm (bring_perm n l)
theorem St.drop(h:St F0 w0 w (A::l)):St F0 w0 w l:=by
 obtain⟨h1,F,⟨G,H,_,h5,_,h7⟩,h3⟩:=h;exact⟨h1,H,h5,λb hb=>h3 b ((h7 b).2 (.inr hb))⟩
theorem St.dropL(h:St F0 w0 w (l++m)):St F0 w0 w m:=by
 obtain⟨h1,F,h2,h3⟩:=h;obtain⟨G,H,_,h5,_,h7⟩:=Has.append.1 h2;exact⟨h1,H,h5,λb hb=>h3 b ((h7 b).2 (.inr hb))⟩
theorem St.dropR(h:St F0 w0 w (l++m)):St F0 w0 w l:=by
 obtain⟨h1,F,h2,h3⟩:=h;obtain⟨G,H,h4,_,_,h7⟩:=Has.append.1 h2;exact⟨h1,G,h4,λb hb=>h3 b ((h7 b).2 (.inl hb))⟩
theorem St.call(As:List HA)(h:St F0 w0 w (As++l)):∃F H,Has As w F/\Has l w H/\(∀b,F b->¬H b)/\(∀b,F b->F0 b\/w0.heap.size<=b)/\∀w' l',St F w w' l'->St F0 w0 w' (l'++l):=by
 obtain⟨h1,F,h2,h3⟩:=h;obtain⟨G,H,h4,h5,h6,h7⟩:=Has.append.1 h2;refine⟨G,H,h4,h5,h6,λb hb=>h3 b ((h7 b).2 (.inl hb)),?_⟩;rintro w' l' ⟨k1,F',k2,k3⟩;have hsz:=h1.size;refine⟨h1.trans k1 ?_,λb=>F' b\/H b,Has.append.2 ⟨F',H,k2,h5.mod k1 λb hb hg=>h6 b hg hb,?_,λb=>Iff.rfl⟩,?_⟩
 ·intro b hb hg
  rcases h3 b ((h7 b).2 (.inl hg))with h|h
  ·exact h
  ·omega
 ·intro b hb hb'
  rcases k3 b hb with h|h
  ·exact h6 b h hb'
  ·have:=h5.lt hb';omega
 ·rintro b (hb|hb)
  ·rcases k3 b hb with h|h
   ·exact h3 b ((h7 b).2 (.inl h))
   ·exact .inr (Nat.le_trans hsz h)
  ·exact h3 b ((h7 b).2 (.inr hb))
theorem St.call1(h:St F0 w0 w (A::l)):∃F H,A.is w F/\Has [A] w F/\Has l w H/\(∀b,F b->¬H b)/\(∀b,F b->F0 b\/w0.heap.size<=b)/\∀w' l',St F w w' l'->St F0 w0 w' (l'++l):=by
 obtain⟨F,H,h1,h2,h3,h4,h5⟩:=St.call [A] h;have h1':=h1;obtain⟨G,K,k1,k2,_,k4⟩:=h1';have:F=G:=fext λb=>by rw[k4 b];exact⟨λh=>h.elim id λh=>(k2 b h).elim,.inl⟩
 subst this;exact⟨F,H,k1,h1,h2,h3,h4,h5⟩
theorem Has.one{F:Nat->Prop}(h:Has [A] w F):A.is w F:=by
 obtain⟨G,K,k1,k2,_,k4⟩:=h;have:F=G:=fext λb=>by rw[k4 b];exact⟨λh=>h.elim id λh=>(k2 b h).elim,.inl⟩
 subst this;exact k1
theorem Has.mk1{F:Nat->Prop}(h:A.is w F):Has [A] w F:=⟨F,noF,h,λ_ h=>h,λ_ _ h=>h,λb=>by simp⟩
theorem St.call0(h:St F0 w0 w l)(k:St noF w w' m):St F0 w0 w' (m++l):=by
 obtain⟨F,H,h1,h2,h3,h4,h5⟩:=St.call [] (l:=l) h;have:F=noF:=fext λb=>⟨λhb=>h1 b hb,λh=>h.elim⟩;subst this;exact h5 w' m k
theorem St.grow(h:St F0 w0 w l)(k:Grow w w'):St F0 w0 w' l:=St.call0 (m:=[]) h ⟨k,noF,λ_ h=>h,λ_ h=>h.elim⟩
theorem St.drew(h:St F0 w0 w l):St F0 w0 w.drew l:=h.grow (Mod.refl _ w).drew
theorem St.upd(h:St F0 w0 w (A::l)):∃G H,A.is w G/\Has l w H/\(∀b,G b->¬H b)/\(∀b,G b->F0 b\/w0.heap.size<=b)/\∀w' (B:HA) G',B.is w' G'->Mod G w w'->(∀b,G' b->G b\/w.heap.size<=b)->St F0 w0 w' (B::l):=by
 obtain⟨F,H,h1,_,h2,h3,h4,h5⟩:=St.call1 h;exact⟨F,H,h1,h2,h3,h4,λw' B G' k1 k2 k3=>h5 w' [B] ⟨k2,G',Has.mk1 k1,k3⟩⟩
theorem St.conv(h:St F0 w0 w (A::l))(hk:∀F,A.is w F->Has m w F):St F0 w0 w (m++l):=by
 obtain⟨F,H,h1,_,h2,h3,h4,h5⟩:=St.call1 h;exact h5 w m ⟨Mod.refl _ _,F,hk F h1,λ_ h=>.inl h⟩
theorem St.conv1(As:List HA)(h:St F0 w0 w (As++l))(hk:∀F,Has As w F->B.is w F):St F0 w0 w (B::l):=by
 obtain⟨F,H,h1,h2,h3,h4,h5⟩:=St.call As h;exact h5 w [B] ⟨Mod.refl _ _,F,Has.mk1 (hk F h1),λ_ h=>.inl h⟩
end
def BoxA(b:Nat)(vs:List Value):HA where
 is w F:=Box w b vs/\∀c,F c↔c=b
 lt:=λh hb=>by rw[(h.2 _).1 hb];exact h.1.lt
 mod:=λh hm hs=>⟨h.1.mod hm (hs _ ((h.2 _).2 rfl)),h.2⟩
def ObjA(b:Nat)(o:Obj):HA where
 is w F:=w.heap[b]? =some o/\∀c,F c↔c=b
 lt:=λ{w F c} h hb=>by
  rw[(h.2 _).1 hb];rcases Nat.lt_or_ge b w.heap.size with h'|h'
  ·exact h'
  ·have:=h.1;rw[Array.getElem?_eq_none h']at this;cases this
 mod:=λ{w w' F S} h hm hs=>by
  have hlt:b<w.heap.size:=by
   rcases Nat.lt_or_ge b w.heap.size with h'|h'
   ·exact h'
   ·have:=h.1;rw[Array.getElem?_eq_none h']at this;cases this
  exact⟨(hm.same b hlt (hs _ ((h.2 _).2 rfl))).trans h.1,h.2⟩
def SlA(n:Nat)(s:Sl)(vs:List Value):HA where
 is w F:=OwnS w 0 n s vs/\∀c,F c↔s.blk c
 lt:=λh hb=>by
  obtain⟨ad,h1,rfl⟩:=(h.2 _).1 hb;exact(h.1.le_block h1).2.1
 mod:=λh hm hs=>⟨h.1.mod hm λad ha hS=>hs _ ((h.2 _).2 ⟨ad,ha,rfl⟩) hS,h.2⟩
def exA{ι:Type}(f:ι->List HA):HA where
 is w F:=∃i,Has (f i) w F
 lt:=λ⟨_,h⟩ hb=>h.lt hb
 mod:=λ⟨i,h⟩ hm hs=>⟨i,h.mod hm hs⟩
def bigA(xs:List HA):HA where
 is w F:=Has xs w F
 lt:=λh hb=>Has.lt h hb
 mod:=λh hm hs=>Has.mod h hm hs
def pA(p:Prop):HA where
 is _ F:=p/\∀b,¬F b
 lt:=λh hb=>(h.2 _ hb).elim
 mod:=λh _ _=>h
section
variable{F0:Nat->Prop}{w0 w w':World}{l:List HA}
theorem St.ex{ι:Type}{f:ι->List HA}(h:St F0 w0 w (exA f::l)):∃i,St F0 w0 w (f i++l):=by
 obtain⟨F,H,⟨i,h1⟩,_,h2,h3,h4,h5⟩:=St.call1 h;exact⟨i,h5 w (f i) ⟨Mod.refl _ _,F,h1,λ_ h=>.inl h⟩⟩
theorem St.mkex{ι:Type}{f:ι->List HA}(i:ι)(h:St F0 w0 w (f i++l)):St F0 w0 w (exA f::l):=h.conv1 (f i) λ_ h=>⟨i,h⟩
theorem St.big{xs:List HA}(h:St F0 w0 w (bigA xs::l)):St F0 w0 w (xs++l):=h.conv λ_ h=>h
theorem St.mkbig{xs:List HA}(h:St F0 w0 w (xs++l)):St F0 w0 w (bigA xs::l):=h.conv1 xs λ_ h=>h
theorem St.p{p:Prop}(h:St F0 w0 w (pA p::l)):p/\St F0 w0 w l:=⟨by obtain⟨F,H,h1,_⟩:=St.call1 h;exact h1.1,h.drop⟩
theorem St.mkp{p:Prop}(h:St F0 w0 w l)(hp:p):St F0 w0 w (pA p::l):=St.conv1 [] h λ_ h=>⟨hp,h⟩
theorem split_at{α:Type}{xs:List α}{i:Nat}{x:α}(h:xs[i]? =some x):xs=xs.take i++x::xs.drop (i+1)/\i<xs.length:=by
 have hi:i<xs.length:=by
  rcases Nat.lt_or_ge i xs.length with h'|h'
  ·exact h'
  ·rw[List.getElem?_eq_none h']at h;cases h
 refine⟨?_,hi⟩;rw[List.getElem?_eq_getElem hi,Option.some.injEq]at h;rw[<-h,<-List.drop_eq_getElem_cons hi,List.take_append_drop]
theorem St.pick{xs:List HA}{i:Nat}{A:HA}(h:St F0 w0 w (bigA xs::l))(hi:xs[i]? =some A):St F0 w0 w (A::bigA (xs.eraseIdx i)::l):=by
 have h1:=split_at hi;have h2:=h.big;have hp:(xs++l).Perm (A::(xs.eraseIdx i++l)):=by
  rw[List.eraseIdx_eq_take_drop_succ]
  conv=>lhs;rw[h1.1]
  simp only[List.append_assoc,List.cons_append];exact List.perm_middle
 have h3:St F0 w0 w (xs.eraseIdx i++(l++[A])):=by
  rw[<-List.append_assoc];exact(h2.perm hp).perm (List.perm_append_comm (l₁:=[A]) (l₂:=xs.eraseIdx i++l))
 have h4:=St.mkbig h3;exact h4.perm (((List.perm_append_comm (l₁:=l) (l₂:=[A])).cons _).trans (.swap _ _ _))
theorem St.unpick{xs:List HA}{i:Nat}{A:HA}(h:St F0 w0 w (A::bigA (xs.eraseIdx i)::l))(hi:i<xs.length):St F0 w0 w (bigA (xs.set i A)::l):=by
 have h1:=h.perm (.swap _ _ _);have h2:=h1.big;refine St.mkbig (h2.perm ?_);rw[List.eraseIdx_eq_take_drop_succ,List.set_eq_take_append_cons_drop,if_pos hi];simp only[List.append_assoc,List.cons_append];refine(List.perm_append_left_iff _).2 ?_;exact List.perm_middle
theorem St.push{xs:List HA}{A:HA}(h:St F0 w0 w (A::bigA xs::l)):St F0 w0 w (bigA (xs++[A])::l):=by
 have h1:=(h.perm (.swap _ _ _)).big;refine St.mkbig (h1.perm ?_);rw[List.append_assoc];exact .refl _
theorem St.nobig(h:St F0 w0 w l):St F0 w0 w (bigA []::l):=St.mkbig (xs:=[]) h
theorem St.box{b:Nat}{vs:List Value}(h:St F0 w0 w (BoxA b vs::l)):Box w b vs:=by
 obtain⟨F,H,h1,_⟩:=St.call1 h;exact h1.1
theorem St.mkbox{b:Nat}{vs:List Value}(h:St F0 w0 w l)(hg:Grow w w')(hb:Box w' b vs)(hn:w.heap.size<=b):St F0 w0 w' (BoxA b vs::l):=
 St.call0 (m:=[BoxA b vs]) h ⟨hg,(·=b),Has.mk1 ⟨hb,λ_=>Iff.rfl⟩,λc hc=>.inr (by rw[hc];exact hn)⟩
theorem St.nw{cs:Array Value}{T:TypeId}{f:Nat->Pr}(h:St F0 w0 w l)(hk:∀b w2,St F0 w0 w2 (BoxA b cs.toList::l)->Grow w w2->b=w.heap.size->f b w2):nw (.cells cs T) f w:=
 nw_of λb w2 g e _ bx=>hk b w2 (h.mkbox g bx (by omega)) g e
theorem St.ld{b:Nat}{vs:List Value}(h:St F0 w0 w (BoxA b vs::l)){s:CS}{p:PayC s}{k:PayC s->Pr}{i:Nat}(hi:vs[i]? =some (valC s p))(hk:k p w):ldC s (Addr.add ⟨b,0,none⟩ i) k w:=h.box.ld hi hk
theorem St.ld0{b:Nat}{v:Value}{vs:List Value}(h:St F0 w0 w (BoxA b (v::vs)::l)){s:CS}{p:PayC s}{k:PayC s->Pr}(hi:v=valC s p)(hk:k p w):ldC s ⟨b,0,none⟩ k w:=by
 have:=h.box.ld (i:=0) (s:=s) (p:=p) (k:=k) (by rw[hi];rfl) hk;rwa[add_zero']at this
theorem St.st{b:Nat}{vs:List Value}(h:St F0 w0 w (BoxA b vs::l)){i:Nat}{v:Value}{k:Pr}(hi:i<vs.length)(hv:NotAgg v)(hk:∀w',St F0 w0 w' (BoxA b (vs.set i v)::l)->k w'):Eng.st (Addr.add ⟨b,0,none⟩ i) v k w:=by
 obtain⟨G,H,⟨h1,h2⟩,h3,h4,h5,h6⟩:=St.upd h;refine h1.st hi hv λw' k1 k2 k3=>hk w' ?_;refine h6 w' (BoxA b (vs.set i v)) G ⟨k1,h2⟩ (k2.mono λc _ hc=>(h2 c).2 hc) λ_ h=>.inl h
theorem St.st0{b:Nat}{u:Value}{vs:List Value}(h:St F0 w0 w (BoxA b (u::vs)::l)){v:Value}{k:Pr}(hv:NotAgg v)(hk:∀w',St F0 w0 w' (BoxA b (v::vs)::l)->k w'):Eng.st ⟨b,0,none⟩ v k w:=by
 have:=h.st (i:=0) (v:=v) (k:=k) (by simp) hv λw' h'=>hk w' h';rwa[add_zero']at this
theorem St.obj{b:Nat}{o:Obj}(h:St F0 w0 w (ObjA b o::l)):w.heap[b]? =some o:=by
 obtain⟨F,H,h1,_⟩:=St.call1 h;exact h1.1
theorem St.mkobj(h:St F0 w0 w l)(o:Obj):St F0 w0 (w.alloc o) (ObjA w.heap.size o::l):=
 St.call0 (m:=[ObjA w.heap.size o]) h ⟨(Mod.refl _ w).alloc o,(·=w.heap.size),Has.mk1 ⟨heap_alloc_new w o,λ_=>Iff.rfl⟩,λc hc=>.inr (by rw[hc];exact Nat.le_refl _)⟩
theorem St.putObj{b:Nat}{o:Obj}(h:St F0 w0 w (ObjA b o::l))(o':Obj):St F0 w0 (w.putObj b o') (ObjA b o'::l):=by
 obtain⟨G,H,⟨h1,h2⟩,h3,h4,h5,h6⟩:=St.upd h;have hlt:b<w.heap.size:=by
  rcases Nat.lt_or_ge b w.heap.size with h'|h'
  ·exact h'
  ·rw[Array.getElem?_eq_none h']at h1;cases h1
 exact h6 _ (ObjA b o') G ⟨World.putObj_heap_same hlt,h2⟩ ((Mod.refl _ w).putObj (.inl ((h2 b).2 rfl))) λ_ h=>.inl h
theorem OwnS.to0{n0 n:Nat}{s:Sl}{vs:List Value}(h:OwnS w n0 n s vs):OwnS w 0 n s vs:=h.weaken (Nat.zero_le _)
theorem St.sl{n:Nat}{s:Sl}{vs:List Value}(h:St F0 w0 w (SlA n s vs::l)):OwnS w 0 n s vs:=by
 obtain⟨F,H,h1,_⟩:=St.call1 h;exact h1.1
theorem St.mksl{n:Nat}{s:Sl}{vs:List Value}(h:St F0 w0 w l)(hg:Grow w w')(ho:OwnS w' w.heap.size n s vs):St F0 w0 w' (SlA n s vs::l):=
 St.call0 (m:=[SlA n s vs]) h ⟨hg,s.blk,Has.mk1 ⟨ho.to0,λ_=>Iff.rfl⟩,λc hc=>.inr (by obtain⟨ad,h1,rfl⟩:=hc;exact(ho.le_block h1).1)⟩
theorem St.nosl(h:St F0 w0 w l)(n:Nat):St F0 w0 w (SlA n ⟨none,0,0⟩ []::l):=h.mksl (Mod.refl _ _) (OwnS.nil _ _ _)
theorem St.slm{n:Nat}{s r:Sl}{vs us:List Value}(h:St F0 w0 w (SlA n s vs::l))(hm:Mod s.blk w w')(ho:OwnS w' 0 n r us)(hb:∀b,r.blk b->s.blk b\/w.heap.size<=b):St F0 w0 w' (SlA n r us::l):=by
 obtain⟨G,H,⟨h1,h2⟩,h3,h4,h5,h6⟩:=St.upd h;exact h6 _ (SlA n r us) r.blk ⟨ho,λ_=>Iff.rfl⟩ (hm.mono λc _ hc=>(h2 c).2 hc) λb hb'=>(hb b hb').imp (λh=>(h2 b).2 h) id
theorem St.app{E n b:Nat}{s x:Sl}{z:List Value}{vs new:List Value}{k:Sl->Pr}(h:St F0 w0 w (SlA n s vs::l))(hxl:x.a.isSome=true->new.length=x.len*n)(hx0:x.a=none->x.len=0)(hx:readsO w x.a new)
 (hna:∀v∈new,NotAgg v)(hz:z.length=n)(hb:b≠0)(hbd:(2*(s.len+x.len)+192)*b<=2^48)
 (hk:∀r w',St F0 w0 w' (SlA n r (vs++new)::l)->r.len=s.len+x.len->k r w'):app E n b z s x k w:=
 app_own2 h.sl (Nat.zero_le _) hxl hx0 hx hna hz hb hbd λr w' h1 h2 _ _ h5 h6=>hk r w' (h.slm h5 h1 h6) h2
theorem St.put{n:Nat}{s:Sl}{vs:List Value}{i:Nat}{v:Value}{k:Pr}(h:St F0 w0 w (SlA n s vs::l))(hi:i<vs.length)(hv:NotAgg v)
 (hk:∀w',St F0 w0 w' (SlA n s (vs.set i v)::l)->k w'):∃ad,s.a=some ad/\Eng.st (ad.add i) v k w:=
 h.sl.put hi hv λw' h1 h2 _=>hk w' (h.slm h2 h1 λ_ h=>.inl h)
theorem St.get{n:Nat}{s:Sl}{vs:List Value}{i:Nat}{c:CS}{p:PayC c}{k:PayC c->Pr}(h:St F0 w0 w (SlA n s vs::l))(hi:vs[i]? =some (valC c p))(hk:k p w):∃ad,s.a=some ad/\ldC c (ad.add i) k w:=by
 have h1:=h.sl;rcases h1.row with⟨_,h2,_⟩|⟨b,off,spare,h2,_,_,_,h5,_⟩
 ·have:=h1.len;rw[h2]at this;simp at this;subst this;simp at hi
 ·refine⟨_,h2,ldC_of (h5 i _ ?_) hk⟩
  rw[List.getElem?_append_left (split_at hi).2];exact hi
end
structure Rd(w:World)(F:Nat->Prop)(s:Sl)(l:List UInt8):Prop where
 bs:BS w s l
 no:∀b,l≠[]->s.blk b->¬F b
section
variable{F0 F:Nat->Prop}{w0 w:World}{L:List HA}{s:Sl}{l:List UInt8}
theorem Rd.at(h:Rd w0 F0 s l)(hs:St F0 w0 w L):BS w s l:=h.bs.mod hs.1 λad ha hl hF=>h.no _ hl ⟨ad,ha,rfl⟩ hF
theorem Rd.lt(h:Rd w F s l){b:Nat}(hl:l≠[])(hb:s.blk b):b<w.heap.size:=by
 obtain⟨ad,ha,rfl⟩:=hb;have h1:=h.bs.row;rw[ha]at h1;exact readsO.lt h1 (by simpa using hl)
theorem Rd.go(h:Rd w0 F0 s l)(hs:St F0 w0 w L)(hF:∀b,F b->F0 b\/w0.heap.size<=b):Rd w F s l:=⟨h.at hs,λb hl hb hFb=>by
 rcases hF b hFb with h1|h1
 ·exact h.no b hl hb h1
 ·have:=h.lt hl hb;omega⟩
theorem Rd.noF(h:BS w s l):Rd w noF s l:=⟨h,λ_ _ _ h=>h⟩
theorem Rd.own{H:Nat->Prop}(h:Has (SlA 1 s (l.map ub)::L) w H)(hd:∀b,F b->¬H b):Rd w F s l:=by
 obtain⟨G,H',⟨h1,h2⟩,h3,h4,h5⟩:=h;exact⟨h1.bs,λb _ hb hF=>hd b hF ((h5 b).2 (.inl ((h2 b).2 hb)))⟩
end
section
variable{w0 w:World}{L:List HA}
theorem St.own{n:Nat}{s:Sl}{vs:List Value}(h:St noF w0 w (SlA n s vs::L)):OwnS w w0.heap.size n s vs:=by
 obtain⟨G,H,⟨h1,h2⟩,_,_,h5,_⟩:=h.upd;refine⟨h1.len,h1.le,?_⟩;rcases h1.row with h|⟨b,off,spare,k1,_,k3⟩
 ·exact .inl h
 ·refine .inr ⟨b,off,spare,k1,?_,k3⟩
  rcases h5 b ((h2 b).2 ⟨_,k1,rfl⟩)with h|h
  ·exact h.elim
  ·exact h
theorem takes_of{F0:Nat->Prop}{D:Nat}{k:Pr}(h:St F0 w0 w (ObjA D (.deferred (some []))::L))(hk:∀w',St F0 w0 w' (ObjA D (.deferred none)::L)->k w'):takes [D] k w:=
 ⟨h.obj,hk _ (h.putObj _)⟩
theorem Box.cell0{b:Nat}{v:Value}{vs:List Value}(h:Box w b (v::vs)):w.cell? ⟨b,0,none⟩=some v:=by
 have:=h.row.get (j:=0) (v:=v) rfl;rwa[add_zero']at this
end
theorem St.del{F0:Nat->Prop}{w0 w:World}:∀(n:Nat) {l:List HA},St F0 w0 w l->St F0 w0 w (l.eraseIdx n):=by
 intro n l h;rw[List.eraseIdx_eq_take_drop_succ];rcases Nat.lt_or_ge n l.length with hn|hn
 ·have h1:St F0 w0 w (l.take n++l[n]::l.drop (n+1)):=by rw[<-List.drop_eq_getElem_cons hn,List.take_append_drop];exact h
  exact(h1.perm List.perm_middle).drop
 ·rw[List.take_of_length_le hn,List.drop_eq_nil_of_le (by omega),List.append_nil];exact h
theorem OwnS.get{w:World}{n0 n:Nat}{s:Sl}{vs:List Value}{i:Nat}{c:CS}{p:PayC c}{k:PayC c->Pr}(h1:OwnS w n0 n s vs)(hi:vs[i]? =some (valC c p))(hk:k p w):∃ad,s.a=some ad/\ldC c (ad.add i) k w:=by
 rcases h1.row with⟨_,h2,_⟩|⟨b,off,spare,h2,_,_,_,h5,_⟩
 ·have:=h1.len;rw[h2]at this;simp at this;subst this;simp at hi
 ·refine⟨_,h2,ldC_of (h5 i _ ?_) hk⟩
  rw[List.getElem?_append_left (split_at hi).2];exact hi
theorem at_own{w:World}{n0:Nat}{s:Sl}{vs:List Value}{i:Nat}{c:CS}{p:PayC c}{k:PayC c->Pr}(h1:OwnS w n0 1 s vs)(hi:vs[i]? =some (valC c p))(hk:k p w):(deref s.a λa=>ldC c (a.add (i*1)) k) w:=by
 obtain⟨ad,ha,hld⟩:=h1.get hi hk;rw[ha,deref_some',Nat.mul_one];exact hld
def nthA:List HA->Nat->Option HA
 |[],_=>none
 |A::_,0=>some A
 |_::l,n+1=>nthA l n
def selA(l:List HA):List Nat->List HA
 |[]=>[]
 |i::ix=>
  match nthA l i with
  |some A=>A::selA l ix
  |none=>selA l ix
theorem Has.fn:∀{l:List HA} {w:World} {F:Nat->Prop},Has l w F->∃f:Nat->Nat->Prop,(∀i A,nthA l i=some A->A.is w (f i))/\(∀i j b,i≠j->f i b->¬f j b)/\∀i b,f i b->F b
 |[],_,_,_=>⟨λ_ _=>False,λ_ _ h=>by simp[nthA]at h,λ_ _ _ _ h=>h.elim,λ_ _ h=>h.elim⟩
 |A::l,w,F,⟨G,H,h1,h2,h3,h4⟩=>by
  obtain⟨f,f1,f2,f3⟩:=Has.fn h2;refine⟨λi=>match i with|0=>G|i+1=>f i,?_,?_,?_⟩
  ·intro i B hB
   cases i with
   |zero=>simp only[nthA,Option.some.injEq]at hB;subst hB;exact h1
   |succ i=>exact f1 i B hB
  ·intro i j b hij hi hj
   cases i with
   |zero=>
    cases j with
    |zero=>exact hij rfl
    |succ j=>exact h3 b hi (f3 j b hj)
   |succ i=>
    cases j with
    |zero=>exact h3 b hj (f3 i b hi)
    |succ j=>exact f2 i j b (by omega) hi hj
  ·intro i b hb
   cases i with
   |zero=>exact(h4 b).2 (.inl hb)
   |succ i=>exact(h4 b).2 (.inr (f3 i b hb))
theorem Has.selA{l:List HA}{w:World}{f:Nat->Nat->Prop}(f1:∀i A,nthA l i=some A->A.is w (f i))(f2:∀i j b,i≠j->f i b->¬f j b):
 ∀{ix:List Nat},ix.Nodup->Has (Eng.selA l ix) w λb=>∃i∈ix,(nthA l i).isSome=true/\f i b
 |[],_=>λb ⟨i,h,_⟩=>by cases h
 |i::ix,hn=>by
  rw[List.nodup_cons]at hn;have ih:=Has.selA f1 f2 (ix:=ix) hn.2;unfold Eng.selA;split
  ·rename_i A hA
   refine⟨f i,_,f1 i A hA,ih,?_,?_⟩
   ·rintro b hb ⟨j,hj,_,hjb⟩
    exact f2 i j b (λh=>hn.1 (h▸hj)) hb hjb
   ·intro b
    constructor
    ·rintro⟨j,hj,h1,h2⟩
     rcases List.mem_cons.1 hj with rfl|hj
     ·exact .inl h2
     ·exact .inr ⟨j,hj,h1,h2⟩
    ·rintro(h|⟨j,hj,h1,h2⟩)
     ·exact⟨i,by simp,by rw[hA];rfl,h⟩
     ·exact⟨j,by simp[hj],h1,h2⟩
  ·rename_i hA
   have:(λb=>∃j∈i::ix,(nthA l j).isSome=true/\f j b)=λb=>∃j∈ix,(nthA l j).isSome=true/\f j b:=fext λb=>by
    constructor
    ·rintro⟨j,hj,h1,h2⟩
     rcases List.mem_cons.1 hj with rfl|hj
     ·rw[hA]at h1;cases h1
     ·exact⟨j,hj,h1,h2⟩
    ·rintro⟨j,hj,h1,h2⟩
     exact⟨j,by simp[hj],h1,h2⟩
   rw[this];exact ih
theorem St.sel{F0:Nat->Prop}{w0 w:World}{l:List HA}(ix:List Nat)(n:Nat)(h:St F0 w0 w l)(hn:ix.Nodup:=by decide):St F0 w0 w (selA (l.take n) ix++l.drop n):=by
 obtain⟨h1,F,h2,h3⟩:=h;rw[<-List.take_append_drop n l]at h2;obtain⟨G,H,h4,h5,h6,h7⟩:=Has.append.1 h2;obtain⟨f,f1,f2,f3⟩:=h4.fn;refine⟨h1,_,Has.append.2 ⟨_,H,Has.selA f1 f2 hn,h5,?_,λb=>Iff.rfl⟩,?_⟩
 ·rintro b ⟨i,_,_,hb⟩ hb'
  exact h6 b (f3 i b hb) hb'
 ·rintro b (⟨i,_,_,hb⟩|hb)
  ·exact h3 b ((h7 b).2 (.inl (f3 i b hb)))
  ·exact h3 b ((h7 b).2 (.inr hb))
theorem zc_one(v:Value)(n:Nat):zc [v] n=List.replicate n v:=by
 unfold zc
 induction n with
 |zero=>rfl
 |succ n ih=>rw[List.replicate_succ,List.flatten_cons,ih,List.replicate_succ];rfl
theorem St.mkS{F0:Nat->Prop}{w0 w:World}{l:List HA}{E b k:Nat}{z:List Value}{n:Nat}{f:Sl->Pr}(h:St F0 w0 w l)(hz:z.length=k)(hb:b*n<=2^48)(hn:n<=2^48)
 (hk:∀r w',St F0 w0 w' (SlA k r (zc z n)::l)->r.len=n->f r w'):Eng.mkS E b z (n:Int) (n:Int) f w:=by
 refine⟨by omega,by omega,by exact_mod_cast hb,by omega,?_⟩;simp only[Int.toNat_natCast];refine hk _ _ (h.mksl ((Mod.refl _ w).alloc _) ⟨by rw[zc_length,hz],by simp,.inr ⟨w.heap.size,0,[],rfl,Nat.le_refl _,by simp,λo _ _=>World.frozen?_alloc_new w _ _ o,?_,by rw[List.append_nil,zc_length,hz]⟩⟩) rfl;intro j v hj;rw[add_mk,Nat.zero_add,World.cell?_alloc_new];simpa using hj
theorem put_own{F0:Nat->Prop}{w0 w:World}{l:List HA}{s:Sl}{vs:List Value}{i:Nat}{v:Value}{k:Pr}(h:St F0 w0 w (SlA 1 s vs::l))(hi:i<vs.length)(hv:NotAgg v)
 (hk:∀w',St F0 w0 w' (SlA 1 s (vs.set i v)::l)->k w'):(deref s.a λa=>Eng.st (a.add (i*1)) v k) w:=by
 obtain⟨ad,ha,hst⟩:=h.put hi hv hk;rw[ha,deref_some',Nat.mul_one];exact hst
theorem St.mkSi{F0:Nat->Prop}{w0 w:World}{l:List HA}{E b k:Nat}{z:List Value}{N:Int}{f:Sl->Pr}(n:Nat)(h:St F0 w0 w l)(hN:N=(n:Int))(hz:z.length=k)(hb:b*n<=2^48)(hn:n<=2^48)
 (hk:∀r w',St F0 w0 w' (SlA k r (zc z n)::l)->r.len=n->f r w'):Eng.mkS E b z N N f w:=by
 subst hN;exact h.mkS hz hb hn hk
structure KT(K:Type)[DecidableEq K]where
 kd:TypeDesc
 enc:K->Value
 same:∀a b,Instr.sameNow kd (enc a) (enc b)=some (decide (a=b))
 bits:∀a,Instr.sameBits 10000 (enc a) (enc a)=true
def intKT:KT Int where
 kd:=.int .i64
 enc:=.int .i64
 same a b:=by
  simp only[Instr.sameNow,if_true,Option.some.injEq];rw[Bool.eq_iff_iff];simp
 bits a:=by simp[Instr.sameBits]
section
variable{K:Type}[DecidableEq K](T:KT K)
structure Ents(es:Array MapEntry)(clock:Nat)(kv:List (K×Value)):Prop where
 born:∀e∈es.toList,e.born<clock
 nod:(es.toList.map (·.born)).Nodup
 kvs:es.toList.map (λe=>(e.key,e.val))=kv.map λx=>(T.enc x.1,x.2)
def MapA(m:Nat)(kv:List (K×Value)):HA:=exA λi:Array MapEntry×Nat=>[pA (Ents T i.1 i.2 kv),ObjA m (.map i.1 i.2)]
def lkp(k:K):List (K×Value)->Option Value
 |[]=>none
 |x::l=>if k=x.1 then some x.2 else lkp k l
variable{T}
theorem find_kv(k:K):∀(es:List MapEntry) (kv:List (K×Value)) (i:Nat),es.map (λe=>(e.key,e.val))=kv.map (λx=>(T.enc x.1,x.2))->
 (k∉kv.map (·.1)/\lkp k kv=none/\Instr.findNow T.kd (T.enc k) es i=some none)\/
 ∃j v,kv[j]? =some (k,v)/\(∀l x,l<j->kv[l]? =some x->x.1≠k)/\lkp k kv=some v/\Instr.findNow T.kd (T.enc k) es i=some (some (i+j,v))
 |[],kv,i,h=>by
  have:kv=[]:=by
   have:=congrArg List.length h;simp at this;exact List.eq_nil_of_length_eq_zero this.symm
  subst this;exact .inl ⟨by simp,rfl,rfl⟩
 |e::es,[],i,h=>by simp at h
 |e::es,x::kv,i,h=>by
  simp only[List.map_cons,List.cons.injEq,Prod.mk.injEq]at h;unfold Instr.findNow;rw[h.1.1,T.same];by_cases hk:k=x.1
  ·subst hk
   refine .inr ⟨0,x.2,rfl,λl _ hl=>by omega,by simp[lkp],?_⟩;simp only[decide_true,Nat.add_zero];rw[h.1.2]
  ·rw[decide_eq_false hk]
   rcases find_kv k es kv (i+1) h.2 with⟨h1,h2,h3⟩|⟨j,v,h1,h2,h3,h4⟩
   ·exact .inl ⟨by simp[hk];simpa using h1,by simp[lkp,hk,h2],h3⟩
   ·refine .inr ⟨j+1,v,by simpa using h1,λl y hl hy=>?_,by simp[lkp,hk,h3],by dsimp only;rw[h4];congr 3;omega⟩
    cases l with
    |zero=>simp only[List.getElem?_cons_zero,Option.some.injEq]at hy;subst hy;exact λh=>hk h.symm
    |succ l=>exact h2 l y (by omega) (by simpa using hy)
variable{F0:Nat->Prop}{w0 w:World}{L:List HA}{m:Nat}{kv:List (K×Value)}
theorem St.mapOpen(h:St F0 w0 w (MapA T m kv::L)):∃es clock,Ents T es clock kv/\St F0 w0 w (ObjA m (.map es clock)::L):=by
 obtain⟨i,h⟩:=h.ex;obtain⟨h1,h⟩:=h.p;exact⟨i.1,i.2,h1,h⟩
theorem St.mapClose{es:Array MapEntry}{clock:Nat}(h:St F0 w0 w (ObjA m (.map es clock)::L))(he:Ents T es clock kv):St F0 w0 w (MapA T m kv::L):=
 St.mkex (es,clock) (h.mkp he)
theorem St.newMap{f:Nat->Pr}(h:St F0 w0 w L)(hk:∀m w',St F0 w0 w' (MapA T m []::L)->f m w'):Eng.nw (.map #[] 0) f w:=by
 rw[nw_def];exact hk _ _ ((h.mkobj (Obj.map #[] 0)).mapClose ⟨by simp,by simp,rfl⟩)
theorem mapAt_of{es:Array MapEntry}{clock:Nat}(he:Ents T es clock kv)(hm:w.heap[m]? =some (.map es clock)){k:K}{sh:CS}{zero:Value}{f:PayC sh->Bool->Pr}
 (h1:∀v,lkp k kv=some v->∃p,v=valC sh p/\f p true w)(h2:lkp k kv=none->∃p,zero=valC sh p/\f p false w):mapAt T.kd (some m) (T.enc k) sh zero f w:=by
 rcases find_kv k es.toList kv 0 he.kvs with⟨_,g2,g3⟩|⟨j,v,_,_,g3,g4⟩
 ·obtain⟨p,hp,hf⟩:=h2 g2
  exact⟨es,none,p,⟨clock,hm⟩,g3,hp,hf⟩
 ·obtain⟨p,hp,hf⟩:=h1 v g3
  exact⟨es,some (0+j,v),p,⟨clock,hm⟩,g4,hp,hf⟩
theorem St.mapAt(h:St F0 w0 w (MapA T m kv::L)){k:K}{sh:CS}{zero:Value}{f:PayC sh->Bool->Pr}
 (h1:∀v,lkp k kv=some v->∃p,v=valC sh p/\f p true w)(h2:lkp k kv=none->∃p,zero=valC sh p/\f p false w):Eng.mapAt T.kd (some m) (T.enc k) sh zero f w:=by
 obtain⟨es,clock,he,h⟩:=h.mapOpen;exact mapAt_of he h.obj h1 h2
theorem Ents.len{es:Array MapEntry}{clock:Nat}(he:Ents T es clock kv):es.size=kv.length:=by
 have:=congrArg List.length he.kvs;simpa using this
theorem St.mapLen(h:St F0 w0 w (MapA T m kv::L)){f:Int->Pr}(h1:f kv.length w):Eng.mapLen (some m) f w:=by
 obtain⟨es,clock,he,h⟩:=h.mapOpen;exact⟨es,⟨clock,h.obj⟩,by rw[he.len];exact h1⟩
theorem eraseIdx_map{α β:Type}(f:α->β)(l:List α)(j:Nat):(l.eraseIdx j).map f=(l.map f).eraseIdx j:=by
 rw[List.eraseIdx_eq_take_drop_succ,List.eraseIdx_eq_take_drop_succ,List.map_append,List.map_take,List.map_drop]
theorem St.mapDel(h:St F0 w0 w (MapA T m kv::L)){k:K}{f:Pr}(h1:∀j v w',kv[j]? =some (k,v)->(∀l x,l<j->kv[l]? =some x->x.1≠k)->St F0 w0 w' (MapA T m (kv.eraseIdx j)::L)->f w')
 (h2:k∉kv.map (·.1)->∀w',St F0 w0 w' (MapA T m kv::L)->f w'):Eng.mapDel T.kd (some m) (T.enc k) f w:=by
 obtain⟨es,clock,he,h⟩:=h.mapOpen;rcases find_kv k es.toList kv 0 he.kvs with⟨g1,_,g3⟩|⟨j,v,g1,g2,_,g4⟩
 ·exact⟨m,es,clock,none,rfl,h.obj,g3,h2 g1 _ ((h.putObj (.map es clock)).mapClose he)⟩
 ·refine⟨m,es,clock,some (0+j,v),rfl,h.obj,g4,h1 j v _ g1 g2 ((h.putObj (.map (es.eraseIdxIfInBounds (0+j)) clock)).mapClose ?_)⟩
  have hl:(es.eraseIdxIfInBounds (0+j)).toList=es.toList.eraseIdx j:=by rw[Nat.zero_add,Array.toList_eraseIdxIfInBounds]
  refine⟨λe he'=>?_,?_,?_⟩
  ·rw[hl]at he'
   exact he.born e (List.mem_of_mem_eraseIdx he')
  ·rw[hl,eraseIdx_map]
   exact he.nod.sublist (List.eraseIdx_sublist _ _)
  ·rw[hl,eraseIdx_map,he.kvs,eraseIdx_map]
theorem St.mapPut(h:St F0 w0 w (MapA T m kv::L)){k:K}{v:Value}{f:Pr}(h1:∀j u w',kv[j]? =some (k,u)->(∀l x,l<j->kv[l]? =some x->x.1≠k)->St F0 w0 w' (MapA T m (kv.set j (k,v))::L)->f w')
 (h2:k∉kv.map (·.1)->∀w',St F0 w0 w' (MapA T m (kv++[(k,v)])::L)->f w'):Eng.mapPut T.kd (some m) (T.enc k) v f w:=by
 obtain⟨es,clock,he,h⟩:=h.mapOpen;rcases find_kv k es.toList kv 0 he.kvs with⟨g1,_,g3⟩|⟨j,u,g1,g2,_,g4⟩
 ·refine⟨m,es,clock,none,rfl,h.obj,g3,h2 g1 _ ((h.putObj (.map (es.push {key:=T.enc k,val:=v,born:=clock}) (clock+1))).mapClose ⟨?_,?_,?_⟩)⟩
  ·intro e he'
   rw[Array.toList_push]at he';rcases List.mem_append.1 he' with h'|h'
   ·have:=he.born e h';omega
   ·rw[List.mem_singleton]at h';subst h';exact Nat.lt_succ_self _
  ·rw[Array.toList_push,List.map_append,List.nodup_append]
   refine⟨he.nod,by simp,λa ha b hb=>?_⟩;obtain⟨e,he',rfl⟩:=List.mem_map.1 ha;have:=he.born e he';simp at hb;omega
  ·rw[Array.toList_push,List.map_append,he.kvs,List.map_append];rfl
 ·have hjl:j<es.toList.length:=by
   have h1:=congrArg List.length he.kvs;have h2:=(split_at g1).2;simp at h1 h2⊢;omega
  have hej:es[0+j]? =some es.toList[j]:=by rw[Nat.zero_add];simp at hjl⊢
  have hkj:es.toList[j].key=T.enc k:=by
   have h3:=congrArg (·[j]?) he.kvs;simp only[List.getElem?_map,g1,Option.map_some,List.getElem?_eq_getElem hjl,Option.some.injEq,Prod.mk.injEq]at h3;exact h3.1
  refine⟨m,es,clock,some (0+j,u),rfl,h.obj,g4,?_,h1 j u _ g1 g2 ((h.putObj (.map (es.modify (0+j) λe=>{e with key:=T.enc k,val:=v}) clock)).mapClose ?_)⟩
  ·rw[hej]
   simp only[Option.map_some,Option.getD_some,hkj];exact T.bits k
  ·have hl:∀{β:Type} (f:MapEntry->β) (b:β),f {es.toList[j]with key:=T.enc k,val:=v}=b->(es.modify (0+j) λe=>{e with key:=T.enc k,val:=v}).toList.map f=(es.toList.map f).set j b:=by
    intro β f b hb;refine List.ext_getElem? λi=>?_;rw[Nat.zero_add,List.getElem?_set,List.getElem?_map,Array.getElem?_toList,Array.getElem?_modify];by_cases hij:j=i
    ·subst hij
     rw[if_pos rfl,if_pos rfl,if_pos (by simpa using hjl)];have:es[j]? =some es.toList[j]:=by simp
     rw[this];simp only[Option.map_some,Option.some.injEq];exact hb
    ·rw[if_neg hij,if_neg hij,List.getElem?_map,Array.getElem?_toList]
   refine⟨λe he'=>?_,?_,?_⟩
   ·have h4:e.born∈((es.modify (0+j) λe=>{e with key:=T.enc k,val:=v}).toList.map (·.born)):=List.mem_map.2 ⟨e,he',rfl⟩
    rw[hl (·.born) es.toList[j].born rfl]at h4;rcases List.mem_or_eq_of_mem_set h4 with h5|h5
    ·obtain⟨e2,h6,h7⟩:=List.mem_map.1 h5
     have:=he.born e2 h6;omega
    ·have:=he.born _ (List.getElem_mem hjl);omega
   ·rw[hl (·.born) es.toList[j].born rfl]
    have:(es.toList.map (·.born)).set j es.toList[j].born=es.toList.map (·.born):=by
     refine List.ext_getElem? λi=>?_;rw[List.getElem?_set];by_cases hij:j=i
     ·subst hij
      rw[if_pos rfl,if_pos (by simpa using hjl),List.getElem?_map,List.getElem?_eq_getElem hjl];rfl
     ·rw[if_neg hij]
    rw[this];exact he.nod
   ·rw[hl (λe=>(e.key,e.val)) (T.enc k,v) rfl,he.kvs,List.map_set]
def seenOf(es:Array MapEntry)(done:List Nat):List Nat:=done.map λj=>((es[j]?).map (·.born)).getD 0
variable(T)in
def MapItA(m it:Nat)(kv:List (K×Value))(done:List Nat):HA:=
 exA λi:Array MapEntry×Nat×Array Nat=>[pA (Ents T i.1 i.2.1 kv/\i.2.2.toList=seenOf i.1 done/\(∀j∈done,j<kv.length)/\done.Nodup),ObjA m (.map i.1 i.2.1),ObjA it (.mapIter (some m) i.2.1 i.2.2 i.2.1)]
def itSeen(it:Nat)(w:World):Nat:=
 match w.heap[it]?with
 |some (.mapIter _ _ seen _)=>seen.size
 |_=>0
theorem St.itOpen{it:Nat}{done:List Nat}(h:St F0 w0 w (MapItA T m it kv done::L)):
 ∃es clock seen,Ents T es clock kv/\seen.toList=seenOf es done/\(∀j∈done,j<kv.length)/\done.Nodup/\St F0 w0 w (ObjA m (.map es clock)::ObjA it (.mapIter (some m) clock seen clock)::L):=by
 obtain⟨i,h⟩:=h.ex;obtain⟨⟨h1,h2,h3,h4⟩,h⟩:=h.p;exact⟨_,_,_,h1,h2,h3,h4,h⟩
theorem St.itSeen{it:Nat}{done:List Nat}(h:St F0 w0 w (MapItA T m it kv done::L)):Eng.itSeen it w=done.length:=by
 obtain⟨es,clock,seen,_,h2,_,_,h⟩:=h.itOpen;unfold Eng.itSeen;rw[(h.bring 1).obj];have:=congrArg List.length h2;simpa[seenOf]using this
theorem St.itMap{it:Nat}{done:List Nat}(h:St F0 w0 w (MapItA T m it kv done::L)):St F0 w0 w (MapA T m kv::L):=by
 obtain⟨es,clock,seen,h1,h2,_,_,h⟩:=h.itOpen;exact(h.del 1).mapClose h1
theorem St.mrange(h:St F0 w0 w (MapA T m kv::L)){k:Nat->Pr}(hk:∀it w',St F0 w0 w' (MapItA T m it kv []::L)->k it w'):Eng.mrange (some m) k w:=by
 obtain⟨es,clock,he,h⟩:=h.mapOpen;refine⟨es,clock,h.obj,hk _ _ ?_⟩;have h2:=h.mkobj (.mapIter (some m) clock #[] clock);exact St.mkex (f:=λi:Array MapEntry×Nat×Array Nat=>[pA (Ents T i.1 i.2.1 kv/\i.2.2.toList=seenOf i.1 []/\(∀j∈([]:List Nat),j<kv.length)/\([]:List Nat).Nodup),ObjA m (.map i.1 i.2.1),ObjA _ (.mapIter (some m) i.2.1 i.2.2 i.2.1)]) (es,clock,#[]) ((h2.bring 1).mkp ⟨he,rfl,by simp,by simp⟩)
theorem seen_mem{es:Array MapEntry}{clock:Nat}(he:Ents T es clock kv){done:List Nat}(hd:∀j∈done,j<kv.length){i:Nat}(hi:i<kv.length){e:MapEntry}(hie:es.toList[i]? =some e):e.born∈seenOf es done↔i∈done:=by
 have hsz:=he.len;unfold seenOf;rw[List.mem_map];constructor
 ·rintro⟨j,hj,hb⟩
  have hjl:=hd j hj;have hjl3:j<es.size:=by omega
  have hj2:es[j]? =some es[j]:=by simp
  rw[hj2]at hb;simp only[Option.map_some,Option.getD_some]at hb;have h1:(es.toList.map (·.born))[j]? =some e.born:=by rw[List.getElem?_map,Array.getElem?_toList,hj2];simp[hb]
  have h2:(es.toList.map (·.born))[i]? =some e.born:=by rw[List.getElem?_map,hie];rfl
  have:=(List.getElem?_inj (by simpa using(show j<es.size by omega)) he.nod).1 (h1.trans h2.symm);subst this;exact hj
 ·intro h
  refine⟨i,h,?_⟩;have:es[i]? =some e:=by rw[<-Array.getElem?_toList];exact hie
  rw[this];rfl
theorem nodup_full:∀{n:Nat} {l:List Nat},l.Nodup->(∀j∈l,j<n)->(∀j,j<n->j∈l)->l.Perm (List.range n):=by
 intro n l h1 h2 h3;refine(List.perm_ext_iff_of_nodup h1 List.nodup_range).2 λj=>?_;rw[List.mem_range];exact⟨h2 j,h3 j⟩
theorem St.mnext{it:Nat}{done:List Nat}{k0:Pr}{k1:MapEntry->Pr}(h:St F0 w0 w (MapItA T m it kv done::L))(h0:done.Perm (List.range kv.length)->∀w',St F0 w0 w' (MapItA T m it kv done::L)->k0 w')
 (h1:∀i en w',i<kv.length->i∉done->St F0 w0 w' (MapItA T m it kv (done++[i])::L)->k1 en w'):Eng.mnext ⟨it,0,none⟩ k0 k1 w:=by
 obtain⟨es,clock,seen,he,hs,hd,hn,st⟩:=h.itOpen;have hsz:=he.len;refine⟨rfl,.inr ⟨m,clock,seen,clock,es,clock,(st.bring 1).obj,st.obj,?_,λw1 hw1=>?_⟩⟩
 ·cases hes:es.toList with
  |nil=>
   have:es= #[]:=by apply Array.ext';simpa using hes
   simp[this]
  |cons e l=>
   have h1:=he.born e (by rw[hes];simp);have:es.all (λx=>decide (x.born>=clock))=false:=by
    rw[<-Array.all_toList,hes,List.all_cons,decide_eq_false (by omega),Bool.false_and]
   rw[this,Bool.and_false]
 have st1:St F0 w0 w1 (ObjA m (.map es clock)::ObjA it (.mapIter (some m) clock seen clock)::L):=by rcases hw1 with rfl|rfl;exact st;exact st.drew
 refine⟨λhall=>h0 ?_ w1 ?_,λe hes hns=>?_⟩
 ·refine nodup_full hn hd λj hj=>?_
  have hjl3:j<es.toList.length:=by rw[Array.length_toList];omega
  have hj2:es.toList[j]? =some es.toList[j]:=by simp
  refine(seen_mem he hd hj hj2).1 ?_;have:=hall es.toList[j] (by simp) (he.born _ (by simp));rw[<-hs,Array.mem_toList_iff,<-Array.contains_iff_mem];exact this
 ·exact St.mkex (es,clock,seen) (st1.mkp ⟨he,hs,hd,hn⟩)
 ·obtain⟨i,hi,hie⟩:=List.getElem_of_mem hes
  have hie2:es.toList[i]? =some e:=by rw[List.getElem?_eq_getElem hi,hie]
  have hil:i<kv.length:=by simpa[hsz]using hi
  have hnd:i∉done:=λhc=>by
   have h3:=(seen_mem he hd hil hie2).2 hc;rw[<-hs,Array.mem_toList_iff,<-Array.contains_iff_mem,hns]at h3;cases h3
  refine h1 i e _ hil hnd ?_;have st2:=((st1.bring 1).putObj (.mapIter (some m) clock (seen.push e.born) clock)).bring 1;refine St.mkex (es,clock,seen.push e.born) (st2.mkp ⟨he,?_,?_,?_⟩)
  ·rw[Array.toList_push,hs]
   unfold seenOf;rw[List.map_append];have:es[i]? =some e:=by rw[<-Array.getElem?_toList];exact hie2
   simp[this]
  ·intro j hj
   rcases List.mem_append.1 hj with h4|h4
   ·exact hd j h4
   ·rw[List.mem_singleton]at h4;subst h4;exact hil
  ·rw[List.nodup_append]
   refine⟨hn,by simp,λa ha b hb=>?_⟩;rw[List.mem_singleton]at hb;subst hb;exact λh=>hnd (h▸ha)
theorem St.mentry{it:Nat}{done:List Nat}{i:Nat}{k:MapEntry->Pr}(h:St F0 w0 w (MapItA T m it kv (done++[i])::L))(hk:∀en x,kv[i]? =some x->en.key=T.enc x.1->en.val=x.2->k en w):Eng.mentry ⟨it,0,none⟩ k w:=by
 obtain⟨es,clock,seen,he,hs,hd,hn,st⟩:=h.itOpen;have hsz:=he.len;have hil:i<kv.length:=hd i (by simp);have hil2:i<es.toList.length:=by rw[Array.length_toList];omega
 have hie:es.toList[i]? =some es.toList[i]:=by simp
 have hee:es[i]? =some es.toList[i]:=by rw[<-Array.getElem?_toList];exact hie
 have hkv:kv[i]? =some kv[i]:=by simp
 have hkve:=congrArg (·[i]?) he.kvs;simp only[List.getElem?_map,hkv,hie,Option.map_some,Option.some.injEq,Prod.mk.injEq]at hkve;refine⟨rfl,m,clock,seen,clock,es,clock,es.toList[i].born,es.toList[i],(st.bring 1).obj,?_,st.obj,rfl,?_,hk _ _ hkv hkve.1 hkve.2⟩
 ·have:seen.back? =seen.toList.getLast? :=by simp
  rw[this,hs];unfold seenOf;rw[List.map_append];simp[hee]
 ·rw[<-Array.find?_toList]
  refine find_uniq (List.getElem_mem _) (by simp) λx hx hb=>?_;obtain⟨j,hj,hjx⟩:=List.getElem_of_mem hx;have h1:(es.toList.map (·.born))[j]? =some es.toList[i].born:=by
   rw[List.getElem?_map,List.getElem?_eq_getElem hj,hjx];simp at hb;simp[hb]
  have h2:(es.toList.map (·.born))[i]? =some es.toList[i].born:=by rw[List.getElem?_map,hie];rfl
  have:=(List.getElem?_inj (by simpa using hj) he.nod).1 (h1.trans h2.symm);subst this;rw[<-hjx]
where
 find_uniq {α:Type} {p:α->Bool} {e:α}:∀{l:List α},e∈l->p e=true->(∀x∈l,p x=true->x=e)->l.find? p=some e
  |[],h,_,_=>by cases h
  |x::l,h,hp,hu=>by
   rw[List.find?_cons];cases hx:p x with
   |true=>simp[hu x (by simp) hx]
   |false=>
    rcases List.mem_cons.1 h with rfl|h
    ·rw[hp]at hx;cases hx
    ·exact find_uniq h hp λy hy=>hu y (by simp[hy])
end
theorem wrap_u8m(n:Int):IntKind.wrap .u8 n=n%256:=by
 unfold IntKind.wrap;simp only[IntKind.signed,IntKind.bits];rfl
theorem wrap_u32m(n:Int):IntKind.wrap .u32 n=n%4294967296:=by
 unfold IntKind.wrap;simp only[IntKind.signed,IntKind.bits];rfl
theorem wrap_u64m(n:Int):IntKind.wrap .u64 n=n%18446744073709551616:=by
 unfold IntKind.wrap;simp only[IntKind.signed,IntKind.bits];rfl
theorem bShr_nat(k:IntKind)(x y:Nat):bShr k (x:Int) (y:Int)=((x/2^(min y k.bits):Nat):Int):=by
 unfold bShr;rw[Int.toNat_natCast,show((2:Int)^min y k.bits)=((2^min y k.bits:Nat):Int) by simp,Int.ofNat_fdiv]
theorem ofInt_toNat(b:Nat)(x:Nat):(BitVec.ofInt b (x:Int)).toNat=x%2^b:=by
 rw[BitVec.ofInt_natCast,BitVec.toNat_ofNat]
theorem bOr_u64{x y:Nat}(hx:x<2^64)(hy:y<2^64):bOr .u64 (x:Int) (y:Int)=((x|||y:Nat):Int):=by
 unfold bOr;rw[wrap_u64m,BitVec.toNat_or];simp only[IntKind.bits,ofInt_toNat];rw[Nat.mod_eq_of_lt hx,Nat.mod_eq_of_lt hy];have:=Nat.or_lt_two_pow hx hy;omega
theorem bXor_u32{x y:Nat}(hx:x<2^32)(hy:y<2^32):bXor .u32 (x:Int) (y:Int)=((x^^^y:Nat):Int):=by
 unfold bXor;rw[wrap_u32m,BitVec.toNat_xor];simp only[IntKind.bits,ofInt_toNat];rw[Nat.mod_eq_of_lt hx,Nat.mod_eq_of_lt hy];have:=Nat.xor_lt_two_pow hx hy;omega
theorem bAnd_u32{x y:Nat}(hx:x<2^32)(hy:y<2^32):bAnd .u32 (x:Int) (y:Int)=((x&&&y:Nat):Int):=by
 unfold bAnd;rw[wrap_u32m,BitVec.toNat_and];simp only[IntKind.bits,ofInt_toNat];rw[Nat.mod_eq_of_lt hx,Nat.mod_eq_of_lt hy];have:x&&&y<=x:=Nat.and_le_left;omega
theorem bShl_u64{x y:Nat}(hy:y<=64)(h:x*2^y<2^64):bShl .u64 (x:Int) (y:Int)=((x*2^y:Nat):Int):=by
 unfold bShl;rw[Int.toNat_natCast,wrap_u64m];simp only[IntKind.bits];rw[Nat.min_eq_left hy];have:((x:Int)*2^y)=((x*2^y:Nat):Int):=by simp
 rw[this];omega
theorem or_add{x y i:Nat}(h:x<2^i):x|||(y*2^i)=x+y*2^i:=by
 have:=Nat.two_pow_add_eq_or_of_lt h y;rw[Nat.or_comm,Nat.mul_comm,<-this,Nat.add_comm]
theorem ub_ofNat(n:Nat):ub (UInt8.ofNat n)=.int .u8 ((n%256:Nat):Int):=by
 unfold ub;simp
theorem and_1(n:Nat):n&&&1=n%2:=Nat.and_two_pow_sub_one_eq_mod n 1
abbrev bA(r i:Nat):Addr:=Addr.add ⟨r,0,none⟩ i
abbrev slV(s:Sl):Value:=.slice s.a s.len s.cap
abbrev ldI(a:Addr)(f:Int->Pr):Pr:=ldC (.int .i64) a f
abbrev ldU(a:Addr)(f:Int->Pr):Pr:=ldC (.int .u8) a f
abbrev ldS(a:Addr)(f:Sl->Pr):Pr:=ldC .slice a f
abbrev ldB(a:Addr)(f:Bool->Pr):Pr:=ldC .bool a f
abbrev ldP(a:Addr)(f:Option Addr->Pr):Pr:=ldC .ptr a f
abbrev ldM(a:Addr)(f:Option Nat->Pr):Pr:=ldC .map a f
abbrev I64:CS:=.int .i64
abbrev iv(n:Int):Value:=.int .i64 n
abbrev uv(n:Int):Value:=.int .u8 n
def w64(n:Int):Int:=IntKind.wrap .i64 n
def wU64(n:Int):Int:=IntKind.wrap .u64 n
def wU8(n:Int):Int:=IntKind.wrap .u8 n
def stB(r:Nat):Nat->List Value->Pr->Pr
 |_,[],k=>k
 |i,v::l,k=>st (bA r i) v<|stB r (i+1) l k
def nvs(T:TypeId)(z vs:List Value)(k:Nat->Pr):Pr:=nw (.cells z.toArray T) λr=>stB r 0 vs (k r)
def el(s:Sl)(i:Int)(n:Nat)(k:Addr->Pr):Pr:=owe ((0:Int)<=i/\i<(s.len:Int))<|deref s.a λa=>k (a.add (Int.toNat i*n))
section
variable{P:Program}{f:FuncId}{fn:Func}{an:An}{args:List Value}{shs:List Sh}{w:World}
theorem cF{Q:PayL shs->Pr}{F:Pr}(hf:P.funcs[f]? =some fn)(e:compileFn P fn an args shs Q=F)(h:F w):Calls P f args.toArray w (RetT shs Q):=callsIn_of_compile hf (by rw[e];exact h)
end
structure MS{α:Type}(g:α->Value)(w:World)(s:Sl)(l:List α):Prop where
 len:s.len=l.length
 row:readsO w s.a (l.map g)
section
variable{α:Type}{g:α->Value}{w w':World}{s:Sl}{l:List α}
theorem MS.grow(h:MS g w s l)(hm:Grow w w'):MS g w' s l:=⟨h.len,h.row.grow hm⟩
theorem MS.mod{S:Nat->Prop}(h:MS g w s l)(hm:Mod S w w')(hs:∀ad,s.a=some ad->l≠[]->¬S ad.block):MS g w' s l:=
 ⟨h.len,h.row.mod hm λad ha hl=>hs ad ha λh0=>by subst h0;simp at hl⟩
theorem MS.nil(g:α->Value)(w:World)(c:Nat):MS g w ⟨none,0,c⟩ []:=⟨rfl,rfl⟩
theorem MS.none_len(h:MS g w s l)(ha:s.a=none):s.len=0:=by
 have h2:=h.row;rw[ha]at h2;have:l.map g=[]:=h2;simp at this;rw[h.len,this];rfl
theorem MS.at{c:CS}{p:PayC c}(h:MS g w s l){i:Nat}{k:PayC c->Pr}{x:α}(hi:l[i]? =some x)(hx:g x=valC c p)(hk:k p w):(deref s.a λa=>ldC c (a.add (i*1)) k) w:=by
 have h1:=h.row;cases ha:s.a with
 |none=>rw[ha]at h1;have:l.map g=[]:=h1;simp at this;subst this;simp at hi
 |some ad=>
  rw[ha]at h1;rw[deref_some',Nat.mul_one];exact ldC_of ((readsAt_row.1 h1).get (by simp[hi,hx])) hk
theorem OwnS.ms{n0:Nat}(h:OwnS w n0 1 s (l.map g)):MS g w s l:=⟨by have:=h.len;simp at this;exact this.symm,h.reads⟩
theorem BS.ms{l:List UInt8}(h:BS w s l):MS ub w s l:=⟨h.len,h.row⟩
theorem MS.bs{l:List UInt8}(h:MS ub w s l):BS w s l:=⟨h.len,h.row⟩
theorem MS.sub(h:MS g w s l){o n:Nat}(ho:o+n<=l.length){a:Option Addr}{c:Nat}(ha:a=s.a.map (·.add (o*1))\/n=0)(hz:n=0->a=none\/a.isSome):MS g w ⟨a,n,c⟩ ((l.drop o).take n):=by
 refine⟨by simp;omega,?_⟩;rcases Nat.eq_zero_or_pos n with h0|h0
 ·subst h0
  simp only[List.take_zero,List.map_nil];cases a with
  |none=>rfl
  |some _=>trivial
 ·have ha:=ha.resolve_right (by omega)
  have h1:=h.row;cases hs:s.a with
  |none=>rw[hs]at h1;have:l.map g=[]:=h1;simp at this;subst this;simp at ho;omega
  |some ad=>
   rw[hs]at h1 ha;rw[ha];refine readsAt_row.2 λj v hj=>?_;have h2:=readsAt_row.1 h1 (o+j) v ?_
   ·rw[Nat.mul_one];rw[add_add];exact h2
   ·rw[List.getElem?_map]at hj⊢
    rw[List.getElem?_take,List.getElem?_drop]at hj;split at hj
    ·exact hj
    ·simp at hj
end
theorem slA_len1{w:World}{n0:Nat}{s:Sl}{vs:List Value}(h:OwnS w n0 1 s vs):s.len=vs.length:=by have:=h.len;omega
structure VS(n:Nat)(w:World)(s:Sl)(vs:List Value):Prop where
 len:vs.length=s.len*n
 row:readsO w s.a vs
theorem VS.grow{n:Nat}{w w':World}{s:Sl}{vs:List Value}(h:VS n w s vs)(hm:Grow w w'):VS n w' s vs:=⟨h.len,h.row.grow hm⟩
theorem MS.vs{α:Type}{g:α->Value}{w:World}{s:Sl}{l:List α}(h:MS g w s l):VS 1 w s (l.map g):=⟨by simp[h.len],h.row⟩
theorem OwnS.vs{w:World}{n0 n:Nat}{s:Sl}{vs:List Value}(h:OwnS w n0 n s vs):VS n w s vs:=⟨h.len,h.reads⟩
theorem SS.vs{α:Type}{f:α->List Value}{n:Nat}(hf:∀r,(f r).length=n){w:World}{s:Sl}{rs:List α}(h:SS f w s rs):VS n w s (rs.flatMap f):=⟨by rw[flatMap_len hf,h.len],h.row⟩
end Go.Eng

set_option maxRecDepth 100000
namespace Go.Proofs
open Go.Eng
def an126:An:=(.sq .z (.sq (.sq .z (.br (.sq .z .z) .z)) (.sq .z (.sq (.sq (.jn [(25,.c .bool)] .z) (.br (.sq .z .z) .z)) (.sq .z .z)))))
def F126(p0:Sl)(p1:Int)(Q:(Int×Int×Int×Sl×Int)×Int->Pr):Pr:=
 nw (.cells #[(iv 0),(iv 0),(iv 0),(.slice none 0 0),(iv 0)] 109) λr=>
 callF Tryz.prog 178 [(iv p1)] [.c .bool] λ(t10:Bool)=>
 br (!t10) (
 stB r 0 [(iv 0),(iv 0),(iv 0),(.slice none 0 0),(iv 0)]<|
 ldA [I64,I64,I64,.slice,I64] (bA r 0) λ(res:Int×Int×Int×Sl×Int)=>
 Q (res,1)) (
 callF Tryz.prog 179 [(slV p0)] [.agg [I64,I64,I64,.slice,I64],.c I64,.c I64] λ(t15:(Int×Int×Int×Sl×Int)×Int×Int)=>
 nvs 109 [(iv 0),(iv 0),(iv 0),(.slice none 0 0),(iv 0)] [(iv t15.1.1),(iv t15.1.2.1),(iv t15.1.2.2.1),(slV t15.1.2.2.2.1),(iv t15.1.2.2.2.2)] λr_1=>
 jn (S:=Bool) (λR=>
 br (t15.2.2==0) (
 R ((t15.2.1 !=p1))) (
 R false)) λs=>
 br s (
 stB r 0 [(iv 0),(iv 0),(iv 0),(.slice none 0 0),(iv 0)]<|
 ldA [I64,I64,I64,.slice,I64] (bA r 0) λ(res_1:Int×Int×Int×Sl×Int)=>
 Q (res_1,61)) (
 ldA [I64,I64,I64,.slice,I64] (bA r_1 0) λ(t27:Int×Int×Int×Sl×Int)=>
 stB r 0 [(iv t27.1),(iv t27.2.1),(iv t27.2.2.1),(slV t27.2.2.2.1),(iv t27.2.2.2.2)]<|
 ldA [I64,I64,I64,.slice,I64] (bA r 0) λ(res_2:Int×Int×Int×Sl×Int)=>
 Q (res_2,t15.2.2)))
theorem F126_calls(p0:Sl)(p1:Int)(Q:(Int×Int×Int×Sl×Int)×Int->Pr)(w:World)(h:F126 p0 p1 Q w):Calls Tryz.prog 126 #[(slV p0),(iv p1)] w (RetT [.agg [I64,I64,I64,.slice,I64],.c I64] Q):=cF (an:=an126) Tryz.func126 (by kernel_rfl) h
def an178:An:=(.sq .z (.sq .z .z))
def F178(p0:Int)(Q:Bool->Pr):Pr:=
 br (decide (p0>=0)) (
 Q ((decide (p0<=2305843009213693952)))) (
 Q false)
theorem F178_calls(p0:Int)(Q:Bool->Pr)(w:World)(h:F178 p0 Q w):Calls Tryz.prog 178 #[(iv p0)] w (RetT [.c .bool] Q):=cF (an:=an178) Tryz.func178 (by kernel_rfl) h
def an179:An:=(.sq .z (.sq (.sq (.jn [(18,.c .bool)] .z) (.br (.sq .z .z) .z)) (.sq (.jn [(5,.c .ptr),(6,.c (.int .i64))] (.rj [⟨false,[2,6,10,11],[2,3,6,7,8,10,11],[(5,.c .ptr),(28,.agg [(.int .i64),(.int .i64),(.int .i64),.slice,(.int .i64)]),(30,.c (.int .i64))]⟩])) (.sq (.jn [] (.sq .z (.sq .z (.bl (.sq .z (.br .z .z)))))) (.sq (.sq .z (.sq (.jn [(68,.c .bool)] .z) (.br (.sq .z .z) .z))) (.sq .z .z))))))
def F179(p0:Sl)(Q:(Int×Int×Int×Sl×Int)×Int×Int->Pr):Pr:=
 nw (.cells #[(iv 0),(iv 0),(iv 0),(.slice none 0 0),(iv 0)] 109) λr=>
 jn (S:=Bool) (λR=>
 br ((p0.len:Int)!=64) (
 R true) (
 el p0 1 1 λa=>
 ldU a λt16=>
 R ((decide (t16>44))))) λs=>
 br s (
 stB r 0 [(iv 0),(iv 0),(iv 0),(.slice none 0 0),(iv 0)]<|
 ldA [I64,I64,I64,.slice,I64] (bA r 0) λ(res:Int×Int×Int×Sl×Int)=>
 Q (res,0,61)) (
 jn (S:=(Option Addr)×Int) (λR_1=>
 drw<|
 el p0 0 1 λa_4=>
 el p0 14 1 λa_5=>
 jn (S:=(Option Addr)×(Int×Int×Int×Sl×Int)×Int) (λR_2=>
 both (
 ldU a_4 λt22=>
 both (
 ldU a_5 λt26=>
 both (
 callF Tryz.prog 210 [(slV p0),(iv 2),(iv 8)] [.c I64] λ(t30:Int)=>
 nw (.cells #[(iv 0),(iv 0),(iv 0),(.slice none 0 0),(iv 0)] 109) λr_1=>
 R_2 ((some ⟨r_1,0,none⟩),((w64 t22),0,(w64 t26),⟨none,0,0⟩,0),t30)) (
 nw (.cells #[(iv 0),(iv 0),(iv 0),(.slice none 0 0),(iv 0)] 109) λr_2=>
 callF Tryz.prog 210 [(slV p0),(iv 2),(iv 8)] [.c I64] λ(t30_1:Int)=>
 R_2 ((some ⟨r_2,0,none⟩),((w64 t22),0,(w64 t26),⟨none,0,0⟩,0),t30_1))) (
 both (
 callF Tryz.prog 210 [(slV p0),(iv 2),(iv 8)] [.c I64] λ(t30_2:Int)=>
 ldU a_5 λt26_1=>
 nw (.cells #[(iv 0),(iv 0),(iv 0),(.slice none 0 0),(iv 0)] 109) λr_3=>
 R_2 ((some ⟨r_3,0,none⟩),((w64 t22),0,(w64 t26_1),⟨none,0,0⟩,0),t30_2)) (
 nw (.cells #[(iv 0),(iv 0),(iv 0),(.slice none 0 0),(iv 0)] 109) λr_4=>
 both (
 ldU a_5 λt26_2=>
 callF Tryz.prog 210 [(slV p0),(iv 2),(iv 8)] [.c I64] λ(t30_3:Int)=>
 R_2 ((some ⟨r_4,0,none⟩),((w64 t22),0,(w64 t26_2),⟨none,0,0⟩,0),t30_3)) (
 callF Tryz.prog 210 [(slV p0),(iv 2),(iv 8)] [.c I64] λ(t30_4:Int)=>
 ldU a_5 λt26_3=>
 R_2 ((some ⟨r_4,0,none⟩),((w64 t22),0,(w64 t26_3),⟨none,0,0⟩,0),t30_4))))) (
 both (
 ldU a_5 λt26_4=>
 both (
 ldU a_4 λt22_1=>
 both (
 callF Tryz.prog 210 [(slV p0),(iv 2),(iv 8)] [.c I64] λ(t30_5:Int)=>
 nw (.cells #[(iv 0),(iv 0),(iv 0),(.slice none 0 0),(iv 0)] 109) λr_5=>
 R_2 ((some ⟨r_5,0,none⟩),((w64 t22_1),0,(w64 t26_4),⟨none,0,0⟩,0),t30_5)) (
 nw (.cells #[(iv 0),(iv 0),(iv 0),(.slice none 0 0),(iv 0)] 109) λr_6=>
 callF Tryz.prog 210 [(slV p0),(iv 2),(iv 8)] [.c I64] λ(t30_6:Int)=>
 R_2 ((some ⟨r_6,0,none⟩),((w64 t22_1),0,(w64 t26_4),⟨none,0,0⟩,0),t30_6))) (
 both (
 callF Tryz.prog 210 [(slV p0),(iv 2),(iv 8)] [.c I64] λ(t30_7:Int)=>
 ldU a_4 λt22_2=>
 nw (.cells #[(iv 0),(iv 0),(iv 0),(.slice none 0 0),(iv 0)] 109) λr_7=>
 R_2 ((some ⟨r_7,0,none⟩),((w64 t22_2),0,(w64 t26_4),⟨none,0,0⟩,0),t30_7)) (
 nw (.cells #[(iv 0),(iv 0),(iv 0),(.slice none 0 0),(iv 0)] 109) λr_8=>
 both (
 ldU a_4 λt22_3=>
 callF Tryz.prog 210 [(slV p0),(iv 2),(iv 8)] [.c I64] λ(t30_8:Int)=>
 R_2 ((some ⟨r_8,0,none⟩),((w64 t22_3),0,(w64 t26_4),⟨none,0,0⟩,0),t30_8)) (
 callF Tryz.prog 210 [(slV p0),(iv 2),(iv 8)] [.c I64] λ(t30_9:Int)=>
 ldU a_4 λt22_4=>
 R_2 ((some ⟨r_8,0,none⟩),((w64 t22_4),0,(w64 t26_4),⟨none,0,0⟩,0),t30_9))))) (
 both (
 callF Tryz.prog 210 [(slV p0),(iv 2),(iv 8)] [.c I64] λ(t30_10:Int)=>
 ldU a_4 λt22_5=>
 ldU a_5 λt26_5=>
 nw (.cells #[(iv 0),(iv 0),(iv 0),(.slice none 0 0),(iv 0)] 109) λr_9=>
 R_2 ((some ⟨r_9,0,none⟩),((w64 t22_5),0,(w64 t26_5),⟨none,0,0⟩,0),t30_10)) (
 nw (.cells #[(iv 0),(iv 0),(iv 0),(.slice none 0 0),(iv 0)] 109) λr_10=>
 both (
 ldU a_4 λt22_6=>
 both (
 ldU a_5 λt26_6=>
 callF Tryz.prog 210 [(slV p0),(iv 2),(iv 8)] [.c I64] λ(t30_11:Int)=>
 R_2 ((some ⟨r_10,0,none⟩),((w64 t22_6),0,(w64 t26_6),⟨none,0,0⟩,0),t30_11)) (
 callF Tryz.prog 210 [(slV p0),(iv 2),(iv 8)] [.c I64] λ(t30_12:Int)=>
 ldU a_5 λt26_7=>
 R_2 ((some ⟨r_10,0,none⟩),((w64 t22_6),0,(w64 t26_7),⟨none,0,0⟩,0),t30_12))) (
 both (
 ldU a_5 λt26_8=>
 both (
 ldU a_4 λt22_7=>
 callF Tryz.prog 210 [(slV p0),(iv 2),(iv 8)] [.c I64] λ(t30_13:Int)=>
 R_2 ((some ⟨r_10,0,none⟩),((w64 t22_7),0,(w64 t26_8),⟨none,0,0⟩,0),t30_13)) (
 callF Tryz.prog 210 [(slV p0),(iv 2),(iv 8)] [.c I64] λ(t30_14:Int)=>
 ldU a_4 λt22_8=>
 R_2 ((some ⟨r_10,0,none⟩),((w64 t22_8),0,(w64 t26_8),⟨none,0,0⟩,0),t30_14))) (
 callF Tryz.prog 210 [(slV p0),(iv 2),(iv 8)] [.c I64] λ(t30_15:Int)=>
 ldU a_4 λt22_9=>
 ldU a_5 λt26_9=>
 R_2 ((some ⟨r_10,0,none⟩),((w64 t22_9),0,(w64 t26_9),⟨none,0,0⟩,0),t30_15))))))) λs_2=>
 deref s_2.1 λa_26=>
 st (a_26.add 0) (iv s_2.2.1.1)<|
 st (a_26.add 1) (iv s_2.2.1.2.1)<|
 st (a_26.add 2) (iv s_2.2.1.2.2.1)<|
 st (a_26.add 3) (slV s_2.2.1.2.2.2.1)<|
 st (a_26.add 4) (iv s_2.2.1.2.2.2.2)<|
 R_1 (s_2.1,s_2.2.2)) λs_1=>
 jn (S:=Unit) (λR_3=>
 callF Tryz.prog 210 [(slV p0),(iv 10),(iv 4)] [.c I64] λ(t32:Int)=>
 deref s_1.1 λa_27=>
 ldI (a_27.add 0) λt34=>
 br (t34==1) (
 drw<|
 el p0 1 1 λa_29=>
 ldU a_29 λt43=>
 el p0 1 1 λa_31=>
 ldU a_31 λt48=>
 slc 1 p0 (some 16) (some (w64 (16+(w64 t43)))) (some (w64 (16+(w64 t48)))) λt51=>
 deref s_1.1 λa_33=>
 callF Tryz.prog 82 [(slV t51)] [.c .slice] λ(t52:Sl)=>
 st (a_33.add 1) (iv t32)<|
 deref s_1.1 λa_35=>
 st (a_35.add 3) (slV t52)<|
 R_3 ()) (
 deref s_1.1 λa_37=>
 st (a_37.add 4) (iv t32)<|
 R_3 ())) λs_3=>
 deref s_1.1 λa_39=>
 ldA [I64,I64,I64,.slice,I64] a_39 λ(t57:Int×Int×Int×Sl×Int)=>
 callF Tryz.prog 204 [(iv s_1.2),(.agg #[(iv t57.1),(iv t57.2.1),(iv t57.2.2.1),(slV t57.2.2.2.1),(iv t57.2.2.2.2)])] [.c .slice,.c I64] λ(t58:Sl×Int)=>
 jn (S:=Bool) (λR_4=>
 br (t58.2 !=0) (
 R_4 true) (
 callF Tryz.prog 26 [(slV t58.1),(slV p0)] [.c .bool] λ(t66:Bool)=>
 R_4 (!t66))) λs_4=>
 br s_4 (
 stB r 0 [(iv 0),(iv 0),(iv 0),(.slice none 0 0),(iv 0)]<|
 ldA [I64,I64,I64,.slice,I64] (bA r 0) λ(res_1:Int×Int×Int×Sl×Int)=>
 Q (res_1,0,61)) (
 deref s_1.1 λa_42=>
 ldA [I64,I64,I64,.slice,I64] a_42 λ(t70:Int×Int×Int×Sl×Int)=>
 stB r 0 [(iv t70.1),(iv t70.2.1),(iv t70.2.2.1),(slV t70.2.2.2.1),(iv t70.2.2.2.2)]<|
 ldA [I64,I64,I64,.slice,I64] (bA r 0) λ(res_2:Int×Int×Int×Sl×Int)=>
 Q (res_2,s_1.2,0)))
theorem F179_calls(p0:Sl)(Q:(Int×Int×Int×Sl×Int)×Int×Int->Pr)(w:World)(h:F179 p0 Q w):Calls Tryz.prog 179 #[(slV p0)] w (RetT [.agg [I64,I64,I64,.slice,I64],.c I64,.c I64] Q):=cF (an:=an179) Tryz.func179 (by kernel_rfl) h
def an204:An:=(.sq .z (.sq (.sq .z (.br (.sq .z .z) .z)) (.sq (.sq .z (.sq .z (.br (.sq .z .z) .z))) (.sq .z (.sq (.jn [] .z) (.sq .z (.sq .z (.sq .z (.sq .z (.sq .z (.sq .z .z)))))))))))
def F204(p0:Int)(p1_0:Int)(p1_1:Int)(p1_2:Int)(p1_3:Sl)(p1_4:Int)(Q:Sl×Int->Pr):Pr:=
 nw (.cells #[(iv p1_0),(iv p1_1),(iv p1_2),(slV p1_3),(iv p1_4)] 109) λr=>
 callF Tryz.prog 178 [(iv p0)] [.c .bool] λ(t9:Bool)=>
 br (!t9) (
 Q (⟨none,0,0⟩,1)) (
 ldA [I64,I64,I64,.slice,I64] (bA r 0) λ(t11:Int×Int×Int×Sl×Int)=>
 callF Tryz.prog 128 [(.agg #[(iv t11.1),(iv t11.2.1),(iv t11.2.2.1),(slV t11.2.2.2.1),(iv t11.2.2.2.2)])] [.c I64] λ(t12:Int)=>
 br (t12 !=0) (
 Q (⟨none,0,0⟩,t12)) (
 mkS 5 1 [(uv 0)] 64 64 λt16=>
 jn (S:=Unit) (λR=>
 drw<|
 ldI (bA r 0) λt20=>
 el t16 0 1 λa_4=>
 both (
 ldS (bA r 3) λt23=>
 st a_4 (uv (wU8 t20))<|
 el t16 1 1 λa_7=>
 st a_7 (uv (wU8 (t23.len:Int)))<|
 R ()) (
 st a_4 (uv (wU8 t20))<|
 ldS (bA r 3) λt23_1=>
 el t16 1 1 λa_11=>
 st a_11 (uv (wU8 (t23_1.len:Int)))<|
 R ())) λs=>
 drw<|
 slc 1 t16 (some 2) none none λt29=>
 callF Tryz.prog 183 [(iv 8),(.int .u64 (wU64 p0))] [.c .slice] λ(t32:Sl)=>
 cpy 1 t29 t32<|
 drw<|
 slc 1 t16 (some 10) none none λt35=>
 ldI (bA r 1) λt37=>
 ldI (bA r 4) λt39=>
 callF Tryz.prog 183 [(iv 4),(.int .u64 (wU64 (imax t37 t39)))] [.c .slice] λ(t42:Sl)=>
 cpy 1 t35 t42<|
 ldI (bA r 2) λt46=>
 el t16 14 1 λa_19=>
 st a_19 (uv (wU8 t46))<|
 drw<|
 slc 1 t16 (some 16) none none λt50=>
 ldS (bA r 3) λt52=>
 cpy 1 t50 t52<|
 drw<|
 slc 1 t16 (some 60) none none λt55=>
 slc 1 t16 none (some 60) none λt57=>
 callF Tryz.prog 212 [(slV t57)] [.c (.int .u32)] λ(t58:Int)=>
 callF Tryz.prog 183 [(iv 4),(.int .u64 (wU64 t58))] [.c .slice] λ(t60:Sl)=>
 cpy 1 t55 t60<|
 Q (t16,0)))
theorem F204_calls(p0:Int)(p1_0:Int)(p1_1:Int)(p1_2:Int)(p1_3:Sl)(p1_4:Int)(Q:Sl×Int->Pr)(w:World)(h:F204 p0 p1_0 p1_1 p1_2 p1_3 p1_4 Q w):Calls Tryz.prog 204 #[(iv p0),(.agg #[(iv p1_0),(iv p1_1),(iv p1_2),(slV p1_3),(iv p1_4)])] w (RetT [.c .slice,.c I64] Q):=cF (an:=an204) Tryz.func204 (by kernel_rfl) h
def an210:An:=(.sq .z (.sq .z (.sq .z .z)))
def F210(p0:Sl)(p1:Int)(p2:Int)(Q:Int->Pr):Pr:=
 callF Tryz.prog 231 [(slV p0),(iv p1),(iv p2)] [.c (.int .u64),.c .bool] λ(t13:Int×Bool)=>
 Q ((w64 t13.1))
theorem F210_calls(p0:Sl)(p1:Int)(p2:Int)(Q:Int->Pr)(w:World)(h:F210 p0 p1 p2 Q w):Calls Tryz.prog 210 #[(slV p0),(iv p1),(iv p2)] w (RetT [.c I64] Q):=cF (an:=an210) Tryz.func210 (by kernel_rfl) h
def an194:An:=(.sq .z (.sq (.sq (.jn [(14,.c .bool)] .z) (.br (.sq .z .z) .z)) (.sq .z (.sq (.sq (.jn [(28,.c .bool)] .z) (.br (.sq .z .z) .z)) (.sq .z .z)))))
def F194(p0:Sl)(p1:Int)(Q:(Int×Int×Int×Sl×Int)×Int->Pr):Pr:=
 nw (.cells #[(iv 0),(iv 0),(iv 0),(.slice none 0 0),(iv 0)] 109) λr=>
 jn (S:=Bool) (λR=>
 br (decide (p1<0)) (
 R true) (
 R ((decide (p1>2305843009213693952))))) λs=>
 br s (
 stB r 0 [(iv 0),(iv 0),(iv 0),(.slice none 0 0),(iv 0)]<|
 ldA [I64,I64,I64,.slice,I64] (bA r 0) λ(res:Int×Int×Int×Sl×Int)=>
 Q (res,1)) (
 callF Tryz.prog 215 [(slV p0)] [.agg [I64,I64,I64,.slice,I64],.c I64,.c .bool] λ(t18:(Int×Int×Int×Sl×Int)×Int×Bool)=>
 nvs 109 [(iv 0),(iv 0),(iv 0),(.slice none 0 0),(iv 0)] [(iv t18.1.1),(iv t18.1.2.1),(iv t18.1.2.2.1),(slV t18.1.2.2.2.1),(iv t18.1.2.2.2.2)] λr_1=>
 jn (S:=Bool) (λR_1=>
 br (!t18.2.2) (
 R_1 true) (
 R_1 ((t18.2.1 !=p1)))) λs_1=>
 br s_1 (
 stB r 0 [(iv 0),(iv 0),(iv 0),(.slice none 0 0),(iv 0)]<|
 ldA [I64,I64,I64,.slice,I64] (bA r 0) λ(res_1:Int×Int×Int×Sl×Int)=>
 Q (res_1,61)) (
 ldA [I64,I64,I64,.slice,I64] (bA r_1 0) λ(t30:Int×Int×Int×Sl×Int)=>
 stB r 0 [(iv t30.1),(iv t30.2.1),(iv t30.2.2.1),(slV t30.2.2.2.1),(iv t30.2.2.2.2)]<|
 ldA [I64,I64,I64,.slice,I64] (bA r 0) λ(res_2:Int×Int×Int×Sl×Int)=>
 Q (res_2,0)))
theorem F194_calls(p0:Sl)(p1:Int)(Q:(Int×Int×Int×Sl×Int)×Int->Pr)(w:World)(h:F194 p0 p1 Q w):Calls Tryz.prog 194 #[(slV p0),(iv p1)] w (RetT [.agg [I64,I64,I64,.slice,I64],.c I64] Q):=cF (an:=an194) Tryz.func194 (by kernel_rfl) h
def an199:An:=(.sq .z (.sq (.sq (.jn [(13,.c .bool)] .z) (.br (.sq .z .z) .z)) (.sq (.sq .z (.sq .z (.br (.sq .z .z) .z))) (.sq .z (.sq (.jn [(7,.c .slice)] (.sq .z (.br .z .z))) (.sq (.jn [(7,.c .slice)] .z) (.sq (.bl (.lp [(7,.c .slice)] (.sq (.sq .z (.br .z .z)) (.bl .z)))) (.sq .z .z))))))))
def F199(p0:Int)(p1_0:Int)(p1_1:Int)(p1_2:Int)(p1_3:Sl)(p1_4:Int)(Q:Sl×Int->Pr):Pr:=
 nw (.cells #[(iv p1_0),(iv p1_1),(iv p1_2),(slV p1_3),(iv p1_4)] 109) λr=>
 jn (S:=Bool) (λR=>
 br (decide (p0<0)) (
 R true) (
 R ((decide (p0>2305843009213693952))))) λs=>
 br s (
 Q (⟨none,0,0⟩,1)) (
 ldA [I64,I64,I64,.slice,I64] (bA r 0) λ(t14:Int×Int×Int×Sl×Int)=>
 callF Tryz.prog 196 [(.agg #[(iv t14.1),(iv t14.2.1),(iv t14.2.2.1),(slV t14.2.2.2.1),(iv t14.2.2.2.2)])] [.c I64] λ(t15:Int)=>
 br (t15 !=0) (
 Q (⟨none,0,0⟩,t15)) (
 ldI (bA r 0) λt20=>
 ldS (bA r 3) λt23=>
 nw (.cells #[(uv (wU8 t20)),(uv (wU8 (t23.len:Int)))] 5) λr_1=>
 callF Tryz.prog 216 [(.slice (some ⟨r_1,0,none⟩) 2 2),(.int .u64 (wU64 p0)),(iv 8)] [.c .slice] λ(t29:Sl)=>
 jn (S:=Sl) (λR_1=>
 ldI (bA r 0) λt31=>
 br (t31==1) (
 ldI (bA r 1) λt35=>
 callF Tryz.prog 216 [(slV t29),(.int .u64 (wU64 t35)),(iv 4)] [.c .slice] λ(t37:Sl)=>
 R_1 t37) (
 ldI (bA r 4) λt40=>
 callF Tryz.prog 216 [(slV t29),(.int .u64 (wU64 t40)),(iv 4)] [.c .slice] λ(t42:Sl)=>
 R_1 t42)) λs_1=>
 jn (S:=Sl) (λR_2=>
 drw<|
 ldI (bA r 2) λt45=>
 both (
 nw (.cells #[(uv (wU8 t45)),(uv 0)] 5) λr_2=>
 both (
 app 5 1 1 [(uv 0)] s_1 ⟨(some ⟨r_2,0,none⟩),2,2⟩ λt48=>
 ldS (bA r 3) λt50=>
 app 5 1 1 [(uv 0)] t48 t50 λt51=>
 R_2 t51) (
 ldS (bA r 3) λt50_1=>
 app 5 1 1 [(uv 0)] s_1 ⟨(some ⟨r_2,0,none⟩),2,2⟩ λt48_1=>
 app 5 1 1 [(uv 0)] t48_1 t50_1 λt51_1=>
 R_2 t51_1)) (
 ldS (bA r 3) λt50_2=>
 nw (.cells #[(uv (wU8 t45)),(uv 0)] 5) λr_3=>
 app 5 1 1 [(uv 0)] s_1 ⟨(some ⟨r_3,0,none⟩),2,2⟩ λt48_2=>
 app 5 1 1 [(uv 0)] t48_2 t50_2 λt51_2=>
 R_2 t51_2)) λs_2=>
 loopE (S:=Sl) (λX s_3=>
 br (decide ((s_3.len:Int)<60)) (
 nw (.cells #[(uv 0)] 5) λr_4=>
 app 5 1 1 [(uv 0)] s_3 ⟨(some ⟨r_4,0,none⟩),1,1⟩ λt57=>
 X t57) (
 callF Tryz.prog 189 [(slV s_3)] [.c (.int .u32)] λ(t60:Int)=>
 callF Tryz.prog 216 [(slV s_3),(.int .u64 (wU64 t60)),(iv 4)] [.c .slice] λ(t62:Sl)=>
 Q (t62,0))) s_2))
theorem F199_calls(p0:Int)(p1_0:Int)(p1_1:Int)(p1_2:Int)(p1_3:Sl)(p1_4:Int)(Q:Sl×Int->Pr)(w:World)(h:F199 p0 p1_0 p1_1 p1_2 p1_3 p1_4 Q w):Calls Tryz.prog 199 #[(iv p0),(.agg #[(iv p1_0),(iv p1_1),(iv p1_2),(slV p1_3),(iv p1_4)])] w (RetT [.c .slice,.c I64] Q):=cF (an:=an199) Tryz.func199 (by kernel_rfl) h
def an215:An:=(.sq .z (.sq (.sq (.jn [(23,.c .bool)] .z) (.br (.sq .z .z) .z)) (.sq .z (.sq (.jn [] (.sq .z (.br (.sq .z (.sq .z .z)) .z))) (.sq .z (.sq .z (.sq (.rj [⟨false,[6,8,11],[6,8,9,10,11,12,13],[(3,.c (.int .i64)),(4,.c .bool)]⟩]) .z)))))))
def F215(p0:Sl)(Q:(Int×Int×Int×Sl×Int)×Int×Bool->Pr):Pr:=
 nw (.cells #[(iv 0),(iv 0),(iv 0),(.slice none 0 0),(iv 0)] 109) λr=>
 jn (S:=Bool) (λR=>
 br ((p0.len:Int)!=64) (
 R true) (
 el p0 1 1 λa=>
 ldU a λt15=>
 br (decide (t15>44)) (
 R true) (
 slc 1 p0 (some 2) (some 10) none λt20=>
 callF Tryz.prog 234 [(slV t20)] [.c (.int .u64)] λ(t21:Int)=>
 R ((decide (t21>2305843009213693952)))))) λs=>
 br s (
 stB r 0 [(iv 0),(iv 0),(iv 0),(.slice none 0 0),(iv 0)]<|
 ldA [I64,I64,I64,.slice,I64] (bA r 0) λ(res:Int×Int×Int×Sl×Int)=>
 Q (res,0,false)) (
 el p0 0 1 λa_4=>
 ldU a_4 λt27=>
 nvs 109 [(iv 0),(iv 0),(iv 0),(.slice none 0 0),(iv 0)] [(iv (w64 t27)),(iv 0),(iv 0),(.slice none 0 0),(iv 0)] λr_1=>
 jn (S:=Unit) (λR_1=>
 ldI (bA r_1 0) λt31=>
 br (t31==1) (
 slc 1 p0 (some 10) (some 14) none λt34=>
 callF Tryz.prog 234 [(slV t34)] [.c (.int .u64)] λ(t35:Int)=>
 st (bA r_1 1) (iv (w64 t35))<|
 el p0 14 1 λa_11=>
 ldU a_11 λt40=>
 st (bA r_1 2) (iv (w64 t40))<|
 el p0 1 1 λa_15=>
 ldU a_15 λt46=>
 slc 1 p0 (some 16) (some (w64 (16+(w64 t46)))) none λt49=>
 app 5 1 1 [(uv 0)] ⟨none,0,0⟩ t49 λt50=>
 st (bA r_1 3) (slV t50)<|
 R_1 ()) (
 slc 1 p0 (some 10) (some 14) none λt53=>
 callF Tryz.prog 234 [(slV t53)] [.c (.int .u64)] λ(t54:Int)=>
 st (bA r_1 4) (iv (w64 t54))<|
 R_1 ())) λs_1=>
 slc 1 p0 (some 2) (some 10) none λt58=>
 callF Tryz.prog 234 [(slV t58)] [.c (.int .u64)] λ(t59:Int)=>
 ldA [I64,I64,I64,.slice,I64] (bA r_1 0) λ(t63:Int×Int×Int×Sl×Int)=>
 callF Tryz.prog 199 [(iv (w64 t59)),(.agg #[(iv t63.1),(iv t63.2.1),(iv t63.2.2.1),(slV t63.2.2.2.1),(iv t63.2.2.2.2)])] [.c .slice,.c I64] λ(t64:Sl×Int)=>
 drw<|
 ldA [I64,I64,I64,.slice,I64] (bA r_1 0) λ(t67:Int×Int×Int×Sl×Int)=>
 br (t64.2==0) (
 jn (S:=Int×Bool) (λR_2=>
 both (
 b2s t64.1 λt73=>
 both (
 b2s p0 λt75=>
 stB r 0 [(iv t67.1),(iv t67.2.1),(iv t67.2.2.1),(slV t67.2.2.2.1),(iv t67.2.2.2.2)]<|
 R_2 ((w64 t59),(t73.toList==t75.toList))) (
 stB r 0 [(iv t67.1),(iv t67.2.1),(iv t67.2.2.1),(slV t67.2.2.2.1),(iv t67.2.2.2.2)]<|
 b2s p0 λt75_1=>
 R_2 ((w64 t59),(t73.toList==t75_1.toList)))) (
 both (
 b2s p0 λt75_2=>
 both (
 b2s t64.1 λt73_1=>
 stB r 0 [(iv t67.1),(iv t67.2.1),(iv t67.2.2.1),(slV t67.2.2.2.1),(iv t67.2.2.2.2)]<|
 R_2 ((w64 t59),(t73_1.toList==t75_2.toList))) (
 stB r 0 [(iv t67.1),(iv t67.2.1),(iv t67.2.2.1),(slV t67.2.2.2.1),(iv t67.2.2.2.2)]<|
 b2s t64.1 λt73_2=>
 R_2 ((w64 t59),(t73_2.toList==t75_2.toList)))) (
 stB r 0 [(iv t67.1),(iv t67.2.1),(iv t67.2.2.1),(slV t67.2.2.2.1),(iv t67.2.2.2.2)]<|
 b2s t64.1 λt73_3=>
 b2s p0 λt75_3=>
 R_2 ((w64 t59),(t73_3.toList==t75_3.toList))))) λs_2=>
 ldA [I64,I64,I64,.slice,I64] (bA r 0) λ(res_1:Int×Int×Int×Sl×Int)=>
 Q (res_1,s_2.1,s_2.2)) (
 jn (S:=Int×Bool) (λR_3=>
 both (
 both (
 stB r 0 [(iv t67.1),(iv t67.2.1),(iv t67.2.2.1),(slV t67.2.2.2.1),(iv t67.2.2.2.2)]<|
 R_3 ((w64 t59),false)) (
 stB r 0 [(iv t67.1),(iv t67.2.1),(iv t67.2.2.1),(slV t67.2.2.2.1),(iv t67.2.2.2.2)]<|
 R_3 ((w64 t59),false))) (
 both (
 both (
 stB r 0 [(iv t67.1),(iv t67.2.1),(iv t67.2.2.1),(slV t67.2.2.2.1),(iv t67.2.2.2.2)]<|
 R_3 ((w64 t59),false)) (
 stB r 0 [(iv t67.1),(iv t67.2.1),(iv t67.2.2.1),(slV t67.2.2.2.1),(iv t67.2.2.2.2)]<|
 R_3 ((w64 t59),false))) (
 stB r 0 [(iv t67.1),(iv t67.2.1),(iv t67.2.2.1),(slV t67.2.2.2.1),(iv t67.2.2.2.2)]<|
 R_3 ((w64 t59),false)))) λs_3=>
 ldA [I64,I64,I64,.slice,I64] (bA r 0) λ(res_2:Int×Int×Int×Sl×Int)=>
 Q (res_2,s_3.1,s_3.2)))
theorem F215_calls(p0:Sl)(Q:(Int×Int×Int×Sl×Int)×Int×Bool->Pr)(w:World)(h:F215 p0 Q w):Calls Tryz.prog 215 #[(slV p0)] w (RetT [.agg [I64,I64,I64,.slice,I64],.c I64,.c .bool] Q):=cF (an:=an215) Tryz.func215 (by kernel_rfl) h
def an216:An:=(.sq .z (.sq (.sq .z (.bl (.lp [(0,.c .slice),(1,.c (.int .u64)),(7,.c (.int .i64))] (.sq (.sq .z (.br .z .z)) (.sq (.bl (.sq .z .z)) .z))))) (.sq .z .z)))
def F216(p0:Sl)(p1:Int)(p2:Int)(Q:Sl->Pr):Pr:=
 loopE (S:=Sl×Int×Int) (λX s=>
 br (decide (s.2.2<p2)) (
 nw (.cells #[(uv (wU8 s.2.1))] 5) λr=>
 app 5 1 1 [(uv 0)] s.1 ⟨(some ⟨r,0,none⟩),1,1⟩ λt17=>
 owe ((256:Int)≠0)<|
 X (t17,(wU64 (s.2.1.tdiv 256)),(w64 (s.2.2+1)))) (
 Q s.1)) (p0,p1,0)
theorem F216_calls(p0:Sl)(p1:Int)(p2:Int)(Q:Sl->Pr)(w:World)(h:F216 p0 p1 p2 Q w):Calls Tryz.prog 216 #[(slV p0),(.int .u64 p1),(iv p2)] w (RetT [.c .slice] Q):=cF (an:=an216) Tryz.func216 (by kernel_rfl) h
def an234:An:=(.sq .z (.sq .z (.sq (.sq .z (.bl (.lp [(3,.c (.int .u64)),(4,.c (.int .i64))] (.sq (.sq .z (.br .z .z)) (.sq (.bl .z) .z))))) (.sq .z .z))))
def F234(p0:Sl)(Q:Int->Pr):Pr:=
 loopE (S:=Int×Int) (λX s=>
 br (decide (s.2>=0)) (
 el p0 s.2 1 λa=>
 ldU a λt17=>
 X ((wU64 ((wU64 (s.1*256))+(wU64 t17))),(w64 (s.2-1)))) (
 Q s.1)) (0,(w64 ((p0.len:Int)-1)))
theorem F234_calls(p0:Sl)(Q:Int->Pr)(w:World)(h:F234 p0 Q w):Calls Tryz.prog 234 #[(slV p0)] w (RetT [.c (.int .u64)] Q):=cF (an:=an234) Tryz.func234 (by kernel_rfl) h
end Go.Proofs

namespace Go.Eng
theorem succ_i64{j:Nat}(h:j<1000000000000000000):IntKind.wrap .i64 ((j:Int)+1)=((j+1:Nat):Int):=by rw[wrap_i64 (by omega)];rfl
theorem w64_of{n:Int}(h: -9223372036854775808<=n/\n<=9223372036854775807):w64 n=n:=wrap_i64 h
theorem w64_succ{j:Nat}(h:j<1000000000000000000):w64 ((j:Int)+1)=((j+1:Nat):Int):=succ_i64 h
@[simp]theorem NotAgg_iv(n:Int):NotAgg (iv n)=True:=rfl
@[simp]theorem NotAgg_uv(n:Int):NotAgg (uv n)=True:=rfl
section
variable{w w':World}{s:Sl}
theorem BS.at{l:List UInt8}(h:BS w s l){i:Nat}{k:Int->Pr}(hi:i<l.length)(hk:k (l[i].toNat:Int) w):(deref s.a λa=>ldC (.int .u8) (a.add (i*1)) k) w:=
 MS.at (c:=.int .u8) (p:=(l[i].toNat:Int)) (x:=l[i]) h.ms (by simp[hi]) rfl hk
theorem get?_lt{α:Type}{l:List α}{i:Nat}{x:α}(h:l[i]? =some x):i<l.length:=(split_at h).2
theorem el_of{s:Sl}{ad:Addr}{j n:Nat}{k:Addr->Pr}(ha:s.a=some ad)(hj:j<s.len)(hk:k (ad.add (j*n)) w):el s (j:Int) n k w:=by
 refine⟨⟨by omega,by omega⟩,?_⟩;rw[ha,Int.toNat_natCast];exact hk
theorem MS.eld{α:Type}{g:α->Value}{l:List α}(h:MS g w s l){c:CS}{p:PayC c}{j:Nat}{k:PayC c->Pr}{x:α}(hx:l[j]? =some x)(hg:g x=valC c p)(hk:k p w):el s (j:Int) 1 (λa=>ldC c a k) w:=by
 have hlt:=get?_lt hx;have h1:=h.row;cases ha:s.a with
 |none=>rw[ha]at h1;have:l.map g=[]:=h1;simp at this;subst this;simp at hx
 |some ad=>
  rw[ha]at h1;refine el_of ha (by rw[h.len];exact hlt) ?_;rw[Nat.mul_one];exact ldC_of ((readsAt_row.1 h1).get (by simp[hx,hg])) hk
theorem BS.eld{l:List UInt8}(h:BS w s l){j:Nat}{k:Int->Pr}{x:UInt8}(hx:l[j]? =some x)(hk:k (x.toNat:Int) w):el s (j:Int) 1 (λa=>ldC (.int .u8) a k) w:=
 MS.eld (c:=.int .u8) (p:=(x.toNat:Int)) h.ms hx rfl hk
theorem SS.eld{α:Type}{f:α->List Value}{n:Nat}{rs:List α}(hf:∀r,(f r).length=n)(h:SS f w s rs){j:Nat}{r:α}{cs:List CS}{p:PayA cs}{k:PayA cs->Pr}(hr:rs[j]? =some r)(hn:n≠0)(hp:f r=valA cs p)(hk:k p w):
 el s (j:Int) n (λa=>ldA cs a k) w:=by
 obtain⟨ad,ha,hrow⟩:=h.get hf hr hn;refine el_of ha (by rw[h.len];exact get?_lt hr) ?_;exact ldA_of (readsAt_row.2 (hp▸hrow)) hk
theorem SS.elc{α:Type}{f:α->List Value}{n:Nat}{rs:List α}(hf:∀r,(f r).length=n)(h:SS f w s rs){j i:Nat}{r:α}{c:CS}{p:PayC c}{k:PayC c->Pr}(hr:rs[j]? =some r)(hn:n≠0)(hp:(f r)[i]? =some (valC c p))(hk:k p w):
 el s (j:Int) n (λa=>ldC c (a.add i) k) w:=by
 obtain⟨ad,ha,hrow⟩:=h.get hf hr hn;refine el_of ha (by rw[h.len];exact get?_lt hr) ?_;exact ldC_of (hrow.get hp) hk
end
section
variable{F0:Nat->Prop}{w0 w w':World}{l:List HA}
theorem St.els{s:Sl}{vs:List Value}{j:Nat}{v:Value}{k:Pr}(h:St F0 w0 w (SlA 1 s vs::l))(hi:j<vs.length)(hv:NotAgg v)(hk:∀w',St F0 w0 w' (SlA 1 s (vs.set j v)::l)->k w'):el s (j:Int) 1 (λa=>Eng.st a v k) w:=by
 have h1:=h.sl;obtain⟨ad,ha,hst⟩:=h.put hi hv hk;have:=h1.len;refine el_of ha (by omega) ?_;rw[Nat.mul_one];exact hst
theorem stB_of{b:Nat}{k:Pr}:∀(vs:List Value) {us pre:List Value} {w:World},us.length=vs.length->(∀v∈vs,NotAgg v)->St F0 w0 w (BoxA b (pre++us)::l)->(∀w',St F0 w0 w' (BoxA b (pre++vs)::l)->k w')->stB b pre.length vs k w
 |[],us,pre,w,hl,_,h,hk=>by
  have:us=[]:=List.eq_nil_of_length_eq_zero hl;subst this;exact hk w h
 |v::vs,us,pre,w,hl,hn,h,hk=>by
  cases us with
  |nil=>simp at hl
  |cons u us=>
   show Eng.st (bA b pre.length) v (stB b (pre.length+1) vs k) w;refine h.st (by simp) (hn v (List.mem_cons_self ..)) λw1 h1=>?_;have e:(pre++u::us).set pre.length v=(pre++[v])++us:=by simp
   rw[e]at h1;have:=stB_of vs (pre:=pre++[v]) (by simpa using hl) (λx hx=>hn x (List.mem_cons_of_mem _ hx)) h1 λw' h'=>hk w' (by simpa using h');simpa using this
theorem St.nvs{T:TypeId}{z vs:List Value}{f:Nat->Pr}(h:St F0 w0 w l)(hz:z.length=vs.length)(hn:∀v∈vs,NotAgg v)(hk:∀b w2,St F0 w0 w2 (BoxA b vs::l)->f b w2):nvs T z vs f w:=
 St.nw h λr w1 s1 _ _=>stB_of vs (pre:=[]) hz hn s1 λw' h'=>hk r w' h'
end
theorem append_one{F0:Nat->Prop}{w0 w:World}{L:List HA}{s:Sl}{pre:List UInt8}{n:Nat}{v:Int}{k:Sl->Pr}(h:St F0 w0 w (SlA 1 s (pre.map ub)::L))(hv:v=((n%256:Nat):Int))(hl:pre.length<=100000000)
 (hk:∀r w',St F0 w0 w' (SlA 1 r ((pre++[UInt8.ofNat n]).map ub)::L)->k r w'):
 (nw (.cells #[(.int .u8 v)] 5) λr=>app 5 1 1 [(.int .u8 0)] s ⟨some ⟨r,0,none⟩,1,1⟩ k) w:=by
 refine St.nw h λr w1 s1 _ _=>?_;have hsl:=slA_len1 h.sl;rw[List.length_map]at hsl;refine(s1.bring 1).app (new:=[.int .u8 v]) (λ_=>rfl) (λh=>by cases h) (readsAt_row.2 s1.box.row) (by simp[NotAgg]) rfl (by decide) (by dsimp only;omega) λr2 w2 s2 _=>?_;refine hk r2 w2 ?_;rw[List.map_append,List.map_cons,List.map_nil,ub_ofNat,<-hv];exact s2.del 1
def setA:List HA->Nat->HA->List HA
 |[],_,_=>[]
 |_::l,0,B=>B::l
 |A::l,n+1,B=>A::setA l n B
theorem setA_perm:∀{l:List HA} {n:Nat} {A B:HA},nthA l n=some A->∃m,l.Perm (A::m)/\(setA l n B).Perm (B::m)
 |[],_,_,_,h=>by simp[nthA]at h
 |A::l,0,_,B,h=>by simp only[nthA,Option.some.injEq]at h;subst h;exact⟨l,.refl _,.refl _⟩
 |A::l,n+1,C,B,h=>by
  obtain⟨m,h1,h2⟩:=setA_perm (B:=B) (show nthA l n=some C from h);exact⟨A::m,(h1.cons A).trans (.swap _ _ _),(h2.cons A).trans (.swap _ _ _)⟩
section
variable{F0:Nat->Prop}{w0 w:World}{l:List HA}
theorem St.isAt(n:Nat)(h:St F0 w0 w l){A:HA}(hn:nthA l n=some A):∃F,A.is w F:=by
 obtain⟨_,F,h2,_⟩:=h;obtain⟨f,f1,_⟩:=h2.fn;exact⟨_,f1 n A hn⟩
theorem St.L(n:Nat)(h:St F0 w0 w l){b i:Nat}{vs:List Value}{c:CS}{p:PayC c}{k:PayC c->Pr}(hn:nthA l n=some (BoxA b vs))(hi:vs[i]? =some (valC c p))(hk:k p w):ldC c (bA b i) k w:=by
 obtain⟨F,hb,_⟩:=h.isAt n hn;exact hb.ld hi hk
theorem St.LA(n:Nat)(h:St F0 w0 w l){b:Nat}{vs:List Value}{cs:List CS}{p:PayA cs}{k:PayA cs->Pr}(hn:nthA l n=some (BoxA b vs))(hv:vs=valA cs p)(hk:k p w):ldA cs (bA b 0) k w:=by
 obtain⟨F,hb,_⟩:=h.isAt n hn;subst hv;have:=Box.ldA hb hk;unfold bA;rwa[add_zero']
theorem St.S(n:Nat)(h:St F0 w0 w l){b i:Nat}{vs:List Value}{v:Value}{k:Pr}(hn:nthA l n=some (BoxA b vs))(hi:i<vs.length)(hv:NotAgg v)(hk:∀w',St F0 w0 w' (setA l n (BoxA b (vs.set i v)))->k w'):Eng.st (bA b i) v k w:=by
 obtain⟨m,h1,h2⟩:=setA_perm (B:=BoxA b (vs.set i v)) hn;exact(h.perm h1).st hi hv λw' h'=>hk w' (h'.perm h2.symm)
theorem St.SB(n:Nat)(h:St F0 w0 w l){b:Nat}{vs us:List Value}{k:Pr}(hn:nthA l n=some (BoxA b us))(hl:us.length=vs.length)(hv:∀v∈vs,NotAgg v)(hk:∀w',St F0 w0 w' (setA l n (BoxA b vs))->k w'):stB b 0 vs k w:=by
 obtain⟨m,h1,h2⟩:=setA_perm (B:=BoxA b vs) hn;exact stB_of vs (pre:=[]) hl hv (h.perm h1) λw' h'=>hk w' (h'.perm h2.symm)
end
section
variable{F0:Nat->Prop}{w0 w:World}{l:List HA}
theorem St.appS{E n b:Nat}{s:Sl}{x:ByteArray}{z:List Value}{vs:List Value}{k:Sl->Pr}(h:St F0 w0 w (SlA n s vs::l))(hn:n=1)(hz:z.length=n)(hb:b≠0)(hbd:(2*(s.len+x.size)+192)*b<=2^48)
 (hk:∀r w',St F0 w0 w' (SlA n r (vs++ubL x)::l)->r.len=s.len+x.size->k r w'):appS E n b z s x k w:=by
 subst hn;have hna:∀v∈ubL x,NotAgg v:=by
  intro v hv;obtain⟨c,_,rfl⟩:=List.mem_map.1 hv;trivial
 exact app_core h.sl (Nat.zero_le _) (m:=x.size) (by rw[Nat.mul_one];show(x.data.toList.map _).length=x.data.size;rw[List.length_map,Array.length_toList]) hna hz hb hbd λr w' h1 h2 _ _ h5 h6=>hk r w' (h.slm h5 h1 h6) h2
theorem St.appZ{E n b m:Nat}{s:Sl}{M:Int}{z:List Value}{vs:List Value}{k:Sl->Pr}(h:St F0 w0 w (SlA n s vs::l))(hM:M=(m:Int))(hm:m<=1000000000)(hz:z.length=n)(hzn:∀v∈z,NotAgg v)(hb:b≠0)(hb2:b<=64)(hbd:(2*(s.len+m)+192)*b<=2^48)
 (hk:∀r w',St F0 w0 w' (SlA n r (vs++zc z m)::l)->r.len=s.len+m->k r w'):appZ E n b z s M k w:=by
 subst hM;have hna:∀v∈zc z m,NotAgg v:=by
  intro v hv;unfold zc at hv;obtain⟨c,hc,hv⟩:=List.mem_flatten.1 hv;rw[(List.mem_replicate.1 hc).2]at hv;exact hzn v hv
 have hc:=app_core (E:=E) (k:=k) h.sl (Nat.zero_le _) (m:=m) (new:=zc z m) (by rw[zc_length,hz]) hna hz hb hbd λr w' h1 h2 _ _ h5 h6=>hk r w' (h.slm h5 h1 h6) h2;refine⟨by omega,?_,wrap_i64 ⟨by omega,by omega⟩,?_⟩
 ·have h2:=Int.ofNat_le.2 (Nat.mul_le_mul hm hb2)
  rw[Int.natCast_mul]at h2;omega
 ·rw[Int.toNat_natCast]
  refine⟨hc.1,λh1=>?_⟩;obtain⟨old,e1,e2,_,e4,e5,e6⟩:=hc.2 h1;exact⟨old,e1,e2,e4,e5,e6⟩
end
theorem wU64_of{n:Int}(h:0<=n/\n<=18446744073709551615):wU64 n=n:=by
 unfold wU64;simp only[IntKind.wrap,IntKind.signed,IntKind.bits];simp;omega
section
variable{F0:Nat->Prop}{w0 w:World}{l:List HA}
theorem St.mkS0{E b k c:Nat}{z:List Value}{f:Sl->Pr}(h:St F0 w0 w l)(hz:z.length=k)(hb:b*c<=2^48)(hc:c<=2^48)(hk:∀r w',St F0 w0 w' (SlA k r []::l)->r.len=0->f r w'):Eng.mkS E b z 0 (c:Int) f w:=by
 refine⟨by omega,by omega,by exact_mod_cast hb,by omega,?_⟩;simp only[Int.toNat_natCast];refine hk _ _ (h.mksl ((Mod.refl _ w).alloc _) ⟨by simp,by simp,.inr ⟨w.heap.size,0,zc z c,rfl,Nat.le_refl _,by simp,λo _ _=>World.frozen?_alloc_new w _ _ o,?_,by rw[List.nil_append,zc_length,hz]⟩⟩) rfl;intro j v hj;rw[add_mk,Nat.zero_add,World.cell?_alloc_new];simpa using hj
theorem St.appB{E:Nat}{s x:Sl}{A B:List UInt8}{k:Sl->Pr}(h:St F0 w0 w (SlA 1 s (A.map ub)::SlA 1 x (B.map ub)::l))(hl:A.length+B.length<=1000000000)
 (hk:∀r w',St F0 w0 w' (SlA 1 r ((A++B).map ub)::SlA 1 x (B.map ub)::l)->k r w'):Eng.app E 1 1 [.int .u8 0] s x k w:=by
 have h1:=h.sl;have h2:=(h.bring 1).sl;have e1:=slA_len1 h1;have e2:=slA_len1 h2;rw[List.length_map]at e1 e2;refine h.app (new:=B.map ub) (λ_=>h2.len) (λha=>h2.bs.ms.none_len ha) h2.reads (λv hv=>by obtain⟨c,_,rfl⟩:=List.mem_map.1 hv;trivial) rfl (by decide) (by omega) λr w' h' _=>hk r w' (by rw[List.map_append];exact h')
end
theorem opt_ns{α:Type}(a:Option α):a=none\/a.isSome=true:=by cases a<;>simp
theorem slc_from{w:World}{s:Sl}{l:List UInt8}{o:Nat}{k:Sl->Pr}(h:BS w s l)(hle:s.len<=s.cap)(ho:o<=l.length)(hk:∀r,BS w r (l.drop o)->r.len=l.length-o->r.len<=r.cap->(s.a=none->r.a=none)->(∀b,r.blk b->s.blk b)->k r w):slc 1 s (some (o:Int)) none none k w:=by
 have hl:=h.len;refine slc_lo (by omega) (by omega) ?_;rw[Int.toNat_natCast];refine hk _ ?_ (by show s.len-o=_;omega) (by show s.len-o<=s.cap-o;omega) (λha=>by show(if s.cap=o then s.a else s.a.map (·.add (o*1)))=none;rw[ha];simp) ?_
 ·have:=h.ms.sub (o:=o) (n:=s.len-o) (c:=s.cap-o) (by omega) (a:=if s.cap=o then s.a else s.a.map (·.add (o*1)))
   (by by_cases hc:s.cap=o
       ·exact .inr (by omega)
       ·exact .inl (by rw[if_neg hc])) (λ_=>opt_ns _)
  rw[List.take_of_length_le (by rw[List.length_drop];omega)]at this;exact this.bs
 ·rintro b ⟨ad,ha,rfl⟩
  by_cases hc:s.cap=o
  ·rw[if_pos hc]at ha;exact⟨ad,ha,rfl⟩
  ·rw[if_neg hc]at ha
   obtain⟨a0,h1,h2⟩:=Option.map_eq_some_iff.1 ha;exact⟨a0,h1,by rw[<-h2];simp⟩
section
variable{P:Program}{F0:Nat->Prop}{w0 w:World}
abbrev ddO:Obj:=.deferred (some [])
theorem St.objAt{V T:List HA}{l:Nat}{o:Obj}(h:St F0 w0 w (V++ObjA l o::T)):w.heap[l]? =some o:=(St.dropL h).obj
theorem St.putAt{V T:List HA}{l:Nat}{o:Obj}(h:St F0 w0 w (V++ObjA l o::T))(o':Obj):St F0 w0 (w.putObj l o') (V++ObjA l o'::T):=
 ((h.perm List.perm_middle).putObj o').perm List.perm_middle.symm
theorem BS.putL{w:World}{s:Sl}{bs:List UInt8}{l:Nat}{r:Loop}(h:BS w s bs)(hl:w.heap[l]? =some (.loop r))(o:Obj):BS (w.putObj l o) s bs:=by
 refine h.mod (S:=λb=>b=l) ((Mod.refl _ w).putObj (.inl rfl)) λad ha hne he=>?_;have hr:=h.row;rw[ha]at hr;cases bs with
 |nil=>exact hne rfl
 |cons b bs=>
  have h1:=hr.1;unfold World.cell? at h1;rw[show(Addr.add ad 0).block=l from he,hl]at h1;cases h1
def IterE(P:Program)(v:Value)(shs:List Sh)(n:Nat)(X:Nat->PayL shs->World->Prop)(M:World->Prop):Prop:=
 ∃f caps,v=.func (.func f) #[] caps/\callable P f=true/\
 ∀(y:Value) (w:World) (I:Nat->World->Prop) (D:World->Prop),(∀j W,I j W->M W)->(∀j W W',I j W->Grow W W'->I j W')->I 0 w->
  (∀j x W,X j x W->I j W->callV P y (valL shs x) [.c .bool] (λb W'=>if b=true then I (j+1) W' else D W') W)->
  Calls P f (#[y]++caps) w (RetT [] λ_ w'=>I n w'\/D w')
abbrev IterL(P:Program)(v:Value)(shs:List Sh)(xs:List (PayL shs))(M:World->Prop):Prop:=IterE P v shs xs.length (λj x _=>xs[j]? =some x) M
theorem rng_st{v:Value}{shs:List Sh}{n:Nat}{X:Nat->PayL shs->World->Prop}{M:World->Prop}(hv:IterE P v shs n X M){σ τ:Type}(U:σ->List HA)(Pj:Nat->σ->Prop)(UE:τ->List HA)(E:Option Nat->τ->Prop)
 {R:Nat->PayL shs->(Pr->Pr)->Pr->(Option Nat->Pr)->Pr}{K Jr:Nat->Pr}{Jx:Nat->List (Nat×Pr)}(s0:σ)(hP0:Pj 0 s0)(h0:St F0 w0 w (U s0))
 (hM:∀j s W T,Pj j s->St F0 w0 W (U s++T)->M W)
 (hround:∀(l m:Nat) (Ro:LoopState->Obj) j x s W (bg:Pr->Pr) (nx:Pr) (lv:Option Nat->Pr),X j x W->Pj j s->St F0 w0 W (U s++[ObjA l (Ro .ready),ObjA m ddO])->
   (∀V (c:Pr) W',St F0 w0 W' (V++[ObjA l (Ro .ready),ObjA m ddO])->(∀W2,(∀s bs,BS W' s bs->BS W2 s bs)->St F0 w0 W2 (V++[ObjA l (Ro .busy),ObjA m ddO])->c W2)->bg c W')->
   (∀s' W',Pj (j+1) s'->St F0 w0 W' (U s'++[ObjA l (Ro .busy),ObjA m ddO])->nx W')->
   (∀q t W',E q t->St F0 w0 W' (UE t++[ObjA l (Ro .busy),ObjA m ddO])->lv q W')->R l x bg nx lv W)
 (hK:∀m s W,Pj n s->St F0 w0 W (U s++[ObjA m ddO])->K m W)
 (hJ:∀m q t W,E q t->St F0 w0 W (UE t++[ObjA m ddO])->jmp (Jr m) (Jx m) q W):rngE P v shs R K Jr Jx w:=by
 obtain⟨f,caps,rfl,hcl,hspec⟩:=hv;refine⟨f,caps,rfl,hcl,λL hL hY=>?_⟩;have st6:=(h0.mkobj ddO).mkobj (L .ready none);rw[World.size_alloc]at st6;have st7:St F0 w0 ((w.alloc ddO).alloc (L .ready none)) (U s0++[ObjA (w.heap.size+1) (L .ready none),ObjA w.heap.size ddO]):=st6.perm (List.perm_append_comm (l₁:=[_,_]));refine(hspec (.func (.yield (w.heap.size+1)) #[] #[]) _ (λj W=>∃s,Pj j s/\St F0 w0 W (U s++[ObjA (w.heap.size+1) (L .ready none),ObjA w.heap.size ddO]))
  (λW=>∃q t,E q t/\St F0 w0 W (UE t++[ObjA (w.heap.size+1) (L .done (some (jcode q))),ObjA w.heap.size ddO])) ?_ ?_ ⟨s0,hP0,st7⟩ ?_).mono ?_
 ·rintro j W ⟨s,hp,hs⟩;exact hM j s W _ hp hs
 ·rintro j W W' ⟨s,hp,hs⟩ g;exact⟨s,hp,hs.grow g⟩
 ·rintro j x W hx ⟨s,hp,hs⟩
  refine .inr ⟨w.heap.size+1,#[],rfl,?_⟩;refine hY W x _ hs.objAt ?_;refine hround (w.heap.size+1) w.heap.size (λph=>L ph none) j x s W _ _ _ hx hp hs ?_ ?_ ?_
  ·intro V c W' h1 h2
   obtain⟨r,hr⟩:=hL .ready none;exact⟨h1.objAt,h2 _ (λ_ _ hb=>hb.putL (hr▸h1.objAt) _) (h1.putAt _)⟩
  ·intro s' W' hp' h1
   refine⟨h1.objAt,?_⟩;rw[if_pos rfl];exact⟨s',hp',h1.putAt _⟩
  ·intro q t W' hq h1
   refine⟨h1.objAt,?_⟩;rw[if_neg (by simp)];exact⟨q,t,hq,h1.putAt _⟩
 ·have drop:∀{V:List HA} {W:World} {o:Obj},St F0 w0 W (V++[ObjA (w.heap.size+1) o,ObjA w.heap.size ddO])->∀o',St F0 w0 (W.putObj (w.heap.size+1) o') (V++[ObjA w.heap.size ddO]):=by
   intro V W o h o';exact((h.putAt o').perm List.perm_middle).drop
  rintro e W ⟨p,rfl,⟨s,hp,hs⟩|⟨q,t,hq,hs⟩⟩
  ·exact⟨⟨_,rfl⟩,.inl ⟨hs.objAt,hK _ s _ hp (drop hs _)⟩⟩
  ·exact⟨⟨_,rfl⟩,.inr ⟨q,hs.objAt,hJ _ q t _ hq (drop hs _)⟩⟩
theorem takesAt{V T:List HA}{D:Nat}{k:Pr}(h:St F0 w0 w (V++ObjA D ddO::T))(hk:∀w',St F0 w0 w' (V++T)->k w'):takes [D] k w:=
 ⟨h.objAt,hk _ ((h.putAt (.deferred none)).perm List.perm_middle).drop⟩
end
section
variable{F0:Nat->Prop}{w0 w:World}{l:List HA}
theorem St.elA{s:Sl}{vs:List Value}{j:Nat}{k:Addr->Pr}(h:St F0 w0 w (SlA 1 s vs::l))(hj:j<vs.length)(hk:∀ad,s.a=some ad->k (ad.add (j*1)) w):el s (j:Int) 1 k w:=by
 have h1:=h.sl;have hlen:=h1.len;rcases h1.row with⟨_,h2,_⟩|⟨b,off,spare,h2,_⟩
 ·omega
 ·exact el_of h2 (by omega) (hk _ h2)
theorem St.putA{s:Sl}{vs:List Value}{j:Nat}{v:Value}{ad:Addr}{k:Pr}(h:St F0 w0 w (SlA 1 s vs::l))(ha:s.a=some ad)(hj:j<vs.length)(hv:NotAgg v)(hk:∀w',St F0 w0 w' (SlA 1 s (vs.set j v)::l)->k w'):Eng.st (ad.add (j*1)) v k w:=by
 obtain⟨ad',h1,h2⟩:=h.put hj hv hk;rw[ha]at h1;cases h1;rw[Nat.mul_one];exact h2
end
theorem slc3{w:World}{s:Sl}{l:List UInt8}{o n:Nat}{H M:Int}{k:Sl->Pr}(h:BS w s l)(hle:s.len<=s.cap)(hH:H=((o+n:Nat):Int))(hM:M=((o+n:Nat):Int))(hn:o+n<=l.length)
 (hk:∀r,BS w r ((l.drop o).take n)->r.len=n->r.len<=r.cap->k r w):slc 1 s (some (o:Int)) (some H) (some M) k w:=by
 subst hH hM;have hl:=h.len;refine⟨λm hm=>?_,λ_=>rfl,λx hx=>?_,λx hx=>?_,?_⟩
 ·simp only[Option.some.injEq]at hm;subst hm;omega
 ·simp only[Option.some.injEq]at hx;subst hx;simp;omega
 ·simp only[Option.some.injEq]at hx;subst hx;simp;omega
 ·simp only[Option.map_some,Option.getD_some,Int.toNat_natCast]
  refine hk _ ?_ (by show o+n-o=n;omega) (by show o+n-o<=o+n-o;omega);have:=h.ms.sub (o:=o) (n:=n) (c:=o+n-o) hn (a:=if o+n=o then s.a else s.a.map (·.add (o*1)))
   (by by_cases hc:o+n=o
       ·exact .inr (by omega)
       ·exact .inl (by rw[if_neg hc])) (λ_=>opt_ns _)
  rw[show o+n-o=n by omega]at this⊢;exact this.bs
end Go.Eng

namespace Go.Proofs
open Go.Eng
def an167:An:=(.sq .z (.sq (.sq .z (.sq .z (.br (.sq .z .z) .z))) (.sq (.sq (.jn [(27,.c .bool)] .z) (.br (.sq .z .z) .z)) (.sq .z .z))))
def F167(p0_0:Int)(p0_1:Int)(p0_2:Int)(p0_3:Int)(p0_4:Int)(p0_5:Int)(Q:Int->Pr):Pr:=
 nw (.cells #[(iv p0_0),(iv p0_1),(iv p0_2),(iv p0_3),(iv p0_4),(iv p0_5)] 61) λr=>
 ldA [I64,I64,I64,I64] (bA r 1) λ(t5:Int×Int×Int×Int)=>
 callF Tryz.prog 123 [(.agg #[(iv t5.1),(iv t5.2.1),(iv t5.2.2.1),(iv t5.2.2.2)])] [.c I64] λ(t6:Int)=>
 br (t6 !=0) (
 Q t6) (
 jn (S:=Bool) (λR=>
 ldI (bA r 0) λt11=>
 br (decide (t11<1)) (
 R true) (
 ldI (bA r 0) λt15=>
 br (decide (t15>1152921504606846976)) (
 R true) (
 ldI (bA r 5) λt20=>
 br (decide (t20<0)) (
 R true) (
 ldI (bA r 5) λt25=>
 R ((decide (t25>1152921504606846976))))))) λs=>
 br s (
 Q 50) (
 Q 0))
theorem F167_calls(p0_0:Int)(p0_1:Int)(p0_2:Int)(p0_3:Int)(p0_4:Int)(p0_5:Int)(Q:Int->Pr)(w:World)(h:F167 p0_0 p0_1 p0_2 p0_3 p0_4 p0_5 Q w):Calls Tryz.prog 167 #[(.agg #[(iv p0_0),(iv p0_1),(iv p0_2),(iv p0_3),(iv p0_4),(iv p0_5)])] w (RetT [.c I64] Q):=cF (an:=an167) Tryz.func167 (by kernel_rfl) h
def an85:An:=(.sq .z (.sq (.sq .z (.sq .z (.br (.sq .z .z) .z))) (.sq .z .z)))
def F85(p0_0:Int)(p0_1:Int)(p0_2:Int)(p0_3:Int)(Q:(Int×Int×Int×Int×Int×Int)×Int->Pr):Pr:=
 nw (.cells #[(iv p0_0),(iv p0_1),(iv p0_2),(iv p0_3)] 23) λr=>
 nw (.cells #[(iv 0),(iv 0),(iv 0),(iv 0),(iv 0),(iv 0)] 61) λr_1=>
 ldA [I64,I64,I64,I64] (bA r 0) λ(t5:Int×Int×Int×Int)=>
 callF Tryz.prog 123 [(.agg #[(iv t5.1),(iv t5.2.1),(iv t5.2.2.1),(iv t5.2.2.2)])] [.c I64] λ(t6:Int)=>
 br (t6 !=0) (
 stB r_1 0 [(iv 0),(iv 0),(iv 0),(iv 0),(iv 0),(iv 0)]<|
 ldA [I64,I64,I64,I64,I64,I64] (bA r_1 0) λ(res:Int×Int×Int×Int×Int×Int)=>
 Q (res,t6)) (
 ldA [I64,I64,I64,I64] (bA r 0) λ(t11:Int×Int×Int×Int)=>
 ldI (bA r 1) λt13=>
 stB r_1 0 [(iv 2),(iv t11.1),(iv t11.2.1),(iv t11.2.2.1),(iv t11.2.2.2),(iv (w64 (4*t13)))]<|
 ldA [I64,I64,I64,I64,I64,I64] (bA r_1 0) λ(res_1:Int×Int×Int×Int×Int×Int)=>
 Q (res_1,0))
theorem F85_calls(p0_0:Int)(p0_1:Int)(p0_2:Int)(p0_3:Int)(Q:(Int×Int×Int×Int×Int×Int)×Int->Pr)(w:World)(h:F85 p0_0 p0_1 p0_2 p0_3 Q w):Calls Tryz.prog 85 #[(.agg #[(iv p0_0),(iv p0_1),(iv p0_2),(iv p0_3)])] w (RetT [.agg [I64,I64,I64,I64,I64,I64],.c I64] Q):=cF (an:=an85) Tryz.func85 (by kernel_rfl) h
def an113:An:=(.sq .z (.sq .z (.sq (.jn [(6,.c (.int .i64))] (.bl (.sq .z (.br .z (.sq (.jn [(12,.c .bool)] .z) (.br .z (.sq .z (.br .z .z)))))))) (.sq (.sq .z (.br (.sq .z .z) .z)) (.sq .z (.sq .z (.sq .z .z)))))))
def F113(p0_0:Int)(p0_1:Int)(p0_2:Int)(p0_3:Int)(p0_4:Int)(p0_5:Int)(p1:Int)(Q:(Int×Int×Int×Int×Int×Int)×Int->Pr):Pr:=
 nw (.cells #[(iv p0_0),(iv p0_1),(iv p0_2),(iv p0_3),(iv p0_4),(iv p0_5)] 61) λr=>
 nw (.cells #[(iv 0),(iv 0),(iv 0),(iv 0),(iv 0),(iv 0)] 61) λr_1=>
 ldA [I64,I64,I64,I64,I64,I64] (bA r 0) λ(t7:Int×Int×Int×Int×Int×Int)=>
 callF Tryz.prog 167 [(.agg #[(iv t7.1),(iv t7.2.1),(iv t7.2.2.1),(iv t7.2.2.2.1),(iv t7.2.2.2.2.1),(iv t7.2.2.2.2.2)])] [.c I64] λ(t8:Int)=>
 jn (S:=Int) (λR=>
 br (t8 !=0) (
 R t8) (
 jn (S:=Bool) (λR_1=>
 ldI (bA r 5) λt15=>
 br (decide (p1<t15)) (
 R_1 true) (
 R_1 ((decide (p1>1152921504606846976))))) λs_1=>
 br s_1 (
 R 1) (
 ldI (bA r 0) λt23=>
 br (t23==1152921504606846976) (
 R 6) (
 R t8)))) λs=>
 br (s !=0) (
 stB r_1 0 [(iv 0),(iv 0),(iv 0),(iv 0),(iv 0),(iv 0)]<|
 ldA [I64,I64,I64,I64,I64,I64] (bA r_1 0) λ(res:Int×Int×Int×Int×Int×Int)=>
 Q (res,s)) (
 ldI (bA r 0) λt30=>
 st (bA r 0) (iv (w64 (t30+1)))<|
 st (bA r 5) (iv p1)<|
 ldA [I64,I64,I64,I64,I64,I64] (bA r 0) λ(t35:Int×Int×Int×Int×Int×Int)=>
 stB r_1 0 [(iv t35.1),(iv t35.2.1),(iv t35.2.2.1),(iv t35.2.2.2.1),(iv t35.2.2.2.2.1),(iv t35.2.2.2.2.2)]<|
 ldA [I64,I64,I64,I64,I64,I64] (bA r_1 0) λ(res_1:Int×Int×Int×Int×Int×Int)=>
 Q (res_1,0))
theorem F113_calls(p0_0:Int)(p0_1:Int)(p0_2:Int)(p0_3:Int)(p0_4:Int)(p0_5:Int)(p1:Int)(Q:(Int×Int×Int×Int×Int×Int)×Int->Pr)(w:World)(h:F113 p0_0 p0_1 p0_2 p0_3 p0_4 p0_5 p1 Q w):Calls Tryz.prog 113 #[(.agg #[(iv p0_0),(iv p0_1),(iv p0_2),(iv p0_3),(iv p0_4),(iv p0_5)]),(iv p1)] w (RetT [.agg [I64,I64,I64,I64,I64,I64],.c I64] Q):=cF (an:=an113) Tryz.func113 (by kernel_rfl) h
def an134:An:=(.sq .z (.sq .z .z))
def F134(p0_0:Int)(p0_1:Int)(p0_2:Int)(p0_3:Int)(p0_4:Int)(p0_5:Int)(Q:Int->Pr):Pr:=
 nw (.cells #[(iv p0_0),(iv p0_1),(iv p0_2),(iv p0_3),(iv p0_4),(iv p0_5)] 61) λr=>
 ldI (bA r 0) λt4=>
 owe ((2:Int)≠0)<|
 Q (((imax t4 0).tmod 2))
theorem F134_calls(p0_0:Int)(p0_1:Int)(p0_2:Int)(p0_3:Int)(p0_4:Int)(p0_5:Int)(Q:Int->Pr)(w:World)(h:F134 p0_0 p0_1 p0_2 p0_3 p0_4 p0_5 Q w):Calls Tryz.prog 134 #[(.agg #[(iv p0_0),(iv p0_1),(iv p0_2),(iv p0_3),(iv p0_4),(iv p0_5)])] w (RetT [.c I64] Q):=cF (an:=an134) Tryz.func134 (by kernel_rfl) h
def an133:An:=(.sq .z (.sq (.sq .z (.sq .z (.br (.sq .z .z) .z))) (.sq .z (.sq .z (.sq .z (.sq (.sq .z (.bl (.lp [(5,.c .slice),(36,.c (.int .i64))] (.sq .z (.sq (.br .z .z) (.sq (.bl (.sq .z .z)) .z)))))) (.sq .z (.sq .z (.sq .z .z)))))))))
def F133(p0_0:Int)(p0_1:Int)(p0_2:Int)(p0_3:Int)(p0_4:Int)(p0_5:Int)(Q:Sl×Int->Pr):Pr:=
 nw (.cells #[(iv p0_0),(iv p0_1),(iv p0_2),(iv p0_3),(iv p0_4),(iv p0_5)] 61) λr=>
 ldA [I64,I64,I64,I64,I64,I64] (bA r 0) λ(t8:Int×Int×Int×Int×Int×Int)=>
 callF Tryz.prog 167 [(.agg #[(iv t8.1),(iv t8.2.1),(iv t8.2.2.1),(iv t8.2.2.2.1),(iv t8.2.2.2.2.1),(iv t8.2.2.2.2.2)])] [.c I64] λ(t9:Int)=>
 br (t9 !=0) (
 Q (⟨none,0,0⟩,t9)) (
 mkS 5 1 [(uv 0)] 0 256 λt13=>
 appS 5 1 1 [(uv 0)] t13 (⟨#[97,116,116,105,99,32,49,10]⟩:ByteArray) λt15=>
 ldI (bA r 0) λt18=>
 callF Tryz.prog 183 [(iv 8),(.int .u64 (wU64 t18))] [.c .slice] λ(t20:Sl)=>
 app 5 1 1 [(uv 0)] t15 t20 λt21=>
 ldI (bA r 1) λt24=>
 ldI (bA r 2) λt27=>
 ldI (bA r 3) λt30=>
 ldI (bA r 4) λt33=>
 nw (.cells #[(iv t24),(iv t27),(iv t30),(iv t33)] 3) λr_1=>
 loopE (S:=Sl×Int) (λX s=>
 br (decide (s.2<(4:Int))) (
 owe ((0:Int)<=s.2/\s.2<(4:Int))<|
 ldI ((bA r_1 0).add (Int.toNat s.2*1)) λt39=>
 callF Tryz.prog 183 [(iv 4),(.int .u64 (wU64 t39))] [.c .slice] λ(t43:Sl)=>
 app 5 1 1 [(uv 0)] s.1 t43 λt44=>
 X (t44,(w64 (s.2+1)))) (
 ldI (bA r 5) λt48=>
 callF Tryz.prog 183 [(iv 8),(.int .u64 (wU64 t48))] [.c .slice] λ(t50:Sl)=>
 app 5 1 1 [(uv 0)] s.1 t50 λt51=>
 appZ 5 1 1 [(uv 0)] t51 (w64 (60-(t51.len:Int))) λt56=>
 callF Tryz.prog 184 [(slV t56)] [.c .slice] λ(t57:Sl)=>
 appZ 5 1 1 [(uv 0)] t57 (w64 (256-(t57.len:Int))) λt62=>
 Q (t62,0))) (t21,0))
theorem F133_calls(p0_0:Int)(p0_1:Int)(p0_2:Int)(p0_3:Int)(p0_4:Int)(p0_5:Int)(Q:Sl×Int->Pr)(w:World)(h:F133 p0_0 p0_1 p0_2 p0_3 p0_4 p0_5 Q w):Calls Tryz.prog 133 #[(.agg #[(iv p0_0),(iv p0_1),(iv p0_2),(iv p0_3),(iv p0_4),(iv p0_5)])] w (RetT [.c .slice,.c I64] Q):=cF (an:=an133) Tryz.func133 (by kernel_rfl) h
def an175:An:=(.sq .z (.sq (.sq .z (.br (.sq .z .z) .z)) (.sq .z (.sq .z (.sq .z (.sq .z (.sq (.sq .z (.bl (.lp [(34,.c (.int .i64))] (.sq .z (.sq (.br .z .z) (.sq (.bl (.sq .z .z)) .z)))))) (.sq .z (.sq .z (.sq (.sq (.jn [(60,.c .bool)] .z) (.br (.sq .z .z) .z)) (.sq .z .z)))))))))))
def F175(p0:Sl)(Q:(Int×Int×Int×Int×Int×Int)×Int->Pr):Pr:=
 nw (.cells #[(iv 0),(iv 0),(iv 0),(iv 0),(iv 0),(iv 0)] 61) λr=>
 br ((p0.len:Int)!=256) (
 stB r 0 [(iv 0),(iv 0),(iv 0),(iv 0),(iv 0),(iv 0)]<|
 ldA [I64,I64,I64,I64,I64,I64] (bA r 0) λ(res:Int×Int×Int×Int×Int×Int)=>
 Q (res,50)) (
 slc 1 p0 (some 8) none none λt16=>
 callF Tryz.prog 208 [(slV t16)] [.c .ptr] λ(t17:Option Addr)=>
 nw (.cells #[(iv 0),(iv 0),(iv 0),(iv 0),(iv 0),(iv 0)] 61) λr_1=>
 callV Tryz.prog (.func (.func 209) #[(.pointer t17)] #[]) [(iv 8)] [.c (.int .u64)] λ(t21:Int)=>
 st (bA r_1 0) (iv (w64 t21))<|
 nw (.cells #[(.pointer (some (bA r_1 1))),(.pointer (some (bA r_1 2))),(.pointer (some (bA r_1 3))),(.pointer (some (bA r_1 4)))] 236) λr_2=>
 loopE (S:=Int) (λX s=>
 br (decide (s<(4:Int))) (
 owe ((0:Int)<=s/\s<(4:Int))<|
 ldP ((bA r_2 0).add (Int.toNat s*1)) λt37=>
 callV Tryz.prog (.func (.func 209) #[(.pointer t17)] #[]) [(iv 4)] [.c (.int .u64)] λ(t40:Int)=>
 deref t37 λa_14=>
 st a_14 (iv (w64 t40))<|
 X ((w64 (s+1)))) (
 callV Tryz.prog (.func (.func 209) #[(.pointer t17)] #[]) [(iv 8)] [.c (.int .u64)] λ(t45:Int)=>
 st (bA r_1 5) (iv (w64 t45))<|
 ldA [I64,I64,I64,I64,I64,I64] (bA r_1 0) λ(t49:Int×Int×Int×Int×Int×Int)=>
 callF Tryz.prog 133 [(.agg #[(iv t49.1),(iv t49.2.1),(iv t49.2.2.1),(iv t49.2.2.2.1),(iv t49.2.2.2.2.1),(iv t49.2.2.2.2.2)])] [.c .slice,.c I64] λ(t50:Sl×Int)=>
 jn (S:=Bool) (λR=>
 br (t50.2 !=0) (
 R true) (
 callF Tryz.prog 26 [(slV t50.1),(slV p0)] [.c .bool] λ(t58:Bool)=>
 R (!t58))) λs_1=>
 br s_1 (
 stB r 0 [(iv 0),(iv 0),(iv 0),(iv 0),(iv 0),(iv 0)]<|
 ldA [I64,I64,I64,I64,I64,I64] (bA r 0) λ(res_1:Int×Int×Int×Int×Int×Int)=>
 Q (res_1,50)) (
 ldA [I64,I64,I64,I64,I64,I64] (bA r_1 0) λ(t62:Int×Int×Int×Int×Int×Int)=>
 stB r 0 [(iv t62.1),(iv t62.2.1),(iv t62.2.2.1),(iv t62.2.2.2.1),(iv t62.2.2.2.2.1),(iv t62.2.2.2.2.2)]<|
 ldA [I64,I64,I64,I64,I64,I64] (bA r 0) λ(res_2:Int×Int×Int×Int×Int×Int)=>
 Q (res_2,0)))) 0)
theorem F175_calls(p0:Sl)(Q:(Int×Int×Int×Int×Int×Int)×Int->Pr)(w:World)(h:F175 p0 Q w):Calls Tryz.prog 175 #[(slV p0)] w (RetT [.agg [I64,I64,I64,I64,I64,I64],.c I64] Q):=cF (an:=an175) Tryz.func175 (by kernel_rfl) h
def an122:An:=(.sq .z (.sq .z (.sq (.sq .z (.bl (.rf [.c (.int .i64),.c .slice] (.sq .z .z) (.bl (.sq .z (.sq (.jn [(36,.c .bool)] .z) (.br .z .z))))))) (.sq (.sq .z (.br (.sq .z .z) .z)) (.sq .z .z)))))
def F122(p0:Sl)(p1:Sl)(Q:(Int×Int×Int×Int×Int×Int)×Int->Pr):Pr:=
 nw (.cells #[(iv 0),(iv 0),(iv 0),(iv 0),(iv 0),(iv 0)] 61) λr=>
 nw (.cells #[(iv 0),(iv 0),(iv 0),(iv 0),(iv 0),(iv 0)] 61) λr_1=>
 nw (.cells #[(slV p0),(slV p1)] 33) λr_2=>
 callF Tryz.prog 174 [(.slice (some ⟨r_2,0,none⟩) 2 2)] [.c .any] λ(t14:Value)=>
 rngE Tryz.prog t14 [.c I64,.c .slice] (λl (z:Int×Sl) bg nx lv=>
 bg (
 callF Tryz.prog 175 [(slV z.2)] [.agg [I64,I64,I64,I64,I64,I64],.c I64] λ(t19:(Int×Int×Int×Int×Int×Int)×Int)=>
 nvs 61 [(iv 0),(iv 0),(iv 0),(iv 0),(iv 0),(iv 0)] [(iv t19.1.1),(iv t19.1.2.1),(iv t19.1.2.2.1),(iv t19.1.2.2.2.1),(iv t19.1.2.2.2.2.1),(iv t19.1.2.2.2.2.2)] λr_3=>
 jn (S:=Bool) (λR=>
 br (t19.2==0) (
 ldA [I64,I64,I64,I64,I64,I64] (bA r_3 0) λ(t25:Int×Int×Int×Int×Int×Int)=>
 callF Tryz.prog 134 [(.agg #[(iv t25.1),(iv t25.2.1),(iv t25.2.2.1),(iv t25.2.2.2.1),(iv t25.2.2.2.2.1),(iv t25.2.2.2.2.2)])] [.c I64] λ(t26:Int)=>
 br (t26==z.1) (
 ldI (bA r_3 0) λt32=>
 ldI (bA r_1 0) λt34=>
 R ((decide (t32>t34)))) (
 R false)) (
 R false)) λs=>
 br s (
 ldA [I64,I64,I64,I64,I64,I64] (bA r_3 0) λ(t37:Int×Int×Int×Int×Int×Int)=>
 stB r_1 0 [(iv t37.1),(iv t37.2.1),(iv t37.2.2.1),(iv t37.2.2.2.1),(iv t37.2.2.2.2.1),(iv t37.2.2.2.2.2)]<|
 nx) (
 nx))) (λD=>
 ldA [I64,I64,I64,I64,I64,I64] (bA r_1 0) λ(t38:Int×Int×Int×Int×Int×Int)=>
 br ((t38.1==0)&&(((t38.2.1==0)&&((t38.2.2.1==0)&&((t38.2.2.2.1==0)&&((t38.2.2.2.2.1==0)&&true))))&&((t38.2.2.2.2.2==0)&&true))) (
 ldA [I64,I64,I64,I64,I64,I64] (bA r_1 0) λ(t41:Int×Int×Int×Int×Int×Int)=>
 stB r 0 [(iv t41.1),(iv t41.2.1),(iv t41.2.2.1),(iv t41.2.2.2.1),(iv t41.2.2.2.2.1),(iv t41.2.2.2.2.2)]<|
 takes [D]<|
 ldA [I64,I64,I64,I64,I64,I64] (bA r 0) λ(res:Int×Int×Int×Int×Int×Int)=>
 Q (res,50)) (
 ldA [I64,I64,I64,I64,I64,I64] (bA r_1 0) λ(t42:Int×Int×Int×Int×Int×Int)=>
 stB r 0 [(iv t42.1),(iv t42.2.1),(iv t42.2.2.1),(iv t42.2.2.2.1),(iv t42.2.2.2.2.1),(iv t42.2.2.2.2.2)]<|
 takes [D]<|
 ldA [I64,I64,I64,I64,I64,I64] (bA r 0) λ(res_1:Int×Int×Int×Int×Int×Int)=>
 Q (res_1,0))) (λD=>
 fls) (λD=>[])
theorem F122_calls(p0:Sl)(p1:Sl)(Q:(Int×Int×Int×Int×Int×Int)×Int->Pr)(w:World)(h:F122 p0 p1 Q w):Calls Tryz.prog 122 #[(slV p0),(slV p1)] w (RetT [.agg [I64,I64,I64,I64,I64,I64],.c I64] Q):=cF (an:=an122) Tryz.func122 (by kernel_rfl) h
def an174:An:=(.sq .z (.sq .z .z))
def F174(p0:Sl)(Q:Value->Pr):Pr:=
 owe (NotAgg (slV p0))<|nw (.cells #[(slV p0)] 41) λr=>
 Q ((.func (.func 207) #[] #[(.pointer (some ⟨r,0,none⟩))]))
theorem F174_calls(p0:Sl)(Q:Value->Pr)(w:World)(h:F174 p0 Q w):Calls Tryz.prog 174 #[(slV p0)] w (RetT [.c .any] Q):=cF (an:=an174) Tryz.func174 (by kernel_rfl) h
def an207:An:=(.sq .z (.bl (.lp [(7,.c (.int .i64))] (.sq .z (.sq (.br .z .z) (.sq (.bl (.sq .z (.sq .z (.br .z .z)))) .z))))))
def F207(p0:Value)(p1:Option Addr)(Q:Unit->Pr):Pr:=
 deref p1 λa=>
 ldS a λt5=>
 loopE (S:=Int) (λX s=>
 br (decide (s<(t5.len:Int))) (
 el t5 s 1 λa_1=>
 ldS a_1 λt11=>
 callV Tryz.prog p0 [(iv s),(slV t11)] [.c .bool] λ(t15:Bool)=>
 br (!t15) (
 Q ()) (
 X ((w64 (s+1))))) (
 Q ())) 0
theorem F207_calls(p0:Value)(p1:Option Addr)(Q:Unit->Pr)(w:World)(h:F207 p0 p1 Q w):Calls Tryz.prog 207 #[p0,(.pointer p1)] w (RetT [] Q):=cF (an:=an207) Tryz.func207 (by kernel_rfl) h
def an187:An:=(.sq .z (.sq (.sq .z (.sq .z (.br (.sq .z .z) .z))) (.sq (.sq (.jn [(27,.c .bool)] .z) (.br (.sq .z .z) .z)) (.sq .z .z))))
def F187(p0_0:Int)(p0_1:Int)(p0_2:Int)(p0_3:Int)(p0_4:Int)(p0_5:Int)(Q:Int->Pr):Pr:=
 nw (.cells #[(iv p0_0),(iv p0_1),(iv p0_2),(iv p0_3),(iv p0_4),(iv p0_5)] 61) λr=>
 ldA [I64,I64,I64,I64] (bA r 1) λ(t5:Int×Int×Int×Int)=>
 callF Tryz.prog 13 [(.agg #[(iv t5.1),(iv t5.2.1),(iv t5.2.2.1),(iv t5.2.2.2)])] [.c I64] λ(t6:Int)=>
 br (t6 !=0) (
 Q t6) (
 jn (S:=Bool) (λR=>
 ldI (bA r 0) λt11=>
 br (decide (t11<1)) (
 R true) (
 ldI (bA r 0) λt15=>
 br (decide (t15>1152921504606846976)) (
 R true) (
 ldI (bA r 5) λt20=>
 br (decide (t20<0)) (
 R true) (
 ldI (bA r 5) λt25=>
 R ((decide (t25>1152921504606846976))))))) λs=>
 br s (
 Q 50) (
 Q 0))
theorem F187_calls(p0_0:Int)(p0_1:Int)(p0_2:Int)(p0_3:Int)(p0_4:Int)(p0_5:Int)(Q:Int->Pr)(w:World)(h:F187 p0_0 p0_1 p0_2 p0_3 p0_4 p0_5 Q w):Calls Tryz.prog 187 #[(.agg #[(iv p0_0),(iv p0_1),(iv p0_2),(iv p0_3),(iv p0_4),(iv p0_5)])] w (RetT [.c I64] Q):=cF (an:=an187) Tryz.func187 (by kernel_rfl) h
def an143:An:=(.sq .z (.sq (.sq .z (.sq .z (.br (.sq .z .z) .z))) (.sq (.sq (.jn [(20,.c .bool)] .z) (.br (.sq .z .z) .z)) (.sq (.sq .z (.br (.sq .z .z) .z)) (.sq .z (.sq .z (.sq .z .z)))))))
def F143(p0_0:Int)(p0_1:Int)(p0_2:Int)(p0_3:Int)(p0_4:Int)(p0_5:Int)(p1:Int)(Q:(Int×Int×Int×Int×Int×Int)×Int->Pr):Pr:=
 nw (.cells #[(iv p0_0),(iv p0_1),(iv p0_2),(iv p0_3),(iv p0_4),(iv p0_5)] 61) λr=>
 nw (.cells #[(iv 0),(iv 0),(iv 0),(iv 0),(iv 0),(iv 0)] 61) λr_1=>
 ldA [I64,I64,I64,I64,I64,I64] (bA r 0) λ(t7:Int×Int×Int×Int×Int×Int)=>
 callF Tryz.prog 187 [(.agg #[(iv t7.1),(iv t7.2.1),(iv t7.2.2.1),(iv t7.2.2.2.1),(iv t7.2.2.2.2.1),(iv t7.2.2.2.2.2)])] [.c I64] λ(t8:Int)=>
 br (t8 !=0) (
 stB r_1 0 [(iv 0),(iv 0),(iv 0),(iv 0),(iv 0),(iv 0)]<|
 ldA [I64,I64,I64,I64,I64,I64] (bA r_1 0) λ(res:Int×Int×Int×Int×Int×Int)=>
 Q (res,t8)) (
 jn (S:=Bool) (λR=>
 ldI (bA r 5) λt15=>
 br (decide (p1<t15)) (
 R true) (
 R ((decide (p1>1152921504606846976))))) λs=>
 br s (
 stB r_1 0 [(iv 0),(iv 0),(iv 0),(iv 0),(iv 0),(iv 0)]<|
 ldA [I64,I64,I64,I64,I64,I64] (bA r_1 0) λ(res_1:Int×Int×Int×Int×Int×Int)=>
 Q (res_1,1)) (
 ldI (bA r 0) λt23=>
 br (t23==1152921504606846976) (
 stB r_1 0 [(iv 0),(iv 0),(iv 0),(iv 0),(iv 0),(iv 0)]<|
 ldA [I64,I64,I64,I64,I64,I64] (bA r_1 0) λ(res_2:Int×Int×Int×Int×Int×Int)=>
 Q (res_2,6)) (
 ldI (bA r 0) λt27=>
 st (bA r 0) (iv (w64 (t27+1)))<|
 st (bA r 5) (iv p1)<|
 ldA [I64,I64,I64,I64,I64,I64] (bA r 0) λ(t32:Int×Int×Int×Int×Int×Int)=>
 stB r_1 0 [(iv t32.1),(iv t32.2.1),(iv t32.2.2.1),(iv t32.2.2.2.1),(iv t32.2.2.2.2.1),(iv t32.2.2.2.2.2)]<|
 ldA [I64,I64,I64,I64,I64,I64] (bA r_1 0) λ(res_3:Int×Int×Int×Int×Int×Int)=>
 Q (res_3,0))))
theorem F143_calls(p0_0:Int)(p0_1:Int)(p0_2:Int)(p0_3:Int)(p0_4:Int)(p0_5:Int)(p1:Int)(Q:(Int×Int×Int×Int×Int×Int)×Int->Pr)(w:World)(h:F143 p0_0 p0_1 p0_2 p0_3 p0_4 p0_5 p1 Q w):Calls Tryz.prog 143 #[(.agg #[(iv p0_0),(iv p0_1),(iv p0_2),(iv p0_3),(iv p0_4),(iv p0_5)]),(iv p1)] w (RetT [.agg [I64,I64,I64,I64,I64,I64],.c I64] Q):=cF (an:=an143) Tryz.func143 (by kernel_rfl) h
def an139:An:=(.sq .z (.sq (.sq .z (.br (.sq .z .z) .z)) (.sq .z .z)))
def F139(p0_0:Int)(p0_1:Int)(p0_2:Int)(p0_3:Int)(p0_4:Int)(p0_5:Int)(Q:Int->Pr):Pr:=
 nw (.cells #[(iv p0_0),(iv p0_1),(iv p0_2),(iv p0_3),(iv p0_4),(iv p0_5)] 61) λr=>
 ldI (bA r 0) λt4=>
 br (decide (t4<0)) (
 Q 0) (
 ldI (bA r 0) λt7=>
 owe ((2:Int)≠0)<|
 Q ((t7.tmod 2)))
theorem F139_calls(p0_0:Int)(p0_1:Int)(p0_2:Int)(p0_3:Int)(p0_4:Int)(p0_5:Int)(Q:Int->Pr)(w:World)(h:F139 p0_0 p0_1 p0_2 p0_3 p0_4 p0_5 Q w):Calls Tryz.prog 139 #[(.agg #[(iv p0_0),(iv p0_1),(iv p0_2),(iv p0_3),(iv p0_4),(iv p0_5)])] w (RetT [.c I64] Q):=cF (an:=an139) Tryz.func139 (by kernel_rfl) h
def an138:An:=(.sq .z (.sq (.sq .z (.sq .z (.br (.sq .z .z) .z))) (.sq .z (.sq .z (.sq .z (.sq .z (.sq .z (.sq .z (.sq .z (.sq (.bl (.lp [(5,.c .slice)] (.sq (.sq .z (.br .z .z)) (.bl .z)))) (.sq .z (.sq (.bl (.lp [(5,.c .slice)] (.sq (.sq .z (.br .z .z)) (.bl .z)))) (.sq .z .z)))))))))))))
def F138(p0_0:Int)(p0_1:Int)(p0_2:Int)(p0_3:Int)(p0_4:Int)(p0_5:Int)(Q:Sl×Int->Pr):Pr:=
 nw (.cells #[(iv p0_0),(iv p0_1),(iv p0_2),(iv p0_3),(iv p0_4),(iv p0_5)] 61) λr=>
 ldA [I64,I64,I64,I64,I64,I64] (bA r 0) λ(t6:Int×Int×Int×Int×Int×Int)=>
 callF Tryz.prog 187 [(.agg #[(iv t6.1),(iv t6.2.1),(iv t6.2.2.1),(iv t6.2.2.2.1),(iv t6.2.2.2.2.1),(iv t6.2.2.2.2.2)])] [.c I64] λ(t7:Int)=>
 br (t7 !=0) (
 Q (⟨none,0,0⟩,t7)) (
 nw (.cells #[(uv 97),(uv 116),(uv 116),(uv 105),(uv 99),(uv 32),(uv 49),(uv 10)] 5) λr_1=>
 markS (bA r_1 0)<|
 ldI (bA r 0) λt15=>
 callF Tryz.prog 188 [(iv 8),(.int .u64 (wU64 t15))] [.c .slice] λ(t17:Sl)=>
 app 5 1 1 [(uv 0)] ⟨(some (bA r_1 0)),8,8⟩ t17 λt18=>
 ldI (bA r 1) λt22=>
 callF Tryz.prog 188 [(iv 4),(.int .u64 (wU64 t22))] [.c .slice] λ(t24:Sl)=>
 app 5 1 1 [(uv 0)] t18 t24 λt25=>
 ldI (bA r 2) λt29=>
 callF Tryz.prog 188 [(iv 4),(.int .u64 (wU64 t29))] [.c .slice] λ(t31:Sl)=>
 app 5 1 1 [(uv 0)] t25 t31 λt32=>
 ldI (bA r 3) λt36=>
 callF Tryz.prog 188 [(iv 4),(.int .u64 (wU64 t36))] [.c .slice] λ(t38:Sl)=>
 app 5 1 1 [(uv 0)] t32 t38 λt39=>
 ldI (bA r 4) λt43=>
 callF Tryz.prog 188 [(iv 4),(.int .u64 (wU64 t43))] [.c .slice] λ(t45:Sl)=>
 app 5 1 1 [(uv 0)] t39 t45 λt46=>
 ldI (bA r 5) λt49=>
 callF Tryz.prog 188 [(iv 8),(.int .u64 (wU64 t49))] [.c .slice] λ(t51:Sl)=>
 app 5 1 1 [(uv 0)] t46 t51 λt52=>
 loopE (S:=Sl) (λX s=>
 br (decide ((s.len:Int)<60)) (
 nw (.cells #[(uv 0)] 5) λr_2=>
 app 5 1 1 [(uv 0)] s ⟨(some ⟨r_2,0,none⟩),1,1⟩ λt58=>
 X t58) (
 callF Tryz.prog 189 [(slV s)] [.c (.int .u32)] λ(t61:Int)=>
 callF Tryz.prog 188 [(iv 4),(.int .u64 (wU64 t61))] [.c .slice] λ(t63:Sl)=>
 app 5 1 1 [(uv 0)] s t63 λt64=>
 loopE (S:=Sl) (λX_1 s_1=>
 br (decide ((s_1.len:Int)<256)) (
 nw (.cells #[(uv 0)] 5) λr_3=>
 app 5 1 1 [(uv 0)] s_1 ⟨(some ⟨r_3,0,none⟩),1,1⟩ λt70=>
 X_1 t70) (
 Q (s_1,0))) t64)) t52)
theorem F138_calls(p0_0:Int)(p0_1:Int)(p0_2:Int)(p0_3:Int)(p0_4:Int)(p0_5:Int)(Q:Sl×Int->Pr)(w:World)(h:F138 p0_0 p0_1 p0_2 p0_3 p0_4 p0_5 Q w):Calls Tryz.prog 138 #[(.agg #[(iv p0_0),(iv p0_1),(iv p0_2),(iv p0_3),(iv p0_4),(iv p0_5)])] w (RetT [.c .slice,.c I64] Q):=cF (an:=an138) Tryz.func138 (by kernel_rfl) h
def an232:An:=(.sq .z (.sq .z (.sq .z .z)))
def F232(p0:Sl)(p1:Int)(p2:Int)(Q:Int->Pr):Pr:=
 callF Tryz.prog 241 [(slV p0),(iv p1),(iv p2)] [.c (.int .u64),.c .bool] λ(t13:Int×Bool)=>
 Q ((w64 t13.1))
theorem F232_calls(p0:Sl)(p1:Int)(p2:Int)(Q:Int->Pr)(w:World)(h:F232 p0 p1 p2 Q w):Calls Tryz.prog 232 #[(slV p0),(iv p1),(iv p2)] w (RetT [.c I64] Q):=cF (an:=an232) Tryz.func232 (by kernel_rfl) h
def an213:An:=(.sq .z (.sq (.sq .z (.br (.sq .z .z) .z)) (.sq .z (.sq (.jn [(5,.c .ptr)] (.rj [⟨false,[1,2,6],[1,2,4,5,6],[(5,.c .ptr),(26,.agg [(.int .i64),(.int .i64),(.int .i64),(.int .i64),(.int .i64),(.int .i64)])]⟩])) (.sq .z (.sq (.sq (.jn [(39,.c .bool)] .z) (.br (.sq .z .z) .z)) (.sq .z .z)))))))
def F213(p0:Sl)(Q:(Int×Int×Int×Int×Int×Int)×Int->Pr):Pr:=
 nw (.cells #[(iv 0),(iv 0),(iv 0),(iv 0),(iv 0),(iv 0)] 61) λr=>
 br ((p0.len:Int)!=256) (
 stB r 0 [(iv 0),(iv 0),(iv 0),(iv 0),(iv 0),(iv 0)]<|
 ldA [I64,I64,I64,I64,I64,I64] (bA r 0) λ(res:Int×Int×Int×Int×Int×Int)=>
 Q (res,50)) (
 callF Tryz.prog 232 [(slV p0),(iv 16),(iv 4)] [.c I64] λ(t13:Int)=>
 callF Tryz.prog 232 [(slV p0),(iv 20),(iv 4)] [.c I64] λ(t15:Int)=>
 callF Tryz.prog 232 [(slV p0),(iv 24),(iv 4)] [.c I64] λ(t17:Int)=>
 callF Tryz.prog 232 [(slV p0),(iv 28),(iv 4)] [.c I64] λ(t19:Int)=>
 nvs 23 [(iv 0),(iv 0),(iv 0),(iv 0)] [(iv t13),(iv t15),(iv t17),(iv t19)] λr_1=>
 jn (S:=Option Addr) (λR=>
 drw<|
 jn (S:=(Option Addr)×Int×Int×Int×Int×Int×Int) (λR_1=>
 both (
 callF Tryz.prog 232 [(slV p0),(iv 8),(iv 8)] [.c I64] λ(t22:Int)=>
 both (
 ldA [I64,I64,I64,I64] (bA r_1 0) λ(t23:Int×Int×Int×Int)=>
 both (
 callF Tryz.prog 232 [(slV p0),(iv 32),(iv 8)] [.c I64] λ(t25:Int)=>
 nw (.cells #[(iv 0),(iv 0),(iv 0),(iv 0),(iv 0),(iv 0)] 61) λr_2=>
 R_1 ((some ⟨r_2,0,none⟩),(t22,t23.1,t23.2.1,t23.2.2.1,t23.2.2.2,t25))) (
 nw (.cells #[(iv 0),(iv 0),(iv 0),(iv 0),(iv 0),(iv 0)] 61) λr_3=>
 callF Tryz.prog 232 [(slV p0),(iv 32),(iv 8)] [.c I64] λ(t25_1:Int)=>
 R_1 ((some ⟨r_3,0,none⟩),(t22,t23.1,t23.2.1,t23.2.2.1,t23.2.2.2,t25_1)))) (
 both (
 callF Tryz.prog 232 [(slV p0),(iv 32),(iv 8)] [.c I64] λ(t25_2:Int)=>
 ldA [I64,I64,I64,I64] (bA r_1 0) λ(t23_1:Int×Int×Int×Int)=>
 nw (.cells #[(iv 0),(iv 0),(iv 0),(iv 0),(iv 0),(iv 0)] 61) λr_4=>
 R_1 ((some ⟨r_4,0,none⟩),(t22,t23_1.1,t23_1.2.1,t23_1.2.2.1,t23_1.2.2.2,t25_2))) (
 nw (.cells #[(iv 0),(iv 0),(iv 0),(iv 0),(iv 0),(iv 0)] 61) λr_5=>
 both (
 ldA [I64,I64,I64,I64] (bA r_1 0) λ(t23_2:Int×Int×Int×Int)=>
 callF Tryz.prog 232 [(slV p0),(iv 32),(iv 8)] [.c I64] λ(t25_3:Int)=>
 R_1 ((some ⟨r_5,0,none⟩),(t22,t23_2.1,t23_2.2.1,t23_2.2.2.1,t23_2.2.2.2,t25_3))) (
 callF Tryz.prog 232 [(slV p0),(iv 32),(iv 8)] [.c I64] λ(t25_4:Int)=>
 ldA [I64,I64,I64,I64] (bA r_1 0) λ(t23_3:Int×Int×Int×Int)=>
 R_1 ((some ⟨r_5,0,none⟩),(t22,t23_3.1,t23_3.2.1,t23_3.2.2.1,t23_3.2.2.2,t25_4)))))) (
 both (
 ldA [I64,I64,I64,I64] (bA r_1 0) λ(t23_4:Int×Int×Int×Int)=>
 both (
 callF Tryz.prog 232 [(slV p0),(iv 8),(iv 8)] [.c I64] λ(t22_1:Int)=>
 both (
 callF Tryz.prog 232 [(slV p0),(iv 32),(iv 8)] [.c I64] λ(t25_5:Int)=>
 nw (.cells #[(iv 0),(iv 0),(iv 0),(iv 0),(iv 0),(iv 0)] 61) λr_6=>
 R_1 ((some ⟨r_6,0,none⟩),(t22_1,t23_4.1,t23_4.2.1,t23_4.2.2.1,t23_4.2.2.2,t25_5))) (
 nw (.cells #[(iv 0),(iv 0),(iv 0),(iv 0),(iv 0),(iv 0)] 61) λr_7=>
 callF Tryz.prog 232 [(slV p0),(iv 32),(iv 8)] [.c I64] λ(t25_6:Int)=>
 R_1 ((some ⟨r_7,0,none⟩),(t22_1,t23_4.1,t23_4.2.1,t23_4.2.2.1,t23_4.2.2.2,t25_6)))) (
 nw (.cells #[(iv 0),(iv 0),(iv 0),(iv 0),(iv 0),(iv 0)] 61) λr_8=>
 callF Tryz.prog 232 [(slV p0),(iv 8),(iv 8)] [.c I64] λ(t22_2:Int)=>
 callF Tryz.prog 232 [(slV p0),(iv 32),(iv 8)] [.c I64] λ(t25_7:Int)=>
 R_1 ((some ⟨r_8,0,none⟩),(t22_2,t23_4.1,t23_4.2.1,t23_4.2.2.1,t23_4.2.2.2,t25_7)))) (
 nw (.cells #[(iv 0),(iv 0),(iv 0),(iv 0),(iv 0),(iv 0)] 61) λr_9=>
 both (
 callF Tryz.prog 232 [(slV p0),(iv 8),(iv 8)] [.c I64] λ(t22_3:Int)=>
 both (
 ldA [I64,I64,I64,I64] (bA r_1 0) λ(t23_5:Int×Int×Int×Int)=>
 callF Tryz.prog 232 [(slV p0),(iv 32),(iv 8)] [.c I64] λ(t25_8:Int)=>
 R_1 ((some ⟨r_9,0,none⟩),(t22_3,t23_5.1,t23_5.2.1,t23_5.2.2.1,t23_5.2.2.2,t25_8))) (
 callF Tryz.prog 232 [(slV p0),(iv 32),(iv 8)] [.c I64] λ(t25_9:Int)=>
 ldA [I64,I64,I64,I64] (bA r_1 0) λ(t23_6:Int×Int×Int×Int)=>
 R_1 ((some ⟨r_9,0,none⟩),(t22_3,t23_6.1,t23_6.2.1,t23_6.2.2.1,t23_6.2.2.2,t25_9)))) (
 ldA [I64,I64,I64,I64] (bA r_1 0) λ(t23_7:Int×Int×Int×Int)=>
 callF Tryz.prog 232 [(slV p0),(iv 8),(iv 8)] [.c I64] λ(t22_4:Int)=>
 callF Tryz.prog 232 [(slV p0),(iv 32),(iv 8)] [.c I64] λ(t25_10:Int)=>
 R_1 ((some ⟨r_9,0,none⟩),(t22_4,t23_7.1,t23_7.2.1,t23_7.2.2.1,t23_7.2.2.2,t25_10)))))) λs_1=>
 deref s_1.1 λa_11=>
 st (a_11.add 0) (iv s_1.2.1)<|
 st (a_11.add 1) (iv s_1.2.2.1)<|
 st (a_11.add 2) (iv s_1.2.2.2.1)<|
 st (a_11.add 3) (iv s_1.2.2.2.2.1)<|
 st (a_11.add 4) (iv s_1.2.2.2.2.2.1)<|
 st (a_11.add 5) (iv s_1.2.2.2.2.2.2)<|
 R s_1.1) λs=>
 deref s λa_12=>
 ldA [I64,I64,I64,I64,I64,I64] a_12 λ(t28:Int×Int×Int×Int×Int×Int)=>
 callF Tryz.prog 138 [(.agg #[(iv t28.1),(iv t28.2.1),(iv t28.2.2.1),(iv t28.2.2.2.1),(iv t28.2.2.2.2.1),(iv t28.2.2.2.2.2)])] [.c .slice,.c I64] λ(t29:Sl×Int)=>
 jn (S:=Bool) (λR_2=>
 br (t29.2 !=0) (
 R_2 true) (
 callF Tryz.prog 233 [(slV t29.1),(slV p0)] [.c .bool] λ(t37:Bool)=>
 R_2 (!t37))) λs_2=>
 br s_2 (
 stB r 0 [(iv 0),(iv 0),(iv 0),(iv 0),(iv 0),(iv 0)]<|
 ldA [I64,I64,I64,I64,I64,I64] (bA r 0) λ(res_1:Int×Int×Int×Int×Int×Int)=>
 Q (res_1,50)) (
 deref s λa_15=>
 ldA [I64,I64,I64,I64,I64,I64] a_15 λ(t41:Int×Int×Int×Int×Int×Int)=>
 stB r 0 [(iv t41.1),(iv t41.2.1),(iv t41.2.2.1),(iv t41.2.2.2.1),(iv t41.2.2.2.2.1),(iv t41.2.2.2.2.2)]<|
 ldA [I64,I64,I64,I64,I64,I64] (bA r 0) λ(res_2:Int×Int×Int×Int×Int×Int)=>
 Q (res_2,0)))
theorem F213_calls(p0:Sl)(Q:(Int×Int×Int×Int×Int×Int)×Int->Pr)(w:World)(h:F213 p0 Q w):Calls Tryz.prog 213 #[(slV p0)] w (RetT [.agg [I64,I64,I64,I64,I64,I64],.c I64] Q):=cF (an:=an213) Tryz.func213 (by kernel_rfl) h
def an190:An:=(.sq .z (.sq .z (.sq .z (.sq (.jn [(10,.c .bool)] .z) (.sq (.jn [(11,.c .bool)] .z) (.sq (.sq (.jn [(47,.c .bool)] .z) (.br (.sq .z .z) .z)) (.sq (.sq .z (.br (.sq .z .z) .z)) (.sq .z .z))))))))
def F190(p0:Sl)(p1:Sl)(Q:(Int×Int×Int×Int×Int×Int)×Int->Pr):Pr:=
 nw (.cells #[(iv 0),(iv 0),(iv 0),(iv 0),(iv 0),(iv 0)] 61) λr=>
 callF Tryz.prog 213 [(slV p0)] [.agg [I64,I64,I64,I64,I64,I64],.c I64] λ(t14:(Int×Int×Int×Int×Int×Int)×Int)=>
 nvs 61 [(iv 0),(iv 0),(iv 0),(iv 0),(iv 0),(iv 0)] [(iv t14.1.1),(iv t14.1.2.1),(iv t14.1.2.2.1),(iv t14.1.2.2.2.1),(iv t14.1.2.2.2.2.1),(iv t14.1.2.2.2.2.2)] λr_1=>
 callF Tryz.prog 213 [(slV p1)] [.agg [I64,I64,I64,I64,I64,I64],.c I64] λ(t19:(Int×Int×Int×Int×Int×Int)×Int)=>
 nvs 61 [(iv 0),(iv 0),(iv 0),(iv 0),(iv 0),(iv 0)] [(iv t19.1.1),(iv t19.1.2.1),(iv t19.1.2.2.1),(iv t19.1.2.2.2.1),(iv t19.1.2.2.2.2.1),(iv t19.1.2.2.2.2.2)] λr_2=>
 jn (S:=Bool) (λR=>
 br (t14.2==0) (
 ldA [I64,I64,I64,I64,I64,I64] (bA r_1 0) λ(t25:Int×Int×Int×Int×Int×Int)=>
 callF Tryz.prog 139 [(.agg #[(iv t25.1),(iv t25.2.1),(iv t25.2.2.1),(iv t25.2.2.2.1),(iv t25.2.2.2.2.1),(iv t25.2.2.2.2.2)])] [.c I64] λ(t26:Int)=>
 R ((t26==0))) (
 R false)) λs=>
 jn (S:=Bool) (λR_1=>
 br (t19.2==0) (
 ldA [I64,I64,I64,I64,I64,I64] (bA r_2 0) λ(t32:Int×Int×Int×Int×Int×Int)=>
 callF Tryz.prog 139 [(.agg #[(iv t32.1),(iv t32.2.1),(iv t32.2.2.1),(iv t32.2.2.2.1),(iv t32.2.2.2.2.1),(iv t32.2.2.2.2.2)])] [.c I64] λ(t33:Int)=>
 R_1 ((t33==1))) (
 R_1 false)) λs_1=>
 jn (S:=Bool) (λR_2=>
 br s (
 br (!s_1) (
 R_2 true) (
 ldI (bA r_1 0) λt42=>
 ldI (bA r_2 0) λt44=>
 R_2 ((decide (t42>t44))))) (
 R_2 false)) λs_2=>
 br s_2 (
 ldA [I64,I64,I64,I64,I64,I64] (bA r_1 0) λ(t48:Int×Int×Int×Int×Int×Int)=>
 stB r 0 [(iv t48.1),(iv t48.2.1),(iv t48.2.2.1),(iv t48.2.2.2.1),(iv t48.2.2.2.2.1),(iv t48.2.2.2.2.2)]<|
 ldA [I64,I64,I64,I64,I64,I64] (bA r 0) λ(res:Int×Int×Int×Int×Int×Int)=>
 Q (res,0)) (
 br s_1 (
 ldA [I64,I64,I64,I64,I64,I64] (bA r_2 0) λ(t50:Int×Int×Int×Int×Int×Int)=>
 stB r 0 [(iv t50.1),(iv t50.2.1),(iv t50.2.2.1),(iv t50.2.2.2.1),(iv t50.2.2.2.2.1),(iv t50.2.2.2.2.2)]<|
 ldA [I64,I64,I64,I64,I64,I64] (bA r 0) λ(res_1:Int×Int×Int×Int×Int×Int)=>
 Q (res_1,0)) (
 stB r 0 [(iv 0),(iv 0),(iv 0),(iv 0),(iv 0),(iv 0)]<|
 ldA [I64,I64,I64,I64,I64,I64] (bA r 0) λ(res_2:Int×Int×Int×Int×Int×Int)=>
 Q (res_2,50)))
theorem F190_calls(p0:Sl)(p1:Sl)(Q:(Int×Int×Int×Int×Int×Int)×Int->Pr)(w:World)(h:F190 p0 p1 Q w):Calls Tryz.prog 190 #[(slV p0),(slV p1)] w (RetT [.agg [I64,I64,I64,I64,I64,I64],.c I64] Q):=cF (an:=an190) Tryz.func190 (by kernel_rfl) h
def an183:An:=(.sq .z (.sq (.sq (.jn [(12,.c .bool)] .z) (.br (.sq .z .z) .z)) (.sq .z (.sq (.sq .z (.bl (.lp [(16,.c (.int .i64))] (.sq .z (.sq (.br .z .z) (.sq (.bl (.sq .z .z)) .z)))))) (.sq .z .z)))))
def F183(p0:Int)(p1:Int)(Q:Sl->Pr):Pr:=
 jn (S:=Bool) (λR=>
 br (decide (p0<1)) (
 R true) (
 R ((decide (p0>8))))) λs=>
 br s (
 Q (⟨none,0,0⟩)) (
 mkS 5 1 [(.int .u8 0)] p0 p0 λt14=>
 loopE (S:=Int) (λX s_1=>
 br (decide (s_1<p0)) (
 owe ((0:Int)<=(IntKind.wrap .i64 (8*s_1)))<|
 owe ((0:Int)<=s_1/\s_1<(t14.len:Int))<|
 deref t14.a λa=>
 deref (some (a.add (Int.toNat s_1*1))) λa_1=>
 st a_1 (.int .u8 (IntKind.wrap .u8 (bShr .u64 p1 (IntKind.wrap .i64 (8*s_1)))))<|
 X ((IntKind.wrap .i64 (s_1+1)))) (
 Q t14)) 0)
theorem F183_calls(p0:Int)(p1:Int)(Q:Sl->Pr)(w:World)(h:F183 p0 p1 Q w):Calls Tryz.prog 183 #[(.int .i64 p0),(.int .u64 p1)] w (RetT [.c .slice] Q):=cF (an:=an183) Tryz.func183 (by kernel_rfl) h
def an212:An:=(.sq .z (.sq .z (.sq (.sq .z (.bl (.lp [(3,.c (.int .u32)),(8,.c (.int .i64))] (.sq .z (.sq (.br .z .z) (.sq (.bl (.sq .z (.sq .z (.sq .z (.bl (.lp [(3,.c (.int .u32)),(16,.c (.int .i64))] (.sq .z (.sq (.br .z .z) (.sq (.bl .z) .z))))))))) .z)))))) (.sq .z .z))))
def F212(p0:Sl)(Q:Int->Pr):Pr:=
 loopE (S:=Int×Int) (λX s=>
 br (decide (s.2<(p0.len:Int))) (
 owe ((0:Int)<=s.2/\s.2<(p0.len:Int))<|
 deref p0.a λa=>
 deref (some (a.add (Int.toNat s.2*1))) λa_1=>
 ldC (.int .u8) a_1 λ(t11:Int)=>
 loopE (S:=Int×Int) (λX_1 s_1=>
 br (decide (s_1.2<8)) (
 owe ((0:Int)<=1)<|
 X_1 ((bXor .u32 (bShr .u32 s_1.1 1) (IntKind.wrap .u32 (2197175160*(bAnd .u32 s_1.1 1)))),(IntKind.wrap .i64 (s_1.2+1)))) (
 X (s_1.1,(IntKind.wrap .i64 (s.2+1))))) ((bXor .u32 s.1 (IntKind.wrap .u32 t11)),0)) (
 Q ((bXor .u32 4294967295 s.1)))) (4294967295,0)
theorem F212_calls(p0:Sl)(Q:Int->Pr)(w:World)(h:F212 p0 Q w):Calls Tryz.prog 212 #[(slV p0)] w (RetT [.c (.int .u32)] Q):=cF (an:=an212) Tryz.func212 (by kernel_rfl) h
def an184:An:=(.sq .z (.sq .z .z))
def F184(p0:Sl)(Q:Sl->Pr):Pr:=
 callF Tryz.prog 212 [(.slice p0.a p0.len p0.cap)] [.c (.int .u32)] λ(t5:Int)=>
 callF Tryz.prog 183 [(.int .i64 4),(.int .u64 (IntKind.wrap .u64 t5))] [.c .slice] λ(t7:Sl)=>
 nw (.cells #[(.slice p0.a p0.len p0.cap),(.slice t7.a t7.len t7.cap)] 33) λr=>
 callF Tryz.prog 79 [(.slice (some ⟨r,0,none⟩) 2 2)] [.c .slice] λ(t9:Sl)=>
 Q t9
theorem F184_calls(p0:Sl)(Q:Sl->Pr)(w:World)(h:F184 p0 Q w):Calls Tryz.prog 184 #[(slV p0)] w (RetT [.c .slice] Q):=cF (an:=an184) Tryz.func184 (by kernel_rfl) h
def an188:An:=(.sq .z (.sq (.sq (.jn [(12,.c .bool)] .z) (.br (.sq .z .z) .z)) (.sq .z (.sq (.sq .z (.bl (.lp [(5,.c .slice),(6,.c (.int .i64))] (.sq (.sq .z (.br .z .z)) (.sq (.bl .z) .z))))) (.sq .z .z)))))
def F188(p0:Int)(p1:Int)(Q:Sl->Pr):Pr:=
 jn (S:=Bool) (λR=>
 br (decide (p0<1)) (
 R true) (
 R ((decide (p0>8))))) λs=>
 br s (
 Q (⟨none,0,0⟩)) (
 loopE (S:=Sl×Int) (λX s_1=>
 br (decide (s_1.2<p0)) (
 owe ((0:Int)<=(IntKind.wrap .u64 (IntKind.wrap .i64 (8*s_1.2))))<|
 nw (.cells #[(.int .u8 (IntKind.wrap .u8 (bShr .u64 p1 (IntKind.wrap .u64 (IntKind.wrap .i64 (8*s_1.2))))))] 5) λr=>
 app 5 1 1 [(.int .u8 0)] s_1.1 ⟨(some ⟨r,0,none⟩),1,1⟩ λt26=>
 X (t26,(IntKind.wrap .i64 (s_1.2+1)))) (
 Q s_1.1)) (⟨none,0,0⟩,0))
theorem F188_calls(p0:Int)(p1:Int)(Q:Sl->Pr)(w:World)(h:F188 p0 p1 Q w):Calls Tryz.prog 188 #[(.int .i64 p0),(.int .u64 p1)] w (RetT [.c .slice] Q):=cF (an:=an188) Tryz.func188 (by kernel_rfl) h
def an189:An:=(.sq .z (.sq .z (.sq (.sq .z (.bl (.lp [(3,.c (.int .u32)),(4,.c (.int .i64))] (.sq (.sq .z (.br .z .z)) (.sq (.bl (.sq .z (.sq .z (.bl (.lp [(3,.c (.int .u32)),(5,.c (.int .i64))] (.sq (.sq .z (.br .z .z)) (.sq (.jn [(3,.c (.int .u32))] (.bl (.sq .z (.br .z .z)))) .z))))))) .z))))) (.sq .z .z))))
def F189(p0:Sl)(Q:Int->Pr):Pr:=
 loopE (S:=Int×Int) (λX s=>
 br (decide (s.2<(p0.len:Int))) (
 owe ((0:Int)<=s.2/\s.2<(p0.len:Int))<|
 deref p0.a λa=>
 deref (some (a.add (Int.toNat s.2*1))) λa_1=>
 ldC (.int .u8) a_1 λ(t16:Int)=>
 loopE (S:=Int×Int) (λX_1 s_1=>
 br (decide (s_1.2<8)) (
 jn (S:=Int) (λR=>
 owe ((2:Int)≠0)<|
 br ((s_1.1.tmod 2)==1) (
 owe ((0:Int)<=1)<|
 R ((bXor .u32 (bShr .u32 s_1.1 1) 2197175160))) (
 owe ((0:Int)<=1)<|
 R ((bShr .u32 s_1.1 1)))) λs_2=>
 X_1 (s_2,(IntKind.wrap .i64 (s_1.2+1)))) (
 X (s_1.1,(IntKind.wrap .i64 (s.2+1))))) ((bXor .u32 s.1 (IntKind.wrap .u32 t16)),0)) (
 Q ((bXor .u32 4294967295 s.1)))) (4294967295,0)
theorem F189_calls(p0:Sl)(Q:Int->Pr)(w:World)(h:F189 p0 Q w):Calls Tryz.prog 189 #[(slV p0)] w (RetT [.c (.int .u32)] Q):=cF (an:=an189) Tryz.func189 (by kernel_rfl) h
def an231:An:=(.sq .z (.sq (.sq (.jn [(33,.c .bool)] .z) (.br (.sq .z .z) .z)) (.sq .z (.sq (.sq .z (.bl (.lp [(8,.c (.int .u64)),(35,.c (.int .i64))] (.sq .z (.sq (.br .z .z) (.sq (.bl (.sq .z .z)) .z)))))) (.sq .z .z)))))
def F231(p0:Sl)(p1:Int)(p2:Int)(Q:Int×Bool->Pr):Pr:=
 jn (S:=Bool) (λR=>
 br (decide (p2<1)) (
 R true) (
 br (decide (p2>8)) (
 R true) (
 br (decide (p1<0)) (
 R true) (
 br (decide (p1>(p0.len:Int))) (
 R true) (
 R ((decide (p2>(IntKind.wrap .i64 ((p0.len:Int)-p1)))))))))) λs=>
 br s (
 Q (0,false)) (
 loopE (S:=Int×Int) (λX s_1=>
 br (decide (s_1.2<p2)) (
 owe ((0:Int)<=(IntKind.wrap .i64 (p1+s_1.2))/\(IntKind.wrap .i64 (p1+s_1.2))<(p0.len:Int))<|
 deref p0.a λa=>
 deref (some (a.add (Int.toNat (IntKind.wrap .i64 (p1+s_1.2))*1))) λa_1=>
 ldC (.int .u8) a_1 λ(t44:Int)=>
 owe ((0:Int)<=(IntKind.wrap .i64 (8*s_1.2)))<|
 X ((bOr .u64 s_1.1 (bShl .u64 (IntKind.wrap .u64 t44) (IntKind.wrap .i64 (8*s_1.2)))),(IntKind.wrap .i64 (s_1.2+1)))) (
 Q (s_1.1,true))) (0,0))
theorem F231_calls(p0:Sl)(p1:Int)(p2:Int)(Q:Int×Bool->Pr)(w:World)(h:F231 p0 p1 p2 Q w):Calls Tryz.prog 231 #[(slV p0),(.int .i64 p1),(.int .i64 p2)] w (RetT [.c (.int .u64),.c .bool] Q):=cF (an:=an231) Tryz.func231 (by kernel_rfl) h
def an45:An:=(.sq .z (.sq (.sq (.jn [(11,.c .bool)] .z) (.br (.sq .z .z) .z)) (.sq .z (.sq (.sq .z (.bl (.lp [(5,.c (.int .i64))] (.sq (.sq .z (.br .z .z)) (.sq (.jn [] (.bl .z)) .z))))) (.sq .z .z)))))
def F45(p0:Int)(Q:(Option Addr)×Int->Pr):Pr:=
 jn (S:=Bool) (λR=>
 br (decide (p0<1)) (
 R true) (
 R ((decide (p0>2048))))) λs=>
 br s (
 Q (none,1)) (
 nw (.cells #[(.slice none 0 0),(.slice none 0 0),(.bool false),(.int .i64 0),(.int .i64 0),(.slice none 0 0)] 134) λr=>
 loopE (S:=Int) (λX s_1=>
 br (decide (s_1<p0)) (
 jn (S:=Unit) (λR_1=>
 drw<|
 deref (some ⟨r,0,none⟩) λa=>
 deref (some a) λa_1=>
 both (
 deref (some (a_1.add 0)) λa_2=>
 ldC .slice a_2 λ(t23:Sl)=>
 mkS 5 1 [(.int .u8 0)] 256 256 λt24=>
 nw (.cells #[(.slice t24.a t24.len t24.cap)] 33) λr_1=>
 app 33 1 24 [(.slice none 0 0)] t23 ⟨(some ⟨r_1,0,none⟩),1,1⟩ λt26=>
 deref (some ⟨r,0,none⟩) λa_3=>
 deref (some a_3) λa_4=>
 deref (some (a_4.add 0)) λa_5=>
 st a_5 (.slice t26.a t26.len t26.cap)<|
 R_1 ()) (
 mkS 5 1 [(.int .u8 0)] 256 256 λt24_1=>
 deref (some (a_1.add 0)) λa_6=>
 ldC .slice a_6 λ(t23_1:Sl)=>
 nw (.cells #[(.slice t24_1.a t24_1.len t24_1.cap)] 33) λr_2=>
 app 33 1 24 [(.slice none 0 0)] t23_1 ⟨(some ⟨r_2,0,none⟩),1,1⟩ λt26_1=>
 deref (some ⟨r,0,none⟩) λa_7=>
 deref (some a_7) λa_8=>
 deref (some (a_8.add 0)) λa_9=>
 st a_9 (.slice t26_1.a t26_1.len t26_1.cap)<|
 R_1 ())) λs_2=>
 X ((IntKind.wrap .i64 (s_1+1)))) (
 Q ((some ⟨r,0,none⟩),0))) 0)
theorem F45_calls(p0:Int)(Q:(Option Addr)×Int->Pr)(w:World)(h:F45 p0 Q w):Calls Tryz.prog 45 #[(.int .i64 p0)] w (RetT [.c .ptr,.c (.int .i64)] Q):=cF (an:=an45) Tryz.func45 (by kernel_rfl) h
def an148:An:=(.sq .z (.sq (.sq .z (.br (.sq .z .z) .z)) (.sq (.sq (.jn [(22,.c .bool)] .z) (.br (.sq .z .z) .z)) (.sq .z (.sq (.sq .z (.bl (.lp [(6,.c .slice),(7,.c (.int .i64))] (.sq (.sq .z (.br .z .z)) (.sq (.jn [(6,.c .slice)] (.bl (.sq .z (.br .z .z)))) .z))))) (.sq .z .z))))))
def F148(p0:Option Addr)(p1:Int)(Q:Sl×Int->Pr):Pr:=
 deref p0 λa=>
 deref (some a) λa_1=>
 deref (some (a_1.add 2)) λa_2=>
 ldC .bool a_2 λ(t11:Bool)=>
 br t11 (
 Q (⟨none,0,0⟩,5)) (
 jn (S:=Bool) (λR=>
 br (decide (p1<0)) (
 R true) (
 deref p0 λa_3=>
 deref (some a_3) λa_4=>
 deref (some (a_4.add 0)) λa_5=>
 ldC .slice a_5 λ(t19:Sl)=>
 R ((decide (p1>=(t19.len:Int)))))) λs=>
 br s (
 Q (⟨none,0,0⟩,30)) (
 deref p0 λa_6=>
 deref (some a_6) λa_7=>
 deref (some (a_7.add 0)) λa_8=>
 ldC .slice a_8 λ(t26:Sl)=>
 owe ((0:Int)<=p1/\p1<(t26.len:Int))<|
 deref t26.a λa_9=>
 deref (some (a_9.add (Int.toNat p1*1))) λa_10=>
 ldC .slice a_10 λ(t29:Sl)=>
 loopE (S:=Sl×Int) (λX s_1=>
 deref p0 λa_11=>
 deref (some a_11) λa_12=>
 deref (some (a_12.add 1)) λa_13=>
 ldC .slice a_13 λ(t34:Sl)=>
 br (decide (s_1.2<(t34.len:Int))) (
 jn (S:=Sl) (λR_1=>
 deref p0 λa_14=>
 deref (some a_14) λa_15=>
 deref (some (a_15.add 1)) λa_16=>
 ldC .slice a_16 λ(t42:Sl)=>
 owe ((0:Int)<=s_1.2/\s_1.2<(t42.len:Int))<|
 deref t42.a λa_17=>
 deref (some (a_17.add (Int.toNat s_1.2*2))) λa_18=>
 deref (some (a_18.add 0)) λa_19=>
 ldC (.int .i64) a_19 λ(t46:Int)=>
 br (t46==p1) (
 deref p0 λa_20=>
 deref (some a_20) λa_21=>
 deref (some (a_21.add 1)) λa_22=>
 ldC .slice a_22 λ(t52:Sl)=>
 owe ((0:Int)<=s_1.2/\s_1.2<(t52.len:Int))<|
 deref t52.a λa_23=>
 deref (some (a_23.add (Int.toNat s_1.2*2))) λa_24=>
 deref (some (a_24.add 1)) λa_25=>
 ldC .slice a_25 λ(t56:Sl)=>
 R_1 t56) (
 R_1 s_1.1)) λs_2=>
 X (s_2,(IntKind.wrap .i64 (s_1.2+1)))) (
 app 5 1 1 [(.int .u8 0)] ⟨none,0,0⟩ s_1.1 λt58=>
 Q (t58,0))) (t29,0)))
theorem F148_calls(p0:Option Addr)(p1:Int)(Q:Sl×Int->Pr)(w:World)(h:F148 p0 p1 Q w):Calls Tryz.prog 148 #[(.pointer p0),(.int .i64 p1)] w (RetT [.c .slice,.c (.int .i64)] Q):=cF (an:=an148) Tryz.func148 (by kernel_rfl) h
def an185:An:=(.sq .z (.sq .z (.sq (.sq .z (.br (.sq .z .z) .z)) (.sq .z (.sq .z .z)))))
def F185(p0:Option Addr)(Q:Bool->Pr):Pr:=
 deref p0 λa=>
 deref (some a) λa_1=>
 deref (some (a_1.add 3)) λa_2=>
 ldC (.int .i64) a_2 λ(t6:Int)=>
 deref p0 λa_3=>
 deref (some a_3) λa_4=>
 deref (some (a_4.add 3)) λa_5=>
 st a_5 (.int .i64 (IntKind.wrap .i64 (t6+1)))<|
 deref p0 λa_6=>
 deref (some a_6) λa_7=>
 deref (some (a_7.add 4)) λa_8=>
 ldC (.int .i64) a_8 λ(t13:Int)=>
 br (t13==0) (
 Q false) (
 deref p0 λa_9=>
 deref (some a_9) λa_10=>
 deref (some (a_10.add 4)) λa_11=>
 ldC (.int .i64) a_11 λ(t18:Int)=>
 deref p0 λa_12=>
 deref (some a_12) λa_13=>
 deref (some (a_13.add 4)) λa_14=>
 st a_14 (.int .i64 (IntKind.wrap .i64 (t18-1)))<|
 deref p0 λa_15=>
 deref (some a_15) λa_16=>
 deref (some (a_16.add 4)) λa_17=>
 ldC (.int .i64) a_17 λ(t25:Int)=>
 Q ((t25==0)))
theorem F185_calls(p0:Option Addr)(Q:Bool->Pr)(w:World)(h:F185 p0 Q w):Calls Tryz.prog 185 #[(.pointer p0)] w (RetT [.c .bool] Q):=cF (an:=an185) Tryz.func185 (by kernel_rfl) h
def an186:An:=(.sq .z (.sq .z (.sq (.sq .z (.bl (.lp [(7,.c (.int .i64))] (.sq (.sq .z (.br .z .z)) (.sq (.jn [] (.bl (.sq .z (.br .z .z)))) .z))))) .z)))
def F186(p0:Option Addr)(p1_0:Int)(p1_1:Sl)(p2:Int)(Q:Unit->Pr):Pr:=
 nw (.cells #[(.int .i64 p1_0),(.slice p1_1.a p1_1.len p1_1.cap)] 143) λr=>
 drw<|
 deref p0 λa=>
 deref (some a) λa_1=>
 deref (some (a_1.add 0)) λa_2=>
 ldC .slice a_2 λ(t11:Sl)=>
 deref (some ⟨r,0,none⟩) λa_3=>
 deref (some (a_3.add 0)) λa_4=>
 ldC (.int .i64) a_4 λ(t13:Int)=>
 owe ((0:Int)<=t13/\t13<(t11.len:Int))<|
 deref t11.a λa_5=>
 deref (some (a_5.add (Int.toNat t13*1))) λa_6=>
 ldC .slice a_6 λ(t15:Sl)=>
 app 5 1 1 [(.int .u8 0)] ⟨none,0,0⟩ t15 λt16=>
 loopE (S:=Int) (λX s=>
 br (decide (s<256)) (
 jn (S:=Unit) (λR=>
 owe ((64:Int)≠0)<|
 owe ((0:Int)<=(IntKind.wrap .u64 (IntKind.wrap .i64 (s.tdiv 64))))<|
 br ((bAnd .u8 (bShr .u8 p2 (IntKind.wrap .u64 (IntKind.wrap .i64 (s.tdiv 64)))) 1)==1) (
 deref (some ⟨r,0,none⟩) λa_7=>
 deref (some (a_7.add 1)) λa_8=>
 ldC .slice a_8 λ(t31:Sl)=>
 owe ((0:Int)<=s/\s<(t31.len:Int))<|
 deref t31.a λa_9=>
 deref (some (a_9.add (Int.toNat s*1))) λa_10=>
 ldC (.int .u8) a_10 λ(t34:Int)=>
 owe ((0:Int)<=s/\s<(t16.len:Int))<|
 deref t16.a λa_11=>
 deref (some (a_11.add (Int.toNat s*1))) λa_12=>
 st a_12 (.int .u8 t34)<|
 R ()) (
 R ())) λs_1=>
 X ((IntKind.wrap .i64 (s+1)))) (
 drw<|
 deref p0 λa_13=>
 deref (some a_13) λa_14=>
 deref (some (a_14.add 0)) λa_15=>
 ldC .slice a_15 λ(t39:Sl)=>
 deref (some ⟨r,0,none⟩) λa_16=>
 deref (some (a_16.add 0)) λa_17=>
 ldC (.int .i64) a_17 λ(t41:Int)=>
 owe ((0:Int)<=t41/\t41<(t39.len:Int))<|
 deref t39.a λa_18=>
 deref (some (a_18.add (Int.toNat t41*1))) λa_19=>
 st a_19 (.slice t16.a t16.len t16.cap)<|
 Q ())) 0
theorem F186_calls(p0:Option Addr)(p1_0:Int)(p1_1:Sl)(p2:Int)(Q:Unit->Pr)(w:World)(h:F186 p0 p1_0 p1_1 p2 Q w):Calls Tryz.prog 186 #[(.pointer p0),(.agg #[(.int .i64 p1_0),(slV p1_1)]),(.int .u8 p2)] w (RetT [] Q):=cF (an:=an186) Tryz.func186 (by kernel_rfl) h
def an150:An:=(.sq .z (.sq (.sq .z (.br (.sq .z .z) .z)) (.sq (.sq .z (.bl (.lp [(5,.c (.int .i64))] (.sq (.sq (.jn [(22,.c .bool)] .z) (.br .z .z)) (.sq (.bl .z) .z))))) (.sq .z (.sq .z (.sq .z (.sq .z (.sq .z .z))))))))
def F150(p0:Option Addr)(p1:Sl)(Q:Int->Pr):Pr:=
 deref p0 λa=>
 deref (some a) λa_1=>
 deref (some (a_1.add 2)) λa_2=>
 ldC .bool a_2 λ(t9:Bool)=>
 br t9 (
 Q 5) (
 loopE (S:=Int) (λX s=>
 jn (S:=Bool) (λR=>
 deref p0 λa_3=>
 deref (some a_3) λa_4=>
 deref (some (a_4.add 1)) λa_5=>
 ldC .slice a_5 λ(t14:Sl)=>
 br (decide (s<(t14.len:Int))) (
 R ((decide (s<(p1.len:Int))))) (
 R false)) λs_1=>
 br s_1 (
 drw<|
 deref p0 λa_6=>
 deref (some a_6) λa_7=>
 deref (some (a_7.add 1)) λa_8=>
 ldC .slice a_8 λ(t29:Sl)=>
 owe ((0:Int)<=s/\s<(t29.len:Int))<|
 deref t29.a λa_9=>
 deref (some (a_9.add (Int.toNat s*2))) λa_10=>
 ldA [(.int .i64),.slice] a_10 λ(t32:Int×Sl)=>
 owe ((0:Int)<=s/\s<(p1.len:Int))<|
 deref p1.a λa_11=>
 deref (some (a_11.add (Int.toNat s*1))) λa_12=>
 ldC (.int .u8) a_12 λ(t36:Int)=>
 callF Tryz.prog 186 [(.pointer p0),(.agg #[(.int .i64 t32.1),(.slice t32.2.a t32.2.len t32.2.cap)]),(.int .u8 t36)] [] λ(t37:Unit)=>
 X ((IntKind.wrap .i64 (s+1)))) (
 deref p0 λa_13=>
 deref (some a_13) λa_14=>
 deref (some (a_14.add 1)) λa_15=>
 st a_15 (.slice none 0 0)<|
 deref p0 λa_16=>
 deref (some a_16) λa_17=>
 deref (some (a_17.add 2)) λa_18=>
 st a_18 (.bool true)<|
 deref p0 λa_19=>
 deref (some a_19) λa_20=>
 deref (some (a_20.add 4)) λa_21=>
 st a_21 (.int .i64 0)<|
 deref p0 λa_22=>
 deref (some a_22) λa_23=>
 deref (some (a_23.add 5)) λa_24=>
 st a_24 (.slice none 0 0)<|
 Q 0)) 0)
theorem F150_calls(p0:Option Addr)(p1:Sl)(Q:Int->Pr)(w:World)(h:F150 p0 p1 Q w):Calls Tryz.prog 150 #[(.pointer p0),(slV p1)] w (RetT [.c (.int .i64)] Q):=cF (an:=an150) Tryz.func150 (by kernel_rfl) h
def an136:An:=(.sq .z (.sq (.sq .z (.br (.sq .z .z) .z)) (.sq (.sq (.jn [(21,.c .bool)] .z) (.br (.sq .z .z) .z)) (.sq (.sq .z (.br (.sq .z .z) .z)) (.sq .z (.sq (.sq .z (.br (.sq .z (.sq .z .z)) .z)) (.sq .z .z)))))))
def F136(p0:Option Addr)(p1:Int)(p2:Sl)(Q:Int->Pr):Pr:=
 deref p0 λa=>
 deref (some a) λa_1=>
 deref (some (a_1.add 2)) λa_2=>
 ldC .bool a_2 λ(t10:Bool)=>
 br t10 (
 Q 5) (
 jn (S:=Bool) (λR=>
 br (decide (p1<0)) (
 R true) (
 deref p0 λa_3=>
 deref (some a_3) λa_4=>
 deref (some (a_4.add 0)) λa_5=>
 ldC .slice a_5 λ(t18:Sl)=>
 R ((decide (p1>=(t18.len:Int)))))) λs=>
 br s (
 Q 30) (
 br ((p2.len:Int)!=256) (
 Q 31) (
 drw<|
 deref p0 λa_6=>
 deref (some a_6) λa_7=>
 deref (some (a_7.add 1)) λa_8=>
 ldC .slice a_8 λ(t29:Sl)=>
 app 5 1 1 [(.int .u8 0)] ⟨none,0,0⟩ p2 λt32=>
 nw (.cells #[(.int .i64 p1),(.slice t32.a t32.len t32.cap)] 143) λr=>
 app 143 2 32 [(.int .i64 0),(.slice none 0 0)] t29 ⟨(some ⟨r,0,none⟩),1,1⟩ λt35=>
 deref p0 λa_9=>
 deref (some a_9) λa_10=>
 deref (some (a_10.add 1)) λa_11=>
 st a_11 (.slice t35.a t35.len t35.cap)<|
 callF Tryz.prog 185 [(.pointer p0)] [.c .bool] λ(t39:Bool)=>
 br t39 (
 deref p0 λa_12=>
 deref (some a_12) λa_13=>
 deref (some (a_13.add 5)) λa_14=>
 ldC .slice a_14 λ(t44:Sl)=>
 callF Tryz.prog 150 [(.pointer p0),(.slice t44.a t44.len t44.cap)] [.c (.int .i64)] λ(t45:Int)=>
 Q 5) (
 Q 0))))
theorem F136_calls(p0:Option Addr)(p1:Int)(p2:Sl)(Q:Int->Pr)(w:World)(h:F136 p0 p1 p2 Q w):Calls Tryz.prog 136 #[(.pointer p0),(.int .i64 p1),(slV p2)] w (RetT [.c (.int .i64)] Q):=cF (an:=an136) Tryz.func136 (by kernel_rfl) h
def an39:An:=(.sq .z (.sq (.sq .z (.br (.sq .z .z) .z)) (.sq (.sq .z (.br (.sq .z .z) .z)) (.sq .z (.sq .z (.sq .z .z))))))
def F39(p0:Option Addr)(p1:Int)(p2:Sl)(Q:Int->Pr):Pr:=
 deref p0 λa=>
 deref (some a) λa_1=>
 deref (some (a_1.add 2)) λa_2=>
 ldC .bool a_2 λ(t10:Bool)=>
 br t10 (
 Q 5) (
 br (decide (p1<0)) (
 Q 1) (
 deref p0 λa_3=>
 deref (some a_3) λa_4=>
 deref (some (a_4.add 4)) λa_5=>
 st a_5 (.int .i64 p1)<|
 app 5 1 1 [(.int .u8 0)] ⟨none,0,0⟩ p2 λt19=>
 deref p0 λa_6=>
 deref (some a_6) λa_7=>
 deref (some (a_7.add 5)) λa_8=>
 st a_8 (.slice t19.a t19.len t19.cap)<|
 Q 0))
theorem F39_calls(p0:Option Addr)(p1:Int)(p2:Sl)(Q:Int->Pr)(w:World)(h:F39 p0 p1 p2 Q w):Calls Tryz.prog 39 #[(.pointer p0),(.int .i64 p1),(slV p2)] w (RetT [.c (.int .i64)] Q):=cF (an:=an39) Tryz.func39 (by kernel_rfl) h
def an38:An:=(.sq .z (.sq (.sq .z (.sq .z (.br (.sq .z .z) .z))) (.sq (.sq .z (.br (.sq .z .z) .z)) (.sq .z (.sq .z .z)))))
def F38(p0:Option Addr)(p1:Int)(p2:Sl)(Q:Int->Pr):Pr:=
 callF Tryz.prog 67 [(.pointer p0)] [.c (.int .i64)] λ(t9:Int)=>
 br (t9 !=0) (
 Q t9) (
 br (decide (p1<0)) (
 Q 1) (
 callF Tryz.prog 86 [(.slice p2.a p2.len p2.cap)] [.c .slice] λ(t19:Sl)=>
 deref p0 λa=>
 deref (some a) λa_1=>
 deref (some (a_1.add 4)) λa_2=>
 st a_2 (.int .i64 p1)<|
 deref p0 λa_3=>
 deref (some a_3) λa_4=>
 deref (some (a_4.add 5)) λa_5=>
 st a_5 (.slice t19.a t19.len t19.cap)<|
 Q 0))
theorem F38_calls(p0:Option Addr)(p1:Int)(p2:Sl)(Q:Int->Pr)(w:World)(h:F38 p0 p1 p2 Q w):Calls Tryz.prog 38 #[(.pointer p0),(.int .i64 p1),(slV p2)] w (RetT [.c (.int .i64)] Q):=cF (an:=an38) Tryz.func38 (by kernel_rfl) h
def an23:An:=(.sq .z (.sq (.sq .z (.bl (.sq .z (.br (.sq .z .z) (.sq .z (.br (.sq .z (.sq .z .z)) .z)))))) (.sq .z .z)))
def F23(p0:Option Addr)(Q:Int->Pr):Pr:=
 callF Tryz.prog 67 [(.pointer p0)] [.c (.int .i64)] λ(t4:Int)=>
 br (t4==0) (
 Q 7) (
 br (t4==5) (
 deref p0 λa=>
 deref (some a) λa_1=>
 deref (some (a_1.add 2)) λa_2=>
 st a_2 (.bool false)<|
 Q 0) (
 Q 2))
theorem F23_calls(p0:Option Addr)(Q:Int->Pr)(w:World)(h:F23 p0 Q w):Calls Tryz.prog 23 #[(.pointer p0)] w (RetT [.c (.int .i64)] Q):=cF (an:=an23) Tryz.func23 (by kernel_rfl) h
def an25:An:=(.sq .z (.sq (.sq .z (.br (.sq .z .z) .z)) (.sq .z .z)))
def F25(p0:Option Addr)(Q:Sl->Pr):Pr:=
 owe True<|
 br (Option.isNone p0) (
 Q (⟨none,0,0⟩)) (
 deref p0 λa=>
 deref (some a) λa_1=>
 deref (some (a_1.add 0)) λa_2=>
 ldC .slice a_2 λ(t8:Sl)=>
 callF Tryz.prog 79 [(.slice t8.a t8.len t8.cap)] [.c .slice] λ(t9:Sl)=>
 Q t9)
theorem F25_calls(p0:Option Addr)(Q:Sl->Pr)(w:World)(h:F25 p0 Q w):Calls Tryz.prog 25 #[(.pointer p0)] w (RetT [.c .slice] Q):=cF (an:=an25) Tryz.func25 (by kernel_rfl) h
def an92:An:=(.sq .z (.sq .z (.sq (.sq .z (.bl (.lp [(3,.c .slice),(4,.c (.int .i64))] (.sq (.sq .z (.br .z .z)) (.sq (.bl .z) .z))))) (.sq .z .z))))
def F92(p0:Option Addr)(Q:Sl->Pr):Pr:=
 loopE (S:=Sl×Int) (λX s=>
 deref p0 λa=>
 deref (some a) λa_1=>
 deref (some (a_1.add 0)) λa_2=>
 ldC .slice a_2 λ(t9:Sl)=>
 br (decide (s.2<(t9.len:Int))) (
 deref p0 λa_3=>
 deref (some a_3) λa_4=>
 deref (some (a_4.add 0)) λa_5=>
 ldC .slice a_5 λ(t18:Sl)=>
 owe ((0:Int)<=s.2/\s.2<(t18.len:Int))<|
 deref t18.a λa_6=>
 deref (some (a_6.add (Int.toNat s.2*1))) λa_7=>
 ldC .slice a_7 λ(t21:Sl)=>
 app 5 1 1 [(.int .u8 0)] s.1 t21 λt22=>
 X (t22,(IntKind.wrap .i64 (s.2+1)))) (
 Q s.1)) (⟨none,0,0⟩,0)
theorem F92_calls(p0:Option Addr)(Q:Sl->Pr)(w:World)(h:F92 p0 Q w):Calls Tryz.prog 92 #[(.pointer p0)] w (RetT [.c .slice] Q):=cF (an:=an92) Tryz.func92 (by kernel_rfl) h
def an79:An:=(.sq .z (.sq .z (.sq (.sq .z (.bl (.lp [(3,.c (.int .i64)),(11,.c (.int .i64))] (.sq .z (.sq (.br .z .z) (.sq (.jn [(3,.c (.int .i64))] (.bl (.sq .z (.sq .z (.sq .z (.br .z .z)))))) .z)))))) (.sq .z (.sq (.sq .z (.bl (.lp [(6,.c .slice),(27,.c (.int .i64))] (.sq .z (.sq (.br .z .z) (.sq (.bl (.sq .z .z)) .z)))))) (.sq .z .z))))))
def F79(p0:Sl)(Q:Sl->Pr):Pr:=
 loopE (S:=Int×Int) (λX s=>
 br (decide (s.2<(p0.len:Int))) (
 jn (S:=Int) (λR=>
 owe ((0:Int)<=s.2/\s.2<(p0.len:Int))<|
 deref p0.a λa=>
 deref (some (a.add (Int.toNat s.2*1))) λa_1=>
 ldC .slice a_1 λ(t14:Sl)=>
 br (decide ((IntKind.wrap .i64 (s.1+(t14.len:Int)))<0)) (
 fls) (
 R ((IntKind.wrap .i64 (s.1+(t14.len:Int)))))) λs_1=>
 X (s_1,(IntKind.wrap .i64 (s.2+1)))) (
 callF Tryz.prog 135 [(.slice none 0 0),(.int .i64 s.1)] [.c .slice] λ(t24:Sl)=>
 loopE (S:=Sl×Int) (λX_1 s_2=>
 br (decide (s_2.2<(p0.len:Int))) (
 owe ((0:Int)<=s_2.2/\s_2.2<(p0.len:Int))<|
 deref p0.a λa_2=>
 deref (some (a_2.add (Int.toNat s_2.2*1))) λa_3=>
 ldC .slice a_3 λ(t30:Sl)=>
 app 5 1 1 [(.int .u8 0)] s_2.1 t30 λt33=>
 X_1 (t33,(IntKind.wrap .i64 (s_2.2+1)))) (
 Q s_2.1)) (t24,0))) (0,0)
theorem F79_calls(p0:Sl)(Q:Sl->Pr)(w:World)(h:F79 p0 Q w):Calls Tryz.prog 79 #[(slV p0)] w (RetT [.c .slice] Q):=cF (an:=an79) Tryz.func79 (by kernel_rfl) h
def an135:An:=(.sq .z (.sq (.jn [] (.sq .z (.br .z .z))) (.sq (.sq .z (.sq .z (.br .z .z))) (.sq .z .z))))
def F135(p0:Sl)(p1:Int)(Q:Sl->Pr):Pr:=
 jn (S:=Unit) (λR=>
 br (decide (p1<0)) (
 fls) (
 R ())) λs=>
 br (decide ((IntKind.wrap .i64 (p1-(IntKind.wrap .i64 ((p0.cap:Int)-(p0.len:Int)))))>0)) (
 slc 1 p0 none (some (p0.cap:Int)) none λt20=>
 appZ 5 1 1 [(.int .u8 0)] t20 (IntKind.wrap .i64 (p1-(IntKind.wrap .i64 ((p0.cap:Int)-(p0.len:Int))))) λt22=>
 slc 1 t22 none (some (p0.len:Int)) none λt25=>
 Q t25) (
 Q p0)
theorem F135_calls(p0:Sl)(p1:Int)(Q:Sl->Pr)(w:World)(h:F135 p0 p1 Q w):Calls Tryz.prog 135 #[(slV p0),(.int .i64 p1)] w (RetT [.c .slice] Q):=cF (an:=an135) Tryz.func135 (by kernel_rfl) h
set_option maxRecDepth 20000
def numB(n v:Nat):List UInt8:=(List.range n).map λi=>UInt8.ofNat (v/2^(8*i))
@[simp]theorem numB_len(n v:Nat):(numB n v).length=n:=by simp[numB]
def leN:List UInt8->Nat
 |[]=>0
 |b::l=>b.toNat+256*leN l
def crcStep(s:Nat):Nat:=if s%2=1 then(s/2)^^^2197175160 else s/2
def crc8:Nat->Nat->Nat
 |0,s=>s
 |k+1,s=>crc8 k (crcStep s)
def crcGo:List UInt8->Nat->Nat
 |[],s=>s
 |b::l,s=>crcGo l (crc8 8 (s^^^b.toNat))
def sumM(l:List UInt8):Nat:=4294967295^^^crcGo l 4294967295
theorem crcStep_lt{s:Nat}(h:s<2^32):crcStep s<2^32:=by
 unfold crcStep;split
 ·exact Nat.xor_lt_two_pow (by omega) (by decide)
 ·omega
theorem crc8_lt{s:Nat}:∀(k:Nat),s<2^32->crc8 k s<2^32
 |0,h=>h
 |k+1,h=>by unfold crc8;exact crc8_lt k (crcStep_lt h)
theorem crc8_succ(k s:Nat):crc8 (k+1) s=crcStep (crc8 k s):=by
 induction k generalizing s with
 |zero=>rfl
 |succ k ih=>
  show crc8 (k+1) (crcStep s)=_;rw[ih];rfl
theorem crcGo_lt:∀(l:List UInt8) {s:Nat},s<2^32->crcGo l s<2^32
 |[],_,h=>h
 |b::l,s,h=>by
  unfold crcGo;refine crcGo_lt l (crc8_lt 8 (Nat.xor_lt_two_pow h ?_));have:=b.toNat_lt;omega
theorem sumM_lt(l:List UInt8):sumM l<2^32:=Nat.xor_lt_two_pow (by decide) (crcGo_lt l (by decide))
theorem crcGo_append(l m:List UInt8)(s:Nat):crcGo (l++m) s=crcGo m (crcGo l s):=by
 induction l generalizing s with
 |nil=>rfl
 |cons b l ih=>exact ih _
theorem numB_succ(j v:Nat):numB (j+1) v=numB j v++[UInt8.ofNat (v/2^(8*j))]:=by
 unfold numB;rw[List.range_succ,List.map_append];rfl
theorem shr8{v j:Nat}(hj:j<8):IntKind.wrap .u8 (bShr .u64 (v:Int) ((8*j:Nat):Int))=(((v/2^(8*j))%256:Nat):Int):=by
 rw[bShr_nat,wrap_u8m];simp only[IntKind.bits];rw[Nat.min_eq_left (by omega)];omega
theorem Y37(n v:Nat)(w:World)(h1:1<=n)(h8:n<=8):Calls Tryz.prog 188 #[.int .i64 n,.int .u64 v] w (RetT [.c .slice] λr w'=>St noF w w' [SlA 1 r ((numB n v).map ub)]):=by
 refine F188_calls n v _ _ ?_;unfold F188;refine jn_of (λb W=>b=false/\w=W) (br_f (by simp;omega) ⟨by simp;omega,rfl⟩) ?_;rintro _ _ ⟨rfl,rfl⟩;refine br_f rfl ?_;refine loop_of (λz W=>∃j:Nat,z.2=j/\j<=n/\St noF w W [SlA 1 z.1 ((numB j v).map ub)]) (λz _=>n-z.2.toNat) ⟨0,rfl,by omega,(St.init0 w).nosl 1⟩ ?_;rintro⟨t,_⟩ W ⟨j,rfl,hj,s1⟩;dsimp only at s1⊢;refine br_of (λhlt=>?_) (λhge=>?_)
 ·simp only[decide_eq_true_eq]at hlt
  have hjn:j<n:=by omega
  rw[wrap_i64 (by omega),wrap_u64m,show((8*(j:Int))%18446744073709551616)=((8*j:Nat):Int) by omega];refine⟨by omega,?_⟩;refine append_one s1 (shr8 (by omega)) (by simp;omega) λr w2 s2=>?_;rw[succ_i64 (by omega)];exact⟨⟨j+1,rfl,by omega,by rw[numB_succ];exact s2⟩,by omega⟩
 ·simp only[decide_eq_false_iff_not]at hge
  have:j=n:=by omega
  subst this;exact s1
theorem Y50(n v:Nat)(w:World)(h1:1<=n)(h8:n<=8):Calls Tryz.prog 183 #[.int .i64 n,.int .u64 v] w (RetT [.c .slice] λr w'=>St noF w w' [SlA 1 r ((numB n v).map ub)]):=by
 refine F183_calls n v _ _ ?_;unfold F183;simp only[deref_some'];refine jn_of (λb W=>b=false/\w=W) (br_f (by simp;omega) ⟨by simp;omega,rfl⟩) ?_;rintro _ _ ⟨rfl,rfl⟩;refine br_f rfl ?_;refine(St.init0 w).mkSi n rfl rfl (by omega) (by omega) λt w1 s1 htl=>?_;rw[zc_one]at s1;refine loop_of (λz W=>∃j:Nat,z=j/\j<=n/\St noF w W [SlA 1 t ((numB j v++List.replicate (n-j) 0).map ub)]) (λz _=>n-z.toNat) ⟨0,rfl,by omega,?_⟩ ?_
 ·have:(numB 0 v++List.replicate (n-0) 0).map ub=List.replicate n (.int .u8 0):=by simp[numB,ub]
  rw[this];exact s1
 rintro _ W ⟨j,rfl,hj,s2⟩;refine br_of (λhlt=>?_) (λhge=>?_)
 ·simp only[decide_eq_true_eq]at hlt
  have hjn:j<n:=by omega
  rw[wrap_i64 (by omega),show(8*(j:Int))=((8*j:Nat):Int) by omega,shr8 (by omega)];refine⟨by omega,⟨by omega,by omega⟩,?_⟩;rw[Int.toNat_natCast];refine put_own s2 (by simp;omega) trivial λw3 s3=>?_;rw[succ_i64 (by omega)];refine⟨⟨j+1,rfl,by omega,?_⟩,by omega⟩;have:((numB j v++List.replicate (n-j) 0).map ub).set j (.int .u8 ((v/2^(8*j)%256:Nat):Int))=(numB (j+1) v++List.replicate (n-(j+1)) 0).map ub:=by
   rw[<-ub_ofNat,<-List.map_set,numB_succ,List.set_append_right _ _ (by simp)];rw[show n-j=(n-(j+1))+1 by omega,List.replicate_succ];simp
  rw[<-this];exact s3
 ·simp only[decide_eq_false_iff_not]at hge
  have:j=n:=by omega
  subst this;simpa using s2
theorem crc_p{s:Nat}(h:s<2^32):bXor .u32 (bShr .u32 (s:Int) 1) (IntKind.wrap .u32 (2197175160*(bAnd .u32 (s:Int) 1)))=((crcStep s:Nat):Int):=by
 have h1:bShr .u32 (s:Int) 1=((s/2:Nat):Int):=bShr_nat .u32 s 1;have h2:bAnd .u32 (s:Int) 1=((s%2:Nat):Int):=by
  have:=bAnd_u32 (x:=s) (y:=1) h (by decide);rw[and_1]at this;exact this
 rw[h1,h2,wrap_u32m];unfold crcStep;rcases Nat.mod_two_eq_zero_or_one s with h3|h3
 ·rw[if_neg (by omega),h3]
  have:=bXor_u32 (x:=s/2) (y:=0) (by omega) (by decide);rw[Nat.xor_zero]at this;exact this
 ·rw[if_pos h3,h3]
  exact bXor_u32 (x:=s/2) (y:=2197175160) (by omega) (by decide)
theorem crc_r{s:Nat}(h:s<2^32):(if s%2=1 then bXor .u32 (bShr .u32 (s:Int) 1) 2197175160 else bShr .u32 (s:Int) 1)=((crcStep s:Nat):Int):=by
 have h1:bShr .u32 (s:Int) 1=((s/2:Nat):Int):=bShr_nat .u32 s 1;rw[h1];unfold crcStep;split
 ·exact bXor_u32 (x:=s/2) (y:=2197175160) (by omega) (by decide)
 ·rfl
theorem Y51(s:Sl)(l:List UInt8)(w:World)(hs:BS w s l)(hl:l.length<=1000000000):Calls Tryz.prog 212 #[.slice s.a s.len s.cap] w (RetT [.c (.int .u32)] λr w'=>r=(sumM l:Nat)/\w=w'):=by
 refine F212_calls s _ _ ?_;unfold F212;simp only[deref_some'];have hsl:=hs.len;refine loop_of (λz W=>∃(j c:Nat),z.2=j/\j<=l.length/\z.1=c/\c=crcGo (l.take j) 4294967295/\w=W) (λz _=>l.length-z.2.toNat) ⟨0,_,rfl,by omega,rfl,rfl,rfl⟩ ?_;rintro⟨_,_⟩ W ⟨j,c,rfl,hj,rfl,hc,rfl⟩;dsimp only;have hc32:c<2^32:=by rw[hc];exact crcGo_lt _ (by decide)
 refine br_of (λhlt=>?_) (λhge=>?_)
 ·simp only[decide_eq_true_eq]at hlt
  have hjl:j<l.length:=by omega
  refine⟨⟨by omega,by omega⟩,?_⟩;rw[Int.toNat_natCast];refine BS.at hs hjl ?_;have hb:=l[j].toNat_lt;rw[wrap_u32m,show((l[j].toNat:Int)%4294967296)=(l[j].toNat:Int) by omega,bXor_u32 hc32 (by omega)];have hx:c^^^l[j].toNat<2^32:=Nat.xor_lt_two_pow hc32 (by omega);refine loop_of (λz W=>∃(i:Nat),z.2=i/\i<=8/\z.1=(crc8 i (c^^^l[j].toNat):Nat)/\w=W) (λz _=>8-z.2.toNat) ⟨0,rfl,by omega,rfl,rfl⟩ ?_;rintro⟨_,_⟩ W ⟨i,rfl,hi,rfl,rfl⟩;dsimp only;refine br_of (λhlt=>?_) (λhge=>?_)
  ·simp only[decide_eq_true_eq]at hlt
   refine⟨by decide,?_⟩;rw[crc_p (crc8_lt _ hx),succ_i64 (by omega),<-crc8_succ];exact⟨⟨i+1,rfl,by omega,rfl,rfl⟩,by omega⟩
  ·simp only[decide_eq_false_iff_not]at hge
   have:i=8:=by omega
   subst this;rw[succ_i64 (by omega)];refine⟨⟨j+1,_,rfl,by omega,rfl,?_,rfl⟩,by omega⟩;rw[List.take_add_one,List.getElem?_eq_getElem hjl,crcGo_append,<-hc];rfl
 ·simp only[decide_eq_false_iff_not]at hge
  rw[List.take_of_length_le (by omega)]at hc;have:=bXor_u32 (x:=4294967295) (y:=c) (by decide) hc32;refine⟨Eq.trans this ?_,rfl⟩;rw[hc];rfl
theorem Y38(s:Sl)(l:List UInt8)(w:World)(hs:BS w s l)(hl:l.length<=1000000000):Calls Tryz.prog 189 #[.slice s.a s.len s.cap] w (RetT [.c (.int .u32)] λr w'=>r=(sumM l:Nat)/\w=w'):=by
 refine F189_calls s _ _ ?_;unfold F189;simp only[deref_some'];have hsl:=hs.len;refine loop_of (λz W=>∃(j c:Nat),z.2=j/\j<=l.length/\z.1=c/\c=crcGo (l.take j) 4294967295/\w=W) (λz _=>l.length-z.2.toNat) ⟨0,_,rfl,by omega,rfl,rfl,rfl⟩ ?_;rintro⟨_,_⟩ W ⟨j,c,rfl,hj,rfl,hc,rfl⟩;dsimp only;have hc32:c<2^32:=by rw[hc];exact crcGo_lt _ (by decide)
 refine br_of (λhlt=>?_) (λhge=>?_)
 ·simp only[decide_eq_true_eq]at hlt
  have hjl:j<l.length:=by omega
  refine⟨⟨by omega,by omega⟩,?_⟩;rw[Int.toNat_natCast];refine BS.at hs hjl ?_;have hb:=l[j].toNat_lt;rw[wrap_u32m,show((l[j].toNat:Int)%4294967296)=(l[j].toNat:Int) by omega,bXor_u32 hc32 (by omega)];have hx:c^^^l[j].toNat<2^32:=Nat.xor_lt_two_pow hc32 (by omega);refine loop_of (λz W=>∃(i:Nat),z.2=i/\i<=8/\z.1=(crc8 i (c^^^l[j].toNat):Nat)/\w=W) (λz _=>8-z.2.toNat) ⟨0,rfl,by omega,rfl,rfl⟩ ?_;rintro⟨_,_⟩ W ⟨i,rfl,hi,rfl,rfl⟩;dsimp only;refine br_of (λhlt=>?_) (λhge=>?_)
  ·simp only[decide_eq_true_eq]at hlt
   have hy:=crc8_lt i hx;have hst:=crc_r hy;generalize hye:crc8 i (c^^^l[j].toNat)=y at hst hy⊢;have hmod:((y:Int).tmod 2==1)=decide (y%2=1):=by
    rw[show((y:Int).tmod 2)=((y%2:Nat):Int) by rfl];rcases Nat.mod_two_eq_zero_or_one y with h3|h3<;>rw[h3]<;>rfl
   refine jn_of (λt W=>t=((crcStep y:Nat):Int)/\w=W) ⟨by decide,?_⟩ ?_
   ·rw[hmod]
    refine br_of (λh3=>⟨by decide,?_,rfl⟩) (λh3=>⟨by decide,?_,rfl⟩)
    ·rw[if_pos (by simpa using h3)]at hst;exact hst
    ·rw[if_neg (by simpa using h3)]at hst;exact hst
   ·rintro _ _ ⟨rfl,rfl⟩
    rw[succ_i64 (by omega)];exact⟨⟨i+1,rfl,by omega,by rw[crc8_succ,hye],rfl⟩,by omega⟩
  ·simp only[decide_eq_false_iff_not]at hge
   have:i=8:=by omega
   subst this;rw[succ_i64 (by omega)];refine⟨⟨j+1,_,rfl,by omega,rfl,?_,rfl⟩,by omega⟩;rw[List.take_add_one,List.getElem?_eq_getElem hjl,crcGo_append,<-hc];rfl
 ·simp only[decide_eq_false_iff_not]at hge
  rw[List.take_of_length_le (by omega)]at hc;have:=bXor_u32 (x:=4294967295) (y:=c) (by decide) hc32;refine⟨Eq.trans this ?_,rfl⟩;rw[hc];rfl
theorem leN_append(l m:List UInt8):leN (l++m)=leN l+2^(8*l.length)*leN m:=by
 induction l with
 |nil=>simp[leN]
 |cons b l ih=>
  simp only[List.cons_append,leN,ih,List.length_cons];rw[show 8*(l.length+1)=8+8*l.length by omega,Nat.pow_add,Nat.mul_add,Nat.mul_assoc];omega
theorem leN_lt(l:List UInt8):leN l<2^(8*l.length):=by
 induction l with
 |nil=>simp[leN]
 |cons b l ih=>
  simp only[leN,List.length_cons];have:=b.toNat_lt;rw[show 8*(l.length+1)=8+8*l.length by omega,Nat.pow_add];omega
theorem leN_numB(n v:Nat):leN (numB n v)=v%2^(8*n):=by
 induction n with
 |zero=>simp[numB,leN,Nat.mod_one]
 |succ n ih=>
  rw[numB_succ,leN_append,ih,numB_len];simp only[leN];rw[show 8*(n+1)=8*n+8 by omega,Nat.pow_add,Nat.mod_mul];simp
theorem Y57(s:Sl)(l:List UInt8)(o n:Nat)(w:World)(hs:BS w s l)(h1:1<=n)(h8:n<=8)(ho:o+n<=l.length)(hl:l.length<=1000000000):
 Calls Tryz.prog 231 #[.slice s.a s.len s.cap,.int .i64 o,.int .i64 n] w (RetT [.c (.int .u64),.c .bool] λr w'=>r.1=(leN ((l.drop o).take n):Nat)/\r.2=true/\w=w'):=by
 refine F231_calls s o n _ _ ?_;unfold F231;simp only[deref_some'];have hsl:=hs.len;refine jn_of (λb W=>b=false/\w=W) ?_ ?_
 ·refine br_f (by simp;omega) (br_f (by simp;omega) (br_f (by simp) (br_f (by simp;omega) ⟨?_,rfl⟩)))
  rw[wrap_i64 (by omega)];simp;omega
 rintro _ _ ⟨rfl,rfl⟩;refine br_f rfl ?_;refine loop_of (λz W=>∃(i:Nat),z.2=i/\i<=n/\z.1=(leN ((l.drop o).take i):Nat)/\w=W) (λz _=>n-z.2.toNat) ⟨0,rfl,by omega,by simp[leN],rfl⟩ ?_;rintro⟨_,_⟩ W ⟨i,rfl,hi,rfl,rfl⟩;dsimp only;refine br_of (λhlt=>?_) (λhge=>?_)
 ·simp only[decide_eq_true_eq]at hlt
  have hin:i<n:=by omega
  rw[wrap_i64 (show _ by omega),show((o:Int)+(i:Int))=((o+i:Nat):Int) by omega];refine⟨⟨by omega,by omega⟩,?_⟩;rw[Int.toNat_natCast];refine BS.at hs (show o+i<l.length by omega) ?_;rw[wrap_i64 (show _ by omega),show(8*(i:Int))=((8*i:Nat):Int) by omega];refine⟨by omega,?_⟩;have hb:=l[o+i].toNat_lt;have hbl:(l.drop o).take i++[l[o+i]]=(l.drop o).take (i+1):=by
   rw[List.take_add_one,List.getElem?_drop,List.getElem?_eq_getElem (by omega)];rfl
  have hlen:((l.drop o).take i).length=i:=by simp;omega
  have hlt2:=leN_lt ((l.drop o).take i);rw[hlen]at hlt2;have hle:leN ((l.drop o).take (i+1))=leN ((l.drop o).take i)+l[o+i].toNat*2^(8*i):=by
   rw[<-hbl,leN_append,hlen];simp only[leN];rw[Nat.mul_zero,Nat.add_zero,Nat.mul_comm]
  have hlt3:=leN_lt ((l.drop o).take (i+1));have hlen2:((l.drop o).take (i+1)).length=i+1:=by simp;omega
  rw[hlen2,hle]at hlt3;have h64:2^(8*(i+1))<=2^64:=Nat.pow_le_pow_right (by decide) (by omega);have hu:IntKind.wrap .u64 (l[o+i].toNat:Int)=(l[o+i].toNat:Int):=by rw[wrap_u64m];omega
  have hsh:=bShl_u64 (x:=l[o+i].toNat) (y:=8*i) (by omega) (by omega);rw[hu,hsh,bOr_u64 (by omega) (by omega),or_add hlt2,<-hle,succ_i64 (by omega)];exact⟨⟨i+1,rfl,by omega,rfl,rfl⟩,by omega⟩
 ·simp only[decide_eq_false_iff_not]at hge
  have:i=n:=by omega
  subst this;exact⟨rfl,trivial,rfl⟩
theorem Y77(n:Int)(w:World)(h0:0<=n)(h1:n<=1000000000):Calls Tryz.prog 135 #[.slice none 0 0,.int .i64 n] w (RetT [.c .slice] λr w'=>St noF w w' [SlA 1 r []]):=by
 refine F135_calls ⟨none,0,0⟩ n _ _ ?_;unfold F135;refine jn_of (λ_ w'=>w=w') (br_f (by simpa using h0) rfl) ?_;rintro⟨⟩ _ rfl;have hw:IntKind.wrap .i64 (n-IntKind.wrap .i64 (((0:Nat):Int)-((0:Nat):Int)))=n:=by
  rw[show IntKind.wrap .i64 (((0:Nat):Int)-((0:Nat):Int))=0 from rfl,wrap_i64 (by omega)];omega
 rw[hw];refine br_of (λh=>?_) (λh=>(St.init0 w).nosl 1);simp only[gt_iff_lt,decide_eq_true_eq]at h;refine slc_hi (by decide) (by decide) ?_;simp only[Int.toNat_natCast,if_true];refine⟨h0,by omega,wrap_i64 (by omega),λhroom=>?_,λ_=>⟨[],λh=>by simp at h,rfl,?_,?_,?_⟩⟩
 ·have:0+n.toNat<=0:=hroom
  omega
 ·have:=nextslicecap_le (show 0<0+n.toNat by omega)
  show Builtin.nextslicecap (0+n.toNat) 0*1<=2^48;omega
 ·show 0+n.toNat<2^63
  omega
 intro cap hc1 hc2;dsimp only at hc1 hc2⊢;refine slc_hi (by decide) (by dsimp only;omega) ?_;simp only[map_add_zero,ite_self];refine(St.init0 w).mksl ((Mod.refl _ w).drew.alloc _) ?_;generalize hL:([]++zc [.int .u8 0] n.toNat++zc [.int .u8 0] (cap-(0+n.toNat)):List Value)=L;have hLl:L.length=cap*1:=by rw[<-hL];simp only[List.nil_append,List.length_append,zc_length,List.length_cons,List.length_nil];omega
 refine⟨by simp,by simp,.inr ⟨w.heap.size,0,L,rfl,Nat.le_refl _,by simp,λo _ _=>?_,?_,by simpa using hLl⟩⟩
 ·exact World.frozen?_alloc_new w.drew _ _ o
 ·intro j v hj
  rw[add_mk,Nat.zero_add];have:=World.cell?_alloc_new w.drew L.toArray 5 j;rw[World.size_drew]at this;rw[this];simpa using hj
theorem Y49(r:Nat)(s t:Sl)(l m:List UInt8)(w:World)(hb:Box w r [slV s,slV t])(hs:BS w s l)(ht:BS w t m)(hl:l.length<=100000000)(hm:m.length<=100000000):
 Calls Tryz.prog 79 #[.slice (some ⟨r,0,none⟩) 2 2] w (RetT [.c .slice] λq w'=>St noF w w' [SlA 1 q ((l++m).map ub)]):=by
 refine F79_calls ⟨some ⟨r,0,none⟩,2,2⟩ _ _ ?_;unfold F79;simp only[deref_some'];have hsl:=hs.len;have htl:=ht.len;have ld:∀(W:World) (j:Nat) (k:Sl->Pr),Grow w W->j<2->k (if j=0 then s else t) W->ldC .slice (Addr.add ⟨r,0,none⟩ (Int.toNat (j:Int)*1)) k W:=by
  intro W j k g hj hk;rw[Int.toNat_natCast,Nat.mul_one];refine(hb.grow g).ld (s:=.slice) (p:=if j=0 then s else t) ?_ hk
  match j,hj with
  |0,_=>rfl
  |1,_=>rfl
 refine loop_of (λz W=>∃j:Nat,z.2=j/\j<=2/\z.1=((if j=0 then 0 else if j=1 then l.length else l.length+m.length:Nat):Int)/\w=W) (λz _=>2-z.2.toNat) ⟨0,rfl,by omega,rfl,rfl⟩ ?_;rintro⟨_,_⟩ W ⟨j,rfl,hj,rfl,rfl⟩;dsimp only;refine br_of (λhlt=>?_) (λhge=>?_)
 ·simp only[decide_eq_true_eq]at hlt
  have hj2:j<2:=by omega
  refine jn_of (λn W=>n=((if j+1=1 then l.length else l.length+m.length:Nat):Int)/\w=W) ?_ ?_
  ·refine⟨⟨by omega,by omega⟩,ld w j _ (Mod.refl _ _) hj2 ?_⟩
   have:IntKind.wrap .i64 (((if j=0 then 0 else if j=1 then l.length else l.length+m.length:Nat):Int)+((if j=0 then s else t).len:Int))=((if j+1=1 then l.length else l.length+m.length:Nat):Int):=by
    match j,hj2 with
    |0,_=>simp[hsl];rw[wrap_i64 (by omega)]
    |1,_=>simp[htl];rw[wrap_i64 (by omega)]
   rw[this];refine br_f (by simp only[decide_eq_false_iff_not];split<;>omega) ⟨rfl,rfl⟩
  ·rintro _ _ ⟨rfl,rfl⟩
   rw[succ_i64 (by omega)];refine⟨⟨j+1,rfl,by omega,?_,rfl⟩,by omega⟩;rw[if_neg (by omega:¬j+1=0)]
 ·simp only[decide_eq_false_iff_not]at hge
  have:j=2:=by omega
  subst this;refine callF_of (Y77 _ w (by simp;omega) (by simp;omega)) ?_;rintro q w1 s1;have hcat:∀j,j<=2->(if j=0 then[]else if j=1 then l else l++m).length<=200000000:=by
   intro j _;split
   ·simp
   ·split
    ·omega
    ·simp;omega
  refine loop_of (λz W=>∃j:Nat,z.2=j/\j<=2/\St noF w W [SlA 1 z.1 ((if j=0 then[]else if j=1 then l else l++m).map ub)]) (λz _=>2-z.2.toNat) ⟨0,rfl,by omega,s1⟩ ?_;rintro⟨u,_⟩ W ⟨j,rfl,hj,s2⟩;dsimp only at s2⊢;refine br_of (λhlt=>?_) (λhge=>?_)
  ·simp only[decide_eq_true_eq]at hlt
   have hj2:j<2:=by omega
   refine⟨⟨by omega,by omega⟩,ld W j _ s2.gro hj2 ?_⟩;have hul:=slA_len1 s2.sl;rw[List.length_map]at hul;have:=hcat j (by omega);have hx:BS W (if j=0 then s else t) (if j=0 then l else m):=by
    split
    ·exact hs.grow s2.gro
    ·exact ht.grow s2.gro
   have hxl:=hx.len;have hle:(if j=0 then l else m).length<=100000000:=by split<;>omega
   refine s2.app (new:=(if j=0 then l else m).map ub) (λ_=>by rw[List.length_map];omega) hx.none_len hx.row NotAgg_ub rfl (by decide) (by omega) λr2 w3 s3 _=>?_;rw[succ_i64 (by omega)];refine⟨⟨j+1,rfl,by omega,?_⟩,by omega⟩
   match j,hj2,s3 with
   |0,_,s3=>exact s3
   |1,_,s3=>
    simpa using s3
  ·simp only[decide_eq_false_iff_not]at hge
   have:j=2:=by omega
   subst this;exact s2
def sealM(l:List UInt8):List UInt8:=l++numB 4 (sumM l)
theorem Y27(s:Sl)(l:List UInt8)(w:World)(hs:BS w s l)(hl:l.length<=100000000):Calls Tryz.prog 184 #[.slice s.a s.len s.cap] w (RetT [.c .slice] λq w'=>St noF w w' [SlA 1 q ((sealM l).map ub)]):=by
 refine F184_calls s _ _ ?_;unfold F184;refine callF_of (Y51 s l w hs (by omega)) ?_;rintro _ _ ⟨rfl,rfl⟩;have:=sumM_lt l;rw[wrap_u64m,show(((sumM l:Nat):Int)%18446744073709551616)=((sumM l:Nat):Int) by omega];refine callF_of (Y50 4 (sumM l) w (by decide) (by decide)) λt w1 s1=>?_;refine St.nw s1 λr w2 s2 g2 _=>?_;have hb2:=hs.grow s2.gro;have ht2:=(s2.bring 1).sl.bs;refine callF_of (Y49 r s t l (numB 4 (sumM l)) w2 s2.box hb2 ht2 hl (by simp)) λq w3 s3=>?_;exact St.dropR (l:=[_]) (s2.call0 s3)
set_option maxRecDepth 100000
def an123:An:=(.sq .z (.sq (.bl (.sq (.jn [] (.bl (.bl (.bl (.sq (.sq (.sq .z (.br .z .z)) (.sq (.sq .z (.br .z .z)) (.sq .z (.br .z .z)))) .z))))) (.sq (.sq .z .z) .z))) (.sq (.sq .z (.sq (.jn [(31,.c .bool)] .z) (.br (.sq .z .z) .z))) (.sq .z .z))))
def F123(p0_0:Int)(p0_1:Int)(p0_2:Int)(p0_3:Int)(Q:Int->Pr):Pr:=
 nw (.cells #[(iv p0_0),(iv p0_1),(iv p0_2),(iv p0_3)] 23) λr=>
 jn (S:=Unit) (λR=>
 ldI (bA r 1) λt6=>
 callF Tryz.prog 176 [(iv t6),(iv 8),(iv 256)] [.c .bool] λ(t7:Bool)=>
 br (!t7) (
 R ()) (
 ldI (bA r 2) λt11=>
 callF Tryz.prog 176 [(iv t11),(iv 1),(iv 64)] [.c .bool] λ(t12:Bool)=>
 br (!t12) (
 R ()) (
 ldI (bA r 3) λt16=>
 callF Tryz.prog 176 [(iv t16),(iv 1),(iv 256)] [.c .bool] λ(t17:Bool)=>
 br (!t17) (
 R ()) (
 ldA [I64,I64,I64,I64] (bA r 0) λ(t19:Int×Int×Int×Int)=>
 callF Tryz.prog 124 [(.agg #[(iv t19.1),(iv t19.2.1),(iv t19.2.2.1),(iv t19.2.2.2)])] [.agg [I64,I64,I64,I64,I64,I64]] λ(t20:Int×Int×Int×Int×Int×Int)=>
 nvs 38 [(iv 0),(iv 0),(iv 0),(iv 0),(iv 0),(iv 0)] [(iv t20.1),(iv t20.2.1),(iv t20.2.2.1),(iv t20.2.2.2.1),(iv t20.2.2.2.2.1),(iv t20.2.2.2.2.2)] λr_1=>
 jn (S:=Bool) (λR_1=>
 ldI (bA r 0) λt22=>
 ldI (bA r_1 5) λt24=>
 callF Tryz.prog 176 [(iv t22),(iv t24),(iv 2048)] [.c .bool] λ(t25:Bool)=>
 br (!t25) (
 R_1 true) (
 ldA [I64,I64,I64,I64,I64,I64] (bA r_1 0) λ(t28:Int×Int×Int×Int×Int×Int)=>
 R_1 (((t28.1==0)&&((t28.2.1==0)&&((t28.2.2.1==0)&&((t28.2.2.2.1==0)&&((t28.2.2.2.2.1==0)&&((t28.2.2.2.2.2==0)&&true))))))))) λs_1=>
 br s_1 (
 Q 40) (
 Q 0))))) λs=>
 Q 40
theorem F123_calls(p0_0:Int)(p0_1:Int)(p0_2:Int)(p0_3:Int)(Q:Int->Pr)(w:World)(h:F123 p0_0 p0_1 p0_2 p0_3 Q w):Calls Tryz.prog 123 #[(.agg #[(iv p0_0),(iv p0_1),(iv p0_2),(iv p0_3)])] w (RetT [.c I64] Q):=cF (an:=an123) Tryz.func123 (by kernel_rfl) h
def an124:An:=(.sq .z (.sq .z (.sq .z (.sq (.jn [] .z) (.sq (.jn [] .z) (.sq .z (.sq .z (.sq .z .z))))))))
def F124(p0_0:Int)(p0_1:Int)(p0_2:Int)(p0_3:Int)(Q:Int×Int×Int×Int×Int×Int->Pr):Pr:=
 nw (.cells #[(iv p0_0),(iv p0_1),(iv p0_2),(iv p0_3)] 23) λr=>
 nw (.cells #[(iv 0),(iv 0),(iv 0),(iv 0),(iv 0),(iv 0)] 38) λr_1=>
 nvs 38 [(iv 0),(iv 0),(iv 0),(iv 0),(iv 0),(iv 0)] [(iv 3),(iv 0),(iv 0),(iv 0),(iv 0),(iv 0)] λr_2=>
 ldI (bA r_2 0) λt6=>
 ldI (bA r 1) λt8=>
 st (bA r_2 1) (iv (w64 (t6+t8)))<|
 jn (S:=Unit) (λR=>
 drw<|
 ldI (bA r 3) λt14=>
 both (
 ldI (bA r_2 1) λt12=>
 callF Tryz.prog 177 [(iv t14),(iv 32)] [.c I64] λ(t15:Int)=>
 st (bA r_2 2) (iv (w64 (t12+t15)))<|
 R ()) (
 callF Tryz.prog 177 [(iv t14),(iv 32)] [.c I64] λ(t15_1:Int)=>
 ldI (bA r_2 1) λt12_1=>
 st (bA r_2 2) (iv (w64 (t12_1+t15_1)))<|
 R ())) λs=>
 jn (S:=Unit) (λR_1=>
 drw<|
 ldI (bA r 3) λt21=>
 both (
 ldI (bA r_2 2) λt19=>
 callF Tryz.prog 177 [(iv t21),(iv 64)] [.c I64] λ(t22:Int)=>
 st (bA r_2 3) (iv (w64 (t19+t22)))<|
 R_1 ()) (
 callF Tryz.prog 177 [(iv t21),(iv 64)] [.c I64] λ(t22_1:Int)=>
 ldI (bA r_2 2) λt19_1=>
 st (bA r_2 3) (iv (w64 (t19_1+t22_1)))<|
 R_1 ())) λs_1=>
 ldI (bA r_2 3) λt26=>
 ldI (bA r 2) λt28=>
 st (bA r_2 4) (iv (w64 (t26+t28)))<|
 ldI (bA r_2 4) λt32=>
 ldI (bA r 3) λt34=>
 st (bA r_2 5) (iv (w64 (t32+(w64 (t34*4)))))<|
 ldA [I64,I64,I64,I64,I64,I64] (bA r_2 0) λ(t38:Int×Int×Int×Int×Int×Int)=>
 stB r_1 0 [(iv t38.1),(iv t38.2.1),(iv t38.2.2.1),(iv t38.2.2.2.1),(iv t38.2.2.2.2.1),(iv t38.2.2.2.2.2)]<|
 ldA [I64,I64,I64,I64,I64,I64] (bA r_1 0) λ(res:Int×Int×Int×Int×Int×Int)=>
 Q (res)
theorem F124_calls(p0_0:Int)(p0_1:Int)(p0_2:Int)(p0_3:Int)(Q:Int×Int×Int×Int×Int×Int->Pr)(w:World)(h:F124 p0_0 p0_1 p0_2 p0_3 Q w):Calls Tryz.prog 124 #[(.agg #[(iv p0_0),(iv p0_1),(iv p0_2),(iv p0_3)])] w (RetT [.agg [I64,I64,I64,I64,I64,I64]] Q):=cF (an:=an124) Tryz.func124 (by kernel_rfl) h
def an176:An:=(.sq .z (.sq .z .z))
def F176(p0:Int)(p1:Int)(p2:Int)(Q:Bool->Pr):Pr:=
 br (decide (p0>=p1)) (
 Q ((decide (p0<=p2)))) (
 Q false)
theorem F176_calls(p0:Int)(p1:Int)(p2:Int)(Q:Bool->Pr)(w:World)(h:F176 p0 p1 p2 Q w):Calls Tryz.prog 176 #[(iv p0),(iv p1),(iv p2)] w (RetT [.c .bool] Q):=cF (an:=an176) Tryz.func176 (by kernel_rfl) h
def an177:An:=(.sq .z (.sq .z .z))
def F177(p0:Int)(p1:Int)(Q:Int->Pr):Pr:=
 owe ((p1:Int)≠0)<|
 Q ((w64 ((w64 ((w64 (p0+p1))-1)).tdiv p1)))
theorem F177_calls(p0:Int)(p1:Int)(Q:Int->Pr)(w:World)(h:F177 p0 p1 Q w):Calls Tryz.prog 177 #[(iv p0),(iv p1)] w (RetT [.c I64] Q):=cF (an:=an177) Tryz.func177 (by kernel_rfl) h
def an71:An:=(.sq .z (.sq (.sq .z (.sq .z (.br (.sq .z .z) .z))) (.sq .z .z)))
def F71(p0_0:Int)(p0_1:Int)(p0_2:Int)(p0_3:Int)(Q:(Int×Int×Int×Int×Int×Int)×Int->Pr):Pr:=
 nw (.cells #[(iv p0_0),(iv p0_1),(iv p0_2),(iv p0_3)] 23) λr=>
 nw (.cells #[(iv 0),(iv 0),(iv 0),(iv 0),(iv 0),(iv 0)] 38) λr_1=>
 ldA [I64,I64,I64,I64] (bA r 0) λ(t5:Int×Int×Int×Int)=>
 callF Tryz.prog 123 [(.agg #[(iv t5.1),(iv t5.2.1),(iv t5.2.2.1),(iv t5.2.2.2)])] [.c I64] λ(t6:Int)=>
 br (t6 !=0) (
 stB r_1 0 [(iv 0),(iv 0),(iv 0),(iv 0),(iv 0),(iv 0)]<|
 ldA [I64,I64,I64,I64,I64,I64] (bA r_1 0) λ(res:Int×Int×Int×Int×Int×Int)=>
 Q (res,t6)) (
 ldA [I64,I64,I64,I64] (bA r 0) λ(t11:Int×Int×Int×Int)=>
 callF Tryz.prog 124 [(.agg #[(iv t11.1),(iv t11.2.1),(iv t11.2.2.1),(iv t11.2.2.2)])] [.agg [I64,I64,I64,I64,I64,I64]] λ(t12:Int×Int×Int×Int×Int×Int)=>
 stB r_1 0 [(iv t12.1),(iv t12.2.1),(iv t12.2.2.1),(iv t12.2.2.2.1),(iv t12.2.2.2.2.1),(iv t12.2.2.2.2.2)]<|
 ldA [I64,I64,I64,I64,I64,I64] (bA r_1 0) λ(res_1:Int×Int×Int×Int×Int×Int)=>
 Q (res_1,0))
theorem F71_calls(p0_0:Int)(p0_1:Int)(p0_2:Int)(p0_3:Int)(Q:(Int×Int×Int×Int×Int×Int)×Int->Pr)(w:World)(h:F71 p0_0 p0_1 p0_2 p0_3 Q w):Calls Tryz.prog 71 #[(.agg #[(iv p0_0),(iv p0_1),(iv p0_2),(iv p0_3)])] w (RetT [.agg [I64,I64,I64,I64,I64,I64],.c I64] Q):=cF (an:=an71) Tryz.func71 (by kernel_rfl) h
def an13:An:=(.sq .z (.sq (.sq (.jn [(30,.c .bool)] .z) (.br (.sq .z .z) .z)) (.sq (.sq (.jn [(41,.c .bool)] (.rj [⟨false,[1,3],[1,3,4,5,6],[(37,.c .bool)]⟩])) (.br (.sq .z .z) .z)) (.sq .z .z))))
def F13(p0_0:Int)(p0_1:Int)(p0_2:Int)(p0_3:Int)(Q:Int->Pr):Pr:=
 nw (.cells #[(iv p0_0),(iv p0_1),(iv p0_2),(iv p0_3)] 23) λr=>
 jn (S:=Bool) (λR=>
 ldI (bA r 1) λt4=>
 br (decide (t4<8)) (
 R true) (
 ldI (bA r 1) λt8=>
 br (decide (t8>256)) (
 R true) (
 ldI (bA r 2) λt13=>
 br (decide (t13<1)) (
 R true) (
 ldI (bA r 2) λt18=>
 br (decide (t18>64)) (
 R true) (
 ldI (bA r 3) λt23=>
 br (decide (t23<1)) (
 R true) (
 ldI (bA r 3) λt28=>
 R ((decide (t28>256))))))))) λs=>
 br s (
 Q 40) (
 jn (S:=Bool) (λR_1=>
 drw<|
 ldA [I64,I64,I64,I64] (bA r 0) λ(t33:Int×Int×Int×Int)=>
 jn (S:=Bool) (λR_2=>
 both (
 ldI (bA r 0) λt32=>
 callF Tryz.prog 48 [(.agg #[(iv t33.1),(iv t33.2.1),(iv t33.2.2.1),(iv t33.2.2.2)])] [.agg [I64,I64,I64,I64,I64,I64]] λ(t34:Int×Int×Int×Int×Int×Int)=>
 R_2 ((decide (t32<t34.2.2.2.2.2)))) (
 callF Tryz.prog 48 [(.agg #[(iv t33.1),(iv t33.2.1),(iv t33.2.2.1),(iv t33.2.2.2)])] [.agg [I64,I64,I64,I64,I64,I64]] λ(t34_1:Int×Int×Int×Int×Int×Int)=>
 ldI (bA r 0) λt32_1=>
 R_2 ((decide (t32_1<t34_1.2.2.2.2.2))))) λs_2=>
 br s_2 (
 R_1 true) (
 ldI (bA r 0) λt39=>
 R_1 ((decide (t39>2048))))) λs_1=>
 br s_1 (
 Q 40) (
 Q 0))
theorem F13_calls(p0_0:Int)(p0_1:Int)(p0_2:Int)(p0_3:Int)(Q:Int->Pr)(w:World)(h:F13 p0_0 p0_1 p0_2 p0_3 Q w):Calls Tryz.prog 13 #[(.agg #[(iv p0_0),(iv p0_1),(iv p0_2),(iv p0_3)])] w (RetT [.c I64] Q):=cF (an:=an13) Tryz.func13 (by kernel_rfl) h
def an48:An:=(.sq .z (.sq .z (.sq .z (.sq .z (.sq .z (.sq .z .z))))))
def F48(p0_0:Int)(p0_1:Int)(p0_2:Int)(p0_3:Int)(Q:Int×Int×Int×Int×Int×Int->Pr):Pr:=
 nw (.cells #[(iv p0_0),(iv p0_1),(iv p0_2),(iv p0_3)] 23) λr=>
 nw (.cells #[(iv 0),(iv 0),(iv 0),(iv 0),(iv 0),(iv 0)] 38) λr_1=>
 ldI (bA r 1) λt8=>
 ldI (bA r 3) λt12=>
 owe ((32:Int)≠0)<|
 ldI (bA r 3) λt18=>
 owe ((64:Int)≠0)<|
 ldI (bA r 2) λt24=>
 ldI (bA r 3) λt32=>
 stB r_1 0 [(iv 3),(iv (w64 (3+t8))),(iv (w64 ((w64 (3+t8))+(w64 ((w64 (t12+31)).tdiv 32))))),(iv (w64 ((w64 ((w64 (3+t8))+(w64 ((w64 (t12+31)).tdiv 32))))+(w64 ((w64 (t18+63)).tdiv 64))))),(iv (w64 ((w64 ((w64 ((w64 (3+t8))+(w64 ((w64 (t12+31)).tdiv 32))))+(w64 ((w64 (t18+63)).tdiv 64))))+t24))),(iv (w64 ((w64 ((w64 ((w64 ((w64 (3+t8))+(w64 ((w64 (t12+31)).tdiv 32))))+(w64 ((w64 (t18+63)).tdiv 64))))+t24))+(w64 (4*t32)))))]<|
 ldA [I64,I64,I64,I64,I64,I64] (bA r_1 0) λ(res:Int×Int×Int×Int×Int×Int)=>
 Q (res)
theorem F48_calls(p0_0:Int)(p0_1:Int)(p0_2:Int)(p0_3:Int)(Q:Int×Int×Int×Int×Int×Int->Pr)(w:World)(h:F48 p0_0 p0_1 p0_2 p0_3 Q w):Calls Tryz.prog 48 #[(.agg #[(iv p0_0),(iv p0_1),(iv p0_2),(iv p0_3)])] w (RetT [.agg [I64,I64,I64,I64,I64,I64]] Q):=cF (an:=an48) Tryz.func48 (by kernel_rfl) h
def an49:An:=(.sq .z (.sq (.sq .z (.sq .z (.br (.sq .z .z) .z))) (.sq .z .z)))
def F49(p0_0:Int)(p0_1:Int)(p0_2:Int)(p0_3:Int)(Q:(Int×Int×Int×Int×Int×Int)×Int->Pr):Pr:=
 nw (.cells #[(iv p0_0),(iv p0_1),(iv p0_2),(iv p0_3)] 23) λr=>
 nw (.cells #[(iv 0),(iv 0),(iv 0),(iv 0),(iv 0),(iv 0)] 38) λr_1=>
 ldA [I64,I64,I64,I64] (bA r 0) λ(t5:Int×Int×Int×Int)=>
 callF Tryz.prog 13 [(.agg #[(iv t5.1),(iv t5.2.1),(iv t5.2.2.1),(iv t5.2.2.2)])] [.c I64] λ(t6:Int)=>
 br (t6 !=0) (
 stB r_1 0 [(iv 0),(iv 0),(iv 0),(iv 0),(iv 0),(iv 0)]<|
 ldA [I64,I64,I64,I64,I64,I64] (bA r_1 0) λ(res:Int×Int×Int×Int×Int×Int)=>
 Q (res,t6)) (
 ldA [I64,I64,I64,I64] (bA r 0) λ(t11:Int×Int×Int×Int)=>
 callF Tryz.prog 48 [(.agg #[(iv t11.1),(iv t11.2.1),(iv t11.2.2.1),(iv t11.2.2.2)])] [.agg [I64,I64,I64,I64,I64,I64]] λ(t12:Int×Int×Int×Int×Int×Int)=>
 stB r_1 0 [(iv t12.1),(iv t12.2.1),(iv t12.2.2.1),(iv t12.2.2.2.1),(iv t12.2.2.2.2.1),(iv t12.2.2.2.2.2)]<|
 ldA [I64,I64,I64,I64,I64,I64] (bA r_1 0) λ(res_1:Int×Int×Int×Int×Int×Int)=>
 Q (res_1,0))
theorem F49_calls(p0_0:Int)(p0_1:Int)(p0_2:Int)(p0_3:Int)(Q:(Int×Int×Int×Int×Int×Int)×Int->Pr)(w:World)(h:F49 p0_0 p0_1 p0_2 p0_3 Q w):Calls Tryz.prog 49 #[(.agg #[(iv p0_0),(iv p0_1),(iv p0_2),(iv p0_3)])] w (RetT [.agg [I64,I64,I64,I64,I64,I64],.c I64] Q):=cF (an:=an49) Tryz.func49 (by kernel_rfl) h
def an47:An:=(.sq .z (.sq .z .z))
def F47(Q:Int×Int×Int×Int->Pr):Pr:=
 nvs 23 [(iv 0),(iv 0),(iv 0),(iv 0)] [(iv 18),(iv 8),(iv 1),(iv 1)] λr=>
 ldA [I64,I64,I64,I64] (bA r 0) λ(res:Int×Int×Int×Int)=>
 Q (res)
theorem F47_calls(Q:Int×Int×Int×Int->Pr)(w:World)(h:F47 Q w):Calls Tryz.prog 47 #[] w (RetT [.agg [I64,I64,I64,I64]] Q):=cF (an:=an47) Tryz.func47 (by kernel_rfl) h
set_option maxRecDepth 20000
abbrev Geo:=Int×Int×Int×Int
abbrev PlanT:=Int×Int×Int×Int×Int×Int
abbrev Geo.v(g:Geo):Value:=.agg #[iv g.1,iv g.2.1,iv g.2.2.1,iv g.2.2.2]
abbrev gcells(g:Geo):List Value:=[iv g.1,iv g.2.1,iv g.2.2.1,iv g.2.2.2]
abbrev pcells(p:PlanT):List Value:=[iv p.1,iv p.2.1,iv p.2.2.1,iv p.2.2.2.1,iv p.2.2.2.2.1,iv p.2.2.2.2.2]
def geoR(g:Geo):Prop:=(8<=g.2.1/\g.2.1<=256)/\(1<=g.2.2.1/\g.2.2.1<=64)/\1<=g.2.2.2/\g.2.2.2<=256
instance(g:Geo):Decidable (geoR g):=by unfold geoR;exact inferInstance
def planT(g:Geo):PlanT:=
 let t:=3+g.2.1;let m:=t+(g.2.2.2+31)/32;let d:=m+(g.2.2.2+63)/64;let h:=d+g.2.2.1
 (3,t,m,d,h,h+g.2.2.2*4)
def geoE(g:Geo):Int:=if geoR g/\(planT g).2.2.2.2.2<=g.1/\g.1<=2048 then 0 else 40
def ofG(g:Geo):PlanT×Int:=if geoE g=0 then(planT g,0)else((0,0,0,0,0,0),40)
theorem na_iv(l:List Int):∀v∈l.map iv,NotAgg v:=by
 intro v hv;obtain⟨b,_,rfl⟩:=List.mem_map.1 hv;trivial
theorem na_p(p:PlanT):∀v∈pcells p,NotAgg v:=na_iv [p.1,p.2.1,p.2.2.1,p.2.2.2.1,p.2.2.2.2.1,p.2.2.2.2.2]
theorem na_g(g:Geo):∀v∈gcells g,NotAgg v:=na_iv [g.1,g.2.1,g.2.2.1,g.2.2.2]
theorem tdiv_lit{a:Int}(h:0<=a)(n:Int):a.tdiv n=a/n:=Int.tdiv_eq_ediv_of_nonneg h
theorem V176(a b c:Int)(w:World):Calls Tryz.prog 176 #[iv a,iv b,iv c] w (RetT [.c .bool] λr w'=>r=decide (b<=a/\a<=c)/\w=w'):=by
 refine F176_calls a b c _ _ ?_;unfold F176;refine br_of (λh=>⟨?_,rfl⟩) λh=>⟨?_,rfl⟩
 ·simp only[decide_eq_true_eq]at h
  exact decide_eq_decide.2 ⟨λh2=>⟨h,h2⟩,λh2=>h2.2⟩
 ·simp only[decide_eq_false_iff_not]at h
  symm;rw[decide_eq_false_iff_not];omega
theorem V177(n e:Int)(w:World)(hn:0<=n/\n<=256)(he:1<=e/\e<=1000):Calls Tryz.prog 177 #[iv n,iv e] w (RetT [.c (.int .i64)] λr w'=>r=(n+e-1)/e/\w=w'):=by
 refine F177_calls n e _ _ ?_;unfold F177;have h1:(n+e-1)/e<=n+e-1:=Int.ediv_le_self _ (by omega);have h2:0<=(n+e-1)/e:=Int.ediv_nonneg (by omega) (by omega);refine⟨by omega,?_,rfl⟩;rw[w64_of (n:=n+e) ⟨by omega,by omega⟩,w64_of (n:=n+e-1) ⟨by omega,by omega⟩,tdiv_lit (by omega),w64_of ⟨by omega,by omega⟩]
theorem V124(g:Geo)(w:World)(hg:geoR g):Calls Tryz.prog 124 #[g.v] w (RetT [.agg [.int .i64,.int .i64,.int .i64,.int .i64,.int .i64,.int .i64]] λr w'=>r=planT g/\Grow w w'):=by
 refine F124_calls g.1 g.2.1 g.2.2.1 g.2.2.2 _ _ ?_;unfold F124;obtain⟨h1,h2,h3⟩:=hg;refine St.nw (St.init0 w) λr w1 s1 _ _=>St.nw s1 λr1 w2 s2 _ _=>s2.nvs rfl (na_p (3,0,0,0,0,0)) λr2 w3 s3=>?_;refine s3.L 0 rfl (p:=3) rfl (s3.L 2 rfl (p:=g.2.1) rfl ?_);rw[w64_of ⟨by omega,by omega⟩];refine s3.S 0 rfl (by simp) trivial λw4 s4=>?_;have s4:St noF w w4 [BoxA r2 [iv 3,iv (3+g.2.1),iv 0,iv 0,iv 0,iv 0],BoxA r1 [iv 0,iv 0,iv 0,iv 0,iv 0,iv 0],BoxA r (gcells g)]:=s4;generalize hT:3+g.2.1=T at s4;refine jn_of (λ_ W=>St noF w W [BoxA r2 [iv 3,iv T,iv (T+(g.2.2.2+31)/32),iv 0,iv 0,iv 0],BoxA r1 [iv 0,iv 0,iv 0,iv 0,iv 0,iv 0],BoxA r (gcells g)]) ?_ ?_
 ·have sd:=s4.drew
  refine sd.L 2 rfl (p:=g.2.2.2) rfl ⟨?_,?_⟩
  ·refine sd.L 0 rfl (p:=T) rfl (callF_of (V177 _ 32 _ (by omega) (by omega)) ?_)
   rintro _ _ ⟨rfl,rfl⟩;rw[show g.2.2.2+32-1=g.2.2.2+31 by omega,w64_of ⟨by omega,by omega⟩];exact sd.S 0 rfl (by simp) trivial λw5 s5=>s5
  ·refine callF_of (V177 _ 32 _ (by omega) (by omega)) ?_
   rintro _ _ ⟨rfl,rfl⟩;refine sd.L 0 rfl (p:=T) rfl ?_;rw[show g.2.2.2+32-1=g.2.2.2+31 by omega,w64_of ⟨by omega,by omega⟩];exact sd.S 0 rfl (by simp) trivial λw5 s5=>s5
 rintro⟨⟩ W5 s5;generalize hM:T+(g.2.2.2+31)/32=M at s5;refine jn_of (λ_ W=>St noF w W [BoxA r2 [iv 3,iv T,iv M,iv (M+(g.2.2.2+63)/64),iv 0,iv 0],BoxA r1 [iv 0,iv 0,iv 0,iv 0,iv 0,iv 0],BoxA r (gcells g)]) ?_ ?_
 ·have sd:=s5.drew
  refine sd.L 2 rfl (p:=g.2.2.2) rfl ⟨?_,?_⟩
  ·refine sd.L 0 rfl (p:=M) rfl (callF_of (V177 _ 64 _ (by omega) (by omega)) ?_)
   rintro _ _ ⟨rfl,rfl⟩;rw[show g.2.2.2+64-1=g.2.2.2+63 by omega,w64_of ⟨by omega,by omega⟩];exact sd.S 0 rfl (by simp) trivial λw5 s5=>s5
  ·refine callF_of (V177 _ 64 _ (by omega) (by omega)) ?_
   rintro _ _ ⟨rfl,rfl⟩;refine sd.L 0 rfl (p:=M) rfl ?_;rw[show g.2.2.2+64-1=g.2.2.2+63 by omega,w64_of ⟨by omega,by omega⟩];exact sd.S 0 rfl (by simp) trivial λw5 s5=>s5
 rintro⟨⟩ W6 s6;generalize hD:M+(g.2.2.2+63)/64=D at s6;refine s6.L 0 rfl (p:=D) rfl (s6.L 2 rfl (p:=g.2.2.1) rfl (s6.S 0 rfl (by simp) trivial λw7 s7=>?_));rw[w64_of ⟨by omega,by omega⟩]at s7;refine s7.L 0 rfl (p:=D+g.2.2.1) rfl (s7.L 2 rfl (p:=g.2.2.2) rfl (s7.S 0 rfl (by simp[setA]) trivial λw8 s8=>?_));rw[w64_of (n:=g.2.2.2*4) ⟨by omega,by omega⟩,w64_of ⟨by omega,by omega⟩]at s8;have s8:St noF w w8 [BoxA r2 (pcells (planT g)),BoxA r1 [iv 0,iv 0,iv 0,iv 0,iv 0,iv 0],BoxA r (gcells g)]:=by subst hD hM hT;exact s8
 refine s8.LA 0 rfl (p:=planT g) rfl (s8.SB 1 rfl rfl (na_p (planT g)) λw9 s9=>?_);exact St.LA 1 s9 rfl (p:=planT g) rfl ⟨rfl,s9.gro⟩
theorem neg_dec(p:Prop)[Decidable p]:(!decide p)=decide (¬p):=by simp
theorem V123(g:Geo)(w:World):Calls Tryz.prog 123 #[g.v] w (RetT [.c (.int .i64)] λr w'=>r=geoE g/\Grow w w'):=by
 refine F123_calls g.1 g.2.1 g.2.2.1 g.2.2.2 _ _ ?_;unfold F123;refine St.nw (St.init0 w) λr w1 s1 _ _=>?_;have s1:St noF w w1 [BoxA r (gcells g)]:=s1;refine jn_of (λ_ W=>geoE g=40/\Grow w W) ?_ λ_ _ h=>⟨h.1.symm,h.2⟩;have bad:¬geoR g->geoE g=40:=λh=>if_neg λh'=>h h'.1;refine s1.L 0 rfl (p:=g.2.1) rfl (callF_of (V176 _ _ _ _) ?_);rintro _ _ ⟨rfl,rfl⟩;refine br_of (λh=>⟨bad λh'=>?_,s1.gro⟩) λh1=>?_
 ·have:=h'.1;simp at h;omega
 refine s1.L 0 rfl (p:=g.2.2.1) rfl (callF_of (V176 _ _ _ _) ?_);rintro _ _ ⟨rfl,rfl⟩;refine br_of (λh=>⟨bad λh'=>?_,s1.gro⟩) λh2=>?_
 ·have:=h'.2.1;simp at h;omega
 refine s1.L 0 rfl (p:=g.2.2.2) rfl (callF_of (V176 _ _ _ _) ?_);rintro _ _ ⟨rfl,rfl⟩;refine br_of (λh=>⟨bad λh'=>?_,s1.gro⟩) λh3=>?_
 ·have:=h'.2.2;simp at h;omega
 have hr:geoR g:=⟨by simpa using h1,by simpa using h2,by simpa using h3⟩;refine s1.LA 0 rfl (p:=g) rfl ?_;refine callF_of (V124 g w1 hr) ?_;rintro P w2 ⟨hP,g2⟩;refine(s1.grow g2).nvs rfl (na_p P) λr1 w3 s3=>?_;have hb:(P.1==0)=false:=by rw[hP];rfl
 have hE:geoE g=if geoR g/\P.2.2.2.2.2<=g.1/\g.1<=2048 then 0 else 40:=by rw[hP];rfl
 clear hP;refine jn_of (λb W=>b=decide (¬(P.2.2.2.2.2<=g.1/\g.1<=2048))/\Grow w W) ?_ ?_
 ·refine s3.L 1 rfl (p:=g.1) rfl (s3.L 0 rfl (p:=P.2.2.2.2.2) rfl (callF_of (V176 _ _ _ _) ?_))
  rintro _ _ ⟨rfl,rfl⟩;refine br_of (λh=>⟨?_,s3.gro⟩) λh=>?_
  ·rw[neg_dec]at h;exact h.symm
  ·refine s3.LA 0 rfl (p:=P) rfl ⟨?_,s3.gro⟩
   rw[hb,Bool.false_and,<-neg_dec,h]
 rintro _ W ⟨rfl,gW⟩;rw[hE];refine br_of (λh=>⟨?_,gW⟩) λh=>⟨?_,gW⟩
 ·simp only[decide_eq_true_eq]at h
  exact(if_neg λh'=>h h'.2).symm
 ·simp only[decide_eq_false_iff_not,Classical.not_not]at h
  exact(if_pos ⟨hr,h⟩).symm
theorem geoE_cases(g:Geo):geoE g=0\/geoE g=40:=by unfold geoE;split<;>simp
theorem geoE_R{g:Geo}(h:geoE g=0):geoR g:=by
 unfold geoE at h;split at h
 ·rename_i h';exact h'.1
 ·cases h
theorem V71(g:Geo)(w:World):Calls Tryz.prog 71 #[g.v] w (RetT [.agg [.int .i64,.int .i64,.int .i64,.int .i64,.int .i64,.int .i64],.c (.int .i64)] λr w'=>r=ofG g/\Grow w w'):=by
 refine F71_calls g.1 g.2.1 g.2.2.1 g.2.2.2 _ _ ?_;unfold F71 ofG;refine St.nw (St.init0 w) λr w1 s1 _ _=>St.nw s1 λr1 w2 s2 _ _=>?_;refine s2.LA 1 rfl (p:=g) rfl ?_;refine callF_of (V123 g w2) ?_;rintro _ w3 ⟨rfl,g3⟩;have s3:=s2.grow g3;refine br_of (λh=>?_) λh=>?_
 ·have h:geoE g≠0:=by simpa using h
  refine s3.SB 0 rfl rfl (na_p (0,0,0,0,0,0)) λw4 s4=>St.LA 0 s4 rfl (p:=(0,0,0,0,0,0)) rfl ⟨?_,s4.gro⟩;rw[if_neg h,(geoE_cases g).resolve_left h]
 ·have h:geoE g=0:=by simpa using h
  refine s3.LA 1 rfl (p:=g) rfl ?_;refine callF_of (V124 g w3 (geoE_R h)) ?_;rintro P w4 ⟨hP,g4⟩;refine(s3.grow g4).SB 0 rfl rfl (na_p P) λw5 s5=>St.LA 0 s5 rfl (p:=P) rfl ⟨?_,s5.gro⟩;rw[if_pos h,<-hP]
theorem V48(g:Geo)(w:World)(hg:geoR g):Calls Tryz.prog 48 #[g.v] w (RetT [.agg [.int .i64,.int .i64,.int .i64,.int .i64,.int .i64,.int .i64]] λr w'=>r=planT g/\Grow w w'):=by
 refine F48_calls g.1 g.2.1 g.2.2.1 g.2.2.2 _ _ ?_;unfold F48;obtain⟨h1,h2,h3⟩:=hg;refine St.nw (St.init0 w) λr w1 s1 _ _=>St.nw s1 λr1 w2 s2 _ _=>?_;refine s2.L 1 rfl (p:=g.2.1) rfl (s2.L 1 rfl (p:=g.2.2.2) rfl ⟨by decide,s2.L 1 rfl (p:=g.2.2.2) rfl ⟨by decide,s2.L 1 rfl (p:=g.2.2.1) rfl (s2.L 1 rfl (p:=g.2.2.2) rfl ?_)⟩⟩);rw[w64_of (n:=3+g.2.1) ⟨by omega,by omega⟩,w64_of (n:=g.2.2.2+31) ⟨by omega,by omega⟩,w64_of (n:=g.2.2.2+63) ⟨by omega,by omega⟩,tdiv_lit (by omega),tdiv_lit (by omega),w64_of (n:=(g.2.2.2+31)/32) ⟨by omega,by omega⟩,w64_of (n:=(g.2.2.2+63)/64) ⟨by omega,by omega⟩,
  w64_of (n:=3+g.2.1+(g.2.2.2+31)/32) ⟨by omega,by omega⟩,w64_of (n:=3+g.2.1+(g.2.2.2+31)/32+(g.2.2.2+63)/64) ⟨by omega,by omega⟩,w64_of (n:=3+g.2.1+(g.2.2.2+31)/32+(g.2.2.2+63)/64+g.2.2.1) ⟨by omega,by omega⟩,
  w64_of (n:=4*g.2.2.2) ⟨by omega,by omega⟩,w64_of ⟨by omega,by omega⟩]
 refine s2.SB 0 rfl rfl (by simp) λw5 s5=>?_;have s5:St noF w w5 [BoxA r1 (pcells (3,3+g.2.1,3+g.2.1+(g.2.2.2+31)/32,3+g.2.1+(g.2.2.2+31)/32+(g.2.2.2+63)/64,3+g.2.1+(g.2.2.2+31)/32+(g.2.2.2+63)/64+g.2.2.1,3+g.2.1+(g.2.2.2+31)/32+(g.2.2.2+63)/64+g.2.2.1+4*g.2.2.2)),BoxA r (gcells g)]:=s5;refine s5.LA 0 rfl (p:=(3,3+g.2.1,3+g.2.1+(g.2.2.2+31)/32,3+g.2.1+(g.2.2.2+31)/32+(g.2.2.2+63)/64,3+g.2.1+(g.2.2.2+31)/32+(g.2.2.2+63)/64+g.2.2.1,3+g.2.1+(g.2.2.2+31)/32+(g.2.2.2+63)/64+g.2.2.1+4*g.2.2.2)) rfl ⟨?_,s5.gro⟩;unfold planT;rw[Int.mul_comm 4]
theorem V13(g:Geo)(w:World):Calls Tryz.prog 13 #[g.v] w (RetT [.c (.int .i64)] λr w'=>r=geoE g/\Grow w w'):=by
 refine F13_calls g.1 g.2.1 g.2.2.1 g.2.2.2 _ _ ?_;unfold F13;refine St.nw (St.init0 w) λr w1 s1 _ _=>?_;have s1:St noF w w1 [BoxA r (gcells g)]:=s1;refine jn_of (λb W=>b=decide (¬geoR g)/\W=w1) ?_ ?_
 ·have yes:¬geoR g->(true=decide (¬geoR g)/\w1=w1):=λh=>⟨by simp[h],rfl⟩
  refine s1.L 0 rfl (p:=g.2.1) rfl (br_of (λh=>yes λh'=>?_) λh1=>?_)
  ·have:=h'.1;simp at h;omega
  refine s1.L 0 rfl (p:=g.2.1) rfl (br_of (λh=>yes λh'=>?_) λh2=>?_)
  ·have:=h'.1;simp at h;omega
  refine s1.L 0 rfl (p:=g.2.2.1) rfl (br_of (λh=>yes λh'=>?_) λh3=>?_)
  ·have:=h'.2.1;simp at h;omega
  refine s1.L 0 rfl (p:=g.2.2.1) rfl (br_of (λh=>yes λh'=>?_) λh4=>?_)
  ·have:=h'.2.1;simp at h;omega
  refine s1.L 0 rfl (p:=g.2.2.2) rfl (br_of (λh=>yes λh'=>?_) λh5=>?_)
  ·have:=h'.2.2;simp at h;omega
  refine s1.L 0 rfl (p:=g.2.2.2) rfl ⟨?_,rfl⟩;simp only[decide_eq_false_iff_not]at h1 h2 h3 h4 h5;exact decide_eq_decide.2 ⟨λh h'=>by have:=h'.2.2;omega,λh=>Classical.byContradiction λh6=>h ⟨by omega,by omega,by omega⟩⟩
 rintro _ _ ⟨rfl,rfl⟩;refine br_of (λh=>⟨?_,s1.gro⟩) λh=>?_
 ·simp only[decide_eq_true_eq]at h
  exact(if_neg λh'=>h h'.1).symm
 have hr:geoR g:=by simpa using h
 refine jn_of (λb W=>b=decide (¬((planT g).2.2.2.2.2<=g.1/\g.1<=2048))/\Grow w W) ?_ ?_
 ·have sd:=s1.drew
  refine sd.LA 0 rfl (p:=g) rfl (jn_of (λb W=>b=decide (g.1<(planT g).2.2.2.2.2)/\St noF w W [BoxA r (gcells g)]) ⟨?_,?_⟩ ?_)
  ·refine sd.L 0 rfl (p:=g.1) rfl (callF_of (V48 g _ hr) ?_)
   rintro _ w2 ⟨rfl,g2⟩;exact⟨rfl,sd.grow g2⟩
  ·refine callF_of (V48 g _ hr) ?_
   rintro _ w2 ⟨rfl,g2⟩;exact(sd.grow g2).L 0 rfl (p:=g.1) rfl ⟨rfl,sd.grow g2⟩
  rintro _ W ⟨rfl,s2⟩;refine br_of (λh=>⟨?_,s2.gro⟩) λh=>s2.L 0 rfl (p:=g.1) rfl ⟨?_,s2.gro⟩
  ·simp only[decide_eq_true_eq]at h
   symm;rw[decide_eq_true_eq];omega
  ·simp only[decide_eq_false_iff_not]at h
   exact decide_eq_decide.2 (by omega)
 rintro _ W ⟨rfl,gW⟩;refine br_of (λh=>⟨?_,gW⟩) λh=>⟨?_,gW⟩
 ·simp only[decide_eq_true_eq]at h
  exact(if_neg λh'=>h h'.2).symm
 ·simp only[decide_eq_false_iff_not,Classical.not_not]at h
  exact(if_pos ⟨hr,h⟩).symm
theorem V49(g:Geo)(w:World):Calls Tryz.prog 49 #[g.v] w (RetT [.agg [.int .i64,.int .i64,.int .i64,.int .i64,.int .i64,.int .i64],.c (.int .i64)] λr w'=>r=ofG g/\Grow w w'):=by
 refine F49_calls g.1 g.2.1 g.2.2.1 g.2.2.2 _ _ ?_;unfold F49 ofG;refine St.nw (St.init0 w) λr w1 s1 _ _=>St.nw s1 λr1 w2 s2 _ _=>?_;refine s2.LA 1 rfl (p:=g) rfl ?_;refine callF_of (V13 g w2) ?_;rintro _ w3 ⟨rfl,g3⟩;have s3:=s2.grow g3;refine br_of (λh=>?_) λh=>?_
 ·have h:geoE g≠0:=by simpa using h
  refine s3.SB 0 rfl rfl (na_p (0,0,0,0,0,0)) λw4 s4=>St.LA 0 s4 rfl (p:=(0,0,0,0,0,0)) rfl ⟨?_,s4.gro⟩;rw[if_neg h,(geoE_cases g).resolve_left h]
 ·have h:geoE g=0:=by simpa using h
  refine s3.LA 1 rfl (p:=g) rfl ?_;refine callF_of (V48 g w3 (geoE_R h)) ?_;rintro P w4 ⟨hP,g4⟩;refine(s3.grow g4).SB 0 rfl rfl (na_p P) λw5 s5=>St.LA 0 s5 rfl (p:=P) rfl ⟨?_,s5.gro⟩;rw[if_pos h,<-hP]
def someG:Geo:=(18,8,1,1)
theorem V47(w:World):Calls Tryz.prog 47 #[] w (RetT [.agg [.int .i64,.int .i64,.int .i64,.int .i64]] λr w'=>r=someG/\Grow w w'):=by
 refine F47_calls _ _ ?_;unfold F47;exact(St.init0 w).nvs rfl (na_g someG) λr w1 s1=>s1.LA 0 rfl (p:=someG) rfl ⟨rfl,s1.gro⟩
abbrev Sup:=Int×Int×Int×Int×Int×Int
abbrev Sup.v(s:Sup):Value:=.agg #[iv s.1,iv s.2.1,iv s.2.2.1,iv s.2.2.2.1,iv s.2.2.2.2.1,iv s.2.2.2.2.2]
abbrev Sup0:Sup:=(0,0,0,0,0,0)
abbrev supG(s:Sup):Geo:=(s.2.1,s.2.2.1,s.2.2.2.1,s.2.2.2.2.1)
def supR(s:Sup):Prop:=1<=s.1/\s.1<=1152921504606846976/\0<=s.2.2.2.2.2/\s.2.2.2.2.2<=1152921504606846976
instance(s:Sup):Decidable (supR s):=by unfold supR;exact inferInstance
def supE(s:Sup):Int:=if geoE (supG s)=40 then 40 else if supR s then 0 else 50
def firstS(g:Geo):Sup×Int:=if geoE g=0 then((2,g.1,g.2.1,g.2.2.1,g.2.2.2,4*g.2.1),0)else(Sup0,40)
def nextE(s:Sup)(h:Int):Int:=if supE s≠0 then supE s else if h<s.2.2.2.2.2\/h>1152921504606846976 then 1 else if s.1=1152921504606846976 then 6 else 0
def nextS(s:Sup)(h:Int):Sup×Int:=if nextE s h=0 then((s.1+1,s.2.1,s.2.2.1,s.2.2.2.1,s.2.2.2.2.1,h),0)else(Sup0,nextE s h)
def slotS(s:Sup):Int:=if s.1<0 then 0 else s.1%2
def magicS:List UInt8:=[97,116,116,105,99,32,49,10]
def superL(s:Sup):List UInt8:=magicS++numB 8 s.1.toNat++numB 4 s.2.1.toNat++numB 4 s.2.2.1.toNat++numB 4 s.2.2.2.1.toNat++numB 4 s.2.2.2.2.1.toNat++numB 8 s.2.2.2.2.2.toNat
def bytesS(s:Sup):List UInt8:=sealM (superL s++List.replicate 20 0)++List.replicate 192 0
theorem superL_len(s:Sup):(superL s).length=40:=by simp[superL,numB_len,magicS]
theorem supE_ok{s:Sup}(h:supE s=0):geoE (supG s)=0/\supR s:=by
 unfold supE at h;split at h
 ·cases h
 ·rename_i hg
  split at h
  ·rename_i hr;exact⟨(geoE_cases _).resolve_right hg,hr⟩
  ·cases h
theorem supE_g{s:Sup}(h:geoE (supG s)=0):supE s=if supR s then 0 else 50:=by unfold supE;rw[if_neg (by rw[h];decide)]
theorem dec_true{p:Prop}[Decidable p](h:p):true=decide p:=by simp[h]
theorem V167(s:Sup)(w:World):Calls Tryz.prog 167 #[s.v] w (RetT [.c (.int .i64)] λr w'=>r=supE s/\Grow w w'):=by
 refine F167_calls s.1 s.2.1 s.2.2.1 s.2.2.2.1 s.2.2.2.2.1 s.2.2.2.2.2 _ _ ?_;unfold F167;refine St.nw (St.init0 w) λr w1 s1 _ _=>?_;have s1:St noF w w1 [BoxA r (pcells s)]:=s1;have hrow:readsAt w1 (bA r 1) 0 (valA [.int .i64,.int .i64,.int .i64,.int .i64] (supG s)):=by
  exact readsAt_row.2 ((s1.box.row.drop 1).take 4)
 refine ldA_of (l:=[.int .i64,.int .i64,.int .i64,.int .i64]) (p:=supG s) hrow ?_;refine callF_of (V123 (supG s) w1) ?_;rintro e w2 ⟨he,g2⟩;have s2:=s1.grow g2;refine br_of (λh=>?_) λh=>?_
 ·have h:e≠0:=by simpa using h
  have h4:geoE (supG s)=40:=by rw[<-he];exact(he▸geoE_cases _:e=0\/e=40).resolve_left h
  refine⟨?_,s2.gro⟩;unfold supE;rw[if_pos h4,he,h4]
 have h:e=0:=by simpa using h
 rw[supE_g (by rw[<-he,h])];refine jn_of (λb W=>b=decide (¬supR s)/\W=w2) ?_ ?_
 ·unfold supR
  refine s2.L 0 rfl (p:=s.1) rfl (br_of (λh=>⟨dec_true (by simp at h;omega),rfl⟩) λh1=>?_);refine s2.L 0 rfl (p:=s.1) rfl (br_of (λh=>⟨dec_true (by simp at h;omega),rfl⟩) λh2=>?_);refine s2.L 0 rfl (p:=s.2.2.2.2.2) rfl (br_of (λh=>⟨dec_true (by simp at h;omega),rfl⟩) λh3=>?_);refine s2.L 0 rfl (p:=s.2.2.2.2.2) rfl ⟨?_,rfl⟩;simp only[decide_eq_false_iff_not]at h1 h2 h3;exact decide_eq_decide.2 (by omega)
 rintro _ _ ⟨rfl,rfl⟩;refine br_of (λh=>⟨?_,s2.gro⟩) λh=>⟨?_,s2.gro⟩
 ·simp only[decide_eq_true_eq]at h;rw[if_neg h]
 ·simp only[decide_eq_false_iff_not,Classical.not_not]at h;rw[if_pos h]
theorem V85(g:Geo)(w:World):Calls Tryz.prog 85 #[g.v] w (RetT [.agg [.int .i64,.int .i64,.int .i64,.int .i64,.int .i64,.int .i64],.c (.int .i64)] λr w'=>r=firstS g/\Grow w w'):=by
 refine F85_calls g.1 g.2.1 g.2.2.1 g.2.2.2 _ _ ?_;unfold F85 firstS;refine St.nw (St.init0 w) λr w1 s1 _ _=>St.nw s1 λr1 w2 s2 _ _=>?_;refine s2.LA 1 rfl (p:=g) rfl ?_;refine callF_of (V123 g w2) ?_;rintro e w3 ⟨he,g3⟩;have s3:=s2.grow g3;rw[<-he];refine br_of (λh=>?_) λh=>?_
 ·have h:e≠0:=by simpa using h
  refine s3.SB 0 rfl rfl (na_p Sup0) λw4 s4=>St.LA 0 s4 rfl (p:=Sup0) rfl ⟨?_,s4.gro⟩;rw[if_neg h,(he▸geoE_cases g:e=0\/e=40).resolve_left h]
 ·have h:e=0:=by simpa using h
  have hr:=(geoE_R (he.symm.trans h)).1;refine s3.LA 1 rfl (p:=g) rfl ?_;refine s3.L 1 rfl (p:=g.2.1) rfl ?_;rw[w64_of ⟨by omega,by omega⟩];refine s3.SB 0 rfl rfl (na_p (2,g.1,g.2.1,g.2.2.1,g.2.2.2,4*g.2.1)) λw4 s4=>St.LA 0 s4 rfl (p:=(2,g.1,g.2.1,g.2.2.1,g.2.2.2,4*g.2.1)) rfl ⟨?_,s4.gro⟩;rw[if_pos h]
theorem V113(s:Sup)(h:Int)(w:World):Calls Tryz.prog 113 #[s.v,iv h] w (RetT [.agg [.int .i64,.int .i64,.int .i64,.int .i64,.int .i64,.int .i64],.c (.int .i64)] λr w'=>r=nextS s h/\Grow w w'):=by
 refine F113_calls s.1 s.2.1 s.2.2.1 s.2.2.2.1 s.2.2.2.2.1 s.2.2.2.2.2 h _ _ ?_;unfold F113 nextS;refine St.nw (St.init0 w) λr w1 s1 _ _=>St.nw s1 λr1 w2 s2 _ _=>?_;have s2:St noF w w2 [BoxA r1 (pcells Sup0),BoxA r (pcells s)]:=s2;refine s2.LA 1 rfl (p:=s) rfl ?_;refine callF_of (V167 s w2) ?_;rintro e w3 ⟨he,g3⟩;have s3:=s2.grow g3;refine jn_of (λx W=>x=nextE s h/\W=w3) ?_ ?_
 ·unfold nextE
  rw[<-he];refine br_of (λh1=>⟨(if_pos (by simpa using h1)).symm,rfl⟩) λh1=>?_;rw[if_neg (by simpa using h1)];have h1:e=0:=by simpa using h1
  refine jn_of (λb W=>b=decide (h<s.2.2.2.2.2\/h>1152921504606846976)/\W=w3) ?_ ?_
  ·refine s3.L 1 rfl (p:=s.2.2.2.2.2) rfl (br_of (λh=>⟨dec_true (.inl (by simpa using h)),rfl⟩) λh2=>⟨?_,rfl⟩)
   simp only[decide_eq_false_iff_not]at h2;exact decide_eq_decide.2 (by omega)
  rintro _ _ ⟨rfl,rfl⟩;refine br_of (λh2=>⟨(if_pos (by simpa using h2)).symm,rfl⟩) λh2=>?_;rw[if_neg (by simpa using h2)];refine s3.L 1 rfl (p:=s.1) rfl (br_of (λh3=>⟨(if_pos (by simpa using h3)).symm,rfl⟩) λh3=>⟨?_,rfl⟩);rw[if_neg (by simpa using h3),h1]
 rintro x _ ⟨hx,rfl⟩;rw[<-hx];refine br_of (λh1=>?_) λh1=>?_
 ·refine s3.SB 0 rfl rfl (na_p Sup0) λw4 s4=>St.LA 0 s4 rfl (p:=Sup0) rfl ⟨?_,s4.gro⟩
  rw[if_neg (by simpa using h1)]
 ·have h1:x=0:=by simpa using h1
  have hr:1<=s.1/\s.1<=1152921504606846976:=by
   rw[h1]at hx;unfold nextE at hx;split at hx
   ·rename_i h2;exact absurd hx.symm h2
   ·rename_i h2
    have:=(supE_ok (Classical.not_not.1 h2)).2;exact⟨this.1,this.2.1⟩
  refine s3.L 1 rfl (p:=s.1) rfl (s3.S 1 rfl (by simp) trivial λw4 s4=>St.S 1 s4 rfl (by simp) trivial λw5 s5=>?_);rw[w64_of ⟨by omega,by omega⟩]at s5;have s5:St noF w w5 [BoxA r1 (pcells Sup0),BoxA r (pcells (s.1+1,s.2.1,s.2.2.1,s.2.2.2.1,s.2.2.2.2.1,h))]:=s5;refine s5.LA 1 rfl (p:=(s.1+1,s.2.1,s.2.2.1,s.2.2.2.1,s.2.2.2.2.1,h)) rfl ?_;refine s5.SB 0 rfl rfl (na_p (s.1+1,s.2.1,s.2.2.1,s.2.2.2.1,s.2.2.2.2.1,h)) λw6 s6=>St.LA 0 s6 rfl (p:=(s.1+1,s.2.1,s.2.2.1,s.2.2.2.1,s.2.2.2.2.1,h)) rfl ⟨?_,s6.gro⟩;rw[if_pos h1]
theorem V134(s:Sup)(w:World):Calls Tryz.prog 134 #[s.v] w (RetT [.c (.int .i64)] λr w'=>r=slotS s/\Grow w w'):=by
 refine F134_calls s.1 s.2.1 s.2.2.1 s.2.2.2.1 s.2.2.2.2.1 s.2.2.2.2.2 _ _ ?_;unfold F134;refine St.nw (St.init0 w) λr w1 s1 _ _=>s1.L 0 rfl (p:=s.1) rfl ⟨by decide,?_,s1.gro⟩;unfold slotS imax;split
 ·rfl
 ·rw[Int.tmod_eq_emod_of_nonneg (by omega)]
theorem supE_num{s:Sup}(h:supE s=0):(1<=s.1/\s.1<=1152921504606846976)/\(0<=s.2.1/\s.2.1<=2048)/\(0<=s.2.2.1/\s.2.2.1<=2048)/\(0<=s.2.2.2.1/\s.2.2.2.1<=2048)/\(0<=s.2.2.2.2.1/\s.2.2.2.2.1<=2048)/\0<=s.2.2.2.2.2/\s.2.2.2.2.2<=1152921504606846976:=by
 obtain⟨hg,h1,h2,h3,h4⟩:=supE_ok h;have hr:=geoE_R hg;unfold geoE at hg;split at hg
 ·rename_i h5
  obtain⟨_,h6,h7⟩:=h5;obtain⟨⟨a1,a2⟩,⟨b1,b2⟩,c1,c2⟩:=hr;unfold planT at h6;dsimp only at h6 h7 a1 a2 b1 b2 c1 c2;exact⟨⟨h1,h2⟩,⟨by omega,h7⟩,⟨by omega,by omega⟩,⟨by omega,by omega⟩,⟨by omega,by omega⟩,h3,h4⟩
 ·cases hg
theorem num_app{F0:Nat->Prop}{w0 w:World}{L:List HA}{s:Sl}{A:List UInt8}{n:Nat}{v:Int}{k:Sl->Pr}(h:St F0 w0 w (SlA 1 s (A.map ub)::L))(h1:1<=n)(h8:n<=8)(hv:0<=v/\v<=1152921504606846976)(hl:A.length<=1000000)
 (hk:∀r w',St F0 w0 w' (SlA 1 r ((A++numB n v.toNat).map ub)::L)->k r w'):
 callF Tryz.prog 183 [iv n,.int .u64 (wU64 v)] [.c .slice] (λt=>app 5 1 1 [uv 0] s t k) w:=by
 rw[wU64_of ⟨by omega,by omega⟩];have e:v=(v.toNat:Int):=by omega
 generalize v.toNat=m at e hk;subst e;refine callF_of (Y50 n m w h1 h8) λt w1 s1=>?_;have s2:St F0 w0 w1 (SlA 1 s (A.map ub)::SlA 1 t ((numB n m).map ub)::L):=(h.call0 s1).bring 1;exact s2.appB (by rw[numB_len];omega) λr w2 s3=>hk r w2 (s3.del 1)
theorem zeros_u8(n:Nat):zc [uv 0] n=(List.replicate n (0:UInt8)).map ub:=by rw[zc_one,List.map_replicate];rfl
theorem bytesS_len(s:Sup):(bytesS s).length=256:=by simp[bytesS,sealM,superL_len]
theorem V133(s:Sup)(w:World):Calls Tryz.prog 133 #[s.v] w (RetT [.c .slice,.c (.int .i64)] λr w'=>r.2=supE s/\((supE s≠0/\r.1=⟨none,0,0⟩/\Grow w w')\/supE s=0/\St noF w w' [SlA 1 r.1 ((bytesS s).map ub)])):=by
 refine F133_calls s.1 s.2.1 s.2.2.1 s.2.2.2.1 s.2.2.2.2.1 s.2.2.2.2.2 _ _ ?_;unfold F133;refine St.nw (St.init0 w) λr w1 s1 _ _=>?_;have s1:St noF w w1 [BoxA r (pcells s)]:=s1;refine s1.LA 0 rfl (p:=s) rfl ?_;refine callF_of (V167 s w1) ?_;rintro e w2 ⟨he,g2⟩;have s2:=s1.grow g2;refine br_of (λh=>⟨he,.inl ⟨by rw[<-he];simpa using h,rfl,s2.gro⟩⟩) λh=>?_;have h0:supE s=0:=by rw[<-he];simpa using h
 obtain⟨b1,b2,b3,b4,b5,b6⟩:=supE_num h0;refine s2.mkS0 (c:=256) (k:=1) rfl (by decide) (by decide) λt w3 s3 _=>?_;have s3:St noF w w3 [SlA 1 t [],BoxA r (pcells s)]:=s3;have ht:t.len=0:=by have:=slA_len1 s3.sl;simpa using this
 refine s3.appS rfl rfl (by decide) (by rw[ht];decide) λt1 w4 s4 _=>?_;have s4:St noF w w4 [SlA 1 t1 (magicS.map ub),BoxA r (pcells s)]:=s4;refine s4.L 1 rfl (p:=s.1) rfl ?_;refine num_app (n:=8) s4 (by decide) (by decide) ⟨by omega,b1.2⟩ (by decide) λt2 w5 s5=>?_;refine s5.L 1 rfl (p:=s.2.1) rfl (s5.L 1 rfl (p:=s.2.2.1) rfl (s5.L 1 rfl (p:=s.2.2.2.1) rfl (s5.L 1 rfl (p:=s.2.2.2.2.1) rfl ?_)));refine St.nw s5 λr1 w6 s6 _ _=>?_;let ns:List Int:=[s.2.1,s.2.2.1,s.2.2.2.1,s.2.2.2.2.1];have hns:∀n∈ns,0<=n/\n<=2048:=by
  intro n hn;simp only[ns,List.mem_cons,List.not_mem_nil,or_false]at hn;rcases hn with rfl|rfl|rfl|rfl<;>assumption
 have s6:St noF w w6 [BoxA r1 (ns.map iv),SlA 1 t2 ((magicS++numB 8 s.1.toNat).map ub),BoxA r (pcells s)]:=s6;refine loop_of (λz W=>∃j:Nat,z.2=(j:Int)/\j<=4/\St noF w W [SlA 1 z.1 ((magicS++numB 8 s.1.toNat++(ns.take j).flatMap λn=>numB 4 n.toNat).map ub),BoxA r1 (ns.map iv),BoxA r (pcells s)])
  (λz _=>4-z.2.toNat) ⟨0,rfl,by omega,by rw[List.take_zero,List.flatMap_nil,List.append_nil];exact s6.bring 1⟩ ?_
 rintro⟨u,z⟩ W ⟨j,hz,hj,sW⟩;dsimp only at hz sW⊢;subst hz;have hfl:∀l:List Int,(l.flatMap λn=>numB 4 n.toNat).length=4*l.length:=by
  intro l
  induction l with
  |nil=>rfl
  |cons x l ih=>rw[List.flatMap_cons,List.length_append,ih,numB_len,List.length_cons];omega
 refine br_of (λhlt=>?_) λhge=>?_
 ·simp only[decide_eq_true_eq]at hlt
  have hjl:j<ns.length:=by show j<4;omega
  refine⟨⟨by omega,by omega⟩,?_⟩;rw[Int.toNat_natCast,Nat.mul_one];have hx:=hns _ (List.getElem_mem hjl);have htk:ns.take (j+1)=ns.take j++[ns[j]]:=by rw[List.take_add_one,List.getElem?_eq_getElem hjl];rfl
  have hcell:(ns.map iv)[j]? =some (valC (.int .i64) ns[j]):=by rw[List.getElem?_map,List.getElem?_eq_getElem hjl];rfl
  generalize ns[j]=x at hx htk hcell;obtain⟨_,hb,_⟩:=sW.isAt 1 rfl;have hld:ldC (.int .i64) (Addr.add ⟨r1,0,none⟩ j) _ W:=hb.ld (i:=j) (k:=λt39=>callF Tryz.prog 183 [iv 4,.int .u64 (wU64 t39)] [.c .slice] λt43=>app 5 1 1 [uv 0] u t43 λt44 w'=>(∃j_1:Nat,w64 ((j:Int)+1)=(j_1:Int)/\j_1<=4/\St noF w w' [SlA 1 t44 ((magicS++numB 8 s.1.toNat++(ns.take j_1).flatMap λn=>numB 4 n.toNat).map ub),BoxA r1 (ns.map iv),BoxA r (pcells s)])/\4-(w64 ((j:Int)+1)).toNat<4-(j:Int).toNat) hcell ?_
  ·rw[bA,add_zero'];exact hld
  refine num_app (n:=4) sW (by decide) (by decide) ⟨hx.1,by omega⟩ (by rw[List.length_append,List.length_append,numB_len,hfl,List.length_take];simp[magicS];omega) λt3 w7 s7=>?_;rw[w64_succ (by omega)];refine⟨⟨j+1,rfl,by omega,?_⟩,by omega⟩;rw[htk,List.flatMap_append,<-List.append_assoc];simpa using s7
 ·simp only[decide_eq_false_iff_not]at hge
  have:j=4:=by omega
  subst this;have e4:magicS++numB 8 s.1.toNat++(ns.take 4).flatMap (λn=>numB 4 n.toNat)=magicS++numB 8 s.1.toNat++numB 4 s.2.1.toNat++numB 4 s.2.2.1.toNat++numB 4 s.2.2.2.1.toNat++numB 4 s.2.2.2.2.1.toNat:=by
   simp[ns]
  rw[e4]at sW;refine sW.L 2 rfl (p:=s.2.2.2.2.2) rfl ?_;refine num_app (n:=8) sW (by decide) (by decide) b6 (by simp[magicS]) λt4 w8 s8=>?_;have s8:St noF w w8 [SlA 1 t4 ((superL s).map ub),BoxA r1 (ns.map iv),BoxA r (pcells s)]:=s8;have hl4:t4.len=40:=by have:=slA_len1 s8.sl;rw[List.length_map,superL_len]at this;exact this
  rw[hl4,w64_of ⟨by omega,by omega⟩];refine s8.appZ (m:=20) (by rfl) (by decide) rfl (by simp) (by decide) (by decide) (by rw[hl4];decide) λt5 w9 s9 _=>?_;rw[zeros_u8,<-List.map_append]at s9;refine callF_of (Y27 t5 (superL s++List.replicate 20 0) w9 s9.sl.bs (by simp[superL_len])) λt6 w10 s10=>?_;have hl6:t6.len=64:=by have:=slA_len1 s10.sl;rw[List.length_map]at this;rw[this];simp[sealM,superL_len]
  rw[hl6,w64_of ⟨by omega,by omega⟩];refine(s9.call0 s10).appZ (m:=192) (by rfl) (by decide) rfl (by simp) (by decide) (by decide) (by rw[hl6];decide) λt7 w11 s11 _=>?_;rw[zeros_u8,<-List.map_append]at s11;exact⟨h0.symm,.inr ⟨h0,St.dropR (l:=[_]) s11⟩⟩
set_option maxRecDepth 100000
def an180:An:=(.sq .z (.sq .z (.sq .z .z)))
def F180(p0_0:Int)(p0_1:Int)(p0_2:Int)(p0_3:Sl)(p0_4:Int)(Q:Bool->Pr):Pr:=
 nw (.cells #[(.int .i64 p0_0),(.int .i64 p0_1),(.int .i64 p0_2),(.slice p0_3.a p0_3.len p0_3.cap),(.int .i64 p0_4)] 109) λr=>
 deref (some ⟨r,0,none⟩) λa=>
 deref (some (a.add 3)) λa_1=>
 ldC .slice a_1 λ(t5:Sl)=>
 deref (some ⟨r,0,none⟩) λa_2=>
 deref (some (a_2.add 4)) λa_3=>
 ldC (.int .i64) a_3 λ(t8:Int)=>
 br (t8==0) (
 deref (some ⟨r,0,none⟩) λa_4=>
 deref (some (a_4.add 1)) λa_5=>
 ldC (.int .i64) a_5 λ(t12:Int)=>
 br (decide (t12>=0)) (
 deref (some ⟨r,0,none⟩) λa_6=>
 deref (some (a_6.add 1)) λa_7=>
 ldC (.int .i64) a_7 λ(t17:Int)=>
 br (decide (t17<2048)) (
 br (decide ((t5.len:Int)>=1)) (
 br (decide ((t5.len:Int)<=44)) (
 deref (some ⟨r,0,none⟩) λa_8=>
 deref (some (a_8.add 2)) λa_9=>
 ldC (.int .i64) a_9 λ(t30:Int)=>
 br (decide (t30>=0)) (
 deref (some ⟨r,0,none⟩) λa_10=>
 deref (some (a_10.add 2)) λa_11=>
 ldC (.int .i64) a_11 λ(t35:Int)=>
 Q ((decide (t35<=(IntKind.wrap .i64 (256-(t5.len:Int))))))) (
 Q false)) (
 Q false)) (
 Q false)) (
 Q false)) (
 Q false)) (
 Q false)
theorem F180_calls(p0_0:Int)(p0_1:Int)(p0_2:Int)(p0_3:Sl)(p0_4:Int)(Q:Bool->Pr)(w:World)(h:F180 p0_0 p0_1 p0_2 p0_3 p0_4 Q w):Calls Tryz.prog 180 #[(.agg #[(.int .i64 p0_0),(.int .i64 p0_1),(.int .i64 p0_2),(slV p0_3),(.int .i64 p0_4)])] w (RetT [.c .bool] Q):=cF (an:=an180) Tryz.func180 (by kernel_rfl) h
def an128:An:=(.sq .z (.sq .z (.sq (.jn [(3,.c .bool)] (.sq .z (.bl (.sq .z (.br .z (.sq .z (.br .z .z))))))) (.sq (.sq .z (.br (.sq .z .z) .z)) (.sq .z .z)))))
def F128(p0_0:Int)(p0_1:Int)(p0_2:Int)(p0_3:Sl)(p0_4:Int)(Q:Int->Pr):Pr:=
 nw (.cells #[(.int .i64 p0_0),(.int .i64 p0_1),(.int .i64 p0_2),(.slice p0_3.a p0_3.len p0_3.cap),(.int .i64 p0_4)] 109) λr=>
 jn (S:=Bool) (λR=>
 deref (some ⟨r,0,none⟩) λa=>
 deref (some (a.add 0)) λa_1=>
 ldC (.int .i64) a_1 λ(t5:Int)=>
 br (t5==1) (
 deref (some ⟨r,0,none⟩) λa_2=>
 ldA [(.int .i64),(.int .i64),(.int .i64),.slice,(.int .i64)] a_2 λ(t8:Int×Int×Int×Sl×Int)=>
 callF Tryz.prog 180 [(.agg #[(.int .i64 t8.1),(.int .i64 t8.2.1),(.int .i64 t8.2.2.1),(.slice t8.2.2.2.1.a t8.2.2.2.1.len t8.2.2.2.1.cap),(.int .i64 t8.2.2.2.2)])] [.c .bool] λ(t9:Bool)=>
 R t9) (
 br (t5==2) (
 deref (some ⟨r,0,none⟩) λa_3=>
 deref (some (a_3.add 4)) λa_4=>
 ldC (.int .i64) a_4 λ(t13:Int)=>
 br (decide (t13>=0)) (
 deref (some ⟨r,0,none⟩) λa_5=>
 deref (some (a_5.add 4)) λa_6=>
 ldC (.int .i64) a_6 λ(t17:Int)=>
 br (decide (t17<=65536)) (
 deref (some ⟨r,0,none⟩) λa_7=>
 deref (some (a_7.add 1)) λa_8=>
 ldC (.int .i64) a_8 λ(t22:Int)=>
 br (t22==0) (
 deref (some ⟨r,0,none⟩) λa_9=>
 deref (some (a_9.add 2)) λa_10=>
 ldC (.int .i64) a_10 λ(t27:Int)=>
 br (t27==0) (
 deref (some ⟨r,0,none⟩) λa_11=>
 deref (some (a_11.add 3)) λa_12=>
 ldC .slice a_12 λ(t32:Sl)=>
 R (((t32.len:Int)==0))) (
 R false)) (
 R false)) (
 R false)) (
 R false)) (
 R false))) λs=>
 br (!s) (
 Q 60) (
 Q 0)
theorem F128_calls(p0_0:Int)(p0_1:Int)(p0_2:Int)(p0_3:Sl)(p0_4:Int)(Q:Int->Pr)(w:World)(h:F128 p0_0 p0_1 p0_2 p0_3 p0_4 Q w):Calls Tryz.prog 128 #[(.agg #[(.int .i64 p0_0),(.int .i64 p0_1),(.int .i64 p0_2),(slV p0_3),(.int .i64 p0_4)])] w (RetT [.c (.int .i64)] Q):=cF (an:=an128) Tryz.func128 (by kernel_rfl) h
def an182:An:=(.sq .z (.sq .z .z))
def F182(p0_0:Int)(p0_1:Int)(p0_2:Int)(p0_3:Sl)(p0_4:Int)(Q:Bool->Pr):Pr:=
 nw (.cells #[(.int .i64 p0_0),(.int .i64 p0_1),(.int .i64 p0_2),(.slice p0_3.a p0_3.len p0_3.cap),(.int .i64 p0_4)] 109) λr=>
 deref (some ⟨r,0,none⟩) λa=>
 ldA [(.int .i64),(.int .i64),(.int .i64),.slice,(.int .i64)] a λ(t3:Int×Int×Int×Sl×Int)=>
 callF Tryz.prog 128 [(.agg #[(.int .i64 t3.1),(.int .i64 t3.2.1),(.int .i64 t3.2.2.1),(.slice t3.2.2.2.1.a t3.2.2.2.1.len t3.2.2.2.1.cap),(.int .i64 t3.2.2.2.2)])] [.c (.int .i64)] λ(t4:Int)=>
 Q ((t4 !=0))
theorem F182_calls(p0_0:Int)(p0_1:Int)(p0_2:Int)(p0_3:Sl)(p0_4:Int)(Q:Bool->Pr)(w:World)(h:F182 p0_0 p0_1 p0_2 p0_3 p0_4 Q w):Calls Tryz.prog 182 #[(.agg #[(.int .i64 p0_0),(.int .i64 p0_1),(.int .i64 p0_2),(slV p0_3),(.int .i64 p0_4)])] w (RetT [.c .bool] Q):=cF (an:=an182) Tryz.func182 (by kernel_rfl) h
def an211:An:=(.sq .z (.sq (.sq .z (.bl (.lp [(8,.c (.int .i64))] (.sq .z (.sq (.br .z .z) (.sq (.bl (.sq .z (.sq .z (.br (.sq .z .z) .z)))) .z)))))) (.sq .z .z)))
def F211(p0:Sl)(p1:Value)(Q:Int->Pr):Pr:=
 loopE (S:=Int) (λX s=>
 br (decide (s<(p0.len:Int))) (
 owe ((0:Int)<=s/\s<(p0.len:Int))<|
 deref p0.a λa=>
 deref (some (a.add (Int.toNat s*5))) λa_1=>
 ldA [(.int .i64),(.int .i64),(.int .i64),.slice,(.int .i64)] a_1 λ(t15:Int×Int×Int×Sl×Int)=>
 callV Tryz.prog p1 [(.agg #[(.int .i64 t15.1),(.int .i64 t15.2.1),(.int .i64 t15.2.2.1),(.slice t15.2.2.2.1.a t15.2.2.2.1.len t15.2.2.2.1.cap),(.int .i64 t15.2.2.2.2)])] [.c .bool] λ(t16:Bool)=>
 br t16 (
 Q s) (
 X ((IntKind.wrap .i64 (s+1))))) (
 Q (-1))) 0
theorem F211_calls(p0:Sl)(p1:Value)(Q:Int->Pr)(w:World)(h:F211 p0 p1 Q w):Calls Tryz.prog 211 #[(slV p0),p1] w (RetT [.c (.int .i64)] Q):=cF (an:=an211) Tryz.func211 (by kernel_rfl) h
def an181:An:=(.sq .z (.sq .z .z))
def F181(p0:Sl)(p1:Value)(Q:Bool->Pr):Pr:=
 callF Tryz.prog 211 [(.slice p0.a p0.len p0.cap),p1] [.c (.int .i64)] λ(t7:Int)=>
 Q ((decide (t7>=0)))
theorem F181_calls(p0:Sl)(p1:Value)(Q:Bool->Pr)(w:World)(h:F181 p0 p1 Q w):Calls Tryz.prog 181 #[(slV p0),p1] w (RetT [.c .bool] Q):=cF (an:=an181) Tryz.func181 (by kernel_rfl) h
def an82:An:=(.sq .z (.sq (.sq .z (.br (.sq .z .z) .z)) (.sq .z .z)))
def F82(p0:Sl)(Q:Sl->Pr):Pr:=
 owe True<|
 br (Option.isNone p0.a) (
 Q (⟨none,0,0⟩)) (
 nw (.cells #[] 5) λr=>
 app 5 1 1 [(.int .u8 0)] ⟨(some ⟨r,0,none⟩),0,0⟩ p0 λt7=>
 Q t7)
theorem F82_calls(p0:Sl)(Q:Sl->Pr)(w:World)(h:F82 p0 Q w):Calls Tryz.prog 82 #[(slV p0)] w (RetT [.c .slice] Q):=cF (an:=an82) Tryz.func82 (by kernel_rfl) h
def an26:An:=(.sq .z (.sq .z .z))
def F26(p0:Sl)(p1:Sl)(Q:Bool->Pr):Pr:=
 b2s p0 λt6=>
 b2s p1 λt8=>
 Q ((t6.toList==t8.toList))
theorem F26_calls(p0:Sl)(p1:Sl)(Q:Bool->Pr)(w:World)(h:F26 p0 p1 Q w):Calls Tryz.prog 26 #[(slV p0),(slV p1)] w (RetT [.c .bool] Q):=cF (an:=an26) Tryz.func26 (by kernel_rfl) h
def an131:An:=(.sq .z (.sq (.sq .z (.br (.sq .z .z) .z)) (.sq (.sq .z (.br (.sq .z .z) .z)) (.sq .z (.sq (.sq .z (.bl (.lp [(20,.c (.int .i64))] (.sq .z (.sq (.br .z .z) (.sq (.jn [] (.bl (.sq .z (.sq (.jn [(32,.c .bool)] .z) (.br .z .z))))) .z)))))) (.sq .z .z))))))
def F131(p0:Sl)(p1:Int)(p2:Sl)(Q:Sl×Int->Pr):Pr:=
 br ((p0.len:Int)!=256) (
 Q (⟨none,0,0⟩,1)) (
 callF Tryz.prog 181 [(.slice p2.a p2.len p2.cap),(.func (.func 182) #[] #[])] [.c .bool] λ(t15:Bool)=>
 br t15 (
 Q (⟨none,0,0⟩,60)) (
 callF Tryz.prog 82 [(.slice p0.a p0.len p0.cap)] [.c .slice] λ(t17:Sl)=>
 loopE (S:=Int) (λX s=>
 br (decide (s<(p2.len:Int))) (
 jn (S:=Unit) (λR=>
 owe ((0:Int)<=s/\s<(p2.len:Int))<|
 deref p2.a λa=>
 deref (some (a.add (Int.toNat s*5))) λa_1=>
 ldA [(.int .i64),(.int .i64),(.int .i64),.slice,(.int .i64)] a_1 λ(t23:Int×Int×Int×Sl×Int)=>
 nw (.cells #[(.int .i64 0),(.int .i64 0),(.int .i64 0),(.slice none 0 0),(.int .i64 0)] 109) λr=>
 deref (some ⟨r,0,none⟩) λa_2=>
 st (a_2.add 0) (.int .i64 t23.1)<|
 st (a_2.add 1) (.int .i64 t23.2.1)<|
 st (a_2.add 2) (.int .i64 t23.2.2.1)<|
 st (a_2.add 3) (.slice t23.2.2.2.1.a t23.2.2.2.1.len t23.2.2.2.1.cap)<|
 st (a_2.add 4) (.int .i64 t23.2.2.2.2)<|
 jn (S:=Bool) (λR_1=>
 deref (some ⟨r,0,none⟩) λa_3=>
 deref (some (a_3.add 0)) λa_4=>
 ldC (.int .i64) a_4 λ(t25:Int)=>
 br (t25==1) (
 deref (some ⟨r,0,none⟩) λa_5=>
 deref (some (a_5.add 1)) λa_6=>
 ldC (.int .i64) a_6 λ(t29:Int)=>
 R_1 ((t29==p1))) (
 R_1 false)) λs_2=>
 br s_2 (
 drw<|
 deref (some ⟨r,0,none⟩) λa_7=>
 deref (some (a_7.add 2)) λa_8=>
 ldC (.int .i64) a_8 λ(t35:Int)=>
 slc 1 t17 (some t35) none none λt36=>
 deref (some ⟨r,0,none⟩) λa_9=>
 deref (some (a_9.add 3)) λa_10=>
 ldC .slice a_10 λ(t38:Sl)=>
 cpy 1 t36 t38<|
 R ()) (
 R ())) λs_1=>
 X ((IntKind.wrap .i64 (s+1)))) (
 Q (t17,0))) 0))
theorem F131_calls(p0:Sl)(p1:Int)(p2:Sl)(Q:Sl×Int->Pr)(w:World)(h:F131 p0 p1 p2 Q w):Calls Tryz.prog 131 #[(slV p0),(.int .i64 p1),(slV p2)] w (RetT [.c .slice,.c (.int .i64)] Q):=cF (an:=an131) Tryz.func131 (by kernel_rfl) h
def an196:An:=(.sq .z (.sq (.sq .z (.bl (.sq .z (.br (.sq (.jn [(45,.c .bool)] .z) (.br (.sq .z .z) .z)) (.sq .z (.br (.sq (.jn [(71,.c .bool)] .z) (.br (.sq .z .z) .z)) .z)))))) (.sq .z .z)))
def F196(p0_0:Int)(p0_1:Int)(p0_2:Int)(p0_3:Sl)(p0_4:Int)(Q:Int->Pr):Pr:=
 nw (.cells #[(.int .i64 p0_0),(.int .i64 p0_1),(.int .i64 p0_2),(.slice p0_3.a p0_3.len p0_3.cap),(.int .i64 p0_4)] 109) λr=>
 deref (some ⟨r,0,none⟩) λa=>
 deref (some (a.add 0)) λa_1=>
 ldC (.int .i64) a_1 λ(t4:Int)=>
 br (t4==1) (
 jn (S:=Bool) (λR=>
 deref (some ⟨r,0,none⟩) λa_2=>
 deref (some (a_2.add 1)) λa_3=>
 ldC (.int .i64) a_3 λ(t8:Int)=>
 br (decide (t8>=0)) (
 deref (some ⟨r,0,none⟩) λa_4=>
 deref (some (a_4.add 1)) λa_5=>
 ldC (.int .i64) a_5 λ(t12:Int)=>
 br (decide (t12<2048)) (
 deref (some ⟨r,0,none⟩) λa_6=>
 deref (some (a_6.add 3)) λa_7=>
 ldC .slice a_7 λ(t17:Sl)=>
 br (decide ((t17.len:Int)>=1)) (
 deref (some ⟨r,0,none⟩) λa_8=>
 deref (some (a_8.add 3)) λa_9=>
 ldC .slice a_9 λ(t23:Sl)=>
 br (decide ((t23.len:Int)<=44)) (
 deref (some ⟨r,0,none⟩) λa_10=>
 deref (some (a_10.add 2)) λa_11=>
 ldC (.int .i64) a_11 λ(t29:Int)=>
 br (decide (t29>=0)) (
 deref (some ⟨r,0,none⟩) λa_12=>
 deref (some (a_12.add 2)) λa_13=>
 ldC (.int .i64) a_13 λ(t34:Int)=>
 deref (some ⟨r,0,none⟩) λa_14=>
 deref (some (a_14.add 3)) λa_15=>
 ldC .slice a_15 λ(t36:Sl)=>
 br (decide (t34<=(IntKind.wrap .i64 (256-(t36.len:Int))))) (
 deref (some ⟨r,0,none⟩) λa_16=>
 deref (some (a_16.add 4)) λa_17=>
 ldC (.int .i64) a_17 λ(t43:Int)=>
 R ((t43==0))) (
 R false)) (
 R false)) (
 R false)) (
 R false)) (
 R false)) (
 R false)) λs=>
 br s (
 Q 0) (
 Q 60)) (
 br (t4==2) (
 jn (S:=Bool) (λR_1=>
 deref (some ⟨r,0,none⟩) λa_18=>
 deref (some (a_18.add 4)) λa_19=>
 ldC (.int .i64) a_19 λ(t49:Int)=>
 br (decide (t49>=0)) (
 deref (some ⟨r,0,none⟩) λa_20=>
 deref (some (a_20.add 4)) λa_21=>
 ldC (.int .i64) a_21 λ(t53:Int)=>
 br (decide (t53<=65536)) (
 deref (some ⟨r,0,none⟩) λa_22=>
 deref (some (a_22.add 1)) λa_23=>
 ldC (.int .i64) a_23 λ(t58:Int)=>
 br (t58==0) (
 deref (some ⟨r,0,none⟩) λa_24=>
 deref (some (a_24.add 2)) λa_25=>
 ldC (.int .i64) a_25 λ(t63:Int)=>
 br (t63==0) (
 deref (some ⟨r,0,none⟩) λa_26=>
 deref (some (a_26.add 3)) λa_27=>
 ldC .slice a_27 λ(t68:Sl)=>
 R_1 (((t68.len:Int)==0))) (
 R_1 false)) (
 R_1 false)) (
 R_1 false)) (
 R_1 false)) λs_1=>
 br s_1 (
 Q 0) (
 Q 60)) (
 Q 60))
theorem F196_calls(p0_0:Int)(p0_1:Int)(p0_2:Int)(p0_3:Sl)(p0_4:Int)(Q:Int->Pr)(w:World)(h:F196 p0_0 p0_1 p0_2 p0_3 p0_4 Q w):Calls Tryz.prog 196 #[(.agg #[(.int .i64 p0_0),(.int .i64 p0_1),(.int .i64 p0_2),(slV p0_3),(.int .i64 p0_4)])] w (RetT [.c (.int .i64)] Q):=cF (an:=an196) Tryz.func196 (by kernel_rfl) h
def an149:An:=(.sq .z (.sq (.sq .z (.br (.sq .z .z) .z)) (.sq (.sq .z (.bl (.lp [(8,.c (.int .i64))] (.sq (.sq .z (.br .z .z)) (.sq (.bl (.sq .z (.br (.sq .z .z) .z))) .z))))) (.sq .z (.sq (.sq .z (.bl (.lp [(10,.c (.int .i64))] (.sq (.sq .z (.br .z .z)) (.sq (.bl (.sq .z (.bl (.lp [(11,.c (.int .i64))] (.sq (.sq (.jn [(51,.c .bool)] .z) (.br .z .z)) (.sq (.bl .z) .z)))))) .z))))) (.sq .z .z))))))
def F149(p0:Sl)(p1:Int)(p2:Sl)(Q:Sl×Int->Pr):Pr:=
 br ((p0.len:Int)!=256) (
 Q (⟨none,0,0⟩,1)) (
 loopE (S:=Int) (λX s=>
 br (decide (s<(p2.len:Int))) (
 owe ((0:Int)<=s/\s<(p2.len:Int))<|
 deref p2.a λa=>
 deref (some (a.add (Int.toNat s*5))) λa_1=>
 ldA [(.int .i64),(.int .i64),(.int .i64),.slice,(.int .i64)] a_1 λ(t24:Int×Int×Int×Sl×Int)=>
 callF Tryz.prog 196 [(.agg #[(.int .i64 t24.1),(.int .i64 t24.2.1),(.int .i64 t24.2.2.1),(.slice t24.2.2.2.1.a t24.2.2.2.1.len t24.2.2.2.1.cap),(.int .i64 t24.2.2.2.2)])] [.c (.int .i64)] λ(t25:Int)=>
 br (t25 !=0) (
 Q (⟨none,0,0⟩,60)) (
 X ((IntKind.wrap .i64 (s+1))))) (
 app 5 1 1 [(.int .u8 0)] ⟨none,0,0⟩ p0 λt28=>
 loopE (S:=Int) (λX_1 s_1=>
 br (decide (s_1<(p2.len:Int))) (
 loopE (S:=Int) (λX_2 s_2=>
 jn (S:=Bool) (λR=>
 owe ((0:Int)<=s_1/\s_1<(p2.len:Int))<|
 deref p2.a λa_2=>
 deref (some (a_2.add (Int.toNat s_1*5))) λa_3=>
 deref (some (a_3.add 3)) λa_4=>
 ldC .slice a_4 λ(t40:Sl)=>
 br (decide (s_2<(t40.len:Int))) (
 owe ((0:Int)<=s_1/\s_1<(p2.len:Int))<|
 deref p2.a λa_5=>
 deref (some (a_5.add (Int.toNat s_1*5))) λa_6=>
 deref (some (a_6.add 1)) λa_7=>
 ldC (.int .i64) a_7 λ(t48:Int)=>
 R ((t48==p1))) (
 R false)) λs_3=>
 br s_3 (
 drw<|
 owe ((0:Int)<=s_1/\s_1<(p2.len:Int))<|
 deref p2.a λa_8=>
 deref (some (a_8.add (Int.toNat s_1*5))) λa_9=>
 deref (some (a_9.add 2)) λa_10=>
 ldC (.int .i64) a_10 λ(t59:Int)=>
 owe ((0:Int)<=s_1/\s_1<(p2.len:Int))<|
 deref p2.a λa_11=>
 deref (some (a_11.add (Int.toNat s_1*5))) λa_12=>
 deref (some (a_12.add 3)) λa_13=>
 ldC .slice a_13 λ(t66:Sl)=>
 owe ((0:Int)<=s_2/\s_2<(t66.len:Int))<|
 deref t66.a λa_14=>
 deref (some (a_14.add (Int.toNat s_2*1))) λa_15=>
 ldC (.int .u8) a_15 λ(t69:Int)=>
 owe ((0:Int)<=(IntKind.wrap .i64 (t59+s_2))/\(IntKind.wrap .i64 (t59+s_2))<(t28.len:Int))<|
 deref t28.a λa_16=>
 deref (some (a_16.add (Int.toNat (IntKind.wrap .i64 (t59+s_2))*1))) λa_17=>
 st a_17 (.int .u8 t69)<|
 X_2 ((IntKind.wrap .i64 (s_2+1)))) (
 X_1 ((IntKind.wrap .i64 (s_1+1))))) 0) (
 Q (t28,0))) 0)) 0)
theorem F149_calls(p0:Sl)(p1:Int)(p2:Sl)(Q:Sl×Int->Pr)(w:World)(h:F149 p0 p1 p2 Q w):Calls Tryz.prog 149 #[(slV p0),(.int .i64 p1),(slV p2)] w (RetT [.c .slice,.c (.int .i64)] Q):=cF (an:=an149) Tryz.func149 (by kernel_rfl) h
def patchB(b o m:Int)(n:Nat):Bool:=decide (m=0/\0<=b/\b<2048/\1<=n/\n<=44/\0<=o/\o<=256-(n:Int))
def checkB(k b o m:Int)(n:Nat):Bool:=(k==1&&patchB b o m n)||(k==2&&decide (0<=m/\m<=65536/\b=0/\o=0/\n=0))
theorem C88(k b o m:Int)(s:Sl)(w:World):Calls Tryz.prog 180 #[.agg #[.int .i64 k,.int .i64 b,.int .i64 o,.slice s.a s.len s.cap,.int .i64 m]] w (RetT [.c .bool] λr w'=>r=patchB b o m s.len/\Grow w w'):=by
 refine F180_calls _ _ _ _ _ _ _ ?_;unfold F180;simp[ldC,exS];have hg:∀o,Grow w (w.alloc o):=λo=>(Mod.refl _ w).alloc o;have hw:(s.len:Int)<=44->IntKind.wrap .i64 (256-(s.len:Int))=256-s.len:=λh=>wrap_i64 (by omega)
 repeat' split
 all_goals refine⟨?_,hg _⟩
 all_goals simp only[patchB,Bool.false_eq,decide_eq_false_iff_not]
 all_goals first|omega|(rw[hw (by assumption)];congr 1;apply propext;omega)
theorem C59(k b o m:Int)(s:Sl)(w:World):Calls Tryz.prog 128 #[.agg #[.int .i64 k,.int .i64 b,.int .i64 o,.slice s.a s.len s.cap,.int .i64 m]] w (RetT [.c (.int .i64)] λr w'=>r=(if checkB k b o m s.len then 0 else 60)/\Grow w w'):=by
 refine F128_calls _ _ _ _ _ _ _ ?_;unfold F128;simp;have hg:∀o,Grow w (w.alloc o):=λo=>(Mod.refl _ w).alloc o;refine jn_of (λr w'=>r=checkB k b o m s.len/\Grow w w') ?_ ?_
 ·simp[ldC,exS]
  split
  ·rename_i hk
   subst hk;refine ldA_of (p:=(1,b,o,s,m)) (by simp[valA,readsAt]) ?_;refine callF_of (C88 _ _ _ _ _ _) ?_;rintro r w' ⟨rfl,h⟩;exact⟨by simp[checkB],Grow.trans (hg _) h⟩
  ·rename_i hk
   repeat' split
   all_goals refine⟨?_,hg _⟩
   all_goals simp only[checkB]
   all_goals(rw[Bool.eq_iff_iff];simp_all;try omega)
 ·rintro r w' ⟨rfl,h⟩
  refine br_of (λh2=>⟨?_,h⟩) (λh2=>⟨?_,h⟩)<;>simp_all
theorem C23(k b o m:Int)(s:Sl)(w:World):Calls Tryz.prog 196 #[.agg #[.int .i64 k,.int .i64 b,.int .i64 o,.slice s.a s.len s.cap,.int .i64 m]] w (RetT [.c (.int .i64)] λr w'=>r=(if checkB k b o m s.len then 0 else 60)/\Grow w w'):=by
 refine F196_calls _ _ _ _ _ _ _ ?_;unfold F196;have hg:∀o,Grow w (w.alloc o):=λo=>(Mod.refl _ w).alloc o;simp[ldC,exS];have hw:(s.len:Int)<=44->IntKind.wrap .i64 (256-(s.len:Int))=256-s.len:=λh=>wrap_i64 (by omega);split
 ·rename_i hk
  subst hk;refine jn_of (λr w'=>r=checkB 1 b o m s.len/\Grow w w') ?_ ?_
  ·simp[ldC,exS]
   repeat' split
   all_goals refine⟨?_,hg _⟩
   all_goals simp only[checkB,patchB]
   all_goals(rw[Bool.eq_iff_iff];simp_all;try omega)
  ·rintro r w' ⟨rfl,h⟩
   exact br_of (λh2=>⟨h2,h⟩) (λh2=>⟨h2,h⟩)
 ·split
  ·rename_i _ hk
   subst hk;refine jn_of (λr w'=>r=checkB 2 b o m s.len/\Grow w w') ?_ ?_
   ·simp[ldC,exS]
    repeat' split
    all_goals refine⟨?_,hg _⟩
    all_goals simp only[checkB]
    all_goals(rw[Bool.eq_iff_iff];simp_all;try omega)
   ·rintro r w' ⟨rfl,h⟩
    exact br_of (λh2=>⟨h2,h⟩) (λh2=>⟨h2,h⟩)
  ·rename_i h1 h2
   exact⟨by simp[checkB,h1,h2],hg _⟩
theorem C58(k b o m:Int)(s:Sl)(w:World):Calls Tryz.prog 182 #[.agg #[.int .i64 k,.int .i64 b,.int .i64 o,.slice s.a s.len s.cap,.int .i64 m]] w (RetT [.c .bool] λr w'=>r= !checkB k b o m s.len/\Grow w w'):=by
 refine F182_calls _ _ _ _ _ _ _ ?_;unfold F182;simp;refine ldA_of (p:=(k,b,o,s,m)) (by simp[valA,readsAt]) ?_;refine callF_of (C59 _ _ _ _ _ _) ?_;rintro r w' ⟨rfl,h⟩;exact⟨by cases checkB k b o m s.len<;>rfl,Grow.trans ((Mod.refl _ w).alloc _) h⟩
structure Rw where
 k:Int
 b:Int
 o:Int
 s:Sl
 m:Int
def Rw.cells(r:Rw):List Value:=[.int .i64 r.k,.int .i64 r.b,.int .i64 r.o,.slice r.s.a r.s.len r.s.cap,.int .i64 r.m]
@[simp]theorem Rw.cells_len(r:Rw):r.cells.length=5:=rfl
def Rw.p(r:Rw):Int×Int×Int×Sl×Int:=(r.k,r.b,r.o,r.s,r.m)
def Rw.ok(r:Rw):Bool:=checkB r.k r.b r.o r.m r.s.len
theorem Rw.reads{w:World}{r:Rw}{a:Addr}(h:Row w a r.cells):readsAt w a 0 (valA [.int .i64,.int .i64,.int .i64,.slice,.int .i64] r.p):=readsAt_row.2 h
abbrev RS:=SS Rw.cells
theorem C87(s:Sl)(rs:List Rw)(w:World)(h:RS w s rs)(hl:s.len<=1000000):Calls Tryz.prog 211 #[.slice s.a s.len s.cap,.func (.func 182) #[] #[]] w
 (RetT [.c (.int .i64)] λr w'=>(0<=r↔∃x∈rs,x.ok=false)/\Grow w w'):=by
 refine F211_calls s (.func (.func 182) #[] #[]) _ _ ?_;unfold F211;refine loop_of (λi w'=>∃j:Nat,i=j/\j<=rs.length/\Grow w w'/\∀k x,k<j->rs[k]? =some x->x.ok=true) (λi _=>(s.len:Int).toNat-i.toNat) ⟨0,rfl,by omega,Mod.refl _ _,λk x hk=>by omega⟩ ?_;rintro _ w1 ⟨j,rfl,hj,hg,hall⟩;have hlen:=h.len;refine br_of (λhlt=>?_) (λhge=>?_)
 ·simp only[decide_eq_true_eq]at hlt
  have hjl:j<rs.length:=by omega
  obtain⟨ad,ha,hrow⟩:=(h.grow hg).get (n:=5) Rw.cells_len (i:=j) (r:=rs[j]) (by simp[hjl]) (by omega);refine⟨⟨by omega,hlt⟩,?_⟩;rw[ha];simp only[deref_some,Int.toNat_natCast];refine ldA_of (p:=rs[j].p) (Rw.reads hrow) ?_;refine .inl ⟨182,#[],#[],rfl,by kernel_rfl,?_⟩;refine Calls.mono (C58 _ _ _ _ _ _) ?_;rintro e w2 ⟨p,rfl,rfl,hg2⟩;refine⟨_,rfl,?_⟩;refine br_of (λhb=>?_) (λhb=>?_)
  ·refine⟨⟨λ_=>⟨rs[j],by simp,by simpa[Rw.ok,Rw.p]using hb⟩,λ_=>Int.natCast_nonneg _⟩,Grow.trans hg hg2⟩
  ·have hw:IntKind.wrap .i64 ((j:Int)+1)=((j+1:Nat):Int):=by rw[wrap_i64 (by omega)];rfl
   rw[hw];refine⟨⟨j+1,rfl,by omega,Grow.trans hg hg2,λk x hk hx=>?_⟩,by omega⟩;rcases Nat.lt_or_ge k j with h'|h'
   ·exact hall k x h' hx
   ·have:k=j:=by omega
    subst this;simp[hjl]at hx;subst hx;simpa[Rw.ok,Rw.p]using hb
 ·simp only[decide_eq_false_iff_not]at hge
  refine⟨⟨λh=>absurd (show(0:Int)≤-1 from h) (by decide),λ⟨x,hx,hok⟩=>?_⟩,hg⟩;obtain⟨k,hk,rfl⟩:=List.getElem_of_mem hx;have:=hall k rs[k] (by omega) (by simp);rw[this]at hok;cases hok
theorem C57(s:Sl)(rs:List Rw)(w:World)(h:RS w s rs)(hl:s.len<=1000000):Calls Tryz.prog 181 #[.slice s.a s.len s.cap,.func (.func 182) #[] #[]] w
 (RetT [.c .bool] λr w'=>r=rs.any (λx=> !x.ok)/\Grow w w'):=by
 refine F181_calls s (.func (.func 182) #[] #[]) _ _ ?_;unfold F181;refine callF_of (C87 s rs w h hl) ?_;rintro r w' ⟨h1,h2⟩;refine⟨?_,h2⟩;rw[Bool.eq_iff_iff];simp only[decide_eq_true_eq,List.any_eq_true,Bool.not_eq_true'];exact h1
theorem C15(s:Sl)(l:List UInt8)(w:World)(h:BS w s l)(hl:s.len<=140737488351232):Calls Tryz.prog 82 #[.slice s.a s.len s.cap] w
 (RetT [.c .slice] λr w'=>OwnS w' w.heap.size 1 r (l.map ub)/\(s.a=none->r.a=none)/\Grow w w'):=by
 refine F82_calls s _ _ ?_;unfold F82;refine⟨trivial,br_of (λhn=>?_) (λhn=>?_)⟩
 ·have ha:s.a=none:=by simpa using hn
  have h0:=h.none_len ha;have hl0:l=[]:=List.eq_nil_of_length_eq_zero (by rw[<-h.len,h0]);subst hl0;exact⟨OwnS.nil _ _ _,λ_=>rfl,Mod.refl _ _⟩
 ·have ha:s.a≠none:=λh=>by simp[h]at hn
  refine app_own (n0:=w.heap.size) (vs:=[]) (new:=l.map ub) ⟨by simp,by simp,.inr ⟨w.heap.size,0,[],rfl,Nat.le_refl _,by simp,λo=>by simp,Row.nil _ _,rfl⟩⟩ (by simp) (λ_=>by simp[h.len]) (λhx=>absurd hx ha)
   (h.row.grow ((Mod.refl _ w).alloc _)) NotAgg_ub rfl (by decide) (by simp;omega) ?_
  intro r w' h1 h2 h3 h4 h5;refine⟨by simpa using h1,λhx=>absurd hx ha,Mod.trans ((Mod.refl _ w).alloc _) h5 ?_⟩;rintro b hb ⟨ad,had,rfl⟩;simp only[Option.some.injEq]at had;subst had;exact absurd hb (Nat.lt_irrefl _)
theorem C18(s t:Sl)(l m:List UInt8)(w:World)(h:BS w s l)(h2:BS w t m):Calls Tryz.prog 26 #[.slice s.a s.len s.cap,.slice t.a t.len t.cap] w
 (RetT [.c .bool] λr w'=>r=(l==m)/\w'=w):=by
 refine F26_calls s t _ _ ?_;unfold F26;refine b2s_of h (b2s_of h2 ?_);simp
abbrev Rc:=Rw×List UInt8
def RL(w:World)(s:Sl)(xs:List Rc):Prop:=RS w s (xs.map (·.1))/\∀x∈xs,BS w x.1.s x.2
theorem RL.grow{w w':World}{s:Sl}{xs:List Rc}(h:RL w s xs)(hm:Grow w w'):RL w' s xs:=⟨h.1.grow hm,λx hx=>(h.2 x hx).grow hm⟩
theorem RL.len{w:World}{s:Sl}{xs:List Rc}(h:RL w s xs):s.len=xs.length:=by rw[h.1.len];simp
def lay(p:List UInt8)(o:Nat)(d:List UInt8):List UInt8:=p.take o++d++p.drop (o+d.length)
def redoF(blk:Int)(p:List UInt8)(xs:List Rc):List UInt8:=xs.foldl (λp x=>if x.1.b=blk then lay p x.1.o.toNat x.2 else p) p
def redoE(p:List UInt8)(xs:List Rc):Int:=if p.length≠256 then 1 else if xs.any (λx=> !x.1.ok)then 60 else 0
theorem lay_len{p d:List UInt8}{o:Nat}(h:o+d.length<=p.length):(lay p o d).length=p.length:=by
 simp[lay];omega
theorem lay_nil(p:List UInt8)(o:Nat):lay p o []=p:=by simp[lay]
theorem ok_bounds{r:Rw}(h:r.ok=true):r.s.len<=44/\0<=r.o/\r.o+r.s.len<=256/\((r.k=1/\1<=r.s.len)\/(r.k=2/\r.s.len=0)):=by
 simp only[Rw.ok,checkB,patchB,Bool.or_eq_true,Bool.and_eq_true,beq_iff_eq,decide_eq_true_eq]at h;omega
theorem redoF_len{blk:Int}:∀{xs:List Rc} {p:List UInt8},p.length=256->(∀x∈xs,x.1.ok=true/\x.1.s.len=x.2.length)->(redoF blk p xs).length=256
 |[],p,hp,_=>hp
 |x::xs,p,hp,h=>by
  have hx:=h x (by simp);have hb:=ok_bounds hx.1;unfold redoF;rw[List.foldl_cons];refine redoF_len ?_ (λy hy=>h y (by simp[hy]));split
  ·rw[lay_len]
   ·exact hp
   ·omega
  ·exact hp
theorem redoF_snoc(blk:Int)(p:List UInt8)(xs:List Rc)(x:Rc):redoF blk p (xs++[x])=if x.1.b=blk then lay (redoF blk p xs) x.1.o.toNat x.2 else redoF blk p xs:=by
 simp[redoF,List.foldl_append]
theorem take_succ'{α:Type}{l:List α}{j:Nat}(h:j<l.length):l.take (j+1)=l.take j++[l[j]]:=by
 rw[List.take_add_one];simp[h]
theorem wrap_succ{j:Nat}(h:j<1000000000000000000):IntKind.wrap .i64 ((j:Int)+1)=((j+1:Nat):Int):=by rw[wrap_i64 (by omega)];rfl
theorem C16(pg s:Sl)(blk:Int)(l:List UInt8)(xs:List Rc)(w:World)(hp:BS w pg l)(hs:RL w s xs)(hl:s.len<=1000000):
 Calls Tryz.prog 131 #[.slice pg.a pg.len pg.cap,.int .i64 blk,.slice s.a s.len s.cap] w (RetT [.c .slice,.c (.int .i64)] λr w'=>
  r.2=redoE l xs/\OwnS w' w.heap.size 1 r.1 ((if redoE l xs=0 then redoF blk l xs else[]).map ub)/\Grow w w'):=by
 refine F131_calls pg blk s _ _ ?_;unfold F131;refine br_of (λh1=>?_) (λh1=>?_)
 ·have hne:redoE l xs=1:=by
   unfold redoE;rw[if_pos];have:=hp.len;simp at h1;omega
  rw[hne];exact⟨rfl,OwnS.nil _ _ _,Mod.refl _ _⟩
 have hl256:l.length=256:=by
  have:=hp.len;simp at h1;omega
 refine callF_of (C57 s (xs.map (·.1)) w hs.1 hl) ?_;rintro r w1 ⟨rfl,hg1⟩;refine br_of (λh2=>?_) (λh2=>?_)
 ·have hne:redoE l xs=60:=by
   unfold redoE;rw[if_neg (by simp[hl256]),if_pos];simpa[List.any_map,Function.comp_def]using h2
  rw[hne];exact⟨rfl,OwnS.nil _ _ _,hg1⟩
 have hne:redoE l xs=0:=by
  unfold redoE;rw[if_neg (by simp[hl256]),if_neg];rw[List.any_map]at h2;simp only[Function.comp_def]at h2;rw[h2];simp
 have hall:∀x∈xs,x.1.ok=true/\x.1.s.len=x.2.length:=by
  intro x hx;refine⟨?_,(hs.2 x hx).len⟩;rw[List.any_eq_false]at h2;simpa using h2 x.1 (List.mem_map.2 ⟨x,hx,rfl⟩)
 rw[hne,if_pos rfl];refine callF_of (C15 pg l w1 (hp.grow hg1) (by rw[hp.len,hl256];decide)) ?_;rintro t w2 ⟨ht,_,hg2⟩;have hg12:=Grow.trans hg1 hg2;refine loop_of (λi w'=>∃j:Nat,i=j/\j<=xs.length/\Grow w w'/\OwnS w' w.heap.size 1 t ((redoF blk l (xs.take j)).map ub)) (λi _=>(s.len:Int).toNat-i.toNat)
  ⟨0,rfl,by omega,hg12,by simpa[redoF]using ht.weaken hg1.size⟩ ?_
 rintro _ w3 ⟨j,rfl,hj,hg3,ho⟩;have hlen:=hs.len;refine br_of (λhlt=>?_) (λhge=>?_)
 rotate_left
 ·simp only[decide_eq_false_iff_not]at hge
  refine⟨rfl,?_,hg3⟩;rwa[List.take_of_length_le (by omega)]at ho
 simp only[decide_eq_true_eq]at hlt;have hjl:j<xs.length:=by omega
 refine jn_of (λ_ w'=>Grow w w'/\OwnS w' w.heap.size 1 t ((redoF blk l (xs.take (j+1))).map ub)) ?_ ?_
 rotate_left
 ·rintro⟨⟩ w' ⟨h4,h5⟩
  rw[wrap_succ (by omega)];exact⟨⟨j+1,rfl,by omega,h4,h5⟩,by omega⟩
 obtain⟨ad,ha,hrow⟩:=(hs.1.grow hg3).get (n:=5) Rw.cells_len (i:=j) (r:=xs[j].1) (by simp[hjl]) (by omega);refine⟨⟨by omega,hlt⟩,?_⟩;rw[ha];simp only[deref_some,Int.toNat_natCast];refine ldA_of (p:=xs[j].1.p) (Rw.reads hrow) ?_;simp[st,Rw.p];have hxj:=hall xs[j] (by simp);have hb:=ok_bounds hxj.1;refine jn_of (λb w'=>b=decide (xs[j].1.k=1/\xs[j].1.b=blk)/\w'=w3.alloc (.cells #[.int .i64 xs[j].1.k,.int .i64 xs[j].1.b,.int .i64 xs[j].1.o,.slice xs[j].1.s.a xs[j].1.s.len xs[j].1.s.cap,.int .i64 xs[j].1.m] 109)) ?_ ?_
 ·by_cases hk:xs[j].1.k=1
  ·simp[ldC,hk]
   rw[Bool.eq_iff_iff];simp
  ·simp[ldC,hk]
 ·rintro b w4 ⟨rfl,rfl⟩
  have hg4:Grow w (w3.alloc (.cells #[.int .i64 xs[j].1.k,.int .i64 xs[j].1.b,.int .i64 xs[j].1.o,.slice xs[j].1.s.a xs[j].1.s.len xs[j].1.s.cap,.int .i64 xs[j].1.m] 109)):=hg3.alloc _;have ho4:=ho.grow ((Mod.refl _ w3).alloc (.cells #[.int .i64 xs[j].1.k,.int .i64 xs[j].1.b,.int .i64 xs[j].1.o,.slice xs[j].1.s.a xs[j].1.s.len xs[j].1.s.cap,.int .i64 xs[j].1.m] 109));have hF:redoF blk l (xs.take (j+1))=if xs[j].1.b=blk then lay (redoF blk l (xs.take j)) xs[j].1.o.toNat xs[j].2 else redoF blk l (xs.take j):=by
   rw[take_succ' hjl,redoF_snoc]
  have hlenF:(redoF blk l (xs.take j)).length=256:=redoF_len hl256 λx hx=>hall x (List.mem_of_mem_take hx);refine br_of (λhb2=>?_) (λhb2=>?_)
  ·simp only[decide_eq_true_eq]at hb2
   simp[ldC];refine slc_lo (by omega) (by have:=ho4.bs.len;rw[hlenF]at this;omega) ?_;simp;refine ldC_of (p:=xs[j].1.s) (by simp) ?_;have hg5:=Mod.drew hg4;have ho5:=ho4.grow ((Mod.refl _ _).drew);have htl:t.len=256:=by have:=ho4.bs.len;simpa[hlenF]using this
   have hbs:=(hs.2 xs[j] (by simp)).grow hg5;have hxl:=hbs.len;refine cpy_own (o:=xs[j].1.o.toNat) (src:=xs[j].1.s) (new:=xs[j].2.map ub) ho5 (by omega) ?_ rfl hbs.row (λ_=>by simp[hxl]) hbs.none_len (by dsimp only;omega) NotAgg_ub ?_
   ·by_cases hc:t.cap=xs[j].1.o.toNat
    ·right
     have:=ho5.le;dsimp only;omega
    ·left;dsimp only;rw[if_neg hc];simp
   ·intro w5 g1 g2 g3
    refine⟨Mod.trans hg5 g2 ?_,?_⟩
    ·rintro b hb9 ⟨ad2,h3,rfl⟩
     have:=(ho5.le_block h3).1;omega
    ·rw[hF,if_pos hb2.2]
     simpa[lay,List.map_take,List.map_drop]using g1
  ·refine⟨hg4,?_⟩
   rw[hF];split
   ·rename_i hbb
    simp only[decide_eq_false_iff_not,not_and]at hb2;have:xs[j].1.k=2:=by
     rcases hb.2.2.2 with⟨h,_⟩|⟨h,_⟩
     ·exact absurd hbb (hb2 h)
     ·exact h
    have hnil:xs[j].2=[]:=List.eq_nil_of_length_eq_zero (by omega);rw[hnil,lay_nil];exact ho4
   ·exact ho4
def an110:An:=(.sq .z (.sc (.sq (.sq (.jn [(28,.c .bool)] .z) (.br (.sq .z .z) .z)) (.sq .z (.sq .z (.sq (.sq .z (.bl (.lp [(8,.c .slice),(29,.c (.int .i64))] (.sq .z (.sq (.br .z .z) (.sq (.jn [(8,.c .slice)] (.bl (.sq .z (.sq .z (.sq .z (.bl (.lp [(8,.c .slice),(11,.c (.int .i64))] (.sq (.sq .z (.br .z .z)) (.sq (.bl (.sq (.sq .z (.br .z .z)) (.sq .z (.sq (.bl (.lp [(12,.c (.int .i64))] (.sq (.sq .z (.br .z .z)) (.bl .z)))) (.sq .z .z))))) .z))))))))) .z)))))) (.sq .z .z)))))))
def F110(p0:Int)(p1:Sl)(p2:Sl)(Q:Sl×Int->Pr):Pr:=
 jn (S:=Bool) (λR=>
 br (decide (p0<0)) (
 R true) (
 br (decide (p0>=2048)) (
 R true) (
 br ((p1.len:Int)!=256) (
 R true) (
 R (((p2.len:Int)!=256)))))) λs=>
 br s (
 Q (⟨none,0,0⟩,1)) (
 loopE (S:=Sl×Int) (λX s_1=>
 br (decide (s_1.2<6)) (
 jn (S:=Sl) (λR_1=>
 loopE (S:=Sl×Int) (λX_1 s_3=>
 br (decide (s_3.2<(imin (IntKind.wrap .i64 ((IntKind.wrap .i64 (s_1.2*44))+44)) 256))) (
 drw<|
 owe ((0:Int)<=s_3.2/\s_3.2<(p1.len:Int))<|
 deref p1.a λa=>
 deref (some (a.add (Int.toNat s_3.2*1))) λa_1=>
 ldC (.int .u8) a_1 λ(t45:Int)=>
 owe ((0:Int)<=s_3.2/\s_3.2<(p2.len:Int))<|
 deref p2.a λa_2=>
 deref (some (a_2.add (Int.toNat s_3.2*1))) λa_3=>
 ldC (.int .u8) a_3 λ(t49:Int)=>
 br (t45==t49) (
 X_1 (s_3.1,(IntKind.wrap .i64 (s_3.2+1)))) (
 loopE (S:=Int) (λX_2 s_4=>
 drw<|
 owe ((0:Int)<=(IntKind.wrap .i64 (s_4-1))/\(IntKind.wrap .i64 (s_4-1))<(p1.len:Int))<|
 deref p1.a λa_4=>
 deref (some (a_4.add (Int.toNat (IntKind.wrap .i64 (s_4-1))*1))) λa_5=>
 ldC (.int .u8) a_5 λ(t58:Int)=>
 owe ((0:Int)<=(IntKind.wrap .i64 (s_4-1))/\(IntKind.wrap .i64 (s_4-1))<(p2.len:Int))<|
 deref p2.a λa_6=>
 deref (some (a_6.add (Int.toNat (IntKind.wrap .i64 (s_4-1))*1))) λa_7=>
 ldC (.int .u8) a_7 λ(t63:Int)=>
 br (t58==t63) (
 X_2 ((IntKind.wrap .i64 (s_4-1)))) (
 slc 1 p2 (some s_3.2) (some s_4) none λt73=>
 callF Tryz.prog 82 [(.slice t73.a t73.len t73.cap)] [.c .slice] λ(t74:Sl)=>
 nw (.cells #[(.int .i64 1),(.int .i64 p0),(.int .i64 s_3.2),(.slice t74.a t74.len t74.cap),(.int .i64 0)] 109) λr=>
 app 109 5 56 [(.int .i64 0),(.int .i64 0),(.int .i64 0),(.slice none 0 0),(.int .i64 0)] s_3.1 ⟨(some ⟨r,0,none⟩),1,1⟩ λt77=>
 R_1 t77)) ((imin (IntKind.wrap .i64 ((IntKind.wrap .i64 (s_1.2*44))+44)) 256)))) (
 R_1 s_3.1)) (s_1.1,(IntKind.wrap .i64 (s_1.2*44)))) λs_2=>
 X (s_2,(IntKind.wrap .i64 (s_1.2+1)))) (
 Q (s_1.1,0))) (⟨none,0,0⟩,0))
theorem F110_calls(p0:Int)(p1:Sl)(p2:Sl)(Q:Sl×Int->Pr)(w:World)(h:F110 p0 p1 p2 Q w):Calls Tryz.prog 110 #[(.int .i64 p0),(slV p1),(slV p2)] w (RetT [.c .slice,.c (.int .i64)] Q):=cF (an:=an110) Tryz.func110 (by kernel_rfl) h
def an129:An:=(.sq .z (.sq .z (.sq .z .z)))
def F129(p0_0:Int)(p0_1:Int)(p0_2:Int)(p0_3:Sl)(p0_4:Int)(Q:Int×Int×Int×Sl×Int->Pr):Pr:=
 nw (.cells #[(.int .i64 p0_0),(.int .i64 p0_1),(.int .i64 p0_2),(.slice p0_3.a p0_3.len p0_3.cap),(.int .i64 p0_4)] 109) λr=>
 nw (.cells #[(.int .i64 0),(.int .i64 0),(.int .i64 0),(.slice none 0 0),(.int .i64 0)] 109) λr_1=>
 deref (some ⟨r,0,none⟩) λa=>
 deref (some (a.add 3)) λa_1=>
 ldC .slice a_1 λ(t4:Sl)=>
 callF Tryz.prog 82 [(.slice t4.a t4.len t4.cap)] [.c .slice] λ(t5:Sl)=>
 deref (some ⟨r,0,none⟩) λa_2=>
 deref (some (a_2.add 3)) λa_3=>
 st a_3 (.slice t5.a t5.len t5.cap)<|
 deref (some ⟨r,0,none⟩) λa_4=>
 ldA [(.int .i64),(.int .i64),(.int .i64),.slice,(.int .i64)] a_4 λ(t7:Int×Int×Int×Sl×Int)=>
 deref (some ⟨r_1,0,none⟩) λa_5=>
 st (a_5.add 0) (.int .i64 t7.1)<|
 st (a_5.add 1) (.int .i64 t7.2.1)<|
 st (a_5.add 2) (.int .i64 t7.2.2.1)<|
 st (a_5.add 3) (.slice t7.2.2.2.1.a t7.2.2.2.1.len t7.2.2.2.1.cap)<|
 st (a_5.add 4) (.int .i64 t7.2.2.2.2)<|
 deref (some ⟨r_1,0,none⟩) λa_6=>
 ldA [(.int .i64),(.int .i64),(.int .i64),.slice,(.int .i64)] a_6 λ(res:Int×Int×Int×Sl×Int)=>
 Q ((res.1,res.2.1,res.2.2.1,res.2.2.2.1,res.2.2.2.2))
theorem F129_calls(p0_0:Int)(p0_1:Int)(p0_2:Int)(p0_3:Sl)(p0_4:Int)(Q:Int×Int×Int×Sl×Int->Pr)(w:World)(h:F129 p0_0 p0_1 p0_2 p0_3 p0_4 Q w):Calls Tryz.prog 129 #[(.agg #[(.int .i64 p0_0),(.int .i64 p0_1),(.int .i64 p0_2),(slV p0_3),(.int .i64 p0_4)])] w (RetT [.agg [(.int .i64),(.int .i64),(.int .i64),.slice,(.int .i64)]] Q):=cF (an:=an129) Tryz.func129 (by kernel_rfl) h
def an214:An:=(.sq .z (.sq .z (.sq .z .z)))
def F214(p0_0:Int)(p0_1:Int)(p0_2:Int)(p0_3:Sl)(p0_4:Int)(Q:Int×Int×Int×Sl×Int->Pr):Pr:=
 nw (.cells #[(.int .i64 p0_0),(.int .i64 p0_1),(.int .i64 p0_2),(.slice p0_3.a p0_3.len p0_3.cap),(.int .i64 p0_4)] 109) λr=>
 nw (.cells #[(.int .i64 0),(.int .i64 0),(.int .i64 0),(.slice none 0 0),(.int .i64 0)] 109) λr_1=>
 deref (some ⟨r,0,none⟩) λa=>
 deref (some (a.add 3)) λa_1=>
 ldC .slice a_1 λ(t4:Sl)=>
 app 5 1 1 [(.int .u8 0)] ⟨none,0,0⟩ t4 λt5=>
 deref (some ⟨r,0,none⟩) λa_2=>
 deref (some (a_2.add 3)) λa_3=>
 st a_3 (.slice t5.a t5.len t5.cap)<|
 deref (some ⟨r,0,none⟩) λa_4=>
 ldA [(.int .i64),(.int .i64),(.int .i64),.slice,(.int .i64)] a_4 λ(t7:Int×Int×Int×Sl×Int)=>
 deref (some ⟨r_1,0,none⟩) λa_5=>
 st (a_5.add 0) (.int .i64 t7.1)<|
 st (a_5.add 1) (.int .i64 t7.2.1)<|
 st (a_5.add 2) (.int .i64 t7.2.2.1)<|
 st (a_5.add 3) (.slice t7.2.2.2.1.a t7.2.2.2.1.len t7.2.2.2.1.cap)<|
 st (a_5.add 4) (.int .i64 t7.2.2.2.2)<|
 deref (some ⟨r_1,0,none⟩) λa_6=>
 ldA [(.int .i64),(.int .i64),(.int .i64),.slice,(.int .i64)] a_6 λ(res:Int×Int×Int×Sl×Int)=>
 Q ((res.1,res.2.1,res.2.2.1,res.2.2.2.1,res.2.2.2.2))
theorem F214_calls(p0_0:Int)(p0_1:Int)(p0_2:Int)(p0_3:Sl)(p0_4:Int)(Q:Int×Int×Int×Sl×Int->Pr)(w:World)(h:F214 p0_0 p0_1 p0_2 p0_3 p0_4 Q w):Calls Tryz.prog 214 #[(.agg #[(.int .i64 p0_0),(.int .i64 p0_1),(.int .i64 p0_2),(slV p0_3),(.int .i64 p0_4)])] w (RetT [.agg [(.int .i64),(.int .i64),(.int .i64),.slice,(.int .i64)]] Q):=cF (an:=an214) Tryz.func214 (by kernel_rfl) h
def an86:An:=(.sq .z (.sq (.sq .z (.br (.sq .z .z) .z)) (.sq .z .z)))
def F86(p0:Sl)(Q:Sl->Pr):Pr:=
 owe True<|
 br (Option.isNone p0.a) (
 Q (⟨none,0,0⟩)) (
 nw (.cells #[] 5) λr=>
 app 5 1 1 [(.int .u8 0)] ⟨(some ⟨r,0,none⟩),0,0⟩ p0 λt7=>
 Q t7)
theorem F86_calls(p0:Sl)(Q:Sl->Pr)(w:World)(h:F86 p0 Q w):Calls Tryz.prog 86 #[(slV p0)] w (RetT [.c .slice] Q):=cF (an:=an86) Tryz.func86 (by kernel_rfl) h
def an73:An:=(.sq .z (.sq .z (.sq .z (.sq (.jn [(4,.c .slice),(6,.c (.int .i64))] (.sq .z (.bl (.lp [(4,.c .slice),(5,.c .slice),(6,.c (.int .i64)),(11,.c (.int .i64))] (.sq .z (.sq (.br .z .z) (.sq (.jn [(4,.c .slice),(5,.c .slice),(6,.c (.int .i64))] (.bl (.sq .z (.sq (.sq .z (.br .z .z)) (.sq (.sq .z (.br (.sq .z .z) .z)) (.sq (.sq .z (.br .z .z)) .z)))))) .z))))))) (.sq .z .z)))))
def F73(p0:Sl)(Q:Sl×Int->Pr):Pr:=
 jn (S:=Sl×Int) (λR=>
 loopE (S:=Sl×Sl×Int×Int) (λX s_1=>
 br (decide (s_1.2.2.2<(p0.len:Int))) (
 jn (S:=Sl×Sl×Int) (λR_1=>
 owe ((0:Int)<=s_1.2.2.2/\s_1.2.2.2<(p0.len:Int))<|
 deref p0.a λa=>
 deref (some (a.add (Int.toNat s_1.2.2.2*5))) λa_1=>
 ldA [(.int .i64),(.int .i64),(.int .i64),.slice,(.int .i64)] a_1 λ(t15:Int×Int×Int×Sl×Int)=>
 nw (.cells #[(.int .i64 0),(.int .i64 0),(.int .i64 0),(.slice none 0 0),(.int .i64 0)] 109) λr=>
 deref (some ⟨r,0,none⟩) λa_2=>
 st (a_2.add 0) (.int .i64 t15.1)<|
 st (a_2.add 1) (.int .i64 t15.2.1)<|
 st (a_2.add 2) (.int .i64 t15.2.2.1)<|
 st (a_2.add 3) (.slice t15.2.2.2.1.a t15.2.2.2.1.len t15.2.2.2.1.cap)<|
 st (a_2.add 4) (.int .i64 t15.2.2.2.2)<|
 deref (some ⟨r,0,none⟩) λa_3=>
 ldA [(.int .i64),(.int .i64),(.int .i64),.slice,(.int .i64)] a_3 λ(t16:Int×Int×Int×Sl×Int)=>
 callF Tryz.prog 128 [(.agg #[(.int .i64 t16.1),(.int .i64 t16.2.1),(.int .i64 t16.2.2.1),(.slice t16.2.2.2.1.a t16.2.2.2.1.len t16.2.2.2.1.cap),(.int .i64 t16.2.2.2.2)])] [.c (.int .i64)] λ(t17:Int)=>
 br (t17 !=0) (
 R (s_1.1,s_1.2.2.1)) (
 deref (some ⟨r,0,none⟩) λa_4=>
 deref (some (a_4.add 0)) λa_5=>
 ldC (.int .i64) a_5 λ(t20:Int)=>
 br (t20==1) (
 deref (some ⟨r,0,none⟩) λa_6=>
 ldA [(.int .i64),(.int .i64),(.int .i64),.slice,(.int .i64)] a_6 λ(t23:Int×Int×Int×Sl×Int)=>
 callF Tryz.prog 129 [(.agg #[(.int .i64 t23.1),(.int .i64 t23.2.1),(.int .i64 t23.2.2.1),(.slice t23.2.2.2.1.a t23.2.2.2.1.len t23.2.2.2.1.cap),(.int .i64 t23.2.2.2.2)])] [.agg [(.int .i64),(.int .i64),(.int .i64),.slice,(.int .i64)]] λ(t24:Int×Int×Int×Sl×Int)=>
 nw (.cells #[(.int .i64 t24.1),(.int .i64 t24.2.1),(.int .i64 t24.2.2.1),(.slice t24.2.2.2.1.a t24.2.2.2.1.len t24.2.2.2.1.cap),(.int .i64 t24.2.2.2.2)] 109) λr_1=>
 app 109 5 56 [(.int .i64 0),(.int .i64 0),(.int .i64 0),(.slice none 0 0),(.int .i64 0)] s_1.2.1 ⟨(some ⟨r_1,0,none⟩),1,1⟩ λt26=>
 R_1 (s_1.1,t26,s_1.2.2.1)) (
 deref (some ⟨r,0,none⟩) λa_7=>
 deref (some (a_7.add 4)) λa_8=>
 ldC (.int .i64) a_8 λ(t28:Int)=>
 br (t28 !=(s_1.2.1.len:Int)) (
 R (s_1.1,s_1.2.2.1)) (
 app 109 5 56 [(.int .i64 0),(.int .i64 0),(.int .i64 0),(.slice none 0 0),(.int .i64 0)] s_1.1 s_1.2.1 λt34=>
 R_1 (t34,⟨none,0,0⟩,(IntKind.wrap .i64 (s_1.2.2.2+1))))))) λs_2=>
 X (s_2.1,s_2.2.1,s_2.2.2,(IntKind.wrap .i64 (s_1.2.2.2+1)))) (
 R (s_1.1,s_1.2.2.1))) (⟨none,0,0⟩,⟨none,0,0⟩,0,0)) λs=>
 Q (s.1,s.2)
theorem F73_calls(p0:Sl)(Q:Sl×Int->Pr)(w:World)(h:F73 p0 Q w):Calls Tryz.prog 73 #[(slV p0)] w (RetT [.c .slice,.c (.int .i64)] Q):=cF (an:=an73) Tryz.func73 (by kernel_rfl) h
def an191:An:=(.sq .z (.sq .z (.sq .z (.sq (.sq .z (.bl (.lp [(4,.c .slice),(5,.c .slice),(6,.c (.int .i64)),(7,.c (.int .i64))] (.sq (.sq .z (.br .z .z)) (.sq (.jn [(4,.c .slice),(5,.c .slice),(6,.c (.int .i64))] (.bl (.sq (.sq .z (.br (.sq .z .z) .z)) (.sq (.sq .z (.br (.sq .z .z) .z)) (.sq (.sq .z (.br (.sq .z .z) .z)) (.sq .z (.sq .z .z))))))) .z))))) (.sq .z .z)))))
def F191(p0:Sl)(Q:Sl×Int->Pr):Pr:=
 loopE (S:=Sl×Sl×Int×Int) (λX s=>
 br (decide (s.2.2.2<(p0.len:Int))) (
 jn (S:=Sl×Sl×Int) (λR=>
 owe ((0:Int)<=s.2.2.2/\s.2.2.2<(p0.len:Int))<|
 deref p0.a λa=>
 deref (some (a.add (Int.toNat s.2.2.2*5))) λa_1=>
 ldA [(.int .i64),(.int .i64),(.int .i64),.slice,(.int .i64)] a_1 λ(t17:Int×Int×Int×Sl×Int)=>
 callF Tryz.prog 196 [(.agg #[(.int .i64 t17.1),(.int .i64 t17.2.1),(.int .i64 t17.2.2.1),(.slice t17.2.2.2.1.a t17.2.2.2.1.len t17.2.2.2.1.cap),(.int .i64 t17.2.2.2.2)])] [.c (.int .i64)] λ(t18:Int)=>
 br (t18 !=0) (
 Q (s.2.1,s.2.2.1)) (
 owe ((0:Int)<=s.2.2.2/\s.2.2.2<(p0.len:Int))<|
 deref p0.a λa_2=>
 deref (some (a_2.add (Int.toNat s.2.2.2*5))) λa_3=>
 deref (some (a_3.add 0)) λa_4=>
 ldC (.int .i64) a_4 λ(t26:Int)=>
 br (t26==1) (
 owe ((0:Int)<=s.2.2.2/\s.2.2.2<(p0.len:Int))<|
 deref p0.a λa_5=>
 deref (some (a_5.add (Int.toNat s.2.2.2*5))) λa_6=>
 ldA [(.int .i64),(.int .i64),(.int .i64),.slice,(.int .i64)] a_6 λ(t32:Int×Int×Int×Sl×Int)=>
 callF Tryz.prog 214 [(.agg #[(.int .i64 t32.1),(.int .i64 t32.2.1),(.int .i64 t32.2.2.1),(.slice t32.2.2.2.1.a t32.2.2.2.1.len t32.2.2.2.1.cap),(.int .i64 t32.2.2.2.2)])] [.agg [(.int .i64),(.int .i64),(.int .i64),.slice,(.int .i64)]] λ(t33:Int×Int×Int×Sl×Int)=>
 nw (.cells #[(.int .i64 t33.1),(.int .i64 t33.2.1),(.int .i64 t33.2.2.1),(.slice t33.2.2.2.1.a t33.2.2.2.1.len t33.2.2.2.1.cap),(.int .i64 t33.2.2.2.2)] 109) λr=>
 app 109 5 56 [(.int .i64 0),(.int .i64 0),(.int .i64 0),(.slice none 0 0),(.int .i64 0)] s.1 ⟨(some ⟨r,0,none⟩),1,1⟩ λt35=>
 R (t35,s.2.1,s.2.2.1)) (
 owe ((0:Int)<=s.2.2.2/\s.2.2.2<(p0.len:Int))<|
 deref p0.a λa_7=>
 deref (some (a_7.add (Int.toNat s.2.2.2*5))) λa_8=>
 deref (some (a_8.add 4)) λa_9=>
 ldC (.int .i64) a_9 λ(t40:Int)=>
 br (t40 !=(s.1.len:Int)) (
 Q (s.2.1,s.2.2.1)) (
 app 109 5 56 [(.int .i64 0),(.int .i64 0),(.int .i64 0),(.slice none 0 0),(.int .i64 0)] s.2.1 s.1 λt48=>
 R (⟨none,0,0⟩,t48,(IntKind.wrap .i64 (s.2.2.2+1))))))) λs_1=>
 X (s_1.1,s_1.2.1,s_1.2.2,(IntKind.wrap .i64 (s.2.2.2+1)))) (
 Q (s.2.1,s.2.2.1))) (⟨none,0,0⟩,⟨none,0,0⟩,0,0)
theorem F191_calls(p0:Sl)(Q:Sl×Int->Pr)(w:World)(h:F191 p0 Q w):Calls Tryz.prog 191 #[(slV p0)] w (RetT [.c .slice,.c (.int .i64)] Q):=cF (an:=an191) Tryz.func191 (by kernel_rfl) h
def an65:An:=(.sq .z (.sq (.sq .z (.br (.sq .z .z) .z)) (.sq .z .z)))
def F65(p0:Sl)(Q:Sl->Pr):Pr:=
 owe True<|
 br (Option.isNone p0.a) (
 Q (⟨none,0,0⟩)) (
 nw (.cells #[] 109) λr=>
 app 109 5 56 [(.int .i64 0),(.int .i64 0),(.int .i64 0),(.slice none 0 0),(.int .i64 0)] ⟨(some ⟨r,0,none⟩),0,0⟩ p0 λt7=>
 Q t7)
theorem F65_calls(p0:Sl)(Q:Sl->Pr)(w:World)(h:F65 p0 Q w):Calls Tryz.prog 65 #[(slV p0)] w (RetT [.c .slice] Q):=cF (an:=an65) Tryz.func65 (by kernel_rfl) h
def rcs(xs:List Rc):List Value:=xs.flatMap (·.1.cells)
theorem rcs_append(xs ys:List Rc):rcs (xs++ys)=rcs xs++rcs ys:=by simp[rcs]
theorem rcs_one(x:Rc):rcs [x]=x.1.cells:=by simp[rcs]
theorem rcs_map(xs:List Rc):rcs xs=(xs.map (·.1)).flatMap Rw.cells:=by simp[rcs,List.flatMap_map]
theorem rcs_na(xs:List Rc):∀v∈rcs xs,NotAgg v:=by
 intro v hv;simp only[rcs,List.mem_flatMap]at hv;obtain⟨x,_,hv⟩:=hv;simp only[Rw.cells,List.mem_cons,List.not_mem_nil,or_false]at hv;rcases hv with rfl|rfl|rfl|rfl|rfl<;>trivial
def Apart(s t:Sl):Prop:=∀b,s.blk b->t.blk b->False
theorem Apart.symm{s t:Sl}(h:Apart s t):Apart t s:=λb h1 h2=>h b h2 h1
structure OwnRs(w:World)(n0:Nat)(s:Sl)(xs:List Rc):Prop where
 own:OwnS w n0 5 s (rcs xs)
 dat:∀x∈xs,OwnS w n0 1 x.1.s (x.2.map ub)
 dis:∀x∈xs,Apart s x.1.s
 pw:xs.Pairwise λx y=>Apart x.1.s y.1.s
theorem OwnS.blk_lt{w:World}{n0 n:Nat}{s:Sl}{vs:List Value}(h:OwnS w n0 n s vs){b:Nat}(hb:s.blk b):b<w.heap.size:=by
 obtain⟨ad,h1,rfl⟩:=hb;rcases h.row with⟨h2,_⟩|⟨b,off,spare,h2,h3,h4,_⟩
 ·rw[h2]at h1;cases h1
 ·rw[h2]at h1;cases h1;exact h4
theorem OwnS.blk_le{w:World}{n0 n:Nat}{s:Sl}{vs:List Value}(h:OwnS w n0 n s vs){b:Nat}(hb:s.blk b):n0<=b:=by
 obtain⟨ad,h1,rfl⟩:=hb;rcases h.row with⟨h2,_⟩|⟨b,off,spare,h2,h3,h4,_⟩
 ·rw[h2]at h1;cases h1
 ·rw[h2]at h1;cases h1;exact h3
theorem OwnRs.nil(w:World)(n0:Nat):OwnRs w n0 ⟨none,0,0⟩ []:=⟨OwnS.nil _ _ _,by simp,by simp,.nil⟩
theorem OwnRs.mod{S:Nat->Prop}{w w':World}{n0:Nat}{s:Sl}{xs:List Rc}(h:OwnRs w n0 s xs)(hm:Mod S w w')(hs:∀b,S b->s.blk b->False)(hx:∀x∈xs,∀b,S b->x.1.s.blk b->False):OwnRs w' n0 s xs:=
 ⟨h.own.mod hm λad ha hS=>hs _ hS ⟨ad,ha,rfl⟩,λx hx'=>(h.dat x hx').mod hm λad ha hS=>hx x hx' _ hS ⟨ad,ha,rfl⟩,h.dis,h.pw⟩
theorem OwnRs.grow{w w':World}{n0:Nat}{s:Sl}{xs:List Rc}(h:OwnRs w n0 s xs)(hm:Grow w w'):OwnRs w' n0 s xs:=h.mod hm (λ_ h _=>h) (λ_ _ _ h _=>h)
theorem OwnRs.len{w:World}{n0:Nat}{s:Sl}{xs:List Rc}(h:OwnRs w n0 s xs):s.len=xs.length:=by
 have:=h.own.len;rw[rcs_map,flatMap_len Rw.cells_len]at this;simp only[List.length_map]at this;omega
theorem OwnRs.rl{w:World}{n0:Nat}{s:Sl}{xs:List Rc}(h:OwnRs w n0 s xs):RL w s xs:=by
 refine⟨OwnS.ss Rw.cells_len (by decide) (n0:=n0) ?_,λx hx=>(h.dat x hx).bs⟩;rw[<-rcs_map];exact h.own
abbrev zRec:List Value:=[.int .i64 0,.int .i64 0,.int .i64 0,.slice none 0 0,.int .i64 0]
theorem OwnRs.more{w:World}{n0:Nat}{s t:Sl}{xs ys:List Rc}{k:Sl->Pr}(h:OwnRs w n0 s xs)(hn0:n0<=w.heap.size)(ht:readsO w t.a (rcs ys))(htl:t.len=ys.length)
 (hd:∀y∈ys,OwnS w n0 1 y.1.s (y.2.map ub))(hs:∀y∈ys,Apart s y.1.s)(hp:(xs++ys).Pairwise λx y=>Apart x.1.s y.1.s)(hb:xs.length+ys.length<=100000000000)
 (hk:∀r w',OwnRs w' n0 r (xs++ys)->Mod s.blk w w'->(∀b,r.blk b->s.blk b\/w.heap.size<=b)->k r w'):app 109 5 56 zRec s t k w:=by
 have hlen:(rcs ys).length=ys.length*5:=by rw[rcs_map,flatMap_len Rw.cells_len];simp
 have hsl:=h.len;refine app_own2 (vs:=rcs xs) (new:=rcs ys) h.own hn0 (λ_=>by rw[hlen,htl]) ?_ ht (rcs_na ys) rfl (by decide) (by rw[htl,hsl];omega) ?_
 ·intro ha
  rw[ha]at ht;have h0:rcs ys=[]:=ht;rw[h0]at hlen;simp only[List.length_nil]at hlen;omega
 intro r w' h1 h2 _ _ h5 h6;refine hk r w' ⟨by rw[rcs_append];exact h1,?_,?_,hp⟩ h5 h6
 ·intro x hx
  rcases List.mem_append.1 hx with hx|hx
  ·exact(h.dat x hx).mod h5 λad ha hS=>h.dis x hx _ hS ⟨ad,ha,rfl⟩
  ·exact(hd x hx).mod h5 λad ha hS=>hs x hx _ hS ⟨ad,ha,rfl⟩
 ·intro x hx b hb1 hb2
  rcases List.mem_append.1 hx with hx|hx
  ·rcases h6 b hb1 with h7|h7
   ·exact h.dis x hx b h7 hb2
   ·have:=OwnS.blk_lt (h.dat x hx) hb2
    omega
  ·rcases h6 b hb1 with h7|h7
   ·exact hs x hx b h7 hb2
   ·have:=OwnS.blk_lt (hd x hx) hb2
    omega
theorem OwnRs.push{w0 w:World}{n0:Nat}{s:Sl}{xs:List Rc}{x:Rc}{k:Sl->Pr}(h:OwnRs w0 n0 s xs)(hn0:n0<=w0.heap.size)(hg:Grow w0 w)
 (hd:OwnS w w0.heap.size 1 x.1.s (x.2.map ub))(hb:xs.length<100000000000)
 (hk:∀r w',OwnRs w' n0 r (xs++[x])->Mod s.blk w w'->(∀b,r.blk b->s.blk b\/w.heap.size<=b)->k r w'):
 app 109 5 56 zRec s ⟨some ⟨w.heap.size,0,none⟩,1,1⟩ k (w.alloc (.cells x.1.cells.toArray 109)):=by
 have hg2:Grow w (w.alloc (.cells x.1.cells.toArray 109)):=(Mod.refl _ w).alloc _;have h2:=h.grow (Grow.trans hg hg2);have hsz:=hg.size;have hsz2:=hg2.size;refine OwnRs.more (ys:=[x]) h2 (by omega) ?_ rfl ?_ ?_ ?_ (by simp only[List.length_singleton];omega) ?_
 ·rw[rcs_one]
  refine readsAt_row.2 λj v hj=>?_;rw[add_mk,Nat.zero_add,World.cell?_alloc_new];simpa using hj
 ·intro y hy
  rw[List.mem_singleton]at hy;subst hy;exact(hd.grow hg2).weaken hn0
 ·intro y hy b hb1 hb2
  rw[List.mem_singleton]at hy;subst hy;have h3:=OwnS.blk_lt h.own hb1;have h4:=OwnS.blk_le hd hb2;omega
 ·rw[List.pairwise_append]
  refine⟨h.pw,List.pairwise_singleton _ _,λy hy c hc b hb1 hb2=>?_⟩;rw[List.mem_singleton]at hc;subst hc;have h3:=OwnS.blk_lt (h.dat y hy) hb1;have h4:=OwnS.blk_le hd hb2;omega
 ·intro r w' g1 g2 g3
  refine hk r w' g1 (Mod.trans hg2.mod g2 λ_ _ h=>h) λb hb=>?_;rcases g3 b hb with h5|h5
  ·exact .inl h5
  ·exact .inr (by omega)
abbrev Rv:=Int×Int×Int×Int×List UInt8
def rv(x:Rc):Rv:=(x.1.k,x.1.b,x.1.o,x.1.m,x.2)
def fstD(o n:List UInt8)(lo hi:Nat):Option Nat:=(List.range' lo (hi-lo)).find? λi=>o[i]? !=n[i]?
def lstD(o n:List UInt8)(lo hi:Nat):Option Nat:=((List.range' 0 (hi-lo)).find? λt=>o[hi-1-t]? !=n[hi-1-t]?).map (hi-1-·)
def hiK(k:Nat):Nat:=min (44*k+44) 256
def pieceV(blk:Int)(o n:List UInt8)(k:Nat):List Rv:=
 match fstD o n (44*k) (hiK k),lstD o n (44*k) (hiK k)with
 |some f,some l=>[(1,blk,(f:Int),0,(n.take (l+1)).drop f)]
 |_,_=>[]
def cutV(blk:Int)(o n:List UInt8):List Rv:=(List.range 6).flatMap (pieceV blk o n)
def cutE(blk:Int)(o n:List UInt8):Int:=if 0<=blk/\blk<2048/\o.length=256/\n.length=256 then 0 else 1
theorem fstD_none{o n:List UInt8}{lo hi:Nat}(h:∀j,lo<=j->j<hi->o[j]? =n[j]?):fstD o n lo hi=none:=by
 unfold fstD;rw[List.find?_eq_none];intro x hx;rw[List.mem_range'_1]at hx;simp[h x (by omega) (by omega)]
theorem fstD_some{o n:List UInt8}{lo hi f:Nat}(h1:lo<=f)(h2:f<hi)(h3:o[f]?≠n[f]?)(h:∀j,lo<=j->j<f->o[j]? =n[j]?):fstD o n lo hi=some f:=by
 unfold fstD;rw[List.find?_range'_eq_some];refine⟨by simpa using h3,by rw[List.mem_range'_1];omega,λj hj1 hj2=>by simp[h j hj1 hj2]⟩
theorem lstD_some{o n:List UInt8}{lo hi l:Nat}(h1:lo<=l)(h2:l<hi)(h3:o[l]?≠n[l]?)(h:∀j,l<j->j<hi->o[j]? =n[j]?):lstD o n lo hi=some l:=by
 unfold lstD;have:((List.range' 0 (hi-lo)).find? λt=>o[hi-1-t]? !=n[hi-1-t]?)=some (hi-1-l):=by
  rw[List.find?_range'_eq_some];refine⟨?_,by rw[List.mem_range'_1];omega,λj hj1 hj2=>?_⟩
  ·rw[show hi-1-(hi-1-l)=l by omega];simpa using h3
  ·simp[h (hi-1-j) (by omega) (by omega)]
 rw[this];simp only[Option.map_some,Option.some.injEq];omega
theorem range_succ'{α:Type}(f:Nat->List α)(j:Nat):(List.range (j+1)).flatMap f=(List.range j).flatMap f++f j:=by
 rw[List.range_succ,List.flatMap_append];simp
theorem piece_len(blk:Int)(o n:List UInt8)(k:Nat):(pieceV blk o n k).length<=1:=by
 unfold pieceV;split<;>simp
theorem pieces_len(blk:Int)(o n:List UInt8):∀j,((List.range j).flatMap (pieceV blk o n)).length<=j
 |0=>by simp
 |j+1=>by
  rw[range_succ',List.length_append];have:=piece_len blk o n j;have:=pieces_len blk o n j;omega
theorem C19(blk:Int)(p1 p2:Sl)(o n:List UInt8)(w:World)(h1:BS w p1 o)(h2:BS w p2 n)(hle:p2.len<=p2.cap):
 Calls Tryz.prog 110 #[.int .i64 blk,.slice p1.a p1.len p1.cap,.slice p2.a p2.len p2.cap] w (RetT [.c .slice,.c (.int .i64)] λr w'=>
  r.2=cutE blk o n/\(∃xs,OwnRs w' w.heap.size r.1 xs/\xs.map rv=if cutE blk o n=0 then cutV blk o n else[])/\Grow w w'):=by
 refine F110_calls blk p1 p2 _ _ ?_;unfold F110;have hl1:=h1.len;have hl2:=h2.len;refine jn_of (λb w'=>b=decide (cutE blk o n≠0)/\w=w') ?_ ?_
 ·unfold cutE
  simp only[br_def]
  repeat' split
  all_goals(simp_all<;>omega)
 rintro b w' ⟨rfl,rfl⟩;refine br_of (λhc=>?_) (λhc=>?_)
 ·simp only[ne_eq,decide_eq_true_eq]at hc
  refine⟨?_,⟨[],OwnRs.nil _ _,by simp[hc]⟩,Mod.refl _ _⟩;unfold cutE at hc⊢;split at hc
  ·exact absurd rfl hc
  ·rw[if_neg (by assumption)]
 have hc0:cutE blk o n=0:=by simpa using hc
 have hlens:o.length=256/\n.length=256:=by
  unfold cutE at hc0;split at hc0
  ·omega
  ·cases hc0
 rw[hc0];simp only[if_true];refine loop_of (λs w'=>∃j:Nat,s.2=j/\j<=6/\Grow w w'/\∃xs,OwnRs w' w.heap.size s.1 xs/\xs.map rv=(List.range j).flatMap (pieceV blk o n)) (λs _=>6-s.2.toNat)
  ⟨0,rfl,by omega,Mod.refl _ _,[],OwnRs.nil _ _,rfl⟩ ?_
 rintro⟨out,_⟩ w1 ⟨j,rfl,hj,hg1,xs,ho,hx⟩;dsimp only;refine br_of (λhlt=>?_) (λhge=>?_)
 rotate_left
 ·simp only[decide_eq_false_iff_not]at hge
  have:j=6:=by omega
  subst this;exact⟨trivial,⟨xs,ho,hx⟩,hg1⟩
 simp only[decide_eq_true_eq]at hlt;have e44:IntKind.wrap .i64 ((j:Int)*44)=((44*j:Nat):Int):=by rw[wrap_i64 (by omega)];omega
 have ehi:imin (IntKind.wrap .i64 (((44*j:Nat):Int)+44)) 256=(hiK j:Int):=by
  rw[wrap_i64 (by omega)];unfold imin hiK;split<;>omega
 rw[e44];simp only[ehi];have hhi:hiK j<=256/\44*j<hiK j:=by unfold hiK;omega
 have hxl:xs.length<=6:=by
  have:=congrArg List.length hx;rw[List.length_map]at this;have:=pieces_len blk o n j;omega
 refine jn_of (λout' w'=>Grow w w'/\∃xs,OwnRs w' w.heap.size out' xs/\xs.map rv=(List.range (j+1)).flatMap (pieceV blk o n)) ?_ ?_
 rotate_left
 ·rintro out' w' ⟨g1,g2⟩
  rw[wrap_succ (by omega)];refine⟨⟨j+1,rfl,by omega,g1,g2⟩,?_⟩;omega
 refine loop_of (λs w'=>s.1=out/\∃i:Nat,s.2=i/\44*j<=i/\i<=hiK j/\Grow w1 w'/\∀t,44*j<=t->t<i->o[t]? =n[t]?) (λs _=>256-s.2.toNat)
  ⟨rfl,44*j,rfl,Nat.le_refl _,by omega,Mod.refl _ _,λt h1 h2=>by omega⟩ ?_
 rintro⟨_,_⟩ w2 ⟨rfl,i,rfl,hi1,hi2,hg2,hall⟩;dsimp only;have hgw2:=Grow.trans hg1 hg2;refine br_of (λhlt2=>?_) (λhge2=>?_)
 rotate_left
 ·simp only[decide_eq_false_iff_not]at hge2
  have:i=hiK j:=by omega
  subst this;refine⟨hgw2,xs,ho.grow hg2,?_⟩;rw[range_succ',hx];unfold pieceV;rw[fstD_none hall];simp
 simp only[decide_eq_true_eq]at hlt2;have hi3:i<hiK j:=by omega
 have hgd:=Mod.drew hgw2;have hoi:o[i]? =some o[i]:=by simp
 have hni:n[i]? =some n[i]:=by simp
 refine at_of (b:=o[i]) (h1.grow hgd) (by omega) (by simp) ?_;refine at_of (b:=n[i]) (h2.grow hgd) (by omega) (by simp) ?_;rw[toNat_beq];refine br_of (λheq=>?_) (λhne=>?_)
 ·simp only[decide_eq_true_eq]at heq
  rw[wrap_succ (by omega)];refine⟨⟨rfl,i+1,rfl,by omega,by omega,Mod.drew hg2,λt ht1 ht2=>?_⟩,?_⟩
  ·rcases Nat.lt_or_ge t i with h'|h'
   ·exact hall t ht1 h'
   ·have:t=i:=by omega
    subst this;rw[hoi,hni,heq]
  ·omega
 simp only[decide_eq_false_iff_not]at hne;have hdi:o[i]?≠n[i]? :=by rw[hoi,hni];simpa using hne
 refine loop_of (λs w'=>∃e:Nat,s=e/\i<e/\e<=hiK j/\Grow w1 w'/\∀t,e<=t->t<hiK j->o[t]? =n[t]?) (λs _=>s.toNat)
  ⟨hiK j,rfl,hi3,Nat.le_refl _,Mod.drew hg2,λt h1 h2=>by omega⟩ ?_
 rintro _ w3 ⟨e,rfl,he1,he2,hg3,hall3⟩;have hgw3:=Grow.trans hg1 hg3;have hgd3:=Mod.drew hgw3;have ee:IntKind.wrap .i64 ((e:Int)-1)=((e-1:Nat):Int):=by rw[wrap_i64 (by omega)];omega
 rw[ee];have hoe:o[e-1]? =some o[e-1]:=by simp
 have hne':n[e-1]? =some n[e-1]:=by simp
 refine at_of (b:=o[e-1]) (h1.grow hgd3) (by omega) (by simp) ?_;refine at_of (b:=n[e-1]) (h2.grow hgd3) (by omega) (by simp) ?_;rw[toNat_beq];refine br_of (λheq=>?_) (λhne3=>?_)
 ·simp only[decide_eq_true_eq]at heq
  have hei:e-1≠i:=by
   rintro rfl;exact hne heq
  refine⟨⟨e-1,rfl,by omega,by omega,Mod.drew hg3,λt ht1 ht2=>?_⟩,by omega⟩;rcases Nat.lt_or_ge t e with h'|h'
  ·have:t=e-1:=by omega
   subst this;rw[hoe,hne',heq]
  ·exact hall3 t h' ht2
 simp only[decide_eq_false_iff_not]at hne3;have hde:o[e-1]?≠n[e-1]? :=by rw[hoe,hne'];simpa using hne3
 refine slc_bs (h2.grow hgd3) hle (by omega) (by omega) (by omega) ?_;intro t ht htl;refine callF_of (C15 t _ _ ht (by omega)) ?_;rintro d w4 ⟨hd,_,hg4⟩;have hg34:=Grow.trans (Mod.drew hg3) hg4;have hgw4:=Grow.trans hg1 hg34;rw[nw_def];refine OwnRs.push (w0:=w3.drew) (xs:=xs) (x:=(⟨1,blk,i,d,0⟩,_)) (ho.grow (Mod.drew hg3)) ?_ hg4 hd (by omega) ?_
 ·exact hgd3.size
 intro r w5 g1 g2 _;have hg5:Grow w w5:=Mod.trans hgw4 g2 λb hb hb2=>absurd (OwnS.blk_le ho.own hb2) (by omega);refine⟨hg5,_,g1,?_⟩;rw[range_succ',List.map_append,hx]
 congr 1
 unfold pieceV;rw[fstD_some hi1 hi3 hdi hall,lstD_some (l:=e-1) (by omega) (by omega) hde λt ht1 ht2=>hall3 t (by omega) ht2];simp only[List.map_cons,List.map_nil,rv,Int.toNat_natCast];rw[show e-1+1=e by omega]
abbrev aggR(r:Rw):Value:=.agg #[.int .i64 r.k,.int .i64 r.b,.int .i64 r.o,.slice r.s.a r.s.len r.s.cap,.int .i64 r.m]
abbrev lR:List CS:=[.int .i64,.int .i64,.int .i64,.slice,.int .i64]
theorem rec_of{w:World}{s:Sl}{xs:List Rc}{j:Nat}{k:Int×Int×Int×Sl×Int->Pr}(h:RL w s xs)(hj:j<xs.length)(hk:k xs[j].1.p w):
 (owe ((0:Int)<=(j:Int)/\(j:Int)<(s.len:Int))<|deref s.a λa=>deref (some (a.add (Int.toNat j*5))) λa1=>ldA [.int .i64,.int .i64,.int .i64,.slice,.int .i64] a1 k) w:=by
 have hl:=h.len;obtain⟨ad,ha,hrow⟩:=h.1.get (n:=5) Rw.cells_len (i:=j) (r:=xs[j].1) (by simp[hj]) (by omega);refine⟨by omega,?_⟩;rw[ha];simp only[deref_some,Int.toNat_natCast];exact ldA_of (p:=xs[j].1.p) (Rw.reads hrow) hk
theorem clone_tail{w w3:World}{x:Rw}{d:Sl}{l:List UInt8}{b1 b2:Nat}{Q:Int×Int×Int×Sl×Int->Pr}(h1:Box w3 b1 x.cells)(h2:Box w3 b2 zRec)(hne:b1≠b2)(hg:Grow w w3)(hb1:w.heap.size<=b1)(hb2:w.heap.size<=b2)
 (hd:OwnS w3 (w.heap.size+2) 1 d (l.map ub))(hbb:b1<w.heap.size+2/\b2<w.heap.size+2)(hk:∀w',OwnS w' w.heap.size 1 d (l.map ub)->Grow w w'->Q ({x with s:=d}:Rw).p w'):
 (st (Addr.add ⟨b1,0,none⟩ 3) (.slice d.a d.len d.cap)<|ldA [.int .i64,.int .i64,.int .i64,.slice,.int .i64] ⟨b1,0,none⟩ λ(t7:Int×Int×Int×Sl×Int)=>
   st (Addr.add ⟨b2,0,none⟩ 0) (.int .i64 t7.1)<|st (Addr.add ⟨b2,0,none⟩ 1) (.int .i64 t7.2.1)<|st (Addr.add ⟨b2,0,none⟩ 2) (.int .i64 t7.2.2.1)<|
   st (Addr.add ⟨b2,0,none⟩ 3) (.slice t7.2.2.2.1.a t7.2.2.2.1.len t7.2.2.2.1.cap)<|st (Addr.add ⟨b2,0,none⟩ 4) (.int .i64 t7.2.2.2.2)<|
   ldA [.int .i64,.int .i64,.int .i64,.slice,.int .i64] ⟨b2,0,none⟩ Q) w3:=by
 refine h1.st (by simp) trivial λw4 k1 m1 s1=>?_;refine Box.ldA (l:=lR) (p:=({x with s:=d}:Rw).p) k1 ?_;have h2':=h2.mod m1 (λh=>hne h.symm);refine h2'.st (by simp) trivial λw5 k5 m5 s5=>?_;refine k5.st (by simp) trivial λw6 k6 m6 s6=>?_;refine k6.st (by simp) trivial λw7 k7 m7 s7=>?_;refine k7.st (by simp) trivial λw8 k8 m8 s8=>?_;refine k8.st (by simp) trivial λw9 k9 m9 s9=>?_;refine Box.ldA (l:=lR) (p:=({x with s:=d}:Rw).p) k9 ?_;have hm:Mod (λb=>b=b1\/b=b2) w3 w9:=by
  refine Mod.trans (Mod.trans (Mod.trans (Mod.trans (Mod.trans (Mod.mono (T:=λb=>b=b1\/b=b2) m1 λ_ _ h=>.inl h) m5 ?_) m6 ?_) m7 ?_) m8 ?_) m9 ?_<;>exact λ_ _ h=>.inr h
 refine hk w9 ((hd.mod hm λad ha hS=>?_).weaken (by omega)) (Mod.trans hg hm λb hb hS=>?_)
 ·have:=OwnS.blk_le hd ⟨ad,ha,rfl⟩
  omega
 ·omega
theorem C61(x:Rc)(w:World)(hx:BS w x.1.s x.2)(hb:x.1.s.len<=100000000000000):Calls Tryz.prog 129 #[aggR x.1] w (RetT [.agg [.int .i64,.int .i64,.int .i64,.slice,.int .i64]] λr w'=>
 (∃d,r=({x.1 with s:=d}:Rw).p/\OwnS w' w.heap.size 1 d (x.2.map ub))/\Grow w w'):=by
 refine F129_calls _ _ _ _ _ _ _ ?_;unfold F129;refine nw_of λb1 w1 g1 e1 s1 hb1=>nw_of λb2 w2 g2 e2 s2 hb2=>?_;have hg:=Grow.trans g1 g2;have hb1':=hb1.grow g2;simp only[deref_some];refine hb1'.ld (i:=3) (s:=.slice) (p:=x.1.s) rfl ?_;refine callF_of (C15 x.1.s x.2 _ (hx.grow hg) (by omega)) ?_;rintro d w3 ⟨hd,_,hg3⟩;simp only[deref_some'];refine clone_tail (x:=x.1) (l:=x.2) (hb1'.grow hg3) (hb2.grow hg3) (by omega) (Grow.trans hg hg3) (by omega) (by omega) (by rwa[s2,s1]at hd) (by omega) ?_;intro w' h1 h2;exact⟨⟨d,rfl,h1⟩,h2⟩
theorem C62(x:Rc)(w:World)(hx:BS w x.1.s x.2)(hb:x.1.s.len<=100000000000000):Calls Tryz.prog 214 #[aggR x.1] w (RetT [.agg [.int .i64,.int .i64,.int .i64,.slice,.int .i64]] λr w'=>
 (∃d,r=({x.1 with s:=d}:Rw).p/\OwnS w' w.heap.size 1 d (x.2.map ub))/\Grow w w'):=by
 refine F214_calls _ _ _ _ _ _ _ ?_;unfold F214;refine nw_of λb1 w1 g1 e1 s1 hb1=>nw_of λb2 w2 g2 e2 s2 hb2=>?_;have hg:=Grow.trans g1 g2;have hb1':=hb1.grow g2;simp only[deref_some];refine hb1'.ld (i:=3) (s:=.slice) (p:=x.1.s) rfl ?_;refine clone_app (hx.grow hg) hb ?_;intro d w3 hd hg3;simp only[deref_some'];refine clone_tail (x:=x.1) (l:=x.2) (hb1'.grow hg3) (hb2.grow hg3) (by omega) (Grow.trans hg hg3) (by omega) (by omega) (by rwa[s2,s1]at hd) (by omega) ?_;intro w' h1 h2;exact⟨⟨d,rfl,h1⟩,h2⟩
end Go.Proofs
