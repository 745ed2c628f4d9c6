import Derived.OrdersIn
import Derived.TacticsIn
import Derived.CallsIn
import Derived.LoopNIn
import Derived.KernelRfl
import Derived.Laws.World
import Derived.RangeFuncSeq
import Derived.Laws.StructEq
import Derived.Lib.ConvBytes
import Derived.RangeFuncNested
set_option linter.unusedVariables false
set_option linter.unusedSimpArgs false
set_option linter.unusedSectionVars false
namespace Go.Eng
abbrev Pr:=World->Prop
structure Sl where
 a:Option Addr
 len:Nat
 cap:Nat
inductive CS where
 |int (k:IntKind)|bool|str|ptr|slice|map|any
@[reducible]def PayC:CS->Type
  |.int _=>Int
  |.bool=>Bool
  |.str=>ByteArray
  |.ptr=>Option Addr
  |.slice=>Sl
  |.map=>Option Nat
  |.any=>Value
def valC:(s:CS)->PayC s->Value
 |.int k,n=>.int k n
 |.bool,b=>.bool b
 |.str,s=>.string s
 |.ptr,p=>.pointer p
 |.slice,s=>.slice s.a s.len s.cap
 |.map,r=>.map r
 |.any,v=>v
@[reducible]def PayA:List CS->Type
  |[]=>Unit
  |[s]=>PayC s
  |s::t::l=>PayC s×PayA (t::l)
def valA:(l:List CS)->PayA l->List Value
 |[],_=>[]
 |[s],p=>[valC s p]
 |s::t::l,p=>valC s p.1::valA (t::l) p.2
inductive Sh where
 |c (s:CS)
 |agg (l:List CS)
@[reducible]def Pay:Sh->Type
  |.c s=>PayC s
  |.agg l=>PayA l
def val:(s:Sh)->Pay s->Value
 |.c s,p=>valC s p
 |.agg l,p=>.agg (valA l p).toArray
@[reducible]def PayL:List Sh->Type
  |[]=>Unit
  |[s]=>Pay s
  |s::t::l=>Pay s×PayL (t::l)
def valL:(l:List Sh)->PayL l->List Value
 |[],_=>[]
 |[s],p=>[val s p]
 |s::t::l,p=>val s p.1::valL (t::l) p.2
def valR(l:List Sh)(p:PayL l):Value:=
 match valL l p with
 |[v]=>v
 |vs=>.tuple vs.toArray
def fls:Pr:=λ_=>False
def deref(p:Option Addr)(f:Addr->Pr):Pr:=match p with|some a=>f a|none=>fls
theorem deref_iff{p:Option Addr}{f:Addr->Pr}{w:World}:deref p f w↔∃a,p=some a/\f a w:=by cases p<;>simp[deref,fls]
def ldC(s:CS)(a:Addr)(f:PayC s->Pr):Pr:=λw=>∃p:PayC s,w.cell? a=some (valC s p)/\f p w
def readsAt(w:World)(a:Addr):Nat->List Value->Prop
 |_,[]=>True
 |i,v::l=>w.cell? (a.add i)=some v/\readsAt w a (i+1) l
def ldA(l:List CS)(a:Addr)(f:PayA l->Pr):Pr:=λw=>∃p:PayA l,readsAt w a 0 (valA l p)/\f p w
def NotAgg:Value->Prop
 |.agg _=>False
 |.tuple _=>False
 |_=>True
def st(a:Addr)(v:Value)(f:Pr):Pr:=λw=>NotAgg v/\(w.cell? a).isSome=true/\w.frozen? a=false/\f (w.setCell a v)
def stL(a:Addr):Nat->List Value->Pr->Pr
 |_,[],f=>f
 |i,v::l,f=>st (a.add i) v (stL a (i+1) l f)
def nw(o:Obj)(f:Nat->Pr):Pr:=λw=>f w.heap.size (w.alloc o)
def br(b:Bool)(x y:Pr):Pr:=λw=>if b=true then x w else y w
def owe(p:Prop)(f:Pr):Pr:=λw=>p/\f w
def drw(f:Pr):Pr:=λw=>f w.drew
def jn{S:Type}(f:(S->Pr)->Pr)(k:S->Pr):Pr:=λw=>∃R:S->Pr,f R w/\∀s w',R s w'->k s w'
def loopE{S:Type}(G:(S->Pr)->S->Pr)(s:S):Pr:=λw=>
 ∃(I:S->Pr) (μ:S->World->Nat),I s w/\∀s w,I s w->G (λs' w'=>I s' w'/\μ s' w'<μ s w) s w
def both(x y:Pr):Pr:=λw=>x w/\y w
inductive EV where
 |no
 |val (v:Value)
 |lit (b:Bool)
 |nx0
 |nx1 (k v:Value)
 |ent (k v:Value)
def EV.v? :EV->Option Value
 |.no=>none
 |.val v=>some v
 |.lit b=>some (.bool b)
 |.nx0=>some (.tuple #[.bool false])
 |.nx1 k v=>some (.tuple #[.bool true,k,v])
 |.ent k v=>some (.tuple #[k,v])
def Env.getL:List EV->Nat->EV
 |[],_=>.no
 |x::_,0=>x
 |_::e,n+1=>Env.getL e n
def Env.setL:List EV->Nat->EV->List EV
 |[],_,_=>[]
 |_::e,0,v=>v::e
 |x::e,n+1,v=>x::Env.setL e n v
structure Env where
 l:List EV
 ds:List Nat
 bs:List Deferred
def Env.length(e:Env):Nat:=e.l.length
def Env.get(e:Env)(n:Nat):EV:=Env.getL e.l n
def Env.set(e:Env)(n:Nat)(v:EV):Env:=⟨Env.setL e.l n v,e.ds,e.bs⟩
def Env.mark(e:Env)(D:Nat):Env:=⟨e.l,D::e.ds,e.bs⟩
def Env.dfr(e:Env)(d:Deferred):Env:=⟨e.l,e.ds,d::e.bs⟩
def Env.put(e:Env)(d:Option Tmp)(v:EV):Env:=
 match d with
 |none=>e
 |some d=>Env.set e d v
def Env.ev(e:Env):Operand->EV
 |.tmp t=>Env.get e t
 |.const (.bool b)=>.lit b
 |.const v=>.val v
 |.global g=>.val (.pointer (some ⟨g,0,none⟩))
 |.func f=>.val (.func (.func f) #[] #[])
def Env.forget:Env->List Nat->Env
 |e,[]=>e
 |e,t::l=>Env.forget (Env.set e t .no) l
def marks(ds:List Nat):List Deferred:=ds.map λD=>{target:=.collected D,args:= #[]}
structure Ag(e:Env)(a:Act):Prop where
 size:e.length<=a.tmps.size
 get:∀t v,(Env.get e t).v? =some v->a.tmps[t]? =some v
 defers:a.defers=marks e.ds++e.bs
theorem Env.getL_setL(e:List EV)(t:Nat)(v:EV)(u:Nat):Env.getL (Env.setL e t v) u=if u=t/\t<e.length then v else Env.getL e u:=by
 induction e generalizing t u with
 |nil=>simp[Env.setL,Env.getL]
 |cons x e ih=>
  cases t with
  |zero=>cases u<;>simp[Env.setL,Env.getL]
  |succ t=>
   cases u with
   |zero=>simp[Env.setL,Env.getL]
   |succ u=>simp[Env.setL,Env.getL,ih]
theorem Env.length_setL(e:List EV)(t:Nat)(v:EV):(Env.setL e t v).length=e.length:=by
 induction e generalizing t with
 |nil=>simp[Env.setL]
 |cons x e ih=>cases t<;>simp[Env.setL,ih]
theorem Env.getL_none_of_ge(e:List EV)(t:Nat)(h:e.length<=t):Env.getL e t=.no:=by
 induction e generalizing t with
 |nil=>rfl
 |cons x e ih=>
  cases t with
  |zero=>simp at h
  |succ t=>simp only[Env.getL];exact ih t (by simpa using h)
theorem Env.get_set(e:Env)(t:Nat)(v:EV)(u:Nat):Env.get (Env.set e t v) u=if u=t/\t<e.length then v else Env.get e u:=Env.getL_setL e.l t v u
theorem Env.get_none_of_ge(e:Env)(t:Nat)(h:e.length<=t):Env.get e t=.no:=Env.getL_none_of_ge e.l t h
@[simp]theorem Env.length_set(e:Env)(t:Nat)(v:EV):(Env.set e t v).length=e.length:=Env.length_setL e.l t v
@[simp]theorem Env.length_put(e:Env)(d:Option Tmp)(v:EV):(Env.put e d v).length=e.length:=by
  cases d<;>simp[Env.put]
@[simp]theorem Env.ds_set(e:Env)(t:Nat)(v:EV):(Env.set e t v).ds=e.ds:=rfl
@[simp]theorem Env.ds_put(e:Env)(d:Option Tmp)(v:EV):(Env.put e d v).ds=e.ds:=by
  cases d<;>simp[Env.put]
@[simp]theorem Env.bs_set(e:Env)(t:Nat)(v:EV):(Env.set e t v).bs=e.bs:=rfl
@[simp]theorem Env.bs_put(e:Env)(d:Option Tmp)(v:EV):(Env.put e d v).bs=e.bs:=by
  cases d<;>simp[Env.put]
@[simp]theorem Env.bs_forget(e:Env)(l:List Nat):(Env.forget e l).bs=e.bs:=by
  induction l generalizing e with
  |nil=>rfl
  |cons t l ih=>simp[Env.forget,ih]
@[simp]theorem Env.length_forget(e:Env)(l:List Nat):(Env.forget e l).length=e.length:=by
  induction l generalizing e with
  |nil=>rfl
  |cons t l ih=>simp[Env.forget,ih]
@[simp]theorem Env.ds_forget(e:Env)(l:List Nat):(Env.forget e l).ds=e.ds:=by
  induction l generalizing e with
  |nil=>rfl
  |cons t l ih=>simp[Env.forget,ih]
theorem Env.get_put(e:Env)(d:Option Tmp)(v:EV)(u:Nat):Env.get (Env.put e d v) u=if d=some u/\u<e.length then v else Env.get e u:=by
 cases d with
 |none=>simp[Env.put]
 |some d=>
  simp only[Env.put,Env.get_set];by_cases h:u=d
  ·subst h;simp
  ·have:¬(some d=some u):=λh'=>h (by simpa using h'.symm)
   simp[h,this]
theorem Env.get_forget(e:Env)(l:List Nat)(u:Nat):Env.get (Env.forget e l) u=if u∈l/\u<e.length then .no else Env.get e u:=by
 induction l generalizing e with
 |nil=>simp[Env.forget]
 |cons t l ih=>
  simp only[Env.forget,ih,Env.get_set,Env.length_set,List.mem_cons];by_cases h1:u∈l/\u<e.length
  ·rw[if_pos h1,if_pos ⟨.inr h1.1,h1.2⟩]
  ·rw[if_neg h1]
   by_cases h2:u=t/\t<e.length
   ·rw[if_pos h2,if_pos ⟨.inl h2.1,h2.1▸h2.2⟩]
   ·rw[if_neg h2,if_neg]
    rintro⟨h3|h3,h4⟩
    ·exact h2 ⟨h3,h3▸h4⟩
    ·exact h1 ⟨h3,h4⟩
section
variable{e:Env}{a:Act}
theorem Ag.eval(h:Ag e a){x:Operand}{v:Value}(hx:(Env.ev e x).v? =some v):a.eval x=v:=by
 cases x with
 |tmp t=>have:=h.get t v hx;simp[Act.eval,Array.getD_eq_getD_getElem?,this]
 |const c=>cases c<;>simpa[Env.ev,EV.v?,Act.eval]using hx
 |global g=>simpa[Env.ev,EV.v?,Act.eval]using hx
 |func f=>simpa[Env.ev,EV.v?,Act.eval]using hx
theorem Ag.put(h:Ag e a)(d:Option Tmp){x:EV}{v:Value}(hx:∀u,x.v? =some u->u=v):Ag (Env.put e d x) (a.put d v):=by
 cases d with
 |none=>exact h
 |some d=>
  refine⟨by simpa[Act.put]using h.size,λt u hu=>?_,by simpa[Act.put]using h.defers⟩;rw[Env.get_put]at hu;simp only[Act.put];by_cases hd:d=t
  ·subst hd
   by_cases hl:d<e.length
   ·rw[if_pos ⟨rfl,hl⟩]at hu
    have hs:d<a.tmps.size:=Nat.lt_of_lt_of_le hl h.size;simp[hs,hx u hu]
   ·rw[if_neg (λh'=>hl h'.2)]at hu
    rw[Env.get_none_of_ge e d (Nat.le_of_not_lt hl)]at hu;simp[EV.v?]at hu
  ·rw[if_neg (λh'=>hd (by simpa using h'.1))]at hu
   rw[Array.getElem?_setIfInBounds,if_neg hd];exact h.get t u hu
theorem Ag.put_no(h:Ag e a)(d:Option Tmp)(v:Value):Ag (Env.put e d .no) (a.put d v):=h.put d (by simp[EV.v?])
theorem Ag.lit(h:Ag e a){t:Nat}{b:Bool}(hb:(Env.get e t).v? =some (.bool b)):Ag (Env.set e t (.lit b)) a:=by
 refine⟨by simpa using h.size,λu v hv=>?_,by simpa using h.defers⟩;rw[Env.get_set]at hv;by_cases hu:u=t/\t<e.length
 ·rw[if_pos hu]at hv
  obtain⟨rfl,_⟩:=hu;simp only[EV.v?,Option.some.injEq]at hv;exact hv▸h.get u _ hb
 ·rw[if_neg hu]at hv
  exact h.get u v hv
end
def getC:(s:CS)->Value->(PayC s->Pr)->Pr
 |.int .i8,.int .i8 n,f=>f n
 |.int .i16,.int .i16 n,f=>f n
 |.int .i32,.int .i32 n,f=>f n
 |.int .i64,.int .i64 n,f=>f n
 |.int .u8,.int .u8 n,f=>f n
 |.int .u16,.int .u16 n,f=>f n
 |.int .u32,.int .u32 n,f=>f n
 |.int .u64,.int .u64 n,f=>f n
 |.bool,.bool b,f=>f b
 |.str,.string s,f=>f s
 |.ptr,.pointer p,f=>f p
 |.slice,.slice a l c,f=>f ⟨a,l,c⟩
 |.map,.map r,f=>f r
 |.any,v,f=>f v
 |_,_,_=>fls
theorem getC_sound{s:CS}{v:Value}{f:PayC s->Pr}{w:World}(h:getC s v f w):∃p,v=valC s p/\f p w:=by
 unfold getC at h;split at h<;>first|exact⟨_,rfl,h⟩|exact h.elim
def getA:(l:List CS)->List Value->(PayA l->Pr)->Pr
 |[],[],f=>f ()
 |[s],[v],f=>getC s v f
 |s::t::l,v::vs,f=>getC s v λp=>getA (t::l) vs λq=>f (p,q)
 |_,_,_=>fls
theorem getA_sound:∀{l:List CS} {vs:List Value} {f:PayA l->Pr} {w:World},getA l vs f w->∃p,vs=valA l p/\f p w
 |[],[],_,_,h=>⟨(),rfl,h⟩
 |[],_::_,_,_,h=>h.elim
 |[s],[v],_,_,h=>let⟨p,hp,hf⟩:=getC_sound h;⟨p,by rw[hp];rfl,hf⟩
 |[_],[],_,_,h=>h.elim
 |[_],_::_::_,_,_,h=>h.elim
 |s::t::l,v::vs,_,_,h=>by
  obtain⟨p,hp,h⟩:=getC_sound h;obtain⟨q,hq,h⟩:=getA_sound h;exact⟨(p,q),by rw[hp,hq];rfl,h⟩
 |_::_::_,[],_,_,h=>h.elim
def getP:(s:Sh)->Value->(Pay s->Pr)->Pr
 |.c s,v,f=>getC s v f
 |.agg l,.agg cs,f=>getA l cs.toList f
 |_,_,_=>fls
theorem getP_sound{s:Sh}{v:Value}{f:Pay s->Pr}{w:World}(h:getP s v f w):∃p,v=val s p/\f p w:=by
 cases s with
 |c s=>exact getC_sound h
 |agg l=>
  cases v<;>simp only[getP]at h<;>try exact h.elim
  obtain⟨p,hp,h⟩:=getA_sound h;exact⟨p,by simp[val,<-hp],h⟩
abbrev Live:=List (Nat×Sh)
@[reducible]def Live.S(l:Live):Type:=PayL (l.map (·.2))
def getE(s:Sh)(x:EV)(f:Pay s->Pr):Pr:=
 match x with
 |.val v=>getP s v f
 |.lit b=>getP s (.bool b) f
 |.nx0=>fls
 |.nx1 _ _=>fls
 |.ent _ _=>fls
 |.no=>fls
theorem getE_sound{s:Sh}{x:EV}{f:Pay s->Pr}{w:World}(h:getE s x f w):∃p,x.v? =some (val s p)/\f p w:=by
 cases x with
 |no=>exact h.elim
 |nx0=>exact h.elim
 |nx1 _ _=>exact h.elim
 |ent _ _=>exact h.elim
 |val v=>obtain⟨p,rfl,h1⟩:=getP_sound (show getP s v f w from h);exact⟨p,rfl,h1⟩
 |lit b=>obtain⟨p,hp,h1⟩:=getP_sound (show getP s (.bool b) f w from h);exact⟨p,by rw[<-hp];rfl,h1⟩
def need(e:Env):(l:Live)->(PayL (l.map (·.2))->Pr)->Pr
 |[],f=>f ()
 |[x],f=>getE x.2 (Env.get e x.1) f
 |x::y::l,f=>getE x.2 (Env.get e x.1) λp=>need e (y::l) λq=>f (p,q)
def upd(e:Env):(l:Live)->PayL (l.map (·.2))->Env
 |[],_=>e
 |[x],p=>Env.set e x.1 (.val (val x.2 p))
 |x::y::l,p=>upd (Env.set e x.1 (.val (val x.2 p.1))) (y::l) p.2
theorem need_sound{a:Act}{w:World}:∀{l:Live} {e e0:Env} {f:PayL (l.map (·.2))->Pr},Ag e a->Ag e0 a->need e l f w->∃p,Ag (upd e0 l p) a/\f p w
 |[],_,_,_,_,h0,h=>⟨(),h0,h⟩
 |[x],e,e0,f,he,h0,h=>by
  obtain⟨p,hv,h⟩:=getE_sound h;refine⟨p,?_,h⟩;have hg:=he.get x.1 _ hv;refine⟨by simpa[upd]using h0.size,λt u hu=>?_,by simpa[upd]using h0.defers⟩;simp only[upd,Env.get_set]at hu;split at hu
  ·rename_i ht
   simp only[EV.v?,Option.some.injEq]at hu;rw[ht.1,hg,hu]
  ·exact h0.get t u hu
 |x::y::l,e,e0,f,he,h0,h=>by
  obtain⟨p,hv,h⟩:=getE_sound h;have hg:=he.get x.1 _ hv;have h1:Ag (Env.set e0 x.1 (.val (val x.2 p))) a:=by
   refine⟨by simpa using h0.size,λt u hu=>?_,by simpa using h0.defers⟩;rw[Env.get_set]at hu;split at hu
   ·rename_i ht
    simp only[EV.v?,Option.some.injEq]at hu;rw[ht.1,hg,hu]
   ·exact h0.get t u hu
  obtain⟨q,hq,h⟩:=need_sound he h1 h;exact⟨(p,q),hq,h⟩
def markN:Nat:=1000000007
def dfrN:Nat:=1000000009
def Ext(W:List Nat)(e e':Env):Prop:=e.length=e'.length/\(∀t,t∉W->Env.get e' t=Env.get e t)/\(markN∉W->e'.ds=e.ds)/\(dfrN∉W->e'.bs=e.bs)
theorem Ext.refl(W:List Nat)(e:Env):Ext W e e:=⟨rfl,λ_ _=>rfl,λ_=>rfl,λ_=>rfl⟩
theorem Ext.trans{W V U:List Nat}{e e1 e2:Env}(h:Ext W e e1)(h':Ext V e1 e2)(hw:∀t,t∈W->t∈U)(hv:∀t,t∈V->t∈U):Ext U e e2:=
 ⟨h.1.trans h'.1,λt ht=>(h'.2.1 t λh=>ht (hv t h)).trans (h.2.1 t λh=>ht (hw t h)),λht=>(h'.2.2.1 λh=>ht (hv _ h)).trans (h.2.2.1 λh=>ht (hw _ h)),
   λht=>(h'.2.2.2 λh=>ht (hv _ h)).trans (h.2.2.2 λh=>ht (hw _ h))⟩
theorem Ext.mono{W U:List Nat}{e e1:Env}(h:Ext W e e1)(hw:∀t,t∈W->t∈U):Ext U e e1:=
 ⟨h.1,λt ht=>h.2.1 t λh=>ht (hw t h),λht=>h.2.2.1 λh=>ht (hw _ h),λht=>h.2.2.2 λh=>ht (hw _ h)⟩
theorem Ext.put(e:Env)(d:Option Tmp)(v:EV):Ext d.toList e (Env.put e d v):=
 ⟨by simp,λt ht=>by
   rw[Env.get_put,if_neg];rintro⟨rfl,_⟩;simp at ht,λ_=>by simp,λ_=>by simp⟩
theorem Ag.forget{W:List Nat}{e e':Env}{a:Act}(h:Ag e' a)(hx:Ext W e e')(hm:markN∉W)(hd:dfrN∉W):Ag (Env.forget e W) a:=by
 refine⟨by simpa[hx.1]using h.size,λt v hv=>?_,by rw[Env.ds_forget,Env.bs_forget,<-hx.2.2.1 hm,<-hx.2.2.2 hd];exact h.defers⟩;rw[Env.get_forget]at hv;split at hv
 ·simp[EV.v?]at hv
 ·rename_i ht
  by_cases hl:t<e.length
  ·have htW:t∉W:=λh=>ht ⟨h,hl⟩
   rw[<-hx.2.1 t htW]at hv;exact h.get t v hv
  ·rw[Env.get_none_of_ge e t (by omega)]at hv
   simp[EV.v?]at hv
theorem Ext.upd:∀{l:Live} {W:List Nat} {e e0:Env} {p:PayL (l.map (·.2))},Ext W e e0->(∀x∈l,x.1∈W)->Ext W e (upd e0 l p)
 |[],_,_,_,_,h,_=>h
 |[x],W,e,e0,p,h,hl=>by
  refine⟨by simpa[Eng.upd]using h.1,λt ht=>?_,λht=>by simpa[Eng.upd]using h.2.2.1 ht,λht=>by simpa[Eng.upd]using h.2.2.2 ht⟩;rw[Eng.upd,Env.get_set,if_neg]
  ·exact h.2.1 t ht
  ·rintro⟨rfl,_⟩;exact ht (hl x (by simp))
 |x::y::l,W,e,e0,p,h,hl=>by
  refine Ext.upd (l:=y::l) (e0:=Env.set e0 x.1 (.val (val x.2 p.1))) ?_ (λz hz=>hl z (by simp[hz]));refine⟨by simpa using h.1,λt ht=>?_,λht=>by simpa using h.2.2.1 ht,λht=>by simpa using h.2.2.2 ht⟩;rw[Env.get_set,if_neg]
  ·exact h.2.1 t ht
  ·rintro⟨rfl,_⟩;exact ht (hl x (by simp))
theorem Ext.forget(e:Env)(W:List Nat):Ext W e (Env.forget e W):=
 ⟨by simp,λt ht=>by rw[Env.get_forget,if_neg (λh=>ht h.1)],λ_=>by simp,λ_=>by simp⟩
section
variable(P:Program)
def cellsFuel:Nat->TypeId->Option (List CS)
 |0,_=>none
 |d+1,t=>
  match P.underlying t with
  |some .bool=>some [.bool]
  |some (.int k)=>some [.int k]
  |some .string=>some [.str]
  |some (.pointer _)=>some [.ptr]
  |some (.slice _)=>some [.slice]
  |some (.map _ _)=>some [.map]
  |some (.func _ _ _)=>some [.any]
  |some (.interface _)=>some [.any]
  |some .unsafePointer=>some [.any]
  |some (.struct fs)=>fs.toList.foldr (λf acc=>match cellsFuel d f.type,acc with|some l,some r=>some (l++r)|_,_=>none) (some [])
  |some (.array n e)=>match cellsFuel d e with|some l=>some (List.replicate n l).flatten|none=>none
  |_=>none
def isAggT(t:TypeId):Bool:=
 match P.underlying t with
 |some (.struct _)|some (.array _ _)=>true
 |_=>false
def shOf(t:TypeId):Option Sh:=
 match isAggT P t with
 |true=>match cellsFuel P 10 t with|some l=>some (.agg l)|none=>none
 |false=>match cellsFuel P 1 t with|some [c]=>some (.c c)|_=>none
def shsOf:List TypeId->Option (List Sh)
 |[]=>some []
 |t::l=>match shOf P t,shsOf l with|some s,some r=>some (s::r)|_,_=>none
end
def nd(x:EV)(f:Value->Pr):Pr:=
 match x with
 |.val v=>f v
 |.lit b=>f (.bool b)
 |.nx0=>f (.tuple #[.bool false])
 |.nx1 k v=>f (.tuple #[.bool true,k,v])
 |.ent k v=>f (.tuple #[k,v])
 |.no=>fls
theorem nd_sound{x:EV}{f:Value->Pr}{w:World}(h:nd x f w):∃v,x.v? =some v/\f v w:=by
 cases x with
 |no=>exact h.elim
 |val v=>exact⟨v,rfl,h⟩
 |lit b=>exact⟨_,rfl,h⟩
 |nx0=>exact⟨_,rfl,h⟩
 |nx1 k v=>exact⟨_,rfl,h⟩
 |ent k v=>exact⟨_,rfl,h⟩
def ndL:List EV->(List Value->Pr)->Pr
 |[],f=>f []
 |x::l,f=>nd x λv=>ndL l λvs=>f (v::vs)
def opt{α:Type}(x:Option α)(f:α->Pr):Pr:=
 match x with
 |some a=>f a
 |none=>fls
theorem opt_sound{α:Type}{x:Option α}{f:α->Pr}{w:World}(h:opt x f w):∃a,x=some a/\f a w:=by
 cases x with
 |some a=>exact⟨a,rfl,h⟩
 |none=>exact h.elim
def cnd(p:Prop)[Decidable p](f:Pr):Pr:=if p then f else fls
theorem cnd_sound{p:Prop}[Decidable p]{f:Pr}{w:World}(h:cnd p f w):p/\f w:=by
 unfold cnd at h;by_cases hp:p
 ·rw[if_pos hp]at h;exact⟨hp,h⟩
 ·rw[if_neg hp]at h;exact h.elim
def tf(b:Bool)(x y:Pr):Pr:=
 match b with
 |true=>x
 |false=>y
theorem tf_sound{b:Bool}{x y:Pr}{w:World}(h:tf b x y w):(b=true/\x w)\/(b=false/\y w):=by
 cases b with
 |true=>exact .inl ⟨rfl,h⟩
 |false=>exact .inr ⟨rfl,h⟩
def asAggE(v:Value)(f:Array Value->Pr):Pr:=
 match v with
 |.agg cs=>f cs
 |_=>fls
theorem asAggE_sound{v:Value}{f:Array Value->Pr}{w:World}(h:asAggE v f w):∃cs,v=.agg cs/\f cs w:=by
 cases v with
 |agg cs=>exact⟨cs,rfl,h⟩
 |_=>exact h.elim
def one?{α:Type}:List α->Option α
 |[c]=>some c
 |_=>none
def bAnd(k:IntKind)(x y:Int):Int:=k.wrap (BitVec.ofInt k.bits x&&&BitVec.ofInt k.bits y).toNat
def bOr(k:IntKind)(x y:Int):Int:=k.wrap (BitVec.ofInt k.bits x|||BitVec.ofInt k.bits y).toNat
def bXor(k:IntKind)(x y:Int):Int:=k.wrap (BitVec.ofInt k.bits x^^^BitVec.ofInt k.bits y).toNat
def bAndNot(k:IntKind)(x y:Int):Int:=k.wrap (BitVec.ofInt k.bits x&&& ~~~(BitVec.ofInt k.bits y)).toNat
def bShl(k:IntKind)(x y:Int):Int:=k.wrap (x*2^(min y.toNat k.bits))
def bShr(k:IntKind)(x y:Int):Int:=x.fdiv (2^(min y.toNat k.bits))
def cbin(op:BinOp)(x y:Value)(k:EV->Pr):Pr:=
 match op,x,y with
 |.shl,.int k1 a,.int _ b=>owe (0<=b) (k (.val (.int k1 (bShl k1 a b))))
 |.shr,.int k1 a,.int _ b=>owe (0<=b) (k (.val (.int k1 (bShr k1 a b))))
 |.add,.int k1 a,.int k2 b=>if k1=k2 then k (.val (.int k1 (k1.wrap (a+b))))else fls
 |.sub,.int k1 a,.int k2 b=>if k1=k2 then k (.val (.int k1 (k1.wrap (a-b))))else fls
 |.mul,.int k1 a,.int k2 b=>if k1=k2 then k (.val (.int k1 (k1.wrap (a*b))))else fls
 |.quo,.int k1 a,.int k2 b=>if k1=k2 then owe (b≠0) (k (.val (.int k1 (k1.wrap (a.tdiv b)))))else fls
 |.rem,.int k1 a,.int k2 b=>if k1=k2 then owe (b≠0) (k (.val (.int k1 (a.tmod b))))else fls
 |.and,.int k1 a,.int k2 b=>if k1=k2 then k (.val (.int k1 (bAnd k1 a b)))else fls
 |.or,.int k1 a,.int k2 b=>if k1=k2 then k (.val (.int k1 (bOr k1 a b)))else fls
 |.xor,.int k1 a,.int k2 b=>if k1=k2 then k (.val (.int k1 (bXor k1 a b)))else fls
 |.andNot,.int k1 a,.int k2 b=>if k1=k2 then k (.val (.int k1 (bAndNot k1 a b)))else fls
 |.eql,.int k1 a,.int k2 b=>if k1=k2 then k (.val (.bool (a==b)))else fls
 |.neq,.int k1 a,.int k2 b=>if k1=k2 then k (.val (.bool (a !=b)))else fls
 |.lss,.int k1 a,.int k2 b=>if k1=k2 then k (.val (.bool (decide (a<b))))else fls
 |.leq,.int k1 a,.int k2 b=>if k1=k2 then k (.val (.bool (decide (a<=b))))else fls
 |.gtr,.int k1 a,.int k2 b=>if k1=k2 then k (.val (.bool (decide (a>b))))else fls
 |.geq,.int k1 a,.int k2 b=>if k1=k2 then k (.val (.bool (decide (a>=b))))else fls
 |.add,.string a,.string b=>owe (((a.size+b.size:Nat):Int)<=IntKind.i64.max) (k (.val (.string (a++b))))
 |.eql,.string a,.string b=>k (.val (.bool (a.toList==b.toList)))
 |.neq,.string a,.string b=>k (.val (.bool (!(a.toList==b.toList))))
 |.lss,.string a,.string b=>k (.val (.bool (Op.bytesLess a.toList b.toList)))
 |.leq,.string a,.string b=>k (.val (.bool (Op.bytesLess a.toList b.toList||a.toList==b.toList)))
 |.gtr,.string a,.string b=>k (.val (.bool (!(Op.bytesLess a.toList b.toList||a.toList==b.toList))))
 |.geq,.string a,.string b=>k (.val (.bool (!(Op.bytesLess a.toList b.toList))))
 |_,_,_=>fls
theorem run_bin{P:Program}{op:BinOp}{t:TypeId}{x y:Value}{k:EV->Pr}{w:World}(h:cbin op x y k w):
 ∃v,(binOp op t x y).run P w=.ok v w/\k (.val v) w:=by
 unfold cbin at h;split at h<;>first
  |exact h.elim
  |(obtain⟨h1,h2⟩:=h
    refine⟨_,?_,h2⟩;simp[binOp,Op.shift,show¬(_:Int)<0 from Int.not_lt.2 h1,bShl,bShr,pure]
    done)
  |(split at h
    ·rename_i hk
     first
      |(refine⟨_,?_,h⟩
        simp[binOp,hk,Op.intArith,Op.intBits,Op.intCmp,bAnd,bOr,bXor,bAndNot,pure]
        done)
      |(obtain⟨h1,h2⟩:=h
        refine⟨_,?_,h2⟩;simp[binOp,hk,Op.intDiv,h1,pure]
        done)
    ·exact h.elim)
  |exact⟨_,by simp only[binOp,Op.stringOp];rw[if_neg (Int.not_lt.2 h.1)];rfl,h.2⟩
  |(refine⟨_,?_,h⟩
    simp[binOp,Op.stringOp,pure]
    done)
def RT{α:Type}(P:Program)(s:Sem α)(w:World)(Q:α->World->Prop):Prop:=∃v w',s.run P w=.ok v w'/\Q v w'
section
variable{P:Program}{α β:Type}{w:World}
theorem RT.pure{a:α}{Q:α->World->Prop}(h:Q a w):RT P (Pure.pure a) w Q:=⟨a,w,rfl,h⟩
theorem RT.bind{s:Sem α}{f:α->Sem β}{Q:β->World->Prop}(h:RT P s w λv w'=>RT P (f v) w' Q):RT P (s>>=f) w Q:=by
 obtain⟨v,w',h1,v2,w2,h2,h3⟩:=h;exact⟨v2,w2,by rw[Sem.run_bind,h1];exact h2,h3⟩
theorem RT.mono{s:Sem α}{Q Q':α->World->Prop}(h:RT P s w Q)(hq:∀v w',Q v w'->Q' v w'):RT P s w Q':=
 let⟨v,w',h1,h2⟩:=h;⟨v,w',h1,hq _ _ h2⟩
theorem RT.of_run{s:Sem α}{v:α}{w':World}{Q:α->World->Prop}(h:s.run P w=.ok v w')(hq:Q v w'):RT P s w Q:=⟨v,w',h,hq⟩
theorem RT.underlying{t:TypeId}{d:TypeDesc}{Q:TypeDesc->World->Prop}(h:P.underlying t=some d)(hq:Q d w):RT P (Go.underlying t) w Q:=
 ⟨d,w,by simp[Go.underlying,h],hq⟩
theorem RT.typeInfo{t:TypeId}{i:TypeInfo}{Q:TypeInfo->World->Prop}(h:P.info? t=some i)(hq:Q i w):RT P (Go.typeInfo t) w Q:=
 ⟨i,w,by simp[Go.typeInfo,h],hq⟩
theorem RT.sizeOf{t:TypeId}{i:TypeInfo}{Q:Nat->World->Prop}(h:P.info? t=some i)(hq:Q i.size w):RT P (Go.sizeOf t) w Q:=
 .bind (.typeInfo h (.pure hq))
theorem RT.zeroValue{t:TypeId}{i:TypeInfo}{z:Value}{Q:Value->World->Prop}(h:P.info? t=some i)(hz:i.zero=some z)(hq:Q z w):RT P (Go.zeroValue t) w Q:=
 .bind (.typeInfo h (by rw[hz];exact .pure hq))
theorem RT.load{a:Addr}{v:Value}{Q:Value->World->Prop}(h:w.cell? a=some v)(hq:Q v w):RT P (Go.load a) w Q:=
 ⟨v,w,by simp[h],hq⟩
theorem RT.newObj{o:Obj}{Q:Nat->World->Prop}(hq:Q w.heap.size (w.alloc o)):RT P (Go.newObj o) w Q:=⟨_,_,rfl,hq⟩
theorem NotAgg.one{v:Value}(h:NotAgg v):v.oneCell'=true:=by cases v<;>simp_all[NotAgg,Value.oneCell']
theorem NotAgg.cells{v:Value}(h:NotAgg v):v.cells= #[v]:=by cases v<;>simp_all[NotAgg,Value.cells]
theorem RT.store{a:Addr}{v:Value}{f:Pr}{Q:Unit->World->Prop}(h:st a v f w)(hq:∀w',f w'->Q () w'):RT P (Go.store a v) w Q:=by
 obtain⟨h1,h2,h3,h4⟩:=h;obtain⟨u,hu⟩:=Option.isSome_iff_exists.1 h2;exact⟨(),_,by rw[run_store P w a v .plain h1.one];simp[hu,h3],hq _ h4⟩
theorem RT.storeCells{a:Addr}{f:Pr}{Q:Unit->World->Prop}:∀{l:List Value} {i:Nat} {w:World},stL a i l f w->(∀w',f w'->Q () w')->RT P (Go.storeCells a l i) w Q
 |[],_,_,h,hq=>.pure (hq _ h)
 |_::_,_,_,h,hq=>.bind (.store h λ_ h'=>RT.storeCells h' hq)
theorem RT.loadCellsFrom{a:Addr}{Q:Array Value->World->Prop}:∀{l:List Value} {i n:Nat} {acc:Array Value},l.length=n->readsAt w a i l->Q (acc++l.toArray) w->RT P (Go.loadCellsFrom a i n acc) w Q
 |[],_,_,acc,rfl,_,hq=>.pure (by simpa using hq)
 |v::l,i,_,acc,rfl,h,hq=>by
  simp only[List.length_cons,Go.loadCellsFrom];exact .bind (.load h.1 (RT.loadCellsFrom rfl h.2 (by simpa using hq)))
theorem RT.loadCells{a:Addr}{Q:Array Value->World->Prop}{l:List Value}{n:Nat}(hn:l.length=n)(h:readsAt w a 0 l)(hq:Q l.toArray w):RT P (Go.loadCells a n) w Q:=
 RT.loadCellsFrom hn h (by simpa using hq)
end
theorem valA_length:∀(l:List CS) (p:PayA l),(valA l p).length=l.length
 |[],_=>rfl
 |[_],_=>rfl
 |_::t::l,p=>by simp only[valA,List.length_cons,valA_length (t::l)]
section
variable(P:Program)
def ldT(t:TypeId)(a:Addr)(k:Value->Pr):Pr:=
 opt (P.info? t) λi=>
  tf (isAggT P t)
   (opt (cellsFuel P 10 t) λl=>cnd (l.length=i.size) (ldA l a λp=>k (.agg (valA l p).toArray)))
   (opt (cellsFuel P 1 t) λl=>opt (one? l) λc=>ldC c a λp=>k (valC c p))
def stT(t:TypeId)(a:Addr)(v:Value)(k:Pr):Pr:=
 opt (P.info? t) λi=>
  tf (isAggT P t)
   (asAggE v λcs=>cnd (cs.size=i.size) (stL a 0 cs.toList k))
   (cnd (i.size=1) (st a v k))
def nwT(t:TypeId)(v:Value)(k:EV->Pr):Pr:=
 tf (isAggT P t)
  (asAggE v λcs=>nw (.cells cs t) λr=>k (.val (.pointer (some ⟨r,0,none⟩))))
  (owe (NotAgg v) (nw (.cells #[v] t) λr=>k (.val (.pointer (some ⟨r,0,none⟩)))))
end
section
variable{P:Program}{w:World}
theorem run_isAgg{t:TypeId}{d:TypeDesc}(h:P.underlying t=some d):(isAgg t).run P w=.ok (isAggT P t) w:=by
 simp only[isAgg,Sem.run_bind,Go.underlying,run_program,Result.andThen_ok,h,Sem.run_pure,isAggT];cases d<;>rfl
theorem underlying_of_info{t:TypeId}{i:TypeInfo}(h:P.info? t=some i)(hc:isAggT P t=true\/∃l,cellsFuel P 1 t=some l):∃d,P.underlying t=some d:=by
 cases hu:P.underlying t with
 |some d=>exact⟨d,rfl⟩
 |none=>
  rcases hc with hc|⟨l,hl⟩
  ·simp[isAggT,hu]at hc
  ·simp[cellsFuel,hu]at hl
theorem RT.loadVar{t:TypeId}{a:Addr}{k:Value->Pr}{Q:Value->World->Prop}(h:ldT P t a k w)(hq:∀v,k v w->Q v w):RT P (Go.loadVar t a) w Q:=by
 obtain⟨i,hi,h⟩:=opt_sound h;rcases tf_sound h with⟨hag,h⟩|⟨hag,h⟩
 ·obtain⟨l,hl,h⟩:=opt_sound h
  obtain⟨hlen,p,hr,hk⟩:=cnd_sound h;obtain⟨d,hd⟩:=underlying_of_info hi (.inl hag);refine .bind (.of_run (run_isAgg hd) ?_);rw[hag,if_pos rfl];refine .bind (.sizeOf hi (.bind ?_));exact .loadCells (by rw[valA_length,hlen]) hr (.pure (hq _ hk))
 ·obtain⟨l,hl,h⟩:=opt_sound h
  obtain⟨c,hc,p,hr,hk⟩:=opt_sound h;obtain⟨d,hd⟩:=underlying_of_info hi (.inr ⟨_,hl⟩);refine .bind (.of_run (run_isAgg hd) ?_);rw[hag,if_neg Bool.false_ne_true];exact .load hr (hq _ hk)
theorem RT.loadVar'{t:TypeId}{a:Addr}{k:Value->Pr}(h:ldT P t a k w):RT P (Go.loadVar t a) w k:=RT.loadVar h λ_ h=>h
theorem RT.storeVar{t:TypeId}{a:Addr}{v:Value}{k:Pr}{Q:Unit->World->Prop}(h:stT P t a v k w)(hq:∀w',k w'->Q () w'):RT P (Go.storeVar t a v) w Q:=by
 obtain⟨i,hi,h⟩:=opt_sound h;rcases tf_sound h with⟨hag,h⟩|⟨hag,h⟩
 ·obtain⟨cs,rfl,h⟩:=asAggE_sound h
  obtain⟨hlen,h⟩:=cnd_sound h;refine .bind (.sizeOf hi ?_);simp only[Value.cells,hlen,ne_eq,not_true_eq_false,if_false];exact .storeCells h hq
 ·obtain⟨hs,h⟩:=cnd_sound h
  refine .bind (.sizeOf hi ?_);simp only[h.1.cells,hs,List.size_toArray,List.length_cons,List.length_nil,ne_eq,not_true_eq_false,if_false];exact .storeCells (l:=[v]) (i:=0) (by simpa[stL,Addr.add]using h) hq
theorem RT.newVar{t:TypeId}{v:Value}{k:EV->Pr}{Q:Addr->World->Prop}(h:nwT P t v k w)(hq:∀a w',k (.val (.pointer (some a))) w'->Q a w'):RT P (Go.newVar t v) w Q:=by
 unfold Go.newVar Go.newRow;rcases tf_sound h with⟨hag,h⟩|⟨hag,h⟩
 ·obtain⟨cs,rfl,h⟩:=asAggE_sound h
  exact .bind (.newObj (.pure (hq _ _ h)))
 ·obtain⟨h1,h2⟩:=h
  rw[h1.cells];exact .bind (.newObj (.pure (hq _ _ h2)))
end
def slc(n:Nat)(s:Sl)(lo hi mx:Option Int)(k:Sl->Pr):Pr:=λw=>
 (∀m,mx=some m->0<=m/\m<=(s.cap:Int))/\
 (mx.isSome=true->hi.isSome=true)/\
 (∀h,hi=some h->0<=h/\h<=((mx.map Int.toNat).getD s.cap:Int))/\
 (∀l,lo=some l->0<=l/\l<=((hi.map Int.toNat).getD s.len:Int))/\
 k ⟨if(mx.map Int.toNat).getD s.cap=(lo.map Int.toNat).getD 0 then s.a else s.a.map (·.add ((lo.map Int.toNat).getD 0*n)),
    (hi.map Int.toNat).getD s.len-(lo.map Int.toNat).getD 0,(mx.map Int.toNat).getD s.cap-(lo.map Int.toNat).getD 0⟩ w
def slcStr(s:ByteArray)(lo hi:Option Int)(k:ByteArray->Pr):Pr:=λw=>
 (∀h,hi=some h->0<=h/\h<=(s.size:Int))/\
 (∀l,lo=some l->0<=l/\l<=((hi.map Int.toNat).getD s.size:Int))/\
 k (s.extract ((lo.map Int.toNat).getD 0) ((hi.map Int.toNat).getD s.size)) w
def readsO(w:World)(a:Option Addr)(vs:List Value):Prop:=
 match a with
 |some b=>readsAt w b 0 vs
 |none=>vs=[]
def stO(a:Option Addr)(off:Nat)(vs:List Value)(k:Pr):Pr:=
 match a with
 |some b=>stL (b.add off) 0 vs k
 |none=>k
def cpy(n:Nat)(d s:Sl)(k:Pr):Pr:=λw=>
 ∃vs:List Value,(s.a.isSome=true->vs.length=Nat.min s.len d.len*n)/\readsO w s.a vs/\stO d.a 0 vs k w
def zc(z:List Value)(n:Nat):List Value:=(List.replicate n z).flatten
def app(E:TypeId)(n b:Nat)(z:List Value)(s x:Sl)(k:Sl->Pr):Pr:=λw=>
 ∃new:List Value,(x.a.isSome=true->new.length=x.len*n)/\readsO w x.a new/\
  (s.len+x.len<=s.cap->stO s.a (s.len*n) new (k ⟨s.a,s.len+x.len,s.cap⟩) w)/\
  (s.cap<s.len+x.len->∃old:List Value,(s.a.isSome=true->old.length=s.len*n)/\readsO w s.a old/\(b≠0)/\
    (Builtin.nextslicecap (s.len+x.len) s.cap*b<=2^48)/\(s.len+x.len<2^63)/\
    ∀cap,s.len+x.len<=cap->cap<2^63->
     k ⟨some ⟨w.heap.size,0,none⟩,s.len+x.len,cap⟩ (w.drew.alloc (.cells (old++new++zc z (cap-(s.len+x.len))).toArray E)))
def ubL(x:ByteArray):List Value:=x.data.toList.map λb=>.int .u8 b.toNat
def appS(E:TypeId)(n b:Nat)(z:List Value)(s:Sl)(x:ByteArray)(k:Sl->Pr):Pr:=λw=>
    (s.len+x.size<=s.cap->stO s.a (s.len*n) (ubL x) (k ⟨s.a,s.len+x.size,s.cap⟩) w)/\
    (s.cap<s.len+x.size->∃old:List Value,(s.a.isSome=true->old.length=s.len*n)/\readsO w s.a old/\(b≠0)/\
      (Builtin.nextslicecap (s.len+x.size) s.cap*b<=2^48)/\(s.len+x.size<2^63)/\
      ∀cap,s.len+x.size<=cap->cap<2^63->
       k ⟨some ⟨w.heap.size,0,none⟩,s.len+x.size,cap⟩ (w.drew.alloc (.cells (old++ubL x++zc z (cap-(s.len+x.size))).toArray E)))
def appZ(E:TypeId)(n b:Nat)(z:List Value)(s:Sl)(m:Int)(k:Sl->Pr):Pr:=λw=>
 0<=m/\m*(b:Int)<=2^48/\IntKind.wrap .i64 m=m/\
  (s.len+m.toNat<=s.cap->stO s.a (s.len*n) (zc z m.toNat) (k ⟨s.a,s.len+m.toNat,s.cap⟩) w)/\
  (s.cap<s.len+m.toNat->∃old:List Value,(s.a.isSome=true->old.length=s.len*n)/\readsO w s.a old/\
    (Builtin.nextslicecap (s.len+m.toNat) s.cap*b<=2^48)/\(s.len+m.toNat<2^63)/\
    ∀cap,s.len+m.toNat<=cap->cap<2^63->
     k ⟨some ⟨w.heap.size,0,none⟩,s.len+m.toNat,cap⟩ (w.drew.alloc (.cells (old++zc z m.toNat++zc z (cap-(s.len+m.toNat))).toArray E)))
def mkS(E:TypeId)(b:Nat)(z:List Value)(l c:Int)(k:Sl->Pr):Pr:=λw=>
 0<=l/\l<=c/\(b:Int)*c<=2^48/\c<2^63/\
  k ⟨some ⟨w.heap.size,0,none⟩,l.toNat,c.toNat⟩ (w.alloc (.cells (zc z c.toNat).toArray E))
def mapES(w:World)(r:Option Nat)(es:Array MapEntry):Prop:=
 match r with
 |none=>es= #[]
 |some b=>∃clock,w.heap[b]? =some (.map es clock)
def mapAt(kd:TypeDesc)(r:Option Nat)(key:Value)(sh:CS)(zero:Value)(k:PayC sh->Bool->Pr):Pr:=λw=>
 ∃es res p,mapES w r es/\Instr.findNow kd key es.toList 0=some res/\((res.map (·.2)).getD zero)=valC sh p/\k p res.isSome w
def mapPut(kd:TypeDesc)(r:Option Nat)(key v:Value)(k:Pr):Pr:=λw=>
 ∃b es clock res,r=some b/\w.heap[b]? =some (.map es clock)/\Instr.findNow kd key es.toList 0=some res/\
  match res with
  |some (i,_)=>Instr.sameBits 10000 (((es[i]?).map (·.key)).getD key) key=true/\
    k {w with heap:=w.heap.setIfInBounds b (.map (es.modify i λe=>{e with key,val:=v}) clock)}
  |none=>k {w with heap:=w.heap.setIfInBounds b (.map (es.push {key,val:=v,born:=clock}) (clock+1))}
def mapDel(kd:TypeDesc)(r:Option Nat)(key:Value)(k:Pr):Pr:=λw=>
 ∃b es clock res,r=some b/\w.heap[b]? =some (.map es clock)/\Instr.findNow kd key es.toList 0=some res/\
  k {w with heap:=w.heap.setIfInBounds b (.map (match res with|some (i,_)=>es.eraseIdxIfInBounds i|none=>es) clock)}
def mapLen(r:Option Nat)(k:Int->Pr):Pr:=λw=>∃es,mapES w r es/\k es.size w
def mrange(r:Option Nat)(k:Nat->Pr):Pr:=λw=>
 match r with
 |none=>k w.heap.size (w.alloc (.mapIter none 0 #[] 0))
 |some m=>∃es clock,w.heap[m]? =some (.map es clock)/\k w.heap.size (w.alloc (.mapIter (some m) clock #[] clock))
def mnext(a:Addr)(k0:Pr)(k1:MapEntry->Pr):Pr:=λw=>a.off=0/\
 ((∃c f d,w.heap[a.block]? =some (.mapIter none c f d)/\k0 w)\/
  ∃m since seen last es clock,w.heap[a.block]? =some (.mapIter (some m) since seen last)/\w.heap[m]? =some (.map es clock)/\
   (!seen.isEmpty&& !es.isEmpty&&es.all (·.born>=last))=false/\
   ∀w1,(w1=w\/w1=w.drew)->
    ((∀e∈es.toList,e.born<since->seen.contains e.born=true)->k0 w1)/\
    ∀e∈es.toList,seen.contains e.born=false->k1 e {w1 with heap:=w1.heap.setIfInBounds a.block (.mapIter (some m) since (seen.push e.born) clock)})
def mentry(a:Addr)(k:MapEntry->Pr):Pr:=λw=>a.off=0/\
 ∃m since seen stepped es clock stamp e,w.heap[a.block]? =some (.mapIter (some m) since seen stepped)/\seen.back? =some stamp/\w.heap[m]? =some (.map es clock)/\
  clock=stepped/\es.find? (·.born==stamp)=some e/\k e w
def simpleKey:TypeDesc->Bool
 |.int _|.string|.bool=>true
 |_=>false
def b2s(s:Sl)(k:ByteArray->Pr):Pr:=λw=>
 ∃l:List Int,(s.a.isSome=true->l.length=s.len)/\readsO w s.a (l.map (.int .u8))/\k ⟨(l.map λn=>UInt8.ofNat n.toNat).toArray⟩ w
def bcells(s:ByteArray)(cap:Nat):Array Value:=(s.data.map λb=>Value.int .u8 b.toNat)++Array.replicate (cap-s.size) (.int .u8 0)
def markS(a:Addr)(k:Pr):Pr:=λw=>∃E n,w.shape? a.block=some (E,n)/\k (w.freeze ⟨a.block,n,none⟩ 1)
def s2b(E:TypeId)(s:ByteArray)(k:Sl->Pr):Pr:=λw=>
 s.size<2^63/\∀cap,s.size<=cap->cap<2^63->
  k ⟨some ⟨w.heap.size,0,none⟩,s.size,cap⟩ ((w.drew.alloc (.cells (bcells s cap) E)).freeze ⟨w.heap.size,(bcells s cap).size,none⟩ 1)
def srange(s:ByteArray)(k:Nat->Pr):Pr:=λw=>k w.heap.size (w.alloc (.stringIter s 0))
def snext(a:Addr)(k0:Pr)(k1:Nat->Nat->Pr):Pr:=λw=>a.off=0/\∃s pos,w.heap[a.block]? =some (.stringIter s pos)/\
 (¬pos<s.size->k0 w)/\(pos<s.size->k1 pos (Utf8.decode s pos).1 (w.putObj a.block (.stringIter s (pos+(Utf8.decode s pos).2))))
def callable(P:Program)(f:FuncId):Bool:=
 match P.funcs[f]?with
 |some fn=>fn.body.isSome&& !(fn.name== "runtime.NumGoroutine")
 |none=>false
def RetT(shs:List Sh)(k:PayL shs->Pr):Ending->World->Prop:=λe w=>∃p:PayL shs,e=.returned (valR shs p)/\k p w
def RetP(q:List PanicEntry->Pr)(shs:List Sh)(k:PayL shs->Pr):Ending->World->Prop:=λe w=>RetT shs k e w\/∃ch,e=.panicked ch/\q ch w
def callFP(P:Program)(q:List PanicEntry->Pr)(f:FuncId)(args:List Value)(shs:List Sh)(k:PayL shs->Pr):Pr:=λw=>Calls P f args.toArray w (RetP q shs k)
def callF(P:Program)(f:FuncId)(args:List Value)(shs:List Sh)(k:PayL shs->Pr):Pr:=λw=>Calls P f args.toArray w (RetT shs k)
def callE(P:Program)(f:FuncId)(args:List Value)(shs:List Sh)(k:PayL shs->Pr):Pr:=λw=>
 ∃p w',(callFunc f args.toArray).run P w=.ok (.value (valR shs p)) w'/\k p w'
def callV(P:Program)(v:Value)(args:List Value)(shs:List Sh)(k:PayL shs->Pr):Pr:=λw=>
 (∃f first caps,v=.func (.func f) first caps/\callable P f=true/\Calls P f (first++args.toArray++caps) w (RetT shs k))\/
 (∃l caps,v=.func (.yield l) #[] caps/\YieldAt Fence.wide 0 P l args.toArray w (RetT shs k))
def okFn(v:Value):Prop:=
 match v with
 |.func (.func _) _ _=>True
 |.func (.yield _) _ _=>True
 |_=>False
def imin(x y:Int):Int:=if y<x then y else x
def imax(x y:Int):Int:=if y>x then y else x
def asIntE(v:Value)(f:Int->Pr):Pr:=
 match v with
 |.int _ n=>f n
 |_=>fls
theorem asIntE_sound{v:Value}{f:Int->Pr}{w:World}(h:asIntE v f w):∃k n,v=.int k n/\f n w:=by
 cases v with
 |int k n=>exact⟨k,n,rfl,h⟩
 |_=>exact h.elim
def ndO(x:Option EV)(f:Option Int->Pr):Pr:=
 match x with
 |none=>f none
 |some e=>nd e λv=>asIntE v λn=>f (some n)
def asPtr(v:Value)(f:Addr->Pr):Pr:=
 match v with
 |.pointer p=>deref p f
 |_=>fls
theorem asPtr_sound{v:Value}{f:Addr->Pr}{w:World}(h:asPtr v f w):∃a,v=.pointer (some a)/\f a w:=by
 cases v with
 |pointer p=>obtain⟨a,rfl,h1⟩:=deref_iff.1 (show deref p f w from h);exact⟨a,rfl,h1⟩
 |_=>exact h.elim
def asSl(v:Value)(f:Sl->Pr):Pr:=
 match v with
 |.slice a l c=>f ⟨a,l,c⟩
 |_=>fls
def asStr(v:Value)(f:ByteArray->Pr):Pr:=
 match v with
 |.string s=>f s
 |_=>fls
theorem asStr_sound{v:Value}{f:ByteArray->Pr}{w:World}(h:asStr v f w):∃s,v=.string s/\f s w:=by
 cases v with
 |string s=>exact⟨s,rfl,h⟩
 |_=>exact h.elim
def isStrT(P:Program)(t:TypeId):Bool:=
 match P.underlying t with
 |some .string=>true
 |_=>false
theorem isStrT_sound{P:Program}{t:TypeId}(h:isStrT P t=true):P.underlying t=some .string:=by
 unfold isStrT at h;split at h
 ·assumption
 ·cases h
def asMap(v:Value)(f:Option Nat->Pr):Pr:=
 match v with
 |.map r=>f r
 |_=>fls
theorem asMap_sound{v:Value}{f:Option Nat->Pr}{w:World}(h:asMap v f w):∃r,v=.map r/\f r w:=by
 cases v with
 |map r=>exact⟨r,rfl,h⟩
 |_=>exact h.elim
def isNilF:Value->Bool
 |.nilFunc=>true
 |_=>false
def isCst:Operand->Bool
 |.const _=>true
 |_=>false
def ptrT(P:Program)(t:TypeId):Bool:=
 match P.underlying t with
 |some (.pointer el)=>(match P.info? el with
  |some i=> !(i.size==0)
  |none=>false)
 |_=>false
def ptr2(P:Program)(t:TypeId)(x y:Operand):Bool:= !isCst x&& !isCst y&&ptrT P t
def ptrA(u v:Value)(f:Bool->Pr):Pr:=
 match u,v with
 |.pointer p,.pointer q=>owe (∀a b,p=some a->q=some b->a.block=b.block) (f (p==q))
 |_,_=>fls
def ceqV(d:TypeDesc)(x y:Value):Option (Prop×Bool):=
 match d,x,y with
 |.bool,.bool a,.bool b=>some (True,a==b)
 |.pointer _,.pointer p,.pointer none=>some (True,p.isNone)
 |.pointer _,.pointer none,.pointer q=>some (True,q.isNone)
 |.slice _,.slice a _ _,.slice none _ _=>some (True,a.isNone)
 |.map _ _,.map r,.map none=>some (True,r.isNone)
 |.func _ _ _,v,.nilFunc=>some (okFn v\/v=.nilFunc,isNilF v)
 |_,_,_=>none
def ceq(P:Program)(t:TypeId)(x y:Value)(f:Bool->Pr):Pr:=
 opt (P.underlying t) λd=>opt (ceqV d x y) λr=>owe r.1 (f r.2)
def eq1(d:TypeDesc)(x y:Value):Option Bool:=
 match d,x,y with
 |.bool,.bool a,.bool b=>some (a==b)
 |.int _,.int k a,.int k' b=>if k=k' then some (a==b)else none
 |.string,.string a,.string b=>some (a.toList==b.toList)
 |_,_,_=>none
def strEq(a b:String):Bool:=decide (a=b)
def structF(P:Program)(t:TypeId):Option (Array Field):=
 match P.underlying t with
 |some (.struct fs)=>some fs
 |_=>none
def eqG(g:TypeId->List Value->List Value->Option Bool)(xs ys:List Value):List Field->Option Bool
 |[]=>some true
 |f::l=>
  match strEq f.name "_",g f.type (xs.drop f.offset) (ys.drop f.offset),eqG g xs ys l with
  |false,some b,some c=>some (b&&c)
  |_,_,_=>none
def eqLeaf(P:Program)(t:TypeId)(us vs:List Value):Option Bool:=
 match P.underlying t,us.head?,vs.head? with
 |some d,some u,some v=>eq1 d u v
 |_,_,_=>none
def eqV(P:Program):Nat->TypeId->List Value->List Value->Option Bool
 |0,t,us,vs=>eqLeaf P t us vs
 |m+1,t,us,vs=>
  match structF P t,P.info? t,P.stoodInHeld t with
  |some fs,some i,false=>eqG (eqV P m) (us.take i.size) (vs.take i.size) fs.toList
  |some _,_,_=>none
  |none,_,_=>eqLeaf P t us vs
def eqFs(P:Program)(xs ys:List Value)(fs:List Field):Option Bool:=eqG (eqV P 2) xs ys fs
def asAgg2(u v:Value)(f:List Value->List Value->Pr):Pr:=
 match u,v with
 |.agg xs,.agg ys=>f xs.toList ys.toList
 |_,_=>fls
theorem asAgg2_sound{u v:Value}{f:List Value->List Value->Pr}{w:World}(h:asAgg2 u v f w):∃xs ys,u=.agg xs/\v=.agg ys/\f xs.toList ys.toList w:=by
 unfold asAgg2 at h;split at h
 ·exact⟨_,_,rfl,rfl,h⟩
 ·exact h.elim
def ceqS(P:Program)(t:TypeId)(fs:Array Field)(u v:Value)(f:Bool->Pr):Pr:=
 tf (P.eqGuardType P.depth t||P.stoodInHeld t) fls (asAgg2 u v λxs ys=>opt (eqFs P xs ys fs.toList) f)
def ceqI(P:Program)(u v:Value)(f:Bool->Pr):Pr:=λw=>
 ∃tx x ty y,u=.iface tx x/\v=.iface ty y/\∃b,((tx≠ty/\b=false)\/(tx=ty/\∃i k a c,P.info? tx=some i/\i.comparable=true/\P.underlying tx=some (.int k)/\x=.int k a/\y=.int k c/\b=(a==c)))/\f b w
def fieldOf(P:Program)(s:TypeId)(i:Nat):Option Field:=
 match P.underlying s with
 |some (.struct fs)=>fs[i]?
 |_=>none
def sliceElem(P:Program)(t:TypeId):Option TypeId:=
 match P.underlying t with
 |some (.slice e)=>some e
 |_=>none
def mapElem(P:Program)(t:TypeId):Option (TypeId×TypeId):=
 match P.underlying t with
 |some (.map k e)=>some (k,e)
 |_=>none
def fillL(place:Nat->Option (Nat×Nat)):List Value->List (Nat×Value)->Option (List Value)
 |cells,[]=>some cells
 |cells,(i,v)::rest=>
  match place i with
  |none=>none
  |some (off,size)=>
   match v with
   |.agg cs=>if cs.size=size/\off+size<=cells.length then fillL place (cells.take off++cs.toList++cells.drop (off+size)) rest else none
   |v=>if size=1/\off+1<=cells.length then fillL place (cells.set off v) rest else none
def na(v:Value)(k:Pr):Pr:=
 match v with
 |.agg _=>fls
 |_=>k
theorem na_sound{v:Value}{k:Pr}{w:World}(h:na v k w):(∀cs,v≠.agg cs)/\k w:=by
 cases v<;>first|exact h.elim|exact⟨λcs=>by simp,h⟩
def fillC(agg:Nat->Bool)(place:Nat->Option (Nat×Nat)):List Value->List (Nat×Value)->(List Value->Pr)->Pr
 |cells,[],f=>f cells
 |cells,(i,v)::rest,f=>opt (place i) λos=>tf (agg i)
   (asAggE v λcs=>cnd (cs.size=os.2/\os.1+os.2<=cells.length) (fillC agg place (cells.take os.1++cs.toList++cells.drop (os.1+os.2)) rest f))
   (na v (cnd (os.2=1/\os.1+1<=cells.length) (fillC agg place (cells.set os.1 v) rest f)))
theorem fillC_sound{agg:Nat->Bool}{place:Nat->Option (Nat×Nat)}{w:World}:∀{ps:List (Nat×Value)} {cells:List Value} {f:List Value->Pr},fillC agg place cells ps f w->∃out,fillL place cells ps=some out/\f out w
 |[],cells,f,h=>⟨cells,rfl,h⟩
 |(i,v)::ps,cells,f,h=>by
  simp only[fillC]at h;obtain⟨⟨off,size⟩,hp,h⟩:=opt_sound h;simp only[fillL,hp];rcases tf_sound h with⟨_,h⟩|⟨_,h⟩
  ·obtain⟨cs,rfl,h⟩:=asAggE_sound h
   obtain⟨hc,h⟩:=cnd_sound h;obtain⟨out,ho,h⟩:=fillC_sound h;exact⟨out,by dsimp only;rw[if_pos hc];exact ho,h⟩
  ·obtain⟨hv,h⟩:=na_sound h
   obtain⟨hc,h⟩:=cnd_sound h;obtain⟨out,ho,h⟩:=fillC_sound h;refine⟨out,?_,h⟩;cases v<;>first|exact absurd rfl (hv _)|(dsimp only;rw[if_pos hc];exact ho)
def ndParts(e:Env):List (Nat×Operand)->(List (Nat×Value)->Pr)->Pr
 |[],f=>f []
 |(i,x)::l,f=>nd (Env.ev e x) λv=>ndParts e l λvs=>f ((i,v)::vs)
def placesOf(P:Program):List Field->Option (List (Nat×Nat))
 |[]=>some []
 |f::l=>match P.info? f.type,placesOf P l with
  |some i,some r=>some ((f.offset,i.size)::r)
  |_,_=>none
def zeroOf(P:Program)(t:TypeId):Option Value:=
 match P.info? t with
 |some i=>i.zero
 |none=>none
def retShs(P:Program)(t:TypeId):Option (List Sh):=
 match P.underlying t with
 |some (.tuple ts)=>shsOf P ts.toList
 |some _=>match shOf P t with|some s=>some [s]|none=>none
 |none=>none
def minL:List Value->(Value->Pr)->Pr
 |[.int k x,.int _ y],f=>f (.int k (imin x y))
 |[.int k x,.int _ y,.int _ z],f=>f (.int k (imin (imin x y) z))
 |_,_=>fls
def maxL:List Value->(Value->Pr)->Pr
 |[.int k x,.int _ y],f=>f (.int k (imax x y))
 |[.int k x,.int _ y,.int _ z],f=>f (.int k (imax (imax x y) z))
 |_,_=>fls
def isIntT(P:Program)(t:TypeId):Bool:=
 match P.underlying t with
 |some (.int _)=>true
 |_=>false
def cbuiltin(P:Program)(b:Builtin)(ts:List TypeId)(args:List Value)(k:EV->Pr):Pr:=
 match b,args with
 |.len,[.slice _ n _]=>opt (ts[0]?) λt=>opt (sliceElem P t) λ_=>k (.val (.int .i64 n))
 |.len,[.string s]=>opt (ts[0]?) λt=>opt (P.underlying t) λd=>match d with|.string=>k (.val (.int .i64 s.size))|_=>fls
 |.len,[.map r]=>opt (ts[0]?) λt=>opt (mapElem P t) λ_=>mapLen r λn=>k (.val (.int .i64 n))
 |.cap,[.slice _ _ n]=>opt (ts[0]?) λt=>opt (sliceElem P t) λ_=>k (.val (.int .i64 n))
 |.min,l=>minL l λv=>k (.val v)
 |.max,l=>maxL l λv=>k (.val v)
 |.copy,[.slice da dl dc,.slice sa sl sc]=>opt (ts[0]?) λt=>opt (sliceElem P t) λel=>opt (P.info? el) λi=>
   cpy i.size ⟨da,dl,dc⟩ ⟨sa,sl,sc⟩ (k (.val (.int .i64 (Nat.min sl dl:Nat))))
 |.append,[.slice da dl dc,.slice sa sl sc]=>opt (ts[0]?) λt=>opt (ts[1]?) λt2=>tf (isIntT P t2) fls<|opt (P.underlying t2) λ_=>opt (sliceElem P t) λel=>opt (P.info? el) λi=>opt i.zero λz=>
   cnd (z.cells.size=i.size) (app el i.size i.bytes z.cells.toList ⟨da,dl,dc⟩ ⟨sa,sl,sc⟩ λs=>k (.val (.slice s.a s.len s.cap)))
 |.append,[.slice da dl dc,.string x]=>opt (ts[0]?) λt=>opt (ts[1]?) λt2=>tf (isIntT P t2) fls<|opt (P.underlying t2) λ_=>opt (sliceElem P t) λel=>opt (P.info? el) λi=>opt i.zero λz=>
   cnd (z.cells.size=i.size) (appS el i.size i.bytes z.cells.toList ⟨da,dl,dc⟩ x λs=>k (.val (.slice s.a s.len s.cap)))
 |.append,[.slice da dl dc,.int _ m]=>opt (ts[0]?) λt=>opt (ts[1]?) λt2=>tf (isIntT P t2) (opt (sliceElem P t) λel=>opt (P.info? el) λi=>opt i.zero λz=>
   cnd (z.cells.size=i.size) (appZ el i.size i.bytes z.cells.toList ⟨da,dl,dc⟩ m λs=>k (.val (.slice s.a s.len s.cap)))) fls
 |.delete,[.map r,key]=>opt (ts[0]?) λt=>opt (mapElem P t) λke=>opt (P.underlying ke.1) λkd=>tf (simpleKey kd) (mapDel kd r key (k (.val (.tuple #[])))) fls
 |_,_=>fls
def cconv(P:Program)(src dst:TypeId)(x:Value)(k:EV->Pr):Pr:=
 opt (P.underlying src) λs=>opt (P.underlying dst) λd=>
  match s,d,x with
  |.int _,.int kd,.int _ n=>k (.val (.int kd (kd.wrap n)))
  |.string,.string,.string b=>k (.val (.string b))
  |.slice _,.slice e,.slice a l c=>tf (src==dst) (opt (P.underlying e) λu=>match u with|.int .u8=>deref a λad=>markS ad (k (.val (.slice (some ad) l c)))|_=>fls) fls
  |.string,.slice e,.string s=>opt (P.underlying e) λu=>match u with|.int .u8=>s2b e s λr=>k (.val (.slice r.a r.len r.cap))|_=>fls
  |.slice e,.string,.slice a l c=>opt (P.underlying e) λu=>match u with|.int .u8=>b2s ⟨a,l,c⟩ λb=>k (.val (.string b))|_=>fls
  |_,_,_=>fls
def cun(op:UnOp)(x:EV)(k:EV->Pr):Pr:=
 match op,x with
 |.not,.lit b=>k (.lit (!b))
 |.not,.val (.bool b)=>k (.val (.bool !b))
 |.neg,.val (.int kd n)=>k (.val (.int kd (kd.wrap (0-n))))
 |.xor,.val (.int kd n)=>k (.val (.int kd (bXor kd (if kd.signed then-1 else kd.max) n)))
 |_,_=>fls
def cbr(x:EV)(y z:Pr):Pr:=
 match x with
 |.lit true=>y
 |.lit false=>z
 |.val (.bool b)=>br b y z
 |_=>fls
theorem cbr_sound{x:EV}{y z:Pr}{w:World}(h:cbr x y z w):∃b,x.v? =some (.bool b)/\((b=true/\y w)\/(b=false/\z w)):=by
 unfold cbr at h;split at h
 ·exact⟨true,rfl,.inl ⟨rfl,h⟩⟩
 ·exact⟨false,rfl,.inr ⟨rfl,h⟩⟩
 ·rename_i b
  refine⟨b,rfl,?_⟩;unfold br at h;cases b with
  |true=>exact .inl ⟨rfl,by simpa using h⟩
  |false=>exact .inr ⟨rfl,by simpa using h⟩
 ·exact h.elim
def cpick(e:Env)(c a b:Operand)(k:EV->Pr):Pr:=
 cbr (Env.ev e c) (nd (Env.ev e a) λ_=>k (Env.ev e a)) (nd (Env.ev e b) λ_=>k (Env.ev e b))
def numStr(v u:Value):Bool:=
 match v,u with
 |.int _ _,.int _ _=>true
 |.string _,.string _=>true
 |_,_=>false
def eqOp(op:BinOp)(f:Bool->Pr):Pr:=
 match op with
 |.eql=>f false
 |.neq=>f true
 |_=>fls
def sayC(s:CS)(v:Value)(f:PayC s->Pr):Pr:=λw=>∃p,v=valC s p/\f p w
def shOne(P:Program)(t:TypeId)(f:CS->Pr):Pr:=opt (cellsFuel P 1 t) λl=>opt (one? l) f
def cext(P:Program)(ty:TypeId)(x:EV)(ix:Nat)(k:EV->Pr):Pr:=
 match x with
 |.nx0=>(match ix with
  |0=>k (.lit false)
  |_=>fls)
 |.nx1 a b=>(match ix with
  |0=>k (.lit true)
  |1=>k (.val a)
  |2=>k (.val b)
  |_=>fls)
 |.ent a b=>(match ix with
  |0=>shOne P ty λs=>sayC s a λp=>k (.val (valC s p))
  |1=>shOne P ty λs=>sayC s b λp=>k (.val (valC s p))
  |_=>fls)
 |x=>nd x λv=>match v with
  |.tuple vs=>opt (vs[ix]?) λx=>k (.val x)
  |_=>fls
def nilOp:Operand->Bool
 |.const .nilIface=>true
 |_=>false
def orElse{α:Type}(x:Option α)(f:α->Pr)(y:Pr):Pr:=
 match x with
 |some a=>f a
 |none=>y
theorem orElse_sound{α:Type}{x:Option α}{f:α->Pr}{y:Pr}{w:World}(h:orElse x f y w):(∃a,x=some a/\f a w)\/(x=none/\y w):=by
 cases x with
 |some a=>exact .inl ⟨a,rfl,h⟩
 |none=>exact .inr ⟨rfl,h⟩
def ifcT(P:Program)(t:TypeId):Bool:=
 match P.underlying t with
 |some (.interface _)=>true
 |_=>false
def ceqA(P:Program)(t:TypeId)(u v:Value)(f:Bool->Pr):Pr:=orElse (structF P t) (λfs=>ceqS P t fs u v f)<|ceq P t u v f
def isI:Value->Prop
 |.nilIface=>True
 |.iface _ _=>True
 |_=>False
def isNilI:Value->Bool
 |.nilIface=>true
 |_=>false
def isIfc:TypeDesc->Bool
 |.interface _=>true
 |_=>false
def asT(T:TypeId)(sh:Sh)(z v:Value)(ok:Bool)(k:Pay sh->Bool->Pr):Pr:=λw=>
 ∃p b,((b=true/\v=.iface T (val sh p))\/(ok=true/\b=false/\val sh p=z/\(v=.nilIface\/∃t u,v=.iface t u/\t≠T)))/\k p b w
def wantOf:TypeDesc->Option (Array (String×TypeId))
 |.interface want=>some want
 |_=>none
def asI(P:Program)(want:Array (String×TypeId))(v:Value)(ok:Bool)(k:Bool->Pr):Pr:=λw=>
 ∃b,((b=true/\∃t u i,v=.iface t u/\P.info? t=some i/\Instr.missingMethod want i.methods=none)\/
  (ok=true/\b=false/\(v=.nilIface\/∃t u i m,v=.iface t u/\P.info? t=some i/\Instr.missingMethod want i.methods=some m)))/\k b w
def callM(P:Program)(v:Value)(name:String)(args:List Value)(shs:List Sh)(k:PayL shs->Pr):Pr:=λw=>
 ∃t u f recv,v=.iface t u/\(method (P.types.size+Made.depth) t u name).run P w=.ok (f,recv) w/\((callable P f=true/\Calls P f (#[recv]++args.toArray) w (RetT shs k))\/
  ∃p w',(callFunc f (#[recv]++args.toArray)).run P w=.ok (.value (valR shs p)) w'/\k p w')
def cop(P:Program)(o:Oper)(e:Env)(k:EV->Pr):Pr:=
 match o.op with
 |.move x|.assign x=>nd (Env.ev e x) λ_=>k (Env.ev e x)
 |.pick c a b=>cpick e c a b k
 |.alloc t=>opt (zeroOf P t) λz=>nwT P t z k
 |.box t x=>nd (Env.ev e x) λv=>nwT P t v k
 |.build t parts=>opt (zeroOf P t) λz=>ndParts e parts.toList λps=>
   opt (P.underlying t) λd=>match d with
    |.struct fs=>opt (placesOf P fs.toList) λpl=>fillC (λj=>match fs[j]?with|some fl=>isAggT P fl.type|none=>false) (pl[·]?) z.cells.toList ps λcs=>k (.val (.agg cs.toArray))
    |.array _ el=>opt (P.info? el) λi=>fillC (λ_=>isAggT P el) (λj=>some (j*i.size,i.size)) z.cells.toList ps λcs=>k (.val (.agg cs.toArray))
    |_=>fls
 |.buildSlice t len parts=>ndParts e parts.toList λps=>
   opt (sliceElem P t) λel=>opt (P.info? el) λi=>opt i.zero λz=>cnd (z.cells.size=i.size/\i.size≠0/\len*i.size<=2^24)
    (fillC (λ_=>isAggT P el) (λj=>some (j*i.size,i.size)) (zc z.cells.toList len) ps λcs=>
      nw (.cells cs.toArray el) λr=>k (.val (.slice (some ⟨r,0,none⟩) len len)))
 |.load t a=>nd (Env.ev e a) λp=>asPtr p λad=>ldT P t ad λv=>k (.val v)
 |.store t a x=>nd (Env.ev e a) λp=>asPtr p λad=>nd (Env.ev e x) λv=>stT P t ad v (k .no)
 |.nilCheck x=>nd (Env.ev e x) λv=>match v with
   |.pointer p=>deref p λad=>k (.val (.pointer (some ad)))
   |.func fn a b=>owe (okFn (.func fn a b)) (k (.val (.func fn a b)))
   |.int _ _|.bool _|.string _|.nilIface|.slice _ _ _|.map _=>fls
   |v=>owe (okFn v) (k (.val v))
 |.binOp op t x y _=>tf (nilOp y&&ifcT P t) (nd (Env.ev e x) λu=>eqOp op λneg=>owe (isI u) (k (.val (.bool (if neg then !isNilI u else isNilI u)))))<|nd (Env.ev e x) λu=>nd (Env.ev e y) λv=>tf (ifcT P t) (eqOp op λneg=>ceqI P u v λb=>k (.val (.bool (if neg then !b else b))))<|tf (ptr2 P t x y) (eqOp op λneg=>ptrA u v λb=>k (.val (.bool (if neg then !b else b))))<|tf (numStr v u) (cbin op u v k)
   (eqOp op λneg=>ceqA P t u v λb=>k (.val (.bool (if neg then !b else b))))
 |.unOp op _ x=>cun op (Env.ev e x) k
 |.convert s d x=>nd (Env.ev e x) λv=>cconv P s d v k
 |.makeFunc fn first caps=>ndL (first.toList.map (Env.ev e)) λfs=>ndL (caps.toList.map (Env.ev e)) λcs=>k (.val (.func fn fs.toArray cs.toArray))
 |.makeMap _ none=>nw (.map #[] 0) λr=>k (.val (.map (some r)))
 |.makeSlice t l c=>opt (sliceElem P t) λel=>opt (P.info? el) λi=>opt i.zero λz=>cnd (z.cells.size=i.size/\i.size≠0)
   (nd (Env.ev e l) λlv=>asIntE lv λln=>nd (Env.ev e c) λcv=>asIntE cv λcn=>mkS el i.bytes z.cells.toList ln cn λs=>k (.val (.slice s.a s.len s.cap)))
 |.slice t x lo hi mx=>nd (Env.ev e x) λv=>ndO (lo.map (Env.ev e)) λl=>ndO (hi.map (Env.ev e)) λh=>ndO (mx.map (Env.ev e)) λm=>match v with
   |.slice a ln c=>opt (sliceElem P t) λel=>opt (P.info? el) λi=>slc i.size ⟨a,ln,c⟩ l h m λs=>k (.val (.slice s.a s.len s.cap))
   |.string s=>opt (P.underlying t) λd=>match d,m with|.string,none=>slcStr s l h λr=>k (.val (.string r))|_,_=>fls
   |_=>fls
 |.fieldAddr s x f=>nd (Env.ev e x) λp=>asPtr p λad=>opt (fieldOf P s f) λfl=>opt (P.info? fl.type) λi=>cnd (i.size≠0) (k (.val (.pointer (some (ad.add fl.offset)))))
 |.field s x f=>nd (Env.ev e x) λv=>asAggE v λcs=>opt (fieldOf P s f) λfl=>opt (P.info? fl.type) λi=>opt (P.underlying fl.type) λ_=>
   tf (isAggT P fl.type) (k (.val (.agg (cs.extract fl.offset (fl.offset+i.size))))) (opt (cs[fl.offset]?) λc=>k (.val c))
 |.indexAddr t x ix=>nd (Env.ev e x) λv=>nd (Env.ev e ix) λiv=>asIntE iv λn=>match v with
   |.slice a ln _=>opt (sliceElem P t) λel=>opt (P.info? el) λi=>owe (0<=n/\n<(ln:Int)) (deref a λad=>k (.val (.pointer (some (ad.add (n.toNat*i.size))))))
   |.pointer p=>opt (P.underlying t) λd=>match d with
     |.array ln el=>opt (P.info? el) λi=>owe (0<=n/\n<(ln:Int)) (deref p λad=>k (.val (.pointer (some (ad.add (n.toNat*i.size))))))
     |_=>fls
   |_=>fls
 |.index t x ix=>nd (Env.ev e x) λv=>nd (Env.ev e ix) λiv=>asIntE iv λn=>match v with
   |.string s=>opt (P.underlying t) λd=>match d with|.string=>owe (0<=n/\n<(s.size:Int)) (k (.val (.int .u8 ((s[n.toNat]?).getD 0).toNat)))|_=>fls
   |_=>fls
 |.lookup t x ix ok=>nd (Env.ev e x) λv=>nd (Env.ev e ix) λkey=>asMap v λr=>opt (mapElem P t) λke=>opt (P.underlying ke.1) λkd=>tf (simpleKey kd)
   (opt (cellsFuel P 1 ke.2) λl=>opt (one? l) λsh=>opt (zeroOf P ke.2) λz=>mapAt kd r key sh z λp b=>tf ok (k (.val (.tuple #[valC sh p,.bool b]))) (k (.val (valC sh p)))) fls
 |.mapUpdate t m ky x=>nd (Env.ev e m) λmv=>nd (Env.ev e ky) λkey=>nd (Env.ev e x) λv=>asMap mv λr=>opt (mapElem P t) λke=>opt (P.underlying ke.1) λkd=>tf (simpleKey kd)
   (mapPut kd r key v (k .no)) fls
 |.extract t ix=>cext P o.type (Env.ev e t) ix k
 |.range t x=>nd (Env.ev e x) λv=>tf (isStrT P t) (asStr v λs=>srange s λb=>k (.val (.pointer (some ⟨b,0,none⟩)))) (asMap v λr=>opt (mapElem P t) λ_=>mrange r λb=>k (.val (.pointer (some ⟨b,0,none⟩))))
 |.next it str=>nd (Env.ev e it) λv=>asPtr v λad=>tf str (snext ad (k .nx0) λi c=>k (.nx1 (.int .i64 (i:Nat)) (.int .i32 (c:Nat)))) (mnext ad (k .nx0) λen=>k (.nx1 en.key en.val))
 |.entry it=>nd (Env.ev e it) λv=>asPtr v λad=>mentry ad λen=>k (.ent en.key en.val)
 |.makeInterface t x=>nd (Env.ev e x) λv=>opt (P.underlying t) λd=>tf (isIfc d) fls (k (.val (.iface t v)))
 |.typeAssert x _ T ok=>nd (Env.ev e x) λv=>opt (P.underlying T) λd=>tf (isIfc d) (opt (wantOf d) λwant=>opt (zeroOf P T) λz=>asI P want v ok λb=>tf ok (k (.val (.tuple #[if b=true then v else z,.bool b]))) (k (.val v)))
   (opt (shOf P T) λsh=>opt (zeroOf P T) λz=>
   asT T sh z v ok λp b=>tf ok (k (.val (.tuple #[val sh p,.bool b]))) (k (.val (val sh p))))
 |.call c=>ndL (c.args.toList.map (Env.ev e)) λargs=>match c.callee with
   |.value (.func f)=>opt (retShs P o.type) λshs=>tf (callable P f) (callF P f args shs λp=>k (.val (valR shs p))) (callE P f args shs λp=>k (.val (valR shs p)))
   |.value x=>nd (Env.ev e x) λfv=>opt (retShs P o.type) λshs=>callV P fv args shs λp=>k (.val (valR shs p))
   |.builtin b=>cbuiltin P b c.argTypes.toList args k
   |.invoke x name=>nd (Env.ev e x) λrv=>opt (retShs P o.type) λshs=>callM P rv name args shs λp=>k (.val (valR shs p))
 |_=>fls
def opCallee:Op->Option (FuncId×Array Operand)
 |.call ⟨.value (.func f),args,_⟩=>some (f,args)
 |_=>none
def opPanic:Op->Option (Array Operand)
 |.call ⟨.builtin .panic,args,_⟩=>some args
 |.panic x=>some #[x]
 |_=>none
def ifaceL(l:List Value)(f:Value->Pr):Pr:=
 match l with
 |[.iface t v]=>f (.iface t v)
 |_=>fls
theorem ifaceL_sound{l:List Value}{f:Value->Pr}{w:World}(h:ifaceL l f w):∃t v,l=[.iface t v]/\f (.iface t v) w:=by
 unfold ifaceL at h
 match l,h with
 |[.iface t v],h=>exact⟨t,v,rfl,h⟩
def copK(P:Program)(kp:Option (List PanicEntry->Pr))(o:Oper)(e:Env)(k:EV->Pr):Pr:=
 match kp with
 |none=>cop P o e k
 |some q=>
  orElse (opCallee o.op) (λx=>ndL (x.2.toList.map (Env.ev e)) λargs=>
   opt (retShs P o.type) λshs=>tf (callable P x.1) (callFP P q x.1 args shs λp=>k (.val (valR shs p))) (callE P x.1 args shs λp=>k (.val (valR shs p))))
   (orElse (opPanic o.op) (λargs=>ndL (args.toList.map (Env.ev e)) λargs=>ifaceL args λv=>q [{v:=v,recovered:=false}])
     (cop P o e k))
def kpH(kp:Option (List PanicEntry->Pr))(ch:List PanicEntry):Pr:=
 match kp with
 |none=>fls
 |some q=>q ch
def wf(r:Option Nat):Fence:={Fence.wide with round:=r}
theorem callsIn_wf{r:Option Nat}{n:Nat}{P:Program}{f:FuncId}{args:Array Value}{w:World}{R:Ending->World->Prop}:
 CallsIn (wf r) n P f args w R↔Calls P f args w R:=callsIn_wide (n:=n)
def Good(x:EV)(v:Value):Prop:=∀u,x.v? =some u->u=v
theorem Good.val(v:Value):Good (.val v) v:=λu h=>by simpa[EV.v?]using h.symm
def NX(k:EV->Pr):Next->World->Prop
 |.value v,w'=>∃x,Good x v/\k x w'
 |.skip,w'=>k .no w'
 |_,_=>False
section
variable{P:Program}{e:Env}{a:Act}{w:World}{k:EV->Pr}
theorem RT.value{s:Sem Value}(h:RT P s w λv w'=>∃x,Good x v/\k x w'):RT P (do Pure.pure (Next.value (<-s))) w (NX k):=
 .bind (h.mono λ_ _ h=>.pure h)
theorem RT.value'{s:Sem Value}(h:RT P s w λv w'=>k (.val v) w'):RT P (do Pure.pure (Next.value (<-s))) w (NX k):=
 .value (h.mono λv _ h=>⟨_,Good.val v,h⟩)
theorem RT.skip{s:Sem Unit}(h:RT P s w λ_ w'=>k .no w'):RT P (do s;Pure.pure Next.skip) w (NX k):=
 .bind (h.mono λ_ _ h=>.pure h)
theorem ndEv(he:Ag e a){x:Operand}{f:Value->Pr}(h:nd (Env.ev e x) f w):f (a.eval x) w:=by
 obtain⟨v,hv,h⟩:=nd_sound h;rw[he.eval hv];exact h
theorem ndEvK(he:Ag e a){x:Operand}{k:EV->Pr}(h:nd (Env.ev e x) (λ_=>k (Env.ev e x)) w):∃y,Good y (a.eval x)/\k y w:=by
 obtain⟨v,hv,h⟩:=nd_sound h;exact⟨_,λu hu=>by rw[hv]at hu;simp only[Option.some.injEq]at hu;rw[<-hu,he.eval hv],h⟩
theorem ndL_sound(he:Ag e a):∀{l:List Operand} {f:List Value->Pr},ndL (l.map (Env.ev e)) f w->f (l.map a.eval) w
 |[],_,h=>h
 |x::l,_,h=>by
  have h1:=ndEv he (x:=x) h;exact ndL_sound he (l:=l) h1
theorem ndParts_sound(he:Ag e a):∀{l:List (Nat×Operand)} {f:List (Nat×Value)->Pr},ndParts e l f w->f (l.map λ(i,x)=>(i,a.eval x)) w
 |[],_,h=>h
 |(i,x)::l,_,h=>by
  have h1:=ndEv he (x:=x) h;exact ndParts_sound he (l:=l) h1
theorem run_pick(he:Ag e a){c x y:Operand}(h:cpick e c x y k w):
 RT P (do Pure.pure (Next.value (if<-asBool (a.eval c)then a.eval x else a.eval y))) w (NX k):=by
 obtain⟨b,hb,h⟩:=cbr_sound h;rw[he.eval (x:=c) hb];rcases h with⟨rfl,h⟩|⟨rfl,h⟩
 ·exact⟨_,w,rfl,ndEvK he h⟩
 ·exact⟨_,w,rfl,ndEvK he h⟩
theorem zeroOf_sound{t:TypeId}{z:Value}(h:zeroOf P t=some z){Q:Value->World->Prop}(hq:Q z w):RT P (zeroValue t) w Q:=by
 unfold zeroOf at h;split at h
 ·rename_i i hi;exact .zeroValue hi h hq
 ·simp at h
theorem sliceElem_sound{t el:TypeId}(h:sliceElem P t=some el):P.underlying t=some (.slice el):=by
 unfold sliceElem at h;split at h
 ·rename_i e he;simp at h;rw[he,h]
 ·simp at h
theorem mapElem_sound{t:TypeId}{ke:TypeId×TypeId}(h:mapElem P t=some ke):P.underlying t=some (.map ke.1 ke.2):=by
 unfold mapElem at h;split at h
 ·rename_i e he;simp at h;rw[he,<-h]
 ·simp at h
theorem fieldOf_sound{t:TypeId}{j:Nat}{f:Field}(h:fieldOf P t j=some f):∃fs,P.underlying t=some (.struct fs)/\fs[j]? =some f:=by
 unfold fieldOf at h;split at h
 ·rename_i fs hfs;exact⟨fs,hfs,h⟩
 ·simp at h
theorem splice_eq(off:Nat):∀(vs:List Value) (cells:List Value) (j:Nat),off+j+vs.length<=cells.length->
 (vs.zipIdx j).foldl (λ(cs:Array Value) (x:Value×Nat)=>cs.setIfInBounds (off+x.2) x.1) cells.toArray=(cells.take (off+j)++vs++cells.drop (off+j+vs.length)).toArray
 |[],cells,j,_=>by simp
 |v::vs,cells,j,h=>by
  simp only[List.length_cons]at h;simp only[List.zipIdx_cons,List.foldl_cons,List.setIfInBounds_toArray];rw[splice_eq off vs (cells.set (off+j) v) (j+1) (by simp;omega)]
  congr 1
  have h1:(cells.set (off+j) v).take (off+(j+1))=cells.take (off+j)++[v]:=by
   rw[<-Nat.add_assoc,List.take_add_one];simp[List.take_set_of_le,show off+j<cells.length by omega]
  have h2:(cells.set (off+j) v).drop (off+(j+1)+vs.length)=cells.drop (off+j+(vs.length+1)):=by
   rw[List.drop_set_of_lt (by omega)]
   congr 1;omega
  rw[h1,h2];simp
theorem splice_eq'(off:Nat)(vs:Array Value)(cells:List Value)(h:off+vs.size<=cells.length):
 vs.zipIdx.foldl (λ(cs:Array Value) (x:Value×Nat)=>cs.setIfInBounds (off+x.2) x.1) cells.toArray=(cells.take off++vs.toList++cells.drop (off+vs.size)).toArray:=by
 rw[<-Array.foldl_toList,Array.toList_zipIdx];have:=splice_eq off vs.toList cells 0 (by simpa using h);simpa using this
theorem fillL_sound{place:Nat->Option (Nat×Nat)}:∀{ps:List (Nat×Value)} {cells out:List Value},fillL place cells ps=some out->Instr.fill place cells.toArray ps=some out.toArray
 |[],_,_,h=>by simp only[fillL,Option.some.injEq]at h;rw[h];rfl
 |(i,v)::ps,cells,out,h=>by
  simp only[fillL]at h;unfold Instr.fill;cases hp:place i with
  |none=>simp[hp]at h
  |some os=>
   obtain⟨off,size⟩:=os;simp only[hp]at h⊢;have one:∀v:Value,v.cells= #[v]->(if size=1/\off+1<=cells.length then fillL place (cells.set off v) ps else none)=some out->
    (if v.cells.size≠size||off+v.cells.size>cells.toArray.size then none
      else Instr.fill place (v.cells.zipIdx.foldl (λcs (c,j)=>cs.setIfInBounds (off+j) c) cells.toArray) ps)=some out.toArray:=by
    clear h;intro v hv h9;by_cases hc:size=1/\off+1<=cells.length
    ·rw[if_pos hc]at h9
     rw[hv];obtain⟨rfl,h2⟩:=hc;have hn:¬(off+1>cells.length):=by omega
     have:=fillL_sound h9;simp[hn,this]
    ·rw[if_neg hc]at h9;simp at h9
   cases v with
   |agg cs=>
    simp only[Value.cells]at h⊢;by_cases hc:cs.size=size/\off+size<=cells.length
    ·rw[if_pos hc]at h
     obtain⟨rfl,h2⟩:=hc;have hn:¬(off+cs.size>cells.length):=by omega
     have h3:=fillL_sound h;have h4:=splice_eq' off cs cells h2;simp only[ne_eq,not_true_eq_false,decide_false,List.size_toArray,hn,Bool.or_self,Bool.false_eq_true,if_false];rw[h4];exact h3
    ·rw[if_neg hc]at h;simp at h
   |_=>exact one _ rfl h
theorem places_sound:∀{l:List Field} {pl:List (Nat×Nat)} {Q:List (Nat×Nat)->World->Prop},placesOf P l=some pl->Q pl w->
 RT P (l.mapM λf=>do Pure.pure (f.offset,<-sizeOf f.type)) w Q
 |[],pl,Q,h,hq=>by
  simp only[placesOf,Option.some.injEq]at h;simp only[List.mapM_nil];exact .pure (h▸hq)
 |f::l,pl,Q,h,hq=>by
  simp only[placesOf]at h;cases hi:P.info? f.type with
  |none=>simp[hi]at h
  |some i=>
   cases hr:placesOf P l with
   |none=>simp[hi,hr]at h
   |some r=>
    simp only[hi,hr,Option.some.injEq]at h;simp only[List.mapM_cons];refine .bind (.bind (.sizeOf hi (.pure (.bind (places_sound hr (.pure ?_))))));exact h▸hq
theorem zc_eq(z:List Value)(n m:Nat)(hm:z.length=m):(Array.range (n*m)).map (λi=>z.toArray[i%m]!)=(zc z n).toArray:=by
 subst hm;apply Array.ext';simp only[Array.toList_map,Array.toList_range]
 induction n with
 |zero=>simp[zc]
 |succ n ih=>
  unfold zc at ih⊢;rw[Nat.succ_mul,List.range_add,List.map_append,ih,List.replicate_succ',List.flatten_append];simp only[List.flatten_cons,List.flatten_nil,List.append_nil,List.map_map]
  congr 1
  apply List.ext_getElem (by simp);intro i h1 h2;simp only[List.length_map,List.length_range]at h1;simp[Nat.mul_add_mod,Nat.mod_eq_of_lt h1,h1,getElem!_pos,Nat.add_mul_mod_self_left,Nat.mul_comm n]
end
section
variable{P:Program}{w:World}
theorem RT.sliceBound{n:Int}{k:IntKind}{y:Nat}{c:BoundsCode}{Q:Nat->World->Prop}(h:0<=n/\n<=(y:Int))(hq:Q n.toNat w):RT P (Instr.sliceBound (.int k n) y c) w Q:=by
 unfold Instr.sliceBound;refine .bind (.pure ?_);simp only[h.1,h.2,and_self,if_true];exact .pure hq
theorem bounds_sound{isS:Bool}{len cap:Nat}{lo hi mx:Option Int}{k1 k2 k3:IntKind}{Q:Nat×Nat×Nat->World->Prop}
 (h1:∀m,mx=some m->0<=m/\m<=(cap:Int))(h2:mx.isSome=true->hi.isSome=true)
 (h3:∀h,hi=some h->0<=h/\h<=((mx.map Int.toNat).getD cap:Int))
 (h4:∀l,lo=some l->0<=l/\l<=((hi.map Int.toNat).getD len:Int))
 (hq:Q ((lo.map Int.toNat).getD 0,(hi.map Int.toNat).getD len,(mx.map Int.toNat).getD cap) w):
 RT P (Instr.sliceBounds isS len cap (lo.map (.int k1)) (hi.map (.int k2)) (mx.map (.int k3))) w Q:=by
 unfold Instr.sliceBounds;cases mx with
 |none=>
  simp only[Option.map_none,Option.getD_none]at *;refine .bind (.pure ?_);cases hi with
  |none=>
   simp only[Option.map_none,Option.getD_none]at *;refine .bind (.pure ?_);cases lo with
   |none=>simp only[Option.map_none,Option.getD_none]at *;exact .bind (.pure (.pure hq))
   |some l=>simp only[Option.map_some,Option.getD_some]at *;exact .bind (.sliceBound (h4 l rfl) (.pure hq))
  |some h=>
   simp only[Option.map_some,Option.getD_some]at *;refine .bind (.sliceBound (h3 h rfl) ?_);cases lo with
   |none=>simp only[Option.map_none,Option.getD_none]at *;exact .bind (.pure (.pure hq))
   |some l=>simp only[Option.map_some,Option.getD_some]at *;exact .bind (.sliceBound (h4 l rfl) (.pure hq))
 |some m=>
  simp only[Option.map_some,Option.getD_some]at *;refine .bind (.sliceBound (h1 m rfl) ?_);cases hi with
  |none=>simp at h2
  |some h=>
   simp only[Option.map_some,Option.getD_some]at *;refine .bind (.sliceBound (h3 h rfl) ?_);cases lo with
   |none=>simp only[Option.map_none,Option.getD_none]at *;exact .bind (.pure (.pure hq))
   |some l=>simp only[Option.map_some,Option.getD_some]at *;exact .bind (.sliceBound (h4 l rfl) (.pure hq))
theorem run_sliceAt{t el:TypeId}{i:TypeInfo}{s:Sl}{lo hi mx:Option Int}{k1 k2 k3:IntKind}{k:Sl->Pr}{Q:Value->World->Prop}(ht:P.underlying t=some (.slice el))(hi':P.info? el=some i)
 (h:slc i.size s lo hi mx k w)(hq:∀s,k s w->Q (.slice s.a s.len s.cap) w):
 RT P (Instr.sliceAt t (.slice s.a s.len s.cap) (lo.map (.int k1)) (hi.map (.int k2)) (mx.map (.int k3))) w Q:=by
 obtain⟨h1,h2,h3,h4,h5⟩:=h;unfold Instr.sliceAt;refine .bind (.underlying ht ?_);unfold Instr.slice;refine .bind (.underlying ht ?_);simp only;exact .bind (bounds_sound h1 h2 h3 h4 (.bind (.sizeOf hi' (.pure (hq _ h5)))))
theorem run_sliceStr{t:TypeId}{s:ByteArray}{lo hi:Option Int}{k1 k2:IntKind}{k:ByteArray->Pr}{Q:Value->World->Prop}(ht:P.underlying t=some .string)
 (h:slcStr s lo hi k w)(hq:∀s,k s w->Q (.string s) w):
 RT P (Instr.sliceAt t (.string s) (lo.map (.int k1)) (hi.map (.int k2)) none) w Q:=by
 obtain⟨h3,h4,h5⟩:=h;unfold Instr.sliceAt;refine .bind (.underlying ht ?_);unfold Instr.slice;refine .bind (.underlying ht ?_);simp only[Option.isSome_none,Bool.false_eq_true,if_false];exact .bind (bounds_sound (mx:=none) (k3:=.i64) (by simp) (by simp) (by simpa using h3) h4 (.pure (hq _ h5)))
theorem run_firstCells{size n:Nat}{a:Option Addr}{l c:Nat}{vs:List Value}{Q:Array Value->World->Prop}(hl:a.isSome=true->vs.length=n*size)(hr:readsO w a vs)(hq:Q vs.toArray w):
 RT P (Builtin.firstCells size n (.slice a l c)) w Q:=by
 cases a with
 |none=>
  obtain rfl:vs=[]:=hr;exact .pure hq
 |some b=>exact .loadCells (hl rfl) hr hq
theorem run_copy{t el:TypeId}{i:TypeInfo}{ts:Array TypeId}{ty:TypeId}{d s:Sl}{k:Pr}{Q:Value->World->Prop}(h0:ts[0]? =some t)(ht:P.underlying t=some (.slice el))(hi:P.info? el=some i)
 (h:cpy i.size d s k w)(hq:∀w',k w'->Q (.int .i64 (Nat.min s.len d.len:Nat)) w'):
 RT P (Builtin.copy_ ts ty #[.slice d.a d.len d.cap,.slice s.a s.len s.cap]) w Q:=by
 obtain⟨vs,hl,hr,hs⟩:=h;unfold Builtin.copy_;simp only[h0,List.getElem?_toArray,List.getElem?_cons_zero,List.getElem?_cons_succ];refine .bind (.underlying ht ?_);refine .bind (.pure ?_);refine .bind (.sizeOf hi ?_);refine .bind (run_firstCells hl hr ?_);cases hd:d.a with
 |none=>
  simp only[hd]at hs⊢;exact .pure (hq _ hs)
 |some b=>
  rw[hd]at hs;simp only;refine .bind (.storeCells (l:=vs) (i:=0) (a:=b) (f:=k) (by simpa[stO,Addr.add]using hs) λ_ h=>.pure (hq _ h))
theorem zeroCells_eq(z:List Value)(n:Nat):Builtin.zeroCells z.toArray n=(zc z n).toArray:=by
 unfold Builtin.zeroCells;simpa using zc_eq z n z.length rfl
theorem readsAt_drew{a:Addr}:∀{l:List Value} {i:Nat},readsAt w a i l->readsAt w.drew a i l
 |[],_,_=>trivial
 |_::_,_,h=>⟨h.1,readsAt_drew h.2⟩
theorem readsO_drew{a:Option Addr}{l:List Value}(h:readsO w a l):readsO w.drew a l:=by
 cases a with
 |none=>exact h
 |some b=>exact readsAt_drew h
theorem RT.pure_eq{α:Type}{a b:α}{Q:α->World->Prop}(h:a=b)(hq:Q b w):RT P (Pure.pure a) w Q:=⟨b,w,by rw[h];rfl,hq⟩
theorem run_append{t t2 el:TypeId}{d2:TypeDesc}{i:TypeInfo}{z:Value}{ts:Array TypeId}{ty:TypeId}{s x:Sl}{k:Sl->Pr}{Q:Value->World->Prop}(h0:ts[0]? =some t)(h1:ts[1]? =some t2)(h2:P.underlying t2=some d2)
 (h3:isIntT P t2=false)(ht:P.underlying t=some (.slice el))(hi:P.info? el=some i)(hz:i.zero=some z)(hzs:z.cells.size=i.size)
 (h:app el i.size i.bytes z.cells.toList s x k w)(hq:∀s w',k s w'->Q (.slice s.a s.len s.cap) w'):
 RT P (Builtin.append_ ts ty #[.slice s.a s.len s.cap,.slice x.a x.len x.cap]) w Q:=by
 obtain⟨new,hl,hr,hA,hB⟩:=h;unfold Builtin.append_;simp only[h0,h1,List.getElem?_toArray,List.getElem?_cons_zero,List.getElem?_cons_succ];refine .bind (.underlying ht ?_);refine .bind (.sizeOf hi ?_);refine .bind (.underlying h2 (.bind (RT.pure_eq (b:=false) (by cases d2<;>simp_all[isIntT]) ?_)));simp only[Bool.false_eq_true,if_false,Bool.not_false,if_true];refine .bind (.pure ?_);by_cases hc:s.len+x.len<=s.cap
 ·rw[if_pos hc]
  refine .bind (run_firstCells hl hr ?_);have hs:=hA hc;cases hd:s.a with
  |none=>
   simp only[hd]at hs⊢;have:=hq _ _ hs;exact .pure this
  |some b=>
   rw[hd]at hs;simp only;refine .bind (.storeCells (l:=new) (i:=0) hs λ_ h=>?_);have:=hq _ _ h;exact .pure this
 ·rw[if_neg hc]
  obtain⟨old,hol,hor,hb0,hcap,hneed,hk⟩:=hB (by omega);have hn:¬((s.len+x.len:Nat):Int)>IntKind.i64.max:=by
   simp only[IntKind.max,IntKind.signed,IntKind.bits];simp;omega
  refine .bind (.typeInfo hi ?_);rw[if_neg (λh=>hn h.1)];refine .bind (.typeInfo hi ?_);rw[if_neg (Nat.not_lt.2 hcap)];refine .bind ⟨_,_,by rw[run_choose];simp only[Question.forced,Bool.false_eq_true,if_false];rfl,?_⟩;simp only[Question.cut];generalize htk:w.tape w.drawn (Question.appendCap (s.len+x.len) s.cap el)%(2^63-(s.len+x.len))=tk;have htk':tk<2^63-(s.len+x.len):=by rw[<-htk];exact Nat.mod_lt _ (by omega)
  have hk':=hk (s.len+x.len+tk) (by omega) (by omega);refine .bind (.typeInfo hi (.bind ⟨(),_,run_askRoom _ _ _,?_⟩));refine .bind (run_firstCells (w:=w.drew) hol (readsO_drew hor) (.bind (run_firstCells (w:=w.drew) hl (readsO_drew hr) (.bind (.zeroValue hi hz ?_)))));have hzc:=zeroCells_eq z.cells.toList (s.len+x.len+tk-(s.len+x.len));simp only[Array.toArray_toList]at hzc;rw[hzc];refine .bind (.bind (.newObj (.pure (.pure ?_))));have:=hq _ _ hk';simpa using this
theorem run_firstCellsS{n:Nat}{x:ByteArray}{Q:Array Value->World->Prop}{w:World}(hq:Q (ubL x).toArray w):RT P (Builtin.firstCells n x.size (.string x)) w Q:=by
 unfold Builtin.firstCells;refine .pure ?_;have:(x.extract 0 x.size).data.map (λb=>Value.int .u8 b.toNat)=(ubL x).toArray:=by
  unfold ubL;rw[ByteArray.data_extract];have:x.size=x.data.size:=rfl;rw[this,Array.extract_size];apply Array.ext';simp
 rw[this];exact hq
theorem run_appS{t t2 el:TypeId}{d2:TypeDesc}{i:TypeInfo}{z:Value}{ts:Array TypeId}{ty:TypeId}{s:Sl}{x:ByteArray}{k:Sl->Pr}{Q:Value->World->Prop}(h0:ts[0]? =some t)(h1:ts[1]? =some t2)(h2:P.underlying t2=some d2)
 (h3:isIntT P t2=false)(ht:P.underlying t=some (.slice el))(hi:P.info? el=some i)(hz:i.zero=some z)(hzs:z.cells.size=i.size)
 (h:appS el i.size i.bytes z.cells.toList s x k w)(hq:∀s w',k s w'->Q (.slice s.a s.len s.cap) w'):
 RT P (Builtin.append_ ts ty #[.slice s.a s.len s.cap,.string x]) w Q:=by
 obtain⟨hA,hB⟩:=h;unfold Builtin.append_;simp only[h0,h1,List.getElem?_toArray,List.getElem?_cons_zero,List.getElem?_cons_succ];refine .bind (.underlying ht ?_);refine .bind (.sizeOf hi ?_);refine .bind (.underlying h2 (.bind (RT.pure_eq (b:=false) (by cases d2<;>simp_all[isIntT]) ?_)));simp only[Bool.false_eq_true,if_false,Bool.not_false,if_true];refine .bind (.pure ?_);by_cases hc:s.len+x.size<=s.cap
 ·rw[if_pos hc]
  refine .bind (run_firstCellsS ?_);have hs:=hA hc;cases hd:s.a with
  |none=>
   simp only[hd]at hs⊢;have:=hq _ _ hs;exact .pure this
  |some b=>
   rw[hd]at hs;simp only;refine .bind (.storeCells (l:=ubL x) (i:=0) hs λ_ h=>?_);have:=hq _ _ h;exact .pure this
 ·rw[if_neg hc]
  obtain⟨old,hol,hor,hb0,hcap,hneed,hk⟩:=hB (by omega);have hn:¬((s.len+x.size:Nat):Int)>IntKind.i64.max:=by
   simp only[IntKind.max,IntKind.signed,IntKind.bits];simp;omega
  refine .bind (.typeInfo hi ?_);rw[if_neg (λh=>hn h.1)];refine .bind (.typeInfo hi ?_);rw[if_neg (Nat.not_lt.2 hcap)];refine .bind ⟨_,_,by rw[run_choose];simp only[Question.forced,Bool.false_eq_true,if_false];rfl,?_⟩;simp only[Question.cut];generalize htk:w.tape w.drawn (Question.appendCap (s.len+x.size) s.cap el)%(2^63-(s.len+x.size))=tk;have htk':tk<2^63-(s.len+x.size):=by rw[<-htk];exact Nat.mod_lt _ (by omega)
  have hk':=hk (s.len+x.size+tk) (by omega) (by omega);refine .bind (.typeInfo hi (.bind ⟨(),_,run_askRoom _ _ _,?_⟩));refine .bind (run_firstCells (w:=w.drew) hol (readsO_drew hor) (.bind (run_firstCellsS (.bind (.zeroValue hi hz ?_)))));have hzc:=zeroCells_eq z.cells.toList (s.len+x.size+tk-(s.len+x.size));simp only[Array.toArray_toList]at hzc;rw[hzc];refine .bind (.bind (.newObj (.pure (.pure ?_))));have:=hq _ _ hk';simpa using this
theorem run_appZ{t t2 el:TypeId}{kd:IntKind}{i:TypeInfo}{z:Value}{ts:Array TypeId}{ty:TypeId}{s:Sl}{kx:IntKind}{m:Int}{k:Sl->Pr}{Q:Value->World->Prop}(h0:ts[0]? =some t)(h1:ts[1]? =some t2)(h2:P.underlying t2=some (.int kd))
 (ht:P.underlying t=some (.slice el))(hi:P.info? el=some i)(hz:i.zero=some z)(hzs:z.cells.size=i.size)
 (h:appZ el i.size i.bytes z.cells.toList s m k w)(hq:∀s w',k s w'->Q (.slice s.a s.len s.cap) w'):
 RT P (Builtin.append_ ts ty #[.slice s.a s.len s.cap,.int kx m]) w Q:=by
 obtain⟨hm0,hmb,hmw,hA,hB⟩:=h;unfold Builtin.append_;simp only[h0,h1,List.getElem?_toArray,List.getElem?_cons_zero,List.getElem?_cons_succ];refine .bind (.underlying ht ?_);refine .bind (.sizeOf hi ?_);refine .bind (.underlying h2 (.bind (RT.pure_eq (b:=true) rfl ?_)));rw[if_pos rfl];have happ:∀(w:World) (Q:Array Value->World->Prop),Q (zc z.cells.toList m.toNat).toArray w->
  RT P (if(!true)=true then Builtin.firstCells i.size m.toNat (Value.int kx m)else if m.toNat*i.size=0 then Pure.pure #[]else do Pure.pure (Builtin.zeroCells (<-zeroValue el).cells m.toNat)) w Q:=by
  intro w Q h;rw[if_neg (by simp)];have hzc:=zeroCells_eq z.cells.toList m.toNat;simp only[Array.toArray_toList]at hzc;by_cases h9:m.toNat*i.size=0
  ·rw[if_pos h9]
   have:zc z.cells.toList m.toNat=[]:=by
    apply List.eq_nil_of_length_eq_zero;simp[zc,hzs,h9]
   rw[this]at h;exact .pure h
  ·rw[if_neg h9]
   refine .bind (.zeroValue hi hz (.pure ?_));rw[hzc];exact h
 refine RT.bind (RT.pure ?_);rw[hmw,if_neg (by omega)];refine .bind (.typeInfo hi ?_);rw[if_neg (by omega)];refine RT.bind (RT.pure ?_);by_cases hc:s.len+m.toNat<=s.cap
 ·rw[if_pos hc]
  refine .bind (happ _ _ ?_);have hs:=hA hc;cases hd:s.a with
  |none=>
   simp only[hd]at hs⊢;have:=hq _ _ hs;exact .pure this
  |some b=>
   rw[hd]at hs;simp only;refine .bind (.storeCells (l:=zc z.cells.toList m.toNat) (i:=0) hs λ_ h=>?_);have:=hq _ _ h;exact .pure this
 ·rw[if_neg hc]
  obtain⟨old,hol,hor,hcap,hneed,hk⟩:=hB (by omega);have hn:¬((s.len+m.toNat:Nat):Int)>IntKind.i64.max:=by
   simp only[IntKind.max,IntKind.signed,IntKind.bits];simp;omega
  refine .bind (.typeInfo hi ?_);rw[if_neg (λh=>hn h.1)];refine .bind (.typeInfo hi ?_);rw[if_neg (Nat.not_lt.2 hcap)];refine .bind ⟨_,_,by rw[run_choose];simp only[Question.forced,Bool.false_eq_true,if_false];rfl,?_⟩;simp only[Question.cut];generalize htk:w.tape w.drawn (Question.appendCap (s.len+m.toNat) s.cap el)%(2^63-(s.len+m.toNat))=tk;have htk':tk<2^63-(s.len+m.toNat):=by rw[<-htk];exact Nat.mod_lt _ (by omega)
  have hk':=hk (s.len+m.toNat+tk) (by omega) (by omega);refine .bind (.typeInfo hi (.bind ⟨(),_,run_askRoom _ _ _,?_⟩));refine .bind (run_firstCells (w:=w.drew) hol (readsO_drew hor) (.bind (happ _ _ (.bind (.zeroValue hi hz ?_)))));have hzc:=zeroCells_eq z.cells.toList (s.len+m.toNat+tk-(s.len+m.toNat));simp only[Array.toArray_toList]at hzc;rw[hzc];refine .bind (.bind (.newObj (.pure (.pure ?_))));have:=hq _ _ hk';simpa using this
end
section
variable{P:Program}{w:World}
theorem run_mkS{t el:TypeId}{i:TypeInfo}{z:Value}{l c:Int}{k1 k2:IntKind}{k:Sl->Pr}{Q:Value->World->Prop}(ht:P.underlying t=some (.slice el))(hi:P.info? el=some i)
 (hz:i.zero=some z)(hzs:z.cells.size=i.size)(hz0:i.size≠0)
 (h:mkS el i.bytes z.cells.toList l c k w)(hq:∀s w',k s w'->Q (.slice s.a s.len s.cap) w'):
 RT P (Instr.makeSlice t (.int k1 l) (.int k2 c)) w Q:=by
 obtain⟨h1,h2,h3,h4,h5⟩:=h;have hwl:IntKind.i64.wrap l=l:=by simp[IntKind.wrap,IntKind.signed,IntKind.bits,Int.bmod_eq_of_le];omega
 have hwc:IntKind.i64.wrap c=c:=by simp[IntKind.wrap,IntKind.signed,IntKind.bits,Int.bmod_eq_of_le];omega
 unfold Instr.makeSlice;refine .bind (.underlying ht ?_);simp only[asInt,asIntOf,pure_bind];refine .bind (.typeInfo hi ?_);rw[hwl,hwc];have hc:¬((decide (c<0\/(i.bytes:Int)*c>2^48)=true\/l<0)\/l>c):=by
  simp;omega
 simp only[Bool.or_eq_true,decide_eq_true_eq];rw[if_neg (by simpa using hc)];refine .bind ⟨(),_,run_askRoom _ _ _,.bind (.sizeOf hi ?_)⟩;by_cases h0:c.toNat*i.size=0
 ·rw[if_pos h0]
  have hc0:c.toNat=0:=(Nat.mul_eq_zero.1 h0).resolve_right hz0;have he:(zc z.cells.toList c.toNat).toArray= #[]:=by simp[hc0,zc]
  rw[he]at h5;have e0:∀g:Nat->Value,Array.map g (Array.range 0)= #[]:=λ_=>by simp
  rw[h0,e0];exact .bind (.bind (.newObj (.pure (.pure (hq _ _ h5)))))
 ·rw[if_neg h0]
  have he:=zc_eq z.cells.toList c.toNat i.size (by simpa using hzs);simp only[Array.toArray_toList]at he;rw[<-he]at h5;refine .bind (.zeroValue hi hz ?_);rw[hzs];exact .bind (.bind (.newObj (.pure (.pure (hq _ _ h5)))))
theorem RT.getObj{r:Nat}{o:Obj}{Q:Obj->World->Prop}(h:w.heap[r]? =some o)(hc:∀c e f,o≠.cells c e f)(hq:Q o w):RT P (Go.getObj r) w Q:=by
 refine⟨o,w,?_,hq⟩;simp only[Go.getObj,Sem.run,h]
 try(cases o<;>first|rfl|exact absurd rfl (hc _ _ _))
theorem RT.setObj{r:Nat}{o o':Obj}{Q:Unit->World->Prop}(h:w.heap[r]? =some o)(hc:∀c e f,o≠.cells c e f)(hq:Q () {w with heap:=w.heap.setIfInBounds r o'}):RT P (Go.setObj r o') w Q:=by
 refine⟨(),_,?_,hq⟩;simp only[Go.setObj,Sem.run,h]
 try(cases o<;>first|rfl|exact absurd rfl (hc _ _ _))
theorem RT.checkKey{emp:Bool}{n:Nat}{t:TypeId}{d:TypeDesc}{key:Value}{Q:Unit->World->Prop}(ht:P.underlying t=some d)(hs:simpleKey d=true)(hq:Q () w):RT P (Instr.checkKey emp (n+1) t key) w Q:=by
 unfold Instr.checkKey;refine .bind (.underlying ht ?_);cases d<;>simp only[simpleKey,Bool.false_eq_true]at hs<;>exact .pure hq
theorem RT.findKey{t:TypeId}{d:TypeDesc}{key:Value}{es:List MapEntry}{res:Option (Nat×Value)}{Q:Option (Nat×Value)->World->Prop}(ht:P.underlying t=some d)
 (hf:Instr.findNow d key es 0=some res)(hq:Q res w):RT P (Instr.findKey t key es) w Q:=by
 unfold Instr.findKey;refine .bind (.underlying ht ?_);rw[hf];exact .pure hq
theorem run_lookup{t:TypeId}{ke:TypeId×TypeId}{kd:TypeDesc}{r:Option Nat}{key zero:Value}{sh:CS}{ok:Bool}{k:PayC sh->Bool->Pr}{Q:Value->World->Prop}
 (ht:P.underlying t=some (.map ke.1 ke.2))(hk:P.underlying ke.1=some kd)(hs:simpleKey kd=true)(hz:zeroOf P ke.2=some zero)(h:mapAt kd r key sh zero k w)
 (hq:∀p b,k p b w->Q (if ok then .tuple #[valC sh p,.bool b]else valC sh p) w):RT P (Instr.lookup t (.map r) key ok) w Q:=by
 obtain⟨es,res,p,hm,hf,hv,hkk⟩:=h;unfold Instr.lookup;refine .bind (.underlying ht ?_);dsimp only;cases r with
 |none=>
  obtain rfl:es= #[]:=hm;refine .bind (.pure ?_);refine .bind (.checkKey hk hs ?_);refine .bind (.findKey hk hf ?_);cases res with
  |none=>
   simp only[Option.map_none,Option.getD_none]at hv;refine .bind (zeroOf_sound hz (.bind (.pure ?_)));rw[hv];exact .pure (hq p false (by simpa using hkk))
  |some iv=>
   simp only[Option.map_some,Option.getD_some]at hv;refine .bind (.pure ?_);simp only[hv];exact .pure (hq p true (by simpa using hkk))
 |some b=>
  obtain⟨clock,hb⟩:=hm;refine .bind (.getObj hb (by simp) (.bind (.pure ?_)));refine .bind (.checkKey hk hs ?_);refine .bind (.findKey hk hf ?_);cases res with
  |none=>
   simp only[Option.map_none,Option.getD_none]at hv;refine .bind (zeroOf_sound hz (.bind (.pure ?_)));rw[hv];exact .pure (hq p false (by simpa using hkk))
  |some iv=>
   simp only[Option.map_some,Option.getD_some]at hv;refine .bind (.pure ?_);simp only[hv];exact .pure (hq p true (by simpa using hkk))
theorem run_mapPut{t:TypeId}{ke:TypeId×TypeId}{kd:TypeDesc}{r:Option Nat}{key v:Value}{k:Pr}{Q:Unit->World->Prop}
 (ht:P.underlying t=some (.map ke.1 ke.2))(hk:P.underlying ke.1=some kd)(hs:simpleKey kd=true)(h:mapPut kd r key v k w)
 (hq:∀w',k w'->Q () w'):RT P (Instr.mapUpdate t (.map r) key v) w Q:=by
 obtain⟨b,es,clock,res,rfl,hb,hf,h⟩:=h;unfold Instr.mapUpdate;refine .bind (.underlying ht ?_);refine .bind (.getObj hb (by simp) ?_);refine .bind (.checkKey hk hs ?_);refine .bind (.findKey hk hf ?_);cases res with
 |none=>exact .setObj hb (by simp) (hq _ h)
 |some iv=>
  obtain⟨h1,h2⟩:=h;refine .bind ?_;unfold Instr.keyThatStays;rw[if_pos h1];exact .pure (.setObj hb (by simp) (hq _ h2))
theorem run_mapDel{t:TypeId}{ke:TypeId×TypeId}{kd:TypeDesc}{ts:Array TypeId}{ty:TypeId}{r:Option Nat}{key:Value}{k:Pr}{Q:Value->World->Prop}(h0:ts[0]? =some t)
 (ht:P.underlying t=some (.map ke.1 ke.2))(hk:P.underlying ke.1=some kd)(hs:simpleKey kd=true)(h:mapDel kd r key k w)
 (hq:∀w',k w'->Q (.tuple #[]) w'):RT P (Builtin.delete_ ts ty #[.map r,key]) w Q:=by
 obtain⟨b,es,clock,res,rfl,hb,hf,h⟩:=h;unfold Builtin.delete_;simp only[h0,List.getElem?_toArray,List.getElem?_cons_zero,List.getElem?_cons_succ];refine .bind (.underlying ht ?_);refine .bind (.getObj hb (by simp) ?_);refine .bind (.checkKey hk hs ?_);refine .bind (.findKey hk hf ?_);cases res with
 |none=>exact .bind (.setObj hb (by simp) (.pure (hq _ h)))
 |some iv=>exact .bind (.setObj hb (by simp) (.pure (hq _ h)))
theorem run_mapLen{t:TypeId}{ke:TypeId×TypeId}{ts:Array TypeId}{ty:TypeId}{r:Option Nat}{k:Int->Pr}{Q:Value->World->Prop}(h0:ts[0]? =some t)
 (ht:P.underlying t=some (.map ke.1 ke.2))(h:mapLen r k w)
 (hq:∀n,k n w->Q (.int .i64 n) w):RT P (Builtin.len_ ts ty #[.map r]) w Q:=by
 obtain⟨es,hm,h⟩:=h;unfold Builtin.len_;simp only[h0,List.getElem?_toArray,List.getElem?_cons_zero];refine .bind (.underlying ht ?_);cases r with
 |none=>
  obtain rfl:es= #[]:=hm;exact .pure (hq _ h)
 |some b=>
  obtain⟨clock,hb⟩:=hm;exact .bind (.getObj hb (by simp) (.pure (hq _ h)))
theorem b2s_loop(l:List Int):∀(s:ByteArray),
 RT P (forIn (m:=Sem) (l.map (Value.int .u8)).toArray s λc r=>do
  let .int .u8 n:=c|stuck "bytesToString: byte expected"
  Pure.pure (ForInStep.yield (r.push (UInt8.ofNat n.toNat)))) w (λr w'=>w'=w/\r=⟨s.data++(l.map λn=>UInt8.ofNat n.toNat).toArray⟩):=by
 induction l with
 |nil=>intro s;simp;exact .pure ⟨rfl,by simp⟩
 |cons n l ih=>
  intro s;simp only[List.map_cons,List.forIn_toArray,List.forIn_cons]at ih⊢;refine .bind (.pure ?_);refine(ih _).mono ?_;rintro r w' ⟨rfl,rfl⟩;refine⟨rfl,?_⟩;simp[ByteArray.push]
theorem run_b2s{a:Option Addr}{l c:Nat}{k:ByteArray->Pr}{Q:Value->World->Prop}(h:b2s ⟨a,l,c⟩ k w)(hq:∀s,k s w->Q (.string s) w):
 RT P (Conv.bytesToString (.slice a l c)) w Q:=by
 obtain⟨ns,hl,hr,hk⟩:=h;unfold Conv.bytesToString;cases a with
 |none=>
  have:ns.map (Value.int .u8)=[]:=hr;obtain rfl:ns=[]:=by simpa using this
  exact .pure (hq _ hk)
 |some b=>
  have hl':ns.length=l:=hl rfl;refine .bind (.loadCells (l:=ns.map (.int .u8)) (by simpa using hl') hr ?_);refine .bind ((b2s_loop ns ByteArray.empty).mono ?_);rintro r w' ⟨rfl,rfl⟩;refine .pure (hq _ ?_);have he:ByteArray.empty.data= #[]:=rfl;rw[he,Array.empty_append];exact hk
theorem ceqV_sound{t:TypeId}{d:TypeDesc}{x y:Value}{r:Prop×Bool}(hd:P.underlying t=some d)(h:ceqV d x y=some r)(h1:r.1):(Op.equal t x y).run P w=.ok r.2 w:=by
 unfold Op.equal;change(Op.equalIn (9999+1) t x y).run P w=_;have key:RT P (Op.equalIn (9999+1) t x y) w (λb w'=>b=r.2/\w'=w):=by
  unfold Op.equalIn;refine .bind (.underlying hd ?_);unfold ceqV at h;split at h<;>first
   |(simp at h;done)
   |(simp only[Option.some.injEq]at h
     subst h
     first
      |exact .pure ⟨rfl,rfl⟩
      |(rename_i p;cases p<;>exact .pure ⟨rfl,rfl⟩)
      |(rename_i a _ _ _ _;cases a<;>exact .pure ⟨rfl,rfl⟩)
      |(rcases h1 with h1|h1
        ·cases x<;>first|exact(h1:False).elim|exact .pure ⟨rfl,rfl⟩
        ·subst h1;exact .pure ⟨rfl,rfl⟩))
 obtain⟨v,w',h3,rfl,rfl⟩:=key;exact h3
theorem run_ceq{t:TypeId}{x y:Value}{f:Bool->Pr}{Q:Bool->World->Prop}(h:ceq P t x y f w)(hq:∀b,f b w->Q b w):RT P (Op.equal t x y) w Q:=by
 obtain⟨d,hd,h⟩:=opt_sound h;obtain⟨r,hr,h1,h2⟩:=opt_sound h;exact⟨_,w,ceqV_sound hd hr h1,hq _ h2⟩
end
section
variable{P:Program}{e:Env}{a:Act}{w:World}{k:EV->Pr}
theorem run_cun{op:UnOp}{x:EV}(h:cun op x k w):∃v u,x.v? =some v/\(Op.unary op v).run P w=.ok u w/\∃y,Good y u/\k y w:=by
 unfold cun at h;split at h
 ·exact⟨_,_,rfl,rfl,_,λu hu=>by simp[EV.v?]at hu;exact hu.symm,h⟩
 ·exact⟨_,_,rfl,rfl,_,Good.val _,h⟩
 ·exact⟨_,_,rfl,rfl,_,Good.val _,h⟩
 ·exact⟨_,_,rfl,rfl,_,Good.val _,h⟩
 ·exact h.elim
theorem run_cconv{s d:TypeId}{x:Value}(h:cconv P s d x k w):RT P (convert s d x) w λv w'=>k (.val v) w':=by
 obtain⟨sd,hs,h⟩:=opt_sound h;obtain⟨dd,hd,h9⟩:=opt_sound h;clear h;have h:=h9;clear h9;split at h
 ·unfold convert
  refine .bind (.underlying hs (.bind (.underlying hd ?_)));exact⟨_,w,rfl,h⟩
 ·unfold convert
  refine .bind (.underlying hs (.bind (.underlying hd ?_)));exact .pure h
 ·rename_i e0 e a0 l0 c0
  rcases tf_sound h with⟨he,h⟩|⟨_,h⟩
  rotate_left
  ·exact h.elim
  obtain⟨u,hu,h9⟩:=opt_sound h;clear h;have h:=h9;clear h9;split at h
  ·obtain⟨ad,rfl,E,n,hsh,h⟩:=deref_iff.1 h
   unfold convert;refine .bind (.underlying hs (.bind (.underlying hd ?_)));refine .bind (.underlying hu ?_);rw[he];refine .bind ⟨(),_,?_,.pure h⟩;simp[markStringish,hsh,go_sem]
  ·exact h.elim
 ·rename_i e s0 _
  obtain⟨u,hu,h9⟩:=opt_sound h;clear h;have h:=h9;clear h9;split at h
  ·have hr:=Lib.run_convert_string_bytes (P:=P) w _ _ e s0 hs hd hu
   obtain⟨hlt,h⟩:=h;have hc:s0.size<=grownCap w s0.size 0 e/\grownCap w s0.size 0 e<2^63:=by
    unfold grownCap Question.cut;have:=Nat.mod_lt (w.tape w.drawn (.appendCap s0.size 0 e)) (show 0<2^63-s0.size by omega);constructor
    ·exact Nat.le_add_right _ _
    ·show s0.size+_%_<_
     omega
   exact⟨_,_,hr,h _ hc.1 hc.2⟩
  ·exact h.elim
 ·unfold convert
  refine .bind (.underlying hs (.bind (.underlying hd ?_)));obtain⟨u,hu,h9⟩:=opt_sound h;clear h;have h:=h9;clear h9;split at h
  ·rename_i a _ _ _ _
   cases a with
   |none=>exact .bind (.underlying hu (run_b2s h λ_ h=>h))
   |some b=>exact .bind (.underlying hu (run_b2s h λ_ h=>h))
  ·exact h.elim
 ·exact h.elim
theorem run_min{l:List Value}{f:Value->Pr}{ts:Array TypeId}{ty:TypeId}(h:minL l f w):RT P (Builtin.min_ ts ty l.toArray) w λv w'=>f v w':=by
 unfold minL at h;split at h
 ·exact⟨_,w,rfl,h⟩
 ·exact⟨_,w,rfl,h⟩
 ·exact h.elim
theorem run_max{l:List Value}{f:Value->Pr}{ts:Array TypeId}{ty:TypeId}(h:maxL l f w):RT P (Builtin.max_ ts ty l.toArray) w λv w'=>f v w':=by
 unfold maxL at h;split at h
 ·exact⟨_,w,rfl,h⟩
 ·exact⟨_,w,rfl,h⟩
 ·exact h.elim
theorem run_builtin{b:Builtin}{ts:Array TypeId}{ty:TypeId}{cs:Array Bool}{args:List Value}(h:cbuiltin P b ts.toList args k w):
 RT P (builtin b ts ty cs args.toArray) w (NX k):=by
 unfold cbuiltin at h;split at h
 ·obtain⟨t,ht,h⟩:=opt_sound h
  obtain⟨el,hel,h⟩:=opt_sound h;refine RT.value' ?_;unfold Builtin.len_;simp only[show ts[0]? =some t by simpa using ht,List.getElem?_toArray,List.getElem?_cons_zero];exact .bind (.underlying (sliceElem_sound hel) (.pure h))
 ·obtain⟨t,ht,h⟩:=opt_sound h
  obtain⟨d,hd,h9⟩:=opt_sound h;clear h;refine RT.value' ?_;unfold Builtin.len_;simp only[show ts[0]? =some t by simpa using ht,List.getElem?_toArray,List.getElem?_cons_zero];refine .bind (.underlying hd ?_);cases d<;>first|exact h9.elim|exact .pure h9
 ·obtain⟨t,ht,h⟩:=opt_sound h
  obtain⟨el,hel,h⟩:=opt_sound h;exact RT.value' (run_mapLen (by simpa using ht) (mapElem_sound hel) h λ_ h=>h)
 ·obtain⟨t,ht,h⟩:=opt_sound h
  obtain⟨el,hel,h⟩:=opt_sound h;refine RT.value' ?_;unfold Builtin.cap_;simp only[show ts[0]? =some t by simpa using ht,List.getElem?_toArray,List.getElem?_cons_zero];exact .bind (.underlying (sliceElem_sound hel) (.pure h))
 ·exact RT.value' (run_min h)
 ·exact RT.value' (run_max h)
 ·rename_i da dl dc sa sl sc
  obtain⟨t,ht,h⟩:=opt_sound h;obtain⟨el,hel,h⟩:=opt_sound h;obtain⟨i,hi,h⟩:=opt_sound h;exact RT.value' (run_copy (d:=⟨da,dl,dc⟩) (s:=⟨sa,sl,sc⟩) (by simpa using ht) (sliceElem_sound hel) hi h λ_ h=>h)
 ·rename_i da dl dc sa sl sc
  obtain⟨t,ht,h⟩:=opt_sound h;obtain⟨t2,ht2,h⟩:=opt_sound h;rcases tf_sound h with⟨_,h⟩|⟨hint,h⟩
  ·exact h.elim
  obtain⟨d2,hd2,h⟩:=opt_sound h;obtain⟨el,hel,h⟩:=opt_sound h;obtain⟨i,hi,h⟩:=opt_sound h;obtain⟨z,hz,h⟩:=opt_sound h;obtain⟨hzs,h⟩:=cnd_sound h;exact RT.value' (run_append (s:=⟨da,dl,dc⟩) (x:=⟨sa,sl,sc⟩) (by simpa using ht) (by simpa using ht2) hd2 hint (sliceElem_sound hel) hi hz hzs h λ_ _ h=>h)
 ·rename_i da dl dc x0
  obtain⟨t,ht,h⟩:=opt_sound h;obtain⟨t2,ht2,h⟩:=opt_sound h;rcases tf_sound h with⟨_,h⟩|⟨hint,h⟩
  ·exact h.elim
  obtain⟨d2,hd2,h⟩:=opt_sound h;obtain⟨el,hel,h⟩:=opt_sound h;obtain⟨i,hi,h⟩:=opt_sound h;obtain⟨z,hz,h⟩:=opt_sound h;obtain⟨hzs,h⟩:=cnd_sound h;exact RT.value' (run_appS (s:=⟨da,dl,dc⟩) (x:=x0) (by simpa using ht) (by simpa using ht2) hd2 hint (sliceElem_sound hel) hi hz hzs h λ_ _ h=>h)
 ·rename_i da dl dc kx m
  obtain⟨t,ht,h⟩:=opt_sound h;obtain⟨t2,ht2,h⟩:=opt_sound h;rcases tf_sound h with⟨hint,h⟩|⟨_,h⟩
  rotate_left
  ·exact h.elim
  obtain⟨el,hel,h⟩:=opt_sound h;obtain⟨i,hi,h⟩:=opt_sound h;obtain⟨z,hz,h⟩:=opt_sound h;obtain⟨hzs,h⟩:=cnd_sound h;obtain⟨kd,hkd⟩:∃kd,P.underlying t2=some (.int kd):=by
   unfold isIntT at hint;split at hint
   ·rename_i kd heq;exact⟨kd,heq⟩
   ·cases hint
  exact RT.value' (run_appZ (s:=⟨da,dl,dc⟩) (by simpa using ht) (by simpa using ht2) hkd (sliceElem_sound hel) hi hz hzs h λ_ _ h=>h)
 ·obtain⟨t,ht,h⟩:=opt_sound h
  obtain⟨ke,hke,h⟩:=opt_sound h;obtain⟨kd,hkd,h⟩:=opt_sound h;rcases tf_sound h with⟨hs,h⟩|⟨_,h⟩
  ·exact RT.value' (run_mapDel (by simpa using ht) (mapElem_sound hke) hkd hs h λ_ h=>h)
  ·exact h.elim
 ·exact h.elim
theorem ndO_sound(he:Ag e a){x:Option Operand}{f:Option Int->Pr}(h:ndO (x.map (Env.ev e)) f w):∃(n:Option Int) (kd:IntKind),x.map a.eval=n.map (.int kd)/\f n w:=by
 cases x with
 |none=>exact⟨none,.i64,rfl,h⟩
 |some x=>
  have h1:=ndEv he (x:=x) h;obtain⟨kd,n,hn,h2⟩:=asIntE_sound h1;exact⟨some n,kd,by simp[hn],h2⟩
theorem callable_sound{f:FuncId}(h:callable P f=true):∃fn,P.funcs[f]? =some fn/\fn.body.isNone=false/\(fn.name== "runtime.NumGoroutine")=false:=by
 unfold callable at h;split at h
 ·rename_i fn hfn
  simp only[Bool.and_eq_true,Bool.not_eq_true']at h;exact⟨fn,hfn,by cases hb:fn.body<;>simp_all,h.2⟩
 ·simp at h
theorem run_callFunc{f:FuncId}{args:Array Value}(h:callable P f=true):(callFunc f args).run P w=.ok (.enter f args) w:=by
 obtain⟨fn,h1,h2,h3⟩:=callable_sound h;unfold callFunc;simp only[Sem.run_bind,run_program,Result.andThen_ok,h1,h2,h3,Bool.false_eq_true,if_false,Sem.run_pure]
theorem upon_enter{r:Option Nat}{n:Nat}{o:Oper}{next:Act->World->Prop}{Q:Exit->Act->World->Prop}{f:FuncId}{args:Array Value}{shs:List Sh}{kk:PayL shs->Pr}
 (h:Calls P f args w (RetT shs kk))(hk:∀p w',kk p w'->next (a.put o.dst (valR shs p)) w'):o.uponIn (wf r) n P a next Q (.ok (.enter f args) w):=by
 rw[Oper.uponIn_enter];refine⟨λh=>by simp[wf,Fence.wide]at h,callsIn_wf.2 (h.mono ?_)⟩;rintro e w' ⟨p,rfl,hp⟩;exact hk p w' hp
theorem roundIn_wf{r:Option Nat}{n m:Nat}{P:Program}{l:Nat}{f:FuncId}{tmps:Array Value}{assign body:Code}{w:World}{R:Ending->World->Prop}:
 RoundIn Fence.wide m P l f tmps assign body w R->RoundIn (wf r) n P l f tmps assign body w R:=by
 rintro⟨h1,h2⟩;exact⟨trivial,λc cs _=>h2 c cs (room_wide _)⟩
theorem upon_round{r:Option Nat}{n:Nat}{o:Oper}{next:Act->World->Prop}{Q:Exit->Act->World->Prop}{l:Nat}{f:FuncId}{tmps:Array Value}{assign body:Code}{shs:List Sh}{kk:PayL shs->Pr}{m:Nat}
 (h:RoundIn Fence.wide m P l f tmps assign body w (RetT shs kk))(hk:∀p w',kk p w'->next (a.put o.dst (valR shs p)) w'):o.uponIn (wf r) n P a next Q (.ok (.round l f tmps assign body) w):=by
 rw[Oper.uponIn_round];refine⟨λh=>by simp[wf,Fence.wide]at h,(roundIn_wf h).mono ?_⟩;rintro e w' ⟨p,rfl,hp⟩;exact hk p w' hp
theorem upon_NX{r:Option Nat}{n:Nat}{o:Oper}{next:Act->World->Prop}{Q:Exit->Act->World->Prop}{s:Sem Next}(h:RT P s w (NX k))
 (hk:∀x v w',Good x v->k x w'->next (a.put o.dst v) w'):o.uponIn (wf r) n P a next Q (s.run P w):=by
 obtain⟨nx,w',h1,h2⟩:=h;rw[h1];cases nx<;>simp only[NX]at h2<;>try exact h2.elim
 ·obtain⟨x,hx,h2⟩:=h2
  exact hk x _ _ hx h2
 ·exact hk .no _ _ (by intro u hu;simp[EV.v?]at hu) h2
end
section
variable{P:Program}{e:Env}{a:Act}{w:World}{k:EV->Pr}
theorem ceqV_guard{d:TypeDesc}{u v:Value}{r:Prop×Bool}(h:ceqV d u v=some r):(∀xs ys,¬(u=.agg xs/\v=.agg ys))/\¬(u=.nilIface/\v=.nilIface):=by
 refine⟨λxs ys=>?_,?_⟩<;>rintro⟨rfl,rfl⟩<;>cases d<;>simp[ceqV]at h
theorem ceqV_bin{d:TypeDesc}{t:TypeId}{u v:Value}{r:Prop×Bool}(neg:Bool)(h:ceqV d u v=some r)(h1:r.1):
 binOp (if neg then .neq else .eql) t u v=(Op.equal t u v>>=λb=>Pure.pure (.bool (if neg then !b else b))):=by
 unfold ceqV at h;split at h<;>first
  |(simp at h;done)
  |(cases neg<;>rfl)
  |(simp only[Option.some.injEq]at h
    subst h;rcases h1 with h1|h1
    ·cases u<;>first|exact(h1:False).elim|(cases neg<;>rfl)
    ·subst h1;cases neg<;>rfl)
theorem run_eqv{t:TypeId}{x y:Operand}{u v:Value}(neg:Bool)
 (h:ceq P t u v (λb=>k (.val (.bool (if neg then !b else b)))) w):
 RT P (do eqGuard (if neg then .neq else .eql) t x y u v;binOp (if neg then .neq else .eql) t u v) w λv w'=>k (.val v) w':=by
 obtain⟨d,hd,h2⟩:=opt_sound h;obtain⟨r,hr,h3,h4⟩:=opt_sound h2;obtain⟨g1,g2⟩:=ceqV_guard hr;refine .bind ⟨(),w,?_,?_⟩
 ·unfold eqGuard
  cases neg<;>simp only[Bool.false_eq_true,if_false,if_true]
  all_goals
   split
   ·rfl
   ·split
    ·exact absurd ⟨rfl,rfl⟩ g2
    ·exact absurd ⟨rfl,rfl⟩ (g1 _ _)
    ·rfl
 ·rw[ceqV_bin neg hr h3]
  exact .bind (run_ceq h λb h=>.pure h)
theorem eq1_sound(n:Nat){d:TypeDesc}{ty:TypeId}{u v:Value}{b:Bool}(hd:P.underlying ty=some d)(h:eq1 d u v=some b):(Op.equalIn (n+1) ty u v).run P w=.ok b w:=by
 unfold eq1 at h;split at h
 ·simp only[Option.some.injEq]at h;subst h
  exact run_equalIn_bool w n ty _ _ hd
 ·split at h
  ·rename_i hk
   simp only[Option.some.injEq]at h;subst h;subst hk;exact run_equalIn_int w n ty _ _ _ _ hd
  ·cases h
 ·simp only[Option.some.injEq]at h;subst h
  rw[run_equalIn_string w n ty _ _ hd]
 ·cases h
theorem eq1_agg{d:TypeDesc}{ty:TypeId}{u v:Value}{b:Bool}(hd:P.underlying ty=some d)(h:eq1 d u v=some b):isAggT P ty=false:=by
 unfold isAggT;rw[hd];unfold eq1 at h;split at h<;>first|rfl|cases h
def EqAt(P:Program)(w:World)(n:Nat)(t:TypeId)(xs ys:Array Value)(off:Nat)(b:Bool):Prop:=
 ∃u v,(part t xs off).run P w=.ok u w/\(part t ys off).run P w=.ok v w/\(Op.equalIn n t u v).run P w=.ok b w
theorem eqG_sound{g:TypeId->List Value->List Value->Option Bool}{n:Nat}(xs ys:Array Value)(hg:∀t off b,g t (xs.toList.drop off) (ys.toList.drop off)=some b->EqAt P w n t xs ys off b):
 ∀{fs:List Field} {b:Bool},eqG g xs.toList ys.toList fs=some b->(Op.eqFields n xs ys fs).run P w=.ok b w
 |[],b,h=>by
  simp only[eqG,Option.some.injEq]at h;subst h;simp[Op.eqFields]
 |f::fs,b,h=>by
  simp only[eqG]at h;split at h
  ·rename_i b1 c hn h1 h2
   simp only[Option.some.injEq]at h;have hname:f.name≠ "_":=by simpa[strEq]using hn
   obtain⟨u,v,hu,hv,he⟩:=hg _ _ _ h1;have hr:=eqG_sound xs ys hg h2;simp only[Op.eqFields,hname,ne_eq,not_false_eq_true,if_true,Sem.run_bind,hu,hv,he,Result.andThen_ok];cases b1
   ·simp only[Bool.false_and]at h;subst h;simp
   ·simp only[Bool.true_and]at h;subst h;simpa using hr
  ·cases h
theorem eqLeaf_sound(n:Nat){t:TypeId}{xs ys:Array Value}{off:Nat}{b:Bool}(h:eqLeaf P t (xs.toList.drop off) (ys.toList.drop off)=some b):EqAt P w (n+1) t xs ys off b:=by
 unfold eqLeaf at h;split at h
 ·rename_i d u v hd hu hv
  have hag:=eq1_agg (P:=P) hd h;have hpart:∀(zs:Array Value) (z:Value),(zs.toList.drop off).head? =some z->(part t zs off).run P w=.ok z w:=by
   intro zs z hz;have hz':zs[off]? =some z:=by rw[<-hz,List.head?_drop];simp
   have h5:RT P (part t zs off) w (λv w'=>v=z/\w'=w):=by
    unfold Go.part;refine .bind (.of_run (run_isAgg hd) ?_);rw[hag,if_neg Bool.false_ne_true,hz'];exact .pure ⟨rfl,rfl⟩
   obtain⟨_,_,h6,rfl,rfl⟩:=h5;exact h6
  exact⟨u,v,hpart xs u hu,hpart ys v hv,eq1_sound n hd h⟩
 ·cases h
theorem structF_some{t:TypeId}{fs:Array Field}(h:structF P t=some fs):P.underlying t=some (.struct fs):=by
 unfold structF at h;split at h
 ·simp only[Option.some.injEq]at h;subst h;assumption
 ·cases h
theorem eqV_sound:∀(m k:Nat) {t:TypeId} {xs ys:Array Value} {off:Nat} {b:Bool},eqV P m t (xs.toList.drop off) (ys.toList.drop off)=some b->EqAt P w (k+m+1) t xs ys off b
 |0,k,t,xs,ys,off,b,h=>eqLeaf_sound k h
 |m+1,k,t,xs,ys,off,b,h=>by
  unfold eqV at h;split at h
  ·rename_i fs i hs hi hst
   have hu:=structF_some hs;have hfs:P.fieldsOf t=fs:=by simp[Program.fieldsOf,hu]
   have hag:isAggT P t=true:=by unfold isAggT;rw[hu]
   have hpart:∀(zs:Array Value),(part t zs off).run P w=.ok (.agg (zs.extract off (off+i.size))) w:=by
    intro zs;have h5:RT P (part t zs off) w (λv w'=>v=.agg (zs.extract off (off+i.size))/\w'=w):=by
     unfold Go.part;refine .bind (.of_run (run_isAgg hu) ?_);rw[hag,if_pos rfl];exact .bind (.sizeOf hi (.pure ⟨rfl,rfl⟩))
    obtain⟨_,_,h6,rfl,rfl⟩:=h5;exact h6
   refine⟨_,_,hpart xs,hpart ys,?_⟩;have e:∀zs:Array Value,(zs.extract off (off+i.size)).toList=(zs.toList.drop off).take i.size:=by
    intro zs;rw[Array.toList_extract,List.extract_eq_take_drop]
    congr 1
    omega
   rw[show k+(m+1)+1=(k+m+1)+1 by omega,run_equalIn_struct w (k+m+1) t _ _ (by rw[hfs];exact hu) hst,hfs];refine eqG_sound _ _ (g:=eqV P m) (λt' off' b' h'=>eqV_sound m k h') ?_;rw[e,e];exact h
  ·cases h
  ·exact eqLeaf_sound (k+(m+1)) h
theorem eqFs_sound(xs ys:Array Value){fs:List Field}{b:Bool}(h:eqFs P xs.toList ys.toList fs=some b):(Op.eqFields (9998+1) xs ys fs).run P w=.ok b w:=
 eqG_sound xs ys (λt off b h=>eqV_sound 2 9996 h) h
theorem run_ceqS{t:TypeId}{fs:Array Field}{x y:Operand}{u v:Value}{f:Bool->Pr}{Q:Value->World->Prop}(neg:Bool)(hs:structF P t=some fs)(h:ceqS P t fs u v f w)(hq:∀b,f b w->Q (.bool (if neg then !b else b)) w):
 RT P (do eqGuard (if neg then .neq else .eql) t x y u v;binOp (if neg then .neq else .eql) t u v) w Q:=by
 rcases tf_sound h with⟨_,h⟩|⟨hg,h⟩
 ·exact h.elim
 obtain⟨xs,ys,rfl,rfl,h⟩:=asAgg2_sound h;obtain⟨b,hb,h⟩:=opt_sound h;rw[Bool.or_eq_false_iff]at hg;have hu:P.underlying t=some (.struct fs):=by
  unfold structF at hs;split at hs
  ·simp only[Option.some.injEq]at hs;subst hs;assumption
  ·cases hs
 have hfs:P.fieldsOf t=fs:=by simp[Program.fieldsOf,hu]
 have he:(Op.equal t (.agg xs) (.agg ys)).run P w=.ok b w:=by
  unfold Op.equal;change(Op.equalIn (9999+1) t _ _).run P w=_;rw[run_equalIn_struct w 9999 t xs ys (by rw[hfs];exact hu) hg.2,hfs];exact eqFs_sound xs ys hb
 have hgd:(eqGuard (if neg then .neq else .eql) t x y (.agg xs) (.agg ys)).run P w=.ok () w:=by
  unfold eqGuard;cases neg<;>simp[go_sem,hg.1]
 refine .bind ⟨(),w,hgd,?_⟩;cases neg
 ·exact .bind ⟨_,w,he,.pure (hq _ h)⟩
 ·exact .bind ⟨_,w,he,.pure (hq _ h)⟩
theorem run_ceqI{t:TypeId}{x y:Operand}{u v:Value}{f:Bool->Pr}{Q:Value->World->Prop}(neg:Bool)(ht:ifcT P t=true)(h:ceqI P u v f w)(hq:∀b,f b w->Q (.bool (if neg then !b else b)) w):
 RT P (do eqGuard (if neg then .neq else .eql) t x y u v;binOp (if neg then .neq else .eql) t u v) w Q:=by
 obtain⟨tx,vx,ty,vy,rfl,rfl,b,hb,h⟩:=h;obtain⟨ms,hms⟩:∃ms,P.underlying t=some (.interface ms):=by
  unfold ifcT at ht;split at ht
  ·exact⟨_,‹_›⟩
  ·cases ht
 have he:(Op.equal t (.iface tx vx) (.iface ty vy)).run P w=.ok b w:=by
  have:RT P (Op.equalIn (9999+1) t (.iface tx vx) (.iface ty vy)) w (λc w'=>c=b/\w'=w):=by
   unfold Op.equalIn;refine .bind (.underlying hms ?_);rcases hb with⟨hne,rfl⟩|⟨rfl,i,k,a,c,hi,hc,hu,rfl,rfl,rfl⟩
   ·simp only[ne_eq,hne,not_false_eq_true,if_true]
    exact .pure ⟨rfl,rfl⟩
   ·simp only[ne_eq,not_true_eq_false,if_false]
    refine .bind (.typeInfo hi ?_);simp only[hc,Bool.not_true,Bool.false_eq_true,if_false];exact⟨_,w,run_equalIn_int w 9998 tx _ _ _ _ hu,rfl,rfl⟩
  obtain⟨_,_,h6,rfl,rfl⟩:=this;exact h6
 have hgd:(eqGuard (if neg then .neq else .eql) t x y (.iface tx vx) (.iface ty vy)).run P w=.ok () w:=by
  unfold eqGuard;cases neg<;>rfl
 refine .bind ⟨(),w,hgd,?_⟩;cases neg
 ·exact .bind ⟨_,w,he,.pure (hq _ h)⟩
 ·exact .bind ⟨_,w,he,.pure (hq _ h)⟩
theorem run_ptrA{t:TypeId}{x y:Operand}{u v:Value}{f:Bool->Pr}{Q:Value->World->Prop}(neg:Bool)(ht:ptr2 P t x y=true)(h:ptrA u v f w)(hq:∀b,f b w->Q (.bool (if neg then !b else b)) w):
 RT P (do eqGuard (if neg then .neq else .eql) t x y u v;binOp (if neg then .neq else .eql) t u v) w Q:=by
 unfold ptr2 at ht;rw[Bool.and_eq_true]at ht;obtain⟨el,i,hu,hi,hs⟩:∃el i,P.underlying t=some (.pointer el)/\P.info? el=some i/\i.size≠0:=by
  have h2:=ht.2;unfold ptrT at h2;split at h2
  ·split at h2
   ·exact⟨_,_,‹_›,‹_›,by simpa using h2⟩
   ·cases h2
  ·cases h2
 unfold ptrA at h;split at h
 ·rename_i p q
  have he:(Op.equal t (.pointer p) (.pointer q)).run P w=.ok (p==q) w:=by
   have:RT P (Op.equalIn (9999+1) t (.pointer p) (.pointer q)) w (λc w'=>c=(p==q)/\w'=w):=by
    unfold Op.equalIn;refine .bind (.underlying hu ?_);cases p with
    |none=>exact .pure ⟨by cases q<;>rfl,rfl⟩
    |some a=>
     cases q with
     |none=>exact .pure ⟨rfl,rfl⟩
     |some b=>
      refine .bind (.sizeOf hi ?_);rw[if_pos hs];unfold sameAddr;rw[if_pos (by rw[h.1 a b rfl rfl];exact beq_self_eq_true _)];exact .pure ⟨rfl,rfl⟩
   obtain⟨_,_,h6,rfl,rfl⟩:=this;exact h6
  have hgd:(eqGuard (if neg then .neq else .eql) t x y (.pointer p) (.pointer q)).run P w=.ok () w:=by
   unfold eqGuard;cases neg<;>cases x<;>cases y<;>rfl
  refine .bind ⟨(),w,hgd,?_⟩;cases neg
  ·exact .bind ⟨_,w,he,.pure (hq _ h.2)⟩
  ·exact .bind ⟨_,w,he,.pure (hq _ h.2)⟩
 ·exact h.elim
theorem run_srange{t:TypeId}{s:ByteArray}{k:Nat->Pr}{Q:Value->World->Prop}(ht:P.underlying t=some .string)(h:srange s k w)
 (hq:∀b w',k b w'->Q (.pointer (some ⟨b,0,none⟩)) w'):RT P (Instr.range t (.string s)) w Q:=by
 unfold Instr.range;refine .bind (.underlying ht ?_);exact RT.bind (RT.pure (RT.bind (RT.newObj (RT.pure (hq _ _ h)))))
theorem run_snext{a:Addr}{k0:Pr}{k1:Nat->Nat->Pr}{Q:Value->World->Prop}{t:TypeId}(h:snext a k0 k1 w)(hq0:∀w',k0 w'->Q (.tuple #[.bool false]) w')(hq1:∀i c w',k1 i c w'->Q (.tuple #[.bool true,.int .i64 (i:Nat),.int .i32 (c:Nat)]) w'):
 RT P (Instr.next (.pointer (some a)) true t) w Q:=by
 obtain⟨h0,s,pos,h1,h2,h3⟩:=h;obtain⟨b,off,sp⟩:=a;dsimp only at h0 h1;subst h0;unfold Instr.next;refine .bind (.getObj h1 (λ_ _ _=>by simp) ?_);dsimp only;by_cases hp:pos<s.size
 ·rw[if_pos hp]
  refine .bind (.setObj h1 (λ_ _ _=>by simp) ?_);exact .pure (hq1 _ _ _ (h3 hp))
 ·rw[if_neg hp]
  exact .pure (hq0 _ (h2 hp))
theorem numStr_guard{op:BinOp}{t:TypeId}{x y:Operand}{u v:Value}(h:numStr v u=true):(eqGuard op t x y u v).run P w=.ok () w:=by
 unfold numStr at h;split at h
 ·unfold eqGuard;cases op<;>rfl
 ·unfold eqGuard;cases op<;>rfl
 ·simp at h
theorem run_mrange{t:TypeId}{ke:TypeId×TypeId}{r:Option Nat}{k:Nat->Pr}{Q:Value->World->Prop}(ht:P.underlying t=some (.map ke.1 ke.2))(h:mrange r k w)
 (hq:∀b w',k b w'->Q (.pointer (some ⟨b,0,none⟩)) w'):RT P (Instr.range t (.map r)) w Q:=by
 unfold Instr.range;unfold mrange at h;refine .bind (.underlying ht ?_);cases r with
 |none=>exact .bind (.pure (.bind (.newObj (.pure (hq _ _ h)))))
 |some m=>
  obtain⟨es,clock,hm,h⟩:=h;refine .bind (.bind (.getObj hm (λ_ _ _=>by simp) ?_));refine RT.pure (RT.bind (RT.pure (RT.bind (RT.newObj (RT.pure (hq _ _ h))))))
theorem run_mentry{a:Addr}{k:MapEntry->Pr}{Q:Value->World->Prop}(h:mentry a k w)(hq:∀e w',k e w'->Q (.tuple #[e.key,e.val]) w'):RT P (Instr.entry (.pointer (some a))) w Q:=by
 obtain⟨h0,m,since,seen,stepped,es,clock,stamp,e,h1,h2,h3,h4,h5,h8⟩:=h;obtain⟨b,off,sp⟩:=a;dsimp only at h0 h1;subst h0;unfold Instr.entry;refine RT.bind (RT.getObj h1 (λ_ _ _=>by simp) ?_);dsimp only;rw[h2];dsimp only;refine RT.bind (RT.getObj h3 (λ_ _ _=>by simp) ?_);dsimp only;subst h4;simp only[bne_self_eq_false,Bool.false_eq_true,if_false,h5];exact .pure (hq _ _ h8)
theorem RT.chooseNext{n:Nat}{Q:Nat->World->Prop}(hn:0<n)(h:∀i w1,i<n->(w1=w\/w1=w.drew)->Q i w1):RT P (Go.choose (.mapNext n)) w Q:=by
 have hr:=run_choose_drew P w (.mapNext n);by_cases hf:n<=1
 ·refine⟨0,w,?_,h 0 w hn (.inl rfl)⟩
  rw[hr];simp[Question.forced,hf]
 ·refine⟨w.tape w.drawn (.mapNext n)%n,w.drew,?_,h _ _ (Nat.mod_lt _ hn) (.inr rfl)⟩
  rw[hr];simp[Question.forced,hf,Question.cut]
theorem run_mnext{a:Addr}{k0:Pr}{k1:MapEntry->Pr}{Q:Value->World->Prop}{t:TypeId}(h:mnext a k0 k1 w)(hq0:∀w',k0 w'->Q (.tuple #[.bool false]) w')(hq1:∀e w',k1 e w'->Q (.tuple #[.bool true,e.key,e.val]) w'):
 RT P (Instr.next (.pointer (some a)) false t) w Q:=by
 obtain⟨h0,h⟩:=h;obtain⟨b,off,sp⟩:=a;dsimp only at h0 h;subst h0;unfold Instr.next;rcases h with⟨c,f,d,h1,h2⟩|⟨m,since,seen,last,es,clock,h1,h2,h3,h4⟩
 ·exact .bind (.getObj h1 (λ_ _ _=>by simp) (.pure (hq0 _ h2)))
 ·refine .bind (.getObj h1 (λ_ _ _=>by simp) ?_)
  dsimp only;refine .bind (.getObj h2 (λ_ _ _=>by simp) ?_);dsimp only;rw[if_neg (by rw[h3];simp)];generalize hc:(if((es.filter λe=> !seen.contains e.born).filter (·.born<since)).isEmpty=true then(#[none]:Array (Option MapEntry))else#[])++(((es.filter λe=> !seen.contains e.born).filter (·.born<since))++((es.filter λe=> !seen.contains e.born).filter (·.born>=since))).map some=cs;have hpos:0<cs.size:=by
   rw[<-hc];split
   ·simp only[Array.size_append,List.size_toArray,List.length_cons,List.length_nil];omega
   ·rename_i hne
    have:0<((es.filter λe=> !seen.contains e.born).filter (·.born<since)).size:=by
     rcases Nat.eq_zero_or_pos ((es.filter λe=> !seen.contains e.born).filter (·.born<since)).size with h|h
     ·exact absurd (by simpa[Array.isEmpty]using h) hne
     ·exact h
    simp only[Array.size_append,Array.size_map];omega
  refine RT.bind (RT.chooseNext hpos λi w1 hi hw=>?_);obtain⟨hend,hmore⟩:=h4 w1 hw;rw[Array.getElem?_eq_getElem hi];have hmem:cs[i]∈cs:=Array.getElem_mem hi;generalize cs[i]=x at hmem⊢;rw[<-hc,Array.mem_append]at hmem;have h1':w1.heap[b]? =some (.mapIter (some m) since seen last):=by rcases hw with rfl|rfl<;>exact h1
  cases x with
  |none=>
   refine RT.pure (hq0 _ (hend ?_));rcases hmem with hmem|hmem
   ·split at hmem
    ·rename_i hemp
     intro e he hb;cases hs:seen.contains e.born with
     |true=>rfl
     |false=>
      exfalso;have h9:e∈((es.filter λe=> !seen.contains e.born).filter (·.born<since)):=by
       rw[Array.mem_filter,Array.mem_filter];exact⟨⟨by simpa using he,by simpa using hs⟩,by simpa using hb⟩
      rw[Array.isEmpty_iff]at hemp;rw[hemp]at h9;simp at h9
    ·simp at hmem
   ·simp at hmem
  |some e=>
   have he:e∈es.toList/\seen.contains e.born=false:=by
    rcases hmem with hmem|hmem
    ·split at hmem<;>simp at hmem
    ·rw[Array.mem_map]at hmem
     obtain⟨e',h5,h6⟩:=hmem;simp only[Option.some.injEq]at h6;subst h6;simp only[Array.mem_append,Array.mem_filter]at h5;have h7:e'∈es/\(!seen.contains e'.born)=true:=by rcases h5 with h5|h5<;>exact h5.1
     exact⟨by simpa using h7.1,by simpa using h7.2⟩
   refine RT.bind (RT.setObj h1' (λ_ _ _=>by simp) (RT.pure (hq1 _ _ (hmore e he.1 he.2))))
theorem cop_rt{o:Oper}(he:Ag e a)(h:cop P o e k w)(hc:∀c,o.op≠.call c):RT P (execOp a.eval o) w (NX k):=by
 obtain⟨dst,op,ty,pos,after,guard⟩:=o;cases op<;>simp only[cop]at h<;>try exact h.elim
 case makeInterface t x=>
  obtain⟨d,hd,h2⟩:=opt_sound (ndEv he h);rcases tf_sound h2 with⟨_,h2⟩|⟨hb,h2⟩
  ·exact h2.elim
  ·refine RT.value' ?_
   unfold Instr.makeInterface;refine .bind (.underlying hd ?_);cases d<;>first|exact .pure h2|(simp[isIfc]at hb;done)
 case typeAssert x xt T ok=>
  obtain⟨d,hd,h2⟩:=opt_sound (ndEv he h);rcases tf_sound h2 with⟨_,h2⟩|⟨hb,h2⟩
  ·obtain⟨want,hw,h2⟩:=opt_sound h2
   obtain⟨z,hz,h2⟩:=opt_sound h2;obtain⟨b,h3,h4⟩:=h2;cases d<;>simp only[wantOf,reduceCtorEq,Option.some.injEq]at hw;subst hw;refine RT.value' ?_;unfold Instr.typeAssert;refine .bind (.underlying hd ?_);have hf:ok=true->b=false->RT P (do pure (Value.tuple #[<-zeroValue T,.bool false]):Sem Value) w (λv w'=>k (.val v) w'):=by
    rintro rfl rfl;exact .bind (zeroOf_sound hz (.pure h4))
   rcases h3 with⟨rfl,t,u,i,hv,hi,hm⟩|⟨hok,hb0,hv|⟨t,u,i,m,hv,hi,hm⟩⟩
   ·rw[hv]at h4⊢
    refine .bind (.typeInfo hi ?_);rw[hm];cases ok<;>exact .pure h4
   ·rw[hv]
    have:=hf hok hb0;subst hok;exact this
   ·rw[hv]
    refine .bind (.typeInfo hi ?_);rw[hm];have:=hf hok hb0;subst hok;exact this
  obtain⟨sh,_,h2⟩:=opt_sound h2;obtain⟨z,hz,h2⟩:=opt_sound h2;refine RT.value' ?_;unfold Instr.typeAssert;refine .bind (.underlying hd ?_);obtain⟨p,b,h3,h4⟩:=h2;rcases h3 with⟨rfl,hv⟩|⟨rfl,rfl,hp,hv⟩
  ·rw[hv]
   have:RT P (Pure.pure (if ok then .tuple #[val sh p,.bool true]else val sh p):Sem Value) w (λv w'=>k (.val v) w'):=by
    cases ok<;>exact .pure h4
   cases d<;>first|(simp only[if_true];exact this)|(simp[isIfc]at hb;done)
  ·have:RT P (do pure (Value.tuple #[<-zeroValue T,.bool false]):Sem Value) w (λv w'=>k (.val v) w'):=by
    refine .bind (zeroOf_sound hz (.pure ?_));rw[<-hp];exact h4
   rcases hv with hv|⟨t,u,hv,hne⟩
   ·rw[hv]
    cases d<;>first|exact this|(simp[isIfc]at hb;done)
   ·rw[hv]
    cases d<;>first|(simp only[hne,if_false];exact this)|(simp[isIfc]at hb;done)
 case move x=>exact .pure (ndEvK he h)
 case assign x=>exact .pure (ndEvK he h)
 case pick c x y=>exact run_pick he h
 case alloc t=>
  obtain⟨z,hz,h⟩:=opt_sound h;refine RT.value' ?_;exact .bind (zeroOf_sound hz (.bind (.newVar h λ_ _ h=>.pure h)))
 case box t x=>exact RT.value' (.bind (.newVar (ndEv he h) λ_ _ h=>.pure h))
 case build t parts=>
  obtain⟨z,hz,h⟩:=opt_sound h;have h1:=ndParts_sound he h;obtain⟨d,hd,h2⟩:=opt_sound h1;clear h h1;refine RT.value' ?_;unfold Instr.build;refine .bind (zeroOf_sound hz (.bind (.underlying hd ?_)));have hp:(parts.map λ(i,x)=>(i,a.eval x)).toList=parts.toList.map λ(i,x)=>(i,a.eval x):=by simp
  cases d with
  |struct fs=>
   obtain⟨pl,hpl,h2⟩:=opt_sound h2;obtain⟨cs,hcs,h2⟩:=fillC_sound h2;have hf:=fillL_sound hcs;simp only[Array.toArray_toList]at hf;dsimp only;rw[show fs=fs.toList.toArray by simp,List.mapM_toArray];refine .bind ?_;rw[map_eq_pure_bind];refine .bind (places_sound hpl (.pure ?_));rw[hp];have hpl':(λj:Nat=>pl.toArray[j]?)=(λj:Nat=>pl[j]?):=by funext j;simp
   rw[hpl',hf];exact .pure h2
  |array ln el=>
   obtain⟨i,hi,h2⟩:=opt_sound h2;obtain⟨cs,hcs,h2⟩:=fillC_sound h2;have hf:=fillL_sound hcs;simp only[Array.toArray_toList]at hf;refine .bind (.sizeOf hi ?_);rw[hp,hf];exact .pure h2
  |_=>exact h2.elim
 case buildSlice t len parts=>
  have h1:=ndParts_sound he h;obtain⟨el,hel,h2⟩:=opt_sound h1;obtain⟨i,hi,h2⟩:=opt_sound h2;obtain⟨z,hz,h2⟩:=opt_sound h2;obtain⟨⟨hzs,hs0,hlen⟩,h2⟩:=cnd_sound h2;obtain⟨cs,hcs,h2⟩:=fillC_sound h2;clear h h1;refine RT.value' ?_;unfold Instr.buildSlice;refine .bind (.underlying (sliceElem_sound hel) (.bind (.sizeOf hi ?_)));rw[if_neg (Nat.not_lt.2 hlen)];have hp:(parts.map λ(i,x)=>(i,a.eval x)).toList=parts.toList.map λ(i,x)=>(i,a.eval x):=by simp
  have hf:=fillL_sound hcs;have hzc:=zc_eq z.cells.toList len i.size (by simpa using hzs);simp only[Array.toArray_toList]at hzc;by_cases h0:len*i.size=0
  ·rw[if_pos h0]
   have hl0:len=0:=(Nat.mul_eq_zero.1 h0).resolve_right hs0;refine .bind (.pure ?_);dsimp only;have e0:∀g:Nat->Value,Array.map g (Array.range 0)=[].toArray:=λ_=>by simp
   rw[h0,e0,hp];have:zc z.cells.toList len=[]:=by simp[hl0,zc]
   rw[this]at hf;rw[hf];exact .bind (.bind (.newObj (.pure (.pure h2))))
  ·rw[if_neg h0]
   refine .bind (.zeroValue hi hz (.bind (.pure ?_)));dsimp only;rw[hp,hzs,hzc,hf];exact .bind (.bind (.newObj (.pure (.pure h2))))
 case load t x=>
  have h1:=ndEv he h;obtain⟨ad,hv,h2⟩:=asPtr_sound h1;refine RT.value' ?_;unfold Instr.loadAt;rw[hv];exact .bind (.pure (.loadVar h2 λ_ h=>h))
 case store t x y=>
  have h1:=ndEv he h;obtain⟨ad,hv,h2⟩:=asPtr_sound h1;have h3:=ndEv he h2;refine RT.skip ?_;unfold Instr.storeAt;rw[hv];exact .bind (.pure (.storeVar h3 λ_ h=>h))
 case nilCheck x=>
  have h1:=ndEv he h;clear h;unfold execOp;dsimp only;generalize a.eval x=v at h1⊢;cases v with
  |pointer p=>
   obtain⟨ad,rfl,h2⟩:=deref_iff.1 h1;exact .pure ⟨_,Good.val _,h2⟩
  |func fn f1 f2=>
   obtain⟨h2,h3⟩:=h1;cases fn<;>first|exact(h2:False).elim|exact .pure ⟨_,Good.val _,h3⟩
  |int _ _=>exact h1.elim
  |bool _=>exact h1.elim
  |string _=>exact h1.elim
  |nilIface=>exact h1.elim
  |slice _ _ _=>exact h1.elim
  |map _=>exact h1.elim
  |float _ _=>exact(h1.1:False).elim
  |complex _ _ _=>exact(h1.1:False).elim
  |chan _=>exact(h1.1:False).elim
  |nilFunc=>exact(h1.1:False).elim
  |iface _ _=>exact(h1.1:False).elim
  |agg _=>exact(h1.1:False).elim
  |tuple _=>exact(h1.1:False).elim
 case binOp op t x y ty2=>
  rcases tf_sound h with⟨hb,h⟩|⟨_,h⟩
  ·simp only[Bool.and_eq_true]at hb
   obtain⟨hy,ht⟩:=hb;have h1:=ndEv he h;clear h;have hy':y=.const .nilIface:=by
    unfold nilOp at hy;split at hy<;>simp_all
   subst hy';obtain⟨ms,hms⟩:∃ms,P.underlying t=some (.interface ms):=by
    unfold ifcT at ht;split at ht
    ·exact⟨_,‹_›⟩
    ·cases ht
   refine RT.value' ?_;generalize a.eval x=u at h1⊢;have hn:a.eval (.const .nilIface)=.nilIface:=rfl;rw[hn];have key:isI u->(eqGuard op t x (.const .nilIface) u .nilIface).run P w=.ok () w/\(Op.equal t u .nilIface).run P w=.ok (isNilI u) w:=by
    intro hi;have eqn:RT P (Op.equalIn (9999+1) t u .nilIface) w (λb w'=>b=isNilI u/\w'=w):=by
     unfold Op.equalIn;refine .bind (.underlying hms ?_);cases u<;>first|exact hi.elim|exact .pure ⟨rfl,rfl⟩
    refine⟨?_,?_⟩
    ·unfold eqGuard
     cases u<;>first|exact hi.elim|(cases x<;>cases op<;>rfl)
    ·obtain⟨v,w',h3,rfl,rfl⟩:=eqn
     exact h3
   cases op<;>first|exact h1.elim|skip
   all_goals
    obtain⟨hi,h2⟩:=h1;obtain⟨k1,k2⟩:=key hi;refine .bind ⟨(),w,k1,?_⟩;cases u<;>first|exact hi.elim|exact .bind ⟨_,w,k2,.pure h2⟩
  have h1:=ndEv he (ndEv he h);clear h;refine RT.value' ?_;generalize a.eval x=u at h1⊢;generalize a.eval y=v at h1⊢;have h9:=tf_sound h1;clear h1;rcases h9 with⟨hi,h1⟩|⟨_,h1⟩
  ·cases op<;>first
    |exact h1.elim
    |exact run_ceqI false hi h1 λ_ h=>h
    |exact run_ceqI true hi h1 λ_ h=>h
  rcases tf_sound h1 with⟨hi,h1⟩|⟨_,h1⟩
  ·cases op<;>first
    |exact h1.elim
    |exact run_ptrA (f:=λb=>k (.val (.bool (if false then !b else b)))) false hi h1 λ_ h=>h
    |exact run_ptrA (f:=λb=>k (.val (.bool (if true then !b else b)))) true hi h1 λ_ h=>h
  rcases tf_sound h1 with⟨hn,h1⟩|⟨hn,h1⟩
  ·refine .bind ⟨(),w,?_,?_⟩
   ·exact numStr_guard hn
   ·obtain⟨v,hv,h2⟩:=run_bin (P:=P) (t:=t) h1
    exact⟨v,w,hv,h2⟩
  ·have fin:∀neg:Bool,ceqA P t u v (λb=>k (.val (.bool (if neg then !b else b)))) w->RT P (do eqGuard (if neg then .neq else .eql) t x y u v;binOp (if neg then .neq else .eql) t u v) w λv w'=>k (.val v) w':=by
    intro neg h2;rcases orElse_sound (show orElse _ _ _ w from h2)with⟨fs,hfs,h2⟩|⟨_,h2⟩
    ·exact run_ceqS neg hfs h2 λ_ h=>h
    ·exact run_eqv neg h2
   cases op<;>first
    |exact h1.elim
    |exact fin false h1
    |exact fin true h1
 case unOp op t x=>
  obtain⟨v,u,hv,hr,y,hy,h2⟩:=run_cun h;refine RT.value ?_;rw[he.eval (x:=x) hv];exact⟨_,w,hr,y,hy,h2⟩
 case convert s d x=>exact RT.value' (run_cconv (ndEv he h))
 case makeFunc fn first caps=>
  have h1:=ndL_sound he h;have h2:=ndL_sound he h1;have e1:(first.toList.map a.eval).toArray=first.map a.eval:=by rw[<-Array.toList_map,Array.toArray_toList]
  have e2:(caps.toList.map a.eval).toArray=caps.map a.eval:=by rw[<-Array.toList_map,Array.toArray_toList]
  rw[e1,e2]at h2;exact RT.value' (.pure h2)
 case makeMap t r=>
  cases r with
  |none=>exact RT.value' (.bind (.newObj (.pure h)))
  |some _=>exact h.elim
 case makeSlice t l c=>
  obtain⟨el,hel,h⟩:=opt_sound h;obtain⟨i,hi,h⟩:=opt_sound h;obtain⟨z,hz,h⟩:=opt_sound h;obtain⟨⟨hzs,hs0⟩,h⟩:=cnd_sound h;obtain⟨k1,ln,hl,h⟩:=asIntE_sound (ndEv he h);obtain⟨k2,cn,hc2,h⟩:=asIntE_sound (ndEv he h);refine RT.value' ?_;rw[hl,hc2];exact run_mkS (sliceElem_sound hel) hi hz hzs hs0 h λ_ _ h=>h
 case slice t x lo hi mx=>
  have h1:=ndEv he h;obtain⟨l,k1,hl,h2⟩:=ndO_sound he h1;obtain⟨hh,k2,hhi,h3⟩:=ndO_sound he h2;obtain⟨m,k3,hm,h4⟩:=ndO_sound he h3;clear h h1 h2 h3;refine RT.value' ?_;rw[hl,hhi,hm];generalize a.eval x=v at h4⊢;split at h4
  ·rename_i a0 ln c
   obtain⟨el,hel,h⟩:=opt_sound h4;obtain⟨i,hi,h⟩:=opt_sound h;exact run_sliceAt (s:=⟨a0,ln,c⟩) (sliceElem_sound hel) hi h λ_ h=>h
  ·obtain⟨d,hd,h9⟩:=opt_sound h4
   clear h4;split at h9
   ·exact run_sliceStr hd h9 λ_ h=>h
   ·exact h9.elim
  ·exact h4.elim
 case fieldAddr s x f=>
  obtain⟨ad,hv,h2⟩:=asPtr_sound (ndEv he h);obtain⟨fl,hfl,h2⟩:=opt_sound h2;obtain⟨i,hi,h2⟩:=opt_sound h2;obtain⟨hs,h2⟩:=cnd_sound h2;obtain⟨fs,hfs,hf⟩:=fieldOf_sound hfl;refine RT.value' ?_;unfold Instr.fieldAt;refine .bind (.underlying hfs ?_);simp only[hf,hv];refine .bind (.pure (.bind ?_));unfold fieldPlace;refine .bind (.sizeOf hi ?_);rw[if_neg hs];exact .pure (.pure h2)
 case field s x f=>
  obtain⟨cs,hv,h2⟩:=asAggE_sound (ndEv he h);obtain⟨fl,hfl,h2⟩:=opt_sound h2;obtain⟨i,hi,h2⟩:=opt_sound h2;obtain⟨d,hd,h2⟩:=opt_sound h2;obtain⟨fs,hfs,hf⟩:=fieldOf_sound hfl;refine RT.value' ?_;unfold Instr.field;refine .bind (.underlying hfs ?_);simp only[hf,hv];refine .bind (.pure ?_);unfold Go.part;refine .bind (.of_run (run_isAgg hd) ?_);rcases tf_sound h2 with⟨hag,h2⟩|⟨hag,h2⟩
  ·rw[hag,if_pos rfl]
   exact .bind (.sizeOf hi (.pure h2))
  ·rw[hag,if_neg Bool.false_ne_true]
   obtain⟨c,hc2,h2⟩:=opt_sound h2;simp only[hc2];exact .pure h2
 case indexAddr t x ix=>
  have h1:=ndEv he h;obtain⟨k1,n,hn,h2⟩:=asIntE_sound (ndEv he h1);clear h h1;refine RT.value' ?_;unfold Instr.indexAt;rw[hn];refine .bind (.pure ?_);dsimp only;generalize a.eval x=v at h2⊢;split at h2
  ·rename_i a0 ln c
   obtain⟨el,hel,h⟩:=opt_sound h2;obtain⟨i,hi,h⟩:=opt_sound h;obtain⟨hb,h⟩:=h;obtain⟨ad,rfl,h5⟩:=deref_iff.1 h;refine .bind (.underlying (sliceElem_sound hel) (.bind (.pure (.bind (.underlying (sliceElem_sound hel) ?_)))));dsimp only;rw[if_pos hb];exact .bind (.sizeOf hi (.pure h5))
  ·obtain⟨d,hd,h9⟩:=opt_sound h2
   clear h2;split at h9
   ·obtain⟨i,hi,h⟩:=opt_sound h9
    obtain⟨hb,h⟩:=h;obtain⟨ad,rfl,h5⟩:=deref_iff.1 h;refine .bind (.underlying hd (.bind (.pure (.bind (.pure (.bind (.underlying hd ?_)))))));dsimp only;rw[if_pos hb];exact .bind (.sizeOf hi (.pure h5))
   ·exact h9.elim
  ·exact h2.elim
 case index t x ix=>
  have h1:=ndEv he h;obtain⟨k1,n,hn,h2⟩:=asIntE_sound (ndEv he h1);clear h h1;refine RT.value' ?_;unfold Instr.index;rw[hn];refine .bind (.pure ?_);dsimp only;generalize a.eval x=v at h2⊢;split at h2
  ·rename_i s
   obtain⟨d,hd,h9⟩:=opt_sound h2;clear h2;split at h9
   ·obtain⟨hb,h9⟩:=h9
    refine .bind (.underlying hd ?_);have hlt:n.toNat<s.size:=by omega
    simp only[hb.1,if_true];rw[getElem?_pos s n.toNat hlt]at h9⊢;exact .pure h9
   ·exact h9.elim
  ·exact h2.elim
 case lookup t x ix ok=>
  have h1:=ndEv he (ndEv he h);obtain⟨r,hr,h2⟩:=asMap_sound h1;obtain⟨ke,hke,h2⟩:=opt_sound h2;obtain⟨kd,hkd,h2⟩:=opt_sound h2;rcases tf_sound h2 with⟨hs,h2⟩|⟨_,h2⟩
  ·obtain⟨l,hl,h2⟩:=opt_sound h2
   obtain⟨sh,hsh,h2⟩:=opt_sound h2;obtain⟨z,hz,h2⟩:=opt_sound h2;refine RT.value' ?_;rw[hr];refine run_lookup (mapElem_sound hke) hkd hs hz h2 λp b h=>?_;rcases tf_sound h with⟨hok,h⟩|⟨hok,h⟩<;>simpa[hok]using h
  ·exact h2.elim
 case mapUpdate t m ky x=>
  have h1:=ndEv he (ndEv he (ndEv he h));obtain⟨r,hr,h2⟩:=asMap_sound h1;obtain⟨ke,hke,h2⟩:=opt_sound h2;obtain⟨kd,hkd,h2⟩:=opt_sound h2;rcases tf_sound h2 with⟨hs,h2⟩|⟨_,h2⟩
  ·refine RT.skip ?_
   rw[hr];exact run_mapPut (mapElem_sound hke) hkd hs h2 λ_ h=>h
  ·exact h2.elim
 case extract t ix=>
  refine RT.value ?_;unfold Instr.extract;cases hx:Env.ev e t with
  |nx0=>
   rw[hx]at h;have hv:=he.eval (x:=t) (v:=.tuple #[.bool false]) (by rw[hx];rfl);rw[hv]
   match ix,h with
   |0,h=>exact .pure ⟨_,λu hu=>by simpa[EV.v?]using hu.symm,h⟩
   |_+1,h=>exact h.elim
  |nx1 k1 v1=>
   rw[hx]at h;have hv:=he.eval (x:=t) (v:=.tuple #[.bool true,k1,v1]) (by rw[hx];rfl);rw[hv]
   match ix,h with
   |0,h=>exact .pure ⟨_,λu hu=>by simpa[EV.v?]using hu.symm,h⟩
   |1,h=>exact .pure ⟨_,λu hu=>by simpa[EV.v?]using hu.symm,h⟩
   |2,h=>exact .pure ⟨_,λu hu=>by simpa[EV.v?]using hu.symm,h⟩
   |_+3,h=>exact h.elim
  |ent k1 v1=>
   rw[hx]at h;have hv:=he.eval (x:=t) (v:=.tuple #[k1,v1]) (by rw[hx];rfl);rw[hv]
   match ix,h with
   |0,h=>
    obtain⟨l,_,h⟩:=opt_sound (show shOne P _ _ w from h);obtain⟨s,_,h⟩:=opt_sound h;obtain⟨p,hp,h⟩:=h;exact .pure ⟨_,λu hu=>by simp only[EV.v?,Option.some.injEq]at hu;rw[<-hu];exact hp.symm,h⟩
   |1,h=>
    obtain⟨l,_,h⟩:=opt_sound (show shOne P _ _ w from h);obtain⟨s,_,h⟩:=opt_sound h;obtain⟨p,hp,h⟩:=h;exact .pure ⟨_,λu hu=>by simp only[EV.v?,Option.some.injEq]at hu;rw[<-hu];exact hp.symm,h⟩
   |_+2,h=>exact h.elim
  |no=>rw[hx]at h;exact h.elim
  |lit b=>rw[hx]at h;exact h.elim
  |val v=>
   rw[hx]at h;have hv:=he.eval (x:=t) (v:=v) (by rw[hx];rfl);rw[hv];cases v<;>first|exact h.elim|skip
   obtain⟨c,hc2,h1⟩:=opt_sound (show opt _ _ w from h);simp only[hc2];exact .pure ⟨_,Good.val _,h1⟩
 case range t x=>
  refine RT.value' ?_;rcases tf_sound (ndEv he h)with⟨hs,h2⟩|⟨_,h2⟩
  ·obtain⟨s,hr,h2⟩:=asStr_sound h2
   rw[hr];exact run_srange (isStrT_sound hs) h2 λ_ _ h=>h
  ·obtain⟨r,hr,h2⟩:=asMap_sound h2
   obtain⟨ke,hke,h2⟩:=opt_sound h2;rw[hr];exact run_mrange (mapElem_sound hke) h2 λ_ _ h=>h
 case next it str=>
  obtain⟨ad,hv,h3⟩:=asPtr_sound (ndEv he h);refine RT.value ?_;rw[hv];have h4:=tf_sound h3;clear h h3;rcases h4 with⟨hs,h2⟩|⟨hs,h2⟩
  ·subst hs
   exact run_snext h2 (λ_ h=>⟨_,λu hu=>by simpa[EV.v?]using hu.symm,h⟩) (λ_ _ _ h=>⟨_,λu hu=>by simpa[EV.v?]using hu.symm,h⟩)
  subst hs;exact run_mnext h2 (λ_ h=>⟨_,λu hu=>by simpa[EV.v?]using hu.symm,h⟩) (λ_ _ h=>⟨_,λu hu=>by simpa[EV.v?]using hu.symm,h⟩)
 case entry it=>
  obtain⟨ad,hv,h2⟩:=asPtr_sound (ndEv he h);refine RT.value ?_;rw[hv];exact run_mentry h2 λ_ _ h=>⟨_,λu hu=>by simpa[EV.v?]using hu.symm,h⟩
 case call c=>exact absurd rfl (hc c)
end
section
variable{P:Program}{e:Env}{a:Act}{w:World}{k:EV->Pr}
theorem ex0(x:Value)(l:Array Value):(#[x]++l)[0]? =some x:=by
 rw[Array.getElem?_append_left (by simp)];rfl
theorem ex1(x:Value)(l:Array Value):(#[x]++l).extract 1 (#[x]++l).size=l:=by
 apply Array.ext';rw[Array.toList_extract,Array.toList_append,Array.size_append];simp only[List.size_toArray,List.length_cons,List.length_nil,List.cons_append,List.nil_append,List.extract_eq_take_drop,List.drop_succ_cons,List.drop_zero];exact List.take_of_length_le (by simp)
theorem upon_callV{r:Option Nat}{n:Nat}{next:Act->World->Prop}{Q:Exit->Act->World->Prop}{dst:Option Tmp}{x:Operand}{args:Array Operand}{ats:Array TypeId}{ty:TypeId}{pos:String}{after:Array Edge}
 {guard:Option (Nat×Bool)}{shs:List Sh}{kk:PayL shs->Pr}(h2:callV P (a.eval x) (args.toList.map a.eval) shs kk w)(hk:∀p w',kk p w'->next (a.put dst (valR shs p)) w'):
 Oper.uponIn (wf r) n P ⟨dst,.call ⟨.value x,args,ats⟩,ty,pos,after,guard⟩ a next Q ((execOp a.eval ⟨dst,.call ⟨.value x,args,ats⟩,ty,pos,after,guard⟩).run P w):=by
 have hargs:(args.toList.map a.eval).toArray=args.map a.eval:=by rw[<-Array.toList_map,Array.toArray_toList]
 unfold callV at h2;rw[hargs]at h2;rcases h2 with⟨f,first,caps,hv,hcall,h2⟩|⟨l,caps,hv,fn,tmps,assign,body,hy,h2⟩
 ·have hrun:(execOp a.eval ⟨dst,.call ⟨.value x,args,ats⟩,ty,pos,after,guard⟩).run P w=.ok (.enter f (first++args.map a.eval++caps)) w:=by
   simp only[execOp,resolve,Deferred.ofValue,hv,Sem.run_bind,Sem.run_pure,Result.andThen_ok,invoke];exact run_callFunc hcall
  rw[hrun];exact upon_enter h2 hk
 ·have hrun:(execOp a.eval ⟨dst,.call ⟨.value x,args,ats⟩,ty,pos,after,guard⟩).run P w=.ok (.round l fn tmps assign body) w:=by
   simp only[execOp,resolve,Deferred.ofValue,hv,Sem.run_bind,Sem.run_pure,Result.andThen_ok,invoke,Array.empty_append];exact hy
  rw[hrun];exact upon_round h2 hk
theorem cop_sound{r:Option Nat}{n:Nat}{o:Oper}{next:Act->World->Prop}{Q:Exit->Act->World->Prop}(he:Ag e a)(h:cop P o e k w)
 (hk:∀x v w',Good x v->k x w'->next (a.put o.dst v) w'):o.uponIn (wf r) n P a next Q ((o.semAt r a.eval).run P w):=by
 have hnd:∀c,o.op≠.defer c:=by
  intro c hc;obtain⟨dst,op,ty,pos,after,guard⟩:=o;dsimp only at hc;subst hc;exact h
 rw[Oper.semAt_eq r a.eval o hnd];rcases Classical.em (∀c,o.op≠.call c)with hno|hno
 ·exact upon_NX (cop_rt he h hno) hk
 obtain⟨c,hc⟩:∃c,o.op=.call c:=Classical.byContradiction λh=>hno λc hc=>h ⟨c,hc⟩;clear hno;obtain⟨dst,op,ty,pos,after,guard⟩:=o;dsimp only at hc;subst hc;clear hnd;simp only[cop]at h;have h1:=ndL_sound he h;clear h;obtain⟨callee,args,ats⟩:=c;have hargs:(args.toList.map a.eval).toArray=args.map a.eval:=by rw[<-Array.toList_map,Array.toArray_toList]
 dsimp only at h1;have hval:∀x,nd (Env.ev e x) (λfv=>opt (retShs P ty) λshs=>callV P fv (args.toList.map a.eval) shs λp=>k (.val (valR shs p))) w->
  Oper.uponIn (wf r) n P ⟨dst,.call ⟨.value x,args,ats⟩,ty,pos,after,guard⟩ a next Q ((execOp a.eval ⟨dst,.call ⟨.value x,args,ats⟩,ty,pos,after,guard⟩).run P w):=by
  intro x h;obtain⟨shs,_,h2⟩:=opt_sound (ndEv he h);exact upon_callV h2 λp w' hp=>hk _ _ _ (Good.val _) hp
 cases callee with
 |value x=>
  cases x with
  |func f=>
   obtain⟨shs,hshs,h0⟩:=opt_sound h1;rcases tf_sound h0 with⟨hcall,h2⟩|⟨_,h2⟩
   ·unfold callF at h2
    rw[hargs]at h2;have hrun:(execOp a.eval ⟨dst,.call ⟨.value (.func f),args,ats⟩,ty,pos,after,guard⟩).run P w=.ok (.enter f (args.map a.eval)) w:=by
     simp only[execOp,resolve,Deferred.ofValue,Act.eval,Sem.run_bind,Sem.run_pure,Result.andThen_ok,invoke,Array.empty_append,Array.append_empty];exact run_callFunc hcall
    rw[hrun];exact upon_enter h2 λp w' hp=>hk _ _ _ (Good.val _) hp
   ·obtain⟨p,w',hr,h3⟩:=h2
    rw[hargs]at hr;have hrun:(execOp a.eval ⟨dst,.call ⟨.value (.func f),args,ats⟩,ty,pos,after,guard⟩).run P w=.ok (.value (valR shs p)) w':=by
     simp only[execOp,resolve,Deferred.ofValue,Act.eval,Sem.run_bind,Sem.run_pure,Result.andThen_ok,invoke,Array.empty_append,Array.append_empty];exact hr
    rw[hrun];exact hk _ _ _ (Good.val _) h3
  |tmp t=>exact hval _ h1
  |const v=>exact hval _ h1
  |global g=>exact hval _ h1
 |builtin b=>
  refine upon_NX (k:=k) ?_ hk;unfold execOp;dsimp only;unfold resolve;dsimp only;refine .bind (.pure ?_);dsimp only[invoke];rw[<-hargs];exact run_builtin h1
 |invoke x name=>
  obtain⟨shs,_,h2⟩:=opt_sound (ndEv he h1);obtain⟨t,u,f,recv,hv,hm,h2⟩:=h2;rw[hargs]at h2;rcases h2 with⟨hcall,h2⟩|⟨p,w',hr,h3⟩
  ·have hrun:(execOp a.eval ⟨dst,.call ⟨.invoke x name,args,ats⟩,ty,pos,after,guard⟩).run P w=.ok (.enter f (#[recv]++args.map a.eval)) w:=by
    simp only[execOp,resolve,Sem.run_bind,Sem.run_pure,Result.andThen_ok,invoke,ex0,ex1,callMethod,hv,run_program,hm];exact run_callFunc hcall
   rw[hrun];exact upon_enter h2 λp w' hp=>hk _ _ _ (Good.val _) hp
  ·have hrun:(execOp a.eval ⟨dst,.call ⟨.invoke x name,args,ats⟩,ty,pos,after,guard⟩).run P w=.ok (.value (valR shs p)) w':=by
    simp only[execOp,resolve,Sem.run_bind,Sem.run_pure,Result.andThen_ok,invoke,ex0,ex1,callMethod,hv,run_program,hm];exact hr
   rw[hrun];exact hk _ _ _ (Good.val _) h3
theorem upon_enterP{r:Option Nat}{n:Nat}{o:Oper}{next:Act->World->Prop}{Q:Exit->Act->World->Prop}{f:FuncId}{args:Array Value}{shs:List Sh}{kk:PayL shs->Pr}{q:List PanicEntry->Pr}
 (h:Calls P f args w (RetP q shs kk))(hk:∀p w',kk p w'->next (a.put o.dst (valR shs p)) w')(hp:∀ch w',q ch w'->Q (.panic ch) a w'):o.uponIn (wf r) n P a next Q (.ok (.enter f args) w):=by
 rw[Oper.uponIn_enter];refine⟨λh=>by simp[wf,Fence.wide]at h,callsIn_wf.2 (h.mono ?_)⟩;rintro e w' (⟨p,rfl,hp'⟩|⟨ch,rfl,hq⟩)
 ·exact hk p w' hp'
 ·exact hp ch w' hq
theorem copK_sound{r:Option Nat}{n:Nat}{o:Oper}{kp:Option (List PanicEntry->Pr)}{next:Act->World->Prop}{Q:Exit->Act->World->Prop}(he:Ag e a)(h:copK P kp o e k w)
 (hk:∀x v w',Good x v->k x w'->next (a.put o.dst v) w')(hp:∀ch w',kpH kp ch w'->Q (.panic ch) a w'):o.uponIn (wf r) n P a next Q ((o.semAt r a.eval).run P w):=by
 unfold copK at h;cases kp with
 |none=>exact cop_sound he h hk
 |some q=>
  have hp':∀ch w',q ch w'->Q (.panic ch) a w':=hp;rcases orElse_sound (show orElse _ _ _ w from h)with⟨⟨f,args⟩,hop,h⟩|⟨_,h⟩
  ·have heq:∃ats,o.op=.call ⟨.value (.func f),args,ats⟩:=by
    unfold opCallee at hop;split at hop<;>simp_all
   obtain⟨ats,heq⟩:=heq;obtain⟨dst,op,ty,pos,after,guard⟩:=o;dsimp only at heq;subst heq;rw[Oper.semAt_eq r a.eval _ (by intro c hc;cases hc)];have h1:=ndL_sound he h;have hargs:(args.toList.map a.eval).toArray=args.map a.eval:=by rw[<-Array.toList_map,Array.toArray_toList]
   obtain⟨shs,hshs,h0⟩:=opt_sound h1;rcases tf_sound h0 with⟨hcall,h2⟩|⟨_,h2⟩
   ·unfold callFP at h2
    rw[hargs]at h2;have hrun:(execOp a.eval ⟨dst,.call ⟨.value (.func f),args,ats⟩,ty,pos,after,guard⟩).run P w=.ok (.enter f (args.map a.eval)) w:=by
     simp only[execOp,resolve,Deferred.ofValue,Act.eval,Sem.run_bind,Sem.run_pure,Result.andThen_ok,invoke,Array.empty_append,Array.append_empty];exact run_callFunc hcall
    rw[hrun];exact upon_enterP h2 (λp w' hp=>hk _ _ _ (Good.val _) hp) hp'
   ·obtain⟨p,w',hr,h3⟩:=h2
    rw[hargs]at hr;have hrun:(execOp a.eval ⟨dst,.call ⟨.value (.func f),args,ats⟩,ty,pos,after,guard⟩).run P w=.ok (.value (valR shs p)) w':=by
     simp only[execOp,resolve,Deferred.ofValue,Act.eval,Sem.run_bind,Sem.run_pure,Result.andThen_ok,invoke,Array.empty_append,Array.append_empty];exact hr
    rw[hrun];exact hk _ _ _ (Good.val _) h3
  rcases orElse_sound h with⟨args,hop,h⟩|⟨_,h⟩
  ·have heq:(∃ats,o.op=.call ⟨.builtin .panic,args,ats⟩)\/∃x,o.op=.panic x/\args= #[x]:=by
    unfold opPanic at hop;split at hop<;>simp_all
   have h1:=ndL_sound he h;obtain⟨t,v,hl,h1⟩:=ifaceL_sound h1;clear h;obtain⟨dst,op,ty,pos,after,guard⟩:=o;dsimp only at heq;have hrun:(execOp a.eval ⟨dst,op,ty,pos,after,guard⟩).run P w=.halt (.panic (.iface t v)) w/\∀c,op≠.defer c:=by
    rcases heq with⟨ats,rfl⟩|⟨x,rfl,rfl⟩
    ·have hA:args.map a.eval= #[.iface t v]:=by
      have hargs:(args.toList.map a.eval).toArray=args.map a.eval:=by rw[<-Array.toList_map,Array.toArray_toList]
      rw[<-hargs,hl]
     refine⟨?_,by intro c hc;cases hc⟩;simp only[execOp,resolve,Sem.run_bind,Sem.run_pure,Result.andThen_ok,invoke,hA];rfl
    ·have hA:a.eval x=.iface t v:=by simpa using hl
     refine⟨?_,by intro c hc;cases hc⟩;simp only[execOp,hA];rfl
   rw[Oper.semAt_eq r a.eval _ hrun.2,hrun.1];exact hp' _ _ h1
  ·exact cop_sound he h hk
end
section
variable{w:World}
theorem nd_mono{x:EV}{f f':Value->Pr}(h:∀v,f v w->f' v w)(hh:nd x f w):nd x f' w:=by
 cases x with
 |no=>exact hh
 |val v=>exact h _ hh
 |lit b=>exact h _ hh
 |nx0=>exact h _ hh
 |nx1 _ _=>exact h _ hh
 |ent _ _=>exact h _ hh
theorem opt_mono{α:Type}{x:Option α}{f f':α->Pr}(h:∀v,f v w->f' v w)(hh:opt x f w):opt x f' w:=by
 cases x with
 |none=>exact hh
 |some v=>exact h _ hh
theorem opt_any'{α:Type}{w:World}{x:Option α}{f f':α->Pr}(h:∀v,x=some v->f v w->f' v w)(hh:opt x f w):opt x f' w:=by
 cases x with
 |some v=>exact h v rfl hh
 |none=>exact hh
theorem orElse_mono{α:Type}{w:World}{x:Option α}{f f':α->Pr}{g g':Pr}(h:∀v,f v w->f' v w)(h2:g w->g' w)(hh:orElse x f g w):orElse x f' g' w:=by
 cases x with
 |some v=>exact h v hh
 |none=>exact h2 hh
theorem cnd_mono{p:Prop}[Decidable p]{f f':Pr}(h:f w->f' w)(hh:cnd p f w):cnd p f' w:=by
 unfold cnd at *;split
 ·rename_i hp;rw[if_pos hp]at hh;exact h hh
 ·rename_i hp;rw[if_neg hp]at hh;exact hh
theorem tf_mono{b:Bool}{f f' g g':Pr}(h:f w->f' w)(h2:g w->g' w)(hh:tf b f g w):tf b f' g' w:=by
 cases b with
 |true=>exact h hh
 |false=>exact h2 hh
theorem owe_mono{p:Prop}{f f':Pr}(h:f w->f' w)(hh:owe p f w):owe p f' w:=⟨hh.1,h hh.2⟩
theorem deref_mono{p:Option Addr}{f f':Addr->Pr}(h:∀v,f v w->f' v w)(hh:deref p f w):deref p f' w:=
 let⟨a,h1,h2⟩:=deref_iff.1 hh;deref_iff.2 ⟨a,h1,h _ h2⟩
theorem asPtr_mono{v:Value}{f f':Addr->Pr}(h:∀v,f v w->f' v w)(hh:asPtr v f w):asPtr v f' w:=by
 cases v with
 |pointer p=>exact deref_mono h hh
 |_=>exact hh
theorem asIntE_mono{v:Value}{f f':Int->Pr}(h:∀v,f v w->f' v w)(hh:asIntE v f w):asIntE v f' w:=by
 cases v with
 |int k n=>exact h _ hh
 |_=>exact hh
theorem asAggE_mono{v:Value}{f f':Array Value->Pr}(h:∀v,f v w->f' v w)(hh:asAggE v f w):asAggE v f' w:=by
 cases v with
 |agg cs=>exact h _ hh
 |_=>exact hh
theorem asMap_mono{v:Value}{f f':Option Nat->Pr}(h:∀v,f v w->f' v w)(hh:asMap v f w):asMap v f' w:=by
 cases v with
 |map r=>exact h _ hh
 |_=>exact hh
theorem ndO_mono{x:Option EV}{f f':Option Int->Pr}(h:∀v,f v w->f' v w)(hh:ndO x f w):ndO x f' w:=by
 cases x with
 |none=>exact h _ hh
 |some x=>exact nd_mono (λv=>asIntE_mono λn=>h _) hh
theorem br_mono{b:Bool}{f f' g g':Pr}(h:f w->f' w)(h2:g w->g' w)(hh:br b f g w):br b f' g' w:=by
 unfold br at *;cases b<;>simp_all
theorem cbr_mono{x:EV}{f f' g g':Pr}(h:f w->f' w)(h2:g w->g' w)(hh:cbr x f g w):cbr x f' g' w:=by
 unfold cbr at *;split at hh
 ·exact h hh
 ·exact h2 hh
 ·exact br_mono h h2 hh
 ·exact hh.elim
theorem ldC_mono{s:CS}{a:Addr}{f f':PayC s->Pr}(h:∀v,f v w->f' v w)(hh:ldC s a f w):ldC s a f' w:=
 let⟨p,h1,h2⟩:=hh;⟨p,h1,h _ h2⟩
theorem ldA_mono{s:List CS}{a:Addr}{f f':PayA s->Pr}(h:∀v,f v w->f' v w)(hh:ldA s a f w):ldA s a f' w:=
 let⟨p,h1,h2⟩:=hh;⟨p,h1,h _ h2⟩
theorem ldT_mono{P:Program}{t:TypeId}{a:Addr}{f f':Value->Pr}(h:∀v,f v w->f' v w)(hh:ldT P t a f w):ldT P t a f' w:=
 opt_mono (λ_=>tf_mono (opt_mono λ_=>cnd_mono (ldA_mono λ_=>h _)) (opt_mono λ_=>opt_mono λ_=>ldC_mono λ_=>h _)) hh
theorem ndL_mono:∀{l:List EV} {f f':List Value->Pr} (_:∀v,f v w->f' v w),ndL l f w->ndL l f' w
 |[],_,_,h,hh=>h _ hh
 |_::_,_,_,h,hh=>nd_mono (λ_=>ndL_mono λ_=>h _) hh
theorem slc_mono{n:Nat}{s:Sl}{lo hi mx:Option Int}{f f':Sl->Pr}(h:∀v,f v w->f' v w)(hh:slc n s lo hi mx f w):slc n s lo hi mx f' w:=
 ⟨hh.1,hh.2.1,hh.2.2.1,hh.2.2.2.1,h _ hh.2.2.2.2⟩
theorem slcStr_mono{s:ByteArray}{lo hi:Option Int}{f f':ByteArray->Pr}(h:∀v,f v w->f' v w)(hh:slcStr s lo hi f w):slcStr s lo hi f' w:=
 ⟨hh.1,hh.2.1,h _ hh.2.2⟩
theorem mapAt_mono{kd:TypeDesc}{r:Option Nat}{key zero:Value}{sh:CS}{f f':PayC sh->Bool->Pr}(h:∀v b,f v b w->f' v b w)(hh:mapAt kd r key sh zero f w):mapAt kd r key sh zero f' w:=
 let⟨es,res,p,h1,h2,h3,h4⟩:=hh;⟨es,res,p,h1,h2,h3,h _ _ h4⟩
theorem mapLen_mono{r:Option Nat}{f f':Int->Pr}(h:∀v,f v w->f' v w)(hh:mapLen r f w):mapLen r f' w:=
 let⟨es,h1,h2⟩:=hh;⟨es,h1,h _ h2⟩
theorem cbin_mono{op:BinOp}{x y:Value}{f f':EV->Pr}(h:∀v,f v w->f' v w)(hh:cbin op x y f w):cbin op x y f' w:=by
 unfold cbin at *;split at hh<;>first
  |exact hh.elim
  |exact⟨hh.1,h _ hh.2⟩
  |exact h _ hh
  |(split at hh
    ·rename_i hk
     first
      |exact(show(if _ then _ else _:Pr) w by rw[if_pos hk];exact h _ hh)
      |exact(show(if _ then _ else _:Pr) w by rw[if_pos hk];exact⟨hh.1,h _ hh.2⟩)
    ·exact hh.elim)
theorem ceq_mono{P:Program}{t:TypeId}{x y:Value}{f f':Bool->Pr}(h:∀v,f v w->f' v w)(hh:ceq P t x y f w):ceq P t x y f' w:=by
 exact opt_mono (λd=>opt_mono λr=>owe_mono (h _)) hh
theorem eqOp_mono{op:BinOp}{f f':Bool->Pr}(h:∀v,f v w->f' v w)(hh:eqOp op f w):eqOp op f' w:=by
 cases op<;>first|exact hh.elim|exact h _ hh
theorem cun_mono{op:UnOp}{x:EV}{f f':EV->Pr}(h:∀v,f v w->f' v w)(hh:cun op x f w):cun op x f' w:=by
 unfold cun at *;split at hh<;>first
  |exact hh.elim
  |exact h _ hh
theorem ceqI_mono{P:Program}{u v:Value}{f f':Bool->Pr}(h:∀v,f v w->f' v w)(hh:ceqI P u v f w):ceqI P u v f' w:=
 let⟨tx,x,ty,y,h1,h2,b,h3,h4⟩:=hh;⟨tx,x,ty,y,h1,h2,b,h3,h _ h4⟩
theorem ceqS_mono{P:Program}{t:TypeId}{fs:Array Field}{u v:Value}{f f':Bool->Pr}(h:∀v,f v w->f' v w)(hh:ceqS P t fs u v f w):ceqS P t fs u v f' w:=by
 refine tf_mono (λh=>h) (λh1=>?_) hh;obtain⟨xs,ys,rfl,rfl,h2⟩:=asAgg2_sound h1;exact opt_mono (λ_=>h _) h2
theorem ceqA_mono{P:Program}{t:TypeId}{u v:Value}{f f':Bool->Pr}(h:∀v,f v w->f' v w)(hh:ceqA P t u v f w):ceqA P t u v f' w:=
 orElse_mono (λ_=>ceqS_mono h) (ceq_mono h) hh
theorem ptrA_mono{u v:Value}{f f':Bool->Pr}(h:∀v,f v w->f' v w)(hh:ptrA u v f w):ptrA u v f' w:=by
 unfold ptrA at *;split at hh
 ·exact⟨hh.1,h _ hh.2⟩
 ·exact hh.elim
theorem na_mono{v:Value}{f f':Pr}(h:f w->f' w)(hh:na v f w):na v f' w:=by
 cases v<;>first|exact hh|exact h hh
theorem fillC_mono{agg:Nat->Bool}{place:Nat->Option (Nat×Nat)}:∀{ps:List (Nat×Value)} {cells:List Value} {f f':List Value->Pr},(∀v,f v w->f' v w)->fillC agg place cells ps f w->fillC agg place cells ps f' w
 |[],_,_,_,h,hh=>h _ hh
 |_::_,_,_,_,h,hh=>opt_mono (λ_=>tf_mono (asAggE_mono λ_=>cnd_mono (fillC_mono h)) (na_mono (cnd_mono (fillC_mono h)))) hh
theorem ndParts_mono{e:Env}:∀{l:List (Nat×Operand)} {f f':List (Nat×Value)->Pr},(∀v,f v w->f' v w)->ndParts e l f w->ndParts e l f' w
 |[],_,_,h,hh=>h _ hh
 |_::_,_,_,h,hh=>nd_mono (λ_=>ndParts_mono λ_=>h _) hh
theorem b2s_mono{s:Sl}{f f':ByteArray->Pr}(h:∀v,f v w->f' v w)(hh:b2s s f w):b2s s f' w:=
 let⟨l,h1,h2,h3⟩:=hh;⟨l,h1,h2,h _ h3⟩
theorem cconv_mono{P:Program}{s d:TypeId}{x:Value}{f f':EV->Pr}(hd:sliceElem P d=none)(h:∀v,f v w->f' v w)(hh:cconv P s d x f w):cconv P s d x f' w:=by
 refine opt_mono (λd=>opt_any' λe he h9=>?_) hh;split at h9
 ·exact h _ h9
 ·exact h _ h9
 ·unfold sliceElem at hd
  rw[he]at hd;cases hd
 ·unfold sliceElem at hd
  rw[he]at hd;cases hd
 ·refine opt_mono (λu h8=>?_) h9
  split at h8
  ·exact b2s_mono (λ_=>h _) h8
  ·exact h8.elim
 ·exact h9.elim
theorem minL_mono{l:List Value}{f f':Value->Pr}(h:∀v,f v w->f' v w)(hh:minL l f w):minL l f' w:=by
 unfold minL at *;split at hh<;>first|exact hh.elim|exact h _ hh
theorem maxL_mono{l:List Value}{f f':Value->Pr}(h:∀v,f v w->f' v w)(hh:maxL l f w):maxL l f' w:=by
 unfold maxL at *;split at hh<;>first|exact hh.elim|exact h _ hh
end
def isRead(P:Program)(o:Oper):Bool:=
 match o.op with
 |.move _|.assign _|.pick _ _ _|.load _ _|.nilCheck _|.binOp _ _ _ _ _|.unOp _ _ _|.makeFunc _ _ _|.slice _ _ _ _ _|.fieldAddr _ _ _|.field _ _ _
 |.indexAddr _ _ _|.index _ _ _|.lookup _ _ _ _|.extract _ _|.makeInterface _ _|.build _ _=>true
 |.convert _ d _=>match sliceElem P d with|none=>true|some _=>false
 |.call {callee:=.builtin .len, .. }|.call {callee:=.builtin .cap, .. }|.call {callee:=.builtin .min, .. }|.call {callee:=.builtin .max, .. }=>true
 |_=>false
section
variable{P:Program}{e:Env}{w:World}{k:EV->Pr}
def readB:Builtin->Bool
 |.len|.cap|.min|.max=>true
 |_=>false
theorem cbuiltin_mono{b:Builtin}{ts:List TypeId}{args:List Value}{k':EV->Pr}(hb:readB b=true)(hk:∀x,k x w->k' x w)(h:cbuiltin P b ts args k w):cbuiltin P b ts args k' w:=by
 unfold cbuiltin at *;split at h<;>first
  |exact h.elim
  |exact opt_mono (λ_=>opt_mono λ_=>hk _) h
  |exact opt_mono (λ_=>opt_mono λ_=>mapLen_mono λ_=>hk _) h
  |exact minL_mono (λ_=>hk _) h
  |exact maxL_mono (λ_=>hk _) h
  |(refine opt_mono (λ_=>opt_mono λd h=>?_) h
    cases d<;>first|exact h.elim|exact hk _ h)
  |simp[readB]at hb
theorem cop_mono{o:Oper}{k':EV->Pr}(hr:isRead P o=true)(hk:∀x,k x w->k' x w)(h:cop P o e k w):cop P o e k' w:=by
 obtain⟨dst,op,ty,pos,after,guard⟩:=o;cases op<;>simp only[isRead,Bool.false_eq_true]at hr<;>simp only[cop]at h⊢
 case move x=>exact nd_mono (λ_=>hk _) h
 case assign x=>exact nd_mono (λ_=>hk _) h
 case pick c x y=>exact cbr_mono (nd_mono λ_=>hk _) (nd_mono λ_=>hk _) h
 case load t x=>exact nd_mono (λ_=>asPtr_mono λ_=>ldT_mono λ_=>hk _) h
 case nilCheck x=>
  refine nd_mono (λv h=>?_) h;cases v<;>first
   |exact deref_mono (λ_=>hk _) h
   |exact owe_mono (hk _) h
   |exact h
 case binOp op t x y ty2=>
  refine tf_mono (nd_mono λu=>eqOp_mono λneg=>owe_mono (hk _)) (λh=>?_) h;refine nd_mono (λu=>nd_mono λv=>tf_mono (eqOp_mono λneg=>ceqI_mono λ_=>hk _)<|tf_mono (eqOp_mono λneg=>ptrA_mono λ_=>hk _)<|tf_mono (cbin_mono hk) λh=>?_) h;exact eqOp_mono (λneg=>ceqA_mono λ_=>hk _) h
 case unOp op t x=>exact cun_mono hk h
 case convert s d x=>
  have hd:sliceElem P d=none:=by
   cases hs:sliceElem P d with
   |none=>rfl
   |some _=>rw[hs]at hr;cases hr
  exact nd_mono (λ_=>cconv_mono hd hk) h
 case makeFunc fn f c=>exact ndL_mono (λ_=>ndL_mono λ_=>hk _) h
 case makeInterface t x=>exact nd_mono (λ_=>opt_mono λ_=>tf_mono (λh=>h) (hk _)) h
 case build t ps=>
  refine opt_mono (λz=>ndParts_mono λps=>opt_mono λd h=>?_) h;cases d<;>first
   |exact h.elim
   |exact opt_mono (λ_=>fillC_mono λ_=>hk _) h
 case slice t x lo hi mx=>
  refine nd_mono (λv=>ndO_mono λl=>ndO_mono λh=>ndO_mono λm h=>?_) h;cases v<;>first
   |exact opt_mono (λ_=>opt_mono λ_=>slc_mono λ_=>hk _) h
   |(refine opt_mono (λd h=>?_) h
     cases d<;>first
      |exact h.elim
      |(cases m<;>first|exact h.elim|exact slcStr_mono (λ_=>hk _) h))
   |exact h
 case fieldAddr s x f=>exact nd_mono (λ_=>asPtr_mono λ_=>opt_mono λ_=>opt_mono λ_=>cnd_mono (hk _)) h
 case field s x f=>exact nd_mono (λ_=>asAggE_mono λ_=>opt_mono λ_=>opt_mono λ_=>opt_mono λ_=>tf_mono (hk _) (opt_mono λ_=>hk _)) h
 case indexAddr t x ix=>
  refine nd_mono (λv=>nd_mono λ_=>asIntE_mono λn h=>?_) h;cases v<;>first
   |exact opt_mono (λ_=>opt_mono λ_=>owe_mono (deref_mono λ_=>hk _)) h
   |(refine opt_mono (λd h=>?_) h
     cases d<;>first
      |exact h.elim
      |exact opt_mono (λ_=>owe_mono (deref_mono λ_=>hk _)) h)
   |exact h
 case index t x ix=>
  refine nd_mono (λv=>nd_mono λ_=>asIntE_mono λn h=>?_) h;cases v<;>first
   |(refine opt_mono (λd h=>?_) h
     cases d<;>first
      |exact h.elim
      |exact owe_mono (hk _) h)
   |exact h
 case lookup t x ix ok=>
  exact nd_mono (λ_=>nd_mono λ_=>asMap_mono λ_=>opt_mono λ_=>opt_mono λ_=>tf_mono (opt_mono λ_=>opt_mono λ_=>opt_mono λ_=>mapAt_mono λ_ _=>tf_mono (hk _) (hk _)) id) h
 case extract t ix=>
  cases hx:Env.ev e t with
  |nx0=>
   rw[hx]at h
   match ix,h with
   |0,h=>exact hk _ h
   |_+1,h=>exact h.elim
  |nx1 k1 v1=>
   rw[hx]at h
   match ix,h with
   |0,h=>exact hk _ h
   |1,h=>exact hk _ h
   |2,h=>exact hk _ h
   |_+3,h=>exact h.elim
  |ent k1 v1=>
   rw[hx]at h
   match ix,h with
   |0,h=>exact opt_mono (λ_ h=>opt_mono (λ_ ⟨p,hp,h⟩=>⟨p,hp,hk _ h⟩) h) (show shOne P _ _ w from h)
   |1,h=>exact opt_mono (λ_ h=>opt_mono (λ_ ⟨p,hp,h⟩=>⟨p,hp,hk _ h⟩) h) (show shOne P _ _ w from h)
   |_+2,h=>exact h.elim
  |no=>rw[hx]at h;exact h.elim
  |lit b=>rw[hx]at h;exact h.elim
  |val v=>
   rw[hx]at h;cases v<;>first|exact h.elim|skip
   exact opt_mono (λ_=>hk _) (show opt _ _ w from h)
 case call c=>
  obtain⟨callee,args,ats⟩:=c;cases callee<;>(try(simp at hr;done));rename_i b;refine ndL_mono (λargs h=>?_) h;refine cbuiltin_mono (b:=b) ?_ hk h;cases b<;>first|rfl|simp at hr
theorem cop_same{o:Oper}(hr:isRead P o=true)(h:cop P o e k w):cop P o e (λx w'=>k x w'/\w'=w) w:=cop_mono hr (λ_ h=>⟨h,rfl⟩) h
end
section
variable{w:World}
theorem nd_any{x:EV}{f:Value->Pr}(hh:nd x f w):∃v,f v w/\∀(f':Value->Pr) w',f' v w'->nd x f' w':=by
 cases x with
 |no=>exact hh.elim
 |val v=>exact⟨v,hh,λ_ _ h=>h⟩
 |lit b=>exact⟨_,hh,λ_ _ h=>h⟩
 |nx0=>exact⟨_,hh,λ_ _ h=>h⟩
 |nx1 _ _=>exact⟨_,hh,λ_ _ h=>h⟩
 |ent _ _=>exact⟨_,hh,λ_ _ h=>h⟩
theorem nd_self{x:EV}{k:EV->Pr}(hh:nd x (λ_=>k x) w):∃y v,y.v? =some v/\k y w/\∀(k':EV->Pr) w',k' y w'->nd x (λ_=>k' x) w':=by
 cases x with
 |no=>exact hh.elim
 |val v=>exact⟨_,v,rfl,hh,λ_ _ h=>h⟩
 |lit b=>exact⟨_,_,rfl,hh,λ_ _ h=>h⟩
 |nx0=>exact⟨_,_,rfl,hh,λ_ _ h=>h⟩
 |nx1 _ _=>exact⟨_,_,rfl,hh,λ_ _ h=>h⟩
 |ent _ _=>exact⟨_,_,rfl,hh,λ_ _ h=>h⟩
theorem opt_any{α:Type}{x:Option α}{f:α->Pr}(hh:opt x f w):∃v,f v w/\∀(f':α->Pr) w',f' v w'->opt x f' w':=by
 cases x with
 |none=>exact hh.elim
 |some v=>exact⟨v,hh,λ_ _ h=>h⟩
theorem cnd_any{p:Prop}[Decidable p]{f:Pr}(hh:cnd p f w):f w/\∀(f':Pr) w',f' w'->cnd p f' w':=by
 obtain⟨hp,h⟩:=cnd_sound hh;exact⟨h,λf' w' h'=>by unfold cnd;rw[if_pos hp];exact h'⟩
theorem deref_any{p:Option Addr}{f:Addr->Pr}(hh:deref p f w):∃v,f v w/\∀(f':Addr->Pr) w',f' v w'->deref p f' w':=
 let⟨a,h1,h2⟩:=deref_iff.1 hh;⟨a,h2,λ_ _ h=>deref_iff.2 ⟨a,h1,h⟩⟩
theorem cbr_any{x:EV}{f g:Pr}(hh:cbr x f g w):(f w/\∀(f' g':Pr) w',f' w'->cbr x f' g' w')\/(g w/\∀(f' g':Pr) w',g' w'->cbr x f' g' w'):=by
 unfold cbr at *;split at hh
 ·exact .inl ⟨hh,λ_ _ _ h=>h⟩
 ·exact .inr ⟨hh,λ_ _ _ h=>h⟩
 ·rename_i b
  unfold br at *;cases b with
  |true=>exact .inl ⟨by simpa using hh,λf' g' w' h=>by simpa using h⟩
  |false=>exact .inr ⟨by simpa using hh,λf' g' w' h=>by simpa using h⟩
 ·exact hh.elim
theorem asPtr_any{v:Value}{f:Addr->Pr}(hh:asPtr v f w):∃a,f a w/\∀(f':Addr->Pr) w',f' a w'->asPtr v f' w':=by
 cases v with
 |pointer p=>exact deref_any hh
 |_=>exact hh.elim
theorem asIntE_any{v:Value}{f:Int->Pr}(hh:asIntE v f w):∃a,f a w/\∀(f':Int->Pr) w',f' a w'->asIntE v f' w':=by
 cases v with
 |int k n=>exact⟨n,hh,λ_ _ h=>h⟩
 |_=>exact hh.elim
theorem asAggE_any{v:Value}{f:Array Value->Pr}(hh:asAggE v f w):∃a,f a w/\∀(f':Array Value->Pr) w',f' a w'->asAggE v f' w':=by
 cases v with
 |agg k=>exact⟨k,hh,λ_ _ h=>h⟩
 |_=>exact hh.elim
theorem ndO_any{x:Option EV}{f:Option Int->Pr}(hh:ndO x f w):∃a,f a w/\∀(f':Option Int->Pr) w',f' a w'->ndO x f' w':=by
 cases x with
 |none=>exact⟨none,hh,λ_ _ h=>h⟩
 |some x=>
  obtain⟨v,h1,h2⟩:=nd_any hh;obtain⟨n,h3,h4⟩:=asIntE_any h1;exact⟨some n,h3,λf' w' h=>h2 _ _ (h4 (λn=>f' (some n)) _ h)⟩
theorem ndL_any:∀{l:List EV} {f:List Value->Pr},ndL l f w->∃a,f a w/\∀(f':List Value->Pr) w',f' a w'->ndL l f' w'
 |[],_,hh=>⟨[],hh,λ_ _ h=>h⟩
 |x::l,f,hh=>by
  obtain⟨v,h1,h2⟩:=nd_any hh;obtain⟨vs,h3,h4⟩:=ndL_any h1;exact⟨v::vs,h3,λf' w' h=>h2 _ _ (h4 (λvs=>f' (v::vs)) _ h)⟩
theorem slc_any{n:Nat}{s:Sl}{lo hi mx:Option Int}{f:Sl->Pr}(hh:slc n s lo hi mx f w):∃r,f r w/\∀(f':Sl->Pr) w',f' r w'->slc n s lo hi mx f' w':=
 ⟨_,hh.2.2.2.2,λ_ _ h=>⟨hh.1,hh.2.1,hh.2.2.1,hh.2.2.2.1,h⟩⟩
theorem slcStr_any{s:ByteArray}{lo hi:Option Int}{f:ByteArray->Pr}(hh:slcStr s lo hi f w):∃r,f r w/\∀(f':ByteArray->Pr) w',f' r w'->slcStr s lo hi f' w':=
 ⟨_,hh.2.2,λ_ _ h=>⟨hh.1,hh.2.1,h⟩⟩
theorem cbin_any{op:BinOp}{x y:Value}{k:EV->Pr}(hh:cbin op x y k w):∃v,k (.val v) w/\∀(k':EV->Pr) w',k' (.val v) w'->cbin op x y k' w':=by
 unfold cbin at *;split at hh<;>first
  |exact hh.elim
  |exact⟨_,hh.2,λ_ _ h=>⟨hh.1,h⟩⟩
  |(split at hh
    ·rename_i hk
     first
      |exact⟨_,hh.2,λk' w' h=>by rw[if_pos hk];exact⟨hh.1,h⟩⟩
      |exact⟨_,hh,λk' w' h=>by rw[if_pos hk];exact h⟩
    ·exact hh.elim)
  |exact⟨_,hh,λ_ _ h=>h⟩
theorem ceq_any{P:Program}{t:TypeId}{x y:Value}{f:Bool->Pr}(hh:ceq P t x y f w):∃b,f b w/\∀(f':Bool->Pr) w',f' b w'->ceq P t x y f' w':=by
 obtain⟨d,h1,g1⟩:=opt_any hh;obtain⟨r,h2,g2⟩:=opt_any h1;exact⟨r.2,h2.2,λf' w' h=>g1 _ _ (g2 _ _ ⟨h2.1,h⟩)⟩
theorem ceqI_any{P:Program}{x y:Value}{f:Bool->Pr}(hh:ceqI P x y f w):∃b,f b w/\∀(f':Bool->Pr) w',f' b w'->ceqI P x y f' w':=by
 obtain⟨tx,u,ty,v,h1,h2,b,h3,h4⟩:=hh;exact⟨b,h4,λf' w' h=>⟨tx,u,ty,v,h1,h2,b,h3,h⟩⟩
theorem ptrA_any{x y:Value}{f:Bool->Pr}(hh:ptrA x y f w):∃b,f b w/\∀(f':Bool->Pr) w',f' b w'->ptrA x y f' w':=by
 unfold ptrA at *;split at hh
 ·exact⟨_,hh.2,λf' w' h=>⟨hh.1,h⟩⟩
 ·exact hh.elim
theorem ceqA_any{P:Program}{t:TypeId}{x y:Value}{f:Bool->Pr}(hh:ceqA P t x y f w):∃b,f b w/\∀(f':Bool->Pr) w',f' b w'->ceqA P t x y f' w':=by
 unfold ceqA at hh⊢;cases hs:structF P t with
 |some fs=>
  rw[hs]at hh;have h0:ceqS P t fs x y f w:=hh;unfold ceqS at h0;cases hg:(P.eqGuardType P.depth t||P.stoodInHeld t)with
  |true=>rw[hg]at h0;exact h0.elim
  |false=>
   rw[hg]at h0;obtain⟨xs,ys,rfl,rfl,h1⟩:=asAgg2_sound (show asAgg2 x y (λxs ys=>opt (eqFs P xs ys fs.toList) f) w from h0);obtain⟨b,h2,g2⟩:=opt_any h1;refine⟨b,h2,λf' w' h=>?_⟩;show ceqS P t fs _ _ f' w';unfold ceqS;rw[hg];exact g2 _ _ h
 |none=>
  rw[hs]at hh;exact ceq_any hh
theorem eqOp_any{op:BinOp}{f:Bool->Pr}(hh:eqOp op f w):∃b,f b w/\∀(f':Bool->Pr) w',f' b w'->eqOp op f' w':=by
 cases op<;>first|exact hh.elim|exact⟨_,hh,λ_ _ h=>h⟩
theorem cun_any{op:UnOp}{x:EV}{k:EV->Pr}(hh:cun op x k w):∃y v,y.v? =some v/\k y w/\∀(k':EV->Pr) w',k' y w'->cun op x k' w':=by
 unfold cun at *;split at hh<;>first
  |exact hh.elim
  |exact⟨_,_,rfl,hh,λ_ _ h=>h⟩
end
def noMapT(P:Program)(t:TypeId):Bool:=
 match P.underlying t with
 |some (.map _ _)=>false
 |some _=>true
 |none=>false
def pureB(P:Program)(b:Builtin)(ts:List TypeId):Bool:=
 match b with
 |.min=>true
 |.max=>true
 |.len=>(match ts with|t::_=>noMapT P t|[]=>false)
 |.cap=>(match ts with|t::_=>noMapT P t|[]=>false)
 |_=>false
def isPure(P:Program)(o:Oper):Bool:=
 match o.op with
 |.move _|.assign _|.pick _ _ _|.nilCheck _|.binOp _ _ _ _ _|.unOp _ _ _|.makeFunc _ _ _|.slice _ _ _ _ _|.fieldAddr _ _ _|.field _ _ _
 |.indexAddr _ _ _|.extract _ _|.makeInterface _ _|.build _ _=>true
 |.convert s d _=>isIntT P s&&isIntT P d
 |.call {callee:=.builtin b,argTypes:=ts, .. }=>pureB P b ts.toList
 |_=>false
section
variable{P:Program}{e:Env}{a:Act}{w:World}{k:EV->Pr}
theorem minL_any{l:List Value}{f:Value->Pr}(hh:minL l f w):∃v,f v w/\∀(f':Value->Pr) w',f' v w'->minL l f' w':=by
 unfold minL at hh;split at hh<;>first|exact hh.elim|exact⟨_,hh,λ_ _ h=>h⟩
theorem maxL_any{l:List Value}{f:Value->Pr}(hh:maxL l f w):∃v,f v w/\∀(f':Value->Pr) w',f' v w'->maxL l f' w':=by
 unfold maxL at hh;split at hh<;>first|exact hh.elim|exact⟨_,hh,λ_ _ h=>h⟩
theorem cbuiltin_any{b:Builtin}{ts:List TypeId}{args:List Value}(hb:pureB P b ts=true)(h:cbuiltin P b ts args k w):
 ∃x v,x.v? =some v/\k x w/\∀(k':EV->Pr) w',k' x w'->cbuiltin P b ts args k' w':=by
 cases b<;>simp only[pureB,Bool.false_eq_true]at hb
 case min=>
  obtain⟨v,h1,g1⟩:=minL_any (show minL args _ w from h);exact⟨.val v,v,rfl,h1,λk' w' h=>g1 (λv=>k' (.val v)) _ h⟩
 case max=>
  obtain⟨v,h1,g1⟩:=maxL_any (show maxL args _ w from h);exact⟨.val v,v,rfl,h1,λk' w' h=>g1 (λv=>k' (.val v)) _ h⟩
 case len=>
  cases ts with
  |nil=>cases hb
  |cons t ts=>
   match args,h with
   |[.slice a n c],h=>
    simp only[cbuiltin]at h⊢;obtain⟨t',h1,g1⟩:=opt_any h;obtain⟨e,h2,g2⟩:=opt_any h1;exact⟨_,_,rfl,h2,λk' w' h=>g1 _ _ (g2 (λ_=>k' (.val (.int .i64 n))) _ h)⟩
   |[.string s],h=>
    simp only[cbuiltin]at h⊢;obtain⟨t',h1,g1⟩:=opt_any h;obtain⟨d,h2,g2⟩:=opt_any h1;cases d<;>first|exact h2.elim|skip
    exact⟨_,_,rfl,h2,λk' w' h=>g1 _ _ (g2 _ _ h)⟩
   |[.map r],h=>
    exfalso;simp only[cbuiltin]at h;obtain⟨t',ht,h1⟩:=opt_sound h;simp only[List.getElem?_cons_zero,Option.some.injEq]at ht;subst ht;obtain⟨ke,hke,_⟩:=opt_sound h1;have:=mapElem_sound hke;simp[noMapT,this]at hb
 case cap=>
  cases ts with
  |nil=>cases hb
  |cons t ts=>
   match args,h with
   |[.slice a m n],h=>
    simp only[cbuiltin]at h⊢;obtain⟨t',h1,g1⟩:=opt_any h;obtain⟨e,h2,g2⟩:=opt_any h1;exact⟨_,_,rfl,h2,λk' w' h=>g1 _ _ (g2 (λ_=>k' (.val (.int .i64 n))) _ h)⟩
theorem na_any{v:Value}{f:Pr}(hh:na v f w):f w/\∀(f':Pr) w',f' w'->na v f' w':=by
 cases v<;>first|exact hh.elim|exact⟨hh,λ_ _ h=>h⟩
theorem fillC_any{agg:Nat->Bool}{place:Nat->Option (Nat×Nat)}:∀{ps:List (Nat×Value)} {cells:List Value} {f:List Value->Pr},fillC agg place cells ps f w->∃c,f c w/\∀(f':List Value->Pr) w',f' c w'->fillC agg place cells ps f' w'
 |[],cells,f,h=>⟨cells,h,λ_ _ h=>h⟩
 |(i,v)::ps,cells,f,h=>by
  obtain⟨os,h1,g1⟩:=opt_any (show opt (place i) _ w from h);have hh:∀(f':List Value->Pr) w',(tf (agg i) (asAggE v λcs=>cnd (cs.size=os.2/\os.1+os.2<=cells.length) (fillC agg place (cells.take os.1++cs.toList++cells.drop (os.1+os.2)) ps f'))
   (na v (cnd (os.2=1/\os.1+1<=cells.length) (fillC agg place (cells.set os.1 v) ps f')))) w'->fillC agg place cells ((i,v)::ps) f' w':=λf' w' h=>g1 (λos=>tf (agg i) (asAggE v λcs=>cnd (cs.size=os.2/\os.1+os.2<=cells.length) (fillC agg place (cells.take os.1++cs.toList++cells.drop (os.1+os.2)) ps f'))
   (na v (cnd (os.2=1/\os.1+1<=cells.length) (fillC agg place (cells.set os.1 v) ps f')))) w' h
  cases ha:agg i with
  |true=>
   rw[ha]at h1;obtain⟨cs,h2,g2⟩:=asAggE_any (show asAggE v _ w from h1);obtain⟨h3,g3⟩:=cnd_any h2;obtain⟨c,h4,g4⟩:=fillC_any h3;refine⟨c,h4,λf' w' h=>hh f' w' ?_⟩;rw[ha];exact g2 (λcs=>cnd (cs.size=os.2/\os.1+os.2<=cells.length) (fillC agg place (cells.take os.1++cs.toList++cells.drop (os.1+os.2)) ps f')) _ (g3 _ _ (g4 _ _ h))
  |false=>
   rw[ha]at h1;obtain⟨h2,g2⟩:=na_any (show na v _ w from h1);obtain⟨h3,g3⟩:=cnd_any h2;obtain⟨c,h4,g4⟩:=fillC_any h3;refine⟨c,h4,λf' w' h=>hh f' w' ?_⟩;rw[ha];exact g2 _ _ (g3 _ _ (g4 _ _ h))
theorem ndParts_any{e:Env}:∀{l:List (Nat×Operand)} {f:List (Nat×Value)->Pr},ndParts e l f w->∃c,f c w/\∀(f':List (Nat×Value)->Pr) w',f' c w'->ndParts e l f' w'
 |[],f,h=>⟨[],h,λ_ _ h=>h⟩
 |(i,x)::l,f,h=>by
  obtain⟨v,h1,g1⟩:=nd_any h;obtain⟨c,h2,g2⟩:=ndParts_any h1;exact⟨(i,v)::c,h2,λf' w' h=>g1 _ _ (g2 (λvs=>f' ((i,v)::vs)) _ h)⟩
theorem cop_any{o:Oper}(hr:isPure P o=true)(h:cop P o e k w):∃x v,x.v? =some v/\k x w/\∀(k':EV->Pr) w',k' x w'->cop P o e k' w':=by
 obtain⟨dst,op,ty,pos,after,guard⟩:=o;cases op<;>simp only[isPure,Bool.false_eq_true]at hr<;>simp only[cop]at h⊢
 case move x=>exact nd_self h
 case assign x=>exact nd_self h
 case pick c x y=>
  unfold cpick at *;rcases cbr_any h with⟨h,g⟩|⟨h,g⟩
  ·obtain⟨z,v,h1,h2,h3⟩:=nd_self h
   exact⟨z,v,h1,h2,λk' w' h=>g _ _ _ (h3 k' w' h)⟩
  ·obtain⟨z,v,h1,h2,h3⟩:=nd_self h
   exact⟨z,v,h1,h2,λk' w' h=>g _ _ _ (h3 k' w' h)⟩
 case nilCheck x=>
  obtain⟨v,h1,h2⟩:=nd_any h;clear h;cases v with
  |pointer p=>
   obtain⟨ad,h3,h4⟩:=deref_any h1;exact⟨_,_,rfl,h3,λk' w' h=>h2 _ _ (h4 _ _ h)⟩
  |func fn f1 f2=>exact⟨_,_,rfl,h1.2,λk' w' h=>h2 _ _ ⟨h1.1,h⟩⟩
  |int _ _=>exact h1.elim
  |bool _=>exact h1.elim
  |string _=>exact h1.elim
  |nilIface=>exact h1.elim
  |slice _ _ _=>exact h1.elim
  |map _=>exact h1.elim
  |float _ _=>exact(h1.1:False).elim
  |complex _ _ _=>exact(h1.1:False).elim
  |chan _=>exact(h1.1:False).elim
  |nilFunc=>exact(h1.1:False).elim
  |iface _ _=>exact(h1.1:False).elim
  |agg _=>exact(h1.1:False).elim
  |tuple _=>exact(h1.1:False).elim
 case binOp op t x y ty2=>
  cases hb:(nilOp y&&ifcT P t)with
  |true=>
   rw[hb]at h;simp only[tf]at h⊢;obtain⟨u,h1,h2⟩:=nd_any h;obtain⟨neg,h3,g3⟩:=eqOp_any (f:=λneg=>owe (isI u) (k (.val (.bool (if neg then !isNilI u else isNilI u))))) h1;exact⟨_,_,rfl,h3.2,λk' w' h=>h2 _ _ (g3 (λneg=>owe (isI u) (k' (.val (.bool (if neg then !isNilI u else isNilI u))))) _ ⟨h3.1,h⟩)⟩
  |false=>
  rw[hb]at h;simp only[tf]at h⊢;obtain⟨u,h1,h2⟩:=nd_any h;obtain⟨v,h3,h4⟩:=nd_any h1;clear h h1;cases hi:ifcT P t with
  |true=>
   rw[hi]at h3;obtain⟨neg,h4',g4⟩:=eqOp_any (f:=λneg=>ceqI P u v λb=>k (.val (.bool (if neg then !b else b)))) h3;obtain⟨r,h5,h6⟩:=ceqI_any h4';exact⟨_,_,rfl,h5,λk' w' h=>h2 _ _ (h4 _ _ (by exact g4 (λneg=>ceqI P u v λb=>k' (.val (.bool (if neg then !b else b)))) _ (h6 (λb=>k' (.val (.bool (if neg then !b else b)))) _ h)))⟩
  |false=>
  rw[hi]at h3;cases hp:ptr2 P t x y with
  |true=>
   rw[hp]at h3;obtain⟨neg,h4',g4⟩:=eqOp_any (f:=λneg=>ptrA u v λb=>k (.val (.bool (if neg then !b else b)))) h3;obtain⟨r,h5,h6⟩:=ptrA_any h4';exact⟨_,_,rfl,h5,λk' w' h=>h2 _ _ (h4 _ _ (by exact g4 (λneg=>ptrA u v λb=>k' (.val (.bool (if neg then !b else b)))) _ (h6 (λb=>k' (.val (.bool (if neg then !b else b)))) _ h)))⟩
  |false=>
  rw[hp]at h3;replace h4:∀(f':Value->Pr) w',f' v w'->nd (Env.ev e y) f' w':=h4;cases hn:numStr v u with
  |true=>
   rw[hn]at h3;obtain⟨r,h5,h6⟩:=cbin_any h3;exact⟨_,_,rfl,h5,λk' w' h=>h2 _ _ (h4 _ _ (by rw[hn];exact h6 _ _ h))⟩
  |false=>
   rw[hn]at h3;obtain⟨neg,h4',g4⟩:=eqOp_any (f:=λneg=>ceqA P t u v λb=>k (.val (.bool (if neg then !b else b)))) h3;obtain⟨r,h5,h6⟩:=ceqA_any h4';exact⟨_,_,rfl,h5,λk' w' h=>h2 _ _ (h4 _ _ (by rw[hn];exact g4 (λneg=>ceqA P t u v λb=>k' (.val (.bool (if neg then !b else b)))) _ (h6 (λb=>k' (.val (.bool (if neg then !b else b)))) _ h)))⟩
 case unOp op t x=>exact cun_any h
 case makeInterface t x=>
  obtain⟨v,h1,g1⟩:=nd_any h;obtain⟨d,h2,g2⟩:=opt_any h1;cases hi:isIfc d with
  |true=>rw[hi]at h2;exact h2.elim
  |false=>
   rw[hi]at h2;refine⟨_,_,rfl,h2,λk' w' h=>g1 _ _ (g2 (λd=>tf (isIfc d) fls (k' (.val (.iface t v)))) _ ?_)⟩;rw[hi];exact h
 case build t ps=>
  obtain⟨z,h1,g1⟩:=opt_any h;obtain⟨l,h2,g2⟩:=ndParts_any h1;obtain⟨d,h3,g3⟩:=opt_any h2;clear h h1 h2;cases d<;>first|exact h3.elim|skip
  all_goals
   obtain⟨q,h4,g4⟩:=opt_any h3;obtain⟨cs,h5,g5⟩:=fillC_any h4;exact⟨_,_,rfl,h5,λk' w' h=>g1 _ _ (g2 _ _ (g3 _ _ (g4 _ _ (g5 (λcs=>k' (.val (.agg cs.toArray))) _ h))))⟩
 case makeFunc fn f c=>
  obtain⟨u,h1,h2⟩:=ndL_any h;obtain⟨v,h3,h4⟩:=ndL_any h1;exact⟨_,_,rfl,h3,λk' w' h=>h2 _ _ (h4 _ _ h)⟩
 case slice t x lo hi mx=>
  obtain⟨v,h1,g1⟩:=nd_any h;obtain⟨l,h2,g2⟩:=ndO_any h1;obtain⟨hh,h3,g3⟩:=ndO_any h2;obtain⟨m,h4,g4⟩:=ndO_any h3;clear h h1 h2 h3;cases v<;>first|exact h4.elim|skip
  ·obtain⟨d,h5,g5⟩:=opt_any h4
   clear h4;cases d<;>first|exact h5.elim|skip
   cases m<;>first|exact h5.elim|skip
   obtain⟨r,h6,g6⟩:=slcStr_any h5;exact⟨_,_,rfl,h6,λk' w' h=>g1 _ _ (g2 _ _ (g3 _ _ (g4 _ _ (g5 _ _ (g6 _ _ h)))))⟩
  ·obtain⟨d,h5,g5⟩:=opt_any h4
   obtain⟨i,h6,g6⟩:=opt_any h5;obtain⟨r,h7,g7⟩:=slc_any h6;exact⟨_,_,rfl,h7,λk' w' h=>g1 _ _ (g2 _ _ (g3 _ _ (g4 _ _ (g5 _ _ (g6 _ _ (g7 (λs=>k' (.val (.slice s.a s.len s.cap))) _ h))))))⟩
 case fieldAddr s x f=>
  obtain⟨v,h1,g1⟩:=nd_any h;obtain⟨ad,h2,g2⟩:=asPtr_any h1;obtain⟨fl,h3,g3⟩:=opt_any h2;obtain⟨i,h4,g4⟩:=opt_any h3;obtain⟨h5,g5⟩:=cnd_any h4;exact⟨_,_,rfl,h5,λk' w' h=>g1 _ _ (g2 _ _ (g3 _ _ (g4 _ _ (g5 _ _ h))))⟩
 case field s x f=>
  obtain⟨v,h1,g1⟩:=nd_any h;obtain⟨ad,h2,g2⟩:=asAggE_any h1;obtain⟨fl,h3,g3⟩:=opt_any h2;obtain⟨i,h4,g4⟩:=opt_any h3;obtain⟨d,h5,g5⟩:=opt_any h4;clear h h1 h2 h3 h4;cases hb:isAggT P fl.type with
  |true=>
   rw[hb]at h5;exact⟨_,_,rfl,h5,λk' w' h=>g1 _ _ (g2 _ _ (g3 _ _ (g4 _ _ (g5 _ _ (by rw[hb];exact h)))))⟩
  |false=>
   rw[hb]at h5;obtain⟨c,h6,g6⟩:=opt_any h5;exact⟨_,_,rfl,h6,λk' w' h=>g1 _ _ (g2 _ _ (g3 _ _ (g4 _ _ (g5 _ _ (by rw[hb];exact g6 (λc=>k' (.val c)) _ h)))))⟩
 case indexAddr t x ix=>
  obtain⟨v,h1,g1⟩:=nd_any h;obtain⟨iv,h2,g2⟩:=nd_any h1;obtain⟨n,h3,g3⟩:=asIntE_any h2;clear h h1 h2;cases v<;>first|exact h3.elim|skip
  ·obtain⟨d,h5,g5⟩:=opt_any h3
   clear h3;cases d<;>first|exact h5.elim|skip
   obtain⟨i,h6,g6⟩:=opt_any h5;obtain⟨hb,h7⟩:=h6;obtain⟨ad,h8,g8⟩:=deref_any h7;exact⟨_,_,rfl,h8,λk' w' h=>g1 _ _ (g2 _ _ (g3 _ _ (g5 _ _ (g6 _ _ ⟨hb,g8 _ _ h⟩))))⟩
  ·obtain⟨d,h5,g5⟩:=opt_any h3
   obtain⟨i,h6,g6⟩:=opt_any h5;obtain⟨hb,h7⟩:=h6;obtain⟨ad,h8,g8⟩:=deref_any h7;exact⟨_,_,rfl,h8,λk' w' h=>g1 _ _ (g2 _ _ (g3 _ _ (g5 _ _ (g6 _ _ ⟨hb,g8 _ _ h⟩))))⟩
 case convert s d x=>
  rw[Bool.and_eq_true]at hr;obtain⟨v,h1,g1⟩:=nd_any h;unfold cconv at h1;obtain⟨s',hs,h2⟩:=opt_sound h1;obtain⟨d',hd,h3⟩:=opt_sound h2;have hs2:=hr.1;have hd2:=hr.2;unfold isIntT at hs2 hd2;rw[hs]at hs2;rw[hd]at hd2;cases s'<;>(try(simp at hs2;done));cases d'<;>(try(simp at hd2;done));cases v<;>first|exact h3.elim|skip
  refine⟨_,_,rfl,h3,λk' w' h=>g1 _ _ ?_⟩;unfold cconv;rw[hs,hd];exact h
 case call c=>
  obtain⟨callee,args,ats⟩:=c;cases callee<;>(try(simp at hr;done));rename_i b;obtain⟨vs,h1,g1⟩:=ndL_any h;obtain⟨x,v,hx,h2,g2⟩:=cbuiltin_any (P:=P) (show pureB P b ats.toList=true from hr) h1;exact⟨x,v,hx,h2,λk' w' h=>g1 _ _ (g2 k' w' h)⟩
 case extract t ix=>
  cases hx:Env.ev e t with
  |nx0=>
   rw[hx]at h
   match ix,h with
   |0,h=>exact⟨.lit false,_,rfl,h,λk' w' h'=>h'⟩
   |_+1,h=>exact h.elim
  |nx1 k1 v1=>
   rw[hx]at h
   match ix,h with
   |0,h=>exact⟨.lit true,_,rfl,h,λk' w' h'=>h'⟩
   |1,h=>exact⟨.val k1,_,rfl,h,λk' w' h'=>h'⟩
   |2,h=>exact⟨.val v1,_,rfl,h,λk' w' h'=>h'⟩
   |_+3,h=>exact h.elim
  |ent k1 v1=>
   rw[hx]at h
   match ix,h with
   |0,h=>
    obtain⟨l,h1,g1⟩:=opt_any (show shOne P _ _ w from h);obtain⟨s,h2,g2⟩:=opt_any h1;obtain⟨p,hp,h3⟩:=h2;exact⟨_,_,rfl,h3,λk' w' h'=>g1 _ _ (g2 (λs w=>sayC s k1 (λp=>k' (.val (valC s p))) w) _ ⟨p,hp,h'⟩)⟩
   |1,h=>
    obtain⟨l,h1,g1⟩:=opt_any (show shOne P _ _ w from h);obtain⟨s,h2,g2⟩:=opt_any h1;obtain⟨p,hp,h3⟩:=h2;exact⟨_,_,rfl,h3,λk' w' h'=>g1 _ _ (g2 (λs w=>sayC s v1 (λp=>k' (.val (valC s p))) w) _ ⟨p,hp,h'⟩)⟩
   |_+2,h=>exact h.elim
  |no=>rw[hx]at h;exact h.elim
  |lit b=>rw[hx]at h;exact h.elim
  |val v=>
   rw[hx]at h;cases v<;>first|exact h.elim|skip
   obtain⟨c,h2,g2⟩:=opt_any (show opt _ _ w from h);exact⟨_,_,rfl,h2,λk' w' h=>g2 (λc=>k' (.val c)) _ h⟩
end
def XW(w w':World):Prop:=w.heap.size<=w'.heap.size/\∀b,b<w.heap.size->w'.heap[b]? =w.heap[b]?
theorem XW.refl(w:World):XW w w:=⟨Nat.le_refl _,λ_ _=>rfl⟩
theorem XW.trans{w w1 w2:World}(h:XW w w1)(k:XW w1 w2):XW w w2:=⟨Nat.le_trans h.1 k.1,λb hb=>(k.2 b (Nat.lt_of_lt_of_le hb h.1)).trans (h.2 b hb)⟩
theorem XW.alloc(w:World)(o:Obj):XW w (w.alloc o):=⟨by simp[World.size_alloc],λb hb=>by
 simp only[World.alloc];rw[Array.getElem?_push];split
 ·omega
 ·rfl⟩
theorem XW.drew(w:World):XW w w.drew:=⟨Nat.le_refl _,λb _=>rfl⟩
def PX{α:Type}(P:Program)(s:Sem α):Prop:=∀w v w',s.run P w=.ok v w'->XW w w'
def NoOk{α:Type}(P:Program)(s:Sem α):Prop:=∀w v w',s.run P w≠.ok v w'
section
variable{P:Program}
theorem PX.bind{α β:Type}{s:Sem α}{f:α->Sem β}(h:PX P s)(k:∀v,PX P (f v)):PX P (s>>=f):=by
 intro w v w' hr;rw[Sem.run_bind]at hr;cases hs:s.run P w with
 |ok u w1=>rw[hs]at hr;exact(h _ _ _ hs).trans (k u _ _ _ hr)
 |halt x w1=>rw[hs]at hr;cases hr
theorem NoOk.bind{α β:Type}{s:Sem α}{f:α->Sem β}(k:∀v,NoOk P (f v)):NoOk P (s>>=f):=by
 intro w v w' hr;rw[Sem.run_bind]at hr;cases hs:s.run P w with
 |ok u w1=>rw[hs]at hr;exact k u _ _ _ hr
 |halt x w1=>rw[hs]at hr;cases hr
theorem NoOk.px{α:Type}{s:Sem α}(h:NoOk P s):PX P s:=λw v w' hr=>(h w v w' hr).elim
theorem PX.pure{α:Type}(v:α):PX P (Pure.pure v:Sem α):=by
 intro w u w' h;rw[Sem.run_pure]at h;cases h;exact XW.refl _
theorem NoOk.stuck{α:Type}{s:String}:NoOk P (Go.stuck s:Sem α):=λw v w' h=>by cases h
theorem NoOk.unsupported{α:Type}{s:Unsupported}:NoOk P (Go.unsupported s:Sem α):=λw v w' h=>by cases h
theorem NoOk.error{α:Type}{s:String}:NoOk P (runtimePanic (.error s):Sem α):=NoOk.bind λp w v w' h=>by cases h
theorem PX.newObj(o:Obj):PX P (Go.newObj o):=by
 intro w v w' h;have:(Go.newObj o).run P w=.ok w.heap.size (w.alloc o):=rfl;rw[this]at h;cases h;exact XW.alloc _ _
theorem PX.choose(q:Question):PX P (Go.choose q):=by
 intro w v w' h;rw[run_choose_drew]at h;split at h
 ·cases h;exact XW.refl _
 ·cases h;exact XW.drew _
theorem PX.program:PX P Go.program:=by
 intro w v w' h;cases h;exact XW.refl _
theorem PX.underlying(t:TypeId):PX P (Go.underlying t):=PX.bind PX.program λp=>by
 split
 ·exact PX.pure _
 ·exact NoOk.stuck.px
theorem PX.typeInfo(t:TypeId):PX P (Go.typeInfo t):=PX.bind PX.program λp=>by
 split
 ·exact PX.pure _
 ·exact NoOk.stuck.px
theorem PX.sizeOf(t:TypeId):PX P (Go.sizeOf t):=PX.bind (PX.typeInfo t) λ_=>PX.pure _
theorem PX.zeroValue(t:TypeId):PX P (Go.zeroValue t):=PX.bind (PX.typeInfo t) λ_=>by
 split
 ·exact PX.pure _
 ·exact NoOk.unsupported.px
theorem PX.newRow(t:TypeId)(c:Array Value):PX P (Go.newRow t c):=PX.bind (PX.newObj _) λ_=>PX.pure _
theorem PX.newVar(t:TypeId)(v:Value):PX P (Go.newVar t v):=PX.newRow _ _
theorem PX.askRoom(n:Nat):PX P (Go.askRoom n):=by
 intro w v w' h;rw[run_askRoom]at h;cases h;exact XW.refl _
theorem PX.load(a:Addr):PX P (Go.load a):=by
 intro w v w' h;rw[run_load]at h;split at h
 ·cases h;exact XW.refl _
 ·split at h
  ·cases h;exact XW.refl _
  ·cases h
theorem PX.loadCellsFrom(a:Addr):∀(n i:Nat) (acc:Array Value),PX P (Go.loadCellsFrom a i n acc)
 |0,_,_=>PX.pure _
 |n+1,i,acc=>PX.bind (PX.load _) λv=>PX.loadCellsFrom a n (i+1) _
theorem PX.firstCells(size n:Nat)(x:Value):PX P (Builtin.firstCells size n x):=by
 unfold Builtin.firstCells;split
 ·exact PX.loadCellsFrom _ _ _ _
 ·exact PX.pure _
 ·exact PX.pure _
 ·exact NoOk.stuck.px
theorem PX.lenOf(x:Value):PX P (Builtin.lenOf x):=by
 unfold Builtin.lenOf;split
 ·exact PX.pure _
 ·exact PX.pure _
 ·exact NoOk.stuck.px
theorem PX.mark(m:Mark):PX P (Go.mark m):=λw v w' h=>by
 have:(Go.mark m).run P w=.ok () w:=rfl;rw[this]at h;cases h;exact XW.refl _
theorem PX.frozen(a:Addr):PX P (Go.frozen a):=λw v w' h=>by
 rw[run_frozen]at h;cases h;exact XW.refl _
theorem PX.shape(r:Nat):PX P (Go.shape r):=λw v w' h=>by
 rw[run_shape]at h;cases h;exact XW.refl _
theorem PX.ite{α:Type}{c:Prop}[Decidable c]{x y:Sem α}(hx:PX P x)(hy:PX P y):PX P (if c then x else y):=by
 split
 ·exact hx
 ·exact hy
theorem PX.holdsCells(a:Addr)(n:Nat):PX P (Builtin.holdsCells a n):=by
 unfold Builtin.holdsCells;refine PX.bind (PX.shape _) λ_=>?_;split<;>exact PX.pure _
theorem PX.mayShare(size sLen n:Nat)(base:Option Addr)(x:Value):PX P (Builtin.mayShare size sLen n base x):=by
 unfold Builtin.mayShare
 repeat' first
  |exact PX.pure _
  |exact PX.holdsCells _ _
  |exact PX.frozen _
  |(refine PX.bind ?_ λ_=>?_)
  |refine PX.ite ?_ ?_
  |split
  |dsimp only
theorem PX.asInt(x:Value):PX P (Go.asInt x):=by
 unfold Go.asInt Go.asIntOf;refine PX.bind ?_ λ_=>PX.pure _;split<;>first
  |exact PX.pure _
  |exact NoOk.stuck.px
  |exact NoOk.unsupported.px
set_option maxHeartbeats 4000000 in
theorem PX.appendNil(ts:Array TypeId)(ty:TypeId)(x:Value):PX P (Builtin.append_ ts ty #[.slice none 0 0,x]):=by
 unfold Builtin.append_;cases h0:ts[0]?with
 |none=>exact NoOk.stuck.px
 |some t=>
  simp only[List.getElem?_toArray,List.getElem?_cons_zero,List.getElem?_cons_succ]
  repeat' first
   |exact PX.pure _
   |exact NoOk.stuck.px
   |exact NoOk.unsupported.px
   |exact NoOk.error.px
   |exact PX.newRow _ _
   |exact PX.firstCells _ _ _
   |exact PX.zeroValue _
   |exact PX.typeInfo _
   |exact PX.underlying _
   |exact PX.sizeOf _
   |exact PX.choose _
   |exact PX.askRoom _
   |exact PX.lenOf _
   |exact PX.asInt _
   |exact PX.mark _
   |exact PX.mayShare _ _ _ _ _
   |refine PX.ite ?_ ?_
   |(refine PX.bind ?_ λ_=>?_)
   |split
   |dsimp only
def isNil3:Value->Bool
 |.slice none l c=>Nat.beq l 0&&Nat.beq c 0
 |_=>false
def nilSl:Operand->Bool
 |.const v=>isNil3 v
 |_=>false
def isAppend:Builtin->Bool
 |.append=>true
 |_=>false
def appNil(c:Call):Bool:=
 match c.callee with
 |.builtin b=>isAppend b&&(Nat.beq c.args.size 2&&(match c.args[0]?with|some x=>nilSl x|none=>false))
 |_=>false
def growO(P:Program)(o:Oper):Bool:=
 match o.op with
 |.alloc _|.box _ _|.buildSlice _ _ _=>true
 |.call c=>appNil c||isRead P o
 |_=>isRead P o
theorem PX.alloc(t:TypeId)(v:Value):PX P (Instr.alloc t true v):=by
 unfold Instr.alloc;refine PX.bind (PX.zeroValue _) λz=>?_;exact PX.bind (PX.newVar _ _) λ_=>PX.pure _
theorem PX.box(t:TypeId)(v:Value):PX P (Instr.box t v):=by
 unfold Instr.box;exact PX.bind (PX.newVar _ _) λ_=>PX.pure _
theorem PX.buildSlice(t:TypeId)(n:Nat)(ps:Array (Nat×Value)):PX P (Instr.buildSlice t n ps):=by
 unfold Instr.buildSlice
 repeat' first
  |exact PX.pure _
  |exact NoOk.stuck.px
  |exact NoOk.unsupported.px
  |exact PX.newRow _ _
  |exact PX.zeroValue _
  |exact PX.underlying _
  |exact PX.sizeOf _
  |refine PX.ite ?_ ?_
  |(refine PX.bind ?_ λ_=>?_)
  |split
  |dsimp only
theorem grow_exec{o:Oper}(h:growO P o=true)(hr:isRead P o=false)(a:Act)(w:World)(nx:Next)(w':World)(hx:(execOp a.eval o).run P w=.ok nx w'):XW w w'/\∃v,nx=.value v:=by
 obtain⟨dst,op,ty,pos,after,guard⟩:=o;have val:∀s:Sem Value,PX P s->(do Pure.pure (Next.value (<-s)):Sem Next).run P w=.ok nx w'->XW w w'/\∃v,nx=.value v:=by
  intro s hs h1;rw[Sem.run_bind]at h1;cases h2:s.run P w with
  |ok u w1=>
   rw[h2]at h1;have h3:(Result.ok (Next.value u) w1:Result Next)=.ok nx w':=h1;cases h3;exact⟨hs _ _ _ h2,u,rfl⟩
  |halt x w1=>rw[h2]at h1;cases h1
 unfold growO at h;cases op
 case alloc T=>
  unfold execOp at hx;dsimp only at hx;exact val _ (PX.alloc _ _) hx
 case box T x=>
  unfold execOp at hx;dsimp only at hx;exact val _ (PX.box _ _) hx
 case buildSlice T n ps=>
  unfold execOp at hx;dsimp only at hx;exact val _ (PX.buildSlice _ _ _) hx
 case call c=>
  dsimp only at h;rw[hr,Bool.or_false]at h;obtain⟨callee,args,ats⟩:=c;unfold appNil at h;cases callee<;>first|(cases h;done)|skip
  rename_i b;simp only[Bool.and_eq_true]at h;obtain⟨hb,hs,h0⟩:=h;have hs2:args.size=2:=Nat.eq_of_beq_eq_true hs;cases b<;>first|(cases hb;done)|skip
  obtain⟨l⟩:=args
  match l,hs2,h0,hx with
  |[x,y],_,h0,hx=>
   have hxv:a.eval x=.slice none 0 0:=by
    have h1:nilSl x=true:=h0;obtain⟨v,rfl,h2⟩:∃v,x=.const v/\isNil3 v=true:=by
     cases x with
     |const v=>exact⟨v,rfl,h1⟩
     |_=>cases h1
    show v=_;unfold isNil3 at h2;split at h2
    ·rw[Bool.and_eq_true]at h2
     rw[Nat.eq_of_beq_eq_true h2.1,Nat.eq_of_beq_eq_true h2.2]
    ·cases h2
   refine val (Builtin.append_ ats ty #[.slice none 0 0,a.eval y]) (PX.appendNil _ _ _) ?_;unfold execOp at hx;dsimp only at hx;unfold resolve at hx;dsimp only at hx;rw[Sem.run_bind,Sem.run_pure,Result.andThen_ok]at hx;dsimp only[invoke]at hx;have hm:(Array.map a.eval {toList:=[x,y]})= #[.slice none 0 0,a.eval y]:=by rw[<-hxv];simp
   rw[hm]at hx;exact hx
 all_goals(dsimp only at h;rw[hr]at h;cases h)
def ldO(P:Program)(o:Oper):Bool:=
 match o.op with
 |.load _ _=>true
 |.lookup _ _ _ _=>true
 |.convert _ d _=>isStrT P d
 |_=>false
theorem cell_XW{w w':World}(h:XW w w'){a:Addr}{v:Value}(hc:w.cell? a=some v):w'.cell? a=some v:=by
 have hlt:a.block<w.heap.size:=by
  rcases Nat.lt_or_ge a.block w.heap.size with h'|h'
  ·exact h'
  ·simp[World.cell?,Array.getElem?_eq_none h']at hc
 unfold World.cell? at hc⊢;rw[h.2 _ hlt];exact hc
theorem readsAt_XW{w w':World}(h:XW w w'){a:Addr}:∀{l:List Value} {i:Nat},readsAt w a i l->readsAt w' a i l
 |[],_,_=>trivial
 |_::_,_,hr=>⟨cell_XW h hr.1,readsAt_XW h hr.2⟩
theorem readsO_XW{w w':World}(h:XW w w'){a:Option Addr}{l:List Value}(hr:readsO w a l):readsO w' a l:=by
 cases a with
 |none=>exact hr
 |some b=>exact readsAt_XW h hr
theorem mapES_XW{w w':World}(h:XW w w'){r:Option Nat}{es:Array MapEntry}(hr:mapES w r es):mapES w' r es:=by
 cases r with
 |none=>exact hr
 |some b=>
  obtain⟨c,hc⟩:=hr;have hlt:b<w.heap.size:=by
   rcases Nat.lt_or_ge b w.heap.size with h'|h'
   ·exact h'
   ·rw[Array.getElem?_eq_none h']at hc;cases hc
  exact⟨c,(h.2 _ hlt).trans hc⟩
theorem cop_grow{e:Env}{w:World}{k:EV->Pr}{o:Oper}(hr:ldO P o=true)(h:cop P o e k w):∃x v,x.v? =some v/\k x w/\∀(k':EV->Pr) w',XW w w'->k' x w'->cop P o e k' w':=by
 obtain⟨dst,op,ty,pos,after,guard⟩:=o;cases op<;>simp only[ldO,Bool.false_eq_true]at hr<;>simp only[cop]at h⊢
 case load t x=>
  obtain⟨p,h1,g1⟩:=nd_any h;obtain⟨ad,h2,g2⟩:=asPtr_any h1;obtain⟨i,h3,g3⟩:=opt_any (show opt (P.info? t) _ w from h2);cases hag:isAggT P t with
  |true=>
   rw[hag]at h3;obtain⟨l,h4,g4⟩:=opt_any (show opt (cellsFuel P 10 t) _ w from h3);obtain⟨h5,g5⟩:=cnd_any h4;obtain⟨p,h6,h7⟩:=h5;refine⟨_,_,rfl,h7,λk' w' hx hk=>g1 _ _ (g2 _ _ (g3 (λi=>tf (isAggT P t) (opt (cellsFuel P 10 t) λl=>cnd (l.length=i.size) (ldA l ad λp=>k' (.val (.agg (valA l p).toArray)))) (opt (cellsFuel P 1 t) λl=>opt (one? l) λc=>ldC c ad λp=>k' (.val (valC c p)))) _ ?_))⟩;rw[hag];exact g4 (λl=>cnd (l.length=i.size) (ldA l ad λp=>k' (.val (.agg (valA l p).toArray)))) _ (g5 _ _ ⟨p,readsAt_XW hx h6,hk⟩)
  |false=>
   rw[hag]at h3;obtain⟨l,h4,g4⟩:=opt_any (show opt (cellsFuel P 1 t) _ w from h3);obtain⟨c,h5,g5⟩:=opt_any h4;obtain⟨p,h6,h7⟩:=h5;refine⟨_,_,rfl,h7,λk' w' hx hk=>g1 _ _ (g2 _ _ (g3 (λi=>tf (isAggT P t) (opt (cellsFuel P 10 t) λl=>cnd (l.length=i.size) (ldA l ad λp=>k' (.val (.agg (valA l p).toArray)))) (opt (cellsFuel P 1 t) λl=>opt (one? l) λc=>ldC c ad λp=>k' (.val (valC c p)))) _ ?_))⟩;rw[hag];exact g4 (λl=>opt (one? l) λc=>ldC c ad λp=>k' (.val (valC c p))) _ (g5 (λc=>ldC c ad λp=>k' (.val (valC c p))) _ ⟨p,cell_XW hx h6,hk⟩)
 case lookup t y ix ok=>
  obtain⟨v,h1,g1⟩:=nd_any h;obtain⟨key,h2,g2⟩:=nd_any h1;obtain⟨r,rfl,h3⟩:=asMap_sound h2;obtain⟨ke,h4,g4⟩:=opt_any h3;obtain⟨kd,h5,g5⟩:=opt_any h4;cases hs:simpleKey kd with
  |false=>rw[hs]at h5;exact h5.elim
  |true=>
   rw[hs]at h5;obtain⟨l,h6,g6⟩:=opt_any (show opt (cellsFuel P 1 ke.2) _ w from h5);obtain⟨sh,h7,g7⟩:=opt_any h6;obtain⟨z,h8,g8⟩:=opt_any h7;obtain⟨es,res,p,m1,m2,m3,h9⟩:=h8;have fin:∀(x:EV) (u:Value),x.v? =some u->k x w->(∀(k':EV->Pr) w',k' x w'->tf ok (k' (.val (.tuple #[valC sh p,.bool res.isSome]))) (k' (.val (valC sh p))) w')->
    ∃x v,x.v? =some v/\k x w/\∀(k':EV->Pr) w',XW w w'->k' x w'->nd (Env.ev e y) (λv=>nd (Env.ev e ix) λkey=>asMap v λr=>opt (mapElem P t) λke=>opt (P.underlying ke.1) λkd=>tf (simpleKey kd)
   (opt (cellsFuel P 1 ke.2) λl=>opt (one? l) λsh=>opt (zeroOf P ke.2) λz=>mapAt kd r key sh z λp b=>tf ok (k' (.val (.tuple #[valC sh p,.bool b]))) (k' (.val (valC sh p)))) fls) w':=by
     intro x u hx hk ht;refine⟨x,u,hx,hk,λk' w' hw hk'=>g1 _ _ (g2 _ _ (g4 _ _ (g5 _ _ ?_)))⟩;rw[hs];exact g6 _ _ (g7 _ _ (g8 (λz=>mapAt kd r key sh z λp b=>tf ok (k' (.val (.tuple #[valC sh p,.bool b]))) (k' (.val (valC sh p)))) _ ⟨es,res,p,mapES_XW hw m1,m2,m3,ht k' w' hk'⟩))
   cases ok with
   |true=>exact fin _ _ rfl h9 λk' w' h=>h
   |false=>exact fin _ _ rfl h9 λk' w' h=>h
 case convert s d x=>
  have hd:=isStrT_sound hr;obtain⟨v,h1,g1⟩:=nd_any h;obtain⟨sd,hsd,h2⟩:=opt_sound h1;obtain⟨dd,hdd,h3⟩:=opt_sound h2;rw[hd]at hdd;simp only[Option.some.injEq]at hdd;subst hdd;cases sd<;>first|exact h3.elim|skip
  ·cases v<;>first|exact h3.elim|skip
   rename_i b;refine⟨_,_,rfl,h3,λk' w' _ hk=>g1 _ _ ?_⟩;unfold cconv;rw[hsd,hd];exact hk
  ·rename_i el
   cases v<;>first|exact h3.elim|skip
   rename_i a l c;obtain⟨u,hu,h4⟩:=opt_sound h3;cases u<;>first|exact h4.elim|skip
   rename_i kd;cases kd<;>first|exact h4.elim|skip
   obtain⟨bl,b1,b2,h5⟩:=h4;refine⟨_,_,rfl,h5,λk' w' hx hk=>g1 _ _ ?_⟩;unfold cconv;rw[hsd,hd];show opt (P.underlying el) _ w';rw[hu];exact⟨bl,b1,readsO_XW hx b2,hk⟩
end
section
variable{P:Program}{ops:Array Oper}{md:Region.Mode}
def gslot(ops:Array Oper)(j:Nat):Option Tmp:=(ops[j]?).bind (·.dst)
def skipV:EV:=.val (.tuple #[])
def isSkip:EV->Bool
 |.val (.tuple vs)=>vs.toList.isEmpty
 |_=>false
theorem isSkip_v{x:EV}(h:isSkip x=true):x.v? =some undef:=by
 unfold isSkip at h;split at h
 ·rename_i vs
  have:vs= #[]:=by
   rw[List.isEmpty_iff]at h;exact Array.toList_eq_nil_iff.1 h
  rw[this];rfl
 ·cases h
theorem Ag.put_skip{e:Env}{a:Act}(h:Ag e a)(d:Option Tmp):Ag (Env.put e d skipV) (a.put d undef):=h.put d λu hu=>by
 simp only[skipV,EV.v?,Option.some.injEq]at hu;exact hu.symm
def opDefer:Op->Option (FuncId×Array Operand)
 |.defer ⟨.value (.func f),args,_⟩=>some (f,args)
 |_=>none
abbrev KP:=Option (Env->List PanicEntry->Pr)
def KP.at(kp:KP)(e:Env):Option (List PanicEntry->Pr):=
 match kp with
 |none=>none
 |some q=>some (q e)
def cDo(P:Program)(kp:KP)(df:Bool)(o:Oper)(e:Env)(k:Env->Pr):Pr:=
 orElse (opDefer o.op) (λx=>tf (df&&e.ds.isEmpty) (ndL (x.2.toList.map (Env.ev e)) λargs=>k (Env.put (Env.dfr e {target:=.fn (.func x.1) #[],args:=args.toArray}) o.dst skipV)) fls)
  (copK P (kp.at e) o e λv=>k (Env.put e o.dst v))
def cGo(P:Program)(kp:KP)(df:Bool)(o:Oper)(e:Env)(d:Tmp)(b want:Bool)(k:Env->Pr):Pr:=
 tf (b==want) (cDo P kp df o (Env.set e d (.lit b)) k) (k (Env.put (Env.set e d (.lit b)) o.dst skipV))
def cOne(P:Program)(kp:KP)(df:Bool)(ops:Array Oper)(o:Oper)(e:Env)(k:Env->Pr):Pr:=
 match o.guard with
 |none=>cDo P kp df o e k
 |some (j,want)=>opt (gslot ops j) λd=>tf (isSkip (Env.get e d)) (k (Env.put e o.dst skipV)) (cbr (Env.get e d) (cGo P kp df o e d true want k) (cGo P kp df o e d false want k))
def noDefer(ops:Array Oper):Bool:=ops.toList.all λo=>match o.op with|.defer _=>false|_=>true
theorem noDefer_spec(h:noDefer ops=true){i:Nat}{o:Oper}(hi:ops[i]? =some o)(c:Call):o.op≠.defer c:=by
 intro hc;have:=List.all_eq_true.1 h o (by simpa using Array.mem_of_getElem? hi);simp[hc]at this
def wrOps(ops:Array Oper):List Nat:=(match noDefer ops with|true=>[]|false=>[dfrN])++ops.toList.filterMap (·.dst)
theorem mem_wrOps{i:Nat}{o:Oper}{d:Tmp}(hi:ops[i]? =some o)(hd:o.dst=some d):d∈wrOps ops:=by
 unfold wrOps;rw[List.mem_append,List.mem_filterMap];exact .inr ⟨o,by simpa using Array.mem_of_getElem? hi,hd⟩
theorem gslot_mem{j:Nat}{d:Tmp}(h:gslot ops j=some d):d∈wrOps ops:=by
 unfold gslot at h;cases ho:ops[j]?with
 |none=>simp[ho]at h
 |some o=>simp[ho]at h;exact mem_wrOps ho h
theorem wanted_some{o:Oper}{j:Nat}{want b:Bool}{a:Act}{d:Tmp}(hg:o.guard=some (j,want))(hd:gslot ops j=some d)(hb:a.tmps[d]? =some (.bool b)):
 Region.wanted o (yielded ops a.tmps)=(b==want):=by
 unfold Region.wanted;rw[hg];unfold yielded;unfold gslot at hd;dsimp only;rw[hd];simp[hb]
theorem Ext.set(e:Env)(d:Nat)(v:EV)(W:List Nat)(hd:d∈W):Ext W e (Env.set e d v):=
 ⟨by simp,λt ht=>by rw[Env.get_set,if_neg];rintro⟨rfl,_⟩;exact ht hd,λ_=>rfl,λ_=>rfl⟩
theorem Ext.put'{e e1:Env}{i:Nat}{o:Oper}{v:EV}(hi:ops[i]? =some o)(h:Ext (wrOps ops) e e1):Ext (wrOps ops) e (Env.put e1 o.dst v):=
 h.trans (Ext.put e1 o.dst v) (λ_ h=>h) (λt ht=>by
  cases hd:o.dst with
  |none=>simp[hd]at ht
  |some d=>simp[hd]at ht;subst ht;exact mem_wrOps hi hd)
theorem cOne_cases{kp:KP}{df:Bool}{i:Nat}{o:Oper}{e:Env}{a:Act}{w:World}{k:Env->Pr}(he:Ag e a)(hi:ops[i]? =some o)(h:cOne P kp df ops o e k w):
 (Region.wanted o (yielded ops a.tmps)=true/\∃e1,Ag e1 a/\Ext (wrOps ops) e e1/\cDo P kp df o e1 k w)\/
 (Region.wanted o (yielded ops a.tmps)=false/\∃e1,Ag e1 a/\Ext (wrOps ops) e e1/\k (Env.put e1 o.dst skipV) w):=by
 unfold cOne at h;cases hg:o.guard with
 |none=>
  rw[hg]at h;exact .inl ⟨by simp[Region.wanted,hg],e,he,Ext.refl _ _,h⟩
 |some jw=>
  obtain⟨j,want⟩:=jw;rw[hg]at h;obtain⟨d,hd,h⟩:=opt_sound h;rcases tf_sound h with⟨hs,h⟩|⟨_,h⟩
  ·refine .inr ⟨?_,e,he,Ext.refl _ _,h⟩
   have hv:=he.get d _ (isSkip_v hs);unfold Region.wanted;rw[hg];unfold yielded;unfold gslot at hd;dsimp only;rw[hd];simp[hv,undef]
  obtain⟨b,hb,h⟩:=cbr_sound h;have hw:=wanted_some hg hd (he.get d _ hb);have he1:Ag (Env.set e d (.lit b)) a:=he.lit hb;have hx:Ext (wrOps ops) e (Env.set e d (.lit b)):=Ext.set _ _ _ _ (gslot_mem hd);have key:cGo P kp df o e d b want k w:=by
   rcases h with⟨rfl,h⟩|⟨rfl,h⟩<;>exact h
  rcases tf_sound key with⟨hbw,h⟩|⟨hbw,h⟩
  ·exact .inl ⟨hw.trans hbw,_,he1,hx,h⟩
  ·exact .inr ⟨hw.trans hbw,_,he1,hx,h⟩
theorem opDefer_some{op:Op}{f:FuncId}{args:Array Operand}(h:opDefer op=some (f,args)):∃ats,op=.defer ⟨.value (.func f),args,ats⟩:=by
 unfold opDefer at h;split at h<;>simp_all
theorem cDo_sound{r:Option Nat}{n:Nat}{kp:KP}{df:Bool}{Q:Exit->Act->World->Prop}{i:Nat}{o:Oper}{e:Env}{a:Act}{w:World}{k:Env->Pr}{K:Act->World->Prop}(hr:df=true->r=none)
 (he:Ag e a)(hi:ops[i]? =some o)(h:cDo P kp df o e k w)(hk:∀e' a' w',Ag e' a'->Ext (wrOps ops) e e'->k e' w'->K a' w')(hp:∀ch w',kpH (kp.at e) ch w'->Q (.panic ch) a w'):
 o.uponIn (wf r) n P a K Q ((o.semAt r a.eval).run P w):=by
 rcases orElse_sound h with⟨⟨f,args⟩,hop,h⟩|⟨_,h⟩
 ·rcases tf_sound h with⟨hb,h⟩|⟨_,h⟩
  rotate_left
  ·exact h.elim
  simp only[Bool.and_eq_true,List.isEmpty_iff]at hb;obtain⟨hdf,hds⟩:=hb;obtain rfl:=hr hdf;obtain⟨ats,heq⟩:=opDefer_some hop;have hin:dfrN∈wrOps ops:=by
   have:noDefer ops=false:=by
    cases hn:noDefer ops with
    |false=>rfl
    |true=>exact absurd heq (noDefer_spec hn hi _)
   simp[wrOps,this]
  have hmem:∀t,t∈o.dst.toList->t∈wrOps ops:=λt ht=>by
   cases hd:o.dst with
   |none=>simp[hd]at ht
   |some d=>simp[hd]at ht;subst ht;exact mem_wrOps hi hd
  obtain⟨dst,op,ty,pos,after,guard⟩:=o;dsimp only at heq hmem;subst heq;have h1:=ndL_sound he h;have hargs:(args.toList.map a.eval).toArray=args.map a.eval:=by rw[<-Array.toList_map,Array.toArray_toList]
  rw[hargs]at h1;have hrun:(execOp a.eval ⟨dst,.defer ⟨.value (.func f),args,ats⟩,ty,pos,after,guard⟩).run P w=.ok (.defer {target:=.fn (.func f) #[],args:=args.map a.eval}) w:=by
   simp[execOp,resolve,Deferred.ofValue,Act.eval,go_sem]
  rw[Oper.semAt_none,hrun,Oper.uponIn_defer];have hag:Ag (Env.dfr e {target:=.fn (.func f) #[],args:=args.map a.eval}) {a with defers:={target:=.fn (.func f) #[],args:=args.map a.eval}::a.defers}:=
   ⟨he.size,he.get,by rw[he.defers];simp[Env.dfr,marks,hds]⟩
  refine hk _ _ _ (hag.put_skip dst) ?_ h1;have hx:Ext (wrOps ops) e (Env.dfr e {target:=.fn (.func f) #[],args:=args.map a.eval}):=⟨rfl,λ_ _=>rfl,λ_=>rfl,λhn=>absurd hin hn⟩;exact hx.trans (Ext.put _ _ _) (λ_ h=>h) hmem
 ·exact copK_sound he h (λx v w' hg hk'=>hk _ _ _ (he.put o.dst hg) (Ext.put' hi (Ext.refl _ _)) hk') hp
theorem cOne_step{r:Option Nat}{n:Nat}{kp:KP}{df:Bool}{Q:Exit->Act->World->Prop}{i:Nat}{o:Oper}{e:Env}{a:Act}{w:World}{k:Env->Pr}{K:Act->World->Prop}(hr:df=true->r=none)(he:Ag e a)(hi:ops[i]? =some o)
 (h:cOne P kp df ops o e k w)(hk:∀e' a' w',Ag e' a'->Ext (wrOps ops) e e'->k e' w'->K a' w')
 (hp:∀e' a' ch w',Ag e' a'->Ext (wrOps ops) e e'->kpH (kp.at e') ch w'->Q (.panic ch) a' w'):wpOpIn (wf r) n P ops Q i K a w:=by
 unfold wpOpIn;rw[hi];dsimp only;rcases cOne_cases he hi h with⟨hw,e1,he1,hx,h1⟩|⟨hw,e1,he1,hx,h1⟩
 ·rw[if_pos hw]
  refine⟨λ_ _=>trivial,cDo_sound hr he1 hi h1 (λe2 a2 w2 h2 hx2 hk2=>hk _ _ _ h2 (hx.trans hx2 (λ_ h=>h) (λ_ h=>h)) hk2) (λch w' hq=>hp _ _ _ _ he1 hx hq)⟩
 ·rw[if_neg (by simp[hw])]
  exact⟨λ_ _=>trivial,hk _ _ _ (he1.put_skip o.dst) (Ext.put' hi hx) h1⟩
def cOps(P:Program)(kp:KP)(df:Bool)(ops:Array Oper):List Nat->Env->(Env->Pr)->Pr
 |[],e,k=>k e
 |i::l,e,k=>opt (ops[i]?) λo=>cOne P kp df ops o e λe'=>cOps P kp df ops l e' k
theorem cOps_sound{r:Option Nat}{n:Nat}{kp:KP}{df:Bool}{Q:Exit->Act->World->Prop}(hr:df=true->r=none):∀{l:List Nat} {e:Env} {a:Act} {w:World} {k:Env->Pr},Ag e a->cOps P kp df ops l e k w->
 (∀e' a' w',Ag e' a'->Ext (wrOps ops) e e'->k e' w'->Q .normal a' w')->
 (∀e' a' ch w',Ag e' a'->Ext (wrOps ops) e e'->kpH (kp.at e') ch w'->Q (.panic ch) a' w')->wpOpsIn (wf r) n P ops Q l a w
 |[],_,_,_,_,he,h,hk,_=>hk _ _ _ he (Ext.refl _ _) h
 |i::l,e,a,w,k,he,h,hk,hp=>by
  obtain⟨o,ho,h⟩:=opt_sound h;rw[wpOpsIn_cons];exact cOne_step hr he ho h (λe' a' w' he' hx h'=>cOps_sound hr he' h' (λe2 a2 w2 he2 hx2 h2=>hk _ _ _ he2 (hx.trans hx2 (λ_ h=>h) (λ_ h=>h)) h2)
   (λe2 a2 ch w2 he2 hx2 h2=>hp _ _ _ _ he2 (hx.trans hx2 (λ_ h=>h) (λ_ h=>h)) h2)) hp
variable{n:Nat}{Q:Exit->Act->World->Prop}
def yieldOf:Next->Option Value
 |.value v=>some v
 |.skip=>some undef
 |_=>none
theorem upon_yield{F:Fence}{o:Oper}{a:Act}{w:World}{next:Act->World->Prop}{nx:Next}{v:Value}(hv:yieldOf nx=some v)(h:next (a.put o.dst v) w):o.uponIn F n P a next Q (.ok nx w):=by
 cases nx<;>simp only[yieldOf,Option.some.injEq,reduceCtorEq]at hv
 ·subst hv;exact h
 ·subst hv;exact h
def wpOpR(P:Program)(ops:Array Oper)(n:Nat)(Q:Exit->Act->World->Prop)(i:Nat)(K:Act->World->Prop)(a:Act)(w:World):Prop:=
 match ops[i]?with
 |none=>K a w
 |some o=>
  if isRead P o=true then
   (Region.wanted o (yielded ops a.tmps)=true/\∃nx v,(execOp a.eval o).run P w=.ok nx w/\yieldOf nx=some v/\K (a.put o.dst v) w)\/
   (Region.wanted o (yielded ops a.tmps)=false/\K (a.put o.dst undef) w)
  else wpOpIn (wf none) n P ops Q i K a w
def wpAnyR(P:Program)(md:Region.Mode)(ops:Array Oper)(n:Nat)(Q:Exit->Act->World->Prop):Nat->Array Bool->Act->World->Prop
 |0,listed,a,w=>Region.ready md ops listed=[]/\Q .normal a w
 |fuel+1,listed,a,w=>
  (Region.ready md ops listed=[]->Q .normal a w)/\
  ∀i∈Region.ready md ops listed,wpOpR P ops n Q i (wpAnyR P md ops n Q fuel (listed.setIfInBounds i true)) a w
theorem wpOpR_mono{i:Nat}{K K':Act->World->Prop}{a:Act}{w:World}(h:∀a w,K a w->K' a w)(hh:wpOpR P ops n Q i K a w):wpOpR P ops n Q i K' a w:=by
 unfold wpOpR at *;cases ho:ops[i]?with
 |none=>rw[ho]at hh;exact h _ _ hh
 |some o=>
  simp only[ho]at hh⊢;by_cases hr:isRead P o=true
  ·rw[if_pos hr]at hh⊢
   rcases hh with⟨h1,nx,v,h2,hv,h3⟩|⟨h1,h2⟩
   ·exact .inl ⟨h1,nx,v,h2,hv,h _ _ h3⟩
   ·exact .inr ⟨h1,h _ _ h2⟩
  ·rw[if_neg hr]at hh⊢
   exact wpOpIn_mono h hh
theorem wpOpR_In{r:Option Nat}(hd:noDefer ops=true){i:Nat}{K:Act->World->Prop}{a:Act}{w:World}(hh:wpOpR P ops n Q i K a w):wpOpIn (wf r) n P ops Q i K a w:=by
 unfold wpOpR at hh;cases ho:ops[i]?with
 |none=>rw[ho]at hh;unfold wpOpIn;rw[ho];exact hh
 |some o=>
  simp only[ho]at hh;have hnd:=noDefer_spec hd ho;by_cases hr:isRead P o=true
  ·rw[if_pos hr]at hh
   unfold wpOpIn;rw[ho];dsimp only;rcases hh with⟨h1,nx,v,h2,hv,h3⟩|⟨h1,h2⟩
   ·rw[if_pos h1]
    refine⟨λ_ _=>trivial,?_⟩;rw[show(wf r).round=r from rfl,Oper.semAt_eq r a.eval o hnd,h2];exact upon_yield hv h3
   ·rw[if_neg (by simp[h1])]
    exact⟨λ_ _=>trivial,h2⟩
  ·rw[if_neg hr]at hh
   unfold wpOpIn at *;rw[ho]at *;dsimp only at *;split
   ·rename_i hw
    rw[if_pos hw]at hh;refine⟨λ_ _=>trivial,?_⟩;have h2:=hh.2;rw[show(wf r).round=r from rfl,Oper.semAt_eq r a.eval o hnd];rw[show(wf none).round=none from rfl,Oper.semAt_none]at h2;generalize(execOp a.eval o).run P w=res at *;cases res with
    |ok x w'=>cases x<;>exact h2
    |halt x w'=>cases x<;>exact h2
   ·rename_i hw
    rw[if_neg hw]at hh;exact⟨λ_ _=>trivial,hh.2⟩
theorem wpAnyR_In{r:Option Nat}(hd:noDefer ops=true):∀(fuel:Nat) (listed:Array Bool) (a:Act) (w:World),wpAnyR P md ops n Q fuel listed a w->wpAnyIn (wf r) n P md ops Q fuel listed a w
 |0,_,_,_,h=>h
 |fuel+1,listed,a,w,h=>⟨h.1,λi hi=>wpOpR_In hd (wpOpR_mono (λa w=>wpAnyR_In hd fuel _ a w) (h.2 i hi))⟩
theorem getD_both'{listed:Array Bool}{i:Nat}(h:listed.getD i true=false):listed.getD i false=false:=by
 rcases Nat.lt_or_ge i listed.size with h'|h'
 ·simp[h']at h⊢;exact h
 ·simp[Array.getElem?_eq_none h']at h
theorem first_gen{i:Nat}{oi:Oper}{v:Value}{B:Nat->Prop}{Y:Act->World->Prop}(hi:ops[i]? =some oi)
 (hYi:∀(K:Act->World->Prop) a w,Y a w->K (a.put oi.dst v) w->wpOpR P ops n Q i K a w)
 (hB:∀j oj,ops[j]? =some oj->B j->∃e∈oj.after,Region.binds md e=true/\(e.on=i\/B e.on)):
 ∀(fuel:Nat) (listed:Array Bool) (a:Act) (w:World),(∀j,B j->listed.getD j true=false)->
  (∀j oj,ops[j]? =some oj->j≠i->listed.getD j true=false->¬B j->∀(K:Act->World->Prop) a w,Y a w->wpOpR P ops n Q j K (a.put oi.dst v) w->
    wpOpR P ops n Q j (λa' w'=>Y a' w'/\K (a'.put oi.dst v) w') a w)->
  i∈Region.ready md ops listed->Y a w->wpAnyR P md ops n Q fuel (listed.setIfInBounds i true) (a.put oi.dst v) w->wpAnyR P md ops n Q (fuel+1) listed a w:=by
 intro fuel
 induction fuel with
 |zero=>
  intro listed a w hbl hput hr hy H;refine⟨λh=>(by rw[h]at hr;cases hr),λj hj=>?_⟩;by_cases hji:j=i
  ·subst hji;exact hYi _ _ _ hy H
  ·have:=ready_mono hj hji
   rw[H.1]at this;cases this
 |succ fuel ih=>
  intro listed a w hbl hput hr hy H;refine⟨λh=>(by rw[h]at hr;cases hr),λj hj=>?_⟩;by_cases hji:j=i
  ·subst hji;exact hYi _ _ _ hy H
  ·have h1:=H.2 j (ready_mono hj hji)
   obtain⟨hjun,oj,hoj,hall⟩:=mem_ready.1 hj;have hnB:¬B j:=by
    intro hb;obtain⟨e,he,hbind,hon⟩:=hB j oj hoj hb;have h2:=hall e he hbind;have h3:listed.getD e.on true=false:=by
     rcases hon with h|h
     ·rw[h];exact(mem_ready.1 hr).1
     ·exact hbl _ h
    rw[getD_both' h3]at h2;cases h2
   have h2:=hput j oj hoj hji hjun hnB _ _ _ hy h1;refine wpOpR_mono (λa' w' h3=>ih (listed.setIfInBounds j true) a' w' ?_ ?_ (ready_mono hr (Ne.symm hji)) h3.1 ?_) h2
   ·intro m hm
    have hne:j≠m:=λh=>hnB (h▸hm);rw[getD_set_ne true hne];exact hbl m hm
   ·intro m om hom hmi hmun
    refine hput m om hom hmi ?_;by_cases hjm:j=m
    ·subst hjm;exact hjun
    ·rw[getD_set_ne true hjm]at hmun;exact hmun
   ·rw[Array.setIfInBounds_comm _ _ hji]
    exact h3.2
def YP(P:Program)(ops:Array Oper)(o:Oper)(v:Value)(a:Act):Prop:=
 (Region.wanted o (yielded ops a.tmps)=true/\∀w,(execOp a.eval o).run P w=.ok (.value v) w)\/(Region.wanted o (yielded ops a.tmps)=false/\v=undef)
def YR(P:Program)(ops:Array Oper)(o:Oper)(v:Value)(a:Act)(w:World):Prop:=
 (Region.wanted o (yielded ops a.tmps)=true/\∃nx,(execOp a.eval o).run P w=.ok nx w/\yieldOf nx=some v)\/(Region.wanted o (yielded ops a.tmps)=false/\v=undef)
theorem isRead_noSelect{o:Oper}(h:isRead P o=true)(cs:Array SelectCase)(b:Bool):o.op≠.select cs b:=by
 intro hc;simp[isRead,hc]at h
theorem YR_put{oi oj:Oper}{v:Value}{a:Act}{w:World}(hap:oi.apart ops oj=true)(hri:isRead P oi=true)(hy:YR P ops oi v a w)(u:Value):YR P ops oi v (a.put oj.dst u) w:=by
 obtain⟨h1,h2,h3⟩:=Oper.apart_spec hap;unfold YR at *;rw[execOp_put oi (isRead_noSelect hri) a oj.dst u h3,wanted_put oi a oj.dst u h3];exact hy
theorem YP_put{oi oj:Oper}{v:Value}{a:Act}(hap:oi.apart ops oj=true)(hri:isRead P oi=true)(hy:YP P ops oi v a)(u:Value):YP P ops oi v (a.put oj.dst u):=by
 obtain⟨h1,h2,h3⟩:=Oper.apart_spec hap;unfold YP at *;simp only[execOp_put oi (isRead_noSelect hri) a oj.dst u h3,wanted_put oi a oj.dst u h3];exact hy
theorem wpOpR_yield{i:Nat}{oi:Oper}{v:Value}{K:Act->World->Prop}{a:Act}{w:World}(hi:ops[i]? =some oi)(hri:isRead P oi=true)(hy:YR P ops oi v a w)(h:K (a.put oi.dst v) w):wpOpR P ops n Q i K a w:=by
 unfold wpOpR;rw[hi];dsimp only;rw[if_pos hri];rcases hy with⟨h1,nx,h2,hv⟩|⟨h1,rfl⟩
 ·exact .inl ⟨h1,nx,v,h2,hv,h⟩
 ·exact .inr ⟨h1,h⟩
theorem YP.at{o:Oper}{v:Value}{a:Act}(h:YP P ops o v a)(w:World):YR P ops o v a w:=
 h.imp (λh=>⟨h.1,_,h.2 w,rfl⟩) id
theorem put_read{j:Nat}{oi oj:Oper}{v:Value}(hj:ops[j]? =some oj)(hap:oi.apart ops oj=true)(hri:isRead P oi=true)(hrj:isRead P oj=true)
 {Y:Act->World->Prop}(hY:∀a w u,Y a w->Y (a.put oj.dst u) w)(K:Act->World->Prop)(a:Act)(w:World)(hy:Y a w)(h:wpOpR P ops n Q j K (a.put oi.dst v) w):
 wpOpR P ops n Q j (λa' w'=>Y a' w'/\K (a'.put oi.dst v) w') a w:=by
 obtain⟨h1,h2,h3⟩:=Oper.apart_spec hap;unfold wpOpR at h⊢;simp only[hj]at h⊢;rw[if_pos hrj]at h⊢;rw[wanted_put oj a oi.dst v h1,execOp_put oj (isRead_noSelect hrj) a oi.dst v h1]at h;rcases h with⟨hw,nx,u,hu,hv,hk⟩|⟨hw,hk⟩
 ·exact .inl ⟨hw,nx,u,hu,hv,hY _ _ _ hy,by rw[<-Act.put_comm a v u h2];exact hk⟩
 ·exact .inr ⟨hw,hY _ _ _ hy,by rw[<-Act.put_comm a v undef h2];exact hk⟩
theorem about_read{o:Oper}(h:isPure P o=true)(ρ:Operand->Value)(w:World):o.about P w ρ=none:=by
 unfold Oper.about;cases ho:o.op
 case call c=>
  obtain⟨callee,args,ats⟩:=c;cases callee<;>first|(simp[isPure,ho]at h;done)|skip
  rename_i b;have hl:∀d w',(resolve ρ {callee:=.builtin b,args:=args,argTypes:=ats} o.type).run P w=.ok d w'->d.target.leads P w' d.args=none:=by
   intro d w' hd;simp only[resolve,Sem.run_pure,Result.ok.injEq]at hd;obtain⟨rfl,rfl⟩:=hd;rfl
  dsimp only;cases hr:(resolve ρ {callee:=.builtin b,args:=args,argTypes:=ats} o.type).run P w with
  |ok d w'=>exact hl d w' hr
  |halt _ _=>rfl
 all_goals first|rfl|simp[isPure,ho]at h
theorem isPure_read{o:Oper}(h:isPure P o=true):isRead P o=true:=by
 obtain⟨dst,op,ty,pos,after,guard⟩:=o;cases op<;>first
  |rfl
  |(simp[isPure]at h;done)
  |skip
 case convert s d x=>
  simp only[isPure,Bool.and_eq_true]at h;have hd:=h.2;unfold isIntT at hd;simp only[isRead];unfold sliceElem;split at hd
  ·rename_i hu;rw[hu]
  ·cases hd
 case call c=>
  obtain⟨callee,args,ats⟩:=c;cases callee<;>first|(simp[isPure]at h;done)|skip
  rename_i b;simp only[isPure]at h;cases b<;>first|rfl|(simp[pureB]at h;done)
theorem put_pure{j:Nat}{oi oj:Oper}{v:Value}(hj:ops[j]? =some oj)(hap:oi.apart ops oj=true)(hpi:isPure P oi=true)(hsel:Region.noSelect ops=true)
 (hQ:∀c a w,Q (.panic c) (a.put oi.dst v) w->Q (.panic c) a w)(K:Act->World->Prop)(a:Act)(w:World)(hy:YP P ops oi v a)(h:wpOpR P ops n Q j K (a.put oi.dst v) w):
 wpOpR P ops n Q j (λa' w'=>YP P ops oi v a'/\K (a'.put oi.dst v) w') a w:=by
 by_cases hrj:isRead P oj=true
 ·exact put_read (Y:=λa _=>YP P ops oi v a) hj hap (isPure_read hpi) hrj (λa w u hy=>YP_put hap (isPure_read hpi) hy u) K a w hy h
 ·unfold wpOpR at h⊢
  simp only[hj]at h⊢;rw[if_neg hrj]at h⊢;have hyf:YieldsFenced P ops oi v a:=⟨hy,λw=>about_read hpi _ w⟩;have:=wpOpIn_put (F:=wf none) rfl hj hap (isRead_noSelect (isPure_read hpi)) (Region.noSelect_spec hsel j oj · · hj) hQ hyf h;exact wpOpIn_mono (λa w h=>⟨h.1.1,h.2⟩) this
def YG(P:Program)(ops:Array Oper)(o:Oper)(v:Value)(a:Act)(w:World):Prop:=∀w',XW w w'->YR P ops o v a w'
theorem YG_put{oi oj:Oper}{v:Value}{a:Act}{w:World}(hap:oi.apart ops oj=true)(hri:isRead P oi=true)(hy:YG P ops oi v a w)(u:Value):YG P ops oi v (a.put oj.dst u) w:=
 λw' hw=>YR_put hap hri (hy w' hw) u
theorem read_grow{o:Oper}(h:isRead P o=true):growO P o=true:=by
 unfold growO;split<;>first|rfl|exact h|(rw[h];simp)
theorem put_grow{j:Nat}{oi oj:Oper}{v:Value}(hj:ops[j]? =some oj)(hap:oi.apart ops oj=true)(hri:isRead P oi=true)(hgj:growO P oj=true)(hsel:Region.noSelect ops=true)
 (hQ:∀c a w,Q (.panic c) (a.put oi.dst v) w->Q (.panic c) a w)(K:Act->World->Prop)(a:Act)(w:World)(hy:YG P ops oi v a w)(h:wpOpR P ops n Q j K (a.put oi.dst v) w):
 wpOpR P ops n Q j (λa' w'=>YG P ops oi v a' w'/\K (a'.put oi.dst v) w') a w:=by
 by_cases hrj:isRead P oj=true
 ·exact put_read (Y:=λa w=>YG P ops oi v a w) hj hap hri hrj (λa w u hy=>YG_put hap hri hy u) K a w hy h
 ·have hrj':isRead P oj=false:=by simpa using hrj
  obtain⟨h1,h2,h3⟩:=Oper.apart_spec hap;have hsj:∀cs b,oj.op≠.select cs b:=λcs b=>Region.noSelect_spec hsel j oj cs b hj;unfold wpOpR at h⊢;simp only[hj]at h⊢;rw[if_neg hrj]at h⊢;unfold wpOpIn at *;simp only[hj]at *;rw[wanted_put oj a oi.dst v h1,about_put oj w a oi.dst v h1]at h;split
  ·rename_i hw
   simp only[hw,if_true]at h;unfold Oper.wpIn at *;rw[about_put oj w a oi.dst v h1]at h;refine⟨h.1,?_⟩;have h:=h.2;rw[show(wf none).round=none from rfl,Oper.semAt_none,execOp_put oj hsj a oi.dst v h1]at h;rw[show(wf none).round=none from rfl,Oper.semAt_none];cases hr:(execOp a.eval oj).run P w with
   |ok x w'=>
    rw[hr]at h;obtain⟨hx,u,rfl⟩:=grow_exec hgj hrj' a w x w' hr;simp only[Oper.uponIn]at h⊢;exact⟨λw2 hw2=>YR_put hap hri (hy w2 (hx.trans hw2)) u,by rw[<-Act.put_comm a v u h2];exact h⟩
   |halt x w'=>
    rw[hr]at h;cases x<;>simp only[Oper.uponIn]at h⊢
    case panic u=>exact hQ _ _ _ h
  ·rename_i hw
   simp only[hw]at h;exact⟨h.1,λw2 hw2=>YR_put hap hri (hy w2 hw2) _,by rw[<-Act.put_comm a v undef h2];exact h.2⟩
end
section
variable{P:Program}{ops:Array Oper}{md:Region.Mode}{e:Env}{a:Act}{w:World}
theorem cop_rt_read{o:Oper}{k:EV->Pr}(hr:isRead P o=true)(he:Ag e a)(h:cop P o e k w):RT P (execOp a.eval o) w (NX k):=by
 rcases Classical.em (∀c,o.op≠.call c)with hno|hno
 ·exact cop_rt he h hno
 obtain⟨c,hc⟩:∃c,o.op=.call c:=Classical.byContradiction λh=>hno λc hc=>h ⟨c,hc⟩;obtain⟨dst,op,ty,pos,after,guard⟩:=o;dsimp only at hc;subst hc;obtain⟨callee,args,ats⟩:=c;have hargs:(args.toList.map a.eval).toArray=args.map a.eval:=by rw[<-Array.toList_map,Array.toArray_toList]
 cases callee with
 |builtin b=>
  simp only[cop]at h;have h1:=ndL_sound he h;unfold execOp;dsimp only;unfold resolve;dsimp only;refine .bind (.pure ?_);dsimp only[invoke];rw[<-hargs];exact run_builtin h1
 |value x=>simp[isRead]at hr
 |invoke _ _=>simp[isRead]at hr
theorem cDo_read{kp:KP}{df:Bool}{o:Oper}{k:Env->Pr}(hr:isRead P o=true)(h:cDo P kp df o e k w):cop P o e (λv=>k (Env.put e o.dst v)) w:=by
 have h1:opDefer o.op=none:=by
  unfold opDefer;split
  ·rename_i heq;simp[isRead,heq]at hr
  ·rfl
 have h2:opCallee o.op=none:=by
  unfold opCallee;split
  ·rename_i heq;simp[isRead,heq]at hr
  ·rfl
 have h3:opPanic o.op=none:=by
  unfold opPanic;split
  ·rename_i heq;simp[isRead,heq]at hr
  ·rename_i heq;simp[isRead,heq]at hr
  ·rfl
 unfold cDo at h;rw[h1]at h;unfold orElse copK at h;cases kp with
 |none=>exact h
 |some q=>
  unfold KP.at at h;rw[h2,h3]at h;exact h
theorem cOne_read{kp:KP}{df:Bool}{i:Nat}{o:Oper}{k:Env->Pr}(hr:isRead P o=true)(he:Ag e a)(hi:ops[i]? =some o)(h:cOne P kp df ops o e k w):
 ∃v e',YR P ops o v a w/\Ag e' (a.put o.dst v)/\Ext (wrOps ops) e e'/\k e' w:=by
 rcases cOne_cases he hi h with⟨hw,e1,he1,hx,h1⟩|⟨hw,e1,he1,hx,h1⟩
 ·have h1:=cDo_read hr h1
  obtain⟨nx,w',h2,h3⟩:=cop_rt_read hr he1 (cop_same hr h1);cases nx<;>simp only[NX]at h3<;>try exact h3.elim
  ·obtain⟨x,hg,hk,rfl⟩:=h3
   exact⟨_,_,.inl ⟨hw,_,h2,rfl⟩,he1.put o.dst hg,Ext.put' hi hx,hk⟩
  ·obtain⟨hk,rfl⟩:=h3
   exact⟨_,_,.inl ⟨hw,_,h2,rfl⟩,he1.put_no o.dst _,Ext.put' hi hx,hk⟩
 ·exact⟨undef,_,.inr ⟨hw,rfl⟩,he1.put_skip o.dst,Ext.put' hi hx,h1⟩
theorem cOne_pure{kp:KP}{df:Bool}{i:Nat}{o:Oper}{k:Env->Pr}(hr:isPure P o=true)(he:Ag e a)(hi:ops[i]? =some o)(h:cOne P kp df ops o e k w):
 ∃v e',YP P ops o v a/\Ag e' (a.put o.dst v)/\Ext (wrOps ops) e e'/\k e' w:=by
 rcases cOne_cases he hi h with⟨hw,e1,he1,hx,h1⟩|⟨hw,e1,he1,hx,h1⟩
 ·have h1:=cDo_read (isPure_read hr) h1
  obtain⟨x,v,hxv,hk,hall⟩:=cop_any hr h1;have hrun:∀w',(execOp a.eval o).run P w'=.ok (.value v) w':=by
   intro w';obtain⟨nx,w2,h2,h3⟩:=cop_rt_read (isPure_read hr) he1 (hall (λy w''=>y=x/\w''=w') w' ⟨rfl,rfl⟩);cases nx<;>simp only[NX]at h3<;>try exact h3.elim
   ·obtain⟨y,hg,rfl,rfl⟩:=h3
    rw[h2,hg v hxv]
   ·obtain⟨rfl,rfl⟩:=h3
    simp[EV.v?]at hxv
  exact⟨v,_,.inl ⟨hw,hrun⟩,he1.put o.dst (λu hu=>by rw[hxv]at hu;simpa using hu.symm),Ext.put' hi hx,hk⟩
 ·exact⟨undef,_,.inr ⟨hw,rfl⟩,he1.put_skip o.dst,Ext.put' hi hx,h1⟩
theorem ldO_read{o:Oper}(h:ldO P o=true):isRead P o=true:=by
 obtain⟨dst,op,ty,pos,after,guard⟩:=o;cases op<;>first|rfl|(cases h;done)|skip
 rename_i s d x;have hd:=isStrT_sound (show isStrT P d=true from h);simp only[isRead];unfold sliceElem;rw[hd]
theorem cOne_grow{kp:KP}{df:Bool}{i:Nat}{o:Oper}{k:Env->Pr}(hr:ldO P o=true)(he:Ag e a)(hi:ops[i]? =some o)(h:cOne P kp df ops o e k w):
 ∃v e',YG P ops o v a w/\Ag e' (a.put o.dst v)/\Ext (wrOps ops) e e'/\k e' w:=by
 rcases cOne_cases he hi h with⟨hw,e1,he1,hx,h1⟩|⟨hw,e1,he1,hx,h1⟩
 ·have h1:=cDo_read (ldO_read hr) h1
  obtain⟨x,v,hxv,hk,hall⟩:=cop_grow hr h1;have hrun:∀w',XW w w'->(execOp a.eval o).run P w'=.ok (.value v) w':=by
   intro w' hw';obtain⟨nx,w2,h2,h3⟩:=cop_rt_read (ldO_read hr) he1 (hall (λy w''=>y=x/\w''=w') w' hw' ⟨rfl,rfl⟩);cases nx<;>simp only[NX]at h3<;>try exact h3.elim
   ·obtain⟨y,hg,rfl,rfl⟩:=h3
    rw[h2,hg v hxv]
   ·obtain⟨rfl,rfl⟩:=h3
    simp[EV.v?]at hxv
  exact⟨v,_,λw' hw'=>.inl ⟨hw,_,hrun w' hw',rfl⟩,he1.put o.dst (λu hu=>by rw[hxv]at hu;simpa using hu.symm),Ext.put' hi hx,hk⟩
 ·exact⟨undef,_,λ_ _=>.inr ⟨hw,rfl⟩,he1.put_skip o.dst,Ext.put' hi hx,h1⟩
def blkL(md:Region.Mode)(ops:Array Oper)(listed:Array Bool)(i:Nat):List Nat->List Nat->List Nat
 |[],acc=>acc
 |j::js,acc=>
  match ops[j]?with
  |some o=>match !listed.getD j true&&o.after.toList.any (λe=>Region.binds md e&&(e.on==i||acc.contains e.on))with
   |true=>blkL md ops listed i js (j::acc)
   |false=>blkL md ops listed i js acc
  |none=>blkL md ops listed i js acc
def besideB(P:Program)(ops:Array Oper)(listed:Array Bool)(i:Nat)(oi:Oper)(B:List Nat)(j:Nat):Bool:=
 j==i||listed.getD j true||B.contains j||
 match ops[j]?with
 |some oj=>oi.apart ops oj&&(isPure P oi||isRead P oj||(ldO P oi&&growO P oj))
 |none=>true
def takeable(P:Program)(md:Region.Mode)(ops:Array Oper)(listed:Array Bool)(i:Nat):Bool:=
 match ops[i]?with
 |some oi=>isRead P oi&&(List.range ops.size).all (besideB P ops listed i oi (blkL md ops listed i (List.range ops.size) []))
 |none=>false
def tru:Pr:=λ_=>True
def allP:List Nat->(Nat->Pr)->Pr
 |[],_=>tru
 |[i],f=>f i
 |i::j::l,f=>both (f i) (allP (j::l) f)
theorem allP_sound{f:Nat->Pr}:∀{l:List Nat},allP l f w->∀i∈l,f i w
 |[],_,_,h=>by cases h
 |[_],h,i,hi=>by rw[List.mem_singleton]at hi;subst hi;exact h
 |_::_::_,h,i,hi=>by
  rcases List.mem_cons.1 hi with rfl|hi
  ·exact h.1
  ·exact allP_sound h.2 i hi
def cSel(rs:List Nat)(t:Option Nat)(z:Pr)(f:Nat->Pr):Pr:=
 match rs with
 |[]=>z
 |_::_=>match t with
  |some i=>f i
  |none=>allP rs f
abbrev StopF:=Nat->Array Bool->Env->Option Pr
def stopOr(x:Option Pr)(y:Pr):Pr:=
 match x with
 |some p=>p
 |none=>y
def cD(P:Program)(kp:KP)(md:Region.Mode)(ops:Array Oper)(stop:StopF):Nat->Array Bool->Env->(Env->Pr)->Pr
 |0,listed,e,k=>stopOr (stop 0 listed e) (cSel (Region.ready md ops listed) none (k e) (λ_=>fls))
 |fuel+1,listed,e,k=>stopOr (stop (fuel+1) listed e) (cSel (Region.ready md ops listed) ((Region.ready md ops listed).find? (takeable P md ops listed)) (k e)
   (λi=>opt (ops[i]?) λo=>cOne P kp false ops o e λe'=>cD P kp md ops stop fuel (listed.setIfInBounds i true) e' k))
def keepE(e:Env):List Nat->Env->Env
 |[],e0=>e0
 |d::l,e0=>
  match Env.get e d with
  |.lit b=>keepE e l (Env.set e0 d (.lit b))
  |x=>match isSkip x with
   |true=>keepE e l (Env.set e0 d skipV)
   |false=>keepE e l e0
def keptB(e e':Env):List Nat->Bool
 |[]=>true
 |d::l=>
  match Env.get e d with
  |.lit b=>(match Env.get e' d with|.lit c=>b==c&&keptB e e' l|_=>false)
  |x=>match isSkip x with
   |true=>isSkip (Env.get e' d)&&keptB e e' l
   |false=>keptB e e' l
structure JA where
 sk:Bool
 rs:List Nat
 ix:List Nat
 l:Live
def JA.to(j:JA)(listed:Array Bool):Array Bool:=j.ix.foldl (λa i=>a.setIfInBounds i true) listed
def JA.ds(j:JA)(ops:Array Oper):List Nat:=j.ix.filterMap λi=>(ops[i]?).bind (·.dst)
def JA.kp(j:JA)(ops:Array Oper):List Nat:=(wrOps ops).filter λd=> !(j.ds ops).contains d
def JA.sl(j:JA)(ops:Array Oper):List Nat:=
 match j.sk with
 |true=>(j.ds ops).filter λd=>(wrOps ops).contains d
 |false=>[]
def skipB(ops:Array Oper)(e:Env)(i:Nat):Bool:=
 match(ops[i]?).bind (·.guard)with
 |some (g,want)=>(match gslot ops g with
  |some d=>(match Env.get e d with|.lit b=>b !=want|x=>isSkip x)
  |none=>false)
 |none=>false
def setSk:List Nat->Env->Env
 |[],e=>e
 |d::l,e=>setSk l (Env.set e d skipV)
def stopT(ops:Array Oper)(j:JA)(e:Env)(T:Array Bool)(f2:Nat)(R:PayL (j.l.map (·.2))->Pr):StopF:=λfuel listed e'=>
 match listed==T&&Nat.ble f2 fuel with
 |true=>some (tf (keptB e e' (j.kp ops)&&(j.sl ops).all λd=>isSkip (Env.get e' d)) (need e' j.l R) fls)
 |false=>none
def joinP(P:Program)(kp:KP)(md:Region.Mode)(ops:Array Oper)(j:JA)(nxt:Nat->Array Bool->Env->Pr)(fuel:Nat)(listed:Array Bool)(e:Env):Pr:=
 tf (!(wrOps ops).contains markN&& !(wrOps ops).contains dfrN) (jn (λR=>cD P kp md ops (stopT ops j e (j.to listed) (fuel-j.ix.length) R) fuel listed e (λ_=>fls))
  (λs=>nxt (fuel-j.ix.length) (j.to listed) (upd (setSk (j.sl ops) (keepE e (j.kp ops) (Env.forget e (wrOps ops)))) j.l s))) fls
def stopJ(P:Program)(kp:KP)(md:Region.Mode)(ops:Array Oper)(j:JA)(nxt:Nat->Array Bool->Env->Pr)(alt:StopF):StopF:=λfuel listed e=>
 match Region.ready md ops listed==j.rs&&(j.sk==j.ix.all (skipB ops e))with
 |true=>some (joinP P kp md ops j nxt fuel listed e)
 |false=>alt fuel listed e
def stops(P:Program)(kp:KP)(md:Region.Mode)(ops:Array Oper)(k:Env->Pr):List JA->StopF
 |[]=>λ_ _ _=>none
 |j::js=>stopJ P kp md ops j (λf L e'=>cD P kp md ops (stops P kp md ops k js) f L e' k) (stops P kp md ops k js)
def cDraw(P:Program)(kp:KP)(md:Region.Mode)(ops:Array Oper)(js:List JA)(fuel:Nat)(listed:Array Bool)(e:Env)(k:Env->Pr):Pr:=cD P kp md ops (stops P kp md ops k js) fuel listed e k
theorem blkL_spec{listed:Array Bool}{i:Nat}:∀(js acc:List Nat),(∀j∈acc,listed.getD j true=false/\∃oj,ops[j]? =some oj/\∃e∈oj.after,Region.binds md e=true/\(e.on=i\/e.on∈acc))->
 ∀j∈blkL md ops listed i js acc,listed.getD j true=false/\∃oj,ops[j]? =some oj/\∃e∈oj.after,Region.binds md e=true/\(e.on=i\/e.on∈blkL md ops listed i js acc)
 |[],acc,h=>h
 |j::js,acc,h=>by
  unfold blkL;cases ho:ops[j]?with
  |none=>simpa using blkL_spec js acc h
  |some o=>
   cases hc: !listed.getD j true&&o.after.toList.any (λe=>Region.binds md e&&(e.on==i||acc.contains e.on))with
   |false=>simp only[hc];exact blkL_spec js acc h
   |true=>
    simp only[hc];refine blkL_spec js (j::acc) ?_;intro m hm;rcases List.mem_cons.1 hm with rfl|hm
    ·simp only[Bool.and_eq_true,Bool.not_eq_true',List.any_eq_true,Bool.or_eq_true,beq_iff_eq,List.contains_iff_mem]at hc
     obtain⟨h1,ed,h2,h3,h4⟩:=hc;exact⟨h1,o,ho,ed,by simpa using h2,h3,h4.imp id (λh=>List.mem_cons_of_mem _ h)⟩
    ·obtain⟨h1,oj,h2,ed,h3,h4,h5⟩:=h m hm
     exact⟨h1,oj,h2,ed,h3,h4,h5.imp id (λh=>List.mem_cons_of_mem _ h)⟩
variable{n:Nat}{Q:Exit->Act->World->Prop}
theorem lt_of_some{j:Nat}{o:Oper}(h:ops[j]? =some o):j<ops.size:=by
 rcases Nat.lt_or_ge j ops.size with h'|h'
 ·exact h'
 ·simp[Array.getElem?_eq_none h']at h
theorem wpAnyR_succ:∀(f:Nat) (L:Array Bool) (a:Act) (w:World),wpAnyR P md ops n Q f L a w->wpAnyR P md ops n Q (f+1) L a w
 |0,L,a,w,h=>⟨λ_=>h.2,λi hi=>by rw[h.1]at hi;cases hi⟩
 |f+1,L,a,w,h=>⟨h.1,λi hi=>wpOpR_mono (λa w h=>wpAnyR_succ f _ a w h) (h.2 i hi)⟩
theorem wpAnyR_le{f g:Nat}{L:Array Bool}{a:Act}{w:World}(h:f<=g)(hh:wpAnyR P md ops n Q f L a w):wpAnyR P md ops n Q g L a w:=by
 obtain⟨d,rfl⟩:=Nat.exists_eq_add_of_le h;clear h
 induction d with
 |zero=>exact hh
 |succ d ih=>exact wpAnyR_succ _ _ _ _ ih
theorem cD_sound{kp:KP}{stop:StopF}(hsel:Region.noSelect ops=true)(hQ:∀c a d v w,d∈wrOps ops->Q (.panic c) (a.put (some d) v) w->Q (.panic c) a w):∀(fuel:Nat) (listed:Array Bool) (e:Env) (a:Act) (w:World) (k:Env->Pr),Ag e a->cD P kp md ops stop fuel listed e k w->
 (∀e' a' w',Ag e' a'->Ext (wrOps ops) e e'->k e' w'->Q .normal a' w')->
 (∀e' a' ch w',Ag e' a'->Ext (wrOps ops) e e'->kpH (kp.at e') ch w'->Q (.panic ch) a' w')->(∀f L e' a' w' p,Ag e' a'->Ext (wrOps ops) e e'->stop f L e'=some p->p w'->wpAnyR P md ops n Q f L a' w')->wpAnyR P md ops n Q fuel listed a w:=by
 have hQ':∀(i:Nat) (oi:Oper),ops[i]? =some oi->∀c a v w,Q (.panic c) (a.put oi.dst v) w->Q (.panic c) a w:=by
  intro i oi hi c a v w h;cases hd:oi.dst with
  |none=>rw[hd]at h;exact h
  |some d=>rw[hd]at h;exact hQ c a d v w (mem_wrOps hi hd) h
 intro fuel
 induction fuel with
 |zero=>
  intro listed e a w k he h hk hp hst;unfold cD at h;cases hs0:stop 0 listed e with
  |some p=>rw[hs0]at h;exact hst _ _ _ _ _ _ he (Ext.refl _ _) hs0 h
  |none=>
  rw[hs0]at h;unfold stopOr at h;dsimp only at h;cases hr:Region.ready md ops listed with
  |nil=>rw[hr]at h;exact⟨hr,hk _ _ _ he (Ext.refl _ _) h⟩
  |cons i l=>
   rw[hr]at h;exact(allP_sound (f:=λ_=>fls) h i (by simp)).elim
 |succ fuel ih=>
  intro listed e a w k he h hk hp hst;have step:∀i o,ops[i]? =some o->cOne P kp false ops o e (λe'=>cD P kp md ops stop fuel (listed.setIfInBounds i true) e' k) w->wpOpR P ops n Q i (wpAnyR P md ops n Q fuel (listed.setIfInBounds i true)) a w:=by
   intro i o hi h;by_cases hr:isRead P o=true
   ·obtain⟨v,e',hy,he',hx,h'⟩:=cOne_read hr he hi h
    exact wpOpR_yield hi hr hy (ih _ e' _ _ k he' h' (λe2 a2 w2 he2 hx2 h2=>hk _ _ _ he2 (hx.trans hx2 (λ_ h=>h) (λ_ h=>h)) h2) (λe2 a2 ch w2 he2 hx2 h2=>hp _ _ _ _ he2 (hx.trans hx2 (λ_ h=>h) (λ_ h=>h)) h2) (λf L e2 a2 w2 p he2 hx2=>hst f L e2 a2 w2 p he2 (hx.trans hx2 (λ_ h=>h) (λ_ h=>h))))
   ·have h2:wpOpIn (wf none) n P ops Q i (wpAnyR P md ops n Q fuel (listed.setIfInBounds i true)) a w:=
     cOne_step (λh=>by cases h) he hi h (λe' a' w' he' hx h'=>ih _ e' _ _ k he' h' (λe2 a2 w2 he2 hx2 h2=>hk _ _ _ he2 (hx.trans hx2 (λ_ h=>h) (λ_ h=>h)) h2) (λe2 a2 ch w2 he2 hx2 h2=>hp _ _ _ _ he2 (hx.trans hx2 (λ_ h=>h) (λ_ h=>h)) h2) (λf L e2 a2 w2 p he2 hx2=>hst f L e2 a2 w2 p he2 (hx.trans hx2 (λ_ h=>h) (λ_ h=>h)))) hp
    unfold wpOpR;rw[hi];dsimp only;rw[if_neg hr];exact h2
  unfold cD at h;cases hs0:stop (fuel+1) listed e with
  |some p=>rw[hs0]at h;exact hst _ _ _ _ _ _ he (Ext.refl _ _) hs0 h
  |none=>
  rw[hs0]at h;unfold stopOr at h;dsimp only at h;cases hr:Region.ready md ops listed with
  |nil=>
   rw[hr]at h;exact⟨λ_=>hk _ _ _ he (Ext.refl _ _) h,by simp[hr]⟩
  |cons i0 l0=>
   cases ht:(Region.ready md ops listed).find? (takeable P md ops listed)with
   |none=>
    rw[ht,hr]at h;refine⟨λh0=>(by rw[hr]at h0;cases h0),λi hi=>?_⟩;rw[hr]at hi;obtain⟨o,ho,h1⟩:=opt_sound (allP_sound h i hi);exact step i o ho h1
   |some i=>
    rw[ht,hr]at h;have hmem:=List.mem_of_find?_eq_some ht;have htk:=List.find?_some ht;obtain⟨o,ho,h1⟩:=opt_sound (show opt (ops[i]?) _ w from h);unfold takeable at htk;rw[ho]at htk;simp only[Bool.and_eq_true,List.all_eq_true,List.mem_range]at htk;obtain⟨hri,hall⟩:=htk;have hspec:=blkL_spec (md:=md) (ops:=ops) (listed:=listed) (i:=i) (List.range ops.size) [] (by simp);generalize hBL:blkL md ops listed i (List.range ops.size) []=BL at hall hspec;have hbes:∀j oj,ops[j]? =some oj->j≠i->listed.getD j true=false->¬(j∈BL)->o.apart ops oj=true/\((isPure P o=true\/isRead P oj=true)\/(ldO P o=true/\growO P oj=true)):=by
     intro j oj hj hji hun hnb;have:=hall j (lt_of_some hj);unfold besideB at this;rw[hj]at this;simp only[Bool.or_eq_true,beq_iff_eq,List.contains_iff_mem,Bool.and_eq_true]at this;rcases this with((h|h)|h)|h
     ·exact absurd h hji
     ·rw[hun]at h;cases h
     ·exact absurd h hnb
     ·exact h
    have hB:∀j oj,ops[j]? =some oj->j∈BL->∃e∈oj.after,Region.binds md e=true/\(e.on=i\/e.on∈BL):=by
     intro j oj hj hb;obtain⟨_,oj',hj',h3⟩:=hspec j hb;rw[hj]at hj';simp only[Option.some.injEq]at hj';exact hj'▸h3
    by_cases hpi:isPure P o=true
    ·obtain⟨v,e',hy,he',hx,h'⟩:=cOne_pure hpi he ho h1
     refine first_gen (B:=λj=>j∈BL) (Y:=λa _=>YP P ops o v a) ho (λK a w hy hk=>wpOpR_yield ho hri (hy.at w) hk) hB fuel listed a w (λj hj=>(hspec j hj).1) ?_ hmem hy ?_
     ·intro j oj hj hji hun hnb K a w hy h
      exact put_pure hj (hbes j oj hj hji hun hnb).1 hpi hsel (λc a w=>hQ' _ _ ho c a _ w) K a w hy h
     ·exact ih _ e' _ _ k he' h' (λe2 a2 w2 he2 hx2 h2=>hk _ _ _ he2 (hx.trans hx2 (λ_ h=>h) (λ_ h=>h)) h2) (λe2 a2 ch w2 he2 hx2 h2=>hp _ _ _ _ he2 (hx.trans hx2 (λ_ h=>h) (λ_ h=>h)) h2) (λf L e2 a2 w2 p he2 hx2=>hst f L e2 a2 w2 p he2 (hx.trans hx2 (λ_ h=>h) (λ_ h=>h)))
    by_cases hld:ldO P o=true
    ·obtain⟨v,e',hy,he',hx,h'⟩:=cOne_grow hld he ho h1
     refine first_gen (B:=λj=>j∈BL) (Y:=λa w=>YG P ops o v a w) ho (λK a w hy hk=>wpOpR_yield ho hri (hy w (XW.refl w)) hk) hB fuel listed a w (λj hj=>(hspec j hj).1) ?_ hmem hy ?_
     ·intro j oj hj hji hun hnb K a w hy h
      have hb:=hbes j oj hj hji hun hnb;have hgj:growO P oj=true:=hb.2.elim (λh=>read_grow (h.resolve_left hpi)) (λh=>h.2);exact put_grow hj hb.1 hri hgj hsel (λc a w=>hQ' _ _ ho c a _ w) K a w hy h
     ·exact ih _ e' _ _ k he' h' (λe2 a2 w2 he2 hx2 h2=>hk _ _ _ he2 (hx.trans hx2 (λ_ h=>h) (λ_ h=>h)) h2) (λe2 a2 ch w2 he2 hx2 h2=>hp _ _ _ _ he2 (hx.trans hx2 (λ_ h=>h) (λ_ h=>h)) h2) (λf L e2 a2 w2 p he2 hx2=>hst f L e2 a2 w2 p he2 (hx.trans hx2 (λ_ h=>h) (λ_ h=>h)))
    ·obtain⟨v,e',hy,he',hx,h'⟩:=cOne_read hri he ho h1
     refine first_gen (B:=λj=>j∈BL) (Y:=λa w=>YR P ops o v a w) ho (λK a w hy hk=>wpOpR_yield ho hri hy hk) hB fuel listed a w (λj hj=>(hspec j hj).1) ?_ hmem hy ?_
     ·intro j oj hj hji hun hnb K a w hy h
      have hb:=hbes j oj hj hji hun hnb;have hrj:=(hb.2.resolve_right (λh=>hld h.1)).resolve_left hpi;exact put_read (Y:=λa w=>YR P ops o v a w) hj hb.1 hri hrj (λa w u hy=>YR_put hb.1 hri hy u) K a w hy h
     ·exact ih _ e' _ _ k he' h' (λe2 a2 w2 he2 hx2 h2=>hk _ _ _ he2 (hx.trans hx2 (λ_ h=>h) (λ_ h=>h)) h2) (λe2 a2 ch w2 he2 hx2 h2=>hp _ _ _ _ he2 (hx.trans hx2 (λ_ h=>h) (λ_ h=>h)) h2) (λf L e2 a2 w2 p he2 hx2=>hst f L e2 a2 w2 p he2 (hx.trans hx2 (λ_ h=>h) (λ_ h=>h)))
theorem keepE_ag{e e':Env}{a:Act}:∀{l:List Nat} {e0:Env},keptB e e' l=true->Ag e' a->Ag e0 a->Ag (keepE e l e0) a
 |[],_,_,_,h0=>h0
 |d::l,e0,hk,he,h0=>by
  have hset:∀(x:EV) (v:Value),x.v? =some v->(∀u,(Env.get e' d).v? =some u->u=v)->(∃u,(Env.get e' d).v? =some u)->Ag (Env.set e0 d x) a:=by
   intro x v hx hu ⟨u,hu'⟩;have hv:=he.get d u hu';rw[hu u hu']at hv;refine⟨by simpa using h0.size,λt y hy=>?_,by simpa using h0.defers⟩;rw[Env.get_set]at hy;split at hy
   ·rename_i ht
    rw[hx]at hy;simp only[Option.some.injEq]at hy;rw[ht.1,hv,hy]
   ·exact h0.get t y hy
  have skipCase:∀x:EV,(match isSkip x with|true=>isSkip (Env.get e' d)&&keptB e e' l|false=>keptB e e' l)=true->
   Ag (match isSkip x with|true=>keepE e l (Env.set e0 d skipV)|false=>keepE e l e0) a:=by
   intro x hk;cases hs:isSkip x with
   |true=>
    rw[hs]at hk;dsimp only at hk⊢;simp only[Bool.and_eq_true]at hk;have h1:=isSkip_v hk.1;exact keepE_ag hk.2 he (hset skipV undef rfl (λu hu=>by rw[h1]at hu;simpa using hu.symm) ⟨_,h1⟩)
   |false=>
    rw[hs]at hk;exact keepE_ag hk he h0
  unfold keptB at hk;unfold keepE;cases hx:Env.get e d
  case lit b=>
   rw[hx]at hk;dsimp only at hk⊢;cases hc:Env.get e' d
   case lit c=>
    rw[hc]at hk;dsimp only at hk;simp only[Bool.and_eq_true,beq_iff_eq]at hk;obtain⟨rfl,hk⟩:=hk;exact keepE_ag hk he (hset (.lit b) (.bool b) rfl (λu hu=>by rw[hc]at hu;simp[EV.v?]at hu;exact hu.symm) ⟨_,by rw[hc];rfl⟩)
   all_goals(rw[hc]at hk;cases hk)
  case no=>rw[hx]at hk;exact skipCase .no hk
  case nx0=>rw[hx]at hk;exact skipCase .nx0 hk
  case nx1 k v=>rw[hx]at hk;exact skipCase (.nx1 k v) hk
  case ent k v=>rw[hx]at hk;exact skipCase (.ent k v) hk
  case val v=>rw[hx]at hk;exact skipCase (.val v) hk
theorem keepE_ext{e:Env}{W:List Nat}:∀{l:List Nat} {e0:Env},(∀d∈l,d∈W)->Ext W e0 (keepE e l e0)
 |[],_,_=>Ext.refl _ _
 |d::l,e0,h=>by
  have hd:=h d (List.mem_cons_self ..);have ht:∀x∈l,x∈W:=λx hx=>h x (List.mem_cons_of_mem _ hx);unfold keepE;split
  ·exact(Ext.set _ _ _ _ hd).trans (keepE_ext ht) (λ_ h=>h) (λ_ h=>h)
  ·split
   ·exact(Ext.set _ _ _ _ hd).trans (keepE_ext ht) (λ_ h=>h) (λ_ h=>h)
   ·exact keepE_ext ht
theorem upd_ext{W:List Nat}:∀{l:Live} {e:Env} {p:PayL (l.map (·.2))},(∀x∈l,x.1∈W)->Ext W e (upd e l p)
 |[],_,_,_=>Ext.refl _ _
 |[x],e,p,h=>Ext.set _ _ _ _ (h x (by simp))
 |x::y::l,e,p,h=>(Ext.set _ _ _ _ (h x (by simp))).trans (upd_ext (l:=y::l) λz hz=>h z (List.mem_cons_of_mem _ hz)) (λ_ h=>h) (λ_ h=>h)
theorem setSk_ag{e':Env}{a:Act}(he:Ag e' a):∀{l:List Nat} {e0:Env},(l.all λd=>isSkip (Env.get e' d))=true->Ag e0 a->Ag (setSk l e0) a
 |[],_,_,h0=>h0
 |d::l,e0,hk,h0=>by
  rw[List.all_cons,Bool.and_eq_true]at hk;have hv:=he.get d _ (isSkip_v hk.1);have h1:Ag (Env.set e0 d skipV) a:=by
   refine⟨by simpa using h0.size,λt y hy=>?_,by simpa using h0.defers⟩;rw[Env.get_set]at hy;split at hy
   ·rename_i ht
    simp only[skipV,EV.v?,Option.some.injEq]at hy;rw[ht.1,hv,<-hy];rfl
   ·exact h0.get t y hy
  exact setSk_ag (l:=l) he hk.2 h1
theorem setSk_ext{W:List Nat}:∀{l:List Nat} {e0:Env},(∀d∈l,d∈W)->Ext W e0 (setSk l e0)
 |[],_,_=>Ext.refl _ _
 |d::l,e0,h=>(Ext.set _ _ _ _ (h d (List.mem_cons_self ..))).trans (setSk_ext λx hx=>h x (List.mem_cons_of_mem _ hx)) (λ_ h=>h) (λ_ h=>h)
theorem stops_sound{kp:KP}(hsel:Region.noSelect ops=true)(hQ:∀c a d v w,d∈wrOps ops->Q (.panic c) (a.put (some d) v) w->Q (.panic c) a w){k:Env->Pr}{e:Env}
 (hk:∀e' a' w',Ag e' a'->Ext (wrOps ops) e e'->k e' w'->Q .normal a' w')
 (hp:∀e' a' ch w',Ag e' a'->Ext (wrOps ops) e e'->kpH (kp.at e') ch w'->Q (.panic ch) a' w'):∀(js:List JA) (hj:∀j∈js,∀x∈j.l,x.1∈wrOps ops) (f:Nat) (L:Array Bool) (e1:Env) (a1:Act) (w1:World) (p:Pr),
 Ag e1 a1->Ext (wrOps ops) e e1->stops P kp md ops k js f L e1=some p->p w1->wpAnyR P md ops n Q f L a1 w1
 |[],_,_,_,_,_,_,_,_,_,h,_=>by cases h
 |j::js,hj,f,L,e1,a1,w1,p,he1,hx1,hs,h1=>by
  have hj':∀j∈js,∀x∈j.l,x.1∈wrOps ops:=λi hi=>hj i (List.mem_cons_of_mem _ hi);unfold stops stopJ at hs;split at hs
  rotate_left
  ·exact stops_sound hsel hQ hk hp js hj' f L e1 a1 w1 p he1 hx1 hs h1
  simp only[Option.some.injEq]at hs;subst hs;rcases tf_sound (show tf _ _ _ w1 from h1)with⟨hm,h1⟩|⟨_,h1⟩
  rotate_left
  ·exact h1.elim
  simp only[Bool.and_eq_true,Bool.not_eq_true']at hm;have hmk:markN∉wrOps ops:=by simpa using hm.1
  have hdf:dfrN∉wrOps ops:=by simpa using hm.2
  obtain⟨R,h2,h3⟩:=h1;refine cD_sound hsel hQ f L e1 a1 w1 _ he1 h2 (λ_ _ _ _ _ h=>h.elim) (λe2 a2 ch w2 he2 hx2 h=>hp e2 a2 ch w2 he2 (hx1.trans hx2 (λ_ h=>h) (λ_ h=>h)) h) ?_;intro f2 L2 e2 a2 w2 p he2 hx2 hs h4;unfold stopT at hs;split at hs
  rotate_left
  ·cases hs
  rename_i hT;simp only[Option.some.injEq]at hs;subst hs;simp only[Bool.and_eq_true,beq_iff_eq]at hT;obtain⟨rfl,hle⟩:=hT;have hle:=Nat.le_of_ble_eq_true hle;rcases tf_sound (show tf _ _ _ w2 from h4)with⟨hkp,h4⟩|⟨_,h4⟩
  rotate_left
  ·exact h4.elim
  rw[Bool.and_eq_true]at hkp;have hsub:∀d∈j.kp ops,d∈wrOps ops:=λd hd=>(List.mem_filter.1 hd).1;have hsl:∀d∈j.sl ops,d∈wrOps ops:=by
   unfold JA.sl;split
   ·intro d hd
    simpa using(List.mem_filter.1 hd).2
   ·intro d hd;cases hd
  obtain⟨s,hs,hR⟩:=need_sound (e0:=setSk (j.sl ops) (keepE e1 (j.kp ops) (Env.forget e1 (wrOps ops)))) he2 (setSk_ag he2 hkp.2 (keepE_ag hkp.1 he2 (he2.forget hx2 hmk hdf))) h4;have hx3:Ext (wrOps ops) e (upd (setSk (j.sl ops) (keepE e1 (j.kp ops) (Env.forget e1 (wrOps ops)))) j.l s):=
   hx1.trans ((Ext.forget e1 _).trans ((keepE_ext hsub).trans ((setSk_ext hsl).trans (upd_ext (hj j (List.mem_cons_self ..))) (λ_ h=>h) (λ_ h=>h)) (λ_ h=>h) (λ_ h=>h)) (λ_ h=>h) (λ_ h=>h)) (λ_ h=>h) (λ_ h=>h)
  refine wpAnyR_le hle (cD_sound hsel hQ (f-j.ix.length) (j.to L) _ a2 w2 k hs (h3 s w2 hR) (λe3 a3 w3 he3 hx h=>hk e3 a3 w3 he3 (hx3.trans hx (λ_ h=>h) (λ_ h=>h)) h)
   (λe3 a3 ch w3 he3 hx h=>hp e3 a3 ch w3 he3 (hx3.trans hx (λ_ h=>h) (λ_ h=>h)) h) ?_)
  intro f3 L3 e3 a3 w3 p3 he3 hx h5 h6;exact stops_sound hsel hQ hk hp js hj' f3 L3 e3 a3 w3 p3 he3 (hx3.trans hx (λ_ h=>h) (λ_ h=>h)) h5 h6
theorem cDraw_sound{kp:KP}(hsel:Region.noSelect ops=true)(hQ:∀c a d v w,d∈wrOps ops->Q (.panic c) (a.put (some d) v) w->Q (.panic c) a w)(js:List JA)(hj:∀j∈js,∀x∈j.l,x.1∈wrOps ops)(fuel:Nat)(listed:Array Bool)(e:Env)(a:Act)(w:World)(k:Env->Pr)(he:Ag e a)(h:cDraw P kp md ops js fuel listed e k w)
 (hk:∀e' a' w',Ag e' a'->Ext (wrOps ops) e e'->k e' w'->Q .normal a' w')
 (hp:∀e' a' ch w',Ag e' a'->Ext (wrOps ops) e e'->kpH (kp.at e') ch w'->Q (.panic ch) a' w'):wpAnyR P md ops n Q fuel listed a w:=
 cD_sound hsel hQ fuel listed e a w k he h hk hp (stops_sound hsel hQ hk hp js hj)
end
def arrB(n m:Nat):Array Bool:=((List.range n).map (Nat.testBit m)).toArray
theorem arrB_size(n m:Nat):(arrB n m).size=n:=by simp[arrB]
theorem arrB_get(n m i:Nat):(arrB n m)[i]? =if i<n then some (m.testBit i)else none:=by
 unfold arrB;rw[List.getElem?_toArray,List.getElem?_map];by_cases h:i<n
 ·rw[List.getElem?_range h,if_pos h];rfl
 ·rw[List.getElem?_eq_none (by simp;omega),if_neg h];rfl
theorem arrB_getD(n m i:Nat)(d:Bool):(arrB n m).getD i d=if i<n then m.testBit i else d:=by
 rw[Array.getD_eq_getD_getElem?,arrB_get];split<;>rfl
def orB(m i:Nat):Nat:=Nat.lor m (Nat.shiftLeft 1 i)
theorem orB_bit(m i j:Nat):(orB m i).testBit j=(m.testBit j||i==j):=by
 show(m|||(1<<<i)).testBit j=_;rw[Nat.testBit_or,Nat.one_shiftLeft,Nat.testBit_two_pow]
 congr 1
theorem arrB_set(n m i:Nat):(arrB n m).setIfInBounds i true=arrB n (orB m i):=by
 refine Array.ext_getElem? λj=>?_;rw[Array.getElem?_setIfInBounds,arrB_get,arrB_get,arrB_size,orB_bit];by_cases h:i=j
 ·subst h
  rw[if_pos rfl];by_cases h2:i<n<;>simp[h2]
 ·rw[if_neg h]
  have:(i==j)=false:=by simpa using h
  rw[this,Bool.or_false]
theorem arrB_zero(n:Nat):Array.replicate n false=arrB n 0:=by
 refine Array.ext_getElem? λj=>?_;rw[arrB_get,Array.getElem?_replicate];simp
theorem arrB_eq{n m t:Nat}:(arrB n m==arrB n t)=Nat.beq (m%2^n) (t%2^n):=by
 rw[Bool.eq_iff_iff,beq_iff_eq,Nat.beq_eq];constructor
 ·intro h
  refine Nat.eq_of_testBit_eq λi=>?_;rw[Nat.testBit_mod_two_pow,Nat.testBit_mod_two_pow];by_cases hi:i<n
  ·have:=congrArg (λa=>a.getD i true) h
   simp only[arrB_getD,if_pos hi]at this;rw[this]
  ·simp[hi]
 ·intro h
  refine Array.ext_getElem? λi=>?_;rw[arrB_get,arrB_get];by_cases hi:i<n
  ·have:=congrArg (λa=>Nat.testBit a i) h
   simp only[Nat.testBit_mod_two_pow,hi,decide_true,Bool.true_and]at this;rw[this]
  ·rw[if_neg hi,if_neg hi]
def depG(md:Region.Mode):List Edge->Nat
 |[]=>0
 |e::l=>match Region.binds md e with|true=>orB (depG md l) e.on|false=>depG md l
def depM(md:Region.Mode)(o:Oper):Nat:=depG md o.after.toList
theorem depG_bit{md:Region.Mode}{x:Nat}:∀{l:List Edge},(depG md l).testBit x=l.any (λe=>Region.binds md e&&e.on==x)
 |[]=>by simp[depG]
 |e::l=>by
  rw[List.any_cons,<-depG_bit (l:=l),depG];cases Region.binds md e<;>simp[orB_bit,Bool.or_comm]
theorem dep_all{md:Region.Mode}{l:List Edge}{M:Nat}:Nat.beq (Nat.land (depG md l) M) (depG md l)=l.all λe=> !Region.binds md e||M.testBit e.on:=by
 rw[Bool.eq_iff_iff,Nat.beq_eq,List.all_eq_true];constructor
 ·intro h e he
  cases hb:Region.binds md e with
  |false=>rfl
  |true=>
   have h1:(depG md l).testBit e.on=true:=by rw[depG_bit,List.any_eq_true];exact⟨e,he,by simp[hb]⟩
   rw[<-h]at h1;have h1:(depG md l&&&M).testBit e.on=true:=h1;rw[Nat.testBit_and,Bool.and_eq_true]at h1;simpa using h1.2
 ·intro h
  show depG md l&&&M=_;refine Nat.eq_of_testBit_eq λi=>?_;rw[Nat.testBit_and];cases h1:(depG md l).testBit i with
  |false=>rfl
  |true=>
   rw[depG_bit,List.any_eq_true]at h1;obtain⟨e,he,hx⟩:=h1;simp only[Bool.and_eq_true,beq_iff_eq]at hx;have:=h e he;rw[hx.1]at this;rw[<-hx.2];simpa using this
theorem dep_any{md:Region.Mode}{l:List Edge}{M:Nat}:(!Nat.beq (Nat.land (depG md l) M) 0)=l.any λe=>Region.binds md e&&M.testBit e.on:=by
 rw[Bool.eq_iff_iff,List.any_eq_true,Bool.not_eq_true'];constructor
 ·intro h
  refine Classical.byContradiction λhn=>?_;have h0:depG md l&&&M=0:=by
   refine Nat.eq_of_testBit_eq λi=>?_;rw[Nat.testBit_and,Nat.zero_testBit,Bool.and_eq_false_iff];refine Classical.byContradiction λhc=>hn ?_;have hc1:(depG md l).testBit i=true:=by
    cases h1:(depG md l).testBit i with
    |true=>rfl
    |false=>exact absurd (.inl h1) hc
   have hc2:M.testBit i=true:=by
    cases h1:M.testBit i with
    |true=>rfl
    |false=>exact absurd (.inr h1) hc
   rw[depG_bit,List.any_eq_true]at hc1;obtain⟨e,he,hx⟩:=hc1;simp only[Bool.and_eq_true,beq_iff_eq]at hx;exact⟨e,he,by simp[hx.1,hx.2,hc2]⟩
  have h0:Nat.land (depG md l) M=0:=h0;rw[h0]at h;cases h
 ·rintro⟨e,he,hx⟩
  simp only[Bool.and_eq_true]at hx;have h1:(depG md l).testBit e.on=true:=by rw[depG_bit,List.any_eq_true];exact⟨e,he,by simp[hx.1]⟩
  cases hb:Nat.beq (Nat.land (depG md l) M) 0 with
  |false=>rfl
  |true=>
   have h0:depG md l&&&M=0:=Nat.eq_of_beq_eq_true hb;have:=congrArg (λa=>Nat.testBit a e.on) h0;simp only[Nat.testBit_and,h1,hx.2,Nat.zero_testBit]at this;cases this
section
variable(P:Program)(md:Region.Mode)(ops:Array Oper)
def readyM(m:Nat):List Nat:=(List.range ops.size).filter λi=> !Nat.testBit m i&&(match ops[i]?with|some o=>Nat.beq (Nat.land (depM md o) (m%2^ops.size)) (depM md o)|none=>false)
theorem readyM_eq(m:Nat):readyM md ops m=Region.ready md ops (arrB ops.size m):=by
 unfold readyM Region.ready;refine List.filter_congr λi hi=>?_;have hi:i<ops.size:=by simpa using hi
 rw[arrB_getD,if_pos hi,Array.getElem?_eq_getElem hi,Option.map_some,Option.getD_some]
 congr 1
 show Nat.beq (Nat.land (depG md ops[i].after.toList) _) (depG md ops[i].after.toList)=_;rw[dep_all,<-Array.all_toList]
 congr 1
 funext e;rw[arrB_getD,Nat.testBit_mod_two_pow];by_cases h:e.on<ops.size<;>simp[h]
def blkM(m i:Nat):List Nat->Nat->Nat
 |[],acc=>acc
 |j::js,acc=>
  match ops[j]?with
  |some o=>match !Nat.testBit m j&& !Nat.beq (Nat.land (depM md o) (orB acc i)) 0 with
   |true=>blkM m i js (orB acc j)
   |false=>blkM m i js acc
  |none=>blkM m i js acc
theorem blkM_eq(m i:Nat):∀(js:List Nat) (acc:List Nat) (A:Nat),(∀j∈js,j<ops.size)->(∀x,A.testBit x=acc.contains x)->∀x,(blkM md ops m i js A).testBit x=(blkL md ops (arrB ops.size m) i js acc).contains x
 |[],_,_,_,h=>h
 |j::js,acc,A,hj,h=>by
  have hjl:=hj j (List.mem_cons_self ..);have ih:=λa b hh=>blkM_eq m i js a b (λx hx=>hj x (List.mem_cons_of_mem _ hx)) hh;unfold blkM blkL;rw[Array.getElem?_eq_getElem hjl,arrB_getD,if_pos hjl];have hc:(!Nat.beq (Nat.land (depM md ops[j]) (orB A i)) 0)=ops[j].after.toList.any (λe=>Region.binds md e&&(e.on==i||acc.contains e.on)):=by
   unfold depM;rw[dep_any]
   congr 1
   funext e;rw[orB_bit,h,Bool.or_comm,Bool.beq_comm]
  dsimp only;rw[hc];cases !m.testBit j&&ops[j].after.toList.any (λe=>Region.binds md e&&(e.on==i||acc.contains e.on))with
  |true=>exact ih _ _ λx=>by rw[orB_bit,h,List.contains_cons,Bool.or_comm,Bool.beq_comm]
  |false=>exact ih _ _ h
def sideS(oi:Oper)(j:Nat):Bool:=
 match ops[j]?with
 |some oj=>oi.apart ops oj&&(isPure P oi||isRead P oj||(ldO P oi&&growO P oj))
 |none=>true
def allM(oi:Oper)(m i B:Nat):List Nat->Bool
 |[]=>true
 |j::js=>(Nat.beq j i||(Nat.testBit m j||(Nat.testBit B j||sideS P ops oi j)))&&allM oi m i B js
def takeM(m i:Nat):Bool:=
 match ops[i]?with
 |some oi=>isRead P oi&&allM P ops oi m i (blkM md ops m i (List.range ops.size) 0) (List.range ops.size)
 |none=>false
theorem takeM_eq(m i:Nat):takeM P md ops m i=takeable P md ops (arrB ops.size m) i:=by
 unfold takeM takeable;cases ops[i]?with
 |none=>rfl
 |some oi=>
  dsimp only
  congr 1
  have hB:=blkM_eq md ops m i (List.range ops.size) [] 0 (λj hj=>by simpa using hj) (λx=>by simp);have go:∀js:List Nat,(∀j∈js,j<ops.size)->allM P ops oi m i (blkM md ops m i (List.range ops.size) 0) js=js.all (besideB P ops (arrB ops.size m) i oi (blkL md ops (arrB ops.size m) i (List.range ops.size) [])):=by
   intro js
   induction js with
   |nil=>intro _;rfl
   |cons j js ih=>
    intro hj;rw[allM,List.all_cons,ih λx hx=>hj x (List.mem_cons_of_mem _ hx)]
    congr 1
    unfold besideB;rw[arrB_getD,if_pos (hj j (List.mem_cons_self ..)),<-hB,Bool.or_assoc,Bool.or_assoc];have:Nat.beq j i=(j==i):=by rw[Bool.eq_iff_iff,Nat.beq_eq,beq_iff_eq]
    rw[this];rfl
  exact go _ λj hj=>by simpa using hj
abbrev StopM:=Nat->Nat->Env->Option Pr
def cDM(kp:KP)(stop:StopM):Nat->Nat->Env->(Env->Pr)->Pr
 |0,m,e,k=>stopOr (stop 0 m e) (cSel (readyM md ops m) none (k e) (λ_=>fls))
 |fuel+1,m,e,k=>stopOr (stop (fuel+1) m e) (cSel (readyM md ops m) ((readyM md ops m).find? (takeM P md ops m)) (k e)
   (λi=>opt (ops[i]?) λo=>cOne P kp false ops o e λe'=>cDM kp stop fuel (orB m i) e' k))
theorem cDM_eq(kp:KP){sM:StopM}{s:StopF}(h:∀f m e,sM f m e=s f (arrB ops.size m) e):∀(f m:Nat) (e:Env) (k:Env->Pr),cDM P md ops kp sM f m e k=cD P kp md ops s f (arrB ops.size m) e k
 |0,m,e,k=>by rw[cDM,cD,h,readyM_eq]
 |f+1,m,e,k=>by
  rw[cDM,cD,h,readyM_eq];have ht:takeM P md ops m=takeable P md ops (arrB ops.size m):=funext λi=>takeM_eq P md ops m i;have hk:∀i e',cDM P md ops kp sM f (orB m i) e' k=cD P kp md ops s f ((arrB ops.size m).setIfInBounds i true) e' k:=λi e'=>by rw[cDM_eq kp h f,arrB_set]
  rw[ht];simp only[hk]
def JA.toM(j:JA)(m:Nat):Nat:=j.ix.foldl orB m
theorem toM_eq(j:JA)(n m:Nat):j.to (arrB n m)=arrB n (j.toM m):=by
 unfold JA.to JA.toM;generalize j.ix=l
 induction l generalizing m with
 |nil=>rfl
 |cons i l ih=>rw[List.foldl_cons,List.foldl_cons,arrB_set,ih]
def stopTM(j:JA)(e:Env)(T:Nat)(f2:Nat)(R:PayL (j.l.map (·.2))->Pr):StopM:=λfuel m e'=>
 match Nat.beq (m%2^ops.size) (T%2^ops.size)&&Nat.ble f2 fuel with
 |true=>some (tf (keptB e e' (j.kp ops)&&(j.sl ops).all λd=>isSkip (Env.get e' d)) (need e' j.l R) fls)
 |false=>none
def joinM(kp:KP)(j:JA)(nxt:Nat->Nat->Env->Pr)(fuel:Nat)(m:Nat)(e:Env):Pr:=
 tf (!(wrOps ops).contains markN&& !(wrOps ops).contains dfrN) (jn (λR=>cDM P md ops kp (stopTM ops j e (j.toM m) (fuel-j.ix.length) R) fuel m e (λ_=>fls))
  (λs=>nxt (fuel-j.ix.length) (j.toM m) (upd (setSk (j.sl ops) (keepE e (j.kp ops) (Env.forget e (wrOps ops)))) j.l s))) fls
def stopJM(kp:KP)(j:JA)(nxt:Nat->Nat->Env->Pr)(alt:StopM):StopM:=λfuel m e=>
 match readyM md ops m==j.rs&&(j.sk==j.ix.all (skipB ops e))with
 |true=>some (joinM P md ops kp j nxt fuel m e)
 |false=>alt fuel m e
def stopsM(kp:KP)(k:Env->Pr):List JA->StopM
 |[]=>λ_ _ _=>none
 |j::js=>stopJM P md ops kp j (λf L e'=>cDM P md ops kp (stopsM kp k js) f L e' k) (stopsM kp k js)
theorem stopsM_eq(kp:KP)(k:Env->Pr):∀(js:List JA) (f m:Nat) (e:Env),stopsM P md ops kp k js f m e=stops P kp md ops k js f (arrB ops.size m) e
 |[],_,_,_=>rfl
 |j::js,f,m,e=>by
  show stopJM P md ops kp j _ _ f m e=stopJ P kp md ops j _ _ f (arrB ops.size m) e;unfold stopJM stopJ;rw[readyM_eq,stopsM_eq kp k js];have:joinM P md ops kp j (λf L e'=>cDM P md ops kp (stopsM P md ops kp k js) f L e' k) f m e=joinP P kp md ops j (λf L e'=>cD P kp md ops (stops P kp md ops k js) f L e' k) f (arrB ops.size m) e:=by
   unfold joinM joinP
   congr 1
   congr 1
   ·funext R
    rw[toM_eq];refine cDM_eq P md ops kp (λf' m' e'=>?_) ..;unfold stopTM stopT;rw[arrB_eq]
    all_goals rfl
   ·funext s
    rw[toM_eq];exact cDM_eq P md ops kp (λf' m' e'=>stopsM_eq kp k js f' m' e') ..
  rw[this]
  all_goals rfl
def cDrawM(kp:KP)(js:List JA)(e:Env)(k:Env->Pr):Pr:=cDM P md ops kp (stopsM P md ops kp k js) ops.size 0 e k
theorem cDrawM_eq(kp:KP)(js:List JA)(e:Env)(k:Env->Pr):cDrawM P md ops kp js e k=cDraw P kp md ops js ops.size (Array.replicate ops.size false) e k:=by
 rw[arrB_zero];exact cDM_eq P md ops kp (stopsM_eq P md ops kp k js) ..
end
inductive An where
 |z
 |sq (x y:An)
 |br (x y:An)
 |bl (x:An)
 |sc (x:An)
 |lp (l:Live) (x:An)
 |jn (l:Live) (x:An)
 |rf (shs:List Sh) (x y:An)
 |jm (l:Live) (x:An)
 |lb
 |sj (lb:Nat) (l:Live) (x y:An)
 |rj (js:List JA)
structure Ks where
 n:Env->Pr
 r:Env->Pr
 x:List (Nat×(Env->Pr))
 rg:Bool
 g:List (Nat×(Env->Pr))
def xget:List (Nat×(Env->Pr))->Nat->Env->Pr
 |[],_,_=>fls
 |(j,k)::l,i,e=>
  match Nat.beq i j with
  |true=>k e
  |false=>xget l i e
def wrC:Code->List Nat
 |.region _ ops _=>wrOps ops
 |.seq a b=>wrC a++wrC b
 |.cond _ a b=>wrC a++wrC b
 |.block _ a=>wrC a
 |.loop a=>wrC a
 |.scope a=>wrC a
 |.rangeFunc _ _ _ _=>[markN]
 |_=>[]
def kpDraw(kp:KP)(dk:Bool):KP:=
 match dk with
 |true=>kp
 |false=>none
def drawOk(P:Program)(ops:Array Oper):Bool:=Region.noSelect ops&&noDefer ops
def mixes(P:Program)(ops:Array Oper):Bool:=P.follows .mixedOrders|| !Region.departs ops
def okJ(js:List JA)(ops:Array Oper):Bool:=js.all λj=>j.l.all λx=>(wrOps ops).contains x.1
def cReg(P:Program)(kp:KP)(dk rg:Bool)(js:List JA)(ops:Array Oper)(draw:Bool)(e:Env)(k:Env->Pr):Pr:=
 match draw with
 |false=>cOps P kp (!rg) ops (List.range ops.size) e k
 |true=>tf (drawOk P ops) (drw (tf (mixes P ops) (cDrawM P .any ops (kpDraw kp dk) js e k)
   (both (cDrawM P .text ops (kpDraw kp dk) js e k) (cDrawM P .gc ops (kpDraw kp dk) js e k)))) fls
def liveIn(l:Live)(W:List Nat):Bool:= !W.contains markN&& !W.contains dfrN&&l.all λx=>W.contains x.1
def jcode:Option Nat->Code
 |none=>.ret
 |some i=>.exit i
def xg:List (Nat×Pr)->Nat->Pr
 |[],_=>fls
 |(j,k)::l,i=>
  match Nat.beq i j with
  |true=>k
  |false=>xg l i
def jmp(r:Pr)(x:List (Nat×Pr)):Option Nat->Pr
 |none=>r
 |some i=>xg x i
def hasRet:Code->Bool
 |.ret=>true
 |.seq a b=>hasRet a||hasRet b
 |.cond _ a b=>hasRet a||hasRet b
 |.block _ a=>hasRet a
 |.loop a=>hasRet a
 |.scope a=>hasRet a
 |.rangeFunc _ _ a b=>hasRet a||hasRet b
 |_=>false
def hasExit(i:Nat):Code->Bool
 |.exit j=>Nat.beq i j
 |.seq a b=>hasExit i a||hasExit i b
 |.cond _ a b=>hasExit i a||hasExit i b
 |.block _ a=>hasExit i a
 |.loop a=>hasExit i a
 |.scope a=>hasExit i a
 |.rangeFunc _ _ a b=>hasExit i a||hasExit i b
 |_=>false
def xat(c:Code)(e:Env):List (Nat×(Env->Pr))->List (Nat×Pr)
 |[]=>[]
 |(i,k)::l=>
  match hasExit i c with
  |true=>(i,k e)::xat c e l
  |false=>xat c e l
def rngE(P:Program)(v:Value)(shs:List Sh)(R:Nat->PayL shs->(Pr->Pr)->Pr->(Option Nat->Pr)->Pr)(K Jr:Nat->Pr)(Jx:Nat->List (Nat×Pr)):Pr:=λw=>
 ∃f caps,v=.func (.func f) #[] caps/\callable P f=true/\
 ∀L:LoopState->Option Code->Obj,(∀s p,∃r,L s p=.loop r)->
  (∀(W:World) (args:PayL shs) (k:Bool->Pr),W.heap[w.heap.size+1]? =some (L .ready none)->
    R (w.heap.size+1) args (λc W1=>W1.heap[w.heap.size+1]? =some (L .ready none)/\c (W1.putObj (w.heap.size+1) (L .busy none)))
      (λW1=>W1.heap[w.heap.size+1]? =some (L .busy none)/\k true (W1.putObj (w.heap.size+1) (L .ready none)))
      (λj W1=>W1.heap[w.heap.size+1]? =some (L .busy none)/\k false (W1.putObj (w.heap.size+1) (L .done (some (jcode j))))) W->
    YieldAt Fence.wide 0 P (w.heap.size+1) (valL shs args).toArray W (RetT [.c .bool] k))->
  Calls P f (#[.func (.yield (w.heap.size+1)) #[] #[]]++caps) ((w.alloc (.deferred (some []))).alloc (L .ready none)) λe W1=>
   (∃u,e=.returned u)/\
   ((W1.heap[w.heap.size+1]? =some (L .ready none)/\K w.heap.size (W1.putObj (w.heap.size+1) (L .exhausted none)))\/
    ∃j,W1.heap[w.heap.size+1]? =some (L .done (some (jcode j)))/\jmp (Jr w.heap.size) (Jx w.heap.size) j (W1.putObj (w.heap.size+1) (L .exhausted (some (jcode j)))))
def setPs:List Nat->List Value->Env->Env
 |p::ps,v::vs,e=>setPs ps vs (Env.set e p (.val v))
 |_,_,e=>e
def xlv(lv:Option Nat->Pr):List (Nat×(Env->Pr))->List (Nat×(Env->Pr))
 |[]=>[]
 |(i,_)::l=>(i,λ_=>lv (some i))::xlv lv l
def takes:List Nat->Pr->Pr
 |[],k=>k
 |D::ds,k=>λw=>w.heap[D]? =some (.deferred (some []))/\takes ds k (w.putObj D (.deferred none))
def hasLab(l:Nat):Code->Bool
 |.seq a b=>hasLab l a||hasLab l b
 |.label l'=>Nat.beq l' l
 |_=>false
def noLab:Code->Bool
 |.seq a b=>noLab a&&noLab b
 |.label _=>false
 |_=>true
def scpE{S:Type}(G:(S->Pr)->S->Pr)(F:(S->Pr)->Pr):Pr:=λw=>
 ∃(I:S->Pr) (μ:S->World->Nat),F I w/\∀s w,I s w->G (λs' w'=>I s' w'/\μ s' w'<μ s w) s w
mutual
def cC(P:Program)(kp:KP)(dk:Bool):An->Code->Env->Ks->Pr
 |.z,.skip,e,K=>K.n e
 |.z,.label _,e,K=>K.n e
 |.z,.region _ ops draw,e,K=>cReg P kp dk K.rg [] ops draw e K.n
 |.rj js,.region _ ops draw,e,K=>tf (okJ js ops) (cReg P kp dk K.rg js ops draw e K.n) fls
 |.z,.exit i,e,K=>xget K.x i e
 |.z,.ret,e,K=>K.r e
 |.z,.goto l,e,K=>xget K.g l e
 |.lb,.label l,e,K=>xget K.g l e
 |.sq x y,.seq a b,e,K=>cC P kp dk x a e {K with n:=λe'=>cC P kp dk y b e' K}
 |.br x y,.cond c a b,e,K=>tf (noLab a&&noLab b) (cbr (Env.ev e c) (cC P kp dk x a e K) (cC P kp dk y b e K)) fls
 |.bl x,.block id a,e,K=>tf (noLab a) (cC P kp dk x a e {K with x:=(id,K.n)::K.x}) fls
 |.sc x,.scope a,e,K=>cC P kp dk x a e {K with g:=[]}
 |.sj lb l x y,.scope a,e,K=>tf (liveIn l (wrC a)&&hasLab lb a) (scpE
   (λX s=>cL P kp dk lb y a (upd (Env.forget e (wrC a)) l s) {K with g:=[(lb,λe'=>need e' l X)]})
   (λX=>cC P kp dk x a e {K with g:=[(lb,λe'=>need e' l X)]})) fls
 |.lp l x,.loop a,e,K=>tf (liveIn l (wrC a)&&noLab a) (need e l λs=>loopE (λX s=>cC P kp dk x a (upd (Env.forget e (wrC a)) l s) {K with n:=λe'=>need e' l X}) s) fls
 |.jn l x,c,e,K=>tf (liveIn l (wrC c)&&noLab c) (jn (λR=>cC P kp dk x c e {K with n:=λe'=>need e' l R}) (λs=>K.n (upd (Env.forget e (wrC c)) l s))) fls
 |.rf shs x y,.rangeFunc g ps assign body,e,K=>tf (!K.rg&&Nat.beq shs.length ps.size) (nd (Env.ev e g) λv=>
   rngE P v shs (λ_ args bg nx lv=>cC P none dk x assign (setPs ps.toList (valL shs args) ⟨e.l,[],[]⟩) ⟨λe1=>bg (cC P none dk y body e1 ⟨λ_=>nx,λ_=>lv none,xlv lv K.x,true,[]⟩),λ_=>fls,[],true,[]⟩)
    (λD=>K.n (Env.mark e D)) (λD=>tf (hasRet body) (K.r (Env.mark e D)) fls) (λD=>xat body (Env.mark e D) K.x)) fls
 |.jm l x,c,e,K=>tf ((!(wrC c).contains dfrN&&l.all λz=>(wrC c).contains z.1)&&noLab c) (jn (λR=>cC P kp dk x c e {K with n:=λe'=>need e' l λs=>R (e'.ds,s)}) (λs=>K.n (upd ⟨(Env.forget e (wrC c)).l,s.1,e.bs⟩ l s.2))) fls
 |_,_,_,_=>fls
def cL(P:Program)(kp:KP)(dk:Bool)(lb:Nat):An->Code->Env->Ks->Pr
 |.z,.label l,e,K=>tf (Nat.beq l lb) (K.n e) fls
 |.sq x y,.seq a b,e,K=>tf (hasLab lb a) (tf (hasLab lb b) fls (cL P kp dk lb x a e {K with n:=λe'=>cC P kp dk y b e' K})) (cL P kp dk lb y b e K)
 |_,_,_,_=>fls
end
theorem stepR_scope'{P:Program}{b:Frame}{a:Act}{k:List Item}{cs:List Frame}{w:World}{c:Code}:
 step P (lone (b.atR a (.code (.scope c)::k)) cs w)=.next (lone (b.atR a (.code c::.inScope c::k)) cs w):=
 step_lone_go (by simp[stepG,stepG.exec,Frame.atR])
theorem stepR_inScope'{P:Program}{b:Frame}{a:Act}{k:List Item}{cs:List Frame}{w:World}{c:Code}:
 step P (lone (b.atR a (.inScope c::k)) cs w)=.next (lone (b.atR a k) cs w):=
 step_lone_go (by simp[stepG,stepG.exec,Frame.atR])
def noGo(Q:Exit->Act->World->Prop):Exit->Act->World->Prop
 |.goto _,_,_=>False
 |e,a,w=>Q e a w
theorem wpIn_scope'{F:Fence}{n:Nat}{P:Program}{Q:Exit->Act->World->Prop}{a:Act}{w:World}{c:Code}(h:c.wpIn F n P (noGo Q) a w):(Code.scope c).wpIn F n P Q a w:=by
 intro b k cs hro hb hr;have h0:(lone (b.atR a (.code (.scope c)::k)) cs w).fenced P F:=fenced_calm hb hr rfl;obtain⟨e,a₁,w₁,hq,harr⟩:=h b (.inScope c::k) cs hro hb hr;cases e with
 |normal=>exact⟨.normal,a₁,w₁,hq,.head h0 stepR_scope' (StepsIn.trans harr (.one (fenced_calm hb hr rfl) stepR_inScope'))⟩
 |exit id=>
  have hx:exitTo id (.inScope c::k)=exitTo id k:=by simp[exitTo]
  exact⟨_,a₁,w₁,hq,λk' hk=>.head h0 stepR_scope' (harr.1 k' (by rw[hx];exact hk)),
   λhr' hk=>let⟨k₁,h1,h2⟩:=harr.2 hr' (by rw[hx];exact hk);⟨k₁,h1,.head h0 stepR_scope' h2⟩⟩
 |goto l=>exact hq.elim
 |ret=>exact⟨_,a₁,w₁,hq,.of_steps (.one h0 stepR_scope') harr⟩
 |panic ch=>exact⟨_,a₁,w₁,hq,.of_steps (.one h0 stepR_scope') harr⟩
 |outgrown=>exact⟨_,a₁,w₁,hq,.of_steps (.one h0 stepR_scope') harr⟩
theorem least{S:Type}(p:S->Prop)(f:S->Nat)(h:∃s,p s):∃s,p s/\∀s',p s'->f s<=f s':=by
 have key:∀m s,p s->f s=m->∃s,p s/\∀s',p s'->f s<=f s':=by
  intro m
  induction m using Nat.strongRecOn with
  |_ m ih=>
   intro s hs hm;rcases Classical.em (∃s',p s'/\f s'<m)with⟨s',h1,h2⟩|hno
   ·exact ih _ h2 s' h1 rfl
   ·refine⟨s,hs,λs' hs'=>?_⟩
    rw[hm];exact Nat.le_of_not_lt λhlt=>hno ⟨s',hs',hlt⟩
 obtain⟨s,hs⟩:=h;exact key _ s hs rfl
theorem wpIn_loopG{F:Fence}{n:Nat}{P:Program}{Q:Exit->Act->World->Prop}{c:Code}{S:Type}(I:S->Act->World->Prop)(μ:S->World->Nat){s:S}{a:Act}{w:World}(h₀:I s a w)
 (round:∀s a w,I s a w->c.wpIn F n P (Exit.then (λa' w'=>∃s',I s' a' w'/\μ s' w'<μ s w) Q) a w):(Code.loop c).wpIn F n P Q a w:=by
 classical
 let ν:Act->World->Nat:=λa w=>if h:∃s,I s a w then μ (Classical.choose (least (λs=>I s a w) (λs=>μ s w) h)) w else 0;refine wpIn_loop (λa w=>∃s,I s a w) ν ⟨s,h₀⟩ ?_;intro a w hex;obtain⟨hs1,_⟩:=Classical.choose_spec (least (λs=>I s a w) (λs=>μ s w) hex);have hν:ν a w=μ (Classical.choose (least (λs=>I s a w) (λs=>μ s w) hex)) w:=by simp only[ν];rw[dif_pos hex]
 refine wpIn_mono (round _ a w hs1) ?_;intro e a' w' h;cases e with
 |normal=>
  obtain⟨s',hs',hlt⟩:=h;refine⟨⟨s',hs'⟩,?_⟩;have hex':∃s,I s a' w':=⟨s',hs'⟩;have h2:=(Classical.choose_spec (least (λs=>I s a' w') (λs=>μ s w') hex')).2 s' hs';have hν':ν a' w'=μ (Classical.choose (least (λs=>I s a' w') (λs=>μ s w') hex')) w':=by simp only[ν];rw[dif_pos hex']
  rw[hν,hν'];exact Nat.lt_of_le_of_lt h2 hlt
 |_=>exact h
section
variable{P:Program}{n:Nat}{r:Option Nat}
theorem region_any{Q:Exit->Act->World->Prop}{ops:Array Oper}{id:Nat}{a:Act}{w:World}(hm:mixes P ops=true)
 (h:wpAnyIn (wf r) n P .any ops Q ops.size (Array.replicate ops.size false) a w.drew):(Code.region id ops true).wpIn (wf r) n P Q a w:=
 wpIn_region_draw λt=>by
  unfold mixes at hm;simp only[Region.schedule,hm,if_true];exact wpAnyIn_sound ops.size t _ a _ h
theorem region_two{Q:Exit->Act->World->Prop}{ops:Array Oper}{id:Nat}{a:Act}{w:World}(hm:mixes P ops=false)
 (h1:wpAnyIn (wf r) n P .text ops Q ops.size (Array.replicate ops.size false) a w.drew)(h2:wpAnyIn (wf r) n P .gc ops Q ops.size (Array.replicate ops.size false) a w.drew):(Code.region id ops true).wpIn (wf r) n P Q a w:=
 wpIn_region_draw λt=>by
  unfold mixes at hm;simp only[Region.schedule,hm,Bool.false_eq_true,if_false];split
  ·exact wpAnyIn_sound ops.size _ _ a _ h1
  ·exact wpAnyIn_sound ops.size _ _ a _ h2
def noPan(Q:Exit->Act->World->Prop):Exit->Act->World->Prop
 |.panic _,_,_=>False
 |e,a,w=>Q e a w
theorem okJ_spec{js:List JA}{ops:Array Oper}(h:okJ js ops=true):∀j∈js,∀x∈j.l,x.1∈wrOps ops:=λj hj x hx=>by
 simpa using List.all_eq_true.1 (List.all_eq_true.1 h j hj) x hx
theorem cReg_sound{kp:KP}{dk rg:Bool}{js:List JA}{ops:Array Oper}{id:Nat}{draw:Bool}{Q:Exit->Act->World->Prop}{e:Env}{a:Act}{w:World}{k:Env->Pr}(hrg:rg=false->r=none)
 (hI:dk=true->∀c a d v w,d∈wrOps ops->Q (.panic c) (a.put (some d) v) w->Q (.panic c) a w)(hjs:okJ js ops=true)(he:Ag e a)(h:cReg P kp dk rg js ops draw e k w)
 (hk:∀e' a' w',Ag e' a'->Ext (wrOps ops) e e'->k e' w'->Q .normal a' w')
 (hp:∀e' a' ch w',Ag e' a'->Ext (wrOps ops) e e'->kpH (kp.at e') ch w'->Q (.panic ch) a' w'):(Code.region id ops draw).wpIn (wf r) n P Q a w:=by
 cases draw with
 |false=>exact wpIn_region (cOps_sound (λh=>hrg (by simpa using h)) he h hk hp)
 |true=>
  rcases tf_sound (show tf (drawOk P ops) _ _ w from h)with⟨hd,h⟩|⟨_,h⟩
  ·simp only[drawOk,Bool.and_eq_true]at hd
   have one:∀(md:Region.Mode) (Q0:Exit->Act->World->Prop),(Q0=Q/\dk=true)\/(Q0=noPan Q/\dk=false)->cDrawM P md ops (kpDraw kp dk) js e k w.drew->
    wpAnyIn (wf r) n P md ops Q0 ops.size (Array.replicate ops.size false) a w.drew:=by
    intro md Q0 hQ0 h;rw[cDrawM_eq]at h;rcases hQ0 with⟨rfl,rfl⟩|⟨rfl,rfl⟩
    ·exact wpAnyR_In hd.2 _ _ _ _ (cDraw_sound hd.1 (hI rfl) js (okJ_spec hjs) _ _ _ _ _ _ he h hk hp)
    ·exact wpAnyR_In hd.2 _ _ _ _ (cDraw_sound (kp:=none) hd.1 (λc a d v w _ h=>h) js (okJ_spec hjs) _ _ _ _ _ _ he h hk (λe' a' ch w' _ _ h=>False.elim h))
   have both':∀Q0:Exit->Act->World->Prop,(Q0=Q/\dk=true)\/(Q0=noPan Q/\dk=false)->(Code.region id ops true).wpIn (wf r) n P Q0 a w:=by
    intro Q0 hQ0;rcases tf_sound (show tf (mixes P ops) _ _ w.drew from h)with⟨hm,h⟩|⟨hm,h⟩
    ·exact region_any hm (one _ _ hQ0 h)
    ·exact region_two hm (one _ _ hQ0 h.1) (one _ _ hQ0 h.2)
   cases hdk:dk with
   |true=>exact both' Q (.inl ⟨rfl,hdk⟩)
   |false=>
    refine wpIn_mono (Q:=noPan Q) (both' _ (.inr ⟨rfl,hdk⟩)) ?_;intro ex a' w' h;cases ex<;>first|exact h|exact False.elim h
  ·exact h.elim
theorem liveIn_spec{l:Live}{W:List Nat}(h:liveIn l W=true):(∀x∈l,x.1∈W)/\markN∉W/\dfrN∉W:=by
 unfold liveIn at h;rw[Bool.and_eq_true,Bool.and_eq_true]at h;refine⟨λx hx=>?_,by simpa using h.1.1,by simpa using h.1.2⟩;have:=List.all_eq_true.1 h.2 x hx;simpa using this
theorem valL_length:∀(l:List Sh) (p:PayL l),(valL l p).length=l.length
 |[],_=>rfl
 |[_],_=>rfl
 |_::t::l,(p,q)=>by
  show(val _ p::valL (t::l) q).length=_;rw[List.length_cons,valL_length (t::l) q];rfl
theorem setPs_ag:∀(ps:List Nat) (vs:List Value) (e:Env) (a:Act),Ag e a->Ag (setPs ps vs e) ((ps.zip vs).foldl (λa x=>a.put (some x.1) x.2) a)
 |[],vs,e,a,h=>by cases vs<;>exact h
 |_::_,[],e,a,h=>h
 |p::ps,v::vs,e,a,h=>setPs_ag ps vs _ _ (h.put (some p) (x:=.val v) (λu hu=>by simpa[EV.v?]using hu.symm))
theorem foldl_put:∀(l:List (Nat×Value)) (a:Act),l.foldl (λa x=>a.put (some x.1) x.2) a={a with tmps:=l.foldl (λt x=>t.setIfInBounds x.1 x.2) a.tmps}
 |[],a=>rfl
 |x::l,a=>by
  rw[List.foldl_cons,List.foldl_cons,foldl_put l];rfl
theorem xg_none{c:Code}{e:Env}{i:Nat}{w:World}(hi:hasExit i c=false):∀{l:List (Nat×(Env->Pr))},xg (xat c e l) i w->False
 |[],h=>h.elim
 |(j,k)::l,h=>by
  unfold xat at h;cases hj:hasExit j c with
  |false=>rw[hj]at h;exact xg_none hi (l:=l) h
  |true=>
   rw[hj]at h;unfold xg at h;cases hb:Nat.beq i j with
   |true=>
    have:i=j:=Nat.eq_of_beq_eq_true hb;subst this;rw[hi]at hj;cases hj
   |false=>rw[hb]at h;exact xg_none hi (l:=l) h
theorem xg_xat{c:Code}{e:Env}{i:Nat}{w:World}(hi:hasExit i c=true):∀{l:List (Nat×(Env->Pr))},xg (xat c e l) i w->xget l i e w
 |[],h=>h.elim
 |(j,k)::l,h=>by
  unfold xat at h;unfold xget;cases hb:Nat.beq i j with
  |true=>
   have:i=j:=Nat.eq_of_beq_eq_true hb;subst this;rw[hi]at h;unfold xg at h;rw[hb]at h;exact h
  |false=>
   cases hj:hasExit j c with
   |false=>rw[hj]at h;exact xg_xat hi (l:=l) h
   |true=>
    rw[hj]at h;unfold xg at h;rw[hb]at h;exact xg_xat hi (l:=l) h
theorem xg_any{c:Code}{e:Env}{i:Nat}{w:World}{l:List (Nat×(Env->Pr))}(h:xg (xat c e l) i w):xget l i e w:=by
 cases hi:hasExit i c with
 |true=>exact xg_xat hi h
 |false=>exact(xg_none hi h).elim
theorem xget_xlv{lv:Option Nat->Pr}{i:Nat}{e:Env}{w:World}:∀{l:List (Nat×(Env->Pr))},xget (xlv lv l) i e w->lv (some i) w
 |[],h=>h.elim
 |(j,k)::l,h=>by
  unfold xlv xget at h;cases hb:Nat.beq i j with
  |true=>
   rw[hb]at h;have:i=j:=Nat.eq_of_beq_eq_true hb;subst this;exact h
  |false=>
   rw[hb]at h;exact xget_xlv (l:=l) h
theorem noLab_has{l:Nat}:∀{c:Code},noLab c=true->hasLab l c=false
 |.seq a b,h=>by
  simp only[noLab,Bool.and_eq_true]at h;simp only[hasLab,noLab_has (c:=a) h.1,noLab_has (c:=b) h.2,Bool.or_self]
 |.label _,h=>by cases h
 |.skip,_|.region _ _ _,_|.cond _ _ _,_|.block _ _,_|.loop _,_|.scope _,_|.exit _,_|.goto _,_|.ret,_|.refuse _,_|.rangeFunc _ _ _ _,_=>rfl
def landQ(P:Program)(n:Nat)(r:Option Nat):Code->Nat->(Exit->Act->World->Prop)->Act->World->Prop
 |.seq a b,l,Q,ac,w=>(hasLab l a=true->landQ P n r a l (Exit.then (b.wpIn (wf r) n P Q) Q) ac w)/\(hasLab l b=true->landQ P n r b l Q ac w)
 |.label _,_,Q,ac,w=>Q .normal ac w
 |_,_,_,_,_=>True
theorem findLabel_has{l:Nat}:∀{c rest:Code},findLabel c l=some rest->hasLab l c=true
 |.seq a b,rest,h=>by
  unfold findLabel at h;simp only[hasLab,Bool.or_eq_true];split at h
  ·rename_i ra ha;exact .inl (findLabel_has ha)
  ·exact .inr (findLabel_has h)
 |.label l',rest,h=>by
  unfold findLabel at h;split at h
  ·rename_i he
   have:l'=l:=by simpa using he
   subst this;exact Nat.beq_refl _
  ·cases h
 |.skip,_,h|.region _ _ _,_,h|.cond _ _ _,_,h|.block _ _,_,h|.loop _,_,h|.scope _,_,h|.exit _,_,h|.goto _,_,h|.ret,_,h|.refuse _,_,h|.rangeFunc _ _ _ _,_,h=>by simp[findLabel]at h
theorem has_findLabel{l:Nat}:∀{c:Code},hasLab l c=true->∃rest,findLabel c l=some rest
 |.seq a b,h=>by
  simp only[hasLab,Bool.or_eq_true]at h;unfold findLabel;cases ha:findLabel a l with
  |some ra=>exact⟨_,rfl⟩
  |none=>
   rcases h with h|h
   ·obtain⟨r,hr⟩:=has_findLabel h
    rw[ha]at hr;cases hr
   ·exact has_findLabel h
 |.label l',h=>by
  have:l'=l:=(Nat.eq_of_beq_eq_true (show Nat.beq l' l=true from h));subst this;exact⟨.skip,by simp[findLabel]⟩
 |.skip,h|.region _ _ _,h|.cond _ _ _,h|.block _ _,h|.loop _,h|.scope _,h|.exit _,h|.goto _,h|.ret,h|.refuse _,h|.rangeFunc _ _ _ _,h=>by cases h
theorem landQ_wp{P:Program}{n:Nat}{r:Option Nat}{l:Nat}:∀{c rest:Code} {Q:Exit->Act->World->Prop} {a:Act} {w:World},findLabel c l=some rest->landQ P n r c l Q a w->rest.wpIn (wf r) n P Q a w
 |.seq c1 c2,rest,Q,a,w,h,hl=>by
  obtain⟨h1,h2⟩:=hl;unfold findLabel at h;split at h
  ·rename_i ra ha
   simp only[Option.some.injEq]at h;subst h;exact wpIn_seq (landQ_wp ha (h1 (findLabel_has ha)))
  ·exact landQ_wp h (h2 (findLabel_has h))
 |.label l',rest,Q,a,w,h,hl=>by
  unfold findLabel at h;split at h
  ·simp only[Option.some.injEq]at h
   subst h;exact wpIn_skip hl
  ·cases h
 |.skip,_,_,_,_,h,_|.region _ _ _,_,_,_,_,h,_|.cond _ _ _,_,_,_,_,h,_|.block _ _,_,_,_,_,h,_|.loop _,_,_,_,_,h,_|.scope _,_,_,_,_,h,_|.exit _,_,_,_,_,h,_
 |.goto _,_,_,_,_,h,_|.ret,_,_,_,_,h,_|.refuse _,_,_,_,_,h,_|.rangeFunc _ _ _ _,_,_,_,_,h,_=>by simp[findLabel]at h
def jumpQ(l:Nat)(J:Act->World->Prop)(Q:Exit->Act->World->Prop):Exit->Act->World->Prop
 |.goto l',a,w=>l'=l/\J a w
 |e,a,w=>Q e a w
theorem wpIn_scope_jumpsG{F:Fence}{n:Nat}{P:Program}{Q:Exit->Act->World->Prop}{a:Act}{w:World}{c rest:Code}{S:Type}(l:Nat)(J:S->Act->World->Prop)(μ:S->World->Nat)(hf:findLabel c l=some rest)
 (first:c.wpIn F n P (jumpQ l (λa w=>∃s,J s a w) Q) a w)
 (pass:∀s a w,J s a w->rest.wpIn F n P (jumpQ l (λa' w'=>∃s',J s' a' w'/\μ s' w'<μ s w) Q) a w):(Code.scope c).wpIn F n P Q a w:=by
 intro b k cs hro hb hr;have h0:(lone (b.atR a (.code (.scope c)::k)) cs w).fenced P F:=fenced_calm hb hr rfl;have hg:gotoIn l (.inScope c::k)=some (.code rest::.inScope c::k):=by simp[gotoIn,hf]
 have hxe:∀id,exitTo id (.inScope c::k)=exitTo id k:=λid=>by simp[exitTo]
 have key:∀m s a w,μ s w=m->J s a w->∃e a' w',Q e a' w'/\ArrivesIn (Machine.fenced P F) P (lone (b.atR a (.code rest::.inScope c::k)) cs w) b k cs e a' w':=by
  intro m
  induction m using Nat.strongRecOn with
  |_ m ih=>
   intro s a w hn hJ;obtain⟨e,a₁,w₁,hq,harr⟩:=pass s a w hJ b (.inScope c::k) cs hro hb hr;cases e with
   |normal=>exact⟨.normal,a₁,w₁,hq,StepsIn.trans harr (.one (fenced_calm hb hr rfl) stepR_inScope')⟩
   |exit id=>exact⟨.exit id,a₁,w₁,hq,λk' hk=>harr.1 k' (by rw[hxe];exact hk),λhr' hk=>harr.2 hr' (by rw[hxe];exact hk)⟩
   |goto l'=>
    obtain⟨rfl,s',hJ',hlt⟩:=hq;obtain⟨e₂,a₂,w₂,hq₂,harr₂⟩:=ih _ (hn▸hlt) s' a₁ w₁ rfl hJ';exact⟨e₂,a₂,w₂,hq₂,.of_steps (harr.1 _ hg) harr₂⟩
   |ret=>exact⟨_,a₁,w₁,hq,harr⟩
   |panic ch=>exact⟨_,a₁,w₁,hq,harr⟩
   |outgrown=>exact⟨_,a₁,w₁,hq,harr⟩
 obtain⟨e,a₁,w₁,hq,harr⟩:=first b (.inScope c::k) cs hro hb hr
 cases e with
 |normal=>exact⟨.normal,a₁,w₁,hq,.head h0 stepR_scope' (StepsIn.trans harr (.one (fenced_calm hb hr rfl) stepR_inScope'))⟩
 |exit id=>
  exact⟨_,a₁,w₁,hq,λk' hk=>.head h0 stepR_scope' (harr.1 k' (by rw[hxe];exact hk)),
   λhr' hk=>let⟨k₁,h1,h2⟩:=harr.2 hr' (by rw[hxe];exact hk);⟨k₁,h1,.head h0 stepR_scope' h2⟩⟩
 |goto l'=>
  obtain⟨rfl,s',hJ'⟩:=hq;obtain⟨e₂,a₂,w₂,hq₂,harr₂⟩:=key _ s' a₁ w₁ rfl hJ';exact⟨e₂,a₂,w₂,hq₂,.of_steps (.head h0 stepR_scope' (harr.1 _ hg)) harr₂⟩
 |ret=>exact⟨_,a₁,w₁,hq,.of_steps (.one h0 stepR_scope') harr⟩
 |panic ch=>exact⟨_,a₁,w₁,hq,.of_steps (.one h0 stepR_scope') harr⟩
 |outgrown=>exact⟨_,a₁,w₁,hq,.of_steps (.one h0 stepR_scope') harr⟩
def SoundC(P:Program)(dk:Bool)(an:An):Prop:=∀(kp:KP) (n:Nat) (r:Option Nat) (c:Code) (Q:Exit->Act->World->Prop) (e:Env) (a:Act) (w:World) (K:Ks),(dk=true->∀ch a d v w,d∈wrC c->Q (.panic ch) (a.put (some d) v) w->Q (.panic ch) a w)->
    (∀e' a' ch w',Ag e' a'->Ext (wrC c) e e'->kpH (kp.at e') ch w'->Q (.panic ch) a' w')->Ag e a->cC P kp dk an c e K w->(K.rg=false->r=none)->
    (∀e' a' w',Ag e' a'->Ext (wrC c) e e'->K.n e' w'->Q .normal a' w')->(∀e' a' w',Ag e' a'->K.r e' w'->Q .ret a' w')->
    (∀i e' a' w',Ag e' a'->Ext (wrC c) e e'->xget K.x i e' w'->Q (.exit i) a' w')->
    (∀l e' a' w',Ag e' a'->Ext (wrC c) e e'->xget K.g l e' w'->Q (.goto l) a' w')->
    (∀l e' a' w',hasLab l c=true->Ag e' a'->Ext (wrC c) e e'->xget K.g l e' w'->landQ P n r c l Q a' w')->c.wpIn (wf r) n P Q a w
def SoundL(P:Program)(dk:Bool)(an:An):Prop:=∀(kp:KP) (n:Nat) (r:Option Nat) (lb:Nat) (c:Code) (Q:Exit->Act->World->Prop) (e:Env) (a:Act) (w:World) (K:Ks),(dk=true->∀ch a d v w,d∈wrC c->Q (.panic ch) (a.put (some d) v) w->Q (.panic ch) a w)->
    (∀e' a' ch w',Ag e' a'->Ext (wrC c) e e'->kpH (kp.at e') ch w'->Q (.panic ch) a' w')->Ag e a->cL P kp dk lb an c e K w->(K.rg=false->r=none)->
    (∀e' a' w',Ag e' a'->Ext (wrC c) e e'->K.n e' w'->Q .normal a' w')->(∀e' a' w',Ag e' a'->K.r e' w'->Q .ret a' w')->
    (∀i e' a' w',Ag e' a'->Ext (wrC c) e e'->xget K.x i e' w'->Q (.exit i) a' w')->
    (∀l e' a' w',Ag e' a'->Ext (wrC c) e e'->xget K.g l e' w'->Q (.goto l) a' w')->
    (∀l e' a' w',l≠lb->hasLab l c=true->Ag e' a'->Ext (wrC c) e e'->xget K.g l e' w'->landQ P n r c l Q a' w')->landQ P n r c lb Q a w
theorem cL_z{dk:Bool}:SoundL P dk .z:=by
 intro kp n r lb c Q e a w K hI hp he h hrg hn hr hx hgo hla;cases c<;>simp only[cL]at h<;>try exact h.elim
 rcases tf_sound h with⟨_,h⟩|⟨_,h⟩
 ·exact hn _ _ _ he (Ext.refl _ _) h
 ·exact h.elim
theorem cL_sq{dk:Bool}{x y:An}(ihx:SoundL P dk x)(ihy:SoundL P dk y)(icy:SoundC P dk y):SoundL P dk (.sq x y):=by
 intro kp n r lb c Q e a w K hI hp he h hrg hn hr hx hgo hla;cases c<;>simp only[cL]at h<;>try exact h.elim
 rename_i c1 c2;rcases tf_sound h with⟨h1,h⟩|⟨h1,h⟩
 ·rcases tf_sound h with⟨h2,h⟩|⟨h2,h⟩
  ·exact h.elim
  ·refine⟨λ_=>?_,λh3=>by rw[h2]at h3;cases h3⟩
   refine ihx _ _ _ lb c1 _ e a w _ (λhd ch a d v w hm h=>hI hd ch a d v w (by simp[wrC,hm]) h) (λe1 a1 ch w1 he1 hx1 h1=>hp _ _ _ _ he1 (hx1.mono (λ_ h=>by simp[wrC,h])) h1) he h hrg ?_ hr ?_ ?_ ?_
   ·intro e1 a1 w1 he1 hx1 h1
    refine icy _ _ _ c2 Q e1 a1 w1 K (λhd ch a d v w hm h=>hI hd ch a d v w (by simp[wrC,hm]) h) (λe2 a2 ch w2 he2 hx2 h2=>hp _ _ _ _ he2 (hx1.trans hx2 (λ_ h=>by simp[wrC,h]) (λ_ h=>by simp[wrC,h])) h2) he1 h1 hrg ?_ hr ?_ ?_ ?_
    ·intro e2 a2 w2 he2 hx2 h2
     exact hn _ _ _ he2 (hx1.trans hx2 (λ_ h=>by simp[wrC,h]) (λ_ h=>by simp[wrC,h])) h2
    ·intro i e2 a2 w2 he2 hx2 h2
     exact hx _ _ _ _ he2 (hx1.trans hx2 (λ_ h=>by simp[wrC,h]) (λ_ h=>by simp[wrC,h])) h2
    ·intro i e2 a2 w2 he2 hx2 h2
     exact hgo _ _ _ _ he2 (hx1.trans hx2 (λ_ h=>by simp[wrC,h]) (λ_ h=>by simp[wrC,h])) h2
    ·intro l e2 a2 w2 hl he2 hx2 h2
     exact(hla l e2 a2 w2 (λh3=>by rw[h3,‹hasLab lb c2=false›]at hl;cases hl) (by simp[hasLab,hl]) he2 (hx1.trans hx2 (λ_ h=>by simp[wrC,h]) (λ_ h=>by simp[wrC,h])) h2).2 hl
   ·intro i e1 a1 w1 he1 hx1 h1
    exact hx _ _ _ _ he1 (hx1.mono (λ_ h=>by simp[wrC,h])) h1
   ·intro i e1 a1 w1 he1 hx1 h1
    exact hgo _ _ _ _ he1 (hx1.mono (λ_ h=>by simp[wrC,h])) h1
   ·intro l e1 a1 w1 hne hl he1 hx1 h1
    exact(hla l e1 a1 w1 hne (by simp[hasLab,hl]) he1 (hx1.mono (λ_ h=>by simp[wrC,h])) h1).1 hl
 ·refine⟨λh3=>absurd (h1.symm.trans h3) (by decide),λ_=>?_⟩
  exact ihy _ _ _ lb c2 Q e a w K (λhd ch a d v w hm h=>hI hd ch a d v w (by simp[wrC,hm]) h) (λe1 a1 ch w1 he1 hx1 h1=>hp _ _ _ _ he1 (hx1.mono (λ_ h=>by simp[wrC,h])) h1) he h hrg
   (λe1 a1 w1 he1 hx1 h1=>hn _ _ _ he1 (hx1.mono (λ_ h=>by simp[wrC,h])) h1) hr (λi e1 a1 w1 he1 hx1 h1=>hx _ _ _ _ he1 (hx1.mono (λ_ h=>by simp[wrC,h])) h1)
   (λi e1 a1 w1 he1 hx1 h1=>hgo _ _ _ _ he1 (hx1.mono (λ_ h=>by simp[wrC,h])) h1)
   (λl e1 a1 w1 hne hl he1 hx1 h1=>(hla l e1 a1 w1 hne (by simp[hasLab,hl]) he1 (hx1.mono (λ_ h=>by simp[wrC,h])) h1).2 hl)
theorem cL_none{dk:Bool}{an:An}(h:∀P kp dk lb c e K,cL P kp dk lb an c e K=fls):SoundL P dk an:=by
 intro kp n r lb c Q e a w K _ _ _ h1;rw[h]at h1;exact h1.elim
theorem cC_sound0{dk:Bool}:∀(an:An),SoundC P dk an/\SoundL P dk an:=by
 intro an
 induction an with
 |z=>
  refine⟨?_,cL_z⟩;intro kp n r c Q e a w K hI hp he h hrg hn hr hx hgo hla;cases c<;>simp only[cC]at h<;>try exact h.elim
  ·exact wpIn_skip (hn _ _ _ he (Ext.refl _ _) h)
  ·exact cReg_sound hrg hI rfl he h hn hp
  ·exact wpIn_exit (hx _ _ _ _ he (Ext.refl _ _) h)
  ·exact wpIn_label (hn _ _ _ he (Ext.refl _ _) h)
  ·exact wpIn_goto (hgo _ _ _ _ he (Ext.refl _ _) h)
  ·exact wpIn_ret (hr _ _ _ he h)
 |sq x y ihx ihy=>
  refine⟨?_,cL_sq ihx.2 ihy.2 ihy.1⟩;replace ihx:=ihx.1;replace ihy:=ihy.1;intro kp n r c Q e a w K hI hp he h hrg hn hr hx hgo hla;cases c<;>simp only[cC]at h<;>try exact h.elim
  rename_i c1 c2;refine wpIn_seq (ihx _ _ _ c1 _ e a w _ (λhd ch a d v w hm h=>hI hd ch a d v w (by simp[wrC,hm]) h) (λe1 a1 ch w1 he1 hx1 h1=>hp _ _ _ _ he1 (hx1.mono (λ_ h=>by simp[wrC,h])) h1) he h hrg ?_ hr ?_ ?_ ?_)
  ·intro e1 a1 w1 he1 hx1 h1
   refine ihy _ _ _ c2 Q e1 a1 w1 K (λhd ch a d v w hm h=>hI hd ch a d v w (by simp[wrC,hm]) h) (λe2 a2 ch w2 he2 hx2 h2=>hp _ _ _ _ he2 (hx1.trans hx2 (λ_ h=>by simp[wrC,h]) (λ_ h=>by simp[wrC,h])) h2) he1 h1 hrg ?_ hr ?_ ?_ ?_
   ·intro e2 a2 w2 he2 hx2 h2
    exact hn _ _ _ he2 (hx1.trans hx2 (λ_ h=>by simp[wrC,h]) (λ_ h=>by simp[wrC,h])) h2
   ·intro i e2 a2 w2 he2 hx2 h2
    exact hx _ _ _ _ he2 (hx1.trans hx2 (λ_ h=>by simp[wrC,h]) (λ_ h=>by simp[wrC,h])) h2
   ·intro i e2 a2 w2 he2 hx2 h2
    exact hgo _ _ _ _ he2 (hx1.trans hx2 (λ_ h=>by simp[wrC,h]) (λ_ h=>by simp[wrC,h])) h2
   ·intro l e2 a2 w2 hl he2 hx2 h2
    exact(hla l e2 a2 w2 (by simp[hasLab,hl]) he2 (hx1.trans hx2 (λ_ h=>by simp[wrC,h]) (λ_ h=>by simp[wrC,h])) h2).2 hl
  ·intro i e1 a1 w1 he1 hx1 h1
   exact hx _ _ _ _ he1 (hx1.mono (λ_ h=>by simp[wrC,h])) h1
  ·intro i e1 a1 w1 he1 hx1 h1
   exact hgo _ _ _ _ he1 (hx1.mono (λ_ h=>by simp[wrC,h])) h1
  ·intro l e1 a1 w1 hl he1 hx1 h1
   exact(hla l e1 a1 w1 (by simp[hasLab,hl]) he1 (hx1.mono (λ_ h=>by simp[wrC,h])) h1).1 hl
 |br x y ihx ihy=>
  refine⟨?_,cL_none λ_ _ _ _ c _ _=>by cases c<;>rfl⟩;replace ihx:=ihx.1;replace ihy:=ihy.1;intro kp n r c Q e a w K hI hp he h hrg hn hr hx hgo hla;cases c<;>simp only[cC]at h<;>try exact h.elim
  rename_i o c1 c2;rcases tf_sound h with⟨hnl,h⟩|⟨_,h⟩
  rotate_left
  ·exact h.elim
  rw[Bool.and_eq_true]at hnl;obtain⟨b,hb,h⟩:=cbr_sound h;have hev:=he.eval (x:=o) hb;rcases h with⟨rfl,h⟩|⟨rfl,h⟩
  ·refine wpIn_cond_true hev (ihx _ _ _ c1 Q e a w K (λhd ch a d v w hm h=>hI hd ch a d v w (by simp[wrC,hm]) h) (λe1 a1 ch w1 he1 hx1 h1=>hp _ _ _ _ he1 (hx1.mono (λ_ h=>by simp[wrC,h])) h1) he h hrg ?_ hr ?_ ?_ ?_)
   ·exact λe1 a1 w1 he1 hx1 h1=>hn _ _ _ he1 (hx1.mono (λ_ h=>by simp[wrC,h])) h1
   ·exact λi e1 a1 w1 he1 hx1 h1=>hx _ _ _ _ he1 (hx1.mono (λ_ h=>by simp[wrC,h])) h1
   ·exact λi e1 a1 w1 he1 hx1 h1=>hgo _ _ _ _ he1 (hx1.mono (λ_ h=>by simp[wrC,h])) h1
   ·exact λl _ _ _ hl=>by rw[noLab_has hnl.1]at hl;cases hl
  ·refine wpIn_cond_false hev (ihy _ _ _ c2 Q e a w K (λhd ch a d v w hm h=>hI hd ch a d v w (by simp[wrC,hm]) h) (λe1 a1 ch w1 he1 hx1 h1=>hp _ _ _ _ he1 (hx1.mono (λ_ h=>by simp[wrC,h])) h1) he h hrg ?_ hr ?_ ?_ ?_)
   ·exact λe1 a1 w1 he1 hx1 h1=>hn _ _ _ he1 (hx1.mono (λ_ h=>by simp[wrC,h])) h1
   ·exact λi e1 a1 w1 he1 hx1 h1=>hx _ _ _ _ he1 (hx1.mono (λ_ h=>by simp[wrC,h])) h1
   ·exact λi e1 a1 w1 he1 hx1 h1=>hgo _ _ _ _ he1 (hx1.mono (λ_ h=>by simp[wrC,h])) h1
   ·exact λl _ _ _ hl=>by rw[noLab_has hnl.2]at hl;cases hl
 |bl x ihx=>
  refine⟨?_,cL_none λ_ _ _ _ c _ _=>by cases c<;>rfl⟩;replace ihx:=ihx.1;intro kp n r c Q e a w K hI hp he h hrg hn hr hx hgo hla;cases c<;>simp only[cC]at h<;>try exact h.elim
  rename_i id c1;rcases tf_sound h with⟨hnl,h⟩|⟨_,h⟩
  rotate_left
  ·exact h.elim
  refine wpIn_block (ihx _ _ _ c1 _ e a w _ (λhd ch a d v w hm h=>hI hd ch a d v w hm h) (λe1 a1 ch w1 he1 hx1 h1=>hp _ _ _ _ he1 hx1 h1) he h hrg hn hr ?_ hgo (λl _ _ _ hl=>by rw[noLab_has hnl]at hl;cases hl));intro i e1 a1 w1 he1 hx1 h1;simp only[xget]at h1;by_cases hi:i=id
  ·subst hi
   rw[Nat.beq_refl]at h1;simp only[Exit.inBlock,if_true];exact hn _ _ _ he1 hx1 h1
  ·have hb:Nat.beq i id=false:=by
    cases hb:Nat.beq i id with
    |false=>rfl
    |true=>exact absurd (Nat.eq_of_beq_eq_true hb) hi
   rw[hb]at h1;simp only[Exit.inBlock,hi,if_false];exact hx _ _ _ _ he1 hx1 h1
 |sc x ihx=>
  refine⟨?_,cL_none λ_ _ _ _ c _ _=>by cases c<;>rfl⟩;replace ihx:=ihx.1;intro kp n r c Q e a w K hI hp he h hrg hn hr hx hgo hla;cases c<;>simp only[cC]at h<;>try exact h.elim
  rename_i c1;exact wpIn_scope' (ihx _ _ _ c1 _ e a w _ (λhd ch a d v w hm h=>hI hd ch a d v w hm h) (λe1 a1 ch w1 he1 hx1 h1=>hp _ _ _ _ he1 hx1 h1) he h hrg hn hr hx (λ_ _ _ _ _ _ h=>h.elim) (λ_ _ _ _ _ _ _ h=>h.elim))
 |lp l x ihx=>
  refine⟨?_,cL_none λ_ _ _ _ c _ _=>by cases c<;>rfl⟩;replace ihx:=ihx.1;intro kp n r c Q e a w K hI hp he h hrg hn hr hx hgo hla;cases c<;>simp only[cC]at h<;>try exact h.elim
  rename_i c1;have hI0:=hI;rcases tf_sound h with⟨hl,h⟩|⟨_,h⟩
  ·rw[Bool.and_eq_true]at hl
   have hnl:=hl.2;obtain⟨hlive,hmk,hdf⟩:=liveIn_spec hl.1;obtain⟨s,hs,I,μ,hI,hG⟩:=need_sound (e0:=Env.forget e (wrC c1)) he (he.forget (Ext.refl _ _) hmk hdf) h;refine wpIn_loopG (λs a w=>Ag (upd (Env.forget e (wrC c1)) l s) a/\I s w) μ ⟨hs,hI⟩ ?_;rintro s1 a1 w1 ⟨ha1,hI1⟩;have hext:Ext (wrC c1) e (upd (Env.forget e (wrC c1)) l s1):=Ext.upd (Ext.forget _ _) hlive;refine ihx _ _ _ c1 _ _ a1 w1 _ (λhd ch a d v w hm h=>hI0 hd ch a d v w hm h) (λe2 a2 ch w2 he2 hx2 h2=>hp _ _ _ _ he2 (hext.trans hx2 (λ_ h=>h) (λ_ h=>h)) h2) ha1 (hG s1 w1 hI1) hrg ?_ hr ?_ ?_ (λl _ _ _ hl=>by rw[noLab_has hnl]at hl;cases hl)
   ·intro e2 a2 w2 he2 hx2 h2
    obtain⟨s2,hs2,h3,h4⟩:=need_sound (e0:=Env.forget e (wrC c1)) he2 (he2.forget (hext.trans hx2 (λ_ h=>h) (λ_ h=>h)) hmk hdf) h2;exact⟨s2,⟨hs2,h3⟩,h4⟩
   ·intro i e2 a2 w2 he2 hx2 h2
    exact hx _ _ _ _ he2 (hext.trans hx2 (λ_ h=>h) (λ_ h=>h)) h2
   ·intro i e2 a2 w2 he2 hx2 h2
    exact hgo _ _ _ _ he2 (hext.trans hx2 (λ_ h=>h) (λ_ h=>h)) h2
  ·exact h.elim
 |jn l x ihx=>
  refine⟨?_,cL_none λ_ _ _ _ c _ _=>by cases c<;>rfl⟩;replace ihx:=ihx.1;intro kp n r c Q e a w K hI hp he h hrg hn hr hx hgo hla;have h':tf (liveIn l (wrC c)&&noLab c) (jn (λR=>cC P kp dk x c e {K with n:=λe'=>need e' l R}) (λs=>K.n (upd (Env.forget e (wrC c)) l s))) fls w:=by cases c<;>exact h
  rcases tf_sound h' with⟨hl,h⟩|⟨_,h⟩
  ·rw[Bool.and_eq_true]at hl
   have hnl:=hl.2;obtain⟨hlive,hmk,hdf⟩:=liveIn_spec hl.1;obtain⟨R,h1,h2⟩:=h;let Q':Exit->Act->World->Prop:=λex a' w'=>match ex with
    |.normal=>∃s,Ag (upd (Env.forget e (wrC c)) l s) a'/\R s w'
    |ex=>Q ex a' w'
   refine wpIn_mono (ihx _ _ _ c Q' e a w _ (λhd ch a d v w hm h=>hI hd ch a d v w hm h) (λe1 a1 ch w1 he1 hx1 h1=>hp _ _ _ _ he1 hx1 h1) he h1 hrg ?_ hr hx hgo (λl _ _ _ hl=>by rw[noLab_has hnl]at hl;cases hl)) ?_
   ·intro e1 a1 w1 he1 hx1 h3
    exact need_sound (e0:=Env.forget e (wrC c)) he1 (he1.forget hx1 hmk hdf) h3
   ·intro ex a' w' h3
    cases ex with
    |normal=>
     obtain⟨s,hs,h4⟩:=h3;exact hn _ _ _ hs (Ext.upd (Ext.forget _ _) hlive) (h2 _ _ h4)
    |_=>exact h3
  ·exact h.elim
 |rf shs x y ihx ihy=>
  refine⟨?_,cL_none λ_ _ _ _ c _ _=>by cases c<;>rfl⟩;replace ihx:=ihx.1;replace ihy:=ihy.1;intro kp n r c Q e a w K hI hp he h hrg hn hr hx hgo hla;cases c<;>simp only[cC]at h<;>try exact h.elim
  rename_i g ps assign body;rcases tf_sound h with⟨hb,h⟩|⟨_,h⟩
  rotate_left
  ·exact h.elim
  simp only[Bool.and_eq_true,Bool.not_eq_true']at hb;have hr0:=hrg hb.1;subst hr0;have hps:=Nat.eq_of_beq_eq_true hb.2;obtain⟨f,caps,hv,hcl,h⟩:=ndEv he h;refine wpIn_rangeFunc ?_;intro fn hfn;obtain⟨L,hL⟩:∃L:LoopState->Option Code->Obj,L=λst pe=>.loop {state:=st,pending:=pe,fn,tmps:=a.tmps,params:=ps,assign,body,defers:=w.heap.size}:=⟨_,rfl⟩;have hcall:=h L (λs p=>⟨_,by rw[hL]⟩) ?_
  rotate_left
  ·intro W args k hl hR
   have hl':W.heap[w.heap.size+1]? =some (.loop {state:=.ready,pending:=none,fn,tmps:=a.tmps,params:=ps,assign,body,defers:=w.heap.size}):=by rw[hl,hL]
   refine⟨_,_,_,_,run_yield hl' (by rw[<-hps];simp[valL_length]),roundIn_of_wpIn trivial ?_⟩;have hag:Ag (setPs ps.toList (valL shs args) ⟨e.l,[],[]⟩) {tmps:=(ps.zip (valL shs args).toArray).foldl (λt x=>t.setIfInBounds x.1 x.2) a.tmps,defers:=[]}:=by
    have h0:Ag ⟨e.l,[],[]⟩ {tmps:=a.tmps,defers:=[]}:=⟨he.size,he.get,rfl⟩;have h1:=setPs_ag ps.toList (valL shs args) _ _ h0;rw[foldl_put]at h1;have h2:(ps.zip (valL shs args).toArray).foldl (λt x=>t.setIfInBounds x.1 x.2) a.tmps=(ps.toList.zip (valL shs args)).foldl (λt x=>t.setIfInBounds x.1 x.2) a.tmps:=by
     rw[<-Array.foldl_toList,Array.toList_zip]
    rw[h2];exact h1
   refine ihx none 0 (some (w.heap.size+1)) assign _ _ _ W _ (λ_ c a d v w _ h=>h) (λ_ _ _ _ _ _ h=>False.elim h) hag hR (λh=>by cases h) ?_ (λ_ _ _ _ h=>h.elim) (λ_ _ _ _ _ _ h=>h.elim) (λ_ _ _ _ _ _ h=>h.elim) (λ_ _ _ _ _ _ _ h=>h.elim);rintro e1 a1 w1 he1 _ ⟨h1,h2⟩;have h1':w1.heap[w.heap.size+1]? =some (.loop {state:=.ready,pending:=none,fn,tmps:=a.tmps,params:=ps,assign,body,defers:=w.heap.size}):=by rw[h1,hL]
   have hbr:=run_beginRound (P:=P) h1' rfl;refine⟨_,hbr,?_⟩;have hLb:(Obj.loop {state:=.busy,pending:=none,fn,tmps:=a.tmps,params:=ps,assign,body,defers:=w.heap.size})=L .busy none:=by rw[hL]
   rw[show({({state:=.ready,pending:=none,fn:=fn,tmps:=a.tmps,params:=ps,assign:=assign,body:=body,defers:=w.heap.size}:Loop)with state:=.busy}:Loop)={state:=.busy,pending:=none,fn,tmps:=a.tmps,params:=ps,assign,body,defers:=w.heap.size}from rfl,hLb];have hend:∀(W3:World) (jump:Option Code),W3.heap[w.heap.size+1]? =some (L .busy none)->
    (Instr.endRound (w.heap.size+1) jump).run P W3=.ok (.bool jump.isNone) (W3.putObj (w.heap.size+1) (L (if jump.isNone then .ready else .done) jump)):=by
    intro W3 jump h3;have h3':W3.heap[w.heap.size+1]? =some (.loop {state:=.busy,pending:=none,fn,tmps:=a.tmps,params:=ps,assign,body,defers:=w.heap.size}):=by rw[h3,hL]
    rw[run_endRound jump h3',hL]
   refine ihy none 0 (some (w.heap.size+1)) body _ e1 a1 _ _ (λ_ c a d v w _ h=>h) (λ_ _ _ _ _ _ h=>False.elim h) he1 h2 (λh=>by cases h) ?_ ?_ ?_ (λ_ _ _ _ _ _ h=>h.elim) (λ_ _ _ _ _ _ _ h=>h.elim)
   ·rintro e2 a2 w2 _ _ ⟨h3,h4⟩
    exact⟨_,_,hend w2 none h3,true,rfl,h4⟩
   ·rintro e2 a2 w2 _ ⟨h3,h4⟩
    exact⟨_,_,hend w2 (some .ret) h3,false,rfl,h4⟩
   ·intro i e2 a2 w2 _ _ h5
    obtain⟨h3,h4⟩:=xget_xlv h5;exact⟨_,_,hend w2 (some (.exit i)) h3,false,rfl,h4⟩
  have hmk:Ag (Env.mark e w.heap.size) {a with defers:=[{target:=.collected w.heap.size,args:= #[]}]++a.defers}:=⟨he.size,he.get,by rw[he.defers];rfl⟩;have hxm:Ext [markN] e (Env.mark e w.heap.size):=⟨rfl,λ_ _=>rfl,λh=>absurd (List.mem_singleton.2 rfl) h,λ_=>rfl⟩;have hinv:∀{args:Array Value} {w:World},(callFunc f args).run P w=.ok (.enter f args) w:=run_callFunc hcl;refine⟨w.heap.size+1,[{target:=.collected w.heap.size,args:= #[]}],(w.alloc (.deferred (some []))).alloc (L .ready none),{target:=.fn (.func f) caps,args:= #[.func (.yield (w.heap.size+1)) #[] #[]]},(w.alloc (.deferred (some []))).alloc (L .ready none),f,
   #[.func (.yield (w.heap.size+1)) #[] #[]]++caps,(w.alloc (.deferred (some []))).alloc (L .ready none),?_,?_,λ_ _=>trivial,?_,?_,?_⟩
  ·rw[hL];exact run_enterLoop_outer _ _ _ _ _
  ·simp only[resolve,hv]
   simp[go_sem]
  ·simp[invoke,go_sem,hinv]
  ·intro h;cases h
  ·refine callsIn_wf.2 (Calls.mono hcall ?_)
   rintro e1 W1 ⟨⟨u,rfl⟩,h1⟩;have hend:∀(st:LoopState) (pe:Option Code),st≠.busy->W1.heap[w.heap.size+1]? =some (L st pe)->(Instr.endLoop (w.heap.size+1)).run P W1=.ok pe (W1.putObj (w.heap.size+1) (L .exhausted pe)):=by
    intro st pe hst h3;have h3':W1.heap[w.heap.size+1]? =some (.loop {state:=st,pending:=pe,fn,tmps:=a.tmps,params:=ps,assign,body,defers:=w.heap.size}):=by rw[h3,hL]
    rw[run_endLoop h3' hst,hL]
   rcases h1 with⟨h2,h3⟩|⟨j,h2,h3⟩
   ·exact⟨none,_,hend _ _ (by simp) h2,hn _ _ _ hmk hxm h3⟩
   ·refine⟨some (jcode j),_,hend _ _ (by simp) h2,?_⟩
    cases j with
    |none=>
     rcases tf_sound (show tf (hasRet body) _ _ _ from h3)with⟨_,h4⟩|⟨_,h4⟩
     ·exact wpIn_ret (hr _ _ _ hmk h4)
     ·exact h4.elim
    |some i=>exact wpIn_exit (hx _ _ _ _ hmk hxm (xg_any h3))
 |jm l x ihx=>
  refine⟨?_,cL_none λ_ _ _ _ c _ _=>by cases c<;>rfl⟩;replace ihx:=ihx.1;intro kp n r c Q e a w K hI hp he h hrg hn hr hx hgo hla;have h':tf ((!(wrC c).contains dfrN&&l.all λz=>(wrC c).contains z.1)&&noLab c) (jn (λR=>cC P kp dk x c e {K with n:=λe'=>need e' l λs=>R (e'.ds,s)}) (λs=>K.n (upd ⟨(Env.forget e (wrC c)).l,s.1,e.bs⟩ l s.2))) fls w:=by cases c<;>exact h
  rcases tf_sound h' with⟨hl,h⟩|⟨_,h⟩
  ·rw[Bool.and_eq_true]at hl
   have hnl:=hl.2;replace hl:=hl.1;rw[Bool.and_eq_true]at hl;have hdf:dfrN∉wrC c:=by simpa using hl.1
   have hlive:∀z∈l,z.1∈wrC c:=λz hz=>by simpa using List.all_eq_true.1 hl.2 z hz
   obtain⟨R,h1,h2⟩:=h;let Q':Exit->Act->World->Prop:=λex a' w'=>match ex with
    |.normal=>∃s,Ag (upd ⟨(Env.forget e (wrC c)).l,s.1,e.bs⟩ l s.2) a'/\R s w'/\(markN∉wrC c->s.1=e.ds)
    |ex=>Q ex a' w'
   refine wpIn_mono (ihx _ _ _ c Q' e a w _ (λhd ch a d v w hm h=>hI hd ch a d v w hm h) (λe1 a1 ch w1 he1 hx1 h1=>hp _ _ _ _ he1 hx1 h1) he h1 hrg ?_ hr hx hgo (λl _ _ _ hl=>by rw[noLab_has hnl]at hl;cases hl)) ?_
   ·intro e1 a1 w1 he1 hx1 h3
    have hf:Ag ⟨(Env.forget e (wrC c)).l,e1.ds,e.bs⟩ a1:=by
     refine⟨?_,λt v hv=>?_,by rw[he1.defers,hx1.2.2.2 hdf]⟩
     ·have h1:(⟨(Env.forget e (wrC c)).l,e1.ds,e.bs⟩:Env).length=(Env.forget e (wrC c)).length:=rfl
      rw[h1,Env.length_forget,hx1.1];exact he1.size
     ·have hv':(Env.get (Env.forget e (wrC c)) t).v? =some v:=hv
      rw[Env.get_forget]at hv';split at hv'
      ·simp[EV.v?]at hv'
      ·rename_i ht
       by_cases hlt:t<e.length
       ·have htW:t∉wrC c:=λh=>ht ⟨h,hlt⟩
        rw[<-hx1.2.1 t htW]at hv';exact he1.get t v hv'
       ·rw[Env.get_none_of_ge e t (by omega)]at hv'
        simp[EV.v?]at hv'
    obtain⟨p,hp,h4⟩:=need_sound he1 hf h3;exact⟨(e1.ds,p),hp,h4,λhm=>hx1.2.2.1 hm⟩
   ·intro ex a' w' h3
    cases ex with
    |normal=>
     obtain⟨s,hs,h4,h5⟩:=h3;refine hn _ _ _ hs (Ext.upd (e0:=⟨(Env.forget e (wrC c)).l,s.1,e.bs⟩) ?_ hlive) (h2 _ _ h4);have h6:=Ext.forget e (wrC c);exact⟨h6.1,h6.2.1,h5,λ_=>rfl⟩
    |_=>exact h3
  ·exact h.elim
 |rj js=>
  refine⟨?_,cL_none λ_ _ _ _ c _ _=>by cases c<;>rfl⟩;intro kp n r c Q e a w K hI hp he h hrg hn hr hx hgo hla;cases c<;>simp only[cC]at h<;>try exact h.elim
  rcases tf_sound h with⟨hj,h⟩|⟨_,h⟩
  ·exact cReg_sound hrg hI hj he h hn hp
  ·exact h.elim
 |lb=>
  refine⟨?_,cL_none λ_ _ _ _ c _ _=>by cases c<;>rfl⟩;intro kp n r c Q e a w K hI hp he h hrg hn hr hx hgo hla;cases c<;>simp only[cC]at h<;>try exact h.elim
  rename_i l;exact wpIn_label (hla l e a w (by simp[hasLab]) he (Ext.refl _ _) h)
 |sj lb l x y ihx ihy=>
  refine⟨?_,cL_none λ_ _ _ _ c _ _=>by cases c<;>rfl⟩;replace ihx:=ihx.1;replace ihy:=ihy.2;intro kp n r c Q e a w K hI hp he h hrg hn hr hx hgo hla;cases c<;>simp only[cC]at h<;>try exact h.elim
  rename_i c1;have hI0:=hI;rcases tf_sound h with⟨hl,h⟩|⟨_,h⟩
  rotate_left
  ·exact h.elim
  rw[Bool.and_eq_true]at hl;obtain⟨hlive,hmk,hdf⟩:=liveIn_spec hl.1;obtain⟨rest,hrest⟩:=has_findLabel hl.2;obtain⟨I,μ,hF,hG⟩:=h;have hland:∀(J:Act->World->Prop) (l':Nat) (e':Env) (a':Act) (w':World) (k:Env->Pr),(k e' w'->J a' w')->xget [(lb,k)] l' e' w'->l'=lb/\J a' w':=by
   intro J l' e' a' w' k hk hx;unfold xget at hx;cases hb:Nat.beq l' lb with
   |true=>rw[hb]at hx;exact⟨Nat.eq_of_beq_eq_true hb,hk hx⟩
   |false=>rw[hb]at hx;exact hx.elim
  have hlnd:∀s a w (J':Act->World->Prop),Ag (upd (Env.forget e (wrC c1)) l s) a->I s w->(∀s' a' w',Ag (upd (Env.forget e (wrC c1)) l s') a'->I s' w'->μ s' w'<μ s w->J' a' w')->landQ P n r c1 lb (jumpQ lb J' Q) a w:=by
   intro s1 a1 w1 J' ha1 hI1 hJ';have hext:Ext (wrC c1) e (upd (Env.forget e (wrC c1)) l s1):=Ext.upd (Ext.forget _ _) hlive;refine ihy _ _ _ lb c1 (jumpQ lb J' Q) _ a1 w1 _ (λhd ch a d v w hm h=>hI0 hd ch a d v w hm h) (λe2 a2 ch w2 he2 hx2 h2=>hp _ _ _ _ he2 (hext.trans hx2 (λ_ h=>h) (λ_ h=>h)) h2) ha1 (hG s1 w1 hI1) hrg ?_ hr ?_ ?_ ?_
   ·exact λe2 a2 w2 he2 hx2 h2=>hn _ _ _ he2 (hext.trans hx2 (λ_ h=>h) (λ_ h=>h)) h2
   ·exact λi e2 a2 w2 he2 hx2 h2=>hx _ _ _ _ he2 (hext.trans hx2 (λ_ h=>h) (λ_ h=>h)) h2
   ·intro l' e2 a2 w2 he2 hx2 h2
    refine hland J' l' e2 a2 w2 _ (λh3=>?_) h2;obtain⟨s2,hs2,h4,h5⟩:=need_sound (e0:=Env.forget e (wrC c1)) he2 (he2.forget (hext.trans hx2 (λ_ h=>h) (λ_ h=>h)) hmk hdf) h3;exact hJ' s2 a2 w2 hs2 h4 h5
   ·intro l' e2 a2 w2 hne _ he2 hx2 h2
    exact absurd (hland (λ_ _=>True) l' e2 a2 w2 _ (λ_=>trivial) h2).1 hne
  have hneed:∀{e2:Env} {a2:Act} {w2:World},Ag e2 a2->Ext (wrC c1) e e2->need e2 l I w2->∃s,Ag (upd (Env.forget e (wrC c1)) l s) a2/\I s w2:=λhe2 hx2 h=>need_sound (e0:=Env.forget e (wrC c1)) he2 (he2.forget hx2 hmk hdf) h;refine wpIn_scope_jumpsG lb (λs a w=>Ag (upd (Env.forget e (wrC c1)) l s) a/\I s w) μ hrest ?_ ?_
  ·refine ihx _ _ _ c1 _ e a w _ (λhd ch a d v w hm h=>hI0 hd ch a d v w hm h) (λe2 a2 ch w2 he2 hx2 h2=>hp _ _ _ _ he2 hx2 h2) he hF hrg (λe2 a2 w2 he2 hx2 h2=>hn _ _ _ he2 hx2 h2) hr (λi e2 a2 w2 he2 hx2 h2=>hx _ _ _ _ he2 hx2 h2) ?_ ?_
   ·intro l' e2 a2 w2 he2 hx2 h2
    exact hland (λa w=>∃s,Ag (upd (Env.forget e (wrC c1)) l s) a/\I s w) l' e2 a2 w2 _ (λh3=>hneed he2 hx2 h3) h2
   ·intro l' e2 a2 w2 _ he2 hx2 h2
    obtain⟨rfl,s2,hs2,h3⟩:=hland (λa w=>∃s,Ag (upd (Env.forget e (wrC c1)) l s) a/\I s w) l' e2 a2 w2 _ (λh3=>hneed he2 hx2 h3) h2;exact hlnd s2 a2 w2 _ hs2 h3 λs' a' w' h4 h5 _=>⟨s',h4,h5⟩
  ·rintro s1 a1 w1 ⟨ha1,hI1⟩
   exact landQ_wp hrest (hlnd s1 a1 w1 _ ha1 hI1 λs' a' w' h4 h5 h6=>⟨s',⟨h4,h5⟩,h6⟩)
theorem cC_sound{dk:Bool}(an:An):SoundC P dk an:=(cC_sound0 an).1
def rets(P:Program):List ResultVar->Env->(List Value->Pr)->Pr
 |[],_,f=>f []
 |.tmp t::l,e,f=>nd (Env.get e t) λv=>rets P l e λvs=>f (v::vs)
 |.cell t ty::l,e,f=>nd (Env.get e t) λp=>asPtr p λad=>ldT P ty ad λv=>rets P l e λvs=>f (v::vs)
def getL:(l:List Sh)->List Value->(PayL l->Pr)->Pr
 |[],[],f=>f ()
 |[s],[v],f=>getP s v f
 |s::t::l,v::vs,f=>getP s v λp=>getL (t::l) vs λq=>f (p,q)
 |_,_,_=>fls
theorem getL_sound{w:World}:∀{l:List Sh} {vs:List Value} {f:PayL l->Pr},getL l vs f w->∃p,vs=valL l p/\f p w
 |[],[],_,h=>⟨(),rfl,h⟩
 |[],_::_,_,h=>h.elim
 |[s],[v],_,h=>let⟨p,hp,hf⟩:=getP_sound h;⟨p,by rw[hp];rfl,hf⟩
 |[_],[],_,h=>h.elim
 |[_],_::_::_,_,h=>h.elim
 |s::t::l,v::vs,_,h=>by
  obtain⟨p,hp,h⟩:=getP_sound h;obtain⟨q,hq,h⟩:=getL_sound h;exact⟨(p,q),by rw[hp,hq];rfl,h⟩
 |_::_::_,[],_,h=>h.elim
def env0(args:List Value)(m:Nat):Env:=⟨args.map EV.val++List.replicate (m-args.length) EV.no,[],[]⟩
def callD(P:Program)(u:FrameMode)(f:FuncId)(args:List Value)(k:Pr):Pr:=λw=>
 CallsDIn (wf none) 0 P f args.toArray u w (λe u' w'=>(∃v,e=.returned v)/\settle u'=.returning/\k w')
def dTarget:Deferred->Option (FuncId×List Value)
 |⟨.fn (.func f) cap,args⟩=>some (f,args.toList++cap.toList)
 |_=>none
def dOne(P:Program)(u:FrameMode)(d:Deferred)(k:Pr):Pr:=opt (dTarget d) λx=>tf (callable P x.1) (callD P u x.1 x.2 k) fls
def dcalls(P:Program):List Deferred->Pr->Pr
 |[],k=>k
 |d::l,k=>dOne P .returning d (dcalls P l k)
def fin(P:Program)(fn:Func)(shs:List Sh)(Q:PayL shs->Pr)(e:Env):Pr:=takes e.ds (dcalls P e.bs (rets P fn.results.toList e λvs=>getL shs vs Q))
def compileFn(P:Program)(fn:Func)(an:An)(args:List Value)(shs:List Sh)(Q:PayL shs->Pr):Pr:=
 opt fn.body λc=>cC P none false an c (env0 args fn.ntmps) ⟨fin P fn shs Q,fin P fn shs Q,[],false,[]⟩
def nilDs{α:Type}(l:List α)(k:Pr):Pr:=
 match l with
 |[]=>k
 |_::_=>fls
theorem nilDs_sound{α:Type}{l:List α}{k:Pr}{w:World}(h:nilDs l k w):l=[]/\k w:=by
 cases l with
 |nil=>exact⟨rfl,h⟩
 |cons _ _=>exact h.elim
def fin0(P:Program)(fn:Func)(shs:List Sh)(Q:PayL shs->Pr)(e:Env):Pr:=nilDs e.ds (nilDs e.bs (rets P fn.results.toList e λvs=>getL shs vs Q))
def compileS(P:Program)(fn:Func)(an:An)(args:List Value)(shs:List Sh)(Q:PayL shs->Pr):Pr:=
 opt fn.body λc=>cC P none false an c (env0 args fn.ntmps) ⟨fin0 P fn shs Q,fin0 P fn shs Q,[],false,[]⟩
theorem env0_get:∀(args:List Value) (k:Nat) (t:Nat) (v:Value),(Env.getL (args.map EV.val++List.replicate k EV.no) t).v? =some v->(args++List.replicate k undef)[t]? =some v
 |[],0,t,v,h=>by simp[Env.getL,EV.v?]at h
 |[],k+1,0,v,h=>by simp[List.replicate_succ,Env.getL,EV.v?]at h
 |[],k+1,t+1,v,h=>by
  have:=env0_get [] k t v (by simpa[List.replicate_succ,Env.getL]using h);simpa[List.replicate_succ]using this
 |x::args,k,0,v,h=>by
  simp only[List.map_cons,List.cons_append,Env.getL,EV.v?,Option.some.injEq]at h;rw[h];rfl
 |x::args,k,t+1,v,h=>env0_get args k t v h
theorem env0_ag(args:List Value)(m:Nat):Ag (env0 args m) {tmps:=args.toArray++Array.replicate (m-args.toArray.size) undef,defers:=[]}:=by
 have hE:args.toArray++Array.replicate (m-args.toArray.size) undef=(args++List.replicate (m-args.length) undef).toArray:=by simp
 refine⟨by simp[env0,Env.length],λt v h=>?_,by simp[env0,marks]⟩;simp only[hE];simpa using env0_get args (m-args.length) t v h
theorem rets_sound{e:Env}{a:Act}{w:World}(he:Ag e a):∀{l:List ResultVar} {f:List Value->Pr} {Q:List Value->World->Prop},rets P l e f w->(∀vs,f vs w->Q vs w)->
 RT P (l.mapM λ
  |.tmp t=>Pure.pure (a.tmps.getD t undef)
  |.cell x t=>do Go.loadVar t (<-asAddr (a.tmps.getD x undef))) w (λvs w'=>w'=w/\Q vs w)
 |[],_,_,h,hq=>by simp only[List.mapM_nil];exact .pure ⟨rfl,hq _ h⟩
 |.tmp t::l,f,Q,h,hq=>by
  have h1:=ndEv he (x:=.tmp t) h;simp only[List.mapM_cons];refine .bind (.pure (.bind ((rets_sound he h1 (Q:=λvs w=>Q (a.tmps.getD t undef::vs) w) (λvs h=>hq _ h)).mono ?_)));rintro vs w' ⟨rfl,h⟩;exact .pure ⟨rfl,h⟩
 |.cell t ty::l,f,Q,h,hq=>by
  have h1:=ndEv he (x:=.tmp t) h;obtain⟨ad,hv,h2⟩:=asPtr_sound h1;simp only[List.mapM_cons];have hv':a.tmps.getD t undef=.pointer (some ad):=hv;rw[hv'];have h3:ldT P ty ad (λv w'=>rets P l e (λvs=>f (v::vs)) w'/\w'=w) w:=ldT_mono (λv h=>⟨h,rfl⟩) h2;refine .bind (.bind (.pure ((RT.loadVar' h3).mono ?_)));rintro v w1 ⟨h4,rfl⟩;refine .bind ((rets_sound he h4 (Q:=λvs w=>Q (v::vs) w) (λvs h=>hq _ h)).mono ?_);rintro vs w' ⟨rfl,h⟩;exact .pure ⟨rfl,h⟩
theorem dOne_sound{fn:Func}{tmps:Array Value}{R:Ending->World->Prop}{d:Deferred}{ds:List Deferred}{u:FrameMode}{k:Pr}{w:World}(hu:u≠.run)(hk:∀w,k w->LeavesInM (wf none) 0 P fn tmps R ds .returning w)(h:dOne P u d k w):
 LeavesInM (wf none) 0 P fn tmps R (d::ds) u w:=by
 obtain⟨⟨f,args⟩,hd,h⟩:=opt_sound h;rcases tf_sound h with⟨hc,h⟩|⟨_,h⟩
 ·obtain⟨cap,ass,rfl,rfl⟩:∃cap ass,d=⟨.fn (.func f) cap,ass⟩/\args=ass.toList++cap.toList:=by
   obtain⟨t,ass⟩:=d;unfold dTarget at hd;split at hd
   ·rename_i heq
    simp only[Deferred.mk.injEq]at heq;obtain⟨rfl,rfl⟩:=heq;simp only[Option.some.injEq,Prod.mk.injEq]at hd;obtain⟨rfl,rfl⟩:=hd;exact⟨_,_,rfl,rfl⟩
   ·cases hd
  have hA:(ass.toList++cap.toList).toArray=ass++cap:=by simp
  unfold callD at h;dsimp only at h;rw[hA]at h;refine⟨hu,.inr ⟨λh=>by simp[wf,Fence.wide]at h,_,cap,f,ass++cap,rfl,?_,λ_ _=>trivial,?_⟩⟩
  ·simp only[invoke]
   exact run_callFunc hc
  ·refine h.mono ?_
   rintro e u' w' ⟨⟨v,rfl⟩,h1,h2⟩;show LeavesInM (wf none) 0 P fn tmps R ds (settle u') w';rw[h1];exact hk _ h2
 ·exact h.elim
theorem dcalls_sound{fn:Func}{tmps:Array Value}{R:Ending->World->Prop}{k:Pr}(hk:∀w,k w->LeavesInM (wf none) 0 P fn tmps R [] .returning w):∀{ds:List Deferred} {w:World},dcalls P ds k w->LeavesInM (wf none) 0 P fn tmps R ds .returning w
 |[],w,h=>hk w h
 |_::_,_,h=>dOne_sound (by simp) (λ_ h=>dcalls_sound hk h) h
theorem takes_sound{fn:Func}{tmps:Array Value}{R:Ending->World->Prop}{bs:List Deferred}{k:Pr}(hk:∀w,k w->LeavesInM (wf none) 0 P fn tmps R bs .returning w):∀{ds:List Nat} {w:World},takes ds k w->LeavesInM (wf none) 0 P fn tmps R (marks ds++bs) .returning w
 |[],w,h=>hk w h
 |D::ds,w,h=>⟨by simp,.inl ⟨D,_,rfl,run_takeDeferred h.1,takes_sound hk h.2⟩⟩
theorem rets_leave{fn:Func}{e:Env}{a:Act}{w:World}{shs:List Sh}{Q:PayL shs->Pr}{R:Ending->World->Prop}(hR:∀e w,RetT shs Q e w->R e w)(he:Ag e a)
 (h:rets P fn.results.toList e (λvs=>getL shs vs Q) w):LeavesInM (wf none) 0 P fn a.tmps R [] .returning w:=by
 obtain⟨vs,w',h1,hw,p,hvs,hp⟩:=rets_sound he h (Q:=λvs w=>∃p,vs=valL shs p/\Q p w) (λvs h=>getL_sound h);rw[hw]at h1;show∃v,(results fn a.tmps).run P w=.ok v w/\R (.returned v) w;refine⟨valR shs p,?_,hR _ _ ⟨p,rfl,hp⟩⟩;unfold results;rw[Sem.run_bind,show fn.results=fn.results.toList.toArray by simp,List.mapM_toArray,Sem.run_map]
 erw [h1]
 simp only[Result.andThen_ok,Sem.run_pure,Result.ok.injEq,and_true];unfold valR;rw[<-hvs]
 match vs with
 |[]=>rfl
 |[v]=>rfl
 |v::u::vs=>simp
theorem bodyPost_of{fn:Func}{e:Env}{a:Act}{w:World}{shs:List Sh}{Q:PayL shs->Pr}{R:Ending->World->Prop}(hR:∀e w,RetT shs Q e w->R e w)(he:Ag e a)(h:fin P fn shs Q e w):
 LeavesInM (wf none) 0 P fn a.tmps R a.defers .returning w:=by
 rw[he.defers];exact takes_sound (λw h=>dcalls_sound (λw h=>rets_leave hR he h) h) h
theorem callsIn_of_compile{f:FuncId}{fn:Func}{an:An}{args:List Value}{shs:List Sh}{Q:PayL shs->Pr}{w:World}(hf:P.funcs[f]? =some fn)(h:compileFn P fn an args shs Q w):
 Calls P f args.toArray w (RetT shs Q):=by
 obtain⟨c,hc,h⟩:=opt_sound h;refine(callsIn_wide (n:=0)).1 ?_;refine callsIn_of_wp_marks (F:=wf none) hf hc trivial ?_;let Q':Exit->Act->World->Prop:=λex a w=>match ex with
  |.normal=>bodyPostM (wf none) 0 P fn (RetT shs Q) .normal a w
  |.ret=>bodyPostM (wf none) 0 P fn (RetT shs Q) .ret a w
  |_=>False
 refine wpIn_mono (cC_sound (dk:=false) an none 0 none c Q' _ _ w _ (λh=>by cases h) (λ_ _ _ _ _ _ h=>False.elim h) (env0_ag args fn.ntmps) h (λ_=>rfl) ?_ ?_ ?_ (λ_ _ _ _ _ _ h=>h.elim) (λ_ _ _ _ _ _ _ h=>h.elim)) ?_
 ·exact λe' a' w' he' _ h=>bodyPost_of (λ_ _ h=>h) he' h
 ·exact λe' a' w' he' h=>bodyPost_of (λ_ _ h=>h) he' h
 ·exact λi e' a' w' _ _ h=>h.elim
 ·intro ex a w h
  cases ex<;>first|exact h|exact h.elim
theorem deferred_of_compile{f:FuncId}{fn:Func}{an:An}{args:List Value}{shs:List Sh}{Q:PayL shs->Pr}{u:FrameMode}{w:World}(hf:P.funcs[f]? =some fn)(h:compileS P fn an args shs Q w):
 CallsDIn (wf none) 0 P f args.toArray u w (λe u' w'=>u'=u/\RetT shs Q e w'):=by
 obtain⟨c,hc,h⟩:=opt_sound h;refine callsDIn_of_wp hf hc trivial ?_;let Q':Exit->Act->World->Prop:=λex a w=>match ex with
  |.normal=>a.defers=[]/\∃v,(results fn a.tmps).run P w=.ok v w/\RetT shs Q (.returned v) w
  |.ret=>a.defers=[]/\∃v,(results fn a.tmps).run P w=.ok v w/\RetT shs Q (.returned v) w
  |_=>False
 have key:∀e' a' w',Ag e' a'->fin0 P fn shs Q e' w'->a'.defers=[]/\∃v,(results fn a'.tmps).run P w'=.ok v w'/\RetT shs Q (.returned v) w':=by
  intro e' a' w' he' h;obtain⟨h1,h⟩:=nilDs_sound h;obtain⟨h2,h⟩:=nilDs_sound h;exact⟨by rw[he'.defers,h1,h2];rfl,rets_leave (λ_ _ h=>h) he' h⟩
 refine wpIn_mono (cC_sound (dk:=false) an none 0 none c Q' _ _ w _ (λh=>by cases h) (λ_ _ _ _ _ _ h=>False.elim h) (env0_ag args fn.ntmps) h (λ_=>rfl) ?_ ?_ ?_ (λ_ _ _ _ _ _ h=>h.elim) (λ_ _ _ _ _ _ _ h=>h.elim)) ?_
 ·exact λe' a' w' he' _ h=>key _ _ _ he' h
 ·exact λe' a' w' he' h=>key _ _ _ he' h
 ·exact λi e' a' w' _ _ h=>h.elim
 ·intro ex a w h
  cases ex<;>first|exact h|exact h.elim
end
end Go.Eng
