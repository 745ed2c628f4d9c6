import Derived.OrdersIn
import Derived.TacticsIn
import Derived.CallsIn
import Derived.LoopNIn
import Derived.KernelRfl
import Derived.Laws.World
import Derived.RangeFuncSeq
import Derived.Laws.StructEq
import Derived.Lib.ConvBytes
import Derived.RangeFuncNested
import Derived.RecoverIn
import Derived.Test.YtlkkmnlbldafpaaGreatProg
import Derived.Laws.Alloc2
set_option linter.unusedVariables false
set_option linter.unusedSimpArgs false
set_option linter.unusedSectionVars false
namespace Go.Eng
abbrev ja:=@decide_eq_false_iff_not
abbrev jb:=@decide_eq_true_eq
abbrev jc:=@if_neg
abbrev jd:=@if_pos
abbrev je:=@List.length_map
abbrev jf:=@List.getElem?_map
abbrev jg:=@Option.some.injEq
abbrev jh:=@List.length_append
abbrev jj:=@List.mem_of_getElem?
abbrev jk:=@List.map_append
abbrev jl:=@Int.toNat_natCast
abbrev jo:=@List.getElem?_eq_getElem
abbrev jq:=@List.mem_singleton
abbrev jr:=@not_not_intro
abbrev jt:=@List.length_take
abbrev ju:=@List.append_assoc
abbrev jv:=@of_decide_eq_true
abbrev jx:=@of_decide_eq_false
abbrev jy:=@List.eq_nil_of_length_eq_zero
abbrev jz:=@List.mem_append
abbrev kf:=@Bool.and_eq_true
abbrev kg:=@List.length_drop
abbrev ki:=@List.mem_map
abbrev kj:=@List.length_replicate
abbrev kn:=@beq_iff_eq
abbrev OA:=Option Addr
abbrev LB:=List UInt8
abbrev LV:=List Value
abbrev I6:=Int×Int×Int×Int×Int×Int
abbrev I4:=Int×Int×Int×Int
abbrev Pr:=World->Prop
structure Sl where
 a:OA
 len:Nat
 cap:Nat
inductive CS where
 |int (k:IntKind)|bool|str|ptr|slice|map|any
@[
 reducible]def dZ:CS->Type
 |.int _=>Int
 |.bool=>Bool
 |.str=>ByteArray
 |.ptr=>OA
 |.slice=>Sl
 |.map=>Option Nat
 |.any=>Value
def c7:(s:CS)->dZ s->Value
 |.int k,n=>.int k n
 |.bool,b=>.bool b
 |.str,s=>.string s
 |.ptr,p=>.pointer p
 |.slice,s=>.slice s.a s.len s.cap
 |.map,r=>.map r
 |.any,v=>v
@[
 reducible]def lg:List CS->Type
 |[]=>Unit
 |[s]=>dZ s
 |s::t::l=>dZ s×lg (t::l)
def gv:(l:List CS)->lg l->LV
 |[],_=>[]
 |[s],p=>[c7 s p]
 |s::t::l,p=>c7 s p.1::gv (t::l) p.2
inductive Sh where
 |c (s:CS)
 |agg (l:List CS)
@[
 reducible]def MQ:Sh->Type
 |.c s=>dZ s
 |.agg l=>lg l
def val:(s:Sh)->MQ s->Value
 |.c s,p=>c7 s p
 |.agg l,p=>.agg (gv l p).toArray
@[
 reducible]def dY:List Sh->Type
 |[]=>Unit
 |[s]=>MQ s
 |s::t::l=>MQ s×dY (t::l)
def oY:(l:List Sh)->dY l->LV
 |[],_=>[]
 |[s],p=>[val s p]
 |s::t::l,p=>val s p.1::oY (t::l) p.2
def lq(l:List Sh)(p:dY l):Value:=
 match oY l p with
 |[v]=>v
 |vs=>.tuple vs.toArray
def cX:Pr:=λ_=>False
def deref(p:OA)(f:Addr->Pr):Pr:=match p with|some a=>f a|none=>cX
theorem eZ{p:OA}{f:Addr->Pr}{w:World}:deref p f w↔∃a,p=some a/\f a w:=by cases p<;>simp[deref,cX]
def cK(s:CS)(a:Addr)(f:dZ s->Pr):Pr:=λw=>∃p:dZ s,w.cell? a=some (c7 s p)/\f p w
def c6(w:World)(a:Addr):Nat->LV->Prop
 |_,[]=>True
 |i,v::l=>w.cell? (a.add i)=some v/\c6 w a (i+1) l
def aM(l:List CS)(a:Addr)(f:lg l->Pr):Pr:=λw=>∃p:lg l,c6 w a 0 (gv l p)/\f p w
def aF:Value->Prop
 |.agg _=>False
 |.tuple _=>False
 |_=>True
def st(a:Addr)(v:Value)(f:Pr):Pr:=λw=>aF v/\(w.cell? a).isSome=true/\w.frozen? a=false/\f (w.setCell a v)
def Fs(a:Addr):Nat->LV->Pr->Pr
 |_,[],f=>f
 |i,v::l,f=>st (a.add i) v (Fs a (i+1) l f)
def nw(o:Obj)(f:Nat->Pr):Pr:=λw=>f w.heap.size (w.alloc o)
def br(b:Bool)(x y:Pr):Pr:=λw=>if b=true then x w else y w
def bZ(p:Prop)(f:Pr):Pr:=λw=>p/\f w
def fq(f:Pr):Pr:=λw=>f w.drew
def jn{S:Type}(f:(S->Pr)->Pr)(k:S->Pr):Pr:=λw=>∃R:S->Pr,f R w/\∀s w',R s w'->k s w'
def ck{S:Type}(G:(S->Pr)->S->Pr)(s:S):Pr:=λw=>
 ∃(I:S->Pr) (μ:S->World->Nat),I s w/\∀s w,I s w->G (λs' w'=>I s' w'/\μ s' w'<μ s w) s w
def both(x y:Pr):Pr:=λw=>x w/\y w
inductive EV where
 |no
 |val (v:Value)
 |lit (b:Bool)
 |Af
 |Ah (k v:Value)
 |AZ (k v:Value)
def EV.v? :EV->Option Value
 |.no=>none
 |.val v=>some v
 |.lit b=>some (.bool b)
 |.Af=>some (.tuple #[.bool false])
 |.Ah k v=>some (.tuple #[.bool true,k,v])
 |.AZ k v=>some (.tuple #[k,v])
def Env.kI:List EV->Nat->EV
 |[],_=>.no
 |x::_,0=>x
 |_::e,n+1=>Env.kI e n
def Env.vj:List EV->Nat->EV->List EV
 |[],_,_=>[]
 |_::e,0,v=>v::e
 |x::e,n+1,v=>x::Env.vj e n v
structure Env where
 l:List EV
 ds:List Nat
 bs:List Deferred
def Env.length(e:Env):Nat:=e.l.length
def Env.get(e:Env)(n:Nat):EV:=Env.kI e.l n
def Env.set(e:Env)(n:Nat)(v:EV):Env:=⟨Env.vj e.l n v,e.ds,e.bs⟩
def Env.mark(e:Env)(D:Nat):Env:=⟨e.l,D::e.ds,e.bs⟩
def Env.YJ(e:Env)(d:Deferred):Env:=⟨e.l,e.ds,d::e.bs⟩
def Env.put(e:Env)(d:Option Tmp)(v:EV):Env:=
 match d with
 |none=>e
 |some d=>Env.set e d v
def Env.ev(e:Env):Operand->EV
 |.tmp t=>Env.get e t
 |.const (.bool b)=>.lit b
 |.const v=>.val v
 |.global g=>.val (.pointer (some ⟨g,0,none⟩))
 |.func f=>.val (.func (.func f) #[] #[])
def Env.forget:Env->List Nat->Env
 |e,[]=>e
 |e,t::l=>Env.forget (Env.set e t .no) l
def marks(ds:List Nat):List Deferred:=ds.map λD=>{target:=.collected D,args:= #[]}
structure Ag(e:Env)(a:Act):Prop where
 size:e.length<=a.tmps.size
 get:∀t v,(Env.get e t).v? =some v->a.tmps[t]? =some v
 defers:a.defers=marks e.ds++e.bs
theorem Env.Ft(e:List EV)(t:Nat)(v:EV)(u:Nat):Env.kI (Env.vj e t v) u=if u=t/\t<e.length then v else Env.kI e u:=by
 induction e generalizing t u with
 |nil=>simp[Env.vj,Env.kI]
 |
  cons x e ih=>
  cases t with
  |zero=>cases u<;>simp[Env.vj,Env.kI]
  |
   succ t=>
   cases u with
   |zero=>simp[Env.vj,Env.kI]
   |succ u=>simp[Env.vj,Env.kI,ih]
theorem Env.yH(e:List EV)(t:Nat)(v:EV):(Env.vj e t v).length=e.length:=by
 induction e generalizing t with
 |nil=>simp[Env.vj]
 |cons x e ih=>cases t<;>simp[Env.vj,ih]
theorem Env.sw(e:List EV)(t:Nat)(h:e.length<=t):Env.kI e t=.no:=by
 induction e generalizing t with
 |nil=>rfl
 |
  cons x e ih=>
  cases t with
  |zero=>simp at h
  |succ t=>simp only[Env.kI];exact ih t (by simpa using h)
theorem Env.cu(e:Env)(t:Nat)(v:EV)(u:Nat):Env.get (Env.set e t v) u=if u=t/\t<e.length then v else Env.get e u:=Env.Ft e.l t v u
theorem Env.iY(e:Env)(t:Nat)(h:e.length<=t):Env.get e t=.no:=Env.sw e.l t h
@[simp]theorem Env.length_set(e:Env)(t:Nat)(v:EV):(Env.set e t v).length=e.length:=Env.yH e.l t v
@[
 simp]theorem Env.NZ(e:Env)(d:Option Tmp)(v:EV):(Env.put e d v).length=e.length:=by
 cases d<;>simp[Env.put]
@[simp]theorem Env.Zx(e:Env)(t:Nat)(v:EV):(Env.set e t v).ds=e.ds:=rfl
@[
 simp]theorem Env.Zy(e:Env)(d:Option Tmp)(v:EV):(Env.put e d v).ds=e.ds:=by
 cases d<;>simp[Env.put]
@[simp]theorem Env.Zz(e:Env)(t:Nat)(v:EV):(Env.set e t v).bs=e.bs:=rfl
@[
 simp]theorem Env.ZA(e:Env)(d:Option Tmp)(v:EV):(Env.put e d v).bs=e.bs:=by
 cases d<;>simp[Env.put]
@[
 simp]theorem Env.Fu(e:Env)(l:List Nat):(Env.forget e l).bs=e.bs:=by
 induction l generalizing e with
 |nil=>rfl
 |cons t l ih=>simp[Env.forget,ih]
@[
 simp]theorem Env.vk(e:Env)(l:List Nat):(Env.forget e l).length=e.length:=by
 induction l generalizing e with
 |nil=>rfl
 |cons t l ih=>simp[Env.forget,ih]
@[
 simp]theorem Env.Fv(e:Env)(l:List Nat):(Env.forget e l).ds=e.ds:=by
 induction l generalizing e with
 |nil=>rfl
 |cons t l ih=>simp[Env.forget,ih]
theorem Env.El(e:Env)(d:Option Tmp)(v:EV)(u:Nat):Env.get (Env.put e d v) u=if d=some u/\u<e.length then v else Env.get e u:=by
 cases d with
 |none=>simp[Env.put]
 |
  some d=>
  simp only[Env.put,Env.cu];by_cases h:u=d
  ·subst h;simp
  ·have:¬(some d=some u):=λh'=>h (by simpa using h'.symm)
   simp[h,this]
theorem Env.n8(e:Env)(l:List Nat)(u:Nat):Env.get (Env.forget e l) u=if u∈l/\u<e.length then .no else Env.get e u:=by
 induction l generalizing e with
 |nil=>simp[Env.forget]
 |
  cons t l ih=>
  simp only[Env.forget,ih,Env.cu,Env.length_set,List.mem_cons];by_cases h1:u∈l/\u<e.length
  ·rw[jd h1,jd ⟨.inr h1.1,h1.2⟩]
  ·rw[jc h1]
   by_cases h2:u=t/\t<e.length
   ·rw[jd h2,jd ⟨.inl h2.1,h2.1▸h2.2⟩]
   ·rw[jc h2,jc]
    rintro⟨h3|h3,h4⟩
    ·exact h2 ⟨h3,h3▸h4⟩
    ·exact h1 ⟨h3,h4⟩
section
variable{e:Env}{a:Act}
theorem Ag.eval(h:Ag e a){x:Operand}{v:Value}(hx:(Env.ev e x).v? =some v):a.eval x=v:=by
 cases x with
 |tmp t=>have:=h.get t v hx;simp[Act.eval,Array.getD_eq_getD_getElem?,this]
 |const c=>cases c<;>simpa[Env.ev,EV.v?,Act.eval]using hx
 |global g=>simpa[Env.ev,EV.v?,Act.eval]using hx
 |func f=>simpa[Env.ev,EV.v?,Act.eval]using hx
theorem Ag.put(h:Ag e a)(d:Option Tmp){x:EV}{v:Value}(hx:∀u,x.v? =some u->u=v):Ag (Env.put e d x) (a.put d v):=by
 cases d with
 |none=>exact h
 |
  some d=>
  refine⟨by simpa[Act.put]using h.size,λt u hu=>?_,by simpa[Act.put]using h.defers⟩;rw[Env.El]at hu;simp only[Act.put];by_cases hd:d=t
  ·subst hd
   by_cases hl:d<e.length
   ·rw[jd ⟨rfl,hl⟩]at hu
    have hs:d<a.tmps.size:=Nat.lt_of_lt_of_le hl h.size;simp[hs,hx u hu]
   ·rw[jc (λh'=>hl h'.2)]at hu
    rw[Env.iY e d (Nat.le_of_not_lt hl)]at hu;simp[EV.v?]at hu
  ·rw[jc (λh'=>hd (by simpa using h'.1))]at hu
   rw[Array.getElem?_setIfInBounds,jc hd];exact h.get t u hu
theorem Ag.N0(h:Ag e a)(d:Option Tmp)(v:Value):Ag (Env.put e d .no) (a.put d v):=h.put d (by simp[EV.v?])
theorem Ag.lit(h:Ag e a){t:Nat}{b:Bool}(hb:(Env.get e t).v? =some (.bool b)):Ag (Env.set e t (.lit b)) a:=by
 refine⟨by simpa using h.size,λu v hv=>?_,by simpa using h.defers⟩;rw[Env.cu]at hv;by_cases hu:u=t/\t<e.length
 ·rw[jd hu]at hv
  obtain⟨rfl,_⟩:=hu;simp only[EV.v?,jg]at hv;exact hv▸h.get u _ hb
 ·rw[jc hu]at hv
  exact h.get u v hv
end
def HP:(s:CS)->Value->(dZ s->Pr)->Pr
 |.int .i8,.int .i8 n,f=>f n
 |.int .i16,.int .i16 n,f=>f n
 |.int .i32,.int .i32 n,f=>f n
 |.int .i64,.int .i64 n,f=>f n
 |.int .u8,.int .u8 n,f=>f n
 |.int .u16,.int .u16 n,f=>f n
 |.int .u32,.int .u32 n,f=>f n
 |.int .u64,.int .u64 n,f=>f n
 |.bool,.bool b,f=>f b
 |.str,.string s,f=>f s
 |.ptr,.pointer p,f=>f p
 |.slice,.slice a l c,f=>f ⟨a,l,c⟩
 |.map,.map r,f=>f r
 |.any,v,f=>f v
 |_,_,_=>cX
theorem n9{s:CS}{v:Value}{f:dZ s->Pr}{w:World}(h:HP s v f w):∃p,v=c7 s p/\f p w:=by
 unfold HP at h;split at h<;>first|exact⟨_,rfl,h⟩|exact h.elim
def N1:(l:List CS)->LV->(lg l->Pr)->Pr
 |[],[],f=>f ()
 |[s],[v],f=>HP s v f
 |s::t::l,v::vs,f=>HP s v λp=>N1 (t::l) vs λq=>f (p,q)
 |_,_,_=>cX
theorem tE:∀{l:List CS} {vs:LV} {f:lg l->Pr} {w:World},N1 l vs f w->∃p,vs=gv l p/\f p w
 |[],[],_,_,h=>⟨(),rfl,h⟩
 |[],_::_,_,_,h=>h.elim
 |[s],[v],_,_,h=>let⟨p,hp,hf⟩:=n9 h;⟨p,by rw[hp];rfl,hf⟩
 |[_],[],_,_,h=>h.elim
 |[_],_::_::_,_,_,h=>h.elim
 |
  s::t::l,v::vs,_,_,h=>by
  obtain⟨p,hp,h⟩:=n9 h;obtain⟨q,hq,h⟩:=tE h;exact⟨(p,q),by rw[hp,hq];rfl,h⟩
 |_::_::_,[],_,_,h=>h.elim
def yI:(s:Sh)->Value->(MQ s->Pr)->Pr
 |.c s,v,f=>HP s v f
 |.agg l,.agg cs,f=>N1 l cs.toList f
 |_,_,_=>cX
theorem lu{s:Sh}{v:Value}{f:MQ s->Pr}{w:World}(h:yI s v f w):∃p,v=val s p/\f p w:=by
 cases s with
 |c s=>exact n9 h
 |
  agg l=>
  cases v<;>simp only[yI]at h<;>try exact h.elim
  obtain⟨p,hp,h⟩:=tE h;exact⟨p,by simp[val,<-hp],h⟩
abbrev Live:=List (Nat×Sh)
@[reducible]def Live.S(l:Live):Type:=dY (l.map (·.2))
def N2(s:Sh)(x:EV)(f:MQ s->Pr):Pr:=
 match x with
 |.val v=>yI s v f
 |.lit b=>yI s (.bool b) f
 |.Af=>cX
 |.Ah _ _=>cX
 |.AZ _ _=>cX
 |.no=>cX
theorem tF{s:Sh}{x:EV}{f:MQ s->Pr}{w:World}(h:N2 s x f w):∃p,x.v? =some (val s p)/\f p w:=by
 cases x with
 |no=>exact h.elim
 |Af=>exact h.elim
 |Ah _ _=>exact h.elim
 |AZ _ _=>exact h.elim
 |val v=>obtain⟨p,rfl,h1⟩:=lu (show yI s v f w from h);exact⟨p,rfl,h1⟩
 |lit b=>obtain⟨p,hp,h1⟩:=lu (show yI s (.bool b) f w from h);exact⟨p,by rw[<-hp];rfl,h1⟩
def need(e:Env):(l:Live)->(dY (l.map (·.2))->Pr)->Pr
 |[],f=>f ()
 |[x],f=>N2 x.2 (Env.get e x.1) f
 |x::y::l,f=>N2 x.2 (Env.get e x.1) λp=>need e (y::l) λq=>f (p,q)
def kE(e:Env):(l:Live)->dY (l.map (·.2))->Env
 |[],_=>e
 |[x],p=>Env.set e x.1 (.val (val x.2 p))
 |x::y::l,p=>kE (Env.set e x.1 (.val (val x.2 p.1))) (y::l) p.2
theorem eU{a:Act}{w:World}:∀{l:Live} {e e0:Env} {f:dY (l.map (·.2))->Pr},Ag e a->Ag e0 a->need e l f w->∃p,Ag (kE e0 l p) a/\f p w
 |[],_,_,_,_,h0,h=>⟨(),h0,h⟩
 |
  [x],e,e0,f,he,h0,h=>by
  obtain⟨p,hv,h⟩:=tF h;refine⟨p,?_,h⟩;have hg:=he.get x.1 _ hv;refine⟨by simpa[kE]using h0.size,λt u hu=>?_,by simpa[kE]using h0.defers⟩;simp only[kE,Env.cu]at hu;split at hu
  ·rename_i ht
   simp only[EV.v?,jg]at hu;rw[ht.1,hg,hu]
  ·exact h0.get t u hu
 |
  x::y::l,e,e0,f,he,h0,h=>by
  obtain⟨p,hv,h⟩:=tF h;have hg:=he.get x.1 _ hv;have h1:Ag (Env.set e0 x.1 (.val (val x.2 p))) a:=by
   refine⟨by simpa using h0.size,λt u hu=>?_,by simpa using h0.defers⟩;rw[Env.cu]at hu;split at hu
   ·rename_i ht
    simp only[EV.v?,jg]at hu;rw[ht.1,hg,hu]
   ·exact h0.get t u hu
  obtain⟨q,hq,h⟩:=eU he h1 h;exact⟨(p,q),hq,h⟩
def nP:Nat:=1000000007
def sx:Nat:=1000000009
def Ext(W:List Nat)(e e':Env):Prop:=e.length=e'.length/\(∀t,t∉W->Env.get e' t=Env.get e t)/\(nP∉W->e'.ds=e.ds)/\(sx∉W->e'.bs=e.bs)
theorem Ext.refl(W:List Nat)(e:Env):Ext W e e:=⟨rfl,λ_ _=>rfl,λ_=>rfl,λ_=>rfl⟩
theorem Ext.trans{W V U:List Nat}{e e1 e2:Env}(h:Ext W e e1)(h':Ext V e1 e2)(hw:∀t,t∈W->t∈U)(hv:∀t,t∈V->t∈U):Ext U e e2:=
 ⟨h.1.trans h'.1,λt ht=>(h'.2.1 t λh=>ht (hv t h)).trans (h.2.1 t λh=>ht (hw t h)),λht=>(h'.2.2.1 λh=>ht (hv _ h)).trans (h.2.2.1 λh=>ht (hw _ h)),
   λht=>(h'.2.2.2 λh=>ht (hv _ h)).trans (h.2.2.2 λh=>ht (hw _ h))⟩
theorem Ext.mono{W U:List Nat}{e e1:Env}(h:Ext W e e1)(hw:∀t,t∈W->t∈U):Ext U e e1:=
 ⟨h.1,λt ht=>h.2.1 t λh=>ht (hw t h),λht=>h.2.2.1 λh=>ht (hw _ h),λht=>h.2.2.2 λh=>ht (hw _ h)⟩
theorem Ext.put(e:Env)(d:Option Tmp)(v:EV):Ext d.toList e (Env.put e d v):=
 ⟨by simp,λt ht=>by
   rw[Env.El,jc];rintro⟨rfl,_⟩;simp at ht,λ_=>by simp,λ_=>by simp⟩
theorem Ag.forget{W:List Nat}{e e':Env}{a:Act}(h:Ag e' a)(hx:Ext W e e')(hm:nP∉W)(hd:sx∉W):Ag (Env.forget e W) a:=by
 refine⟨by simpa[hx.1]using h.size,λt v hv=>?_,by rw[Env.Fv,Env.Fu,<-hx.2.2.1 hm,<-hx.2.2.2 hd];exact h.defers⟩;rw[Env.n8]at hv;split at hv
 ·simp[EV.v?]at hv
 ·rename_i ht
  by_cases hl:t<e.length
  ·have ZB:t∉W:=λh=>ht ⟨h,hl⟩
   rw[<-hx.2.1 t ZB]at hv;exact h.get t v hv
  ·rw[Env.iY e t (by omega)]at hv
   simp[EV.v?]at hv
theorem Ext.kE:∀{l:Live} {W:List Nat} {e e0:Env} {p:dY (l.map (·.2))},Ext W e e0->(∀x∈l,x.1∈W)->Ext W e (kE e0 l p)
 |[],_,_,_,_,h,_=>h
 |
  [x],W,e,e0,p,h,hl=>by
  refine⟨by simpa[Eng.kE]using h.1,λt ht=>?_,λht=>by simpa[Eng.kE]using h.2.2.1 ht,λht=>by simpa[Eng.kE]using h.2.2.2 ht⟩;rw[Eng.kE,Env.cu,jc]
  ·exact h.2.1 t ht
  ·rintro⟨rfl,_⟩;exact ht (hl x (by simp))
 |
  x::y::l,W,e,e0,p,h,hl=>by
  refine Ext.kE (l:=y::l) (e0:=Env.set e0 x.1 (.val (val x.2 p.1))) ?_ (λz hz=>hl z (by simp[hz]));refine⟨by simpa using h.1,λt ht=>?_,λht=>by simpa using h.2.2.1 ht,λht=>by simpa using h.2.2.2 ht⟩;rw[Env.cu,jc]
  ·exact h.2.1 t ht
  ·rintro⟨rfl,_⟩;exact ht (hl x (by simp))
theorem Ext.forget(e:Env)(W:List Nat):Ext W e (Env.forget e W):=
 ⟨by simp,λt ht=>by rw[Env.n8,jc (λh=>ht h.1)],λ_=>by simp,λ_=>by simp⟩
section
variable(P:Program)
def cG:Nat->TypeId->Option (List CS)
 |0,_=>none
 |
  d+1,t=>
  match P.underlying t with
  |some .bool=>some [.bool]
  |some (.int k)=>some [.int k]
  |some .string=>some [.str]
  |some (.pointer _)=>some [.ptr]
  |some (.slice _)=>some [.slice]
  |some (.map _ _)=>some [.map]
  |some (.func _ _ _)=>some [.any]
  |some (.interface _)=>some [.any]
  |some .unsafePointer=>some [.any]
  |some (.struct fs)=>fs.toList.foldr (λf acc=>match cG d f.type,acc with|some l,some r=>some (l++r)|_,_=>none) (some [])
  |some (.array n e)=>match cG d e with|some l=>some (List.replicate n l).flatten|none=>none
  |_=>none
def ec(t:TypeId):Bool:=
 match P.underlying t with
 |some (.struct _)|some (.array _ _)=>true
 |_=>false
def Oj(t:TypeId):Option Sh:=
 match ec P t with
 |true=>match cG P 10 t with|some l=>some (.agg l)|none=>none
 |false=>match cG P 1 t with|some [c]=>some (.c c)|_=>none
def M3:List TypeId->Option (List Sh)
 |[]=>some []
 |t::l=>match Oj P t,M3 l with|some s,some r=>some (s::r)|_,_=>none
end
def nd(x:EV)(f:Value->Pr):Pr:=
 match x with
 |.val v=>f v
 |.lit b=>f (.bool b)
 |.Af=>f (.tuple #[.bool false])
 |.Ah k v=>f (.tuple #[.bool true,k,v])
 |.AZ k v=>f (.tuple #[k,v])
 |.no=>cX
theorem y5{x:EV}{f:Value->Pr}{w:World}(h:nd x f w):∃v,x.v? =some v/\f v w:=by
 cases x with
 |no=>exact h.elim
 |val v=>exact⟨v,rfl,h⟩
 |lit b=>exact⟨_,rfl,h⟩
 |Af=>exact⟨_,rfl,h⟩
 |Ah k v=>exact⟨_,rfl,h⟩
 |AZ k v=>exact⟨_,rfl,h⟩
def Hj:List EV->(LV->Pr)->Pr
 |[],f=>f []
 |x::l,f=>nd x λv=>Hj l λvs=>f (v::vs)
def opt{α:Type}(x:Option α)(f:α->Pr):Pr:=
 match x with
 |some a=>f a
 |none=>cX
theorem ai{α:Type}{x:Option α}{f:α->Pr}{w:World}(h:opt x f w):∃a,x=some a/\f a w:=by
 cases x with
 |some a=>exact⟨a,rfl,h⟩
 |none=>exact h.elim
def qq(p:Prop)[Decidable p](f:Pr):Pr:=if p then f else cX
theorem dL{p:Prop}[Decidable p]{f:Pr}{w:World}(h:qq p f w):p/\f w:=by
 unfold qq at h;by_cases hp:p
 ·rw[jd hp]at h;exact⟨hp,h⟩
 ·rw[jc hp]at h;exact h.elim
def tf(b:Bool)(x y:Pr):Pr:=
 match b with
 |true=>x
 |false=>y
theorem aO{b:Bool}{x y:Pr}{w:World}(h:tf b x y w):(b=true/\x w)\/(b=false/\y w):=by
 cases b with
 |true=>exact .inl ⟨rfl,h⟩
 |false=>exact .inr ⟨rfl,h⟩
def iq(v:Value)(f:Array Value->Pr):Pr:=
 match v with
 |.agg cs=>f cs
 |_=>cX
theorem iG{v:Value}{f:Array Value->Pr}{w:World}(h:iq v f w):∃cs,v=.agg cs/\f cs w:=by
 cases v with
 |agg cs=>exact⟨cs,rfl,h⟩
 |_=>exact h.elim
def one?{α:Type}:List α->Option α
 |[c]=>some c
 |_=>none
def gN(k:IntKind)(x y:Int):Int:=k.wrap (BitVec.ofInt k.bits x&&&BitVec.ofInt k.bits y).toNat
def Ac(k:IntKind)(x y:Int):Int:=k.wrap (BitVec.ofInt k.bits x|||BitVec.ofInt k.bits y).toNat
def wV(k:IntKind)(x y:Int):Int:=k.wrap (BitVec.ofInt k.bits x^^^BitVec.ofInt k.bits y).toNat
def pG(k:IntKind)(x y:Int):Int:=k.wrap (BitVec.ofInt k.bits x&&& ~~~(BitVec.ofInt k.bits y)).toNat
def iS(k:IntKind)(x y:Int):Int:=k.wrap (x*2^(min y.toNat k.bits))
def dF(k:IntKind)(x y:Int):Int:=x.fdiv (2^(min y.toNat k.bits))
def xj(op:BinOp)(x y:Value)(k:EV->Pr):Pr:=
 match op,x,y with
 |.shl,.int k1 a,.int _ b=>bZ (0<=b) (k (.val (.int k1 (iS k1 a b))))
 |.shr,.int k1 a,.int _ b=>bZ (0<=b) (k (.val (.int k1 (dF k1 a b))))
 |.add,.int k1 a,.int k2 b=>if k1=k2 then k (.val (.int k1 (k1.wrap (a+b))))else cX
 |.sub,.int k1 a,.int k2 b=>if k1=k2 then k (.val (.int k1 (k1.wrap (a-b))))else cX
 |.mul,.int k1 a,.int k2 b=>if k1=k2 then k (.val (.int k1 (k1.wrap (a*b))))else cX
 |.quo,.int k1 a,.int k2 b=>if k1=k2 then bZ (b≠0) (k (.val (.int k1 (k1.wrap (a.tdiv b)))))else cX
 |.rem,.int k1 a,.int k2 b=>if k1=k2 then bZ (b≠0) (k (.val (.int k1 (a.tmod b))))else cX
 |.and,.int k1 a,.int k2 b=>if k1=k2 then k (.val (.int k1 (gN k1 a b)))else cX
 |.or,.int k1 a,.int k2 b=>if k1=k2 then k (.val (.int k1 (Ac k1 a b)))else cX
 |.xor,.int k1 a,.int k2 b=>if k1=k2 then k (.val (.int k1 (wV k1 a b)))else cX
 |.andNot,.int k1 a,.int k2 b=>if k1=k2 then k (.val (.int k1 (pG k1 a b)))else cX
 |.eql,.int k1 a,.int k2 b=>if k1=k2 then k (.val (.bool (a==b)))else cX
 |.neq,.int k1 a,.int k2 b=>if k1=k2 then k (.val (.bool (a !=b)))else cX
 |.lss,.int k1 a,.int k2 b=>if k1=k2 then k (.val (.bool (decide (a<b))))else cX
 |.leq,.int k1 a,.int k2 b=>if k1=k2 then k (.val (.bool (decide (a<=b))))else cX
 |.gtr,.int k1 a,.int k2 b=>if k1=k2 then k (.val (.bool (decide (a>b))))else cX
 |.geq,.int k1 a,.int k2 b=>if k1=k2 then k (.val (.bool (decide (a>=b))))else cX
 |.add,.string a,.string b=>bZ (((a.size+b.size:Nat):Int)<=IntKind.i64.max) (k (.val (.string (a++b))))
 |.eql,.string a,.string b=>k (.val (.bool (a.toList==b.toList)))
 |.neq,.string a,.string b=>k (.val (.bool (!(a.toList==b.toList))))
 |.lss,.string a,.string b=>k (.val (.bool (Op.bytesLess a.toList b.toList)))
 |.leq,.string a,.string b=>k (.val (.bool (Op.bytesLess a.toList b.toList||a.toList==b.toList)))
 |.gtr,.string a,.string b=>k (.val (.bool (!(Op.bytesLess a.toList b.toList||a.toList==b.toList))))
 |.geq,.string a,.string b=>k (.val (.bool (!(Op.bytesLess a.toList b.toList))))
 |_,_,_=>cX
theorem Lk{P:Program}{op:BinOp}{t:TypeId}{x y:Value}{k:EV->Pr}{w:World}(h:xj op x y k w):
 ∃v,(binOp op t x y).run P w=.ok v w/\k (.val v) w:=by
 unfold xj at h;split at h<;>first
  |exact h.elim
  |(
   obtain⟨h1,h2⟩:=h
   refine⟨_,?_,h2⟩;simp[binOp,Op.shift,show¬(_:Int)<0 from Int.not_lt.2 h1,iS,dF,pure]
   done)
  |(
   split at h
   ·rename_i hk
    first
     |(
      refine⟨_,?_,h⟩
      simp[binOp,hk,Op.intArith,Op.intBits,Op.intCmp,gN,Ac,wV,pG,pure]
      done)
     |(
      obtain⟨h1,h2⟩:=h
      refine⟨_,?_,h2⟩;simp[binOp,hk,Op.intDiv,h1,pure]
      done)
   ·exact h.elim)
  |exact⟨_,by simp only[binOp,Op.stringOp];rw[jc (Int.not_lt.2 h.1)];rfl,h.2⟩
  |(
   refine⟨_,?_,h⟩
   simp[binOp,Op.stringOp,pure]
   done)
def RT{α:Type}(P:Program)(s:Sem α)(w:World)(Q:α->World->Prop):Prop:=∃v w',s.run P w=.ok v w'/\Q v w'
section
variable{P:Program}{α β:Type}{w:World}
theorem RT.pure{a:α}{Q:α->World->Prop}(h:Q a w):RT P (Pure.pure a) w Q:=⟨a,w,rfl,h⟩
theorem RT.bind{s:Sem α}{f:α->Sem β}{Q:β->World->Prop}(h:RT P s w λv w'=>RT P (f v) w' Q):RT P (s>>=f) w Q:=by
 obtain⟨v,w',h1,v2,w2,h2,h3⟩:=h;exact⟨v2,w2,by rw[Sem.run_bind,h1];exact h2,h3⟩
theorem RT.mono{s:Sem α}{Q Q':α->World->Prop}(h:RT P s w Q)(hq:∀v w',Q v w'->Q' v w'):RT P s w Q':=
 let⟨v,w',h1,h2⟩:=h;⟨v,w',h1,hq _ _ h2⟩
theorem RT.uh{s:Sem α}{v:α}{w':World}{Q:α->World->Prop}(h:s.run P w=.ok v w')(hq:Q v w'):RT P s w Q:=⟨v,w',h,hq⟩
theorem RT.underlying{t:TypeId}{d:TypeDesc}{Q:TypeDesc->World->Prop}(h:P.underlying t=some d)(hq:Q d w):RT P (Go.underlying t) w Q:=
 ⟨d,w,by simp[Go.underlying,h],hq⟩
theorem RT.typeInfo{t:TypeId}{i:TypeInfo}{Q:TypeInfo->World->Prop}(h:P.info? t=some i)(hq:Q i w):RT P (Go.typeInfo t) w Q:=
 ⟨i,w,by simp[Go.typeInfo,h],hq⟩
theorem RT.sizeOf{t:TypeId}{i:TypeInfo}{Q:Nat->World->Prop}(h:P.info? t=some i)(hq:Q i.size w):RT P (Go.sizeOf t) w Q:=
 .bind (.typeInfo h (.pure hq))
theorem RT.zeroValue{t:TypeId}{i:TypeInfo}{z:Value}{Q:Value->World->Prop}(h:P.info? t=some i)(hz:i.zero=some z)(hq:Q z w):RT P (Go.zeroValue t) w Q:=
 .bind (.typeInfo h (by rw[hz];exact .pure hq))
theorem RT.load{a:Addr}{v:Value}{Q:Value->World->Prop}(h:w.cell? a=some v)(hq:Q v w):RT P (Go.load a) w Q:=
 ⟨v,w,by simp[h],hq⟩
theorem RT.newObj{o:Obj}{Q:Nat->World->Prop}(hq:Q w.heap.size (w.alloc o)):RT P (Go.newObj o) w Q:=⟨_,_,rfl,hq⟩
theorem aF.one{v:Value}(h:aF v):v.oneCell'=true:=by cases v<;>simp_all[aF,Value.oneCell']
theorem aF.cells{v:Value}(h:aF v):v.cells= #[v]:=by cases v<;>simp_all[aF,Value.cells]
theorem RT.store{a:Addr}{v:Value}{f:Pr}{Q:Unit->World->Prop}(h:st a v f w)(hq:∀w',f w'->Q () w'):RT P (Go.store a v) w Q:=by
 obtain⟨h1,h2,h3,h4⟩:=h;obtain⟨u,hu⟩:=Option.isSome_iff_exists.1 h2;exact⟨(),_,by rw[run_store P w a v .plain h1.one];simp[hu,h3],hq _ h4⟩
theorem RT.storeCells{a:Addr}{f:Pr}{Q:Unit->World->Prop}:∀{l:LV} {i:Nat} {w:World},Fs a i l f w->(∀w',f w'->Q () w')->RT P (Go.storeCells a l i) w Q
 |[],_,_,h,hq=>.pure (hq _ h)
 |_::_,_,_,h,hq=>.bind (.store h λ_ h'=>RT.storeCells h' hq)
theorem RT.loadCellsFrom{a:Addr}{Q:Array Value->World->Prop}:∀{l:LV} {i n:Nat} {acc:Array Value},l.length=n->c6 w a i l->Q (acc++l.toArray) w->RT P (Go.loadCellsFrom a i n acc) w Q
 |[],_,_,acc,rfl,_,hq=>.pure (by simpa using hq)
 |
  v::l,i,_,acc,rfl,h,hq=>by
  simp only[List.length_cons,Go.loadCellsFrom];exact .bind (.load h.1 (RT.loadCellsFrom rfl h.2 (by simpa using hq)))
theorem RT.loadCells{a:Addr}{Q:Array Value->World->Prop}{l:LV}{n:Nat}(hn:l.length=n)(h:c6 w a 0 l)(hq:Q l.toArray w):RT P (Go.loadCells a n) w Q:=
 RT.loadCellsFrom hn h (by simpa using hq)
end
theorem rM:∀(l:List CS) (p:lg l),(gv l p).length=l.length
 |[],_=>rfl
 |[_],_=>rfl
 |_::t::l,p=>by simp only[gv,List.length_cons,rM (t::l)]
section
variable(P:Program)
def N3(t:TypeId)(a:Addr)(k:Value->Pr):Pr:=
 opt (P.info? t) λi=>
  tf (ec P t)
   (opt (cG P 10 t) λl=>qq (l.length=i.size) (aM l a λp=>k (.agg (gv l p).toArray)))
   (opt (cG P 1 t) λl=>opt (one? l) λc=>cK c a λp=>k (c7 c p))
def stT(t:TypeId)(a:Addr)(v:Value)(k:Pr):Pr:=
 opt (P.info? t) λi=>
  tf (ec P t)
   (iq v λcs=>qq (cs.size=i.size) (Fs a 0 cs.toList k))
   (qq (i.size=1) (st a v k))
def ZN(t:TypeId)(v:Value)(k:EV->Pr):Pr:=
 tf (ec P t)
  (iq v λcs=>nw (.cells cs t) λr=>k (.val (.pointer (some ⟨r,0,none⟩))))
  (bZ (aF v) (nw (.cells #[v] t) λr=>k (.val (.pointer (some ⟨r,0,none⟩)))))
end
section
variable{P:Program}{w:World}
theorem kO{t:TypeId}{d:TypeDesc}(h:P.underlying t=some d):(isAgg t).run P w=.ok (ec P t) w:=by
 simp only[isAgg,Sem.run_bind,Go.underlying,run_program,Result.andThen_ok,h,Sem.run_pure,ec];cases d<;>rfl
theorem i7{t:TypeId}{i:TypeInfo}(h:P.info? t=some i)(hc:ec P t=true\/∃l,cG P 1 t=some l):∃d,P.underlying t=some d:=by
 cases hu:P.underlying t with
 |some d=>exact⟨d,rfl⟩
 |
  none=>
  rcases hc with hc|⟨l,hl⟩
  ·simp[ec,hu]at hc
  ·simp[cG,hu]at hl
theorem RT.loadVar{t:TypeId}{a:Addr}{k:Value->Pr}{Q:Value->World->Prop}(h:N3 P t a k w)(hq:∀v,k v w->Q v w):RT P (Go.loadVar t a) w Q:=by
 obtain⟨i,hi,h⟩:=ai h;rcases aO h with⟨oc,h⟩|⟨oc,h⟩
 ·obtain⟨l,hl,h⟩:=ai h
  obtain⟨hlen,p,hr,hk⟩:=dL h;obtain⟨d,hd⟩:=i7 hi (.inl oc);refine .bind (.uh (kO hd) ?_);rw[oc,jd rfl];refine .bind (.sizeOf hi (.bind ?_));exact .loadCells (by rw[rM,hlen]) hr (.pure (hq _ hk))
 ·obtain⟨l,hl,h⟩:=ai h
  obtain⟨c,hc,p,hr,hk⟩:=ai h;obtain⟨d,hd⟩:=i7 hi (.inr ⟨_,hl⟩);refine .bind (.uh (kO hd) ?_);rw[oc,jc Bool.false_ne_true];exact .load hr (hq _ hk)
theorem RT.Iy{t:TypeId}{a:Addr}{k:Value->Pr}(h:N3 P t a k w):RT P (Go.loadVar t a) w k:=RT.loadVar h λ_ h=>h
theorem RT.storeVar{t:TypeId}{a:Addr}{v:Value}{k:Pr}{Q:Unit->World->Prop}(h:stT P t a v k w)(hq:∀w',k w'->Q () w'):RT P (Go.storeVar t a v) w Q:=by
 obtain⟨i,hi,h⟩:=ai h;rcases aO h with⟨oc,h⟩|⟨oc,h⟩
 ·obtain⟨cs,rfl,h⟩:=iG h
  obtain⟨hlen,h⟩:=dL h;refine .bind (.sizeOf hi ?_);simp only[Value.cells,hlen,ne_eq,not_true_eq_false,if_false];exact .storeCells h hq
 ·obtain⟨hs,h⟩:=dL h
  refine .bind (.sizeOf hi ?_);simp only[h.1.cells,hs,List.size_toArray,List.length_cons,List.length_nil,ne_eq,not_true_eq_false,if_false];exact .storeCells (l:=[v]) (i:=0) (by simpa[Fs,Addr.add]using h) hq
theorem RT.newVar{t:TypeId}{v:Value}{k:EV->Pr}{Q:Addr->World->Prop}(h:ZN P t v k w)(hq:∀a w',k (.val (.pointer (some a))) w'->Q a w'):RT P (Go.newVar t v) w Q:=by
 unfold Go.newVar Go.newRow;rcases aO h with⟨oc,h⟩|⟨oc,h⟩
 ·obtain⟨cs,rfl,h⟩:=iG h
  exact .bind (.newObj (.pure (hq _ _ h)))
 ·obtain⟨h1,h2⟩:=h
  rw[h1.cells];exact .bind (.newObj (.pure (hq _ _ h2)))
end
def slc(n:Nat)(s:Sl)(lo hi mx:Option Int)(k:Sl->Pr):Pr:=λw=>
 (∀m,mx=some m->0<=m/\m<=(s.cap:Int))/\
 (mx.isSome=true->hi.isSome=true)/\
 (∀h,hi=some h->0<=h/\h<=((mx.map Int.toNat).getD s.cap:Int))/\
 (∀l,lo=some l->0<=l/\l<=((hi.map Int.toNat).getD s.len:Int))/\
 k ⟨
  if(mx.map Int.toNat).getD s.cap=(lo.map Int.toNat).getD 0 then s.a else s.a.map (·.add ((lo.map Int.toNat).getD 0*n)),
  (hi.map Int.toNat).getD s.len-(lo.map Int.toNat).getD 0,(mx.map Int.toNat).getD s.cap-(lo.map Int.toNat).getD 0⟩ w
def qs(s:ByteArray)(lo hi:Option Int)(k:ByteArray->Pr):Pr:=λw=>
 (∀h,hi=some h->0<=h/\h<=(s.size:Int))/\
 (∀l,lo=some l->0<=l/\l<=((hi.map Int.toNat).getD s.size:Int))/\
 k (s.extract ((lo.map Int.toNat).getD 0) ((hi.map Int.toNat).getD s.size)) w
def cm(w:World)(a:OA)(vs:LV):Prop:=
 match a with
 |some b=>c6 w b 0 vs
 |none=>vs=[]
def KB(a:OA)(off:Nat)(vs:LV)(k:Pr):Pr:=
 match a with
 |some b=>Fs (b.add off) 0 vs k
 |none=>k
def mc(n:Nat)(d s:Sl)(k:Pr):Pr:=λw=>
 ∃vs:LV,(s.a.isSome=true->vs.length=Nat.min s.len d.len*n)/\cm w s.a vs/\KB d.a 0 vs k w
def zc(z:LV)(n:Nat):LV:=(List.replicate n z).flatten
def PN(z:LV)(s:Sl)(k:Pr):Pr:=KB (if s.len=0 then none else s.a) 0 (zc z s.len) k
def app(E:TypeId)(n b:Nat)(z:LV)(s x:Sl)(k:Sl->Pr):Pr:=λw=>
 ∃
  new:LV,(x.a.isSome=true->new.length=x.len*n)/\cm w x.a new/\
  (s.len+x.len<=s.cap->KB s.a (s.len*n) new (k ⟨s.a,s.len+x.len,s.cap⟩) w)/\
  (s.cap<s.len+x.len->∃old:LV,(s.a.isSome=true->old.length=s.len*n)/\cm w s.a old/\(b≠0)/\
    (Builtin.nextslicecap (s.len+x.len) s.cap*b<=2^48)/\(s.len+x.len<2^63)/\
    ∀
     cap,s.len+x.len<=cap->cap<2^63->
     k ⟨some ⟨w.heap.size,0,none⟩,s.len+x.len,cap⟩ (w.drew.alloc (.cells (old++new++zc z (cap-(s.len+x.len))).toArray E)))
def M4(x:ByteArray):LV:=x.data.toList.map λb=>.int .u8 b.toNat
def
 FU(E:TypeId)(n b:Nat)(z:LV)(s:Sl)(x:ByteArray)(k:Sl->Pr):Pr:=λw=>
 (s.len+x.size<=s.cap->KB s.a (s.len*n) (M4 x) (k ⟨s.a,s.len+x.size,s.cap⟩) w)/\
 (s.cap<s.len+x.size->∃old:LV,(s.a.isSome=true->old.length=s.len*n)/\cm w s.a old/\(b≠0)/\
   (Builtin.nextslicecap (s.len+x.size) s.cap*b<=2^48)/\(s.len+x.size<2^63)/\
   ∀
    cap,s.len+x.size<=cap->cap<2^63->
    k ⟨some ⟨w.heap.size,0,none⟩,s.len+x.size,cap⟩ (w.drew.alloc (.cells (old++M4 x++zc z (cap-(s.len+x.size))).toArray E)))
def pH(E:TypeId)(n b:Nat)(z:LV)(s:Sl)(m:Int)(k:Sl->Pr):Pr:=λw=>
 0
  <=m/\m*(b:Int)<=2^48/\IntKind.wrap .i64 m=m/\
  (s.len+m.toNat<=s.cap->KB s.a (s.len*n) (zc z m.toNat) (k ⟨s.a,s.len+m.toNat,s.cap⟩) w)/\
  (s.cap<s.len+m.toNat->∃old:LV,(s.a.isSome=true->old.length=s.len*n)/\cm w s.a old/\
    (Builtin.nextslicecap (s.len+m.toNat) s.cap*b<=2^48)/\(s.len+m.toNat<2^63)/\
    ∀
     cap,s.len+m.toNat<=cap->cap<2^63->
     k ⟨some ⟨w.heap.size,0,none⟩,s.len+m.toNat,cap⟩ (w.drew.alloc (.cells (old++zc z m.toNat++zc z (cap-(s.len+m.toNat))).toArray E)))
def xd(E:TypeId)(b:Nat)(z:LV)(l c:Int)(k:Sl->Pr):Pr:=λw=>
 0
  <=l/\l<=c/\(b:Int)*c<=2^48/\c<2^63/\
  k ⟨some ⟨w.heap.size,0,none⟩,l.toNat,c.toNat⟩ (w.alloc (.cells (zc z c.toNat).toArray E))
def Eo(w:World)(r:Option Nat)(es:Array MapEntry):Prop:=
 match r with
 |none=>es= #[]
 |some b=>∃clock,w.heap[b]? =some (.map es clock)
def iB(kd:TypeDesc)(r:Option Nat)(key:Value)(sh:CS)(zero:Value)(k:dZ sh->Bool->Pr):Pr:=λw=>
 ∃es res p,Eo w r es/\Instr.findNow kd key es.toList 0=some res/\((res.map (·.2)).getD zero)=c7 sh p/\k p res.isSome w
def iU(kd:TypeDesc)(r:Option Nat)(key v:Value)(k:Pr):Pr:=λw=>
 ∃
  b es clock res,r=some b/\w.heap[b]? =some (.map es clock)/\Instr.findNow kd key es.toList 0=some res/\
  match res with
  |some (i,_)=>Instr.sameBits 10000 (((es[i]?).map (·.key)).getD key) key=true/\
    k {w with heap:=w.heap.setIfInBounds b (.map (es.modify i λe=>{e with key,val:=v}) clock)}
  |none=>k {w with heap:=w.heap.setIfInBounds b (.map (es.push {key,val:=v,born:=clock}) (clock+1))}
def qD(kd:TypeDesc)(r:Option Nat)(key:Value)(k:Pr):Pr:=λw=>
 ∃
  b es clock res,r=some b/\w.heap[b]? =some (.map es clock)/\Instr.findNow kd key es.toList 0=some res/\
  k {w with heap:=w.heap.setIfInBounds b (.map (match res with|some (i,_)=>es.eraseIdxIfInBounds i|none=>es) clock)}
def mO(r:Option Nat)(k:Int->Pr):Pr:=λw=>∃es,Eo w r es/\k es.size w
def mW(r:Option Nat)(k:Nat->Pr):Pr:=λw=>
 match r with
 |none=>k w.heap.size (w.alloc (.mapIter none 0 #[] 0))
 |some m=>∃es clock,w.heap[m]? =some (.map es clock)/\k w.heap.size (w.alloc (.mapIter (some m) clock #[] clock))
def uj(a:Addr)(k0:Pr)(k1:MapEntry->Pr):Pr:=λw=>a.off=0/\
 (
  (∃c f d,w.heap[a.block]? =some (.mapIter none c f d)/\k0 w)\/
  ∃
   m since seen last es clock,w.heap[a.block]? =some (.mapIter (some m) since seen last)/\w.heap[m]? =some (.map es clock)/\
   (!seen.isEmpty&& !es.isEmpty&&es.all (·.born>=last))=false/\
   ∀
    w1,(w1=w\/w1=w.drew)->
    ((∀e∈es.toList,e.born<since->seen.contains e.born=true)->k0 w1)/\
    ∀e∈es.toList,seen.contains e.born=false->k1 e {w1 with heap:=w1.heap.setIfInBounds a.block (.mapIter (some m) since (seen.push e.born) clock)})
def ot(a:Addr)(k:MapEntry->Pr):Pr:=λw=>a.off=0/\
 ∃
  m since seen stepped es clock stamp e,w.heap[a.block]? =some (.mapIter (some m) since seen stepped)/\seen.back? =some stamp/\w.heap[m]? =some (.map es clock)/\
  clock=stepped/\es.find? (·.born==stamp)=some e/\k e w
def eM:TypeDesc->Bool
 |.int _|.string|.bool=>true
 |_=>false
def N5(s:Sl)(k:ByteArray->Pr):Pr:=λw=>
 ∃l:List Int,(s.a.isSome=true->l.length=s.len)/\cm w s.a (l.map (.int .u8))/\k ⟨(l.map λn=>UInt8.ofNat n.toNat).toArray⟩ w
def IE(s:ByteArray)(cap:Nat):Array Value:=(s.data.map λb=>Value.int .u8 b.toNat)++Array.replicate (cap-s.size) (.int .u8 0)
def Rt(a:Addr)(k:Pr):Pr:=λw=>∃E n,w.shape? a.block=some (E,n)/\k (w.freeze ⟨a.block,n,none⟩ 1)
def s2b(E:TypeId)(s:ByteArray)(k:Sl->Pr):Pr:=λw=>
 s.size<2^63/\∀cap,s.size<=cap->cap<2^63->
  k ⟨some ⟨w.heap.size,0,none⟩,s.size,cap⟩ ((w.drew.alloc (.cells (IE s cap) E)).freeze ⟨w.heap.size,(IE s cap).size,none⟩ 1)
def IF(s:ByteArray)(k:Nat->Pr):Pr:=λw=>k w.heap.size (w.alloc (.stringIter s 0))
def M5(a:Addr)(k0:Pr)(k1:Nat->Nat->Pr):Pr:=λw=>a.off=0/\∃s pos,w.heap[a.block]? =some (.stringIter s pos)/\
 (¬pos<s.size->k0 w)/\(pos<s.size->k1 pos (Utf8.decode s pos).1 (w.putObj a.block (.stringIter s (pos+(Utf8.decode s pos).2))))
def eE(P:Program)(f:FuncId):Bool:=
 match P.funcs[f]?with
 |some fn=>fn.body.isSome&& !(fn.name== "runtime.NumGoroutine")
 |none=>false
def aj(cH:List Sh)(k:dY cH->Pr):Ending->World->Prop:=λe w=>∃p:dY cH,e=.returned (lq cH p)/\k p w
def Ru(q:List PanicEntry->Pr)(cH:List Sh)(k:dY cH->Pr):Ending->World->Prop:=λe w=>aj cH k e w\/∃ch,e=.panicked ch/\q ch w
def IG(P:Program)(q:List PanicEntry->Pr)(f:FuncId)(args:LV)(cH:List Sh)(k:dY cH->Pr):Pr:=λw=>Calls P f args.toArray w (Ru q cH k)
def aq(P:Program)(f:FuncId)(args:LV)(cH:List Sh)(k:dY cH->Pr):Pr:=λw=>Calls P f args.toArray w (aj cH k)
def y6(P:Program)(f:FuncId)(args:LV)(cH:List Sh)(k:dY cH->Pr):Pr:=λw=>
 ∃p w',(callFunc f args.toArray).run P w=.ok (.value (lq cH p)) w'/\k p w'
def dh(P:Program)(v:Value)(args:LV)(cH:List Sh)(k:dY cH->Pr):Pr:=λw=>
 (∃f first caps,v=.func (.func f) first caps/\eE P f=true/\Calls P f (first++args.toArray++caps) w (aj cH k))\/
 (∃l caps,v=.func (.yield l) #[] caps/\YieldAt Fence.wide 0 P l args.toArray w (aj cH k))
def Ll(v:Value):Prop:=
 match v with
 |.func (.func _) _ _=>True
 |.func (.yield _) _ _=>True
 |_=>False
def mX(x y:Int):Int:=if y<x then y else x
def imax(x y:Int):Int:=if y>x then y else x
def ko(v:Value)(f:Int->Pr):Pr:=
 match v with
 |.int _ n=>f n
 |_=>cX
theorem gl{v:Value}{f:Int->Pr}{w:World}(h:ko v f w):∃k n,v=.int k n/\f n w:=by
 cases v with
 |int k n=>exact⟨k,n,rfl,h⟩
 |_=>exact h.elim
def MR(x:Option EV)(f:Option Int->Pr):Pr:=
 match x with
 |none=>f none
 |some e=>nd e λv=>ko v λn=>f (some n)
def mM(v:Value)(f:Addr->Pr):Pr:=
 match v with
 |.pointer p=>deref p f
 |_=>cX
theorem fW{v:Value}{f:Addr->Pr}{w:World}(h:mM v f w):∃a,v=.pointer (some a)/\f a w:=by
 cases v with
 |pointer p=>obtain⟨a,rfl,h1⟩:=eZ.1 (show deref p f w from h);exact⟨a,rfl,h1⟩
 |_=>exact h.elim
def ack(v:Value)(f:Sl->Pr):Pr:=
 match v with
 |.slice a l c=>f ⟨a,l,c⟩
 |_=>cX
def M6(v:Value)(f:ByteArray->Pr):Pr:=
 match v with
 |.string s=>f s
 |_=>cX
theorem y7{v:Value}{f:ByteArray->Pr}{w:World}(h:M6 v f w):∃s,v=.string s/\f s w:=by
 cases v with
 |string s=>exact⟨s,rfl,h⟩
 |_=>exact h.elim
def tM(P:Program)(t:TypeId):Bool:=
 match P.underlying t with
 |some .string=>true
 |_=>false
theorem lD{P:Program}{t:TypeId}(h:tM P t=true):P.underlying t=some .string:=by
 unfold tM at h;split at h
 ·assumption
 ·cases h
def tH(v:Value)(f:Option Nat->Pr):Pr:=
 match v with
 |.map r=>f r
 |_=>cX
theorem jU{v:Value}{f:Option Nat->Pr}{w:World}(h:tH v f w):∃r,v=.map r/\f r w:=by
 cases v with
 |map r=>exact⟨r,rfl,h⟩
 |_=>exact h.elim
def II:Value->Bool
 |.nilFunc=>true
 |_=>false
def M7:Operand->Bool
 |.const _=>true
 |_=>false
def Rx(P:Program)(t:TypeId):Bool:=
 match P.underlying t with
 |
  some (.pointer el)=>(match P.info? el with
  |some i=> !(i.size==0)
  |none=>false)
 |_=>false
def K7(P:Program)(t:TypeId)(x y:Operand):Bool:= !M7 x&& !M7 y&&Rx P t
def tJ(u v:Value)(f:Bool->Pr):Pr:=
 match u,v with
 |.pointer p,.pointer q=>bZ (∀a b,p=some a->q=some b->a.block=b.block) (f (p==q))
 |_,_=>cX
def Bq(d:TypeDesc)(x y:Value):Option (Prop×Bool):=
 match d,x,y with
 |.bool,.bool a,.bool b=>some (True,a==b)
 |.pointer _,.pointer p,.pointer none=>some (True,p.isNone)
 |.pointer _,.pointer none,.pointer q=>some (True,q.isNone)
 |.slice _,.slice a _ _,.slice none _ _=>some (True,a.isNone)
 |.map _ _,.map r,.map none=>some (True,r.isNone)
 |.func _ _ _,v,.nilFunc=>some (Ll v\/v=.nilFunc,II v)
 |_,_,_=>none
def N4(P:Program)(t:TypeId)(x y:Value)(f:Bool->Pr):Pr:=
 opt (P.underlying t) λd=>opt (Bq d x y) λr=>bZ r.1 (f r.2)
def Ry(d:TypeDesc)(x y:Value):Option Bool:=
 match d,x,y with
 |.bool,.bool a,.bool b=>some (a==b)
 |.int _,.int k a,.int k' b=>if k=k' then some (a==b)else none
 |.string,.string a,.string b=>some (a.toList==b.toList)
 |_,_,_=>none
def M8(a b:String):Bool:=decide (a=b)
def lC(P:Program)(t:TypeId):Option (Array Field):=
 match P.underlying t with
 |some (.struct fs)=>some fs
 |_=>none
def PO(g:TypeId->LV->LV->Option Bool)(xs ys:LV):List Field->Option Bool
 |[]=>some true
 |
  f::l=>
  match M8 f.name "_",g f.type (xs.drop f.offset) (ys.drop f.offset),PO g xs ys l with
  |false,some b,some c=>some (b&&c)
  |_,_,_=>none
def xF(P:Program)(t:TypeId)(us vs:LV):Option Bool:=
 match P.underlying t,us.head?,vs.head? with
 |some d,some u,some v=>Ry d u v
 |_,_,_=>none
def Rz(P:Program):Nat->TypeId->LV->LV->Option Bool
 |0,t,us,vs=>xF P t us vs
 |
  m+1,t,us,vs=>
  match lC P t,P.info? t,P.stoodInHeld t with
  |some fs,some i,false=>PO (Rz P m) (us.take i.size) (vs.take i.size) fs.toList
  |some _,_,_=>none
  |none,_,_=>xF P t us vs
def N6(P:Program)(xs ys:LV)(fs:List Field):Option Bool:=PO (Rz P 2) xs ys fs
def xm(u v:Value)(f:LV->LV->Pr):Pr:=
 match u,v with
 |.agg xs,.agg ys=>f xs.toList ys.toList
 |_,_=>cX
theorem lB{u v:Value}{f:LV->LV->Pr}{w:World}(h:xm u v f w):∃xs ys,u=.agg xs/\v=.agg ys/\f xs.toList ys.toList w:=by
 unfold xm at h;split at h
 ·exact⟨_,_,rfl,rfl,h⟩
 ·exact h.elim
def yP(P:Program)(t:TypeId)(fs:Array Field)(u v:Value)(f:Bool->Pr):Pr:=
 tf (P.eqGuardType P.depth t||P.stoodInHeld t) cX (xm u v λxs ys=>opt (N6 P xs ys fs.toList) f)
def yO(P:Program)(u v:Value)(f:Bool->Pr):Pr:=λw=>
 ∃tx x ty y,u=.iface tx x/\v=.iface ty y/\∃b,((tx≠ty/\b=false)\/(tx=ty/\∃i k a c,P.info? tx=some i/\i.comparable=true/\P.underlying tx=some (.int k)/\x=.int k a/\y=.int k c/\b=(a==c)))/\f b w
def sS(P:Program)(s:TypeId)(i:Nat):Option Field:=
 match P.underlying s with
 |some (.struct fs)=>fs[i]?
 |_=>none
def cj(P:Program)(t:TypeId):Option TypeId:=
 match P.underlying t with
 |some (.slice e)=>some e
 |_=>none
def mapElem(P:Program)(t:TypeId):Option (TypeId×TypeId):=
 match P.underlying t with
 |some (.map k e)=>some (k,e)
 |_=>none
def rN(place:Nat->Option (Nat×Nat)):LV->List (Nat×Value)->Option (LV)
 |cells,[]=>some cells
 |
  cells,(i,v)::rest=>
  match place i with
  |none=>none
  |
   some (off,size)=>
   match v with
   |.agg cs=>if cs.size=size/\off+size<=cells.length then rN place (cells.take off++cs.toList++cells.drop (off+size)) rest else none
   |v=>if size=1/\off+1<=cells.length then rN place (cells.set off v) rest else none
def na(v:Value)(k:Pr):Pr:=
 match v with
 |.agg _=>cX
 |_=>k
theorem IJ{v:Value}{k:Pr}{w:World}(h:na v k w):(∀cs,v≠.agg cs)/\k w:=by
 cases v<;>first|exact h.elim|exact⟨λcs=>by simp,h⟩
def gR(agg:Nat->Bool)(place:Nat->Option (Nat×Nat)):LV->List (Nat×Value)->(LV->Pr)->Pr
 |cells,[],f=>f cells
 |cells,(i,v)::rest,f=>opt (place i) λos=>tf (agg i)
   (iq v λcs=>qq (cs.size=os.2/\os.1+os.2<=cells.length) (gR agg place (cells.take os.1++cs.toList++cells.drop (os.1+os.2)) rest f))
   (na v (qq (os.2=1/\os.1+1<=cells.length) (gR agg place (cells.set os.1 v) rest f)))
theorem gU{agg:Nat->Bool}{place:Nat->Option (Nat×Nat)}{w:World}:∀{ps:List (Nat×Value)} {cells:LV} {f:LV->Pr},gR agg place cells ps f w->∃out,rN place cells ps=some out/\f out w
 |[],cells,f,h=>⟨cells,rfl,h⟩
 |
  (i,v)::ps,cells,f,h=>by
  simp only[gR]at h;obtain⟨⟨off,size⟩,hp,h⟩:=ai h;simp only[rN,hp];rcases aO h with⟨_,h⟩|⟨_,h⟩
  ·obtain⟨cs,rfl,h⟩:=iG h
   obtain⟨hc,h⟩:=dL h;obtain⟨out,ho,h⟩:=gU h;exact⟨out,by dsimp only;rw[jd hc];exact ho,h⟩
  ·obtain⟨hv,h⟩:=IJ h
   obtain⟨hc,h⟩:=dL h;obtain⟨out,ho,h⟩:=gU h;refine⟨out,?_,h⟩;cases v<;>first|exact absurd rfl (hv _)|(dsimp only;rw[jd hc];exact ho)
def jT(e:Env):List (Nat×Operand)->(List (Nat×Value)->Pr)->Pr
 |[],f=>f []
 |(i,x)::l,f=>nd (Env.ev e x) λv=>jT e l λvs=>f ((i,v)::vs)
def placesOf(P:Program):List Field->Option (List (Nat×Nat))
 |[]=>some []
 |
  f::l=>match P.info? f.type,placesOf P l with
  |some i,some r=>some ((f.offset,i.size)::r)
  |_,_=>none
def zeroOf(P:Program)(t:TypeId):Option Value:=
 match P.info? t with
 |some i=>i.zero
 |none=>none
def uk(P:Program)(t:TypeId):Option (List Sh):=
 match P.underlying t with
 |some (.tuple ts)=>M3 P ts.toList
 |some _=>match Oj P t with|some s=>some [s]|none=>none
 |none=>none
def vl:LV->(Value->Pr)->Pr
 |[.int k x,.int _ y],f=>f (.int k (mX x y))
 |[.int k x,.int _ y,.int _ z],f=>f (.int k (mX (mX x y) z))
 |_,_=>cX
def vm:LV->(Value->Pr)->Pr
 |[.int k x,.int _ y],f=>f (.int k (imax x y))
 |[.int k x,.int _ y,.int _ z],f=>f (.int k (imax (imax x y) z))
 |_,_=>cX
def ir(P:Program)(t:TypeId):Bool:=
 match P.underlying t with
 |some (.int _)=>true
 |_=>false
def eF(P:Program)(b:Builtin)(ts:List TypeId)(args:LV)(k:EV->Pr):Pr:=
 match b,args with
 |.len,[.slice _ n _]=>opt (ts[0]?) λt=>opt (cj P t) λ_=>k (.val (.int .i64 n))
 |.len,[.string s]=>opt (ts[0]?) λt=>opt (P.underlying t) λd=>match d with|.string=>k (.val (.int .i64 s.size))|_=>cX
 |.len,[.map r]=>opt (ts[0]?) λt=>opt (mapElem P t) λ_=>mO r λn=>k (.val (.int .i64 n))
 |.cap,[.slice _ _ n]=>opt (ts[0]?) λt=>opt (cj P t) λ_=>k (.val (.int .i64 n))
 |.min,l=>vl l λv=>k (.val v)
 |.max,l=>vm l λv=>k (.val v)
 |.copy,[.slice da dl dc,.slice sa sl sc]=>opt (ts[0]?) λt=>opt (cj P t) λel=>opt (P.info? el) λi=>
   mc i.size ⟨da,dl,dc⟩ ⟨sa,sl,sc⟩ (k (.val (.int .i64 (Nat.min sl dl:Nat))))
 |.clear,[.slice a l c]=>opt (ts[0]?) λt=>opt (cj P t) λel=>opt (P.info? el) λi=>opt i.zero λz=>PN z.cells.toList ⟨a,l,c⟩ (k (.val (.tuple #[])))
 |.append,[.slice da dl dc,.slice sa sl sc]=>opt (ts[0]?) λt=>opt (ts[1]?) λt2=>tf (ir P t2) cX<|opt (P.underlying t2) λ_=>opt (cj P t) λel=>opt (P.info? el) λi=>opt i.zero λz=>
   qq (z.cells.size=i.size) (app el i.size i.bytes z.cells.toList ⟨da,dl,dc⟩ ⟨sa,sl,sc⟩ λs=>k (.val (.slice s.a s.len s.cap)))
 |.append,[.slice da dl dc,.string x]=>opt (ts[0]?) λt=>opt (ts[1]?) λt2=>tf (ir P t2) cX<|opt (P.underlying t2) λ_=>opt (cj P t) λel=>opt (P.info? el) λi=>opt i.zero λz=>
   qq (z.cells.size=i.size) (FU el i.size i.bytes z.cells.toList ⟨da,dl,dc⟩ x λs=>k (.val (.slice s.a s.len s.cap)))
 |.append,[.slice da dl dc,.int _ m]=>opt (ts[0]?) λt=>opt (ts[1]?) λt2=>tf (ir P t2) (opt (cj P t) λel=>opt (P.info? el) λi=>opt i.zero λz=>
   qq (z.cells.size=i.size) (pH el i.size i.bytes z.cells.toList ⟨da,dl,dc⟩ m λs=>k (.val (.slice s.a s.len s.cap)))) cX
 |.delete,[.map r,key]=>opt (ts[0]?) λt=>opt (mapElem P t) λke=>opt (P.underlying ke.1) λkd=>tf (eM kd) (qD kd r key (k (.val (.tuple #[])))) cX
 |_,_=>cX
def rC(P:Program)(src dst:TypeId)(x:Value)(k:EV->Pr):Pr:=
 opt (P.underlying src) λs=>opt (P.underlying dst) λd=>
  match s,d,x with
  |.int _,.int kd,.int _ n=>k (.val (.int kd (kd.wrap n)))
  |.string,.string,.string b=>k (.val (.string b))
  |.slice _,.slice e,.slice a l c=>tf (src==dst) (opt (P.underlying e) λu=>match u with|.int .u8=>deref a λad=>Rt ad (k (.val (.slice (some ad) l c)))|_=>cX) cX
  |.string,.slice e,.string s=>opt (P.underlying e) λu=>match u with|.int .u8=>s2b e s λr=>k (.val (.slice r.a r.len r.cap))|_=>cX
  |.slice e,.string,.slice a l c=>opt (P.underlying e) λu=>match u with|.int .u8=>N5 ⟨a,l,c⟩ λb=>k (.val (.string b))|_=>cX
  |_,_,_=>cX
def K0(op:UnOp)(x:EV)(k:EV->Pr):Pr:=
 match op,x with
 |.not,.lit b=>k (.lit (!b))
 |.not,.val (.bool b)=>k (.val (.bool !b))
 |.neg,.val (.int kd n)=>k (.val (.int kd (kd.wrap (0-n))))
 |.xor,.val (.int kd n)=>k (.val (.int kd (wV kd (if kd.signed then-1 else kd.max) n)))
 |_,_=>cX
def Hi(x:EV)(y z:Pr):Pr:=
 match x with
 |.lit true=>y
 |.lit false=>z
 |.val (.bool b)=>br b y z
 |_=>cX
theorem qu{x:EV}{y z:Pr}{w:World}(h:Hi x y z w):∃b,x.v? =some (.bool b)/\((b=true/\y w)\/(b=false/\z w)):=by
 unfold Hi at h;split at h
 ·exact⟨true,rfl,.inl ⟨rfl,h⟩⟩
 ·exact⟨false,rfl,.inr ⟨rfl,h⟩⟩
 ·rename_i b
  refine⟨b,rfl,?_⟩;unfold br at h;cases b with
  |true=>exact .inl ⟨rfl,by simpa using h⟩
  |false=>exact .inr ⟨rfl,by simpa using h⟩
 ·exact h.elim
def Ic(e:Env)(c a b:Operand)(k:EV->Pr):Pr:=
 Hi (Env.ev e c) (nd (Env.ev e a) λ_=>k (Env.ev e a)) (nd (Env.ev e b) λ_=>k (Env.ev e b))
def xq(v u:Value):Bool:=
 match v,u with
 |.int _ _,.int _ _=>true
 |.string _,.string _=>true
 |_,_=>false
def yN(op:BinOp)(f:Bool->Pr):Pr:=
 match op with
 |.eql=>f false
 |.neq=>f true
 |_=>cX
def A6(s:CS)(v:Value)(f:dZ s->Pr):Pr:=λw=>∃p,v=c7 s p/\f p w
def rD(P:Program)(t:TypeId)(f:CS->Pr):Pr:=opt (cG P 1 t) λl=>opt (one? l) f
def ZO(P:Program)(ty:TypeId)(x:EV)(ix:Nat)(k:EV->Pr):Pr:=
 match x with
 |
  .Af=>(match ix with
  |0=>k (.lit false)
  |_=>cX)
 |
  .Ah a b=>(match ix with
  |0=>k (.lit true)
  |1=>k (.val a)
  |2=>k (.val b)
  |_=>cX)
 |
  .AZ a b=>(match ix with
  |0=>rD P ty λs=>A6 s a λp=>k (.val (c7 s p))
  |1=>rD P ty λs=>A6 s b λp=>k (.val (c7 s p))
  |_=>cX)
 |
  x=>nd x λv=>match v with
  |.tuple vs=>opt (vs[ix]?) λx=>k (.val x)
  |_=>cX
def Ie:Operand->Bool
 |.const .nilIface=>true
 |_=>false
def orElse{α:Type}(x:Option α)(f:α->Pr)(y:Pr):Pr:=
 match x with
 |some a=>f a
 |none=>y
theorem iE{α:Type}{x:Option α}{f:α->Pr}{y:Pr}{w:World}(h:orElse x f y w):(∃a,x=some a/\f a w)\/(x=none/\y w):=by
 cases x with
 |some a=>exact .inl ⟨a,rfl,h⟩
 |none=>exact .inr ⟨rfl,h⟩
def A5(P:Program)(t:TypeId):Bool:=
 match P.underlying t with
 |some (.interface _)=>true
 |_=>false
def xk(P:Program)(t:TypeId)(u v:Value)(f:Bool->Pr):Pr:=orElse (lC P t) (λfs=>yP P t fs u v f)<|N4 P t u v f
def YK:Value->Prop
 |.nilIface=>True
 |.iface _ _=>True
 |_=>False
def mP:Value->Bool
 |.nilIface=>true
 |_=>false
def rF:TypeDesc->Bool
 |.interface _=>true
 |_=>false
def asT(T:TypeId)(sh:Sh)(z v:Value)(ok:Bool)(k:MQ sh->Bool->Pr):Pr:=λw=>
 ∃p b,((b=true/\v=.iface T (val sh p))\/(ok=true/\b=false/\val sh p=z/\(v=.nilIface\/∃t u,v=.iface t u/\t≠T)))/\k p b w
def IK:TypeDesc->Option (Array (String×TypeId))
 |.interface want=>some want
 |_=>none
def asI(P:Program)(want:Array (String×TypeId))(v:Value)(ok:Bool)(k:Bool->Pr):Pr:=λw=>
 ∃
  b,((b=true/\∃t u i,v=.iface t u/\P.info? t=some i/\Instr.missingMethod want i.methods=none)\/
  (ok=true/\b=false/\(v=.nilIface\/∃t u i m,v=.iface t u/\P.info? t=some i/\Instr.missingMethod want i.methods=some m)))/\k b w
def RA(P:Program)(v:Value)(name:String)(args:LV)(cH:List Sh)(k:dY cH->Pr):Pr:=λw=>
 ∃
  t u f recv,v=.iface t u/\(method (P.types.size+Made.depth) t u name).run P w=.ok (f,recv) w/\((eE P f=true/\Calls P f (#[recv]++args.toArray) w (aj cH k))\/
  ∃p w',(callFunc f (#[recv]++args.toArray)).run P w=.ok (.value (lq cH p)) w'/\k p w')
def cop(P:Program)(o:Oper)(e:Env)(k:EV->Pr):Pr:=
 match o.op with
 |.move x|.assign x=>nd (Env.ev e x) λ_=>k (Env.ev e x)
 |.pick c a b=>Ic e c a b k
 |.alloc t=>opt (zeroOf P t) λz=>ZN P t z k
 |.box t x=>nd (Env.ev e x) λv=>ZN P t v k
 |.build t parts=>opt (zeroOf P t) λz=>jT e parts.toList λps=>
   opt (P.underlying t) λd=>match d with
    |.struct fs=>opt (placesOf P fs.toList) λpl=>gR (λj=>match fs[j]?with|some fl=>ec P fl.type|none=>false) (pl[·]?) z.cells.toList ps λcs=>k (.val (.agg cs.toArray))
    |.array _ el=>opt (P.info? el) λi=>gR (λ_=>ec P el) (λj=>some (j*i.size,i.size)) z.cells.toList ps λcs=>k (.val (.agg cs.toArray))
    |_=>cX
 |.buildSlice t len parts=>jT e parts.toList λps=>
   opt (cj P t) λel=>opt (P.info? el) λi=>opt i.zero λz=>qq (z.cells.size=i.size/\i.size≠0/\len*i.size<=2^24)
    (gR (λ_=>ec P el) (λj=>some (j*i.size,i.size)) (zc z.cells.toList len) ps λcs=>
      nw (.cells cs.toArray el) λr=>k (.val (.slice (some ⟨r,0,none⟩) len len)))
 |.load t a=>nd (Env.ev e a) λp=>mM p λad=>N3 P t ad λv=>k (.val v)
 |.store t a x=>nd (Env.ev e a) λp=>mM p λad=>nd (Env.ev e x) λv=>stT P t ad v (k .no)
 |.nilCheck x=>nd (Env.ev e x) λv=>match v with
   |.pointer p=>deref p λad=>k (.val (.pointer (some ad)))
   |.func fn a b=>bZ (Ll (.func fn a b)) (k (.val (.func fn a b)))
   |.int _ _|.bool _|.string _|.nilIface|.slice _ _ _|.map _=>cX
   |v=>bZ (Ll v) (k (.val v))
 |.binOp op t x y _=>tf (Ie y&&A5 P t) (nd (Env.ev e x) λu=>yN op λneg=>bZ (YK u) (k (.val (.bool (if neg then !mP u else mP u)))))<|nd (Env.ev e x) λu=>nd (Env.ev e y) λv=>tf (A5 P t) (yN op λneg=>yO P u v λb=>k (.val (.bool (if neg then !b else b))))<|tf (K7 P t x y) (yN op λneg=>tJ u v λb=>k (.val (.bool (if neg then !b else b))))<|tf (xq v u) (xj op u v k)
   (yN op λneg=>xk P t u v λb=>k (.val (.bool (if neg then !b else b))))
 |.unOp op _ x=>K0 op (Env.ev e x) k
 |.convert s d x=>nd (Env.ev e x) λv=>rC P s d v k
 |.makeFunc fn first caps=>Hj (first.toList.map (Env.ev e)) λfs=>Hj (caps.toList.map (Env.ev e)) λcs=>k (.val (.func fn fs.toArray cs.toArray))
 |.makeMap _ none=>nw (.map #[] 0) λr=>k (.val (.map (some r)))
 |.makeSlice t l c=>opt (cj P t) λel=>opt (P.info? el) λi=>opt i.zero λz=>qq (z.cells.size=i.size/\i.size≠0)
   (nd (Env.ev e l) λlv=>ko lv λln=>nd (Env.ev e c) λcv=>ko cv λcn=>xd el i.bytes z.cells.toList ln cn λs=>k (.val (.slice s.a s.len s.cap)))
 |.slice t x lo hi mx=>nd (Env.ev e x) λv=>MR (lo.map (Env.ev e)) λl=>MR (hi.map (Env.ev e)) λh=>MR (mx.map (Env.ev e)) λm=>match v with
   |.slice a ln c=>opt (cj P t) λel=>opt (P.info? el) λi=>slc i.size ⟨a,ln,c⟩ l h m λs=>k (.val (.slice s.a s.len s.cap))
   |.string s=>opt (P.underlying t) λd=>match d,m with|.string,none=>qs s l h λr=>k (.val (.string r))|_,_=>cX
   |_=>cX
 |.fieldAddr s x f=>nd (Env.ev e x) λp=>mM p λad=>opt (sS P s f) λfl=>opt (P.info? fl.type) λi=>qq (i.size≠0) (k (.val (.pointer (some (ad.add fl.offset)))))
 |.field s x f=>nd (Env.ev e x) λv=>iq v λcs=>opt (sS P s f) λfl=>opt (P.info? fl.type) λi=>opt (P.underlying fl.type) λ_=>
   tf (ec P fl.type) (k (.val (.agg (cs.extract fl.offset (fl.offset+i.size))))) (opt (cs[fl.offset]?) λc=>k (.val c))
 |.indexAddr t x ix=>nd (Env.ev e x) λv=>nd (Env.ev e ix) λiv=>ko iv λn=>match v with
   |.slice a ln _=>opt (cj P t) λel=>opt (P.info? el) λi=>bZ (0<=n/\n<(ln:Int)) (deref a λad=>k (.val (.pointer (some (ad.add (n.toNat*i.size))))))
   |.pointer p=>opt (P.underlying t) λd=>match d with
     |.array ln el=>opt (P.info? el) λi=>bZ (0<=n/\n<(ln:Int)) (deref p λad=>k (.val (.pointer (some (ad.add (n.toNat*i.size))))))
     |_=>cX
   |_=>cX
 |.index t x ix=>nd (Env.ev e x) λv=>nd (Env.ev e ix) λiv=>ko iv λn=>match v with
   |.string s=>opt (P.underlying t) λd=>match d with|.string=>bZ (0<=n/\n<(s.size:Int)) (k (.val (.int .u8 ((s[n.toNat]?).getD 0).toNat)))|_=>cX
   |_=>cX
 |.lookup t x ix ok=>nd (Env.ev e x) λv=>nd (Env.ev e ix) λkey=>tH v λr=>opt (mapElem P t) λke=>opt (P.underlying ke.1) λkd=>tf (eM kd)
   (opt (cG P 1 ke.2) λl=>opt (one? l) λsh=>opt (zeroOf P ke.2) λz=>iB kd r key sh z λp b=>tf ok (k (.val (.tuple #[c7 sh p,.bool b]))) (k (.val (c7 sh p)))) cX
 |.mapUpdate t m ky x=>nd (Env.ev e m) λmv=>nd (Env.ev e ky) λkey=>nd (Env.ev e x) λv=>tH mv λr=>opt (mapElem P t) λke=>opt (P.underlying ke.1) λkd=>tf (eM kd)
   (iU kd r key v (k .no)) cX
 |.extract t ix=>ZO P o.type (Env.ev e t) ix k
 |.range t x=>nd (Env.ev e x) λv=>tf (tM P t) (M6 v λs=>IF s λb=>k (.val (.pointer (some ⟨b,0,none⟩)))) (tH v λr=>opt (mapElem P t) λ_=>mW r λb=>k (.val (.pointer (some ⟨b,0,none⟩))))
 |.next it str=>nd (Env.ev e it) λv=>mM v λad=>tf str (M5 ad (k .Af) λi c=>k (.Ah (.int .i64 (i:Nat)) (.int .i32 (c:Nat)))) (uj ad (k .Af) λen=>k (.Ah en.key en.val))
 |.entry it=>nd (Env.ev e it) λv=>mM v λad=>ot ad λen=>k (.AZ en.key en.val)
 |.makeInterface t x=>nd (Env.ev e x) λv=>opt (P.underlying t) λd=>tf (rF d) cX (k (.val (.iface t v)))
 |.typeAssert x _ T ok=>nd (Env.ev e x) λv=>opt (P.underlying T) λd=>tf (rF d) (opt (IK d) λwant=>opt (zeroOf P T) λz=>asI P want v ok λb=>tf ok (k (.val (.tuple #[if b=true then v else z,.bool b]))) (k (.val v)))
   (opt (Oj P T) λsh=>opt (zeroOf P T) λz=>
   asT T sh z v ok λp b=>tf ok (k (.val (.tuple #[val sh p,.bool b]))) (k (.val (val sh p))))
 |.call c=>Hj (c.args.toList.map (Env.ev e)) λargs=>match c.callee with
   |.value (.func f)=>opt (uk P o.type) λcH=>tf (eE P f) (aq P f args cH λp=>k (.val (lq cH p))) (y6 P f args cH λp=>k (.val (lq cH p)))
   |.value x=>nd (Env.ev e x) λfv=>opt (uk P o.type) λcH=>dh P fv args cH λp=>k (.val (lq cH p))
   |.builtin b=>eF P b c.argTypes.toList args k
   |.invoke x name=>nd (Env.ev e x) λrv=>opt (uk P o.type) λcH=>RA P rv name args cH λp=>k (.val (lq cH p))
 |_=>cX
def pn:Op->Option (FuncId×Array Operand)
 |.call ⟨.value (.func f),args,_⟩=>some (f,args)
 |_=>none
def sP:Op->Option (Array Operand)
 |.call ⟨.builtin .panic,args,_⟩=>some args
 |.panic x=>some #[x]
 |_=>none
def Br(l:LV)(f:Value->Pr):Pr:=
 match l with
 |[.iface t v]=>f (.iface t v)
 |_=>cX
theorem xG{l:LV}{f:Value->Pr}{w:World}(h:Br l f w):∃t v,l=[.iface t v]/\f (.iface t v) w:=by
 unfold Br at h
 match l,h with
 |[.iface t v],h=>exact⟨t,v,rfl,h⟩
def K8(P:Program)(kp:Option (List PanicEntry->Pr))(o:Oper)(e:Env)(k:EV->Pr):Pr:=
 match kp with
 |none=>cop P o e k
 |
  some q=>
  orElse (pn o.op) (λx=>Hj (x.2.toList.map (Env.ev e)) λargs=>
   opt (uk P o.type) λcH=>tf (eE P x.1) (IG P q x.1 args cH λp=>k (.val (lq cH p))) (y6 P x.1 args cH λp=>k (.val (lq cH p))))
   (orElse (sP o.op) (λargs=>Hj (args.toList.map (Env.ev e)) λargs=>Br args λv=>q [{v:=v,recovered:=false}])
     (cop P o e k))
def KA(kp:Option (List PanicEntry->Pr))(ch:List PanicEntry):Pr:=
 match kp with
 |none=>cX
 |some q=>q ch
def wf(r:Option Nat):Fence:={Fence.wide with round:=r}
theorem og{r:Option Nat}{n:Nat}{P:Program}{f:FuncId}{args:Array Value}{w:World}{R:Ending->World->Prop}:
 CallsIn (wf r) n P f args w R↔Calls P f args w R:=callsIn_wide (n:=n)
def Good(x:EV)(v:Value):Prop:=∀u,x.v? =some u->u=v
theorem Good.val(v:Value):Good (.val v) v:=λu h=>by simpa[EV.v?]using h.symm
def NX(k:EV->Pr):Next->World->Prop
 |.value v,w'=>∃x,Good x v/\k x w'
 |.skip,w'=>k .no w'
 |_,_=>False
section
variable{P:Program}{e:Env}{a:Act}{w:World}{k:EV->Pr}
theorem RT.value{s:Sem Value}(h:RT P s w λv w'=>∃x,Good x v/\k x w'):RT P (do Pure.pure (Next.value (<-s))) w (NX k):=
 .bind (h.mono λ_ _ h=>.pure h)
theorem RT.value'{s:Sem Value}(h:RT P s w λv w'=>k (.val v) w'):RT P (do Pure.pure (Next.value (<-s))) w (NX k):=
 .value (h.mono λv _ h=>⟨_,Good.val v,h⟩)
theorem RT.skip{s:Sem Unit}(h:RT P s w λ_ w'=>k .no w'):RT P (do s;Pure.pure Next.skip) w (NX k):=
 .bind (h.mono λ_ _ h=>.pure h)
theorem eS(he:Ag e a){x:Operand}{f:Value->Pr}(h:nd (Env.ev e x) f w):f (a.eval x) w:=by
 obtain⟨v,hv,h⟩:=y5 h;rw[he.eval hv];exact h
theorem Ex(he:Ag e a){x:Operand}{k:EV->Pr}(h:nd (Env.ev e x) (λ_=>k (Env.ev e x)) w):∃y,Good y (a.eval x)/\k y w:=by
 obtain⟨v,hv,h⟩:=y5 h;exact⟨_,λu hu=>by rw[hv]at hu;simp only[jg]at hu;rw[<-hu,he.eval hv],h⟩
theorem fU(he:Ag e a):∀{l:List Operand} {f:LV->Pr},Hj (l.map (Env.ev e)) f w->f (l.map a.eval) w
 |[],_,h=>h
 |
  x::l,_,h=>by
  have h1:=eS he (x:=x) h;exact fU he (l:=l) h1
theorem kr(he:Ag e a):∀{l:List (Nat×Operand)} {f:List (Nat×Value)->Pr},jT e l f w->f (l.map λ(i,x)=>(i,a.eval x)) w
 |[],_,h=>h
 |
  (i,x)::l,_,h=>by
  have h1:=eS he (x:=x) h;exact kr he (l:=l) h1
theorem IL(he:Ag e a){c x y:Operand}(h:Ic e c x y k w):
 RT P (do Pure.pure (Next.value (if<-asBool (a.eval c)then a.eval x else a.eval y))) w (NX k):=by
 obtain⟨b,hb,h⟩:=qu h;rw[he.eval (x:=c) hb];rcases h with⟨rfl,h⟩|⟨rfl,h⟩
 ·exact⟨_,w,rfl,Ex he h⟩
 ·exact⟨_,w,rfl,Ex he h⟩
theorem fe{t:TypeId}{z:Value}(h:zeroOf P t=some z){Q:Value->World->Prop}(hq:Q z w):RT P (zeroValue t) w Q:=by
 unfold zeroOf at h;split at h
 ·rename_i i hi;exact .zeroValue hi h hq
 ·simp at h
theorem bL{t el:TypeId}(h:cj P t=some el):P.underlying t=some (.slice el):=by
 unfold cj at h;split at h
 ·rename_i e he;simp at h;rw[he,h]
 ·simp at h
theorem eL{t:TypeId}{ke:TypeId×TypeId}(h:mapElem P t=some ke):P.underlying t=some (.map ke.1 ke.2):=by
 unfold mapElem at h;split at h
 ·rename_i e he;simp at h;rw[he,<-h]
 ·simp at h
theorem nS{t:TypeId}{j:Nat}{f:Field}(h:sS P t j=some f):∃fs,P.underlying t=some (.struct fs)/\fs[j]? =some f:=by
 unfold sS at h;split at h
 ·rename_i fs Bs;exact⟨fs,Bs,h⟩
 ·simp at h
theorem vO(off:Nat):∀(vs:LV) (cells:LV) (j:Nat),off+j+vs.length<=cells.length->
 (vs.zipIdx j).foldl (λ(cs:Array Value) (x:Value×Nat)=>cs.setIfInBounds (off+x.2) x.1) cells.toArray=(cells.take (off+j)++vs++cells.drop (off+j+vs.length)).toArray
 |[],cells,j,_=>by simp
 |
  v::vs,cells,j,h=>by
  simp only[List.length_cons]at h;simp only[List.zipIdx_cons,List.foldl_cons,List.setIfInBounds_toArray];rw[vO off vs (cells.set (off+j) v) (j+1) (by simp;omega)]
  congr 1
  have h1:(cells.set (off+j) v).take (off+(j+1))=cells.take (off+j)++[v]:=by
   rw[<-Nat.add_assoc,List.take_add_one];simp[List.take_set_of_le,show off+j<cells.length by omega]
  have h2:(cells.set (off+j) v).drop (off+(j+1)+vs.length)=cells.drop (off+j+(vs.length+1)):=by
   rw[List.drop_set_of_lt (by omega)]
   congr 1;omega
  rw[h1,h2];simp
theorem Bt(off:Nat)(vs:Array Value)(cells:LV)(h:off+vs.size<=cells.length):
 vs.zipIdx.foldl (λ(cs:Array Value) (x:Value×Nat)=>cs.setIfInBounds (off+x.2) x.1) cells.toArray=(cells.take off++vs.toList++cells.drop (off+vs.size)).toArray:=by
 rw[<-Array.foldl_toList,Array.toList_zipIdx];have:=vO off vs.toList cells 0 (by simpa using h);simpa using this
theorem gV{place:Nat->Option (Nat×Nat)}:∀{ps:List (Nat×Value)} {cells out:LV},rN place cells ps=some out->Instr.fill place cells.toArray ps=some out.toArray
 |[],_,_,h=>by simp only[rN,jg]at h;rw[h];rfl
 |
  (i,v)::ps,cells,out,h=>by
  simp only[rN]at h;unfold Instr.fill;cases hp:place i with
  |none=>simp[hp]at h
  |
   some os=>
   obtain⟨off,size⟩:=os;simp only[hp]at h⊢;have one:∀v:Value,v.cells= #[v]->(if size=1/\off+1<=cells.length then rN place (cells.set off v) ps else none)=some out->
    (if v.cells.size≠size||off+v.cells.size>cells.toArray.size then none
      else Instr.fill place (v.cells.zipIdx.foldl (λcs (c,j)=>cs.setIfInBounds (off+j) c) cells.toArray) ps)=some out.toArray:=by
    clear h;intro v hv h9;by_cases hc:size=1/\off+1<=cells.length
    ·rw[jd hc]at h9
     rw[hv];obtain⟨rfl,h2⟩:=hc;have hn:¬(off+1>cells.length):=by omega
     have:=gV h9;simp[hn,this]
    ·rw[jc hc]at h9;simp at h9
   cases v with
   |
    agg cs=>
    simp only[Value.cells]at h⊢;by_cases hc:cs.size=size/\off+size<=cells.length
    ·rw[jd hc]at h
     obtain⟨rfl,h2⟩:=hc;have hn:¬(off+cs.size>cells.length):=by omega
     have h3:=gV h;have h4:=Bt off cs cells h2;simp only[ne_eq,not_true_eq_false,decide_false,List.size_toArray,hn,Bool.or_self,Bool.false_eq_true,if_false];rw[h4];exact h3
    ·rw[jc hc]at h;simp at h
   |_=>exact one _ rfl h
theorem pI:∀{l:List Field} {pl:List (Nat×Nat)} {Q:List (Nat×Nat)->World->Prop},placesOf P l=some pl->Q pl w->
 RT P (l.mapM λf=>do Pure.pure (f.offset,<-sizeOf f.type)) w Q
 |
  [],pl,Q,h,hq=>by
  simp only[placesOf,jg]at h;simp only[List.mapM_nil];exact .pure (h▸hq)
 |
  f::l,pl,Q,h,hq=>by
  simp only[placesOf]at h;cases hi:P.info? f.type with
  |none=>simp[hi]at h
  |
   some i=>
   cases hr:placesOf P l with
   |none=>simp[hi,hr]at h
   |
    some r=>
    simp only[hi,hr,jg]at h;simp only[List.mapM_cons];refine .bind (.bind (.sizeOf hi (.pure (.bind (pI hr (.pure ?_))))));exact h▸hq
theorem IM(z:LV)(n m:Nat)(hm:z.length=m):(Array.range (n*m)).map (λi=>z.toArray[i%m]!)=(zc z n).toArray:=by
 subst hm;apply Array.ext';simp only[Array.toList_map,Array.toList_range]
 induction n with
 |zero=>simp[zc]
 |
  succ n ih=>
  unfold zc at ih⊢;rw[Nat.succ_mul,List.range_add,jk,ih,List.replicate_succ',List.flatten_append];simp only[List.flatten_cons,List.flatten_nil,List.append_nil,List.map_map]
  congr 1
  apply List.ext_getElem (by simp);intro i h1 h2;simp only[je,List.length_range]at h1;simp[Nat.mul_add_mod,Nat.mod_eq_of_lt h1,h1,getElem!_pos,Nat.add_mul_mod_self_left,Nat.mul_comm n]
end
section
variable{P:Program}{w:World}
theorem RT.sliceBound{n:Int}{k:IntKind}{y:Nat}{c:BoundsCode}{Q:Nat->World->Prop}(h:0<=n/\n<=(y:Int))(hq:Q n.toNat w):RT P (Instr.sliceBound (.int k n) y c) w Q:=by
 unfold Instr.sliceBound;refine .bind (.pure ?_);simp only[h.1,h.2,and_self,if_true];exact .pure hq
theorem pJ{isS:Bool}{len cap:Nat}{lo hi mx:Option Int}{k1 k2 k3:IntKind}{Q:Nat×Nat×Nat->World->Prop}
 (h1:∀m,mx=some m->0<=m/\m<=(cap:Int))(h2:mx.isSome=true->hi.isSome=true)
 (h3:∀h,hi=some h->0<=h/\h<=((mx.map Int.toNat).getD cap:Int))
 (h4:∀l,lo=some l->0<=l/\l<=((hi.map Int.toNat).getD len:Int))
 (hq:Q ((lo.map Int.toNat).getD 0,(hi.map Int.toNat).getD len,(mx.map Int.toNat).getD cap) w):
 RT P (Instr.sliceBounds isS len cap (lo.map (.int k1)) (hi.map (.int k2)) (mx.map (.int k3))) w Q:=by
 unfold Instr.sliceBounds;cases mx with
 |
  none=>
  simp only[Option.map_none,Option.getD_none]at *;refine .bind (.pure ?_);cases hi with
  |
   none=>
   simp only[Option.map_none,Option.getD_none]at *;refine .bind (.pure ?_);cases lo with
   |none=>simp only[Option.map_none,Option.getD_none]at *;exact .bind (.pure (.pure hq))
   |some l=>simp only[Option.map_some,Option.getD_some]at *;exact .bind (.sliceBound (h4 l rfl) (.pure hq))
  |
   some h=>
   simp only[Option.map_some,Option.getD_some]at *;refine .bind (.sliceBound (h3 h rfl) ?_);cases lo with
   |none=>simp only[Option.map_none,Option.getD_none]at *;exact .bind (.pure (.pure hq))
   |some l=>simp only[Option.map_some,Option.getD_some]at *;exact .bind (.sliceBound (h4 l rfl) (.pure hq))
 |
  some m=>
  simp only[Option.map_some,Option.getD_some]at *;refine .bind (.sliceBound (h1 m rfl) ?_);cases hi with
  |none=>simp at h2
  |
   some h=>
   simp only[Option.map_some,Option.getD_some]at *;refine .bind (.sliceBound (h3 h rfl) ?_);cases lo with
   |none=>simp only[Option.map_none,Option.getD_none]at *;exact .bind (.pure (.pure hq))
   |some l=>simp only[Option.map_some,Option.getD_some]at *;exact .bind (.sliceBound (h4 l rfl) (.pure hq))
theorem y8{t el:TypeId}{i:TypeInfo}{s:Sl}{lo hi mx:Option Int}{k1 k2 k3:IntKind}{k:Sl->Pr}{Q:Value->World->Prop}(ht:P.underlying t=some (.slice el))(hi':P.info? el=some i)
 (h:slc i.size s lo hi mx k w)(hq:∀s,k s w->Q (.slice s.a s.len s.cap) w):
 RT P (Instr.sliceAt t (.slice s.a s.len s.cap) (lo.map (.int k1)) (hi.map (.int k2)) (mx.map (.int k3))) w Q:=by
 obtain⟨h1,h2,h3,h4,h5⟩:=h;unfold Instr.sliceAt;refine .bind (.underlying ht ?_);unfold Instr.slice;refine .bind (.underlying ht ?_);simp only;exact .bind (pJ h1 h2 h3 h4 (.bind (.sizeOf hi' (.pure (hq _ h5)))))
theorem xH{t:TypeId}{s:ByteArray}{lo hi:Option Int}{k1 k2:IntKind}{k:ByteArray->Pr}{Q:Value->World->Prop}(ht:P.underlying t=some .string)
 (h:qs s lo hi k w)(hq:∀s,k s w->Q (.string s) w):
 RT P (Instr.sliceAt t (.string s) (lo.map (.int k1)) (hi.map (.int k2)) none) w Q:=by
 obtain⟨h3,h4,h5⟩:=h;unfold Instr.sliceAt;refine .bind (.underlying ht ?_);unfold Instr.slice;refine .bind (.underlying ht ?_);simp only[Option.isSome_none,Bool.false_eq_true,if_false];exact .bind (pJ (mx:=none) (k3:=.i64) (by simp) (by simp) (by simpa using h3) h4 (.pure (hq _ h5)))
theorem ef{size n:Nat}{a:OA}{l c:Nat}{vs:LV}{Q:Array Value->World->Prop}(hl:a.isSome=true->vs.length=n*size)(hr:cm w a vs)(hq:Q vs.toArray w):
 RT P (Builtin.firstCells size n (.slice a l c)) w Q:=by
 cases a with
 |
  none=>
  obtain rfl:vs=[]:=hr;exact .pure hq
 |some b=>exact .loadCells (hl rfl) hr hq
theorem IN{t el:TypeId}{i:TypeInfo}{ts:Array TypeId}{ty:TypeId}{d s:Sl}{k:Pr}{Q:Value->World->Prop}(h0:ts[0]? =some t)(ht:P.underlying t=some (.slice el))(hi:P.info? el=some i)
 (h:mc i.size d s k w)(hq:∀w',k w'->Q (.int .i64 (Nat.min s.len d.len:Nat)) w'):
 RT P (Builtin.copy_ ts ty #[.slice d.a d.len d.cap,.slice s.a s.len s.cap]) w Q:=by
 obtain⟨vs,hl,hr,hs⟩:=h;unfold Builtin.copy_;simp only[h0,List.getElem?_toArray,List.getElem?_cons_zero,List.getElem?_cons_succ];refine .bind (.underlying ht ?_);refine .bind (.pure ?_);refine .bind (.sizeOf hi ?_);refine .bind (ef hl hr ?_);cases hd:d.a with
 |
  none=>
  simp only[hd]at hs⊢;exact .pure (hq _ hs)
 |
  some b=>
  rw[hd]at hs;simp only;refine .bind (.storeCells (l:=vs) (i:=0) (a:=b) (f:=k) (by simpa[KB,Addr.add]using hs) λ_ h=>.pure (hq _ h))
theorem gm(z:LV)(n:Nat):Builtin.zeroCells z.toArray n=(zc z n).toArray:=by
 unfold Builtin.zeroCells;simpa using IM z n z.length rfl
theorem FV{t el:TypeId}{i:TypeInfo}{z:Value}{ts:Array TypeId}{ty:TypeId}{s:Sl}{k:Pr}{Q:Value->World->Prop}(h0:ts[0]? =some t)(ht:P.underlying t=some (.slice el))(hi:P.info? el=some i)(hz:i.zero=some z)
 (h:PN z.cells.toList s k w)(hq:∀w',k w'->Q (.tuple #[]) w'):RT P (Builtin.clear_ ts ty #[.slice s.a s.len s.cap]) w Q:=by
 unfold Builtin.clear_;simp only[h0,List.getElem?_toArray,List.getElem?_cons_zero];refine .bind (.underlying ht ?_);obtain⟨a,n,c⟩:=s;unfold PN at h;dsimp only at h⊢;cases a with
 |none=>refine .bind (.pure (.pure (hq _ ?_)));cases n<;>exact h
 |
  some b=>
  cases n with
  |zero=>exact .bind (.pure (.pure (hq _ h)))
  |
   succ n=>
   refine .bind (.zeroValue hi hz ?_);rw[show Builtin.zeroCells z.cells (n+1)=(zc z.cells.toList (n+1)).toArray from gm z.cells.toList (n+1)];refine .bind ?_;exact .storeCells (l:=zc z.cells.toList (n+1)) (i:=0) (a:=b) (f:=k) (by simpa[KB,Addr.add]using h) λ_ h=>.pure (hq _ h)
theorem pK{a:Addr}:∀{l:LV} {i:Nat},c6 w a i l->c6 w.drew a i l
 |[],_,_=>trivial
 |_::_,_,h=>⟨h.1,pK h.2⟩
theorem jW{a:OA}{l:LV}(h:cm w a l):cm w.drew a l:=by
 cases a with
 |none=>exact h
 |some b=>exact pK h
theorem RT.xI{α:Type}{a b:α}{Q:α->World->Prop}(h:a=b)(hq:Q b w):RT P (Pure.pure a) w Q:=⟨b,w,by rw[h];rfl,hq⟩
theorem Bu{t t2 el:TypeId}{d2:TypeDesc}{i:TypeInfo}{z:Value}{ts:Array TypeId}{ty:TypeId}{s x:Sl}{k:Sl->Pr}{Q:Value->World->Prop}(h0:ts[0]? =some t)(h1:ts[1]? =some t2)(h2:P.underlying t2=some d2)
 (h3:ir P t2=false)(ht:P.underlying t=some (.slice el))(hi:P.info? el=some i)(hz:i.zero=some z)(hzs:z.cells.size=i.size)
 (h:app el i.size i.bytes z.cells.toList s x k w)(hq:∀s w',k s w'->Q (.slice s.a s.len s.cap) w'):
 RT P (Builtin.append_ ts ty #[.slice s.a s.len s.cap,.slice x.a x.len x.cap]) w Q:=by
 obtain⟨new,hl,hr,hA,hB⟩:=h;unfold Builtin.append_;simp only[h0,h1,List.getElem?_toArray,List.getElem?_cons_zero,List.getElem?_cons_succ];refine .bind (.underlying ht ?_);refine .bind (.sizeOf hi ?_);refine .bind (.underlying h2 (.bind (RT.xI (b:=false) (by cases d2<;>simp_all[ir]) ?_)));simp only[Bool.false_eq_true,if_false,Bool.not_false,if_true];refine .bind (.pure ?_);by_cases hc:s.len+x.len<=s.cap
 ·rw[jd hc]
  refine .bind (ef hl hr ?_);have hs:=hA hc;cases hd:s.a with
  |
   none=>
   simp only[hd]at hs⊢;have:=hq _ _ hs;exact .pure this
  |
   some b=>
   rw[hd]at hs;simp only;refine .bind (.storeCells (l:=new) (i:=0) hs λ_ h=>?_);have:=hq _ _ h;exact .pure this
 ·rw[jc hc]
  obtain⟨old,RB,M9,hb0,hcap,yY,hk⟩:=hB (by omega);have hn:¬((s.len+x.len:Nat):Int)>IntKind.i64.max:=by
   simp only[IntKind.max,IntKind.signed,IntKind.bits];simp;omega
  refine .bind (.typeInfo hi ?_);rw[jc (λh=>hn h.1)];refine .bind (.typeInfo hi ?_);rw[jc (Nat.not_lt.2 hcap)];refine .bind ⟨_,_,by rw[run_choose];simp only[Question.forced,Bool.false_eq_true,if_false];rfl,?_⟩;simp only[Question.cut];generalize FN:w.tape w.drawn (Question.appendCap (s.len+x.len) s.cap el)%(2^63-(s.len+x.len))=tk;have RC:tk<2^63-(s.len+x.len):=by rw[<-FN];exact Nat.mod_lt _ (by omega)
  have hk':=hk (s.len+x.len+tk) (by omega) (by omega);refine .bind (.typeInfo hi (.bind ⟨(),_,run_askRoom _ _ _,?_⟩));refine .bind (ef (w:=w.drew) RB (jW M9) (.bind (ef (w:=w.drew) hl (jW hr) (.bind (.zeroValue hi hz ?_)))));have Ey:=gm z.cells.toList (s.len+x.len+tk-(s.len+x.len));simp only[Array.toArray_toList]at Ey;rw[Ey];refine .bind (.bind (.newObj (.pure (.pure ?_))));have:=hq _ _ hk';simpa using this
theorem mj{n:Nat}{x:ByteArray}{Q:Array Value->World->Prop}{w:World}(hq:Q (M4 x).toArray w):RT P (Builtin.firstCells n x.size (.string x)) w Q:=by
 unfold Builtin.firstCells;refine .pure ?_;have:(x.extract 0 x.size).data.map (λb=>Value.int .u8 b.toNat)=(M4 x).toArray:=by
  unfold M4;rw[ByteArray.data_extract];have:x.size=x.data.size:=rfl;rw[this,Array.extract_size];apply Array.ext';simp
 rw[this];exact hq
theorem IP{t t2 el:TypeId}{d2:TypeDesc}{i:TypeInfo}{z:Value}{ts:Array TypeId}{ty:TypeId}{s:Sl}{x:ByteArray}{k:Sl->Pr}{Q:Value->World->Prop}(h0:ts[0]? =some t)(h1:ts[1]? =some t2)(h2:P.underlying t2=some d2)
 (h3:ir P t2=false)(ht:P.underlying t=some (.slice el))(hi:P.info? el=some i)(hz:i.zero=some z)(hzs:z.cells.size=i.size)
 (h:FU el i.size i.bytes z.cells.toList s x k w)(hq:∀s w',k s w'->Q (.slice s.a s.len s.cap) w'):
 RT P (Builtin.append_ ts ty #[.slice s.a s.len s.cap,.string x]) w Q:=by
 obtain⟨hA,hB⟩:=h;unfold Builtin.append_;simp only[h0,h1,List.getElem?_toArray,List.getElem?_cons_zero,List.getElem?_cons_succ];refine .bind (.underlying ht ?_);refine .bind (.sizeOf hi ?_);refine .bind (.underlying h2 (.bind (RT.xI (b:=false) (by cases d2<;>simp_all[ir]) ?_)));simp only[Bool.false_eq_true,if_false,Bool.not_false,if_true];refine .bind (.pure ?_);by_cases hc:s.len+x.size<=s.cap
 ·rw[jd hc]
  refine .bind (mj ?_);have hs:=hA hc;cases hd:s.a with
  |
   none=>
   simp only[hd]at hs⊢;have:=hq _ _ hs;exact .pure this
  |
   some b=>
   rw[hd]at hs;simp only;refine .bind (.storeCells (l:=M4 x) (i:=0) hs λ_ h=>?_);have:=hq _ _ h;exact .pure this
 ·rw[jc hc]
  obtain⟨old,RB,M9,hb0,hcap,yY,hk⟩:=hB (by omega);have hn:¬((s.len+x.size:Nat):Int)>IntKind.i64.max:=by
   simp only[IntKind.max,IntKind.signed,IntKind.bits];simp;omega
  refine .bind (.typeInfo hi ?_);rw[jc (λh=>hn h.1)];refine .bind (.typeInfo hi ?_);rw[jc (Nat.not_lt.2 hcap)];refine .bind ⟨_,_,by rw[run_choose];simp only[Question.forced,Bool.false_eq_true,if_false];rfl,?_⟩;simp only[Question.cut];generalize FN:w.tape w.drawn (Question.appendCap (s.len+x.size) s.cap el)%(2^63-(s.len+x.size))=tk;have RC:tk<2^63-(s.len+x.size):=by rw[<-FN];exact Nat.mod_lt _ (by omega)
  have hk':=hk (s.len+x.size+tk) (by omega) (by omega);refine .bind (.typeInfo hi (.bind ⟨(),_,run_askRoom _ _ _,?_⟩));refine .bind (ef (w:=w.drew) RB (jW M9) (.bind (mj (.bind (.zeroValue hi hz ?_)))));have Ey:=gm z.cells.toList (s.len+x.size+tk-(s.len+x.size));simp only[Array.toArray_toList]at Ey;rw[Ey];refine .bind (.bind (.newObj (.pure (.pure ?_))));have:=hq _ _ hk';simpa using this
theorem IQ{t t2 el:TypeId}{kd:IntKind}{i:TypeInfo}{z:Value}{ts:Array TypeId}{ty:TypeId}{s:Sl}{kx:IntKind}{m:Int}{k:Sl->Pr}{Q:Value->World->Prop}(h0:ts[0]? =some t)(h1:ts[1]? =some t2)(h2:P.underlying t2=some (.int kd))
 (ht:P.underlying t=some (.slice el))(hi:P.info? el=some i)(hz:i.zero=some z)(hzs:z.cells.size=i.size)
 (h:pH el i.size i.bytes z.cells.toList s m k w)(hq:∀s w',k s w'->Q (.slice s.a s.len s.cap) w'):
 RT P (Builtin.append_ ts ty #[.slice s.a s.len s.cap,.int kx m]) w Q:=by
 obtain⟨hm0,hmb,hmw,hA,hB⟩:=h;unfold Builtin.append_;simp only[h0,h1,List.getElem?_toArray,List.getElem?_cons_zero,List.getElem?_cons_succ];refine .bind (.underlying ht ?_);refine .bind (.sizeOf hi ?_);refine .bind (.underlying h2 (.bind (RT.xI (b:=true) rfl ?_)));rw[jd rfl];have RD:∀(w:World) (Q:Array Value->World->Prop),Q (zc z.cells.toList m.toNat).toArray w->
  RT P (if(!true)=true then Builtin.firstCells i.size m.toNat (Value.int kx m)else if m.toNat*i.size=0 then Pure.pure #[]else do Pure.pure (Builtin.zeroCells (<-zeroValue el).cells m.toNat)) w Q:=by
  intro w Q h;rw[jc (by simp)];have Ey:=gm z.cells.toList m.toNat;simp only[Array.toArray_toList]at Ey;by_cases h9:m.toNat*i.size=0
  ·rw[jd h9]
   have:zc z.cells.toList m.toNat=[]:=by
    apply jy;simp[zc,hzs,h9]
   rw[this]at h;exact .pure h
  ·rw[jc h9]
   refine .bind (.zeroValue hi hz (.pure ?_));rw[Ey];exact h
 refine RT.bind (RT.pure ?_);rw[hmw,jc (by omega)];refine .bind (.typeInfo hi ?_);rw[jc (by omega)];refine RT.bind (RT.pure ?_);by_cases hc:s.len+m.toNat<=s.cap
 ·rw[jd hc]
  refine .bind (RD _ _ ?_);have hs:=hA hc;cases hd:s.a with
  |
   none=>
   simp only[hd]at hs⊢;have:=hq _ _ hs;exact .pure this
  |
   some b=>
   rw[hd]at hs;simp only;refine .bind (.storeCells (l:=zc z.cells.toList m.toNat) (i:=0) hs λ_ h=>?_);have:=hq _ _ h;exact .pure this
 ·rw[jc hc]
  obtain⟨old,RB,M9,hcap,yY,hk⟩:=hB (by omega);have hn:¬((s.len+m.toNat:Nat):Int)>IntKind.i64.max:=by
   simp only[IntKind.max,IntKind.signed,IntKind.bits];simp;omega
  refine .bind (.typeInfo hi ?_);rw[jc (λh=>hn h.1)];refine .bind (.typeInfo hi ?_);rw[jc (Nat.not_lt.2 hcap)];refine .bind ⟨_,_,by rw[run_choose];simp only[Question.forced,Bool.false_eq_true,if_false];rfl,?_⟩;simp only[Question.cut];generalize FN:w.tape w.drawn (Question.appendCap (s.len+m.toNat) s.cap el)%(2^63-(s.len+m.toNat))=tk;have RC:tk<2^63-(s.len+m.toNat):=by rw[<-FN];exact Nat.mod_lt _ (by omega)
  have hk':=hk (s.len+m.toNat+tk) (by omega) (by omega);refine .bind (.typeInfo hi (.bind ⟨(),_,run_askRoom _ _ _,?_⟩));refine .bind (ef (w:=w.drew) RB (jW M9) (.bind (RD _ _ (.bind (.zeroValue hi hz ?_)))));have Ey:=gm z.cells.toList (s.len+m.toNat+tk-(s.len+m.toNat));simp only[Array.toArray_toList]at Ey;rw[Ey];refine .bind (.bind (.newObj (.pure (.pure ?_))));have:=hq _ _ hk';simpa using this
end
section
variable{P:Program}{w:World}
theorem Lm{t el:TypeId}{i:TypeInfo}{z:Value}{l c:Int}{k1 k2:IntKind}{k:Sl->Pr}{Q:Value->World->Prop}(ht:P.underlying t=some (.slice el))(hi:P.info? el=some i)
 (hz:i.zero=some z)(hzs:z.cells.size=i.size)(hz0:i.size≠0)
 (h:xd el i.bytes z.cells.toList l c k w)(hq:∀s w',k s w'->Q (.slice s.a s.len s.cap) w'):
 RT P (Instr.makeSlice t (.int k1 l) (.int k2 c)) w Q:=by
 obtain⟨h1,h2,h3,h4,h5⟩:=h;have kX:IntKind.i64.wrap l=l:=by simp[IntKind.wrap,IntKind.signed,IntKind.bits,Int.bmod_eq_of_le];omega
 have ZP:IntKind.i64.wrap c=c:=by simp[IntKind.wrap,IntKind.signed,IntKind.bits,Int.bmod_eq_of_le];omega
 unfold Instr.makeSlice;refine .bind (.underlying ht ?_);simp only[asInt,asIntOf,pure_bind];refine .bind (.typeInfo hi ?_);rw[kX,ZP];have hc:¬((decide (c<0\/(i.bytes:Int)*c>2^48)=true\/l<0)\/l>c):=by
  simp;omega
 simp only[Bool.or_eq_true,jb];rw[jc (by simpa using hc)];refine .bind ⟨(),_,run_askRoom _ _ _,.bind (.sizeOf hi ?_)⟩;by_cases h0:c.toNat*i.size=0
 ·rw[jd h0]
  have hc0:c.toNat=0:=(Nat.mul_eq_zero.1 h0).resolve_right hz0;have he:(zc z.cells.toList c.toNat).toArray= #[]:=by simp[hc0,zc]
  rw[he]at h5;have e0:∀g:Nat->Value,Array.map g (Array.range 0)= #[]:=λ_=>by simp
  rw[h0,e0];exact .bind (.bind (.newObj (.pure (.pure (hq _ _ h5)))))
 ·rw[jc h0]
  have he:=IM z.cells.toList c.toNat i.size (by simpa using hzs);simp only[Array.toArray_toList]at he;rw[<-he]at h5;refine .bind (.zeroValue hi hz ?_);rw[hzs];exact .bind (.bind (.newObj (.pure (.pure (hq _ _ h5)))))
theorem RT.getObj{r:Nat}{o:Obj}{Q:Obj->World->Prop}(h:w.heap[r]? =some o)(hc:∀c e f,o≠.cells c e f)(hq:Q o w):RT P (Go.getObj r) w Q:=by
 refine⟨o,w,?_,hq⟩;simp only[Go.getObj,Sem.run,h]
 try(cases o<;>first|rfl|exact absurd rfl (hc _ _ _))
theorem RT.setObj{r:Nat}{o o':Obj}{Q:Unit->World->Prop}(h:w.heap[r]? =some o)(hc:∀c e f,o≠.cells c e f)(hq:Q () {w with heap:=w.heap.setIfInBounds r o'}):RT P (Go.setObj r o') w Q:=by
 refine⟨(),_,?_,hq⟩;simp only[Go.setObj,Sem.run,h]
 try(cases o<;>first|rfl|exact absurd rfl (hc _ _ _))
theorem RT.checkKey{emp:Bool}{n:Nat}{t:TypeId}{d:TypeDesc}{key:Value}{Q:Unit->World->Prop}(ht:P.underlying t=some d)(hs:eM d=true)(hq:Q () w):RT P (Instr.checkKey emp (n+1) t key) w Q:=by
 unfold Instr.checkKey;refine .bind (.underlying ht ?_);cases d<;>simp only[eM,Bool.false_eq_true]at hs<;>exact .pure hq
theorem RT.findKey{t:TypeId}{d:TypeDesc}{key:Value}{es:List MapEntry}{res:Option (Nat×Value)}{Q:Option (Nat×Value)->World->Prop}(ht:P.underlying t=some d)
 (hf:Instr.findNow d key es 0=some res)(hq:Q res w):RT P (Instr.findKey t key es) w Q:=by
 unfold Instr.findKey;refine .bind (.underlying ht ?_);rw[hf];exact .pure hq
theorem Bv{t:TypeId}{ke:TypeId×TypeId}{kd:TypeDesc}{r:Option Nat}{key zero:Value}{sh:CS}{ok:Bool}{k:dZ sh->Bool->Pr}{Q:Value->World->Prop}
 (ht:P.underlying t=some (.map ke.1 ke.2))(hk:P.underlying ke.1=some kd)(hs:eM kd=true)(hz:zeroOf P ke.2=some zero)(h:iB kd r key sh zero k w)
 (hq:∀p b,k p b w->Q (if ok then .tuple #[c7 sh p,.bool b]else c7 sh p) w):RT P (Instr.lookup t (.map r) key ok) w Q:=by
 obtain⟨es,res,p,hm,hf,hv,hkk⟩:=h;unfold Instr.lookup;refine .bind (.underlying ht ?_);dsimp only;cases r with
 |
  none=>
  obtain rfl:es= #[]:=hm;refine .bind (.pure ?_);refine .bind (.checkKey hk hs ?_);refine .bind (.findKey hk hf ?_);cases res with
  |
   none=>
   simp only[Option.map_none,Option.getD_none]at hv;refine .bind (fe hz (.bind (.pure ?_)));rw[hv];exact .pure (hq p false (by simpa using hkk))
  |
   some iv=>
   simp only[Option.map_some,Option.getD_some]at hv;refine .bind (.pure ?_);simp only[hv];exact .pure (hq p true (by simpa using hkk))
 |
  some b=>
  obtain⟨clock,hb⟩:=hm;refine .bind (.getObj hb (by simp) (.bind (.pure ?_)));refine .bind (.checkKey hk hs ?_);refine .bind (.findKey hk hf ?_);cases res with
  |
   none=>
   simp only[Option.map_none,Option.getD_none]at hv;refine .bind (fe hz (.bind (.pure ?_)));rw[hv];exact .pure (hq p false (by simpa using hkk))
  |
   some iv=>
   simp only[Option.map_some,Option.getD_some]at hv;refine .bind (.pure ?_);simp only[hv];exact .pure (hq p true (by simpa using hkk))
theorem Bw{t:TypeId}{ke:TypeId×TypeId}{kd:TypeDesc}{r:Option Nat}{key v:Value}{k:Pr}{Q:Unit->World->Prop}
 (ht:P.underlying t=some (.map ke.1 ke.2))(hk:P.underlying ke.1=some kd)(hs:eM kd=true)(h:iU kd r key v k w)
 (hq:∀w',k w'->Q () w'):RT P (Instr.mapUpdate t (.map r) key v) w Q:=by
 obtain⟨b,es,clock,res,rfl,hb,hf,h⟩:=h;unfold Instr.mapUpdate;refine .bind (.underlying ht ?_);refine .bind (.getObj hb (by simp) ?_);refine .bind (.checkKey hk hs ?_);refine .bind (.findKey hk hf ?_);cases res with
 |none=>exact .setObj hb (by simp) (hq _ h)
 |
  some iv=>
  obtain⟨h1,h2⟩:=h;refine .bind ?_;unfold Instr.keyThatStays;rw[jd h1];exact .pure (.setObj hb (by simp) (hq _ h2))
theorem Bx{t:TypeId}{ke:TypeId×TypeId}{kd:TypeDesc}{ts:Array TypeId}{ty:TypeId}{r:Option Nat}{key:Value}{k:Pr}{Q:Value->World->Prop}(h0:ts[0]? =some t)
 (ht:P.underlying t=some (.map ke.1 ke.2))(hk:P.underlying ke.1=some kd)(hs:eM kd=true)(h:qD kd r key k w)
 (hq:∀w',k w'->Q (.tuple #[]) w'):RT P (Builtin.delete_ ts ty #[.map r,key]) w Q:=by
 obtain⟨b,es,clock,res,rfl,hb,hf,h⟩:=h;unfold Builtin.delete_;simp only[h0,List.getElem?_toArray,List.getElem?_cons_zero,List.getElem?_cons_succ];refine .bind (.underlying ht ?_);refine .bind (.getObj hb (by simp) ?_);refine .bind (.checkKey hk hs ?_);refine .bind (.findKey hk hf ?_);cases res with
 |none=>exact .bind (.setObj hb (by simp) (.pure (hq _ h)))
 |some iv=>exact .bind (.setObj hb (by simp) (.pure (hq _ h)))
theorem By{t:TypeId}{ke:TypeId×TypeId}{ts:Array TypeId}{ty:TypeId}{r:Option Nat}{k:Int->Pr}{Q:Value->World->Prop}(h0:ts[0]? =some t)
 (ht:P.underlying t=some (.map ke.1 ke.2))(h:mO r k w)
 (hq:∀n,k n w->Q (.int .i64 n) w):RT P (Builtin.len_ ts ty #[.map r]) w Q:=by
 obtain⟨es,hm,h⟩:=h;unfold Builtin.len_;simp only[h0,List.getElem?_toArray,List.getElem?_cons_zero];refine .bind (.underlying ht ?_);cases r with
 |
  none=>
  obtain rfl:es= #[]:=hm;exact .pure (hq _ h)
 |
  some b=>
  obtain⟨clock,hb⟩:=hm;exact .bind (.getObj hb (by simp) (.pure (hq _ h)))
theorem IT(l:List Int):∀(s:ByteArray),
 RT P (forIn (m:=Sem) (l.map (Value.int .u8)).toArray s λc r=>do
  let .int .u8 n:=c|stuck "bytesToString: byte expected"
  Pure.pure (ForInStep.yield (r.push (UInt8.ofNat n.toNat)))) w (λr w'=>w'=w/\r=⟨s.data++(l.map λn=>UInt8.ofNat n.toNat).toArray⟩):=by
 induction l with
 |nil=>intro s;simp;exact .pure ⟨rfl,by simp⟩
 |
  cons n l ih=>
  intro s;simp only[List.map_cons,List.forIn_toArray,List.forIn_cons]at ih⊢;refine .bind (.pure ?_);refine(ih _).mono ?_;rintro r w' ⟨rfl,rfl⟩;refine⟨rfl,?_⟩;simp[ByteArray.push]
theorem Ez{a:OA}{l c:Nat}{k:ByteArray->Pr}{Q:Value->World->Prop}(h:N5 ⟨a,l,c⟩ k w)(hq:∀s,k s w->Q (.string s) w):
 RT P (Conv.bytesToString (.slice a l c)) w Q:=by
 obtain⟨ns,hl,hr,hk⟩:=h;unfold Conv.bytesToString;cases a with
 |
  none=>
  have:ns.map (Value.int .u8)=[]:=hr;obtain rfl:ns=[]:=by simpa using this
  exact .pure (hq _ hk)
 |
  some b=>
  have hl':ns.length=l:=hl rfl;refine .bind (.loadCells (l:=ns.map (.int .u8)) (by simpa using hl') hr ?_);refine .bind ((IT ns ByteArray.empty).mono ?_);rintro r w' ⟨rfl,rfl⟩;refine .pure (hq _ ?_);have he:ByteArray.empty.data= #[]:=rfl;rw[he,Array.empty_append];exact hk
theorem Bz{t:TypeId}{d:TypeDesc}{x y:Value}{r:Prop×Bool}(hd:P.underlying t=some d)(h:Bq d x y=some r)(h1:r.1):(Op.equal t x y).run P w=.ok r.2 w:=by
 unfold Op.equal;change(Op.equalIn (9999+1) t x y).run P w=_;have key:RT P (Op.equalIn (9999+1) t x y) w (λb w'=>b=r.2/\w'=w):=by
  unfold Op.equalIn;refine .bind (.underlying hd ?_);unfold Bq at h;split at h<;>first
   |(simp at h;done)
   |(
    simp only[jg]at h
    subst h
    first
     |exact .pure ⟨rfl,rfl⟩
     |(rename_i p;cases p<;>exact .pure ⟨rfl,rfl⟩)
     |(rename_i a _ _ _ _;cases a<;>exact .pure ⟨rfl,rfl⟩)
     |(
      rcases h1 with h1|h1
      ·cases x<;>first|exact(h1:False).elim|exact .pure ⟨rfl,rfl⟩
      ·subst h1;exact .pure ⟨rfl,rfl⟩))
 obtain⟨v,w',h3,rfl,rfl⟩:=key;exact h3
theorem Ln{t:TypeId}{x y:Value}{f:Bool->Pr}{Q:Bool->World->Prop}(h:N4 P t x y f w)(hq:∀b,f b w->Q b w):RT P (Op.equal t x y) w Q:=by
 obtain⟨d,hd,h⟩:=ai h;obtain⟨r,hr,h1,h2⟩:=ai h;exact⟨_,w,Bz hd hr h1,hq _ h2⟩
end
section
variable{P:Program}{e:Env}{a:Act}{w:World}{k:EV->Pr}
theorem Lo{op:UnOp}{x:EV}(h:K0 op x k w):∃v u,x.v? =some v/\(Op.unary op v).run P w=.ok u w/\∃y,Good y u/\k y w:=by
 unfold K0 at h;split at h
 ·exact⟨_,_,rfl,rfl,_,λu hu=>by simp[EV.v?]at hu;exact hu.symm,h⟩
 ·exact⟨_,_,rfl,rfl,_,Good.val _,h⟩
 ·exact⟨_,_,rfl,rfl,_,Good.val _,h⟩
 ·exact⟨_,_,rfl,rfl,_,Good.val _,h⟩
 ·exact h.elim
theorem FW{s d:TypeId}{x:Value}(h:rC P s d x k w):RT P (convert s d x) w λv w'=>k (.val v) w':=by
 obtain⟨sd,hs,h⟩:=ai h;obtain⟨dd,hd,h9⟩:=ai h;clear h;have h:=h9;clear h9;split at h
 ·unfold convert
  refine .bind (.underlying hs (.bind (.underlying hd ?_)));exact⟨_,w,rfl,h⟩
 ·unfold convert
  refine .bind (.underlying hs (.bind (.underlying hd ?_)));exact .pure h
 ·rename_i e0 e a0 l0 c0
  rcases aO h with⟨he,h⟩|⟨_,h⟩
  rotate_left
  ·exact h.elim
  obtain⟨u,hu,h9⟩:=ai h;clear h;have h:=h9;clear h9;split at h
  ·obtain⟨ad,rfl,E,n,YU,h⟩:=eZ.1 h
   unfold convert;refine .bind (.underlying hs (.bind (.underlying hd ?_)));refine .bind (.underlying hu ?_);rw[he];refine .bind ⟨(),_,?_,.pure h⟩;simp[markStringish,YU,go_sem]
  ·exact h.elim
 ·rename_i e s0 _
  obtain⟨u,hu,h9⟩:=ai h;clear h;have h:=h9;clear h9;split at h
  ·have hr:=Lib.run_convert_string_bytes (P:=P) w _ _ e s0 hs hd hu
   obtain⟨hlt,h⟩:=h;have hc:s0.size<=grownCap w s0.size 0 e/\grownCap w s0.size 0 e<2^63:=by
    unfold grownCap Question.cut;have:=Nat.mod_lt (w.tape w.drawn (.appendCap s0.size 0 e)) (show 0<2^63-s0.size by omega);constructor
    ·exact Nat.le_add_right _ _
    ·show s0.size+_%_<_
     omega
   exact⟨_,_,hr,h _ hc.1 hc.2⟩
  ·exact h.elim
 ·unfold convert
  refine .bind (.underlying hs (.bind (.underlying hd ?_)));obtain⟨u,hu,h9⟩:=ai h;clear h;have h:=h9;clear h9;split at h
  ·rename_i a _ _ _ _
   cases a with
   |none=>exact .bind (.underlying hu (Ez h λ_ h=>h))
   |some b=>exact .bind (.underlying hu (Ez h λ_ h=>h))
  ·exact h.elim
 ·exact h.elim
theorem Lp{l:LV}{f:Value->Pr}{ts:Array TypeId}{ty:TypeId}(h:vl l f w):RT P (Builtin.min_ ts ty l.toArray) w λv w'=>f v w':=by
 unfold vl at h;split at h
 ·exact⟨_,w,rfl,h⟩
 ·exact⟨_,w,rfl,h⟩
 ·exact h.elim
theorem Lq{l:LV}{f:Value->Pr}{ts:Array TypeId}{ty:TypeId}(h:vm l f w):RT P (Builtin.max_ ts ty l.toArray) w λv w'=>f v w':=by
 unfold vm at h;split at h
 ·exact⟨_,w,rfl,h⟩
 ·exact⟨_,w,rfl,h⟩
 ·exact h.elim
theorem rG{b:Builtin}{ts:Array TypeId}{ty:TypeId}{cs:Array Bool}{args:LV}(h:eF P b ts.toList args k w):
 RT P (builtin b ts ty cs args.toArray) w (NX k):=by
 unfold eF at h;split at h
 ·obtain⟨t,ht,h⟩:=ai h
  obtain⟨el,hel,h⟩:=ai h;refine RT.value' ?_;unfold Builtin.len_;simp only[show ts[0]? =some t by simpa using ht,List.getElem?_toArray,List.getElem?_cons_zero];exact .bind (.underlying (bL hel) (.pure h))
 ·obtain⟨t,ht,h⟩:=ai h
  obtain⟨d,hd,h9⟩:=ai h;clear h;refine RT.value' ?_;unfold Builtin.len_;simp only[show ts[0]? =some t by simpa using ht,List.getElem?_toArray,List.getElem?_cons_zero];refine .bind (.underlying hd ?_);cases d<;>first|exact h9.elim|exact .pure h9
 ·obtain⟨t,ht,h⟩:=ai h
  obtain⟨el,hel,h⟩:=ai h;exact RT.value' (By (by simpa using ht) (eL hel) h λ_ h=>h)
 ·obtain⟨t,ht,h⟩:=ai h
  obtain⟨el,hel,h⟩:=ai h;refine RT.value' ?_;unfold Builtin.cap_;simp only[show ts[0]? =some t by simpa using ht,List.getElem?_toArray,List.getElem?_cons_zero];exact .bind (.underlying (bL hel) (.pure h))
 ·exact RT.value' (Lp h)
 ·exact RT.value' (Lq h)
 ·rename_i da dl dc sa sl sc
  obtain⟨t,ht,h⟩:=ai h;obtain⟨el,hel,h⟩:=ai h;obtain⟨i,hi,h⟩:=ai h;exact RT.value' (IN (d:=⟨da,dl,dc⟩) (s:=⟨sa,sl,sc⟩) (by simpa using ht) (bL hel) hi h λ_ h=>h)
 ·rename_i a l c
  obtain⟨t,ht,h⟩:=ai h;obtain⟨el,hel,h⟩:=ai h;obtain⟨i,hi,h⟩:=ai h;obtain⟨z,hz,h⟩:=ai h;exact RT.value' (FV (s:=⟨a,l,c⟩) (by simpa using ht) (bL hel) hi hz h λ_ h=>h)
 ·rename_i da dl dc sa sl sc
  obtain⟨t,ht,h⟩:=ai h;obtain⟨t2,ht2,h⟩:=ai h;rcases aO h with⟨_,h⟩|⟨hint,h⟩
  ·exact h.elim
  obtain⟨d2,Ig,h⟩:=ai h;obtain⟨el,hel,h⟩:=ai h;obtain⟨i,hi,h⟩:=ai h;obtain⟨z,hz,h⟩:=ai h;obtain⟨hzs,h⟩:=dL h;exact RT.value' (Bu (s:=⟨da,dl,dc⟩) (x:=⟨sa,sl,sc⟩) (by simpa using ht) (by simpa using ht2) Ig hint (bL hel) hi hz hzs h λ_ _ h=>h)
 ·rename_i da dl dc x0
  obtain⟨t,ht,h⟩:=ai h;obtain⟨t2,ht2,h⟩:=ai h;rcases aO h with⟨_,h⟩|⟨hint,h⟩
  ·exact h.elim
  obtain⟨d2,Ig,h⟩:=ai h;obtain⟨el,hel,h⟩:=ai h;obtain⟨i,hi,h⟩:=ai h;obtain⟨z,hz,h⟩:=ai h;obtain⟨hzs,h⟩:=dL h;exact RT.value' (IP (s:=⟨da,dl,dc⟩) (x:=x0) (by simpa using ht) (by simpa using ht2) Ig hint (bL hel) hi hz hzs h λ_ _ h=>h)
 ·rename_i da dl dc kx m
  obtain⟨t,ht,h⟩:=ai h;obtain⟨t2,ht2,h⟩:=ai h;rcases aO h with⟨hint,h⟩|⟨_,h⟩
  rotate_left
  ·exact h.elim
  obtain⟨el,hel,h⟩:=ai h;obtain⟨i,hi,h⟩:=ai h;obtain⟨z,hz,h⟩:=ai h;obtain⟨hzs,h⟩:=dL h;obtain⟨kd,Ol⟩:∃kd,P.underlying t2=some (.int kd):=by
   unfold ir at hint;split at hint
   ·rename_i kd heq;exact⟨kd,heq⟩
   ·cases hint
  exact RT.value' (IQ (s:=⟨da,dl,dc⟩) (by simpa using ht) (by simpa using ht2) Ol (bL hel) hi hz hzs h λ_ _ h=>h)
 ·obtain⟨t,ht,h⟩:=ai h
  obtain⟨ke,Fi,h⟩:=ai h;obtain⟨kd,Ol,h⟩:=ai h;rcases aO h with⟨hs,h⟩|⟨_,h⟩
  ·exact RT.value' (Bx (by simpa using ht) (eL Fi) Ol hs h λ_ h=>h)
  ·exact h.elim
 ·exact h.elim
theorem qE(he:Ag e a){x:Option Operand}{f:Option Int->Pr}(h:MR (x.map (Env.ev e)) f w):∃(n:Option Int) (kd:IntKind),x.map a.eval=n.map (.int kd)/\f n w:=by
 cases x with
 |none=>exact⟨none,.i64,rfl,h⟩
 |
  some x=>
  have h1:=eS he (x:=x) h;obtain⟨kd,n,hn,h2⟩:=gl h1;exact⟨some n,kd,by simp[hn],h2⟩
theorem um{f:FuncId}(h:eE P f=true):∃fn,P.funcs[f]? =some fn/\fn.body.isNone=false/\(fn.name== "runtime.NumGoroutine")=false:=by
 unfold eE at h;split at h
 ·rename_i fn hfn
  simp only[kf,Bool.not_eq_true']at h;exact⟨fn,hfn,by cases hb:fn.body<;>simp_all,h.2⟩
 ·simp at h
theorem fc{f:FuncId}{args:Array Value}(h:eE P f=true):(callFunc f args).run P w=.ok (.enter f args) w:=by
 obtain⟨fn,h1,h2,h3⟩:=um h;unfold callFunc;simp only[Sem.run_bind,run_program,Result.andThen_ok,h1,h2,h3,Bool.false_eq_true,if_false,Sem.run_pure]
theorem upon_enter{r:Option Nat}{n:Nat}{o:Oper}{next:Act->World->Prop}{Q:Exit->Act->World->Prop}{f:FuncId}{args:Array Value}{cH:List Sh}{kk:dY cH->Pr}
 (h:Calls P f args w (aj cH kk))(hk:∀p w',kk p w'->next (a.put o.dst (lq cH p)) w'):o.uponIn (wf r) n P a next Q (.ok (.enter f args) w):=by
 rw[Oper.uponIn_enter];refine⟨λh=>by simp[wf,Fence.wide]at h,og.2 (h.mono ?_)⟩;rintro e w' ⟨p,rfl,hp⟩;exact hk p w' hp
theorem BA{r:Option Nat}{n m:Nat}{P:Program}{l:Nat}{f:FuncId}{tmps:Array Value}{assign body:Code}{w:World}{R:Ending->World->Prop}:
 RoundIn Fence.wide m P l f tmps assign body w R->RoundIn (wf r) n P l f tmps assign body w R:=by
 rintro⟨h1,h2⟩;exact⟨trivial,λc cs _=>h2 c cs (room_wide _)⟩
theorem BB{r:Option Nat}{n:Nat}{o:Oper}{next:Act->World->Prop}{Q:Exit->Act->World->Prop}{l:Nat}{f:FuncId}{tmps:Array Value}{assign body:Code}{cH:List Sh}{kk:dY cH->Pr}{m:Nat}
 (h:RoundIn Fence.wide m P l f tmps assign body w (aj cH kk))(hk:∀p w',kk p w'->next (a.put o.dst (lq cH p)) w'):o.uponIn (wf r) n P a next Q (.ok (.round l f tmps assign body) w):=by
 rw[Oper.uponIn_round];refine⟨λh=>by simp[wf,Fence.wide]at h,(BA h).mono ?_⟩;rintro e w' ⟨p,rfl,hp⟩;exact hk p w' hp
theorem EA{r:Option Nat}{n:Nat}{o:Oper}{next:Act->World->Prop}{Q:Exit->Act->World->Prop}{s:Sem Next}(h:RT P s w (NX k))
 (hk:∀x v w',Good x v->k x w'->next (a.put o.dst v) w'):o.uponIn (wf r) n P a next Q (s.run P w):=by
 obtain⟨nx,w',h1,h2⟩:=h;rw[h1];cases nx<;>simp only[NX]at h2<;>try exact h2.elim
 ·obtain⟨x,hx,h2⟩:=h2
  exact hk x _ _ hx h2
 ·exact hk .no _ _ (by intro u hu;simp[EV.v?]at hu) h2
end
section
variable{P:Program}{e:Env}{a:Act}{w:World}{k:EV->Pr}
theorem BC{d:TypeDesc}{u v:Value}{r:Prop×Bool}(h:Bq d u v=some r):(∀xs ys,¬(u=.agg xs/\v=.agg ys))/\¬(u=.nilIface/\v=.nilIface):=by
 refine⟨λxs ys=>?_,?_⟩<;>rintro⟨rfl,rfl⟩<;>cases d<;>simp[Bq]at h
theorem IU{d:TypeDesc}{t:TypeId}{u v:Value}{r:Prop×Bool}(neg:Bool)(h:Bq d u v=some r)(h1:r.1):
 binOp (if neg then .neq else .eql) t u v=(Op.equal t u v>>=λb=>Pure.pure (.bool (if neg then !b else b))):=by
 unfold Bq at h;split at h<;>first
  |(simp at h;done)
  |(cases neg<;>rfl)
  |(
   simp only[jg]at h
   subst h;rcases h1 with h1|h1
   ·cases u<;>first|exact(h1:False).elim|(cases neg<;>rfl)
   ·subst h1;cases neg<;>rfl)
theorem Lr{t:TypeId}{x y:Operand}{u v:Value}(neg:Bool)
 (h:N4 P t u v (λb=>k (.val (.bool (if neg then !b else b)))) w):
 RT P (do eqGuard (if neg then .neq else .eql) t x y u v;binOp (if neg then .neq else .eql) t u v) w λv w'=>k (.val v) w':=by
 obtain⟨d,hd,h2⟩:=ai h;obtain⟨r,hr,h3,h4⟩:=ai h2;obtain⟨g1,g2⟩:=BC hr;refine .bind ⟨(),w,?_,?_⟩
 ·unfold eqGuard
  cases neg<;>simp only[Bool.false_eq_true,if_false,if_true]
  all_goals
   split
   ·rfl
   ·split
    ·exact absurd ⟨rfl,rfl⟩ g2
    ·exact absurd ⟨rfl,rfl⟩ (g1 _ _)
    ·rfl
 ·rw[IU neg hr h3]
  exact .bind (Ln h λb h=>.pure h)
theorem FX(n:Nat){d:TypeDesc}{ty:TypeId}{u v:Value}{b:Bool}(hd:P.underlying ty=some d)(h:Ry d u v=some b):(Op.equalIn (n+1) ty u v).run P w=.ok b w:=by
 unfold Ry at h;split at h
 ·simp only[jg]at h;subst h
  exact run_equalIn_bool w n ty _ _ hd
 ·split at h
  ·rename_i hk
   simp only[jg]at h;subst h;subst hk;exact run_equalIn_int w n ty _ _ _ _ hd
  ·cases h
 ·simp only[jg]at h;subst h
  rw[run_equalIn_string w n ty _ _ hd]
 ·cases h
theorem Ls{d:TypeDesc}{ty:TypeId}{u v:Value}{b:Bool}(hd:P.underlying ty=some d)(h:Ry d u v=some b):ec P ty=false:=by
 unfold ec;rw[hd];unfold Ry at h;split at h<;>first|rfl|cases h
def EqAt(P:Program)(w:World)(n:Nat)(t:TypeId)(xs ys:Array Value)(off:Nat)(b:Bool):Prop:=
 ∃u v,(part t xs off).run P w=.ok u w/\(part t ys off).run P w=.ok v w/\(Op.equalIn n t u v).run P w=.ok b w
theorem qF{g:TypeId->LV->LV->Option Bool}{n:Nat}(xs ys:Array Value)(hg:∀t off b,g t (xs.toList.drop off) (ys.toList.drop off)=some b->EqAt P w n t xs ys off b):
 ∀{fs:List Field} {b:Bool},PO g xs.toList ys.toList fs=some b->(Op.eqFields n xs ys fs).run P w=.ok b w
 |
  [],b,h=>by
  simp only[PO,jg]at h;subst h;simp[Op.eqFields]
 |
  f::fs,b,h=>by
  simp only[PO]at h;split at h
  ·rename_i b1 c hn h1 h2
   simp only[jg]at h;have hname:f.name≠ "_":=by simpa[M8]using hn
   obtain⟨u,v,hu,hv,he⟩:=hg _ _ _ h1;have hr:=qF xs ys hg h2;simp only[Op.eqFields,hname,ne_eq,not_false_eq_true,if_true,Sem.run_bind,hu,hv,he,Result.andThen_ok];cases b1
   ·simp only[Bool.false_and]at h;subst h;simp
   ·simp only[Bool.true_and]at h;subst h;simpa using hr
  ·cases h
theorem pL(n:Nat){t:TypeId}{xs ys:Array Value}{off:Nat}{b:Bool}(h:xF P t (xs.toList.drop off) (ys.toList.drop off)=some b):EqAt P w (n+1) t xs ys off b:=by
 unfold xF at h;split at h
 ·rename_i d u v hd hu hv
  have oc:=Ls (P:=P) hd h;have hpart:∀(zs:Array Value) (z:Value),(zs.toList.drop off).head? =some z->(part t zs off).run P w=.ok z w:=by
   intro zs z hz;have NG:zs[off]? =some z:=by rw[<-hz,List.head?_drop];simp
   have h5:RT P (part t zs off) w (λv w'=>v=z/\w'=w):=by
    unfold Go.part;refine .bind (.uh (kO hd) ?_);rw[oc,jc Bool.false_ne_true,NG];exact .pure ⟨rfl,rfl⟩
   obtain⟨_,_,h6,rfl,rfl⟩:=h5;exact h6
  exact⟨u,v,hpart xs u hu,hpart ys v hv,FX n hd h⟩
 ·cases h
theorem xJ{t:TypeId}{fs:Array Field}(h:lC P t=some fs):P.underlying t=some (.struct fs):=by
 unfold lC at h;split at h
 ·simp only[jg]at h;subst h;assumption
 ·cases h
theorem vP:∀(m k:Nat) {t:TypeId} {xs ys:Array Value} {off:Nat} {b:Bool},Rz P m t (xs.toList.drop off) (ys.toList.drop off)=some b->EqAt P w (k+m+1) t xs ys off b
 |0,k,t,xs,ys,off,b,h=>pL k h
 |
  m+1,k,t,xs,ys,off,b,h=>by
  unfold Rz at h;split at h
  ·rename_i fs i hs hi hst
   have hu:=xJ hs;have Bs:P.fieldsOf t=fs:=by simp[Program.fieldsOf,hu]
   have oc:ec P t=true:=by unfold ec;rw[hu]
   have hpart:∀(zs:Array Value),(part t zs off).run P w=.ok (.agg (zs.extract off (off+i.size))) w:=by
    intro zs;have h5:RT P (part t zs off) w (λv w'=>v=.agg (zs.extract off (off+i.size))/\w'=w):=by
     unfold Go.part;refine .bind (.uh (kO hu) ?_);rw[oc,jd rfl];exact .bind (.sizeOf hi (.pure ⟨rfl,rfl⟩))
    obtain⟨_,_,h6,rfl,rfl⟩:=h5;exact h6
   refine⟨_,_,hpart xs,hpart ys,?_⟩;have e:∀zs:Array Value,(zs.extract off (off+i.size)).toList=(zs.toList.drop off).take i.size:=by
    intro zs;rw[Array.toList_extract,List.extract_eq_take_drop]
    congr 1
    omega
   rw[show k+(m+1)+1=(k+m+1)+1 by omega,run_equalIn_struct w (k+m+1) t _ _ (by rw[Bs];exact hu) hst,Bs];refine qF _ _ (g:=Rz P m) (λt' off' b' h'=>vP m k h') ?_;rw[e,e];exact h
  ·cases h
  ·exact pL (k+(m+1)) h
theorem BD(xs ys:Array Value){fs:List Field}{b:Bool}(h:N6 P xs.toList ys.toList fs=some b):(Op.eqFields (9998+1) xs ys fs).run P w=.ok b w:=
 qF xs ys (λt off b h=>vP 2 9996 h) h
theorem IV{t:TypeId}{fs:Array Field}{x y:Operand}{u v:Value}{f:Bool->Pr}{Q:Value->World->Prop}(neg:Bool)(hs:lC P t=some fs)(h:yP P t fs u v f w)(hq:∀b,f b w->Q (.bool (if neg then !b else b)) w):
 RT P (do eqGuard (if neg then .neq else .eql) t x y u v;binOp (if neg then .neq else .eql) t u v) w Q:=by
 rcases aO h with⟨_,h⟩|⟨hg,h⟩
 ·exact h.elim
 obtain⟨xs,ys,rfl,rfl,h⟩:=lB h;obtain⟨b,hb,h⟩:=ai h;rw[Bool.or_eq_false_iff]at hg;have hu:P.underlying t=some (.struct fs):=by
  unfold lC at hs;split at hs
  ·simp only[jg]at hs;subst hs;assumption
  ·cases hs
 have Bs:P.fieldsOf t=fs:=by simp[Program.fieldsOf,hu]
 have he:(Op.equal t (.agg xs) (.agg ys)).run P w=.ok b w:=by
  unfold Op.equal;change(Op.equalIn (9999+1) t _ _).run P w=_;rw[run_equalIn_struct w 9999 t xs ys (by rw[Bs];exact hu) hg.2,Bs];exact BD xs ys hb
 have hgd:(eqGuard (if neg then .neq else .eql) t x y (.agg xs) (.agg ys)).run P w=.ok () w:=by
  unfold eqGuard;cases neg<;>simp[go_sem,hg.1]
 refine .bind ⟨(),w,hgd,?_⟩;cases neg
 ·exact .bind ⟨_,w,he,.pure (hq _ h)⟩
 ·exact .bind ⟨_,w,he,.pure (hq _ h)⟩
theorem y9{t:TypeId}{x y:Operand}{u v:Value}{f:Bool->Pr}{Q:Value->World->Prop}(neg:Bool)(ht:A5 P t=true)(h:yO P u v f w)(hq:∀b,f b w->Q (.bool (if neg then !b else b)) w):
 RT P (do eqGuard (if neg then .neq else .eql) t x y u v;binOp (if neg then .neq else .eql) t u v) w Q:=by
 obtain⟨tx,vx,ty,vy,rfl,rfl,b,hb,h⟩:=h;obtain⟨ms,RE⟩:∃ms,P.underlying t=some (.interface ms):=by
  unfold A5 at ht;split at ht
  ·exact⟨_,‹_›⟩
  ·cases ht
 have he:(Op.equal t (.iface tx vx) (.iface ty vy)).run P w=.ok b w:=by
  have:RT P (Op.equalIn (9999+1) t (.iface tx vx) (.iface ty vy)) w (λc w'=>c=b/\w'=w):=by
   unfold Op.equalIn;refine .bind (.underlying RE ?_);rcases hb with⟨hne,rfl⟩|⟨rfl,i,k,a,c,hi,hc,hu,rfl,rfl,rfl⟩
   ·simp only[ne_eq,hne,not_false_eq_true,if_true]
    exact .pure ⟨rfl,rfl⟩
   ·simp only[ne_eq,not_true_eq_false,if_false]
    refine .bind (.typeInfo hi ?_);simp only[hc,Bool.not_true,Bool.false_eq_true,if_false];exact⟨_,w,run_equalIn_int w 9998 tx _ _ _ _ hu,rfl,rfl⟩
  obtain⟨_,_,h6,rfl,rfl⟩:=this;exact h6
 have hgd:(eqGuard (if neg then .neq else .eql) t x y (.iface tx vx) (.iface ty vy)).run P w=.ok () w:=by
  unfold eqGuard;cases neg<;>rfl
 refine .bind ⟨(),w,hgd,?_⟩;cases neg
 ·exact .bind ⟨_,w,he,.pure (hq _ h)⟩
 ·exact .bind ⟨_,w,he,.pure (hq _ h)⟩
theorem za{t:TypeId}{x y:Operand}{u v:Value}{f:Bool->Pr}{Q:Value->World->Prop}(neg:Bool)(ht:K7 P t x y=true)(h:tJ u v f w)(hq:∀b,f b w->Q (.bool (if neg then !b else b)) w):
 RT P (do eqGuard (if neg then .neq else .eql) t x y u v;binOp (if neg then .neq else .eql) t u v) w Q:=by
 unfold K7 at ht;rw[kf]at ht;obtain⟨el,i,hu,hi,hs⟩:∃el i,P.underlying t=some (.pointer el)/\P.info? el=some i/\i.size≠0:=by
  have h2:=ht.2;unfold Rx at h2;split at h2
  ·split at h2
   ·exact⟨_,_,‹_›,‹_›,by simpa using h2⟩
   ·cases h2
  ·cases h2
 unfold tJ at h;split at h
 ·rename_i p q
  have he:(Op.equal t (.pointer p) (.pointer q)).run P w=.ok (p==q) w:=by
   have:RT P (Op.equalIn (9999+1) t (.pointer p) (.pointer q)) w (λc w'=>c=(p==q)/\w'=w):=by
    unfold Op.equalIn;refine .bind (.underlying hu ?_);cases p with
    |none=>exact .pure ⟨by cases q<;>rfl,rfl⟩
    |
     some a=>
     cases q with
     |none=>exact .pure ⟨rfl,rfl⟩
     |
      some b=>
      refine .bind (.sizeOf hi ?_);rw[jd hs];unfold sameAddr;rw[jd (by rw[h.1 a b rfl rfl];exact beq_self_eq_true _)];exact .pure ⟨rfl,rfl⟩
   obtain⟨_,_,h6,rfl,rfl⟩:=this;exact h6
  have hgd:(eqGuard (if neg then .neq else .eql) t x y (.pointer p) (.pointer q)).run P w=.ok () w:=by
   unfold eqGuard;cases neg<;>cases x<;>cases y<;>rfl
  refine .bind ⟨(),w,hgd,?_⟩;cases neg
  ·exact .bind ⟨_,w,he,.pure (hq _ h.2)⟩
  ·exact .bind ⟨_,w,he,.pure (hq _ h.2)⟩
 ·exact h.elim
theorem BE{t:TypeId}{s:ByteArray}{k:Nat->Pr}{Q:Value->World->Prop}(ht:P.underlying t=some .string)(h:IF s k w)
 (hq:∀b w',k b w'->Q (.pointer (some ⟨b,0,none⟩)) w'):RT P (Instr.range t (.string s)) w Q:=by
 unfold Instr.range;refine .bind (.underlying ht ?_);exact RT.bind (RT.pure (RT.bind (RT.newObj (RT.pure (hq _ _ h)))))
theorem FY{a:Addr}{k0:Pr}{k1:Nat->Nat->Pr}{Q:Value->World->Prop}{t:TypeId}(h:M5 a k0 k1 w)(PR:∀w',k0 w'->Q (.tuple #[.bool false]) w')(hq1:∀i c w',k1 i c w'->Q (.tuple #[.bool true,.int .i64 (i:Nat),.int .i32 (c:Nat)]) w'):
 RT P (Instr.next (.pointer (some a)) true t) w Q:=by
 obtain⟨h0,s,pos,h1,h2,h3⟩:=h;obtain⟨b,off,sp⟩:=a;dsimp only at h0 h1;subst h0;unfold Instr.next;refine .bind (.getObj h1 (λ_ _ _=>by simp) ?_);dsimp only;by_cases hp:pos<s.size
 ·rw[jd hp]
  refine .bind (.setObj h1 (λ_ _ _=>by simp) ?_);exact .pure (hq1 _ _ _ (h3 hp))
 ·rw[jc hp]
  exact .pure (PR _ (h2 hp))
theorem xK{op:BinOp}{t:TypeId}{x y:Operand}{u v:Value}(h:xq v u=true):(eqGuard op t x y u v).run P w=.ok () w:=by
 unfold xq at h;split at h
 ·unfold eqGuard;cases op<;>rfl
 ·unfold eqGuard;cases op<;>rfl
 ·simp at h
theorem BF{t:TypeId}{ke:TypeId×TypeId}{r:Option Nat}{k:Nat->Pr}{Q:Value->World->Prop}(ht:P.underlying t=some (.map ke.1 ke.2))(h:mW r k w)
 (hq:∀b w',k b w'->Q (.pointer (some ⟨b,0,none⟩)) w'):RT P (Instr.range t (.map r)) w Q:=by
 unfold Instr.range;unfold mW at h;refine .bind (.underlying ht ?_);cases r with
 |none=>exact .bind (.pure (.bind (.newObj (.pure (hq _ _ h)))))
 |
  some m=>
  obtain⟨es,clock,hm,h⟩:=h;refine .bind (.bind (.getObj hm (λ_ _ _=>by simp) ?_));refine RT.pure (RT.bind (RT.pure (RT.bind (RT.newObj (RT.pure (hq _ _ h))))))
theorem BG{a:Addr}{k:MapEntry->Pr}{Q:Value->World->Prop}(h:ot a k w)(hq:∀e w',k e w'->Q (.tuple #[e.key,e.val]) w'):RT P (Instr.entry (.pointer (some a))) w Q:=by
 obtain⟨h0,m,since,seen,stepped,es,clock,stamp,e,h1,h2,h3,h4,h5,h8⟩:=h;obtain⟨b,off,sp⟩:=a;dsimp only at h0 h1;subst h0;unfold Instr.entry;refine RT.bind (RT.getObj h1 (λ_ _ _=>by simp) ?_);dsimp only;rw[h2];dsimp only;refine RT.bind (RT.getObj h3 (λ_ _ _=>by simp) ?_);dsimp only;subst h4;simp only[bne_self_eq_false,Bool.false_eq_true,if_false,h5];exact .pure (hq _ _ h8)
theorem RT.BH{n:Nat}{Q:Nat->World->Prop}(hn:0<n)(h:∀i w1,i<n->(w1=w\/w1=w.drew)->Q i w1):RT P (Go.choose (.mapNext n)) w Q:=by
 have hr:=run_choose_drew P w (.mapNext n);by_cases hf:n<=1
 ·refine⟨0,w,?_,h 0 w hn (.inl rfl)⟩
  rw[hr];simp[Question.forced,hf]
 ·refine⟨w.tape w.drawn (.mapNext n)%n,w.drew,?_,h _ _ (Nat.mod_lt _ hn) (.inr rfl)⟩
  rw[hr];simp[Question.forced,hf,Question.cut]
theorem FZ{a:Addr}{k0:Pr}{k1:MapEntry->Pr}{Q:Value->World->Prop}{t:TypeId}(h:uj a k0 k1 w)(PR:∀w',k0 w'->Q (.tuple #[.bool false]) w')(hq1:∀e w',k1 e w'->Q (.tuple #[.bool true,e.key,e.val]) w'):
 RT P (Instr.next (.pointer (some a)) false t) w Q:=by
 obtain⟨h0,h⟩:=h;obtain⟨b,off,sp⟩:=a;dsimp only at h0 h;subst h0;unfold Instr.next;rcases h with⟨c,f,d,h1,h2⟩|⟨m,since,seen,last,es,clock,h1,h2,h3,h4⟩
 ·exact .bind (.getObj h1 (λ_ _ _=>by simp) (.pure (PR _ h2)))
 ·refine .bind (.getObj h1 (λ_ _ _=>by simp) ?_)
  dsimp only;refine .bind (.getObj h2 (λ_ _ _=>by simp) ?_);dsimp only;rw[jc (by rw[h3];simp)];generalize hc:(if((es.filter λe=> !seen.contains e.born).filter (·.born<since)).isEmpty=true then(#[none]:Array (Option MapEntry))else#[])++(((es.filter λe=> !seen.contains e.born).filter (·.born<since))++((es.filter λe=> !seen.contains e.born).filter (·.born>=since))).map some=cs;have hpos:0<cs.size:=by
   rw[<-hc];split
   ·simp only[Array.size_append,List.size_toArray,List.length_cons,List.length_nil];omega
   ·rename_i hne
    have:0<((es.filter λe=> !seen.contains e.born).filter (·.born<since)).size:=by
     rcases Nat.eq_zero_or_pos ((es.filter λe=> !seen.contains e.born).filter (·.born<since)).size with h|h
     ·exact absurd (by simpa[Array.isEmpty]using h) hne
     ·exact h
    simp only[Array.size_append,Array.size_map];omega
  refine RT.bind (RT.BH hpos λi w1 hi hw=>?_);obtain⟨hend,RF⟩:=h4 w1 hw;rw[Array.getElem?_eq_getElem hi];have hmem:cs[i]∈cs:=Array.getElem_mem hi;generalize cs[i]=x at hmem⊢;rw[<-hc,Array.mem_append]at hmem;have Hz:w1.heap[b]? =some (.mapIter (some m) since seen last):=by rcases hw with rfl|rfl<;>exact h1
  cases x with
  |
   none=>
   refine RT.pure (PR _ (hend ?_));rcases hmem with hmem|hmem
   ·split at hmem
    ·rename_i RG
     intro e he hb;cases hs:seen.contains e.born with
     |true=>rfl
     |
      false=>
      exfalso;have h9:e∈((es.filter λe=> !seen.contains e.born).filter (·.born<since)):=by
       rw[Array.mem_filter,Array.mem_filter];exact⟨⟨by simpa using he,by simpa using hs⟩,by simpa using hb⟩
      rw[Array.isEmpty_iff]at RG;rw[RG]at h9;simp at h9
    ·simp at hmem
   ·simp at hmem
  |
   some e=>
   have he:e∈es.toList/\seen.contains e.born=false:=by
    rcases hmem with hmem|hmem
    ·split at hmem<;>simp at hmem
    ·rw[Array.mem_map]at hmem
     obtain⟨e',h5,h6⟩:=hmem;simp only[jg]at h6;subst h6;simp only[Array.mem_append,Array.mem_filter]at h5;have h7:e'∈es/\(!seen.contains e'.born)=true:=by rcases h5 with h5|h5<;>exact h5.1
     exact⟨by simpa using h7.1,by simpa using h7.2⟩
   refine RT.bind (RT.setObj Hz (λ_ _ _=>by simp) (RT.pure (hq1 _ _ (RF e he.1 he.2))))
theorem Iq{o:Oper}(he:Ag e a)(h:cop P o e k w)(hc:∀c,o.op≠.call c):RT P (execOp a.eval o) w (NX k):=by
 obtain⟨dst,op,ty,pos,after,guard⟩:=o;cases op<;>simp only[cop]at h<;>try exact h.elim
 case makeInterface t x=>
  obtain⟨d,hd,h2⟩:=ai (eS he h);rcases aO h2 with⟨_,h2⟩|⟨hb,h2⟩
  ·exact h2.elim
  ·refine RT.value' ?_
   unfold Instr.makeInterface;refine .bind (.underlying hd ?_);cases d<;>first|exact .pure h2|(simp[rF]at hb;done)
 case typeAssert x xt T ok=>
  obtain⟨d,hd,h2⟩:=ai (eS he h);rcases aO h2 with⟨_,h2⟩|⟨hb,h2⟩
  ·obtain⟨want,hw,h2⟩:=ai h2
   obtain⟨z,hz,h2⟩:=ai h2;obtain⟨b,h3,h4⟩:=h2;cases d<;>simp only[IK,reduceCtorEq,jg]at hw;subst hw;refine RT.value' ?_;unfold Instr.typeAssert;refine .bind (.underlying hd ?_);have hf:ok=true->b=false->RT P (do pure (Value.tuple #[<-zeroValue T,.bool false]):Sem Value) w (λv w'=>k (.val v) w'):=by
    rintro rfl rfl;exact .bind (fe hz (.pure h4))
   rcases h3 with⟨rfl,t,u,i,hv,hi,hm⟩|⟨hok,hb0,hv|⟨t,u,i,m,hv,hi,hm⟩⟩
   ·rw[hv]at h4⊢
    refine .bind (.typeInfo hi ?_);rw[hm];cases ok<;>exact .pure h4
   ·rw[hv]
    have:=hf hok hb0;subst hok;exact this
   ·rw[hv]
    refine .bind (.typeInfo hi ?_);rw[hm];have:=hf hok hb0;subst hok;exact this
  obtain⟨sh,_,h2⟩:=ai h2;obtain⟨z,hz,h2⟩:=ai h2;refine RT.value' ?_;unfold Instr.typeAssert;refine .bind (.underlying hd ?_);obtain⟨p,b,h3,h4⟩:=h2;rcases h3 with⟨rfl,hv⟩|⟨rfl,rfl,hp,hv⟩
  ·rw[hv]
   have:RT P (Pure.pure (if ok then .tuple #[val sh p,.bool true]else val sh p):Sem Value) w (λv w'=>k (.val v) w'):=by
    cases ok<;>exact .pure h4
   cases d<;>first|(simp only[if_true];exact this)|(simp[rF]at hb;done)
  ·have:RT P (do pure (Value.tuple #[<-zeroValue T,.bool false]):Sem Value) w (λv w'=>k (.val v) w'):=by
    refine .bind (fe hz (.pure ?_));rw[<-hp];exact h4
   rcases hv with hv|⟨t,u,hv,hne⟩
   ·rw[hv]
    cases d<;>first|exact this|(simp[rF]at hb;done)
   ·rw[hv]
    cases d<;>first|(simp only[hne,if_false];exact this)|(simp[rF]at hb;done)
 case move x=>exact .pure (Ex he h)
 case assign x=>exact .pure (Ex he h)
 case pick c x y=>exact IL he h
 case alloc t=>
  obtain⟨z,hz,h⟩:=ai h;refine RT.value' ?_;exact .bind (fe hz (.bind (.newVar h λ_ _ h=>.pure h)))
 case box t x=>exact RT.value' (.bind (.newVar (eS he h) λ_ _ h=>.pure h))
 case build t parts=>
  obtain⟨z,hz,h⟩:=ai h;have h1:=kr he h;obtain⟨d,hd,h2⟩:=ai h1;clear h h1;refine RT.value' ?_;unfold Instr.build;refine .bind (fe hz (.bind (.underlying hd ?_)));have hp:(parts.map λ(i,x)=>(i,a.eval x)).toList=parts.toList.map λ(i,x)=>(i,a.eval x):=by simp
  cases d with
  |
   struct fs=>
   obtain⟨pl,Fk,h2⟩:=ai h2;obtain⟨cs,hcs,h2⟩:=gU h2;have hf:=gV hcs;simp only[Array.toArray_toList]at hf;dsimp only;rw[show fs=fs.toList.toArray by simp,List.mapM_toArray];refine .bind ?_;rw[map_eq_pure_bind];refine .bind (pI Fk (.pure ?_));rw[hp];have ZQ:(λj:Nat=>pl.toArray[j]?)=(λj:Nat=>pl[j]?):=by funext j;simp
   rw[ZQ,hf];exact .pure h2
  |
   array ln el=>
   obtain⟨i,hi,h2⟩:=ai h2;obtain⟨cs,hcs,h2⟩:=gU h2;have hf:=gV hcs;simp only[Array.toArray_toList]at hf;refine .bind (.sizeOf hi ?_);rw[hp,hf];exact .pure h2
  |_=>exact h2.elim
 case buildSlice t len parts=>
  have h1:=kr he h;obtain⟨el,hel,h2⟩:=ai h1;obtain⟨i,hi,h2⟩:=ai h2;obtain⟨z,hz,h2⟩:=ai h2;obtain⟨⟨hzs,hs0,hlen⟩,h2⟩:=dL h2;obtain⟨cs,hcs,h2⟩:=gU h2;clear h h1;refine RT.value' ?_;unfold Instr.buildSlice;refine .bind (.underlying (bL hel) (.bind (.sizeOf hi ?_)));rw[jc (Nat.not_lt.2 hlen)];have hp:(parts.map λ(i,x)=>(i,a.eval x)).toList=parts.toList.map λ(i,x)=>(i,a.eval x):=by simp
  have hf:=gV hcs;have Ey:=IM z.cells.toList len i.size (by simpa using hzs);simp only[Array.toArray_toList]at Ey;by_cases h0:len*i.size=0
  ·rw[jd h0]
   have hl0:len=0:=(Nat.mul_eq_zero.1 h0).resolve_right hs0;refine .bind (.pure ?_);dsimp only;have e0:∀g:Nat->Value,Array.map g (Array.range 0)=[].toArray:=λ_=>by simp
   rw[h0,e0,hp];have:zc z.cells.toList len=[]:=by simp[hl0,zc]
   rw[this]at hf;rw[hf];exact .bind (.bind (.newObj (.pure (.pure h2))))
  ·rw[jc h0]
   refine .bind (.zeroValue hi hz (.bind (.pure ?_)));dsimp only;rw[hp,hzs,Ey,hf];exact .bind (.bind (.newObj (.pure (.pure h2))))
 case load t x=>
  have h1:=eS he h;obtain⟨ad,hv,h2⟩:=fW h1;refine RT.value' ?_;unfold Instr.loadAt;rw[hv];exact .bind (.pure (.loadVar h2 λ_ h=>h))
 case store t x y=>
  have h1:=eS he h;obtain⟨ad,hv,h2⟩:=fW h1;have h3:=eS he h2;refine RT.skip ?_;unfold Instr.storeAt;rw[hv];exact .bind (.pure (.storeVar h3 λ_ h=>h))
 case nilCheck x=>
  have h1:=eS he h;clear h;unfold execOp;dsimp only;generalize a.eval x=v at h1⊢;cases v with
  |
   pointer p=>
   obtain⟨ad,rfl,h2⟩:=eZ.1 h1;exact .pure ⟨_,Good.val _,h2⟩
  |
   func fn f1 f2=>
   obtain⟨h2,h3⟩:=h1;cases fn<;>first|exact(h2:False).elim|exact .pure ⟨_,Good.val _,h3⟩
  |int _ _=>exact h1.elim
  |bool _=>exact h1.elim
  |string _=>exact h1.elim
  |nilIface=>exact h1.elim
  |slice _ _ _=>exact h1.elim
  |map _=>exact h1.elim
  |float _ _=>exact(h1.1:False).elim
  |complex _ _ _=>exact(h1.1:False).elim
  |chan _=>exact(h1.1:False).elim
  |nilFunc=>exact(h1.1:False).elim
  |iface _ _=>exact(h1.1:False).elim
  |agg _=>exact(h1.1:False).elim
  |tuple _=>exact(h1.1:False).elim
 case binOp op t x y ty2=>
  rcases aO h with⟨hb,h⟩|⟨_,h⟩
  ·simp only[kf]at hb
   obtain⟨hy,ht⟩:=hb;have h1:=eS he h;clear h;have hy':y=.const .nilIface:=by
    unfold Ie at hy;split at hy<;>simp_all
   subst hy';obtain⟨ms,RE⟩:∃ms,P.underlying t=some (.interface ms):=by
    unfold A5 at ht;split at ht
    ·exact⟨_,‹_›⟩
    ·cases ht
   refine RT.value' ?_;generalize a.eval x=u at h1⊢;have hn:a.eval (.const .nilIface)=.nilIface:=rfl;rw[hn];have key:YK u->(eqGuard op t x (.const .nilIface) u .nilIface).run P w=.ok () w/\(Op.equal t u .nilIface).run P w=.ok (mP u) w:=by
    intro hi;have eqn:RT P (Op.equalIn (9999+1) t u .nilIface) w (λb w'=>b=mP u/\w'=w):=by
     unfold Op.equalIn;refine .bind (.underlying RE ?_);cases u<;>first|exact hi.elim|exact .pure ⟨rfl,rfl⟩
    refine⟨?_,?_⟩
    ·unfold eqGuard
     cases u<;>first|exact hi.elim|(cases x<;>cases op<;>rfl)
    ·obtain⟨v,w',h3,rfl,rfl⟩:=eqn
     exact h3
   cases op<;>first|exact h1.elim|skip
   all_goals
    obtain⟨hi,h2⟩:=h1;obtain⟨k1,k2⟩:=key hi;refine .bind ⟨(),w,k1,?_⟩;cases u<;>first|exact hi.elim|exact .bind ⟨_,w,k2,.pure h2⟩
  have h1:=eS he (eS he h);clear h;refine RT.value' ?_;generalize a.eval x=u at h1⊢;generalize a.eval y=v at h1⊢;have h9:=aO h1;clear h1;rcases h9 with⟨hi,h1⟩|⟨_,h1⟩
  ·cases op<;>first
    |exact h1.elim
    |exact y9 false hi h1 λ_ h=>h
    |exact y9 true hi h1 λ_ h=>h
  rcases aO h1 with⟨hi,h1⟩|⟨_,h1⟩
  ·cases op<;>first
    |exact h1.elim
    |exact za (f:=λb=>k (.val (.bool (if false then !b else b)))) false hi h1 λ_ h=>h
    |exact za (f:=λb=>k (.val (.bool (if true then !b else b)))) true hi h1 λ_ h=>h
  rcases aO h1 with⟨hn,h1⟩|⟨hn,h1⟩
  ·refine .bind ⟨(),w,?_,?_⟩
   ·exact xK hn
   ·obtain⟨v,hv,h2⟩:=Lk (P:=P) (t:=t) h1
    exact⟨v,w,hv,h2⟩
  ·have fin:∀neg:Bool,xk P t u v (λb=>k (.val (.bool (if neg then !b else b)))) w->RT P (do eqGuard (if neg then .neq else .eql) t x y u v;binOp (if neg then .neq else .eql) t u v) w λv w'=>k (.val v) w':=by
    intro neg h2;rcases iE (show orElse _ _ _ w from h2)with⟨fs,Bs,h2⟩|⟨_,h2⟩
    ·exact IV neg Bs h2 λ_ h=>h
    ·exact Lr neg h2
   cases op<;>first
    |exact h1.elim
    |exact fin false h1
    |exact fin true h1
 case unOp op t x=>
  obtain⟨v,u,hv,hr,y,hy,h2⟩:=Lo h;refine RT.value ?_;rw[he.eval (x:=x) hv];exact⟨_,w,hr,y,hy,h2⟩
 case convert s d x=>exact RT.value' (FW (eS he h))
 case makeFunc fn first caps=>
  have h1:=fU he h;have h2:=fU he h1;have e1:(first.toList.map a.eval).toArray=first.map a.eval:=by rw[<-Array.toList_map,Array.toArray_toList]
  have e2:(caps.toList.map a.eval).toArray=caps.map a.eval:=by rw[<-Array.toList_map,Array.toArray_toList]
  rw[e1,e2]at h2;exact RT.value' (.pure h2)
 case makeMap t r=>
  cases r with
  |none=>exact RT.value' (.bind (.newObj (.pure h)))
  |some _=>exact h.elim
 case makeSlice t l c=>
  obtain⟨el,hel,h⟩:=ai h;obtain⟨i,hi,h⟩:=ai h;obtain⟨z,hz,h⟩:=ai h;obtain⟨⟨hzs,hs0⟩,h⟩:=dL h;obtain⟨k1,ln,hl,h⟩:=gl (eS he h);obtain⟨k2,cn,jR,h⟩:=gl (eS he h);refine RT.value' ?_;rw[hl,jR];exact Lm (bL hel) hi hz hzs hs0 h λ_ _ h=>h
 case slice t x lo hi mx=>
  have h1:=eS he h;obtain⟨l,k1,hl,h2⟩:=qE he h1;obtain⟨hh,k2,hhi,h3⟩:=qE he h2;obtain⟨m,k3,hm,h4⟩:=qE he h3;clear h h1 h2 h3;refine RT.value' ?_;rw[hl,hhi,hm];generalize a.eval x=v at h4⊢;split at h4
  ·rename_i a0 ln c
   obtain⟨el,hel,h⟩:=ai h4;obtain⟨i,hi,h⟩:=ai h;exact y8 (s:=⟨a0,ln,c⟩) (bL hel) hi h λ_ h=>h
  ·obtain⟨d,hd,h9⟩:=ai h4
   clear h4;split at h9
   ·exact xH hd h9 λ_ h=>h
   ·exact h9.elim
  ·exact h4.elim
 case fieldAddr s x f=>
  obtain⟨ad,hv,h2⟩:=fW (eS he h);obtain⟨fl,hfl,h2⟩:=ai h2;obtain⟨i,hi,h2⟩:=ai h2;obtain⟨hs,h2⟩:=dL h2;obtain⟨fs,Bs,hf⟩:=nS hfl;refine RT.value' ?_;unfold Instr.fieldAt;refine .bind (.underlying Bs ?_);simp only[hf,hv];refine .bind (.pure (.bind ?_));unfold fieldPlace;refine .bind (.sizeOf hi ?_);rw[jc hs];exact .pure (.pure h2)
 case field s x f=>
  obtain⟨cs,hv,h2⟩:=iG (eS he h);obtain⟨fl,hfl,h2⟩:=ai h2;obtain⟨i,hi,h2⟩:=ai h2;obtain⟨d,hd,h2⟩:=ai h2;obtain⟨fs,Bs,hf⟩:=nS hfl;refine RT.value' ?_;unfold Instr.field;refine .bind (.underlying Bs ?_);simp only[hf,hv];refine .bind (.pure ?_);unfold Go.part;refine .bind (.uh (kO hd) ?_);rcases aO h2 with⟨oc,h2⟩|⟨oc,h2⟩
  ·rw[oc,jd rfl]
   exact .bind (.sizeOf hi (.pure h2))
  ·rw[oc,jc Bool.false_ne_true]
   obtain⟨c,jR,h2⟩:=ai h2;simp only[jR];exact .pure h2
 case indexAddr t x ix=>
  have h1:=eS he h;obtain⟨k1,n,hn,h2⟩:=gl (eS he h1);clear h h1;refine RT.value' ?_;unfold Instr.indexAt;rw[hn];refine .bind (.pure ?_);dsimp only;generalize a.eval x=v at h2⊢;split at h2
  ·rename_i a0 ln c
   obtain⟨el,hel,h⟩:=ai h2;obtain⟨i,hi,h⟩:=ai h;obtain⟨hb,h⟩:=h;obtain⟨ad,rfl,h5⟩:=eZ.1 h;refine .bind (.underlying (bL hel) (.bind (.pure (.bind (.underlying (bL hel) ?_)))));dsimp only;rw[jd hb];exact .bind (.sizeOf hi (.pure h5))
  ·obtain⟨d,hd,h9⟩:=ai h2
   clear h2;split at h9
   ·obtain⟨i,hi,h⟩:=ai h9
    obtain⟨hb,h⟩:=h;obtain⟨ad,rfl,h5⟩:=eZ.1 h;refine .bind (.underlying hd (.bind (.pure (.bind (.pure (.bind (.underlying hd ?_)))))));dsimp only;rw[jd hb];exact .bind (.sizeOf hi (.pure h5))
   ·exact h9.elim
  ·exact h2.elim
 case index t x ix=>
  have h1:=eS he h;obtain⟨k1,n,hn,h2⟩:=gl (eS he h1);clear h h1;refine RT.value' ?_;unfold Instr.index;rw[hn];refine .bind (.pure ?_);dsimp only;generalize a.eval x=v at h2⊢;split at h2
  ·rename_i s
   obtain⟨d,hd,h9⟩:=ai h2;clear h2;split at h9
   ·obtain⟨hb,h9⟩:=h9
    refine .bind (.underlying hd ?_);have hlt:n.toNat<s.size:=by omega
    simp only[hb.1,if_true];rw[getElem?_pos s n.toNat hlt]at h9⊢;exact .pure h9
   ·exact h9.elim
  ·exact h2.elim
 case lookup t x ix ok=>
  have h1:=eS he (eS he h);obtain⟨r,hr,h2⟩:=jU h1;obtain⟨ke,Fi,h2⟩:=ai h2;obtain⟨kd,Ol,h2⟩:=ai h2;rcases aO h2 with⟨hs,h2⟩|⟨_,h2⟩
  ·obtain⟨l,hl,h2⟩:=ai h2
   obtain⟨sh,YU,h2⟩:=ai h2;obtain⟨z,hz,h2⟩:=ai h2;refine RT.value' ?_;rw[hr];refine Bv (eL Fi) Ol hs hz h2 λp b h=>?_;rcases aO h with⟨hok,h⟩|⟨hok,h⟩<;>simpa[hok]using h
  ·exact h2.elim
 case mapUpdate t m ky x=>
  have h1:=eS he (eS he (eS he h));obtain⟨r,hr,h2⟩:=jU h1;obtain⟨ke,Fi,h2⟩:=ai h2;obtain⟨kd,Ol,h2⟩:=ai h2;rcases aO h2 with⟨hs,h2⟩|⟨_,h2⟩
  ·refine RT.skip ?_
   rw[hr];exact Bw (eL Fi) Ol hs h2 λ_ h=>h
  ·exact h2.elim
 case extract t ix=>
  refine RT.value ?_;unfold Instr.extract;cases hx:Env.ev e t with
  |
   Af=>
   rw[hx]at h;have hv:=he.eval (x:=t) (v:=.tuple #[.bool false]) (by rw[hx];rfl);rw[hv]
   match ix,h with
   |0,h=>exact .pure ⟨_,λu hu=>by simpa[EV.v?]using hu.symm,h⟩
   |_+1,h=>exact h.elim
  |
   Ah k1 v1=>
   rw[hx]at h;have hv:=he.eval (x:=t) (v:=.tuple #[.bool true,k1,v1]) (by rw[hx];rfl);rw[hv]
   match ix,h with
   |0,h=>exact .pure ⟨_,λu hu=>by simpa[EV.v?]using hu.symm,h⟩
   |1,h=>exact .pure ⟨_,λu hu=>by simpa[EV.v?]using hu.symm,h⟩
   |2,h=>exact .pure ⟨_,λu hu=>by simpa[EV.v?]using hu.symm,h⟩
   |_+3,h=>exact h.elim
  |
   AZ k1 v1=>
   rw[hx]at h;have hv:=he.eval (x:=t) (v:=.tuple #[k1,v1]) (by rw[hx];rfl);rw[hv]
   match ix,h with
   |
    0,h=>
    obtain⟨l,_,h⟩:=ai (show rD P _ _ w from h);obtain⟨s,_,h⟩:=ai h;obtain⟨p,hp,h⟩:=h;exact .pure ⟨_,λu hu=>by simp only[EV.v?,jg]at hu;rw[<-hu];exact hp.symm,h⟩
   |
    1,h=>
    obtain⟨l,_,h⟩:=ai (show rD P _ _ w from h);obtain⟨s,_,h⟩:=ai h;obtain⟨p,hp,h⟩:=h;exact .pure ⟨_,λu hu=>by simp only[EV.v?,jg]at hu;rw[<-hu];exact hp.symm,h⟩
   |_+2,h=>exact h.elim
  |no=>rw[hx]at h;exact h.elim
  |lit b=>rw[hx]at h;exact h.elim
  |
   val v=>
   rw[hx]at h;have hv:=he.eval (x:=t) (v:=v) (by rw[hx];rfl);rw[hv];cases v<;>first|exact h.elim|skip
   obtain⟨c,jR,h1⟩:=ai (show opt _ _ w from h);simp only[jR];exact .pure ⟨_,Good.val _,h1⟩
 case range t x=>
  refine RT.value' ?_;rcases aO (eS he h)with⟨hs,h2⟩|⟨_,h2⟩
  ·obtain⟨s,hr,h2⟩:=y7 h2
   rw[hr];exact BE (lD hs) h2 λ_ _ h=>h
  ·obtain⟨r,hr,h2⟩:=jU h2
   obtain⟨ke,Fi,h2⟩:=ai h2;rw[hr];exact BF (eL Fi) h2 λ_ _ h=>h
 case next it str=>
  obtain⟨ad,hv,h3⟩:=fW (eS he h);refine RT.value ?_;rw[hv];have h4:=aO h3;clear h h3;rcases h4 with⟨hs,h2⟩|⟨hs,h2⟩
  ·subst hs
   exact FY h2 (λ_ h=>⟨_,λu hu=>by simpa[EV.v?]using hu.symm,h⟩) (λ_ _ _ h=>⟨_,λu hu=>by simpa[EV.v?]using hu.symm,h⟩)
  subst hs;exact FZ h2 (λ_ h=>⟨_,λu hu=>by simpa[EV.v?]using hu.symm,h⟩) (λ_ _ h=>⟨_,λu hu=>by simpa[EV.v?]using hu.symm,h⟩)
 case entry it=>
  obtain⟨ad,hv,h2⟩:=fW (eS he h);refine RT.value ?_;rw[hv];exact BG h2 λ_ _ h=>⟨_,λu hu=>by simpa[EV.v?]using hu.symm,h⟩
 case call c=>exact absurd rfl (hc c)
end
section
variable{P:Program}{e:Env}{a:Act}{w:World}{k:EV->Pr}
theorem ex0(x:Value)(l:Array Value):(#[x]++l)[0]? =some x:=by
 rw[Array.getElem?_append_left (by simp)];rfl
theorem ex1(x:Value)(l:Array Value):(#[x]++l).extract 1 (#[x]++l).size=l:=by
 apply Array.ext';rw[Array.toList_extract,Array.toList_append,Array.size_append];simp only[List.size_toArray,List.length_cons,List.length_nil,List.cons_append,List.nil_append,List.extract_eq_take_drop,List.drop_succ_cons,List.drop_zero];exact List.take_of_length_le (by simp)
theorem BI{r:Option Nat}{n:Nat}{next:Act->World->Prop}{Q:Exit->Act->World->Prop}{dst:Option Tmp}{x:Operand}{args:Array Operand}{ats:Array TypeId}{ty:TypeId}{pos:String}{after:Array Edge}
 {guard:Option (Nat×Bool)}{cH:List Sh}{kk:dY cH->Pr}(h2:dh P (a.eval x) (args.toList.map a.eval) cH kk w)(hk:∀p w',kk p w'->next (a.put dst (lq cH p)) w'):
 Oper.uponIn (wf r) n P ⟨dst,.call ⟨.value x,args,ats⟩,ty,pos,after,guard⟩ a next Q ((execOp a.eval ⟨dst,.call ⟨.value x,args,ats⟩,ty,pos,after,guard⟩).run P w):=by
 have hargs:(args.toList.map a.eval).toArray=args.map a.eval:=by rw[<-Array.toList_map,Array.toArray_toList]
 unfold dh at h2;rw[hargs]at h2;rcases h2 with⟨f,first,caps,hv,fE,h2⟩|⟨l,caps,hv,fn,tmps,assign,body,hy,h2⟩
 ·have hrun:(execOp a.eval ⟨dst,.call ⟨.value x,args,ats⟩,ty,pos,after,guard⟩).run P w=.ok (.enter f (first++args.map a.eval++caps)) w:=by
   simp only[execOp,resolve,Deferred.ofValue,hv,Sem.run_bind,Sem.run_pure,Result.andThen_ok,invoke];exact fc fE
  rw[hrun];exact upon_enter h2 hk
 ·have hrun:(execOp a.eval ⟨dst,.call ⟨.value x,args,ats⟩,ty,pos,after,guard⟩).run P w=.ok (.round l fn tmps assign body) w:=by
   simp only[execOp,resolve,Deferred.ofValue,hv,Sem.run_bind,Sem.run_pure,Result.andThen_ok,invoke,Array.empty_append];exact hy
  rw[hrun];exact BB h2 hk
theorem vQ{r:Option Nat}{n:Nat}{o:Oper}{next:Act->World->Prop}{Q:Exit->Act->World->Prop}(he:Ag e a)(h:cop P o e k w)
 (hk:∀x v w',Good x v->k x w'->next (a.put o.dst v) w'):o.uponIn (wf r) n P a next Q ((o.semAt r a.eval).run P w):=by
 have hnd:∀c,o.op≠.defer c:=by
  intro c hc;obtain⟨dst,op,ty,pos,after,guard⟩:=o;dsimp only at hc;subst hc;exact h
 rw[Oper.semAt_eq r a.eval o hnd];rcases Classical.em (∀c,o.op≠.call c)with hno|hno
 ·exact EA (Iq he h hno) hk
 obtain⟨c,hc⟩:∃c,o.op=.call c:=Classical.byContradiction λh=>hno λc hc=>h ⟨c,hc⟩;clear hno;obtain⟨dst,op,ty,pos,after,guard⟩:=o;dsimp only at hc;subst hc;clear hnd;simp only[cop]at h;have h1:=fU he h;clear h;obtain⟨callee,args,ats⟩:=c;have hargs:(args.toList.map a.eval).toArray=args.map a.eval:=by rw[<-Array.toList_map,Array.toArray_toList]
 dsimp only at h1;have hval:∀x,nd (Env.ev e x) (λfv=>opt (uk P ty) λcH=>dh P fv (args.toList.map a.eval) cH λp=>k (.val (lq cH p))) w->
  Oper.uponIn (wf r) n P ⟨dst,.call ⟨.value x,args,ats⟩,ty,pos,after,guard⟩ a next Q ((execOp a.eval ⟨dst,.call ⟨.value x,args,ats⟩,ty,pos,after,guard⟩).run P w):=by
  intro x h;obtain⟨cH,_,h2⟩:=ai (eS he h);exact BI h2 λp w' hp=>hk _ _ _ (Good.val _) hp
 cases callee with
 |
  value x=>
  cases x with
  |
   func f=>
   obtain⟨cH,ZR,h0⟩:=ai h1;rcases aO h0 with⟨fE,h2⟩|⟨_,h2⟩
   ·unfold aq at h2
    rw[hargs]at h2;have hrun:(execOp a.eval ⟨dst,.call ⟨.value (.func f),args,ats⟩,ty,pos,after,guard⟩).run P w=.ok (.enter f (args.map a.eval)) w:=by
     simp only[execOp,resolve,Deferred.ofValue,Act.eval,Sem.run_bind,Sem.run_pure,Result.andThen_ok,invoke,Array.empty_append,Array.append_empty];exact fc fE
    rw[hrun];exact upon_enter h2 λp w' hp=>hk _ _ _ (Good.val _) hp
   ·obtain⟨p,w',hr,h3⟩:=h2
    rw[hargs]at hr;have hrun:(execOp a.eval ⟨dst,.call ⟨.value (.func f),args,ats⟩,ty,pos,after,guard⟩).run P w=.ok (.value (lq cH p)) w':=by
     simp only[execOp,resolve,Deferred.ofValue,Act.eval,Sem.run_bind,Sem.run_pure,Result.andThen_ok,invoke,Array.empty_append,Array.append_empty];exact hr
    rw[hrun];exact hk _ _ _ (Good.val _) h3
  |tmp t=>exact hval _ h1
  |const v=>exact hval _ h1
  |global g=>exact hval _ h1
 |
  builtin b=>
  refine EA (k:=k) ?_ hk;unfold execOp;dsimp only;unfold resolve;dsimp only;refine .bind (.pure ?_);dsimp only[invoke];rw[<-hargs];exact rG h1
 |
  invoke x name=>
  obtain⟨cH,_,h2⟩:=ai (eS he h1);obtain⟨t,u,f,recv,hv,hm,h2⟩:=h2;rw[hargs]at h2;rcases h2 with⟨fE,h2⟩|⟨p,w',hr,h3⟩
  ·have hrun:(execOp a.eval ⟨dst,.call ⟨.invoke x name,args,ats⟩,ty,pos,after,guard⟩).run P w=.ok (.enter f (#[recv]++args.map a.eval)) w:=by
    simp only[execOp,resolve,Sem.run_bind,Sem.run_pure,Result.andThen_ok,invoke,ex0,ex1,callMethod,hv,run_program,hm];exact fc fE
   rw[hrun];exact upon_enter h2 λp w' hp=>hk _ _ _ (Good.val _) hp
  ·have hrun:(execOp a.eval ⟨dst,.call ⟨.invoke x name,args,ats⟩,ty,pos,after,guard⟩).run P w=.ok (.value (lq cH p)) w':=by
    simp only[execOp,resolve,Sem.run_bind,Sem.run_pure,Result.andThen_ok,invoke,ex0,ex1,callMethod,hv,run_program,hm];exact hr
   rw[hrun];exact hk _ _ _ (Good.val _) h3
theorem zb{r:Option Nat}{n:Nat}{o:Oper}{next:Act->World->Prop}{Q:Exit->Act->World->Prop}{f:FuncId}{args:Array Value}{cH:List Sh}{kk:dY cH->Pr}{q:List PanicEntry->Pr}
 (h:Calls P f args w (Ru q cH kk))(hk:∀p w',kk p w'->next (a.put o.dst (lq cH p)) w')(hp:∀ch w',q ch w'->Q (.panic ch) a w'):o.uponIn (wf r) n P a next Q (.ok (.enter f args) w):=by
 rw[Oper.uponIn_enter];refine⟨λh=>by simp[wf,Fence.wide]at h,og.2 (h.mono ?_)⟩;rintro e w' (⟨p,rfl,PS⟩|⟨ch,rfl,hq⟩)
 ·exact hk p w' PS
 ·exact hp ch w' hq
theorem A8{r:Option Nat}{n:Nat}{o:Oper}{kp:Option (List PanicEntry->Pr)}{next:Act->World->Prop}{Q:Exit->Act->World->Prop}(he:Ag e a)(h:K8 P kp o e k w)
 (hk:∀x v w',Good x v->k x w'->next (a.put o.dst v) w')(hp:∀ch w',KA kp ch w'->Q (.panic ch) a w'):o.uponIn (wf r) n P a next Q ((o.semAt r a.eval).run P w):=by
 unfold K8 at h;cases kp with
 |none=>exact vQ he h hk
 |
  some q=>
  have PS:∀ch w',q ch w'->Q (.panic ch) a w':=hp;rcases iE (show orElse _ _ _ w from h)with⟨⟨f,args⟩,hop,h⟩|⟨_,h⟩
  ·have heq:∃ats,o.op=.call ⟨.value (.func f),args,ats⟩:=by
    unfold pn at hop;split at hop<;>simp_all
   obtain⟨ats,heq⟩:=heq;obtain⟨dst,op,ty,pos,after,guard⟩:=o;dsimp only at heq;subst heq;rw[Oper.semAt_eq r a.eval _ (by intro c hc;cases hc)];have h1:=fU he h;have hargs:(args.toList.map a.eval).toArray=args.map a.eval:=by rw[<-Array.toList_map,Array.toArray_toList]
   obtain⟨cH,ZR,h0⟩:=ai h1;rcases aO h0 with⟨fE,h2⟩|⟨_,h2⟩
   ·unfold IG at h2
    rw[hargs]at h2;have hrun:(execOp a.eval ⟨dst,.call ⟨.value (.func f),args,ats⟩,ty,pos,after,guard⟩).run P w=.ok (.enter f (args.map a.eval)) w:=by
     simp only[execOp,resolve,Deferred.ofValue,Act.eval,Sem.run_bind,Sem.run_pure,Result.andThen_ok,invoke,Array.empty_append,Array.append_empty];exact fc fE
    rw[hrun];exact zb h2 (λp w' hp=>hk _ _ _ (Good.val _) hp) PS
   ·obtain⟨p,w',hr,h3⟩:=h2
    rw[hargs]at hr;have hrun:(execOp a.eval ⟨dst,.call ⟨.value (.func f),args,ats⟩,ty,pos,after,guard⟩).run P w=.ok (.value (lq cH p)) w':=by
     simp only[execOp,resolve,Deferred.ofValue,Act.eval,Sem.run_bind,Sem.run_pure,Result.andThen_ok,invoke,Array.empty_append,Array.append_empty];exact hr
    rw[hrun];exact hk _ _ _ (Good.val _) h3
  rcases iE h with⟨args,hop,h⟩|⟨_,h⟩
  ·have heq:(∃ats,o.op=.call ⟨.builtin .panic,args,ats⟩)\/∃x,o.op=.panic x/\args= #[x]:=by
    unfold sP at hop;split at hop<;>simp_all
   have h1:=fU he h;obtain⟨t,v,hl,h1⟩:=xG h1;clear h;obtain⟨dst,op,ty,pos,after,guard⟩:=o;dsimp only at heq;have hrun:(execOp a.eval ⟨dst,op,ty,pos,after,guard⟩).run P w=.halt (.panic (.iface t v)) w/\∀c,op≠.defer c:=by
    rcases heq with⟨ats,rfl⟩|⟨x,rfl,rfl⟩
    ·have hA:args.map a.eval= #[.iface t v]:=by
      have hargs:(args.toList.map a.eval).toArray=args.map a.eval:=by rw[<-Array.toList_map,Array.toArray_toList]
      rw[<-hargs,hl]
     refine⟨?_,by intro c hc;cases hc⟩;simp only[execOp,resolve,Sem.run_bind,Sem.run_pure,Result.andThen_ok,invoke,hA];rfl
    ·have hA:a.eval x=.iface t v:=by simpa using hl
     refine⟨?_,by intro c hc;cases hc⟩;simp only[execOp,hA];rfl
   rw[Oper.semAt_eq r a.eval _ hrun.2,hrun.1];exact PS _ _ h1
  ·exact vQ he h hk
end
section
variable{w:World}
theorem cT{x:EV}{f f':Value->Pr}(h:∀v,f v w->f' v w)(hh:nd x f w):nd x f' w:=by
 cases x with
 |no=>exact hh
 |val v=>exact h _ hh
 |lit b=>exact h _ hh
 |Af=>exact h _ hh
 |Ah _ _=>exact h _ hh
 |AZ _ _=>exact h _ hh
theorem aN{α:Type}{x:Option α}{f f':α->Pr}(h:∀v,f v w->f' v w)(hh:opt x f w):opt x f' w:=by
 cases x with
 |none=>exact hh
 |some v=>exact h _ hh
theorem HQ{α:Type}{w:World}{x:Option α}{f f':α->Pr}(h:∀v,x=some v->f v w->f' v w)(hh:opt x f w):opt x f' w:=by
 cases x with
 |some v=>exact h v rfl hh
 |none=>exact hh
theorem yJ{α:Type}{w:World}{x:Option α}{f f':α->Pr}{g g':Pr}(h:∀v,f v w->f' v w)(h2:g w->g' w)(hh:orElse x f g w):orElse x f' g' w:=by
 cases x with
 |some v=>exact h v hh
 |none=>exact h2 hh
theorem oZ{p:Prop}[Decidable p]{f f':Pr}(h:f w->f' w)(hh:qq p f w):qq p f' w:=by
 unfold qq at *;split
 ·rename_i hp;rw[jd hp]at hh;exact h hh
 ·rename_i hp;rw[jc hp]at hh;exact hh
theorem gd{b:Bool}{f f' g g':Pr}(h:f w->f' w)(h2:g w->g' w)(hh:tf b f g w):tf b f' g' w:=by
 cases b with
 |true=>exact h hh
 |false=>exact h2 hh
theorem kJ{p:Prop}{f f':Pr}(h:f w->f' w)(hh:bZ p f w):bZ p f' w:=⟨hh.1,h hh.2⟩
theorem lz{p:OA}{f f':Addr->Pr}(h:∀v,f v w->f' v w)(hh:deref p f w):deref p f' w:=
 let⟨a,h1,h2⟩:=eZ.1 hh;eZ.2 ⟨a,h1,h _ h2⟩
theorem tG{v:Value}{f f':Addr->Pr}(h:∀v,f v w->f' v w)(hh:mM v f w):mM v f' w:=by
 cases v with
 |pointer p=>exact lz h hh
 |_=>exact hh
theorem mN{v:Value}{f f':Int->Pr}(h:∀v,f v w->f' v w)(hh:ko v f w):ko v f' w:=by
 cases v with
 |int k n=>exact h _ hh
 |_=>exact hh
theorem rB{v:Value}{f f':Array Value->Pr}(h:∀v,f v w->f' v w)(hh:iq v f w):iq v f' w:=by
 cases v with
 |agg cs=>exact h _ hh
 |_=>exact hh
theorem A0{v:Value}{f f':Option Nat->Pr}(h:∀v,f v w->f' v w)(hh:tH v f w):tH v f' w:=by
 cases v with
 |map r=>exact h _ hh
 |_=>exact hh
theorem tI{x:Option EV}{f f':Option Int->Pr}(h:∀v,f v w->f' v w)(hh:MR x f w):MR x f' w:=by
 cases x with
 |none=>exact h _ hh
 |some x=>exact cT (λv=>mN λn=>h _) hh
theorem KZ{b:Bool}{f f' g g':Pr}(h:f w->f' w)(h2:g w->g' w)(hh:br b f g w):br b f' g' w:=by
 unfold br at *;cases b<;>simp_all
theorem HR{x:EV}{f f' g g':Pr}(h:f w->f' w)(h2:g w->g' w)(hh:Hi x f g w):Hi x f' g' w:=by
 unfold Hi at *;split at hh
 ·exact h hh
 ·exact h2 hh
 ·exact KZ h h2 hh
 ·exact hh.elim
theorem HS{s:CS}{a:Addr}{f f':dZ s->Pr}(h:∀v,f v w->f' v w)(hh:cK s a f w):cK s a f' w:=
 let⟨p,h1,h2⟩:=hh;⟨p,h1,h _ h2⟩
theorem HT{s:List CS}{a:Addr}{f f':lg s->Pr}(h:∀v,f v w->f' v w)(hh:aM s a f w):aM s a f' w:=
 let⟨p,h1,h2⟩:=hh;⟨p,h1,h _ h2⟩
theorem yK{P:Program}{t:TypeId}{a:Addr}{f f':Value->Pr}(h:∀v,f v w->f' v w)(hh:N3 P t a f w):N3 P t a f' w:=
 aN (λ_=>gd (aN λ_=>oZ (HT λ_=>h _)) (aN λ_=>aN λ_=>HS λ_=>h _)) hh
theorem o0:∀{l:List EV} {f f':LV->Pr} (_:∀v,f v w->f' v w),Hj l f w->Hj l f' w
 |[],_,_,h,hh=>h _ hh
 |_::_,_,_,h,hh=>cT (λ_=>o0 λ_=>h _) hh
theorem HU{n:Nat}{s:Sl}{lo hi mx:Option Int}{f f':Sl->Pr}(h:∀v,f v w->f' v w)(hh:slc n s lo hi mx f w):slc n s lo hi mx f' w:=
 ⟨hh.1,hh.2.1,hh.2.2.1,hh.2.2.2.1,h _ hh.2.2.2.2⟩
theorem yL{s:ByteArray}{lo hi:Option Int}{f f':ByteArray->Pr}(h:∀v,f v w->f' v w)(hh:qs s lo hi f w):qs s lo hi f' w:=
 ⟨hh.1,hh.2.1,h _ hh.2.2⟩
theorem A1{kd:TypeDesc}{r:Option Nat}{key zero:Value}{sh:CS}{f f':dZ sh->Bool->Pr}(h:∀v b,f v b w->f' v b w)(hh:iB kd r key sh zero f w):iB kd r key sh zero f' w:=
 let⟨es,res,p,h1,h2,h3,h4⟩:=hh;⟨es,res,p,h1,h2,h3,h _ _ h4⟩
theorem yM{r:Option Nat}{f f':Int->Pr}(h:∀v,f v w->f' v w)(hh:mO r f w):mO r f' w:=
 let⟨es,h1,h2⟩:=hh;⟨es,h1,h _ h2⟩
theorem Fw{op:BinOp}{x y:Value}{f f':EV->Pr}(h:∀v,f v w->f' v w)(hh:xj op x y f w):xj op x y f' w:=by
 unfold xj at *;split at hh<;>first
  |exact hh.elim
  |exact⟨hh.1,h _ hh.2⟩
  |exact h _ hh
  |(
   split at hh
   ·rename_i hk
    first
     |exact(show(if _ then _ else _:Pr) w by rw[jd hk];exact h _ hh)
     |exact(show(if _ then _ else _:Pr) w by rw[jd hk];exact⟨hh.1,h _ hh.2⟩)
   ·exact hh.elim)
theorem HV{P:Program}{t:TypeId}{x y:Value}{f f':Bool->Pr}(h:∀v,f v w->f' v w)(hh:N4 P t x y f w):N4 P t x y f' w:=by
 exact aN (λd=>aN λr=>kJ (h _)) hh
theorem ny{op:BinOp}{f f':Bool->Pr}(h:∀v,f v w->f' v w)(hh:yN op f w):yN op f' w:=by
 cases op<;>first|exact hh.elim|exact h _ hh
theorem HW{op:UnOp}{x:EV}{f f':EV->Pr}(h:∀v,f v w->f' v w)(hh:K0 op x f w):K0 op x f' w:=by
 unfold K0 at *;split at hh<;>first
  |exact hh.elim
  |exact h _ hh
theorem Fx{P:Program}{u v:Value}{f f':Bool->Pr}(h:∀v,f v w->f' v w)(hh:yO P u v f w):yO P u v f' w:=
 let⟨tx,x,ty,y,h1,h2,b,h3,h4⟩:=hh;⟨tx,x,ty,y,h1,h2,b,h3,h _ h4⟩
theorem Fy{P:Program}{t:TypeId}{fs:Array Field}{u v:Value}{f f':Bool->Pr}(h:∀v,f v w->f' v w)(hh:yP P t fs u v f w):yP P t fs u v f' w:=by
 refine gd (λh=>h) (λh1=>?_) hh;obtain⟨xs,ys,rfl,rfl,h2⟩:=lB h1;exact aN (λ_=>h _) h2
theorem Fz{P:Program}{t:TypeId}{u v:Value}{f f':Bool->Pr}(h:∀v,f v w->f' v w)(hh:xk P t u v f w):xk P t u v f' w:=
 yJ (λ_=>Fy h) (HV h) hh
theorem FA{u v:Value}{f f':Bool->Pr}(h:∀v,f v w->f' v w)(hh:tJ u v f w):tJ u v f' w:=by
 unfold tJ at *;split at hh
 ·exact⟨hh.1,h _ hh.2⟩
 ·exact hh.elim
theorem K1{v:Value}{f f':Pr}(h:f w->f' w)(hh:na v f w):na v f' w:=by
 cases v<;>first|exact hh|exact h hh
theorem oa{agg:Nat->Bool}{place:Nat->Option (Nat×Nat)}:∀{ps:List (Nat×Value)} {cells:LV} {f f':LV->Pr},(∀v,f v w->f' v w)->gR agg place cells ps f w->gR agg place cells ps f' w
 |[],_,_,_,h,hh=>h _ hh
 |_::_,_,_,_,h,hh=>aN (λ_=>gd (rB λ_=>oZ (oa h)) (K1 (oZ (oa h)))) hh
theorem o6{e:Env}:∀{l:List (Nat×Operand)} {f f':List (Nat×Value)->Pr},(∀v,f v w->f' v w)->jT e l f w->jT e l f' w
 |[],_,_,h,hh=>h _ hh
 |_::_,_,_,h,hh=>cT (λ_=>o6 λ_=>h _) hh
theorem HX{s:Sl}{f f':ByteArray->Pr}(h:∀v,f v w->f' v w)(hh:N5 s f w):N5 s f' w:=
 let⟨l,h1,h2,h3⟩:=hh;⟨l,h1,h2,h _ h3⟩
theorem A2{P:Program}{s d:TypeId}{x:Value}{f f':EV->Pr}(hd:cj P d=none)(h:∀v,f v w->f' v w)(hh:rC P s d x f w):rC P s d x f' w:=by
 refine aN (λd=>HQ λe he h9=>?_) hh;split at h9
 ·exact h _ h9
 ·exact h _ h9
 ·unfold cj at hd
  rw[he]at hd;cases hd
 ·unfold cj at hd
  rw[he]at hd;cases hd
 ·refine aN (λu h8=>?_) h9
  split at h8
  ·exact HX (λ_=>h _) h8
  ·exact h8.elim
 ·exact h9.elim
theorem FB{l:LV}{f f':Value->Pr}(h:∀v,f v w->f' v w)(hh:vl l f w):vl l f' w:=by
 unfold vl at *;split at hh<;>first|exact hh.elim|exact h _ hh
theorem FC{l:LV}{f f':Value->Pr}(h:∀v,f v w->f' v w)(hh:vm l f w):vm l f' w:=by
 unfold vm at *;split at hh<;>first|exact hh.elim|exact h _ hh
end
def bN(P:Program)(o:Oper):Bool:=
 match o.op with
 |.move _|.assign _|.pick _ _ _|.load _ _|.nilCheck _|.binOp _ _ _ _ _|.unOp _ _ _|.makeFunc _ _ _|.slice _ _ _ _ _|.fieldAddr _ _ _|.field _ _ _
 |.indexAddr _ _ _|.index _ _ _|.lookup _ _ _ _|.extract _ _|.makeInterface _ _|.build _ _=>true
 |.convert _ d _=>match cj P d with|none=>true|some _=>false
 |.call {callee:=.builtin .len, .. }|.call {callee:=.builtin .cap, .. }|.call {callee:=.builtin .min, .. }|.call {callee:=.builtin .max, .. }=>true
 |_=>false
section
variable{P:Program}{e:Env}{w:World}{k:EV->Pr}
def MT:Builtin->Bool
 |.len|.cap|.min|.max=>true
 |_=>false
theorem vn{b:Builtin}{ts:List TypeId}{args:LV}{k':EV->Pr}(hb:MT b=true)(hk:∀x,k x w->k' x w)(h:eF P b ts args k w):eF P b ts args k' w:=by
 unfold eF at *;split at h<;>first
  |exact h.elim
  |exact aN (λ_=>aN λ_=>hk _) h
  |exact aN (λ_=>aN λ_=>yM λ_=>hk _) h
  |exact FB (λ_=>hk _) h
  |exact FC (λ_=>hk _) h
  |(
   refine aN (λ_=>aN λd h=>?_) h
   cases d<;>first|exact h.elim|exact hk _ h)
  |simp[MT]at hb
theorem HY{o:Oper}{k':EV->Pr}(hr:bN P o=true)(hk:∀x,k x w->k' x w)(h:cop P o e k w):cop P o e k' w:=by
 obtain⟨dst,op,ty,pos,after,guard⟩:=o;cases op<;>simp only[bN,Bool.false_eq_true]at hr<;>simp only[cop]at h⊢
 case move x=>exact cT (λ_=>hk _) h
 case assign x=>exact cT (λ_=>hk _) h
 case pick c x y=>exact HR (cT λ_=>hk _) (cT λ_=>hk _) h
 case load t x=>exact cT (λ_=>tG λ_=>yK λ_=>hk _) h
 case nilCheck x=>
  refine cT (λv h=>?_) h;cases v<;>first
   |exact lz (λ_=>hk _) h
   |exact kJ (hk _) h
   |exact h
 case binOp op t x y ty2=>
  refine gd (cT λu=>ny λneg=>kJ (hk _)) (λh=>?_) h;refine cT (λu=>cT λv=>gd (ny λneg=>Fx λ_=>hk _)<|gd (ny λneg=>FA λ_=>hk _)<|gd (Fw hk) λh=>?_) h;exact ny (λneg=>Fz λ_=>hk _) h
 case unOp op t x=>exact HW hk h
 case convert s d x=>
  have hd:cj P d=none:=by
   cases hs:cj P d with
   |none=>rfl
   |some _=>rw[hs]at hr;cases hr
  exact cT (λ_=>A2 hd hk) h
 case makeFunc fn f c=>exact o0 (λ_=>o0 λ_=>hk _) h
 case makeInterface t x=>exact cT (λ_=>aN λ_=>gd (λh=>h) (hk _)) h
 case build t ps=>
  refine aN (λz=>o6 λps=>aN λd h=>?_) h;cases d<;>first
   |exact h.elim
   |exact aN (λ_=>oa λ_=>hk _) h
 case slice t x lo hi mx=>
  refine cT (λv=>tI λl=>tI λh=>tI λm h=>?_) h;cases v<;>first
   |exact aN (λ_=>aN λ_=>HU λ_=>hk _) h
   |(
    refine aN (λd h=>?_) h
    cases d<;>first
     |exact h.elim
     |(cases m<;>first|exact h.elim|exact yL (λ_=>hk _) h))
   |exact h
 case fieldAddr s x f=>exact cT (λ_=>tG λ_=>aN λ_=>aN λ_=>oZ (hk _)) h
 case field s x f=>exact cT (λ_=>rB λ_=>aN λ_=>aN λ_=>aN λ_=>gd (hk _) (aN λ_=>hk _)) h
 case indexAddr t x ix=>
  refine cT (λv=>cT λ_=>mN λn h=>?_) h;cases v<;>first
   |exact aN (λ_=>aN λ_=>kJ (lz λ_=>hk _)) h
   |(
    refine aN (λd h=>?_) h
    cases d<;>first
     |exact h.elim
     |exact aN (λ_=>kJ (lz λ_=>hk _)) h)
   |exact h
 case index t x ix=>
  refine cT (λv=>cT λ_=>mN λn h=>?_) h;cases v<;>first
   |(
    refine aN (λd h=>?_) h
    cases d<;>first
     |exact h.elim
     |exact kJ (hk _) h)
   |exact h
 case lookup t x ix ok=>
  exact cT (λ_=>cT λ_=>A0 λ_=>aN λ_=>aN λ_=>gd (aN λ_=>aN λ_=>aN λ_=>A1 λ_ _=>gd (hk _) (hk _)) id) h
 case extract t ix=>
  cases hx:Env.ev e t with
  |
   Af=>
   rw[hx]at h
   match ix,h with
   |0,h=>exact hk _ h
   |_+1,h=>exact h.elim
  |
   Ah k1 v1=>
   rw[hx]at h
   match ix,h with
   |0,h=>exact hk _ h
   |1,h=>exact hk _ h
   |2,h=>exact hk _ h
   |_+3,h=>exact h.elim
  |
   AZ k1 v1=>
   rw[hx]at h
   match ix,h with
   |0,h=>exact aN (λ_ h=>aN (λ_ ⟨p,hp,h⟩=>⟨p,hp,hk _ h⟩) h) (show rD P _ _ w from h)
   |1,h=>exact aN (λ_ h=>aN (λ_ ⟨p,hp,h⟩=>⟨p,hp,hk _ h⟩) h) (show rD P _ _ w from h)
   |_+2,h=>exact h.elim
  |no=>rw[hx]at h;exact h.elim
  |lit b=>rw[hx]at h;exact h.elim
  |
   val v=>
   rw[hx]at h;cases v<;>first|exact h.elim|skip
   exact aN (λ_=>hk _) (show opt _ _ w from h)
 case call c=>
  obtain⟨callee,args,ats⟩:=c;cases callee<;>(try(simp at hr;done));rename_i b;refine o0 (λargs h=>?_) h;refine vn (b:=b) ?_ hk h;cases b<;>first|rfl|simp at hr
theorem HZ{o:Oper}(hr:bN P o=true)(h:cop P o e k w):cop P o e (λx w'=>k x w'/\w'=w) w:=HY hr (λ_ h=>⟨h,rfl⟩) h
end
section
variable{w:World}
theorem eP{x:EV}{f:Value->Pr}(hh:nd x f w):∃v,f v w/\∀(f':Value->Pr) w',f' v w'->nd x f' w':=by
 cases x with
 |no=>exact hh.elim
 |val v=>exact⟨v,hh,λ_ _ h=>h⟩
 |lit b=>exact⟨_,hh,λ_ _ h=>h⟩
 |Af=>exact⟨_,hh,λ_ _ h=>h⟩
 |Ah _ _=>exact⟨_,hh,λ_ _ h=>h⟩
 |AZ _ _=>exact⟨_,hh,λ_ _ h=>h⟩
theorem sK{x:EV}{k:EV->Pr}(hh:nd x (λ_=>k x) w):∃y v,y.v? =some v/\k y w/\∀(k':EV->Pr) w',k' y w'->nd x (λ_=>k' x) w':=by
 cases x with
 |no=>exact hh.elim
 |val v=>exact⟨_,v,rfl,hh,λ_ _ h=>h⟩
 |lit b=>exact⟨_,_,rfl,hh,λ_ _ h=>h⟩
 |Af=>exact⟨_,_,rfl,hh,λ_ _ h=>h⟩
 |Ah _ _=>exact⟨_,_,rfl,hh,λ_ _ h=>h⟩
 |AZ _ _=>exact⟨_,_,rfl,hh,λ_ _ h=>h⟩
theorem bp{α:Type}{x:Option α}{f:α->Pr}(hh:opt x f w):∃v,f v w/\∀(f':α->Pr) w',f' v w'->opt x f' w':=by
 cases x with
 |none=>exact hh.elim
 |some v=>exact⟨v,hh,λ_ _ h=>h⟩
theorem sL{p:Prop}[Decidable p]{f:Pr}(hh:qq p f w):f w/\∀(f':Pr) w',f' w'->qq p f' w':=by
 obtain⟨hp,h⟩:=dL hh;exact⟨h,λf' w' h'=>by unfold qq;rw[jd hp];exact h'⟩
theorem nA{p:OA}{f:Addr->Pr}(hh:deref p f w):∃v,f v w/\∀(f':Addr->Pr) w',f' v w'->deref p f' w':=
 let⟨a,h1,h2⟩:=eZ.1 hh;⟨a,h2,λ_ _ h=>eZ.2 ⟨a,h1,h⟩⟩
theorem K2{x:EV}{f g:Pr}(hh:Hi x f g w):(f w/\∀(f' g':Pr) w',f' w'->Hi x f' g' w')\/(g w/\∀(f' g':Pr) w',g' w'->Hi x f' g' w'):=by
 unfold Hi at *;split at hh
 ·exact .inl ⟨hh,λ_ _ _ h=>h⟩
 ·exact .inr ⟨hh,λ_ _ _ h=>h⟩
 ·rename_i b
  unfold br at *;cases b with
  |true=>exact .inl ⟨by simpa using hh,λf' g' w' h=>by simpa using h⟩
  |false=>exact .inr ⟨by simpa using hh,λf' g' w' h=>by simpa using h⟩
 ·exact hh.elim
theorem vG{v:Value}{f:Addr->Pr}(hh:mM v f w):∃a,f a w/\∀(f':Addr->Pr) w',f' a w'->mM v f' w':=by
 cases v with
 |pointer p=>exact nA hh
 |_=>exact hh.elim
theorem tK{v:Value}{f:Int->Pr}(hh:ko v f w):∃a,f a w/\∀(f':Int->Pr) w',f' a w'->ko v f' w':=by
 cases v with
 |int k n=>exact⟨n,hh,λ_ _ h=>h⟩
 |_=>exact hh.elim
theorem tL{v:Value}{f:Array Value->Pr}(hh:iq v f w):∃a,f a w/\∀(f':Array Value->Pr) w',f' a w'->iq v f' w':=by
 cases v with
 |agg k=>exact⟨k,hh,λ_ _ h=>h⟩
 |_=>exact hh.elim
theorem xl{x:Option EV}{f:Option Int->Pr}(hh:MR x f w):∃a,f a w/\∀(f':Option Int->Pr) w',f' a w'->MR x f' w':=by
 cases x with
 |none=>exact⟨none,hh,λ_ _ h=>h⟩
 |
  some x=>
  obtain⟨v,h1,h2⟩:=eP hh;obtain⟨n,h3,h4⟩:=tK h1;exact⟨some n,h3,λf' w' h=>h2 _ _ (h4 (λn=>f' (some n)) _ h)⟩
theorem sN:∀{l:List EV} {f:LV->Pr},Hj l f w->∃a,f a w/\∀(f':LV->Pr) w',f' a w'->Hj l f' w'
 |[],_,hh=>⟨[],hh,λ_ _ h=>h⟩
 |
  x::l,f,hh=>by
  obtain⟨v,h1,h2⟩:=eP hh;obtain⟨vs,h3,h4⟩:=sN h1;exact⟨v::vs,h3,λf' w' h=>h2 _ _ (h4 (λvs=>f' (v::vs)) _ h)⟩
theorem K3{n:Nat}{s:Sl}{lo hi mx:Option Int}{f:Sl->Pr}(hh:slc n s lo hi mx f w):∃r,f r w/\∀(f':Sl->Pr) w',f' r w'->slc n s lo hi mx f' w':=
 ⟨_,hh.2.2.2.2,λ_ _ h=>⟨hh.1,hh.2.1,hh.2.2.1,hh.2.2.2.1,h⟩⟩
theorem A3{s:ByteArray}{lo hi:Option Int}{f:ByteArray->Pr}(hh:qs s lo hi f w):∃r,f r w/\∀(f':ByteArray->Pr) w',f' r w'->qs s lo hi f' w':=
 ⟨_,hh.2.2,λ_ _ h=>⟨hh.1,hh.2.1,h⟩⟩
theorem H6{op:BinOp}{x y:Value}{k:EV->Pr}(hh:xj op x y k w):∃v,k (.val v) w/\∀(k':EV->Pr) w',k' (.val v) w'->xj op x y k' w':=by
 unfold xj at *;split at hh<;>first
  |exact hh.elim
  |exact⟨_,hh.2,λ_ _ h=>⟨hh.1,h⟩⟩
  |(
   split at hh
   ·rename_i hk
    first
     |exact⟨_,hh.2,λk' w' h=>by rw[jd hk];exact⟨hh.1,h⟩⟩
     |exact⟨_,hh,λk' w' h=>by rw[jd hk];exact h⟩
   ·exact hh.elim)
  |exact⟨_,hh,λ_ _ h=>h⟩
theorem K4{P:Program}{t:TypeId}{x y:Value}{f:Bool->Pr}(hh:N4 P t x y f w):∃b,f b w/\∀(f':Bool->Pr) w',f' b w'->N4 P t x y f' w':=by
 obtain⟨d,h1,g1⟩:=bp hh;obtain⟨r,h2,g2⟩:=bp h1;exact⟨r.2,h2.2,λf' w' h=>g1 _ _ (g2 _ _ ⟨h2.1,h⟩)⟩
theorem H7{P:Program}{x y:Value}{f:Bool->Pr}(hh:yO P x y f w):∃b,f b w/\∀(f':Bool->Pr) w',f' b w'->yO P x y f' w':=by
 obtain⟨tx,u,ty,v,h1,h2,b,h3,h4⟩:=hh;exact⟨b,h4,λf' w' h=>⟨tx,u,ty,v,h1,h2,b,h3,h⟩⟩
theorem H8{x y:Value}{f:Bool->Pr}(hh:tJ x y f w):∃b,f b w/\∀(f':Bool->Pr) w',f' b w'->tJ x y f' w':=by
 unfold tJ at *;split at hh
 ·exact⟨_,hh.2,λf' w' h=>⟨hh.1,h⟩⟩
 ·exact hh.elim
theorem H9{P:Program}{t:TypeId}{x y:Value}{f:Bool->Pr}(hh:xk P t x y f w):∃b,f b w/\∀(f':Bool->Pr) w',f' b w'->xk P t x y f' w':=by
 unfold xk at hh⊢;cases hs:lC P t with
 |
  some fs=>
  rw[hs]at hh;have h0:yP P t fs x y f w:=hh;unfold yP at h0;cases hg:(P.eqGuardType P.depth t||P.stoodInHeld t)with
  |true=>rw[hg]at h0;exact h0.elim
  |
   false=>
   rw[hg]at h0;obtain⟨xs,ys,rfl,rfl,h1⟩:=lB (show xm x y (λxs ys=>opt (N6 P xs ys fs.toList) f) w from h0);obtain⟨b,h2,g2⟩:=bp h1;refine⟨b,h2,λf' w' h=>?_⟩;show yP P t fs _ _ f' w';unfold yP;rw[hg];exact g2 _ _ h
 |
  none=>
  rw[hs]at hh;exact K4 hh
theorem o7{op:BinOp}{f:Bool->Pr}(hh:yN op f w):∃b,f b w/\∀(f':Bool->Pr) w',f' b w'->yN op f' w':=by
 cases op<;>first|exact hh.elim|exact⟨_,hh,λ_ _ h=>h⟩
theorem K5{op:UnOp}{x:EV}{k:EV->Pr}(hh:K0 op x k w):∃y v,y.v? =some v/\k y w/\∀(k':EV->Pr) w',k' y w'->K0 op x k' w':=by
 unfold K0 at *;split at hh<;>first
  |exact hh.elim
  |exact⟨_,_,rfl,hh,λ_ _ h=>h⟩
end
def A4(P:Program)(t:TypeId):Bool:=
 match P.underlying t with
 |some (.map _ _)=>false
 |some _=>true
 |none=>false
def yQ(P:Program)(b:Builtin)(ts:List TypeId):Bool:=
 match b with
 |.min=>true
 |.max=>true
 |.len=>(match ts with|t::_=>A4 P t|[]=>false)
 |.cap=>(match ts with|t::_=>A4 P t|[]=>false)
 |_=>false
def fu(P:Program)(o:Oper):Bool:=
 match o.op with
 |.move _|.assign _|.pick _ _ _|.nilCheck _|.binOp _ _ _ _ _|.unOp _ _ _|.makeFunc _ _ _|.slice _ _ _ _ _|.fieldAddr _ _ _|.field _ _ _
 |.indexAddr _ _ _|.extract _ _|.makeInterface _ _|.build _ _=>true
 |.convert s d _=>ir P s&&ir P d
 |.call {callee:=.builtin b,argTypes:=ts, .. }=>yQ P b ts.toList
 |_=>false
section
variable{P:Program}{e:Env}{a:Act}{w:World}{k:EV->Pr}
theorem Ia{l:LV}{f:Value->Pr}(hh:vl l f w):∃v,f v w/\∀(f':Value->Pr) w',f' v w'->vl l f' w':=by
 unfold vl at hh;split at hh<;>first|exact hh.elim|exact⟨_,hh,λ_ _ h=>h⟩
theorem Ib{l:LV}{f:Value->Pr}(hh:vm l f w):∃v,f v w/\∀(f':Value->Pr) w',f' v w'->vm l f' w':=by
 unfold vm at hh;split at hh<;>first|exact hh.elim|exact⟨_,hh,λ_ _ h=>h⟩
theorem xp{b:Builtin}{ts:List TypeId}{args:LV}(hb:yQ P b ts=true)(h:eF P b ts args k w):
 ∃x v,x.v? =some v/\k x w/\∀(k':EV->Pr) w',k' x w'->eF P b ts args k' w':=by
 cases b<;>simp only[yQ,Bool.false_eq_true]at hb
 case min=>
  obtain⟨v,h1,g1⟩:=Ia (show vl args _ w from h);exact⟨.val v,v,rfl,h1,λk' w' h=>g1 (λv=>k' (.val v)) _ h⟩
 case max=>
  obtain⟨v,h1,g1⟩:=Ib (show vm args _ w from h);exact⟨.val v,v,rfl,h1,λk' w' h=>g1 (λv=>k' (.val v)) _ h⟩
 case len=>
  cases ts with
  |nil=>cases hb
  |
   cons t ts=>
   match args,h with
   |
    [.slice a n c],h=>
    simp only[eF]at h⊢;obtain⟨t',h1,g1⟩:=bp h;obtain⟨e,h2,g2⟩:=bp h1;exact⟨_,_,rfl,h2,λk' w' h=>g1 _ _ (g2 (λ_=>k' (.val (.int .i64 n))) _ h)⟩
   |
    [.string s],h=>
    simp only[eF]at h⊢;obtain⟨t',h1,g1⟩:=bp h;obtain⟨d,h2,g2⟩:=bp h1;cases d<;>first|exact h2.elim|skip
    exact⟨_,_,rfl,h2,λk' w' h=>g1 _ _ (g2 _ _ h)⟩
   |
    [.map r],h=>
    exfalso;simp only[eF]at h;obtain⟨t',ht,h1⟩:=ai h;simp only[List.getElem?_cons_zero,jg]at ht;subst ht;obtain⟨ke,Fi,_⟩:=ai h1;have:=eL Fi;simp[A4,this]at hb
 case cap=>
  cases ts with
  |nil=>cases hb
  |
   cons t ts=>
   match args,h with
   |
    [.slice a m n],h=>
    simp only[eF]at h⊢;obtain⟨t',h1,g1⟩:=bp h;obtain⟨e,h2,g2⟩:=bp h1;exact⟨_,_,rfl,h2,λk' w' h=>g1 _ _ (g2 (λ_=>k' (.val (.int .i64 n))) _ h)⟩
theorem N7{v:Value}{f:Pr}(hh:na v f w):f w/\∀(f':Pr) w',f' w'->na v f' w':=by
 cases v<;>first|exact hh.elim|exact⟨hh,λ_ _ h=>h⟩
theorem qt{agg:Nat->Bool}{place:Nat->Option (Nat×Nat)}:∀{ps:List (Nat×Value)} {cells:LV} {f:LV->Pr},gR agg place cells ps f w->∃c,f c w/\∀(f':LV->Pr) w',f' c w'->gR agg place cells ps f' w'
 |[],cells,f,h=>⟨cells,h,λ_ _ h=>h⟩
 |
  (i,v)::ps,cells,f,h=>by
  obtain⟨os,h1,g1⟩:=bp (show opt (place i) _ w from h);have hh:∀(f':LV->Pr) w',(tf (agg i) (iq v λcs=>qq (cs.size=os.2/\os.1+os.2<=cells.length) (gR agg place (cells.take os.1++cs.toList++cells.drop (os.1+os.2)) ps f'))
   (na v (qq (os.2=1/\os.1+1<=cells.length) (gR agg place (cells.set os.1 v) ps f')))) w'->gR agg place cells ((i,v)::ps) f' w':=λf' w' h=>g1 (λos=>tf (agg i) (iq v λcs=>qq (cs.size=os.2/\os.1+os.2<=cells.length) (gR agg place (cells.take os.1++cs.toList++cells.drop (os.1+os.2)) ps f'))
   (na v (qq (os.2=1/\os.1+1<=cells.length) (gR agg place (cells.set os.1 v) ps f')))) w' h
  cases ha:agg i with
  |
   true=>
   rw[ha]at h1;obtain⟨cs,h2,g2⟩:=tL (show iq v _ w from h1);obtain⟨h3,g3⟩:=sL h2;obtain⟨c,h4,g4⟩:=qt h3;refine⟨c,h4,λf' w' h=>hh f' w' ?_⟩;rw[ha];exact g2 (λcs=>qq (cs.size=os.2/\os.1+os.2<=cells.length) (gR agg place (cells.take os.1++cs.toList++cells.drop (os.1+os.2)) ps f')) _ (g3 _ _ (g4 _ _ h))
  |
   false=>
   rw[ha]at h1;obtain⟨h2,g2⟩:=N7 (show na v _ w from h1);obtain⟨h3,g3⟩:=sL h2;obtain⟨c,h4,g4⟩:=qt h3;refine⟨c,h4,λf' w' h=>hh f' w' ?_⟩;rw[ha];exact g2 _ _ (g3 _ _ (g4 _ _ h))
theorem rE{e:Env}:∀{l:List (Nat×Operand)} {f:List (Nat×Value)->Pr},jT e l f w->∃c,f c w/\∀(f':List (Nat×Value)->Pr) w',f' c w'->jT e l f' w'
 |[],f,h=>⟨[],h,λ_ _ h=>h⟩
 |
  (i,x)::l,f,h=>by
  obtain⟨v,h1,g1⟩:=eP h;obtain⟨c,h2,g2⟩:=rE h1;exact⟨(i,v)::c,h2,λf' w' h=>g1 _ _ (g2 (λvs=>f' ((i,v)::vs)) _ h)⟩
theorem K6{o:Oper}(hr:fu P o=true)(h:cop P o e k w):∃x v,x.v? =some v/\k x w/\∀(k':EV->Pr) w',k' x w'->cop P o e k' w':=by
 obtain⟨dst,op,ty,pos,after,guard⟩:=o;cases op<;>simp only[fu,Bool.false_eq_true]at hr<;>simp only[cop]at h⊢
 case move x=>exact sK h
 case assign x=>exact sK h
 case pick c x y=>
  unfold Ic at *;rcases K2 h with⟨h,g⟩|⟨h,g⟩
  ·obtain⟨z,v,h1,h2,h3⟩:=sK h
   exact⟨z,v,h1,h2,λk' w' h=>g _ _ _ (h3 k' w' h)⟩
  ·obtain⟨z,v,h1,h2,h3⟩:=sK h
   exact⟨z,v,h1,h2,λk' w' h=>g _ _ _ (h3 k' w' h)⟩
 case nilCheck x=>
  obtain⟨v,h1,h2⟩:=eP h;clear h;cases v with
  |
   pointer p=>
   obtain⟨ad,h3,h4⟩:=nA h1;exact⟨_,_,rfl,h3,λk' w' h=>h2 _ _ (h4 _ _ h)⟩
  |func fn f1 f2=>exact⟨_,_,rfl,h1.2,λk' w' h=>h2 _ _ ⟨h1.1,h⟩⟩
  |int _ _=>exact h1.elim
  |bool _=>exact h1.elim
  |string _=>exact h1.elim
  |nilIface=>exact h1.elim
  |slice _ _ _=>exact h1.elim
  |map _=>exact h1.elim
  |float _ _=>exact(h1.1:False).elim
  |complex _ _ _=>exact(h1.1:False).elim
  |chan _=>exact(h1.1:False).elim
  |nilFunc=>exact(h1.1:False).elim
  |iface _ _=>exact(h1.1:False).elim
  |agg _=>exact(h1.1:False).elim
  |tuple _=>exact(h1.1:False).elim
 case binOp op t x y ty2=>
  cases hb:(Ie y&&A5 P t)with
  |
   true=>
   rw[hb]at h;simp only[tf]at h⊢;obtain⟨u,h1,h2⟩:=eP h;obtain⟨neg,h3,g3⟩:=o7 (f:=λneg=>bZ (YK u) (k (.val (.bool (if neg then !mP u else mP u))))) h1;exact⟨_,_,rfl,h3.2,λk' w' h=>h2 _ _ (g3 (λneg=>bZ (YK u) (k' (.val (.bool (if neg then !mP u else mP u))))) _ ⟨h3.1,h⟩)⟩
  |false=>
  rw[hb]at h;simp only[tf]at h⊢;obtain⟨u,h1,h2⟩:=eP h;obtain⟨v,h3,h4⟩:=eP h1;clear h h1;cases hi:A5 P t with
  |
   true=>
   rw[hi]at h3;obtain⟨neg,Rg,g4⟩:=o7 (f:=λneg=>yO P u v λb=>k (.val (.bool (if neg then !b else b)))) h3;obtain⟨r,h5,h6⟩:=H7 Rg;exact⟨_,_,rfl,h5,λk' w' h=>h2 _ _ (h4 _ _ (by exact g4 (λneg=>yO P u v λb=>k' (.val (.bool (if neg then !b else b)))) _ (h6 (λb=>k' (.val (.bool (if neg then !b else b)))) _ h)))⟩
  |false=>
  rw[hi]at h3;cases hp:K7 P t x y with
  |
   true=>
   rw[hp]at h3;obtain⟨neg,Rg,g4⟩:=o7 (f:=λneg=>tJ u v λb=>k (.val (.bool (if neg then !b else b)))) h3;obtain⟨r,h5,h6⟩:=H8 Rg;exact⟨_,_,rfl,h5,λk' w' h=>h2 _ _ (h4 _ _ (by exact g4 (λneg=>tJ u v λb=>k' (.val (.bool (if neg then !b else b)))) _ (h6 (λb=>k' (.val (.bool (if neg then !b else b)))) _ h)))⟩
  |false=>
  rw[hp]at h3;replace h4:∀(f':Value->Pr) w',f' v w'->nd (Env.ev e y) f' w':=h4;cases hn:xq v u with
  |
   true=>
   rw[hn]at h3;obtain⟨r,h5,h6⟩:=H6 h3;exact⟨_,_,rfl,h5,λk' w' h=>h2 _ _ (h4 _ _ (by rw[hn];exact h6 _ _ h))⟩
  |
   false=>
   rw[hn]at h3;obtain⟨neg,Rg,g4⟩:=o7 (f:=λneg=>xk P t u v λb=>k (.val (.bool (if neg then !b else b)))) h3;obtain⟨r,h5,h6⟩:=H9 Rg;exact⟨_,_,rfl,h5,λk' w' h=>h2 _ _ (h4 _ _ (by rw[hn];exact g4 (λneg=>xk P t u v λb=>k' (.val (.bool (if neg then !b else b)))) _ (h6 (λb=>k' (.val (.bool (if neg then !b else b)))) _ h)))⟩
 case unOp op t x=>exact K5 h
 case makeInterface t x=>
  obtain⟨v,h1,g1⟩:=eP h;obtain⟨d,h2,g2⟩:=bp h1;cases hi:rF d with
  |true=>rw[hi]at h2;exact h2.elim
  |
   false=>
   rw[hi]at h2;refine⟨_,_,rfl,h2,λk' w' h=>g1 _ _ (g2 (λd=>tf (rF d) cX (k' (.val (.iface t v)))) _ ?_)⟩;rw[hi];exact h
 case build t ps=>
  obtain⟨z,h1,g1⟩:=bp h;obtain⟨l,h2,g2⟩:=rE h1;obtain⟨d,h3,g3⟩:=bp h2;clear h h1 h2;cases d<;>first|exact h3.elim|skip
  all_goals
   obtain⟨q,h4,g4⟩:=bp h3;obtain⟨cs,h5,g5⟩:=qt h4;exact⟨_,_,rfl,h5,λk' w' h=>g1 _ _ (g2 _ _ (g3 _ _ (g4 _ _ (g5 (λcs=>k' (.val (.agg cs.toArray))) _ h))))⟩
 case makeFunc fn f c=>
  obtain⟨u,h1,h2⟩:=sN h;obtain⟨v,h3,h4⟩:=sN h1;exact⟨_,_,rfl,h3,λk' w' h=>h2 _ _ (h4 _ _ h)⟩
 case slice t x lo hi mx=>
  obtain⟨v,h1,g1⟩:=eP h;obtain⟨l,h2,g2⟩:=xl h1;obtain⟨hh,h3,g3⟩:=xl h2;obtain⟨m,h4,g4⟩:=xl h3;clear h h1 h2 h3;cases v<;>first|exact h4.elim|skip
  ·obtain⟨d,h5,g5⟩:=bp h4
   clear h4;cases d<;>first|exact h5.elim|skip
   cases m<;>first|exact h5.elim|skip
   obtain⟨r,h6,g6⟩:=A3 h5;exact⟨_,_,rfl,h6,λk' w' h=>g1 _ _ (g2 _ _ (g3 _ _ (g4 _ _ (g5 _ _ (g6 _ _ h)))))⟩
  ·obtain⟨d,h5,g5⟩:=bp h4
   obtain⟨i,h6,g6⟩:=bp h5;obtain⟨r,h7,g7⟩:=K3 h6;exact⟨_,_,rfl,h7,λk' w' h=>g1 _ _ (g2 _ _ (g3 _ _ (g4 _ _ (g5 _ _ (g6 _ _ (g7 (λs=>k' (.val (.slice s.a s.len s.cap))) _ h))))))⟩
 case fieldAddr s x f=>
  obtain⟨v,h1,g1⟩:=eP h;obtain⟨ad,h2,g2⟩:=vG h1;obtain⟨fl,h3,g3⟩:=bp h2;obtain⟨i,h4,g4⟩:=bp h3;obtain⟨h5,g5⟩:=sL h4;exact⟨_,_,rfl,h5,λk' w' h=>g1 _ _ (g2 _ _ (g3 _ _ (g4 _ _ (g5 _ _ h))))⟩
 case field s x f=>
  obtain⟨v,h1,g1⟩:=eP h;obtain⟨ad,h2,g2⟩:=tL h1;obtain⟨fl,h3,g3⟩:=bp h2;obtain⟨i,h4,g4⟩:=bp h3;obtain⟨d,h5,g5⟩:=bp h4;clear h h1 h2 h3 h4;cases hb:ec P fl.type with
  |
   true=>
   rw[hb]at h5;exact⟨_,_,rfl,h5,λk' w' h=>g1 _ _ (g2 _ _ (g3 _ _ (g4 _ _ (g5 _ _ (by rw[hb];exact h)))))⟩
  |
   false=>
   rw[hb]at h5;obtain⟨c,h6,g6⟩:=bp h5;exact⟨_,_,rfl,h6,λk' w' h=>g1 _ _ (g2 _ _ (g3 _ _ (g4 _ _ (g5 _ _ (by rw[hb];exact g6 (λc=>k' (.val c)) _ h)))))⟩
 case indexAddr t x ix=>
  obtain⟨v,h1,g1⟩:=eP h;obtain⟨iv,h2,g2⟩:=eP h1;obtain⟨n,h3,g3⟩:=tK h2;clear h h1 h2;cases v<;>first|exact h3.elim|skip
  ·obtain⟨d,h5,g5⟩:=bp h3
   clear h3;cases d<;>first|exact h5.elim|skip
   obtain⟨i,h6,g6⟩:=bp h5;obtain⟨hb,h7⟩:=h6;obtain⟨ad,h8,g8⟩:=nA h7;exact⟨_,_,rfl,h8,λk' w' h=>g1 _ _ (g2 _ _ (g3 _ _ (g5 _ _ (g6 _ _ ⟨hb,g8 _ _ h⟩))))⟩
  ·obtain⟨d,h5,g5⟩:=bp h3
   obtain⟨i,h6,g6⟩:=bp h5;obtain⟨hb,h7⟩:=h6;obtain⟨ad,h8,g8⟩:=nA h7;exact⟨_,_,rfl,h8,λk' w' h=>g1 _ _ (g2 _ _ (g3 _ _ (g5 _ _ (g6 _ _ ⟨hb,g8 _ _ h⟩))))⟩
 case convert s d x=>
  rw[kf]at hr;obtain⟨v,h1,g1⟩:=eP h;unfold rC at h1;obtain⟨s',hs,h2⟩:=ai h1;obtain⟨d',hd,h3⟩:=ai h2;have ri:=hr.1;have Ig:=hr.2;unfold ir at ri Ig;rw[hs]at ri;rw[hd]at Ig;cases s'<;>(try(simp at ri;done));cases d'<;>(try(simp at Ig;done));cases v<;>first|exact h3.elim|skip
  refine⟨_,_,rfl,h3,λk' w' h=>g1 _ _ ?_⟩;unfold rC;rw[hs,hd];exact h
 case call c=>
  obtain⟨callee,args,ats⟩:=c;cases callee<;>(try(simp at hr;done));rename_i b;obtain⟨vs,h1,g1⟩:=sN h;obtain⟨x,v,hx,h2,g2⟩:=xp (P:=P) (show yQ P b ats.toList=true from hr) h1;exact⟨x,v,hx,h2,λk' w' h=>g1 _ _ (g2 k' w' h)⟩
 case extract t ix=>
  cases hx:Env.ev e t with
  |
   Af=>
   rw[hx]at h
   match ix,h with
   |0,h=>exact⟨.lit false,_,rfl,h,λk' w' h'=>h'⟩
   |_+1,h=>exact h.elim
  |
   Ah k1 v1=>
   rw[hx]at h
   match ix,h with
   |0,h=>exact⟨.lit true,_,rfl,h,λk' w' h'=>h'⟩
   |1,h=>exact⟨.val k1,_,rfl,h,λk' w' h'=>h'⟩
   |2,h=>exact⟨.val v1,_,rfl,h,λk' w' h'=>h'⟩
   |_+3,h=>exact h.elim
  |
   AZ k1 v1=>
   rw[hx]at h
   match ix,h with
   |
    0,h=>
    obtain⟨l,h1,g1⟩:=bp (show rD P _ _ w from h);obtain⟨s,h2,g2⟩:=bp h1;obtain⟨p,hp,h3⟩:=h2;exact⟨_,_,rfl,h3,λk' w' h'=>g1 _ _ (g2 (λs w=>A6 s k1 (λp=>k' (.val (c7 s p))) w) _ ⟨p,hp,h'⟩)⟩
   |
    1,h=>
    obtain⟨l,h1,g1⟩:=bp (show rD P _ _ w from h);obtain⟨s,h2,g2⟩:=bp h1;obtain⟨p,hp,h3⟩:=h2;exact⟨_,_,rfl,h3,λk' w' h'=>g1 _ _ (g2 (λs w=>A6 s v1 (λp=>k' (.val (c7 s p))) w) _ ⟨p,hp,h'⟩)⟩
   |_+2,h=>exact h.elim
  |no=>rw[hx]at h;exact h.elim
  |lit b=>rw[hx]at h;exact h.elim
  |
   val v=>
   rw[hx]at h;cases v<;>first|exact h.elim|skip
   obtain⟨c,h2,g2⟩:=bp (show opt _ _ w from h);exact⟨_,_,rfl,h2,λk' w' h=>g2 (λc=>k' (.val c)) _ h⟩
end
def XW(w w':World):Prop:=w.heap.size<=w'.heap.size/\∀b,b<w.heap.size->w'.heap[b]? =w.heap[b]?
theorem XW.refl(w:World):XW w w:=⟨Nat.le_refl _,λ_ _=>rfl⟩
theorem XW.trans{w w1 w2:World}(h:XW w w1)(k:XW w1 w2):XW w w2:=⟨Nat.le_trans h.1 k.1,λb hb=>(k.2 b (Nat.lt_of_lt_of_le hb h.1)).trans (h.2 b hb)⟩
theorem XW.alloc(w:World)(o:Obj):XW w (w.alloc o):=⟨by simp[World.size_alloc],λb hb=>by
 simp only[World.alloc];rw[Array.getElem?_push];split
 ·omega
 ·rfl⟩
theorem XW.drew(w:World):XW w w.drew:=⟨Nat.le_refl _,λb _=>rfl⟩
def PX{α:Type}(P:Program)(s:Sem α):Prop:=∀w v w',s.run P w=.ok v w'->XW w w'
def iu{α:Type}(P:Program)(s:Sem α):Prop:=∀w v w',s.run P w≠.ok v w'
section
variable{P:Program}
theorem PX.bind{α β:Type}{s:Sem α}{f:α->Sem β}(h:PX P s)(k:∀v,PX P (f v)):PX P (s>>=f):=by
 intro w v w' hr;rw[Sem.run_bind]at hr;cases hs:s.run P w with
 |ok u w1=>rw[hs]at hr;exact(h _ _ _ hs).trans (k u _ _ _ hr)
 |halt x w1=>rw[hs]at hr;cases hr
theorem iu.bind{α β:Type}{s:Sem α}{f:α->Sem β}(k:∀v,iu P (f v)):iu P (s>>=f):=by
 intro w v w' hr;rw[Sem.run_bind]at hr;cases hs:s.run P w with
 |ok u w1=>rw[hs]at hr;exact k u _ _ _ hr
 |halt x w1=>rw[hs]at hr;cases hr
theorem iu.px{α:Type}{s:Sem α}(h:iu P s):PX P s:=λw v w' hr=>(h w v w' hr).elim
theorem PX.pure{α:Type}(v:α):PX P (Pure.pure v:Sem α):=by
 intro w u w' h;rw[Sem.run_pure]at h;cases h;exact XW.refl _
theorem iu.stuck{α:Type}{s:String}:iu P (Go.stuck s:Sem α):=λw v w' h=>by cases h
theorem iu.unsupported{α:Type}{s:Unsupported}:iu P (Go.unsupported s:Sem α):=λw v w' h=>by cases h
theorem iu.error{α:Type}{s:String}:iu P (runtimePanic (.error s):Sem α):=iu.bind λp w v w' h=>by cases h
theorem PX.newObj(o:Obj):PX P (Go.newObj o):=by
 intro w v w' h;have:(Go.newObj o).run P w=.ok w.heap.size (w.alloc o):=rfl;rw[this]at h;cases h;exact XW.alloc _ _
theorem PX.choose(q:Question):PX P (Go.choose q):=by
 intro w v w' h;rw[run_choose_drew]at h;split at h
 ·cases h;exact XW.refl _
 ·cases h;exact XW.drew _
theorem PX.program:PX P Go.program:=by
 intro w v w' h;cases h;exact XW.refl _
theorem PX.underlying(t:TypeId):PX P (Go.underlying t):=PX.bind PX.program λp=>by
 split
 ·exact PX.pure _
 ·exact iu.stuck.px
theorem PX.typeInfo(t:TypeId):PX P (Go.typeInfo t):=PX.bind PX.program λp=>by
 split
 ·exact PX.pure _
 ·exact iu.stuck.px
theorem PX.sizeOf(t:TypeId):PX P (Go.sizeOf t):=PX.bind (PX.typeInfo t) λ_=>PX.pure _
theorem PX.zeroValue(t:TypeId):PX P (Go.zeroValue t):=PX.bind (PX.typeInfo t) λ_=>by
 split
 ·exact PX.pure _
 ·exact iu.unsupported.px
theorem PX.newRow(t:TypeId)(c:Array Value):PX P (Go.newRow t c):=PX.bind (PX.newObj _) λ_=>PX.pure _
theorem PX.newVar(t:TypeId)(v:Value):PX P (Go.newVar t v):=PX.newRow _ _
theorem PX.askRoom(n:Nat):PX P (Go.askRoom n):=by
 intro w v w' h;rw[run_askRoom]at h;cases h;exact XW.refl _
theorem PX.load(a:Addr):PX P (Go.load a):=by
 intro w v w' h;rw[run_load]at h;split at h
 ·cases h;exact XW.refl _
 ·split at h
  ·cases h;exact XW.refl _
  ·cases h
theorem PX.loadCellsFrom(a:Addr):∀(n i:Nat) (acc:Array Value),PX P (Go.loadCellsFrom a i n acc)
 |0,_,_=>PX.pure _
 |n+1,i,acc=>PX.bind (PX.load _) λv=>PX.loadCellsFrom a n (i+1) _
theorem PX.firstCells(size n:Nat)(x:Value):PX P (Builtin.firstCells size n x):=by
 unfold Builtin.firstCells;split
 ·exact PX.loadCellsFrom _ _ _ _
 ·exact PX.pure _
 ·exact PX.pure _
 ·exact iu.stuck.px
theorem PX.lenOf(x:Value):PX P (Builtin.lenOf x):=by
 unfold Builtin.lenOf;split
 ·exact PX.pure _
 ·exact PX.pure _
 ·exact iu.stuck.px
theorem PX.mark(m:Mark):PX P (Go.mark m):=λw v w' h=>by
 have:(Go.mark m).run P w=.ok () w:=rfl;rw[this]at h;cases h;exact XW.refl _
theorem PX.frozen(a:Addr):PX P (Go.frozen a):=λw v w' h=>by
 rw[run_frozen]at h;cases h;exact XW.refl _
theorem PX.shape(r:Nat):PX P (Go.shape r):=λw v w' h=>by
 rw[run_shape]at h;cases h;exact XW.refl _
theorem PX.ite{α:Type}{c:Prop}[Decidable c]{x y:Sem α}(hx:PX P x)(hy:PX P y):PX P (if c then x else y):=by
 split
 ·exact hx
 ·exact hy
theorem PX.holdsCells(a:Addr)(n:Nat):PX P (Builtin.holdsCells a n):=by
 unfold Builtin.holdsCells;refine PX.bind (PX.shape _) λ_=>?_;split<;>exact PX.pure _
theorem PX.mayShare(size sLen n:Nat)(base:OA)(x:Value):PX P (Builtin.mayShare size sLen n base x):=by
 unfold Builtin.mayShare
 repeat' first
  |exact PX.pure _
  |exact PX.holdsCells _ _
  |exact PX.frozen _
  |(refine PX.bind ?_ λ_=>?_)
  |refine PX.ite ?_ ?_
  |split
  |dsimp only
theorem PX.asInt(x:Value):PX P (Go.asInt x):=by
 unfold Go.asInt Go.asIntOf;refine PX.bind ?_ λ_=>PX.pure _;split<;>first
  |exact PX.pure _
  |exact iu.stuck.px
  |exact iu.unsupported.px
set_option maxHeartbeats 4000000 in
theorem PX.FD(ts:Array TypeId)(ty:TypeId)(x:Value):PX P (Builtin.append_ ts ty #[.slice none 0 0,x]):=by
 unfold Builtin.append_;cases h0:ts[0]?with
 |none=>exact iu.stuck.px
 |
  some t=>
  simp only[List.getElem?_toArray,List.getElem?_cons_zero,List.getElem?_cons_succ]
  repeat' first
   |exact PX.pure _
   |exact iu.stuck.px
   |exact iu.unsupported.px
   |exact iu.error.px
   |exact PX.newRow _ _
   |exact PX.firstCells _ _ _
   |exact PX.zeroValue _
   |exact PX.typeInfo _
   |exact PX.underlying _
   |exact PX.sizeOf _
   |exact PX.choose _
   |exact PX.askRoom _
   |exact PX.lenOf _
   |exact PX.asInt _
   |exact PX.mark _
   |exact PX.mayShare _ _ _ _ _
   |refine PX.ite ?_ ?_
   |(refine PX.bind ?_ λ_=>?_)
   |split
   |dsimp only
def A7:Value->Bool
 |.slice none l c=>Nat.beq l 0&&Nat.beq c 0
 |_=>false
def MU:Operand->Bool
 |.const v=>A7 v
 |_=>false
def Ih:Builtin->Bool
 |.append=>true
 |_=>false
def Ii(c:Call):Bool:=
 match c.callee with
 |.builtin b=>Ih b&&(Nat.beq c.args.size 2&&(match c.args[0]?with|some x=>MU x|none=>false))
 |_=>false
def o8(P:Program)(o:Oper):Bool:=
 match o.op with
 |.alloc _|.box _ _|.buildSlice _ _ _=>true
 |.call c=>Ii c||bN P o
 |_=>bN P o
theorem PX.alloc(t:TypeId)(v:Value):PX P (Instr.alloc t true v):=by
 unfold Instr.alloc;refine PX.bind (PX.zeroValue _) λz=>?_;exact PX.bind (PX.newVar _ _) λ_=>PX.pure _
theorem PX.box(t:TypeId)(v:Value):PX P (Instr.box t v):=by
 unfold Instr.box;exact PX.bind (PX.newVar _ _) λ_=>PX.pure _
theorem PX.buildSlice(t:TypeId)(n:Nat)(ps:Array (Nat×Value)):PX P (Instr.buildSlice t n ps):=by
 unfold Instr.buildSlice
 repeat' first
  |exact PX.pure _
  |exact iu.stuck.px
  |exact iu.unsupported.px
  |exact PX.newRow _ _
  |exact PX.zeroValue _
  |exact PX.underlying _
  |exact PX.sizeOf _
  |refine PX.ite ?_ ?_
  |(refine PX.bind ?_ λ_=>?_)
  |split
  |dsimp only
theorem FE{o:Oper}(h:o8 P o=true)(hr:bN P o=false)(a:Act)(w:World)(nx:Next)(w':World)(hx:(execOp a.eval o).run P w=.ok nx w'):XW w w'/\∃v,nx=.value v:=by
 obtain⟨dst,op,ty,pos,after,guard⟩:=o;have val:∀s:Sem Value,PX P s->(do Pure.pure (Next.value (<-s)):Sem Next).run P w=.ok nx w'->XW w w'/\∃v,nx=.value v:=by
  intro s hs h1;rw[Sem.run_bind]at h1;cases h2:s.run P w with
  |
   ok u w1=>
   rw[h2]at h1;have h3:(Result.ok (Next.value u) w1:Result Next)=.ok nx w':=h1;cases h3;exact⟨hs _ _ _ h2,u,rfl⟩
  |halt x w1=>rw[h2]at h1;cases h1
 unfold o8 at h;cases op
 case alloc T=>
  unfold execOp at hx;dsimp only at hx;exact val _ (PX.alloc _ _) hx
 case box T x=>
  unfold execOp at hx;dsimp only at hx;exact val _ (PX.box _ _) hx
 case buildSlice T n ps=>
  unfold execOp at hx;dsimp only at hx;exact val _ (PX.buildSlice _ _ _) hx
 case call c=>
  dsimp only at h;rw[hr,Bool.or_false]at h;obtain⟨callee,args,ats⟩:=c;unfold Ii at h;cases callee<;>first|(cases h;done)|skip
  rename_i b;simp only[kf]at h;obtain⟨hb,hs,h0⟩:=h;have ri:args.size=2:=Nat.eq_of_beq_eq_true hs;cases b<;>first|(cases hb;done)|skip
  obtain⟨l⟩:=args
  match l,ri,h0,hx with
  |
   [x,y],_,h0,hx=>
   have Fm:a.eval x=.slice none 0 0:=by
    have h1:MU x=true:=h0;obtain⟨v,rfl,h2⟩:∃v,x=.const v/\A7 v=true:=by
     cases x with
     |const v=>exact⟨v,rfl,h1⟩
     |_=>cases h1
    show v=_;unfold A7 at h2;split at h2
    ·rw[kf]at h2
     rw[Nat.eq_of_beq_eq_true h2.1,Nat.eq_of_beq_eq_true h2.2]
    ·cases h2
   refine val (Builtin.append_ ats ty #[.slice none 0 0,a.eval y]) (PX.FD _ _ _) ?_;unfold execOp at hx;dsimp only at hx;unfold resolve at hx;dsimp only at hx;rw[Sem.run_bind,Sem.run_pure,Result.andThen_ok]at hx;dsimp only[invoke]at hx;have hm:(Array.map a.eval {toList:=[x,y]})= #[.slice none 0 0,a.eval y]:=by rw[<-Fm];simp
   rw[hm]at hx;exact hx
 all_goals(dsimp only at h;rw[hr]at h;cases h)
def MV(P:Program)(o:Oper):Bool:=
 match o.op with
 |.load _ _=>true
 |.lookup _ _ _ _=>true
 |.convert _ d _=>tM P d
 |_=>false
theorem Em{w w':World}(h:XW w w'){a:Addr}{v:Value}(hc:w.cell? a=some v):w'.cell? a=some v:=by
 have hlt:a.block<w.heap.size:=by
  rcases Nat.lt_or_ge a.block w.heap.size with h'|h'
  ·exact h'
  ·simp[World.cell?,Array.getElem?_eq_none h']at hc
 unfold World.cell? at hc⊢;rw[h.2 _ hlt];exact hc
theorem ob{w w':World}(h:XW w w'){a:Addr}:∀{l:LV} {i:Nat},c6 w a i l->c6 w' a i l
 |[],_,_=>trivial
 |_::_,_,hr=>⟨Em h hr.1,ob h hr.2⟩
theorem FF{w w':World}(h:XW w w'){a:OA}{l:LV}(hr:cm w a l):cm w' a l:=by
 cases a with
 |none=>exact hr
 |some b=>exact ob h hr
theorem Ij{w w':World}(h:XW w w'){r:Option Nat}{es:Array MapEntry}(hr:Eo w r es):Eo w' r es:=by
 cases r with
 |none=>exact hr
 |
  some b=>
  obtain⟨c,hc⟩:=hr;have hlt:b<w.heap.size:=by
   rcases Nat.lt_or_ge b w.heap.size with h'|h'
   ·exact h'
   ·rw[Array.getElem?_eq_none h']at hc;cases hc
  exact⟨c,(h.2 _ hlt).trans hc⟩
theorem Ik{e:Env}{w:World}{k:EV->Pr}{o:Oper}(hr:MV P o=true)(h:cop P o e k w):∃x v,x.v? =some v/\k x w/\∀(k':EV->Pr) w',XW w w'->k' x w'->cop P o e k' w':=by
 obtain⟨dst,op,ty,pos,after,guard⟩:=o;cases op<;>simp only[MV,Bool.false_eq_true]at hr<;>simp only[cop]at h⊢
 case load t x=>
  obtain⟨p,h1,g1⟩:=eP h;obtain⟨ad,h2,g2⟩:=vG h1;obtain⟨i,h3,g3⟩:=bp (show opt (P.info? t) _ w from h2);cases oc:ec P t with
  |
   true=>
   rw[oc]at h3;obtain⟨l,h4,g4⟩:=bp (show opt (cG P 10 t) _ w from h3);obtain⟨h5,g5⟩:=sL h4;obtain⟨p,h6,h7⟩:=h5;refine⟨_,_,rfl,h7,λk' w' hx hk=>g1 _ _ (g2 _ _ (g3 (λi=>tf (ec P t) (opt (cG P 10 t) λl=>qq (l.length=i.size) (aM l ad λp=>k' (.val (.agg (gv l p).toArray)))) (opt (cG P 1 t) λl=>opt (one? l) λc=>cK c ad λp=>k' (.val (c7 c p)))) _ ?_))⟩;rw[oc];exact g4 (λl=>qq (l.length=i.size) (aM l ad λp=>k' (.val (.agg (gv l p).toArray)))) _ (g5 _ _ ⟨p,ob hx h6,hk⟩)
  |
   false=>
   rw[oc]at h3;obtain⟨l,h4,g4⟩:=bp (show opt (cG P 1 t) _ w from h3);obtain⟨c,h5,g5⟩:=bp h4;obtain⟨p,h6,h7⟩:=h5;refine⟨_,_,rfl,h7,λk' w' hx hk=>g1 _ _ (g2 _ _ (g3 (λi=>tf (ec P t) (opt (cG P 10 t) λl=>qq (l.length=i.size) (aM l ad λp=>k' (.val (.agg (gv l p).toArray)))) (opt (cG P 1 t) λl=>opt (one? l) λc=>cK c ad λp=>k' (.val (c7 c p)))) _ ?_))⟩;rw[oc];exact g4 (λl=>opt (one? l) λc=>cK c ad λp=>k' (.val (c7 c p))) _ (g5 (λc=>cK c ad λp=>k' (.val (c7 c p))) _ ⟨p,Em hx h6,hk⟩)
 case lookup t y ix ok=>
  obtain⟨v,h1,g1⟩:=eP h;obtain⟨key,h2,g2⟩:=eP h1;obtain⟨r,rfl,h3⟩:=jU h2;obtain⟨ke,h4,g4⟩:=bp h3;obtain⟨kd,h5,g5⟩:=bp h4;cases hs:eM kd with
  |false=>rw[hs]at h5;exact h5.elim
  |
   true=>
   rw[hs]at h5;obtain⟨l,h6,g6⟩:=bp (show opt (cG P 1 ke.2) _ w from h5);obtain⟨sh,h7,g7⟩:=bp h6;obtain⟨z,h8,g8⟩:=bp h7;obtain⟨es,res,p,m1,m2,m3,h9⟩:=h8;have fin:∀(x:EV) (u:Value),x.v? =some u->k x w->(∀(k':EV->Pr) w',k' x w'->tf ok (k' (.val (.tuple #[c7 sh p,.bool res.isSome]))) (k' (.val (c7 sh p))) w')->
    ∃x v,x.v? =some v/\k x w/\∀(k':EV->Pr) w',XW w w'->k' x w'->nd (Env.ev e y) (λv=>nd (Env.ev e ix) λkey=>tH v λr=>opt (mapElem P t) λke=>opt (P.underlying ke.1) λkd=>tf (eM kd)
   (opt (cG P 1 ke.2) λl=>opt (one? l) λsh=>opt (zeroOf P ke.2) λz=>iB kd r key sh z λp b=>tf ok (k' (.val (.tuple #[c7 sh p,.bool b]))) (k' (.val (c7 sh p)))) cX) w':=by
     intro x u hx hk ht;refine⟨x,u,hx,hk,λk' w' hw hk'=>g1 _ _ (g2 _ _ (g4 _ _ (g5 _ _ ?_)))⟩;rw[hs];exact g6 _ _ (g7 _ _ (g8 (λz=>iB kd r key sh z λp b=>tf ok (k' (.val (.tuple #[c7 sh p,.bool b]))) (k' (.val (c7 sh p)))) _ ⟨es,res,p,Ij hw m1,m2,m3,ht k' w' hk'⟩))
   cases ok with
   |true=>exact fin _ _ rfl h9 λk' w' h=>h
   |false=>exact fin _ _ rfl h9 λk' w' h=>h
 case convert s d x=>
  have hd:=lD hr;obtain⟨v,h1,g1⟩:=eP h;obtain⟨sd,hsd,h2⟩:=ai h1;obtain⟨dd,ZC,h3⟩:=ai h2;rw[hd]at ZC;simp only[jg]at ZC;subst ZC;cases sd<;>first|exact h3.elim|skip
  ·cases v<;>first|exact h3.elim|skip
   rename_i b;refine⟨_,_,rfl,h3,λk' w' _ hk=>g1 _ _ ?_⟩;unfold rC;rw[hsd,hd];exact hk
  ·rename_i el
   cases v<;>first|exact h3.elim|skip
   rename_i a l c;obtain⟨u,hu,h4⟩:=ai h3;cases u<;>first|exact h4.elim|skip
   rename_i kd;cases kd<;>first|exact h4.elim|skip
   obtain⟨bl,b1,b2,h5⟩:=h4;refine⟨_,_,rfl,h5,λk' w' hx hk=>g1 _ _ ?_⟩;unfold rC;rw[hsd,hd];show opt (P.underlying el) _ w';rw[hu];exact⟨bl,b1,FF hx b2,hk⟩
end
section
variable{P:Program}{ops:Array Oper}{md:Region.Mode}
def tN(ops:Array Oper)(j:Nat):Option Tmp:=(ops[j]?).bind (·.dst)
def me:EV:=.val (.tuple #[])
def gh:EV->Bool
 |.val (.tuple vs)=>vs.toList.isEmpty
 |_=>false
theorem tO{x:EV}(h:gh x=true):x.v? =some undef:=by
 unfold gh at h;split at h
 ·rename_i vs
  have:vs= #[]:=by
   rw[List.isEmpty_iff]at h;exact Array.toList_eq_nil_iff.1 h
  rw[this];rfl
 ·cases h
theorem Ag.mQ{e:Env}{a:Act}(h:Ag e a)(d:Option Tmp):Ag (Env.put e d me) (a.put d undef):=h.put d λu hu=>by
 simp only[me,EV.v?,jg]at hu;exact hu.symm
def o9:Op->Option (FuncId×Array Operand)
 |.defer ⟨.value (.func f),args,_⟩=>some (f,args)
 |_=>none
abbrev KP:=Option (Env->List PanicEntry->Pr)
def KP.at(kp:KP)(e:Env):Option (List PanicEntry->Pr):=
 match kp with
 |none=>none
 |some q=>some (q e)
def PL(P:Program)(kp:KP)(df:Bool)(o:Oper)(e:Env)(k:Env->Pr):Pr:=
 orElse (o9 o.op) (λx=>tf (df&&e.ds.isEmpty) (Hj (x.2.toList.map (Env.ev e)) λargs=>k (Env.put (Env.YJ e {target:=.fn (.func x.1) #[],args:=args.toArray}) o.dst me)) cX)
  (K8 P (kp.at e) o e λv=>k (Env.put e o.dst v))
def ZD(P:Program)(kp:KP)(df:Bool)(o:Oper)(e:Env)(d:Tmp)(b want:Bool)(k:Env->Pr):Pr:=
 tf (b==want) (PL P kp df o (Env.set e d (.lit b)) k) (k (Env.put (Env.set e d (.lit b)) o.dst me))
def vo(P:Program)(kp:KP)(df:Bool)(ops:Array Oper)(o:Oper)(e:Env)(k:Env->Pr):Pr:=
 match o.guard with
 |none=>PL P kp df o e k
 |some (j,want)=>opt (tN ops j) λd=>tf (gh (Env.get e d)) (k (Env.put e o.dst me)) (Hi (Env.get e d) (ZD P kp df o e d true want k) (ZD P kp df o e d false want k))
def lE(ops:Array Oper):Bool:=ops.toList.all λo=>match o.op with|.defer _=>false|_=>true
theorem pk(h:lE ops=true){i:Nat}{o:Oper}(hi:ops[i]? =some o)(c:Call):o.op≠.defer c:=by
 intro hc;have:=List.all_eq_true.1 h o (by simpa using Array.mem_of_getElem? hi);simp[hc]at this
def bO(ops:Array Oper):List Nat:=(match lE ops with|true=>[]|false=>[sx])++ops.toList.filterMap (·.dst)
theorem nB{i:Nat}{o:Oper}{d:Tmp}(hi:ops[i]? =some o)(hd:o.dst=some d):d∈bO ops:=by
 unfold bO;rw[jz,List.mem_filterMap];exact .inr ⟨o,by simpa using Array.mem_of_getElem? hi,hd⟩
theorem FG{j:Nat}{d:Tmp}(h:tN ops j=some d):d∈bO ops:=by
 unfold tN at h;cases ho:ops[j]?with
 |none=>simp[ho]at h
 |some o=>simp[ho]at h;exact nB ho h
theorem yR{o:Oper}{j:Nat}{want b:Bool}{a:Act}{d:Tmp}(hg:o.guard=some (j,want))(hd:tN ops j=some d)(hb:a.tmps[d]? =some (.bool b)):
 Region.wanted o (yielded ops a.tmps)=(b==want):=by
 unfold Region.wanted;rw[hg];unfold yielded;unfold tN at hd;dsimp only;rw[hd];simp[hb]
theorem Ext.set(e:Env)(d:Nat)(v:EV)(W:List Nat)(hd:d∈W):Ext W e (Env.set e d v):=
 ⟨by simp,λt ht=>by rw[Env.cu,jc];rintro⟨rfl,_⟩;exact ht hd,λ_=>rfl,λ_=>rfl⟩
theorem Ext.xu{e e1:Env}{i:Nat}{o:Oper}{v:EV}(hi:ops[i]? =some o)(h:Ext (bO ops) e e1):Ext (bO ops) e (Env.put e1 o.dst v):=
 h.trans (Ext.put e1 o.dst v) (λ_ h=>h) (λt ht=>by
  cases hd:o.dst with
  |none=>simp[hd]at ht
  |some d=>simp[hd]at ht;subst ht;exact nB hi hd)
theorem lF{kp:KP}{df:Bool}{i:Nat}{o:Oper}{e:Env}{a:Act}{w:World}{k:Env->Pr}(he:Ag e a)(hi:ops[i]? =some o)(h:vo P kp df ops o e k w):
 (Region.wanted o (yielded ops a.tmps)=true/\∃e1,Ag e1 a/\Ext (bO ops) e e1/\PL P kp df o e1 k w)\/
 (Region.wanted o (yielded ops a.tmps)=false/\∃e1,Ag e1 a/\Ext (bO ops) e e1/\k (Env.put e1 o.dst me) w):=by
 unfold vo at h;cases hg:o.guard with
 |
  none=>
  rw[hg]at h;exact .inl ⟨by simp[Region.wanted,hg],e,he,Ext.refl _ _,h⟩
 |
  some jw=>
  obtain⟨j,want⟩:=jw;rw[hg]at h;obtain⟨d,hd,h⟩:=ai h;rcases aO h with⟨hs,h⟩|⟨_,h⟩
  ·refine .inr ⟨?_,e,he,Ext.refl _ _,h⟩
   have hv:=he.get d _ (tO hs);unfold Region.wanted;rw[hg];unfold yielded;unfold tN at hd;dsimp only;rw[hd];simp[hv,undef]
  obtain⟨b,hb,h⟩:=qu h;have hw:=yR hg hd (he.get d _ hb);have dr:Ag (Env.set e d (.lit b)) a:=he.lit hb;have hx:Ext (bO ops) e (Env.set e d (.lit b)):=Ext.set _ _ _ _ (FG hd);have key:ZD P kp df o e d b want k w:=by
   rcases h with⟨rfl,h⟩|⟨rfl,h⟩<;>exact h
  rcases aO key with⟨ZE,h⟩|⟨ZE,h⟩
  ·exact .inl ⟨hw.trans ZE,_,dr,hx,h⟩
  ·exact .inr ⟨hw.trans ZE,_,dr,hx,h⟩
theorem xx{op:Op}{f:FuncId}{args:Array Operand}(h:o9 op=some (f,args)):∃ats,op=.defer ⟨.value (.func f),args,ats⟩:=by
 unfold o9 at h;split at h<;>simp_all
theorem FI{r:Option Nat}{n:Nat}{kp:KP}{df:Bool}{Q:Exit->Act->World->Prop}{i:Nat}{o:Oper}{e:Env}{a:Act}{w:World}{k:Env->Pr}{K:Act->World->Prop}(hr:df=true->r=none)
 (he:Ag e a)(hi:ops[i]? =some o)(h:PL P kp df o e k w)(hk:∀e' a' w',Ag e' a'->Ext (bO ops) e e'->k e' w'->K a' w')(hp:∀ch w',KA (kp.at e) ch w'->Q (.panic ch) a w'):
 o.uponIn (wf r) n P a K Q ((o.semAt r a.eval).run P w):=by
 rcases iE h with⟨⟨f,args⟩,hop,h⟩|⟨_,h⟩
 ·rcases aO h with⟨hb,h⟩|⟨_,h⟩
  rotate_left
  ·exact h.elim
  simp only[kf,List.isEmpty_iff]at hb;obtain⟨hdf,hds⟩:=hb;obtain rfl:=hr hdf;obtain⟨ats,heq⟩:=xx hop;have hin:sx∈bO ops:=by
   have:lE ops=false:=by
    cases hn:lE ops with
    |false=>rfl
    |true=>exact absurd heq (pk hn hi _)
   simp[bO,this]
  have hmem:∀t,t∈o.dst.toList->t∈bO ops:=λt ht=>by
   cases hd:o.dst with
   |none=>simp[hd]at ht
   |some d=>simp[hd]at ht;subst ht;exact nB hi hd
  obtain⟨dst,op,ty,pos,after,guard⟩:=o;dsimp only at heq hmem;subst heq;have h1:=fU he h;have hargs:(args.toList.map a.eval).toArray=args.map a.eval:=by rw[<-Array.toList_map,Array.toArray_toList]
  rw[hargs]at h1;have hrun:(execOp a.eval ⟨dst,.defer ⟨.value (.func f),args,ats⟩,ty,pos,after,guard⟩).run P w=.ok (.defer {target:=.fn (.func f) #[],args:=args.map a.eval}) w:=by
   simp[execOp,resolve,Deferred.ofValue,Act.eval,go_sem]
  rw[Oper.semAt_none,hrun,Oper.uponIn_defer];have oc:Ag (Env.YJ e {target:=.fn (.func f) #[],args:=args.map a.eval}) {a with defers:={target:=.fn (.func f) #[],args:=args.map a.eval}::a.defers}:=
   ⟨he.size,he.get,by rw[he.defers];simp[Env.YJ,marks,hds]⟩
  refine hk _ _ _ (oc.mQ dst) ?_ h1;have hx:Ext (bO ops) e (Env.YJ e {target:=.fn (.func f) #[],args:=args.map a.eval}):=⟨rfl,λ_ _=>rfl,λ_=>rfl,λhn=>absurd hin hn⟩;exact hx.trans (Ext.put _ _ _) (λ_ h=>h) hmem
 ·exact A8 he h (λx v w' hg hk'=>hk _ _ _ (he.put o.dst hg) (Ext.xu hi (Ext.refl _ _)) hk') hp
theorem vH{r:Option Nat}{n:Nat}{kp:KP}{df:Bool}{Q:Exit->Act->World->Prop}{i:Nat}{o:Oper}{e:Env}{a:Act}{w:World}{k:Env->Pr}{K:Act->World->Prop}(hr:df=true->r=none)(he:Ag e a)(hi:ops[i]? =some o)
 (h:vo P kp df ops o e k w)(hk:∀e' a' w',Ag e' a'->Ext (bO ops) e e'->k e' w'->K a' w')
 (hp:∀e' a' ch w',Ag e' a'->Ext (bO ops) e e'->KA (kp.at e') ch w'->Q (.panic ch) a' w'):wpOpIn (wf r) n P ops Q i K a w:=by
 unfold wpOpIn;rw[hi];dsimp only;rcases lF he hi h with⟨hw,e1,dr,hx,h1⟩|⟨hw,e1,dr,hx,h1⟩
 ·rw[jd hw]
  refine⟨λ_ _=>trivial,FI hr dr hi h1 (λe2 a2 w2 h2 hx2 hk2=>hk _ _ _ h2 (hx.trans hx2 (λ_ h=>h) (λ_ h=>h)) hk2) (λch w' hq=>hp _ _ _ _ dr hx hq)⟩
 ·rw[jc (by simp[hw])]
  exact⟨λ_ _=>trivial,hk _ _ _ (dr.mQ o.dst) (Ext.xu hi hx) h1⟩
def N8(P:Program)(kp:KP)(df:Bool)(ops:Array Oper):List Nat->Env->(Env->Pr)->Pr
 |[],e,k=>k e
 |i::l,e,k=>opt (ops[i]?) λo=>vo P kp df ops o e λe'=>N8 P kp df ops l e' k
theorem tP{r:Option Nat}{n:Nat}{kp:KP}{df:Bool}{Q:Exit->Act->World->Prop}(hr:df=true->r=none):∀{l:List Nat} {e:Env} {a:Act} {w:World} {k:Env->Pr},Ag e a->N8 P kp df ops l e k w->
 (∀e' a' w',Ag e' a'->Ext (bO ops) e e'->k e' w'->Q .normal a' w')->
 (∀e' a' ch w',Ag e' a'->Ext (bO ops) e e'->KA (kp.at e') ch w'->Q (.panic ch) a' w')->wpOpsIn (wf r) n P ops Q l a w
 |[],_,_,_,_,he,h,hk,_=>hk _ _ _ he (Ext.refl _ _) h
 |
  i::l,e,a,w,k,he,h,hk,hp=>by
  obtain⟨o,ho,h⟩:=ai h;rw[wpOpsIn_cons];exact vH hr he ho h (λe' a' w' he' hx h'=>tP hr he' h' (λe2 a2 w2 dg hx2 h2=>hk _ _ _ dg (hx.trans hx2 (λ_ h=>h) (λ_ h=>h)) h2)
   (λe2 a2 ch w2 dg hx2 h2=>hp _ _ _ _ dg (hx.trans hx2 (λ_ h=>h) (λ_ h=>h)) h2)) hp
variable{n:Nat}{Q:Exit->Act->World->Prop}
def yieldOf:Next->Option Value
 |.value v=>some v
 |.skip=>some undef
 |_=>none
theorem A9{F:Fence}{o:Oper}{a:Act}{w:World}{next:Act->World->Prop}{nx:Next}{v:Value}(hv:yieldOf nx=some v)(h:next (a.put o.dst v) w):o.uponIn F n P a next Q (.ok nx w):=by
 cases nx<;>simp only[yieldOf,jg,reduceCtorEq]at hv
 ·subst hv;exact h
 ·subst hv;exact h
def fk(P:Program)(ops:Array Oper)(n:Nat)(Q:Exit->Act->World->Prop)(i:Nat)(K:Act->World->Prop)(a:Act)(w:World):Prop:=
 match ops[i]?with
 |none=>K a w
 |
  some o=>
  if bN P o=true then
   (Region.wanted o (yielded ops a.tmps)=true/\∃nx v,(execOp a.eval o).run P w=.ok nx w/\yieldOf nx=some v/\K (a.put o.dst v) w)\/
   (Region.wanted o (yielded ops a.tmps)=false/\K (a.put o.dst undef) w)
  else wpOpIn (wf none) n P ops Q i K a w
def gi(P:Program)(md:Region.Mode)(ops:Array Oper)(n:Nat)(Q:Exit->Act->World->Prop):Nat->Array Bool->Act->World->Prop
 |0,listed,a,w=>Region.ready md ops listed=[]/\Q .normal a w
 |
  fuel+1,listed,a,w=>
  (Region.ready md ops listed=[]->Q .normal a w)/\
  ∀i∈Region.ready md ops listed,fk P ops n Q i (gi P md ops n Q fuel (listed.setIfInBounds i true)) a w
theorem od{i:Nat}{K K':Act->World->Prop}{a:Act}{w:World}(h:∀a w,K a w->K' a w)(hh:fk P ops n Q i K a w):fk P ops n Q i K' a w:=by
 unfold fk at *;cases ho:ops[i]?with
 |none=>rw[ho]at hh;exact h _ _ hh
 |
  some o=>
  simp only[ho]at hh⊢;by_cases hr:bN P o=true
  ·rw[jd hr]at hh⊢
   rcases hh with⟨h1,nx,v,h2,hv,h3⟩|⟨h1,h2⟩
   ·exact .inl ⟨h1,nx,v,h2,hv,h _ _ h3⟩
   ·exact .inr ⟨h1,h _ _ h2⟩
  ·rw[jc hr]at hh⊢
   exact wpOpIn_mono h hh
theorem Il{r:Option Nat}(hd:lE ops=true){i:Nat}{K:Act->World->Prop}{a:Act}{w:World}(hh:fk P ops n Q i K a w):wpOpIn (wf r) n P ops Q i K a w:=by
 unfold fk at hh;cases ho:ops[i]?with
 |none=>rw[ho]at hh;unfold wpOpIn;rw[ho];exact hh
 |
  some o=>
  simp only[ho]at hh;have hnd:=pk hd ho;by_cases hr:bN P o=true
  ·rw[jd hr]at hh
   unfold wpOpIn;rw[ho];dsimp only;rcases hh with⟨h1,nx,v,h2,hv,h3⟩|⟨h1,h2⟩
   ·rw[jd h1]
    refine⟨λ_ _=>trivial,?_⟩;rw[show(wf r).round=r from rfl,Oper.semAt_eq r a.eval o hnd,h2];exact A9 hv h3
   ·rw[jc (by simp[h1])]
    exact⟨λ_ _=>trivial,h2⟩
  ·rw[jc hr]at hh
   unfold wpOpIn at *;rw[ho]at *;dsimp only at *;split
   ·rename_i hw
    rw[jd hw]at hh;refine⟨λ_ _=>trivial,?_⟩;have h2:=hh.2;rw[show(wf r).round=r from rfl,Oper.semAt_eq r a.eval o hnd];rw[show(wf none).round=none from rfl,Oper.semAt_none]at h2;generalize(execOp a.eval o).run P w=res at *;cases res with
    |ok x w'=>cases x<;>exact h2
    |halt x w'=>cases x<;>exact h2
   ·rename_i hw
    rw[jc hw]at hh;exact⟨λ_ _=>trivial,hh.2⟩
theorem qv{r:Option Nat}(hd:lE ops=true):∀(fuel:Nat) (listed:Array Bool) (a:Act) (w:World),gi P md ops n Q fuel listed a w->wpAnyIn (wf r) n P md ops Q fuel listed a w
 |0,_,_,_,h=>h
 |fuel+1,listed,a,w,h=>⟨h.1,λi hi=>Il hd (od (λa w=>qv hd fuel _ a w) (h.2 i hi))⟩
theorem Ba{listed:Array Bool}{i:Nat}(h:listed.getD i true=false):listed.getD i false=false:=by
 rcases Nat.lt_or_ge i listed.size with h'|h'
 ·simp[h']at h⊢;exact h
 ·simp[Array.getElem?_eq_none h']at h
theorem qw{i:Nat}{oi:Oper}{v:Value}{B:Nat->Prop}{Y:Act->World->Prop}(hi:ops[i]? =some oi)
 (hYi:∀(K:Act->World->Prop) a w,Y a w->K (a.put oi.dst v) w->fk P ops n Q i K a w)
 (hB:∀j oj,ops[j]? =some oj->B j->∃e∈oj.after,Region.binds md e=true/\(e.on=i\/B e.on)):
 ∀
  (fuel:Nat) (listed:Array Bool) (a:Act) (w:World),(∀j,B j->listed.getD j true=false)->
  (∀j oj,ops[j]? =some oj->j≠i->listed.getD j true=false->¬B j->∀(K:Act->World->Prop) a w,Y a w->fk P ops n Q j K (a.put oi.dst v) w->
    fk P ops n Q j (λa' w'=>Y a' w'/\K (a'.put oi.dst v) w') a w)->
  i∈Region.ready md ops listed->Y a w->gi P md ops n Q fuel (listed.setIfInBounds i true) (a.put oi.dst v) w->gi P md ops n Q (fuel+1) listed a w:=by
 intro fuel
 induction fuel with
 |
  zero=>
  intro listed a w nZ hput hr hy H;refine⟨λh=>(by rw[h]at hr;cases hr),λj hj=>?_⟩;by_cases hji:j=i
  ·subst hji;exact hYi _ _ _ hy H
  ·have:=ready_mono hj hji
   rw[H.1]at this;cases this
 |
  succ fuel ih=>
  intro listed a w nZ hput hr hy H;refine⟨λh=>(by rw[h]at hr;cases hr),λj hj=>?_⟩;by_cases hji:j=i
  ·subst hji;exact hYi _ _ _ hy H
  ·have h1:=H.2 j (ready_mono hj hji)
   obtain⟨Rh,oj,hoj,hall⟩:=mem_ready.1 hj;have hnB:¬B j:=by
    intro hb;obtain⟨e,he,Ri,hon⟩:=hB j oj hoj hb;have h2:=hall e he Ri;have h3:listed.getD e.on true=false:=by
     rcases hon with h|h
     ·rw[h];exact(mem_ready.1 hr).1
     ·exact nZ _ h
    rw[Ba h3]at h2;cases h2
   have h2:=hput j oj hoj hji Rh hnB _ _ _ hy h1;refine od (λa' w' h3=>ih (listed.setIfInBounds j true) a' w' ?_ ?_ (ready_mono hr (Ne.symm hji)) h3.1 ?_) h2
   ·intro m hm
    have hne:j≠m:=λh=>hnB (h▸hm);rw[getD_set_ne true hne];exact nZ m hm
   ·intro m om hom hmi Rj
    refine hput m om hom hmi ?_;by_cases hjm:j=m
    ·subst hjm;exact Rh
    ·rw[getD_set_ne true hjm]at Rj;exact Rj
   ·rw[Array.setIfInBounds_comm _ _ hji]
    exact h3.2
def YP(P:Program)(ops:Array Oper)(o:Oper)(v:Value)(a:Act):Prop:=
 (Region.wanted o (yielded ops a.tmps)=true/\∀w,(execOp a.eval o).run P w=.ok (.value v) w)\/(Region.wanted o (yielded ops a.tmps)=false/\v=undef)
def YR(P:Program)(ops:Array Oper)(o:Oper)(v:Value)(a:Act)(w:World):Prop:=
 (Region.wanted o (yielded ops a.tmps)=true/\∃nx,(execOp a.eval o).run P w=.ok nx w/\yieldOf nx=some v)\/(Region.wanted o (yielded ops a.tmps)=false/\v=undef)
theorem fH{o:Oper}(h:bN P o=true)(cs:Array SelectCase)(b:Bool):o.op≠.select cs b:=by
 intro hc;simp[bN,hc]at h
theorem xy{oi oj:Oper}{v:Value}{a:Act}{w:World}(hap:oi.apart ops oj=true)(vp:bN P oi=true)(hy:YR P ops oi v a w)(u:Value):YR P ops oi v (a.put oj.dst u) w:=by
 obtain⟨h1,h2,h3⟩:=Oper.apart_spec hap;unfold YR at *;rw[execOp_put oi (fH vp) a oj.dst u h3,wanted_put oi a oj.dst u h3];exact hy
theorem N9{oi oj:Oper}{v:Value}{a:Act}(hap:oi.apart ops oj=true)(vp:bN P oi=true)(hy:YP P ops oi v a)(u:Value):YP P ops oi v (a.put oj.dst u):=by
 obtain⟨h1,h2,h3⟩:=Oper.apart_spec hap;unfold YP at *;simp only[execOp_put oi (fH vp) a oj.dst u h3,wanted_put oi a oj.dst u h3];exact hy
theorem jV{i:Nat}{oi:Oper}{v:Value}{K:Act->World->Prop}{a:Act}{w:World}(hi:ops[i]? =some oi)(vp:bN P oi=true)(hy:YR P ops oi v a w)(h:K (a.put oi.dst v) w):fk P ops n Q i K a w:=by
 unfold fk;rw[hi];dsimp only;rw[jd vp];rcases hy with⟨h1,nx,h2,hv⟩|⟨h1,rfl⟩
 ·exact .inl ⟨h1,nx,v,h2,hv,h⟩
 ·exact .inr ⟨h1,h⟩
theorem YP.at{o:Oper}{v:Value}{a:Act}(h:YP P ops o v a)(w:World):YR P ops o v a w:=
 h.imp (λh=>⟨h.1,_,h.2 w,rfl⟩) id
theorem tQ{j:Nat}{oi oj:Oper}{v:Value}(hj:ops[j]? =some oj)(hap:oi.apart ops oj=true)(vp:bN P oi=true)(Im:bN P oj=true)
 {Y:Act->World->Prop}(hY:∀a w u,Y a w->Y (a.put oj.dst u) w)(K:Act->World->Prop)(a:Act)(w:World)(hy:Y a w)(h:fk P ops n Q j K (a.put oi.dst v) w):
 fk P ops n Q j (λa' w'=>Y a' w'/\K (a'.put oi.dst v) w') a w:=by
 obtain⟨h1,h2,h3⟩:=Oper.apart_spec hap;unfold fk at h⊢;simp only[hj]at h⊢;rw[jd Im]at h⊢;rw[wanted_put oj a oi.dst v h1,execOp_put oj (fH Im) a oi.dst v h1]at h;rcases h with⟨hw,nx,u,hu,hv,hk⟩|⟨hw,hk⟩
 ·exact .inl ⟨hw,nx,u,hu,hv,hY _ _ _ hy,by rw[<-Act.put_comm a v u h2];exact hk⟩
 ·exact .inr ⟨hw,hY _ _ _ hy,by rw[<-Act.put_comm a v undef h2];exact hk⟩
theorem Bb{o:Oper}(h:fu P o=true)(ρ:Operand->Value)(w:World):o.about P w ρ=none:=by
 unfold Oper.about;cases ho:o.op
 case call c=>
  obtain⟨callee,args,ats⟩:=c;cases callee<;>first|(simp[fu,ho]at h;done)|skip
  rename_i b;have hl:∀d w',(resolve ρ {callee:=.builtin b,args:=args,argTypes:=ats} o.type).run P w=.ok d w'->d.target.leads P w' d.args=none:=by
   intro d w' hd;simp only[resolve,Sem.run_pure,Result.ok.injEq]at hd;obtain⟨rfl,rfl⟩:=hd;rfl
  dsimp only;cases hr:(resolve ρ {callee:=.builtin b,args:=args,argTypes:=ats} o.type).run P w with
  |ok d w'=>exact hl d w' hr
  |halt _ _=>rfl
 all_goals first|rfl|simp[fu,ho]at h
theorem gS{o:Oper}(h:fu P o=true):bN P o=true:=by
 obtain⟨dst,op,ty,pos,after,guard⟩:=o;cases op<;>first
  |rfl
  |(simp[fu]at h;done)
  |skip
 case convert s d x=>
  simp only[fu,kf]at h;have hd:=h.2;unfold ir at hd;simp only[bN];unfold cj;split at hd
  ·rename_i hu;rw[hu]
  ·cases hd
 case call c=>
  obtain⟨callee,args,ats⟩:=c;cases callee<;>first|(simp[fu]at h;done)|skip
  rename_i b;simp only[fu]at h;cases b<;>first|rfl|(simp[yQ]at h;done)
theorem Io{j:Nat}{oi oj:Oper}{v:Value}(hj:ops[j]? =some oj)(hap:oi.apart ops oj=true)(hpi:fu P oi=true)(hsel:Region.noSelect ops=true)
 (hQ:∀c a w,Q (.panic c) (a.put oi.dst v) w->Q (.panic c) a w)(K:Act->World->Prop)(a:Act)(w:World)(hy:YP P ops oi v a)(h:fk P ops n Q j K (a.put oi.dst v) w):
 fk P ops n Q j (λa' w'=>YP P ops oi v a'/\K (a'.put oi.dst v) w') a w:=by
 by_cases Im:bN P oj=true
 ·exact tQ (Y:=λa _=>YP P ops oi v a) hj hap (gS hpi) Im (λa w u hy=>N9 hap (gS hpi) hy u) K a w hy h
 ·unfold fk at h⊢
  simp only[hj]at h⊢;rw[jc Im]at h⊢;have hyf:YieldsFenced P ops oi v a:=⟨hy,λw=>Bb hpi _ w⟩;have:=wpOpIn_put (F:=wf none) rfl hj hap (fH (gS hpi)) (Region.noSelect_spec hsel j oj · · hj) hQ hyf h;exact wpOpIn_mono (λa w h=>⟨h.1.1,h.2⟩) this
def YG(P:Program)(ops:Array Oper)(o:Oper)(v:Value)(a:Act)(w:World):Prop:=∀w',XW w w'->YR P ops o v a w'
theorem Oa{oi oj:Oper}{v:Value}{a:Act}{w:World}(hap:oi.apart ops oj=true)(vp:bN P oi=true)(hy:YG P ops oi v a w)(u:Value):YG P ops oi v (a.put oj.dst u) w:=
 λw' hw=>xy hap vp (hy w' hw) u
theorem FJ{o:Oper}(h:bN P o=true):o8 P o=true:=by
 unfold o8;split<;>first|rfl|exact h|(rw[h];simp)
theorem Ip{j:Nat}{oi oj:Oper}{v:Value}(hj:ops[j]? =some oj)(hap:oi.apart ops oj=true)(vp:bN P oi=true)(ZF:o8 P oj=true)(hsel:Region.noSelect ops=true)
 (hQ:∀c a w,Q (.panic c) (a.put oi.dst v) w->Q (.panic c) a w)(K:Act->World->Prop)(a:Act)(w:World)(hy:YG P ops oi v a w)(h:fk P ops n Q j K (a.put oi.dst v) w):
 fk P ops n Q j (λa' w'=>YG P ops oi v a' w'/\K (a'.put oi.dst v) w') a w:=by
 by_cases Im:bN P oj=true
 ·exact tQ (Y:=λa w=>YG P ops oi v a w) hj hap vp Im (λa w u hy=>Oa hap vp hy u) K a w hy h
 ·have ZG:bN P oj=false:=by simpa using Im
  obtain⟨h1,h2,h3⟩:=Oper.apart_spec hap;have hsj:∀cs b,oj.op≠.select cs b:=λcs b=>Region.noSelect_spec hsel j oj cs b hj;unfold fk at h⊢;simp only[hj]at h⊢;rw[jc Im]at h⊢;unfold wpOpIn at *;simp only[hj]at *;rw[wanted_put oj a oi.dst v h1,about_put oj w a oi.dst v h1]at h;split
  ·rename_i hw
   simp only[hw,if_true]at h;unfold Oper.wpIn at *;rw[about_put oj w a oi.dst v h1]at h;refine⟨h.1,?_⟩;have h:=h.2;rw[show(wf none).round=none from rfl,Oper.semAt_none,execOp_put oj hsj a oi.dst v h1]at h;rw[show(wf none).round=none from rfl,Oper.semAt_none];cases hr:(execOp a.eval oj).run P w with
   |
    ok x w'=>
    rw[hr]at h;obtain⟨hx,u,rfl⟩:=FE ZF ZG a w x w' hr;simp only[Oper.uponIn]at h⊢;exact⟨λw2 QT=>xy hap vp (hy w2 (hx.trans QT)) u,by rw[<-Act.put_comm a v u h2];exact h⟩
   |
    halt x w'=>
    rw[hr]at h;cases x<;>simp only[Oper.uponIn]at h⊢
    case panic u=>exact hQ _ _ _ h
  ·rename_i hw
   simp only[hw]at h;exact⟨h.1,λw2 QT=>xy hap vp (hy w2 QT) _,by rw[<-Act.put_comm a v undef h2];exact h.2⟩
end
section
variable{P:Program}{ops:Array Oper}{md:Region.Mode}{e:Env}{a:Act}{w:World}
theorem mR{o:Oper}{k:EV->Pr}(hr:bN P o=true)(he:Ag e a)(h:cop P o e k w):RT P (execOp a.eval o) w (NX k):=by
 rcases Classical.em (∀c,o.op≠.call c)with hno|hno
 ·exact Iq he h hno
 obtain⟨c,hc⟩:∃c,o.op=.call c:=Classical.byContradiction λh=>hno λc hc=>h ⟨c,hc⟩;obtain⟨dst,op,ty,pos,after,guard⟩:=o;dsimp only at hc;subst hc;obtain⟨callee,args,ats⟩:=c;have hargs:(args.toList.map a.eval).toArray=args.map a.eval:=by rw[<-Array.toList_map,Array.toArray_toList]
 cases callee with
 |
  builtin b=>
  simp only[cop]at h;have h1:=fU he h;unfold execOp;dsimp only;unfold resolve;dsimp only;refine .bind (.pure ?_);dsimp only[invoke];rw[<-hargs];exact rG h1
 |value x=>simp[bN]at hr
 |invoke _ _=>simp[bN]at hr
theorem tT{kp:KP}{df:Bool}{o:Oper}{k:Env->Pr}(hr:bN P o=true)(h:PL P kp df o e k w):cop P o e (λv=>k (Env.put e o.dst v)) w:=by
 have h1:o9 o.op=none:=by
  unfold o9;split
  ·rename_i heq;simp[bN,heq]at hr
  ·rfl
 have h2:pn o.op=none:=by
  unfold pn;split
  ·rename_i heq;simp[bN,heq]at hr
  ·rfl
 have h3:sP o.op=none:=by
  unfold sP;split
  ·rename_i heq;simp[bN,heq]at hr
  ·rename_i heq;simp[bN,heq]at hr
  ·rfl
 unfold PL at h;rw[h1]at h;unfold orElse K8 at h;cases kp with
 |none=>exact h
 |
  some q=>
  unfold KP.at at h;rw[h2,h3]at h;exact h
theorem vI{kp:KP}{df:Bool}{i:Nat}{o:Oper}{k:Env->Pr}(hr:bN P o=true)(he:Ag e a)(hi:ops[i]? =some o)(h:vo P kp df ops o e k w):
 ∃v e',YR P ops o v a w/\Ag e' (a.put o.dst v)/\Ext (bO ops) e e'/\k e' w:=by
 rcases lF he hi h with⟨hw,e1,dr,hx,h1⟩|⟨hw,e1,dr,hx,h1⟩
 ·have h1:=tT hr h1
  obtain⟨nx,w',h2,h3⟩:=mR hr dr (HZ hr h1);cases nx<;>simp only[NX]at h3<;>try exact h3.elim
  ·obtain⟨x,hg,hk,rfl⟩:=h3
   exact⟨_,_,.inl ⟨hw,_,h2,rfl⟩,dr.put o.dst hg,Ext.xu hi hx,hk⟩
  ·obtain⟨hk,rfl⟩:=h3
   exact⟨_,_,.inl ⟨hw,_,h2,rfl⟩,dr.N0 o.dst _,Ext.xu hi hx,hk⟩
 ·exact⟨undef,_,.inr ⟨hw,rfl⟩,dr.mQ o.dst,Ext.xu hi hx,h1⟩
theorem FK{kp:KP}{df:Bool}{i:Nat}{o:Oper}{k:Env->Pr}(hr:fu P o=true)(he:Ag e a)(hi:ops[i]? =some o)(h:vo P kp df ops o e k w):
 ∃v e',YP P ops o v a/\Ag e' (a.put o.dst v)/\Ext (bO ops) e e'/\k e' w:=by
 rcases lF he hi h with⟨hw,e1,dr,hx,h1⟩|⟨hw,e1,dr,hx,h1⟩
 ·have h1:=tT (gS hr) h1
  obtain⟨x,v,Fm,hk,hall⟩:=K6 hr h1;have hrun:∀w',(execOp a.eval o).run P w'=.ok (.value v) w':=by
   intro w';obtain⟨nx,w2,h2,h3⟩:=mR (gS hr) dr (hall (λy w''=>y=x/\w''=w') w' ⟨rfl,rfl⟩);cases nx<;>simp only[NX]at h3<;>try exact h3.elim
   ·obtain⟨y,hg,rfl,rfl⟩:=h3
    rw[h2,hg v Fm]
   ·obtain⟨rfl,rfl⟩:=h3
    simp[EV.v?]at Fm
  exact⟨v,_,.inl ⟨hw,hrun⟩,dr.put o.dst (λu hu=>by rw[Fm]at hu;simpa using hu.symm),Ext.xu hi hx,hk⟩
 ·exact⟨undef,_,.inr ⟨hw,rfl⟩,dr.mQ o.dst,Ext.xu hi hx,h1⟩
theorem yS{o:Oper}(h:MV P o=true):bN P o=true:=by
 obtain⟨dst,op,ty,pos,after,guard⟩:=o;cases op<;>first|rfl|(cases h;done)|skip
 rename_i s d x;have hd:=lD (show tM P d=true from h);simp only[bN];unfold cj;rw[hd]
theorem FL{kp:KP}{df:Bool}{i:Nat}{o:Oper}{k:Env->Pr}(hr:MV P o=true)(he:Ag e a)(hi:ops[i]? =some o)(h:vo P kp df ops o e k w):
 ∃v e',YG P ops o v a w/\Ag e' (a.put o.dst v)/\Ext (bO ops) e e'/\k e' w:=by
 rcases lF he hi h with⟨hw,e1,dr,hx,h1⟩|⟨hw,e1,dr,hx,h1⟩
 ·have h1:=tT (yS hr) h1
  obtain⟨x,v,Fm,hk,hall⟩:=Ik hr h1;have hrun:∀w',XW w w'->(execOp a.eval o).run P w'=.ok (.value v) w':=by
   intro w' ZH;obtain⟨nx,w2,h2,h3⟩:=mR (yS hr) dr (hall (λy w''=>y=x/\w''=w') w' ZH ⟨rfl,rfl⟩);cases nx<;>simp only[NX]at h3<;>try exact h3.elim
   ·obtain⟨y,hg,rfl,rfl⟩:=h3
    rw[h2,hg v Fm]
   ·obtain⟨rfl,rfl⟩:=h3
    simp[EV.v?]at Fm
  exact⟨v,_,λw' ZH=>.inl ⟨hw,_,hrun w' ZH,rfl⟩,dr.put o.dst (λu hu=>by rw[Fm]at hu;simpa using hu.symm),Ext.xu hi hx,hk⟩
 ·exact⟨undef,_,λ_ _=>.inr ⟨hw,rfl⟩,dr.mQ o.dst,Ext.xu hi hx,h1⟩
def tU(md:Region.Mode)(ops:Array Oper)(listed:Array Bool)(i:Nat):List Nat->List Nat->List Nat
 |[],acc=>acc
 |
  j::js,acc=>
  match ops[j]?with
  |
   some o=>match !listed.getD j true&&o.after.toList.any (λe=>Region.binds md e&&(e.on==i||acc.contains e.on))with
   |true=>tU md ops listed i js (j::acc)
   |false=>tU md ops listed i js acc
  |none=>tU md ops listed i js acc
def sQ(P:Program)(ops:Array Oper)(listed:Array Bool)(i:Nat)(oi:Oper)(B:List Nat)(j:Nat):Bool:=
 j==i||listed.getD j true||B.contains j||
 match ops[j]?with
 |some oj=>oi.apart ops oj&&(fu P oi||bN P oj||(MV P oi&&o8 P oj))
 |none=>true
def kK(P:Program)(md:Region.Mode)(ops:Array Oper)(listed:Array Bool)(i:Nat):Bool:=
 match ops[i]?with
 |some oi=>bN P oi&&(List.range ops.size).all (sQ P ops listed i oi (tU md ops listed i (List.range ops.size) []))
 |none=>false
def tru:Pr:=λ_=>True
def Ob:List Nat->(Nat->Pr)->Pr
 |[],_=>tru
 |[i],f=>f i
 |i::j::l,f=>both (f i) (Ob (j::l) f)
theorem oe{f:Nat->Pr}:∀{l:List Nat},Ob l f w->∀i∈l,f i w
 |[],_,_,h=>by cases h
 |[_],h,i,hi=>by rw[jq]at hi;subst hi;exact h
 |
  _::_::_,h,i,hi=>by
  rcases List.mem_cons.1 hi with rfl|hi
  ·exact h.1
  ·exact oe h.2 i hi
def K9(rs:List Nat)(t:Option Nat)(z:Pr)(f:Nat->Pr):Pr:=
 match rs with
 |[]=>z
 |
  _::_=>match t with
  |some i=>f i
  |none=>Ob rs f
abbrev tV:=Nat->Array Bool->Env->Option Pr
def qx(x:Option Pr)(y:Pr):Pr:=
 match x with
 |some p=>p
 |none=>y
def cD(P:Program)(kp:KP)(md:Region.Mode)(ops:Array Oper)(stop:tV):Nat->Array Bool->Env->(Env->Pr)->Pr
 |0,listed,e,k=>qx (stop 0 listed e) (K9 (Region.ready md ops listed) none (k e) (λ_=>cX))
 |fuel+1,listed,e,k=>qx (stop (fuel+1) listed e) (K9 (Region.ready md ops listed) ((Region.ready md ops listed).find? (kK P md ops listed)) (k e)
   (λi=>opt (ops[i]?) λo=>vo P kp false ops o e λe'=>cD P kp md ops stop fuel (listed.setIfInBounds i true) e' k))
def kL(e:Env):List Nat->Env->Env
 |[],e0=>e0
 |
  d::l,e0=>
  match Env.get e d with
  |.lit b=>kL e l (Env.set e0 d (.lit b))
  |
   x=>match gh x with
   |true=>kL e l (Env.set e0 d me)
   |false=>kL e l e0
def pq(e e':Env):List Nat->Bool
 |[]=>true
 |
  d::l=>
  match Env.get e d with
  |.lit b=>(match Env.get e' d with|.lit c=>b==c&&pq e e' l|_=>false)
  |
   x=>match gh x with
   |true=>gh (Env.get e' d)&&pq e e' l
   |false=>pq e e' l
structure JA where
 sk:Bool
 rs:List Nat
 ix:List Nat
 l:Live
def JA.to(j:JA)(listed:Array Bool):Array Bool:=j.ix.foldl (λa i=>a.setIfInBounds i true) listed
def JA.ds(j:JA)(ops:Array Oper):List Nat:=j.ix.filterMap λi=>(ops[i]?).bind (·.dst)
def JA.kp(j:JA)(ops:Array Oper):List Nat:=(bO ops).filter λd=> !(j.ds ops).contains d
def JA.sl(j:JA)(ops:Array Oper):List Nat:=
 match j.sk with
 |true=>(j.ds ops).filter λd=>(bO ops).contains d
 |false=>[]
def MW(ops:Array Oper)(e:Env)(i:Nat):Bool:=
 match(ops[i]?).bind (·.guard)with
 |
  some (g,want)=>(match tN ops g with
  |some d=>(match Env.get e d with|.lit b=>b !=want|x=>gh x)
  |none=>false)
 |none=>false
def tW:List Nat->Env->Env
 |[],e=>e
 |d::l,e=>tW l (Env.set e d me)
def Ir(ops:Array Oper)(j:JA)(e:Env)(T:Array Bool)(f2:Nat)(R:dY (j.l.map (·.2))->Pr):tV:=λfuel listed e'=>
 match listed==T&&Nat.ble f2 fuel with
 |true=>some (tf (pq e e' (j.kp ops)&&(j.sl ops).all λd=>gh (Env.get e' d)) (need e' j.l R) cX)
 |false=>none
def Is(P:Program)(kp:KP)(md:Region.Mode)(ops:Array Oper)(j:JA)(Od:Nat->Array Bool->Env->Pr)(fuel:Nat)(listed:Array Bool)(e:Env):Pr:=
 tf (!(bO ops).contains nP&& !(bO ops).contains sx) (jn (λR=>cD P kp md ops (Ir ops j e (j.to listed) (fuel-j.ix.length) R) fuel listed e (λ_=>cX))
  (λs=>Od (fuel-j.ix.length) (j.to listed) (kE (tW (j.sl ops) (kL e (j.kp ops) (Env.forget e (bO ops)))) j.l s))) cX
def Ep(P:Program)(kp:KP)(md:Region.Mode)(ops:Array Oper)(j:JA)(Od:Nat->Array Bool->Env->Pr)(alt:tV):tV:=λfuel listed e=>
 match Region.ready md ops listed==j.rs&&(j.sk==j.ix.all (MW ops e))with
 |true=>some (Is P kp md ops j Od fuel listed e)
 |false=>alt fuel listed e
def stops(P:Program)(kp:KP)(md:Region.Mode)(ops:Array Oper)(k:Env->Pr):List JA->tV
 |[]=>λ_ _ _=>none
 |j::js=>Ep P kp md ops j (λf L e'=>cD P kp md ops (stops P kp md ops k js) f L e' k) (stops P kp md ops k js)
def MX(P:Program)(kp:KP)(md:Region.Mode)(ops:Array Oper)(js:List JA)(fuel:Nat)(listed:Array Bool)(e:Env)(k:Env->Pr):Pr:=cD P kp md ops (stops P kp md ops k js) fuel listed e k
theorem nC{listed:Array Bool}{i:Nat}:∀(js acc:List Nat),(∀j∈acc,listed.getD j true=false/\∃oj,ops[j]? =some oj/\∃e∈oj.after,Region.binds md e=true/\(e.on=i\/e.on∈acc))->
 ∀j∈tU md ops listed i js acc,listed.getD j true=false/\∃oj,ops[j]? =some oj/\∃e∈oj.after,Region.binds md e=true/\(e.on=i\/e.on∈tU md ops listed i js acc)
 |[],acc,h=>h
 |
  j::js,acc,h=>by
  unfold tU;cases ho:ops[j]?with
  |none=>simpa using nC js acc h
  |
   some o=>
   cases hc: !listed.getD j true&&o.after.toList.any (λe=>Region.binds md e&&(e.on==i||acc.contains e.on))with
   |false=>simp only[hc];exact nC js acc h
   |
    true=>
    simp only[hc];refine nC js (j::acc) ?_;intro m hm;rcases List.mem_cons.1 hm with rfl|hm
    ·simp only[kf,Bool.not_eq_true',List.any_eq_true,Bool.or_eq_true,kn,List.contains_iff_mem]at hc
     obtain⟨h1,ed,h2,h3,h4⟩:=hc;exact⟨h1,o,ho,ed,by simpa using h2,h3,h4.imp id (λh=>List.mem_cons_of_mem _ h)⟩
    ·obtain⟨h1,oj,h2,ed,h3,h4,h5⟩:=h m hm
     exact⟨h1,oj,h2,ed,h3,h4,h5.imp id (λh=>List.mem_cons_of_mem _ h)⟩
variable{n:Nat}{Q:Exit->Act->World->Prop}
theorem Bc{j:Nat}{o:Oper}(h:ops[j]? =some o):j<ops.size:=by
 rcases Nat.lt_or_ge j ops.size with h'|h'
 ·exact h'
 ·simp[Array.getElem?_eq_none h']at h
theorem rH:∀(f:Nat) (L:Array Bool) (a:Act) (w:World),gi P md ops n Q f L a w->gi P md ops n Q (f+1) L a w
 |0,L,a,w,h=>⟨λ_=>h.2,λi hi=>by rw[h.1]at hi;cases hi⟩
 |f+1,L,a,w,h=>⟨h.1,λi hi=>od (λa w h=>rH f _ a w h) (h.2 i hi)⟩
theorem FM{f g:Nat}{L:Array Bool}{a:Act}{w:World}(h:f<=g)(hh:gi P md ops n Q f L a w):gi P md ops n Q g L a w:=by
 obtain⟨d,rfl⟩:=Nat.exists_eq_add_of_le h;clear h
 induction d with
 |zero=>exact hh
 |succ d ih=>exact rH _ _ _ _ ih
theorem tX{kp:KP}{stop:tV}(hsel:Region.noSelect ops=true)(hQ:∀c a d v w,d∈bO ops->Q (.panic c) (a.put (some d) v) w->Q (.panic c) a w):∀(fuel:Nat) (listed:Array Bool) (e:Env) (a:Act) (w:World) (k:Env->Pr),Ag e a->cD P kp md ops stop fuel listed e k w->
 (∀e' a' w',Ag e' a'->Ext (bO ops) e e'->k e' w'->Q .normal a' w')->
 (∀e' a' ch w',Ag e' a'->Ext (bO ops) e e'->KA (kp.at e') ch w'->Q (.panic ch) a' w')->(∀f L e' a' w' p,Ag e' a'->Ext (bO ops) e e'->stop f L e'=some p->p w'->gi P md ops n Q f L a' w')->gi P md ops n Q fuel listed a w:=by
 have hQ':∀(i:Nat) (oi:Oper),ops[i]? =some oi->∀c a v w,Q (.panic c) (a.put oi.dst v) w->Q (.panic c) a w:=by
  intro i oi hi c a v w h;cases hd:oi.dst with
  |none=>rw[hd]at h;exact h
  |some d=>rw[hd]at h;exact hQ c a d v w (nB hi hd) h
 intro fuel
 induction fuel with
 |
  zero=>
  intro listed e a w k he h hk hp hst;unfold cD at h;cases hs0:stop 0 listed e with
  |some p=>rw[hs0]at h;exact hst _ _ _ _ _ _ he (Ext.refl _ _) hs0 h
  |none=>
  rw[hs0]at h;unfold qx at h;dsimp only at h;cases hr:Region.ready md ops listed with
  |nil=>rw[hr]at h;exact⟨hr,hk _ _ _ he (Ext.refl _ _) h⟩
  |
   cons i l=>
   rw[hr]at h;exact(oe (f:=λ_=>cX) h i (by simp)).elim
 |
  succ fuel ih=>
  intro listed e a w k he h hk hp hst;have step:∀i o,ops[i]? =some o->vo P kp false ops o e (λe'=>cD P kp md ops stop fuel (listed.setIfInBounds i true) e' k) w->fk P ops n Q i (gi P md ops n Q fuel (listed.setIfInBounds i true)) a w:=by
   intro i o hi h;by_cases hr:bN P o=true
   ·obtain⟨v,e',hy,he',hx,h'⟩:=vI hr he hi h
    exact jV hi hr hy (ih _ e' _ _ k he' h' (λe2 a2 w2 dg hx2 h2=>hk _ _ _ dg (hx.trans hx2 (λ_ h=>h) (λ_ h=>h)) h2) (λe2 a2 ch w2 dg hx2 h2=>hp _ _ _ _ dg (hx.trans hx2 (λ_ h=>h) (λ_ h=>h)) h2) (λf L e2 a2 w2 p dg hx2=>hst f L e2 a2 w2 p dg (hx.trans hx2 (λ_ h=>h) (λ_ h=>h))))
   ·have h2:wpOpIn (wf none) n P ops Q i (gi P md ops n Q fuel (listed.setIfInBounds i true)) a w:=
     vH (λh=>by cases h) he hi h (λe' a' w' he' hx h'=>ih _ e' _ _ k he' h' (λe2 a2 w2 dg hx2 h2=>hk _ _ _ dg (hx.trans hx2 (λ_ h=>h) (λ_ h=>h)) h2) (λe2 a2 ch w2 dg hx2 h2=>hp _ _ _ _ dg (hx.trans hx2 (λ_ h=>h) (λ_ h=>h)) h2) (λf L e2 a2 w2 p dg hx2=>hst f L e2 a2 w2 p dg (hx.trans hx2 (λ_ h=>h) (λ_ h=>h)))) hp
    unfold fk;rw[hi];dsimp only;rw[jc hr];exact h2
  unfold cD at h;cases hs0:stop (fuel+1) listed e with
  |some p=>rw[hs0]at h;exact hst _ _ _ _ _ _ he (Ext.refl _ _) hs0 h
  |none=>
  rw[hs0]at h;unfold qx at h;dsimp only at h;cases hr:Region.ready md ops listed with
  |
   nil=>
   rw[hr]at h;exact⟨λ_=>hk _ _ _ he (Ext.refl _ _) h,by simp[hr]⟩
  |
   cons i0 l0=>
   cases ht:(Region.ready md ops listed).find? (kK P md ops listed)with
   |
    none=>
    rw[ht,hr]at h;refine⟨λh0=>(by rw[hr]at h0;cases h0),λi hi=>?_⟩;rw[hr]at hi;obtain⟨o,ho,h1⟩:=ai (oe h i hi);exact step i o ho h1
   |
    some i=>
    rw[ht,hr]at h;have hmem:=List.mem_of_find?_eq_some ht;have FN:=List.find?_some ht;obtain⟨o,ho,h1⟩:=ai (show opt (ops[i]?) _ w from h);unfold kK at FN;rw[ho]at FN;simp only[kf,List.all_eq_true,List.mem_range]at FN;obtain⟨vp,hall⟩:=FN;have oP:=nC (md:=md) (ops:=ops) (listed:=listed) (i:=i) (List.range ops.size) [] (by simp);generalize hBL:tU md ops listed i (List.range ops.size) []=BL at hall oP;have Oe:∀j oj,ops[j]? =some oj->j≠i->listed.getD j true=false->¬(j∈BL)->o.apart ops oj=true/\((fu P o=true\/bN P oj=true)\/(MV P o=true/\o8 P oj=true)):=by
     intro j oj hj hji hun vg;have:=hall j (Bc hj);unfold sQ at this;rw[hj]at this;simp only[Bool.or_eq_true,kn,List.contains_iff_mem,kf]at this;rcases this with((h|h)|h)|h
     ·exact absurd h hji
     ·rw[hun]at h;cases h
     ·exact absurd h vg
     ·exact h
    have hB:∀j oj,ops[j]? =some oj->j∈BL->∃e∈oj.after,Region.binds md e=true/\(e.on=i\/e.on∈BL):=by
     intro j oj hj hb;obtain⟨_,oj',hj',h3⟩:=oP j hb;rw[hj]at hj';simp only[jg]at hj';exact hj'▸h3
    by_cases hpi:fu P o=true
    ·obtain⟨v,e',hy,he',hx,h'⟩:=FK hpi he ho h1
     refine qw (B:=λj=>j∈BL) (Y:=λa _=>YP P ops o v a) ho (λK a w hy hk=>jV ho vp (hy.at w) hk) hB fuel listed a w (λj hj=>(oP j hj).1) ?_ hmem hy ?_
     ·intro j oj hj hji hun vg K a w hy h
      exact Io hj (Oe j oj hj hji hun vg).1 hpi hsel (λc a w=>hQ' _ _ ho c a _ w) K a w hy h
     ·exact ih _ e' _ _ k he' h' (λe2 a2 w2 dg hx2 h2=>hk _ _ _ dg (hx.trans hx2 (λ_ h=>h) (λ_ h=>h)) h2) (λe2 a2 ch w2 dg hx2 h2=>hp _ _ _ _ dg (hx.trans hx2 (λ_ h=>h) (λ_ h=>h)) h2) (λf L e2 a2 w2 p dg hx2=>hst f L e2 a2 w2 p dg (hx.trans hx2 (λ_ h=>h) (λ_ h=>h)))
    by_cases HN:MV P o=true
    ·obtain⟨v,e',hy,he',hx,h'⟩:=FL HN he ho h1
     refine qw (B:=λj=>j∈BL) (Y:=λa w=>YG P ops o v a w) ho (λK a w hy hk=>jV ho vp (hy w (XW.refl w)) hk) hB fuel listed a w (λj hj=>(oP j hj).1) ?_ hmem hy ?_
     ·intro j oj hj hji hun vg K a w hy h
      have hb:=Oe j oj hj hji hun vg;have ZF:o8 P oj=true:=hb.2.elim (λh=>FJ (h.resolve_left hpi)) (λh=>h.2);exact Ip hj hb.1 vp ZF hsel (λc a w=>hQ' _ _ ho c a _ w) K a w hy h
     ·exact ih _ e' _ _ k he' h' (λe2 a2 w2 dg hx2 h2=>hk _ _ _ dg (hx.trans hx2 (λ_ h=>h) (λ_ h=>h)) h2) (λe2 a2 ch w2 dg hx2 h2=>hp _ _ _ _ dg (hx.trans hx2 (λ_ h=>h) (λ_ h=>h)) h2) (λf L e2 a2 w2 p dg hx2=>hst f L e2 a2 w2 p dg (hx.trans hx2 (λ_ h=>h) (λ_ h=>h)))
    ·obtain⟨v,e',hy,he',hx,h'⟩:=vI vp he ho h1
     refine qw (B:=λj=>j∈BL) (Y:=λa w=>YR P ops o v a w) ho (λK a w hy hk=>jV ho vp hy hk) hB fuel listed a w (λj hj=>(oP j hj).1) ?_ hmem hy ?_
     ·intro j oj hj hji hun vg K a w hy h
      have hb:=Oe j oj hj hji hun vg;have Im:=(hb.2.resolve_right (λh=>HN h.1)).resolve_left hpi;exact tQ (Y:=λa w=>YR P ops o v a w) hj hb.1 vp Im (λa w u hy=>xy hb.1 vp hy u) K a w hy h
     ·exact ih _ e' _ _ k he' h' (λe2 a2 w2 dg hx2 h2=>hk _ _ _ dg (hx.trans hx2 (λ_ h=>h) (λ_ h=>h)) h2) (λe2 a2 ch w2 dg hx2 h2=>hp _ _ _ _ dg (hx.trans hx2 (λ_ h=>h) (λ_ h=>h)) h2) (λf L e2 a2 w2 p dg hx2=>hst f L e2 a2 w2 p dg (hx.trans hx2 (λ_ h=>h) (λ_ h=>h)))
theorem pz{e e':Env}{a:Act}:∀{l:List Nat} {e0:Env},pq e e' l=true->Ag e' a->Ag e0 a->Ag (kL e l e0) a
 |[],_,_,_,h0=>h0
 |
  d::l,e0,hk,he,h0=>by
  have vi:∀(x:EV) (v:Value),x.v? =some v->(∀u,(Env.get e' d).v? =some u->u=v)->(∃u,(Env.get e' d).v? =some u)->Ag (Env.set e0 d x) a:=by
   intro x v hx hu ⟨u,YL⟩;have hv:=he.get d u YL;rw[hu u YL]at hv;refine⟨by simpa using h0.size,λt y hy=>?_,by simpa using h0.defers⟩;rw[Env.cu]at hy;split at hy
   ·rename_i ht
    rw[hx]at hy;simp only[jg]at hy;rw[ht.1,hv,hy]
   ·exact h0.get t y hy
  have mS:∀x:EV,(match gh x with|true=>gh (Env.get e' d)&&pq e e' l|false=>pq e e' l)=true->
   Ag (match gh x with|true=>kL e l (Env.set e0 d me)|false=>kL e l e0) a:=by
   intro x hk;cases hs:gh x with
   |
    true=>
    rw[hs]at hk;dsimp only at hk⊢;simp only[kf]at hk;have h1:=tO hk.1;exact pz hk.2 he (vi me undef rfl (λu hu=>by rw[h1]at hu;simpa using hu.symm) ⟨_,h1⟩)
   |
    false=>
    rw[hs]at hk;exact pz hk he h0
  unfold pq at hk;unfold kL;cases hx:Env.get e d
  case lit b=>
   rw[hx]at hk;dsimp only at hk⊢;cases hc:Env.get e' d
   case lit c=>
    rw[hc]at hk;dsimp only at hk;simp only[kf,kn]at hk;obtain⟨rfl,hk⟩:=hk;exact pz hk he (vi (.lit b) (.bool b) rfl (λu hu=>by rw[hc]at hu;simp[EV.v?]at hu;exact hu.symm) ⟨_,by rw[hc];rfl⟩)
   all_goals(rw[hc]at hk;cases hk)
  case no=>rw[hx]at hk;exact mS .no hk
  case Af=>rw[hx]at hk;exact mS .Af hk
  case Ah k v=>rw[hx]at hk;exact mS (.Ah k v) hk
  case AZ k v=>rw[hx]at hk;exact mS (.AZ k v) hk
  case val v=>rw[hx]at hk;exact mS (.val v) hk
theorem nD{e:Env}{W:List Nat}:∀{l:List Nat} {e0:Env},(∀d∈l,d∈W)->Ext W e0 (kL e l e0)
 |[],_,_=>Ext.refl _ _
 |
  d::l,e0,h=>by
  have hd:=h d (List.mem_cons_self ..);have ht:∀x∈l,x∈W:=λx hx=>h x (List.mem_cons_of_mem _ hx);unfold kL;split
  ·exact(Ext.set _ _ _ _ hd).trans (nD ht) (λ_ h=>h) (λ_ h=>h)
  ·split
   ·exact(Ext.set _ _ _ _ hd).trans (nD ht) (λ_ h=>h) (λ_ h=>h)
   ·exact nD ht
theorem Er{W:List Nat}:∀{l:Live} {e:Env} {p:dY (l.map (·.2))},(∀x∈l,x.1∈W)->Ext W e (kE e l p)
 |[],_,_,_=>Ext.refl _ _
 |[x],e,p,h=>Ext.set _ _ _ _ (h x (by simp))
 |x::y::l,e,p,h=>(Ext.set _ _ _ _ (h x (by simp))).trans (Er (l:=y::l) λz hz=>h z (List.mem_cons_of_mem _ hz)) (λ_ h=>h) (λ_ h=>h)
theorem yT{e':Env}{a:Act}(he:Ag e' a):∀{l:List Nat} {e0:Env},(l.all λd=>gh (Env.get e' d))=true->Ag e0 a->Ag (tW l e0) a
 |[],_,_,h0=>h0
 |
  d::l,e0,hk,h0=>by
  rw[List.all_cons,kf]at hk;have hv:=he.get d _ (tO hk.1);have h1:Ag (Env.set e0 d me) a:=by
   refine⟨by simpa using h0.size,λt y hy=>?_,by simpa using h0.defers⟩;rw[Env.cu]at hy;split at hy
   ·rename_i ht
    simp only[me,EV.v?,jg]at hy;rw[ht.1,hv,<-hy];rfl
   ·exact h0.get t y hy
  exact yT (l:=l) he hk.2 h1
theorem vJ{W:List Nat}:∀{l:List Nat} {e0:Env},(∀d∈l,d∈W)->Ext W e0 (tW l e0)
 |[],_,_=>Ext.refl _ _
 |d::l,e0,h=>(Ext.set _ _ _ _ (h d (List.mem_cons_self ..))).trans (vJ λx hx=>h x (List.mem_cons_of_mem _ hx)) (λ_ h=>h) (λ_ h=>h)
theorem mT{kp:KP}(hsel:Region.noSelect ops=true)(hQ:∀c a d v w,d∈bO ops->Q (.panic c) (a.put (some d) v) w->Q (.panic c) a w){k:Env->Pr}{e:Env}
 (hk:∀e' a' w',Ag e' a'->Ext (bO ops) e e'->k e' w'->Q .normal a' w')
 (hp:∀e' a' ch w',Ag e' a'->Ext (bO ops) e e'->KA (kp.at e') ch w'->Q (.panic ch) a' w'):∀(js:List JA) (hj:∀j∈js,∀x∈j.l,x.1∈bO ops) (f:Nat) (L:Array Bool) (e1:Env) (a1:Act) (w1:World) (p:Pr),
 Ag e1 a1->Ext (bO ops) e e1->stops P kp md ops k js f L e1=some p->p w1->gi P md ops n Q f L a1 w1
 |[],_,_,_,_,_,_,_,_,_,h,_=>by cases h
 |
  j::js,hj,f,L,e1,a1,w1,p,dr,hx1,hs,h1=>by
  have hj':∀j∈js,∀x∈j.l,x.1∈bO ops:=λi hi=>hj i (List.mem_cons_of_mem _ hi);unfold stops Ep at hs;split at hs
  rotate_left
  ·exact mT hsel hQ hk hp js hj' f L e1 a1 w1 p dr hx1 hs h1
  simp only[jg]at hs;subst hs;rcases aO (show tf _ _ _ w1 from h1)with⟨hm,h1⟩|⟨_,h1⟩
  rotate_left
  ·exact h1.elim
  simp only[kf,Bool.not_eq_true']at hm;have Ai:nP∉bO ops:=by simpa using hm.1
  have hdf:sx∉bO ops:=by simpa using hm.2
  obtain⟨R,h2,h3⟩:=h1;refine tX hsel hQ f L e1 a1 w1 _ dr h2 (λ_ _ _ _ _ h=>h.elim) (λe2 a2 ch w2 dg hx2 h=>hp e2 a2 ch w2 dg (hx1.trans hx2 (λ_ h=>h) (λ_ h=>h)) h) ?_;intro f2 L2 e2 a2 w2 p dg hx2 hs h4;unfold Ir at hs;split at hs
  rotate_left
  ·cases hs
  rename_i hT;simp only[jg]at hs;subst hs;simp only[kf,kn]at hT;obtain⟨rfl,hle⟩:=hT;have hle:=Nat.le_of_ble_eq_true hle;rcases aO (show tf _ _ _ w2 from h4)with⟨hkp,h4⟩|⟨_,h4⟩
  rotate_left
  ·exact h4.elim
  rw[kf]at hkp;have hsub:∀d∈j.kp ops,d∈bO ops:=λd hd=>(List.mem_filter.1 hd).1;have fZ:∀d∈j.sl ops,d∈bO ops:=by
   unfold JA.sl;split
   ·intro d hd
    simpa using(List.mem_filter.1 hd).2
   ·intro d hd;cases hd
  obtain⟨s,hs,hR⟩:=eU (e0:=tW (j.sl ops) (kL e1 (j.kp ops) (Env.forget e1 (bO ops)))) dg (yT dg hkp.2 (pz hkp.1 dg (dg.forget hx2 Ai hdf))) h4;have YM:Ext (bO ops) e (kE (tW (j.sl ops) (kL e1 (j.kp ops) (Env.forget e1 (bO ops)))) j.l s):=
   hx1.trans ((Ext.forget e1 _).trans ((nD hsub).trans ((vJ fZ).trans (Er (hj j (List.mem_cons_self ..))) (λ_ h=>h) (λ_ h=>h)) (λ_ h=>h) (λ_ h=>h)) (λ_ h=>h) (λ_ h=>h)) (λ_ h=>h) (λ_ h=>h)
  refine FM hle (tX hsel hQ (f-j.ix.length) (j.to L) _ a2 w2 k hs (h3 s w2 hR) (λe3 a3 w3 Rk hx h=>hk e3 a3 w3 Rk (YM.trans hx (λ_ h=>h) (λ_ h=>h)) h)
   (λe3 a3 ch w3 Rk hx h=>hp e3 a3 ch w3 Rk (YM.trans hx (λ_ h=>h) (λ_ h=>h)) h) ?_)
  intro f3 L3 e3 a3 w3 p3 Rk hx h5 h6;exact mT hsel hQ hk hp js hj' f3 L3 e3 a3 w3 p3 Rk (YM.trans hx (λ_ h=>h) (λ_ h=>h)) h5 h6
theorem rI{kp:KP}(hsel:Region.noSelect ops=true)(hQ:∀c a d v w,d∈bO ops->Q (.panic c) (a.put (some d) v) w->Q (.panic c) a w)(js:List JA)(hj:∀j∈js,∀x∈j.l,x.1∈bO ops)(fuel:Nat)(listed:Array Bool)(e:Env)(a:Act)(w:World)(k:Env->Pr)(he:Ag e a)(h:MX P kp md ops js fuel listed e k w)
 (hk:∀e' a' w',Ag e' a'->Ext (bO ops) e e'->k e' w'->Q .normal a' w')
 (hp:∀e' a' ch w',Ag e' a'->Ext (bO ops) e e'->KA (kp.at e') ch w'->Q (.panic ch) a' w'):gi P md ops n Q fuel listed a w:=
 tX hsel hQ fuel listed e a w k he h hk hp (mT hsel hQ hk hp js hj)
end
def iF(n m:Nat):Array Bool:=((List.range n).map (Nat.testBit m)).toArray
theorem FR(n m:Nat):(iF n m).size=n:=by simp[iF]
theorem kM(n m i:Nat):(iF n m)[i]? =if i<n then some (m.testBit i)else none:=by
 unfold iF;rw[List.getElem?_toArray,jf];by_cases h:i<n
 ·rw[List.getElem?_range h,jd h];rfl
 ·rw[List.getElem?_eq_none (by simp;omega),jc h];rfl
theorem kN(n m i:Nat)(d:Bool):(iF n m).getD i d=if i<n then m.testBit i else d:=by
 rw[Array.getD_eq_getD_getElem?,kM];split<;>rfl
def Lf(m i:Nat):Nat:=Nat.lor m (Nat.shiftLeft 1 i)
theorem sR(m i j:Nat):(Lf m i).testBit j=(m.testBit j||i==j):=by
 show(m|||(1<<<i)).testBit j=_;rw[Nat.testBit_or,Nat.one_shiftLeft,Nat.testBit_two_pow]
 congr 1
theorem yZ(n m i:Nat):(iF n m).setIfInBounds i true=iF n (Lf m i):=by
 refine Array.ext_getElem? λj=>?_;rw[Array.getElem?_setIfInBounds,kM,kM,FR,sR];by_cases h:i=j
 ·subst h
  rw[jd rfl];by_cases h2:i<n<;>simp[h2]
 ·rw[jc h]
  have:(i==j)=false:=by simpa using h
  rw[this,Bool.or_false]
theorem FT(n:Nat):Array.replicate n false=iF n 0:=by
 refine Array.ext_getElem? λj=>?_;rw[kM,Array.getElem?_replicate];simp
theorem Lg{n m t:Nat}:(iF n m==iF n t)=Nat.beq (m%2^n) (t%2^n):=by
 rw[Bool.eq_iff_iff,kn,Nat.beq_eq];constructor
 ·intro h
  refine Nat.eq_of_testBit_eq λi=>?_;rw[Nat.testBit_mod_two_pow,Nat.testBit_mod_two_pow];by_cases hi:i<n
  ·have:=congrArg (λa=>a.getD i true) h
   simp only[kN,jd hi]at this;rw[this]
  ·simp[hi]
 ·intro h
  refine Array.ext_getElem? λi=>?_;rw[kM,kM];by_cases hi:i<n
  ·have:=congrArg (λa=>Nat.testBit a i) h
   simp only[Nat.testBit_mod_two_pow,hi,decide_true,Bool.true_and]at this;rw[this]
  ·rw[jc hi,jc hi]
def jO(md:Region.Mode):List Edge->Nat
 |[]=>0
 |e::l=>match Region.binds md e with|true=>Lf (jO md l) e.on|false=>jO md l
def Iz(md:Region.Mode)(o:Oper):Nat:=jO md o.after.toList
theorem mV{md:Region.Mode}{x:Nat}:∀{l:List Edge},(jO md l).testBit x=l.any (λe=>Region.binds md e&&e.on==x)
 |[]=>by simp[jO]
 |
  e::l=>by
  rw[List.any_cons,<-mV (l:=l),jO];cases Region.binds md e<;>simp[sR,Bool.or_comm]
theorem Lh{md:Region.Mode}{l:List Edge}{M:Nat}:Nat.beq (Nat.land (jO md l) M) (jO md l)=l.all λe=> !Region.binds md e||M.testBit e.on:=by
 rw[Bool.eq_iff_iff,Nat.beq_eq,List.all_eq_true];constructor
 ·intro h e he
  cases hb:Region.binds md e with
  |false=>rfl
  |
   true=>
   have h1:(jO md l).testBit e.on=true:=by rw[mV,List.any_eq_true];exact⟨e,he,by simp[hb]⟩
   rw[<-h]at h1;have h1:(jO md l&&&M).testBit e.on=true:=h1;rw[Nat.testBit_and,kf]at h1;simpa using h1.2
 ·intro h
  show jO md l&&&M=_;refine Nat.eq_of_testBit_eq λi=>?_;rw[Nat.testBit_and];cases h1:(jO md l).testBit i with
  |false=>rfl
  |
   true=>
   rw[mV,List.any_eq_true]at h1;obtain⟨e,he,hx⟩:=h1;simp only[kf,kn]at hx;have:=h e he;rw[hx.1]at this;rw[<-hx.2];simpa using this
theorem Li{md:Region.Mode}{l:List Edge}{M:Nat}:(!Nat.beq (Nat.land (jO md l) M) 0)=l.any λe=>Region.binds md e&&M.testBit e.on:=by
 rw[Bool.eq_iff_iff,List.any_eq_true,Bool.not_eq_true'];constructor
 ·intro h
  refine Classical.byContradiction λhn=>?_;have h0:jO md l&&&M=0:=by
   refine Nat.eq_of_testBit_eq λi=>?_;rw[Nat.testBit_and,Nat.zero_testBit,Bool.and_eq_false_iff];refine Classical.byContradiction λhc=>hn ?_;have hc1:(jO md l).testBit i=true:=by
    cases h1:(jO md l).testBit i with
    |true=>rfl
    |false=>exact absurd (.inl h1) hc
   have jR:M.testBit i=true:=by
    cases h1:M.testBit i with
    |true=>rfl
    |false=>exact absurd (.inr h1) hc
   rw[mV,List.any_eq_true]at hc1;obtain⟨e,he,hx⟩:=hc1;simp only[kf,kn]at hx;exact⟨e,he,by simp[hx.1,hx.2,jR]⟩
  have h0:Nat.land (jO md l) M=0:=h0;rw[h0]at h;cases h
 ·rintro⟨e,he,hx⟩
  simp only[kf]at hx;have h1:(jO md l).testBit e.on=true:=by rw[mV,List.any_eq_true];exact⟨e,he,by simp[hx.1]⟩
  cases hb:Nat.beq (Nat.land (jO md l) M) 0 with
  |false=>rfl
  |
   true=>
   have h0:jO md l&&&M=0:=Nat.eq_of_beq_eq_true hb;have:=congrArg (λa=>Nat.testBit a e.on) h0;simp only[Nat.testBit_and,h1,hx.2,Nat.zero_testBit]at this;cases this
section
variable(P:Program)(md:Region.Mode)(ops:Array Oper)
def qA(m:Nat):List Nat:=(List.range ops.size).filter λi=> !Nat.testBit m i&&(match ops[i]?with|some o=>Nat.beq (Nat.land (Iz md o) (m%2^ops.size)) (Iz md o)|none=>false)
theorem qB(m:Nat):qA md ops m=Region.ready md ops (iF ops.size m):=by
 unfold qA Region.ready;refine List.filter_congr λi hi=>?_;have hi:i<ops.size:=by simpa using hi
 rw[kN,jd hi,Array.getElem?_eq_getElem hi,Option.map_some,Option.getD_some]
 congr 1
 show Nat.beq (Nat.land (jO md ops[i].after.toList) _) (jO md ops[i].after.toList)=_;rw[Lh,<-Array.all_toList]
 congr 1
 funext e;rw[kN,Nat.testBit_mod_two_pow];by_cases h:e.on<ops.size<;>simp[h]
def Bo(m i:Nat):List Nat->Nat->Nat
 |[],acc=>acc
 |
  j::js,acc=>
  match ops[j]?with
  |
   some o=>match !Nat.testBit m j&& !Nat.beq (Nat.land (Iz md o) (Lf acc i)) 0 with
   |true=>Bo m i js (Lf acc j)
   |false=>Bo m i js acc
  |none=>Bo m i js acc
theorem Ew(m i:Nat):∀(js:List Nat) (acc:List Nat) (A:Nat),(∀j∈js,j<ops.size)->(∀x,A.testBit x=acc.contains x)->∀x,(Bo md ops m i js A).testBit x=(tU md ops (iF ops.size m) i js acc).contains x
 |[],_,_,_,h=>h
 |
  j::js,acc,A,hj,h=>by
  have hjl:=hj j (List.mem_cons_self ..);have ih:=λa b hh=>Ew m i js a b (λx hx=>hj x (List.mem_cons_of_mem _ hx)) hh;unfold Bo tU;rw[Array.getElem?_eq_getElem hjl,kN,jd hjl];have hc:(!Nat.beq (Nat.land (Iz md ops[j]) (Lf A i)) 0)=ops[j].after.toList.any (λe=>Region.binds md e&&(e.on==i||acc.contains e.on)):=by
   unfold Iz;rw[Li]
   congr 1
   funext e;rw[sR,h,Bool.or_comm,Bool.beq_comm]
  dsimp only;rw[hc];cases !m.testBit j&&ops[j].after.toList.any (λe=>Region.binds md e&&(e.on==i||acc.contains e.on))with
  |true=>exact ih _ _ λx=>by rw[sR,h,List.contains_cons,Bool.or_comm,Bool.beq_comm]
  |false=>exact ih _ _ h
def Rs(oi:Oper)(j:Nat):Bool:=
 match ops[j]?with
 |some oj=>oi.apart ops oj&&(fu P oi||bN P oj||(MV P oi&&o8 P oj))
 |none=>true
def allM(oi:Oper)(m i B:Nat):List Nat->Bool
 |[]=>true
 |j::js=>(Nat.beq j i||(Nat.testBit m j||(Nat.testBit B j||Rs P ops oi j)))&&allM oi m i B js
def gj(m i:Nat):Bool:=
 match ops[i]?with
 |some oi=>bN P oi&&allM P ops oi m i (Bo md ops m i (List.range ops.size) 0) (List.range ops.size)
 |none=>false
theorem IA(m i:Nat):gj P md ops m i=kK P md ops (iF ops.size m) i:=by
 unfold gj kK;cases ops[i]?with
 |none=>rfl
 |
  some oi=>
  dsimp only
  congr 1
  have hB:=Ew md ops m i (List.range ops.size) [] 0 (λj hj=>by simpa using hj) (λx=>by simp);have go:∀js:List Nat,(∀j∈js,j<ops.size)->allM P ops oi m i (Bo md ops m i (List.range ops.size) 0) js=js.all (sQ P ops (iF ops.size m) i oi (tU md ops (iF ops.size m) i (List.range ops.size) [])):=by
   intro js
   induction js with
   |nil=>intro _;rfl
   |
    cons j js ih=>
    intro hj;rw[allM,List.all_cons,ih λx hx=>hj x (List.mem_cons_of_mem _ hx)]
    congr 1
    unfold sQ;rw[kN,jd (hj j (List.mem_cons_self ..)),<-hB,Bool.or_assoc,Bool.or_assoc];have:Nat.beq j i=(j==i):=by rw[Bool.eq_iff_iff,Nat.beq_eq,kn]
    rw[this];rfl
  exact go _ λj hj=>by simpa using hj
abbrev vN:=Nat->Nat->Env->Option Pr
def Lj(kp:KP)(stop:vN):Nat->Nat->Env->(Env->Pr)->Pr
 |0,m,e,k=>qx (stop 0 m e) (K9 (qA md ops m) none (k e) (λ_=>cX))
 |fuel+1,m,e,k=>qx (stop (fuel+1) m e) (K9 (qA md ops m) ((qA md ops m).find? (gj P md ops m)) (k e)
   (λi=>opt (ops[i]?) λo=>vo P kp false ops o e λe'=>Lj kp stop fuel (Lf m i) e' k))
theorem xE(kp:KP){sM:vN}{s:tV}(h:∀f m e,sM f m e=s f (iF ops.size m) e):∀(f m:Nat) (e:Env) (k:Env->Pr),Lj P md ops kp sM f m e k=cD P kp md ops s f (iF ops.size m) e k
 |0,m,e,k=>by rw[Lj,cD,h,qB]
 |
  f+1,m,e,k=>by
  rw[Lj,cD,h,qB];have ht:gj P md ops m=kK P md ops (iF ops.size m):=funext λi=>IA P md ops m i;have hk:∀i e',Lj P md ops kp sM f (Lf m i) e' k=cD P kp md ops s f ((iF ops.size m).setIfInBounds i true) e' k:=λi e'=>by rw[xE kp h f,yZ]
  rw[ht];simp only[hk]
def JA.YT(j:JA)(m:Nat):Nat:=j.ix.foldl Lf m
theorem IB(j:JA)(n m:Nat):j.to (iF n m)=iF n (j.YT m):=by
 unfold JA.to JA.YT;generalize j.ix=l
 induction l generalizing m with
 |nil=>rfl
 |cons i l ih=>rw[List.foldl_cons,List.foldl_cons,yZ,ih]
def IC(j:JA)(e:Env)(T:Nat)(f2:Nat)(R:dY (j.l.map (·.2))->Pr):vN:=λfuel m e'=>
 match Nat.beq (m%2^ops.size) (T%2^ops.size)&&Nat.ble f2 fuel with
 |true=>some (tf (pq e e' (j.kp ops)&&(j.sl ops).all λd=>gh (Env.get e' d)) (need e' j.l R) cX)
 |false=>none
def ID(kp:KP)(j:JA)(Od:Nat->Nat->Env->Pr)(fuel:Nat)(m:Nat)(e:Env):Pr:=
 tf (!(bO ops).contains nP&& !(bO ops).contains sx) (jn (λR=>Lj P md ops kp (IC ops j e (j.YT m) (fuel-j.ix.length) R) fuel m e (λ_=>cX))
  (λs=>Od (fuel-j.ix.length) (j.YT m) (kE (tW (j.sl ops) (kL e (j.kp ops) (Env.forget e (bO ops)))) j.l s))) cX
def Bp(kp:KP)(j:JA)(Od:Nat->Nat->Env->Pr)(alt:vN):vN:=λfuel m e=>
 match qA md ops m==j.rs&&(j.sk==j.ix.all (MW ops e))with
 |true=>some (ID P md ops kp j Od fuel m e)
 |false=>alt fuel m e
def ug(kp:KP)(k:Env->Pr):List JA->vN
 |[]=>λ_ _ _=>none
 |j::js=>Bp P md ops kp j (λf L e'=>Lj P md ops kp (ug kp k js) f L e' k) (ug kp k js)
theorem qC(kp:KP)(k:Env->Pr):∀(js:List JA) (f m:Nat) (e:Env),ug P md ops kp k js f m e=stops P kp md ops k js f (iF ops.size m) e
 |[],_,_,_=>rfl
 |
  j::js,f,m,e=>by
  show Bp P md ops kp j _ _ f m e=Ep P kp md ops j _ _ f (iF ops.size m) e;unfold Bp Ep;rw[qB,qC kp k js];have:ID P md ops kp j (λf L e'=>Lj P md ops kp (ug P md ops kp k js) f L e' k) f m e=Is P kp md ops j (λf L e'=>cD P kp md ops (stops P kp md ops k js) f L e' k) f (iF ops.size m) e:=by
   unfold ID Is
   congr 1
   congr 1
   ·funext R
    rw[IB];refine xE P md ops kp (λf' m' e'=>?_) ..;unfold IC Ir;rw[Lg]
    all_goals rfl
   ·funext s
    rw[IB];exact xE P md ops kp (λf' m' e'=>qC kp k js f' m' e') ..
  rw[this]
  all_goals rfl
def tY(kp:KP)(js:List JA)(e:Env)(k:Env->Pr):Pr:=Lj P md ops kp (ug P md ops kp k js) ops.size 0 e k
theorem FO(kp:KP)(js:List JA)(e:Env)(k:Env->Pr):tY P md ops kp js e k=MX P kp md ops js ops.size (Array.replicate ops.size false) e k:=by
 rw[FT];exact xE P md ops kp (qC P md ops kp k js) ..
end
inductive An where
 |z
 |sq (x y:An)
 |br (x y:An)
 |bl (x:An)
 |sc (x:An)
 |lp (l:Live) (x:An)
 |jn (l:Live) (x:An)
 |rf (cH:List Sh) (x y:An)
 |jm (l:Live) (x:An)
 |lb
 |sj (lb:Nat) (l:Live) (x y:An)
 |rj (js:List JA)
structure Ks where
 n:Env->Pr
 r:Env->Pr
 x:List (Nat×(Env->Pr))
 rg:Bool
 g:List (Nat×(Env->Pr))
def mB:List (Nat×(Env->Pr))->Nat->Env->Pr
 |[],_,_=>cX
 |
  (j,k)::l,i,e=>
  match Nat.beq i j with
  |true=>k e
  |false=>mB l i e
def cZ:Code->List Nat
 |.region _ ops _=>bO ops
 |.seq a b=>cZ a++cZ b
 |.cond _ a b=>cZ a++cZ b
 |.block _ a=>cZ a
 |.loop a=>cZ a
 |.scope a=>cZ a
 |.rangeFunc _ _ _ _=>[nP]
 |_=>[]
def xz(kp:KP)(dk:Bool):KP:=
 match dk with
 |true=>kp
 |false=>none
def Bd(P:Program)(ops:Array Oper):Bool:=Region.noSelect ops&&lE ops
def vK(P:Program)(ops:Array Oper):Bool:=P.follows .mixedOrders|| !Region.departs ops
def ZI(js:List JA)(ops:Array Oper):Bool:=js.all λj=>j.l.all λx=>(bO ops).contains x.1
def Of(P:Program)(kp:KP)(dk rg:Bool)(js:List JA)(ops:Array Oper)(draw:Bool)(e:Env)(k:Env->Pr):Pr:=
 match draw with
 |false=>N8 P kp (!rg) ops (List.range ops.size) e k
 |true=>tf (Bd P ops) (fq (tf (vK P ops) (tY P .any ops (xz kp dk) js e k)
   (both (tY P .text ops (xz kp dk) js e k) (tY P .gc ops (xz kp dk) js e k)))) cX
def qy(l:Live)(W:List Nat):Bool:= !W.contains nP&& !W.contains sx&&l.all λx=>W.contains x.1
def oQ:Option Nat->Code
 |none=>.ret
 |some i=>.exit i
def xg:List (Nat×Pr)->Nat->Pr
 |[],_=>cX
 |
  (j,k)::l,i=>
  match Nat.beq i j with
  |true=>k
  |false=>xg l i
def jmp(r:Pr)(x:List (Nat×Pr)):Option Nat->Pr
 |none=>r
 |some i=>xg x i
def iZ:Code->Bool
 |.ret=>true
 |.seq a b=>iZ a||iZ b
 |.cond _ a b=>iZ a||iZ b
 |.block _ a=>iZ a
 |.loop a=>iZ a
 |.scope a=>iZ a
 |.rangeFunc _ _ a b=>iZ a||iZ b
 |_=>false
def eC(i:Nat):Code->Bool
 |.exit j=>Nat.beq i j
 |.seq a b=>eC i a||eC i b
 |.cond _ a b=>eC i a||eC i b
 |.block _ a=>eC i a
 |.loop a=>eC i a
 |.scope a=>eC i a
 |.rangeFunc _ _ a b=>eC i a||eC i b
 |_=>false
def MY(c:Code)(e:Env):List (Nat×(Env->Pr))->List (Nat×Pr)
 |[]=>[]
 |
  (i,k)::l=>
  match eC i c with
  |true=>(i,k e)::MY c e l
  |false=>MY c e l
def tn(P:Program)(v:Value)(cH:List Sh)(R:Nat->dY cH->(Pr->Pr)->Pr->(Option Nat->Pr)->Pr)(K Jr:Nat->Pr)(Jx:Nat->List (Nat×Pr)):Pr:=λw=>
 ∃f caps,v=.func (.func f) #[] caps/\eE P f=true/\
 ∀
  L:LoopState->Option Code->Obj,(∀s p,∃r,L s p=.loop r)->
  (∀(W:World) (args:dY cH) (k:Bool->Pr),W.heap[w.heap.size+1]? =some (L .ready none)->
    R
     (w.heap.size+1) args (λc W1=>W1.heap[w.heap.size+1]? =some (L .ready none)/\c (W1.putObj (w.heap.size+1) (L .busy none)))
     (λW1=>W1.heap[w.heap.size+1]? =some (L .busy none)/\k true (W1.putObj (w.heap.size+1) (L .ready none)))
     (λj W1=>W1.heap[w.heap.size+1]? =some (L .busy none)/\k false (W1.putObj (w.heap.size+1) (L .done (some (oQ j))))) W->
    YieldAt Fence.wide 0 P (w.heap.size+1) (oY cH args).toArray W (aj [.c .bool] k))->
  Calls P f (#[.func (.yield (w.heap.size+1)) #[] #[]]++caps) ((w.alloc (.deferred (some []))).alloc (L .ready none)) λe W1=>
   (∃u,e=.returned u)/\
   (
    (W1.heap[w.heap.size+1]? =some (L .ready none)/\K w.heap.size (W1.putObj (w.heap.size+1) (L .exhausted none)))\/
    ∃j,W1.heap[w.heap.size+1]? =some (L .done (some (oQ j)))/\jmp (Jr w.heap.size) (Jx w.heap.size) j (W1.putObj (w.heap.size+1) (L .exhausted (some (oQ j)))))
def Es:List Nat->LV->Env->Env
 |p::ps,v::vs,e=>Es ps vs (Env.set e p (.val v))
 |_,_,e=>e
def YN(lv:Option Nat->Pr):List (Nat×(Env->Pr))->List (Nat×(Env->Pr))
 |[]=>[]
 |(i,_)::l=>(i,λ_=>lv (some i))::YN lv l
def takes:List Nat->Pr->Pr
 |[],k=>k
 |D::ds,k=>λw=>w.heap[D]? =some (.deferred (some []))/\takes ds k (w.putObj D (.deferred none))
def dI(l:Nat):Code->Bool
 |.seq a b=>dI l a||dI l b
 |.label l'=>Nat.beq l' l
 |_=>false
def mg:Code->Bool
 |.seq a b=>mg a&&mg b
 |.label _=>false
 |_=>true
def ZJ{S:Type}(G:(S->Pr)->S->Pr)(F:(S->Pr)->Pr):Pr:=λw=>
 ∃(I:S->Pr) (μ:S->World->Nat),F I w/\∀s w,I s w->G (λs' w'=>I s' w'/\μ s' w'<μ s w) s w
mutual
def cC(P:Program)(kp:KP)(dk:Bool):An->Code->Env->Ks->Pr
 |.z,.skip,e,K=>K.n e
 |.z,.label _,e,K=>K.n e
 |.z,.region _ ops draw,e,K=>Of P kp dk K.rg [] ops draw e K.n
 |.rj js,.region _ ops draw,e,K=>tf (ZI js ops) (Of P kp dk K.rg js ops draw e K.n) cX
 |.z,.exit i,e,K=>mB K.x i e
 |.z,.ret,e,K=>K.r e
 |.z,.goto l,e,K=>mB K.g l e
 |.lb,.label l,e,K=>mB K.g l e
 |.sq x y,.seq a b,e,K=>cC P kp dk x a e {K with n:=λe'=>cC P kp dk y b e' K}
 |.br x y,.cond c a b,e,K=>tf (mg a&&mg b) (Hi (Env.ev e c) (cC P kp dk x a e K) (cC P kp dk y b e K)) cX
 |.bl x,.block id a,e,K=>tf (mg a) (cC P kp dk x a e {K with x:=(id,K.n)::K.x}) cX
 |.sc x,.scope a,e,K=>cC P kp dk x a e {K with g:=[]}
 |.sj lb l x y,.scope a,e,K=>tf (qy l (cZ a)&&dI lb a) (ZJ
   (λX s=>cL P kp dk lb y a (kE (Env.forget e (cZ a)) l s) {K with g:=[(lb,λe'=>need e' l X)]})
   (λX=>cC P kp dk x a e {K with g:=[(lb,λe'=>need e' l X)]})) cX
 |.lp l x,.loop a,e,K=>tf (qy l (cZ a)&&mg a) (need e l λs=>ck (λX s=>cC P kp dk x a (kE (Env.forget e (cZ a)) l s) {K with n:=λe'=>need e' l X}) s) cX
 |.jn l x,c,e,K=>tf (qy l (cZ c)&&mg c) (jn (λR=>cC P kp dk x c e {K with n:=λe'=>need e' l R}) (λs=>K.n (kE (Env.forget e (cZ c)) l s))) cX
 |.rf cH x y,.rangeFunc g ps assign body,e,K=>tf (!K.rg&&Nat.beq cH.length ps.size) (nd (Env.ev e g) λv=>
   tn P v cH (λ_ args bg nx lv=>cC P none dk x assign (Es ps.toList (oY cH args) ⟨e.l,[],[]⟩) ⟨λe1=>bg (cC P none dk y body e1 ⟨λ_=>nx,λ_=>lv none,YN lv K.x,true,[]⟩),λ_=>cX,[],true,[]⟩)
    (λD=>K.n (Env.mark e D)) (λD=>tf (iZ body) (K.r (Env.mark e D)) cX) (λD=>MY body (Env.mark e D) K.x)) cX
 |.jm l x,c,e,K=>tf ((!(cZ c).contains sx&&l.all λz=>(cZ c).contains z.1)&&mg c) (jn (λR=>cC P kp dk x c e {K with n:=λe'=>need e' l λs=>R (e'.ds,s)}) (λs=>K.n (kE ⟨(Env.forget e (cZ c)).l,s.1,e.bs⟩ l s.2))) cX
 |_,_,_,_=>cX
def cL(P:Program)(kp:KP)(dk:Bool)(lb:Nat):An->Code->Env->Ks->Pr
 |.z,.label l,e,K=>tf (Nat.beq l lb) (K.n e) cX
 |.sq x y,.seq a b,e,K=>tf (dI lb a) (tf (dI lb b) cX (cL P kp dk lb x a e {K with n:=λe'=>cC P kp dk y b e' K})) (cL P kp dk lb y b e K)
 |_,_,_,_=>cX
end
theorem cy{P:Program}{b:Frame}{a:Act}{k:List Item}{cs:List Frame}{w:World}{c:Code}:
 step P (lone (b.atR a (.code (.scope c)::k)) cs w)=.next (lone (b.atR a (.code c::.inScope c::k)) cs w):=
 step_lone_go (by simp[stepG,stepG.exec,Frame.atR])
theorem i6{P:Program}{b:Frame}{a:Act}{k:List Item}{cs:List Frame}{w:World}{c:Code}:
 step P (lone (b.atR a (.inScope c::k)) cs w)=.next (lone (b.atR a k) cs w):=
 step_lone_go (by simp[stepG,stepG.exec,Frame.atR])
def ZK(Q:Exit->Act->World->Prop):Exit->Act->World->Prop
 |.goto _,_,_=>False
 |e,a,w=>Q e a w
theorem yU{F:Fence}{n:Nat}{P:Program}{Q:Exit->Act->World->Prop}{a:Act}{w:World}{c:Code}(h:c.wpIn F n P (ZK Q) a w):(Code.scope c).wpIn F n P Q a w:=by
 intro b k cs hro hb hr;have h0:(lone (b.atR a (.code (.scope c)::k)) cs w).fenced P F:=fenced_calm hb hr rfl;obtain⟨e,a₁,w₁,hq,jN⟩:=h b (.inScope c::k) cs hro hb hr;cases e with
 |normal=>exact⟨.normal,a₁,w₁,hq,.head h0 cy (StepsIn.trans jN (.one (fenced_calm hb hr rfl) i6))⟩
 |
  exit id=>
  have hx:exitTo id (.inScope c::k)=exitTo id k:=by simp[exitTo]
  exact⟨_,a₁,w₁,hq,λk' hk=>.head h0 cy (jN.1 k' (by rw[hx];exact hk)),
   λhr' hk=>let⟨k₁,h1,h2⟩:=jN.2 hr' (by rw[hx];exact hk);⟨k₁,h1,.head h0 cy h2⟩⟩
 |goto l=>exact hq.elim
 |ret=>exact⟨_,a₁,w₁,hq,.of_steps (.one h0 cy) jN⟩
 |panic ch=>exact⟨_,a₁,w₁,hq,.of_steps (.one h0 cy) jN⟩
 |outgrown=>exact⟨_,a₁,w₁,hq,.of_steps (.one h0 cy) jN⟩
theorem least{S:Type}(p:S->Prop)(f:S->Nat)(h:∃s,p s):∃s,p s/\∀s',p s'->f s<=f s':=by
 have key:∀m s,p s->f s=m->∃s,p s/\∀s',p s'->f s<=f s':=by
  intro m
  induction m using Nat.strongRecOn with
  |
   _ m ih=>
   intro s hs hm;rcases Classical.em (∃s',p s'/\f s'<m)with⟨s',h1,h2⟩|hno
   ·exact ih _ h2 s' h1 rfl
   ·refine⟨s,hs,λs' hs'=>?_⟩
    rw[hm];exact Nat.le_of_not_lt λhlt=>hno ⟨s',hs',hlt⟩
 obtain⟨s,hs⟩:=h;exact key _ s hs rfl
theorem Be{F:Fence}{n:Nat}{P:Program}{Q:Exit->Act->World->Prop}{c:Code}{S:Type}(I:S->Act->World->Prop)(μ:S->World->Nat){s:S}{a:Act}{w:World}(h₀:I s a w)
 (round:∀s a w,I s a w->c.wpIn F n P (Exit.then (λa' w'=>∃s',I s' a' w'/\μ s' w'<μ s w) Q) a w):(Code.loop c).wpIn F n P Q a w:=by
 classical
 let ν:Act->World->Nat:=λa w=>if h:∃s,I s a w then μ (Classical.choose (least (λs=>I s a w) (λs=>μ s w) h)) w else 0;refine wpIn_loop (λa w=>∃s,I s a w) ν ⟨s,h₀⟩ ?_;intro a w hex;obtain⟨hs1,_⟩:=Classical.choose_spec (least (λs=>I s a w) (λs=>μ s w) hex);have hν:ν a w=μ (Classical.choose (least (λs=>I s a w) (λs=>μ s w) hex)) w:=by simp only[ν];rw[dif_pos hex]
 refine wpIn_mono (round _ a w hs1) ?_;intro e a' w' h;cases e with
 |
  normal=>
  obtain⟨s',hs',hlt⟩:=h;refine⟨⟨s',hs'⟩,?_⟩;have Og:∃s,I s a' w':=⟨s',hs'⟩;have h2:=(Classical.choose_spec (least (λs=>I s a' w') (λs=>μ s w') Og)).2 s' hs';have hν':ν a' w'=μ (Classical.choose (least (λs=>I s a' w') (λs=>μ s w') Og)) w':=by simp only[ν];rw[dif_pos Og]
  rw[hν,hν'];exact Nat.lt_of_le_of_lt h2 hlt
 |_=>exact h
section
variable{P:Program}{n:Nat}{r:Option Nat}
theorem Bg{Q:Exit->Act->World->Prop}{ops:Array Oper}{id:Nat}{a:Act}{w:World}(hm:vK P ops=true)
 (h:wpAnyIn (wf r) n P .any ops Q ops.size (Array.replicate ops.size false) a w.drew):(Code.region id ops true).wpIn (wf r) n P Q a w:=
 wpIn_region_draw λt=>by
  unfold vK at hm;simp only[Region.schedule,hm,if_true];exact wpAnyIn_sound ops.size t _ a _ h
theorem Bh{Q:Exit->Act->World->Prop}{ops:Array Oper}{id:Nat}{a:Act}{w:World}(hm:vK P ops=false)
 (h1:wpAnyIn (wf r) n P .text ops Q ops.size (Array.replicate ops.size false) a w.drew)(h2:wpAnyIn (wf r) n P .gc ops Q ops.size (Array.replicate ops.size false) a w.drew):(Code.region id ops true).wpIn (wf r) n P Q a w:=
 wpIn_region_draw λt=>by
  unfold vK at hm;simp only[Region.schedule,hm,Bool.false_eq_true,if_false];split
  ·exact wpAnyIn_sound ops.size _ _ a _ h1
  ·exact wpAnyIn_sound ops.size _ _ a _ h2
def It(Q:Exit->Act->World->Prop):Exit->Act->World->Prop
 |.panic _,_,_=>False
 |e,a,w=>Q e a w
theorem yV{js:List JA}{ops:Array Oper}(h:ZI js ops=true):∀j∈js,∀x∈j.l,x.1∈bO ops:=λj hj x hx=>by
 simpa using List.all_eq_true.1 (List.all_eq_true.1 h j hj) x hx
theorem tZ{kp:KP}{dk rg:Bool}{js:List JA}{ops:Array Oper}{id:Nat}{draw:Bool}{Q:Exit->Act->World->Prop}{e:Env}{a:Act}{w:World}{k:Env->Pr}(nQ:rg=false->r=none)
 (hI:dk=true->∀c a d v w,d∈bO ops->Q (.panic c) (a.put (some d) v) w->Q (.panic c) a w)(hjs:ZI js ops=true)(he:Ag e a)(h:Of P kp dk rg js ops draw e k w)
 (hk:∀e' a' w',Ag e' a'->Ext (bO ops) e e'->k e' w'->Q .normal a' w')
 (hp:∀e' a' ch w',Ag e' a'->Ext (bO ops) e e'->KA (kp.at e') ch w'->Q (.panic ch) a' w'):(Code.region id ops draw).wpIn (wf r) n P Q a w:=by
 cases draw with
 |false=>exact wpIn_region (tP (λh=>nQ (by simpa using h)) he h hk hp)
 |
  true=>
  rcases aO (show tf (Bd P ops) _ _ w from h)with⟨hd,h⟩|⟨_,h⟩
  ·simp only[Bd,kf]at hd
   have one:∀(md:Region.Mode) (Q0:Exit->Act->World->Prop),(Q0=Q/\dk=true)\/(Q0=It Q/\dk=false)->tY P md ops (xz kp dk) js e k w.drew->
    wpAnyIn (wf r) n P md ops Q0 ops.size (Array.replicate ops.size false) a w.drew:=by
    intro md Q0 Rl h;rw[FO]at h;rcases Rl with⟨rfl,rfl⟩|⟨rfl,rfl⟩
    ·exact qv hd.2 _ _ _ _ (rI hd.1 (hI rfl) js (yV hjs) _ _ _ _ _ _ he h hk hp)
    ·exact qv hd.2 _ _ _ _ (rI (kp:=none) hd.1 (λc a d v w _ h=>h) js (yV hjs) _ _ _ _ _ _ he h hk (λe' a' ch w' _ _ h=>False.elim h))
   have MZ:∀Q0:Exit->Act->World->Prop,(Q0=Q/\dk=true)\/(Q0=It Q/\dk=false)->(Code.region id ops true).wpIn (wf r) n P Q0 a w:=by
    intro Q0 Rl;rcases aO (show tf (vK P ops) _ _ w.drew from h)with⟨hm,h⟩|⟨hm,h⟩
    ·exact Bg hm (one _ _ Rl h)
    ·exact Bh hm (one _ _ Rl h.1) (one _ _ Rl h.2)
   cases hdk:dk with
   |true=>exact MZ Q (.inl ⟨rfl,hdk⟩)
   |
    false=>
    refine wpIn_mono (Q:=It Q) (MZ _ (.inr ⟨rfl,hdk⟩)) ?_;intro ex a' w' h;cases ex<;>first|exact h|exact False.elim h
  ·exact h.elim
theorem mU{l:Live}{W:List Nat}(h:qy l W=true):(∀x∈l,x.1∈W)/\nP∉W/\sx∉W:=by
 unfold qy at h;rw[kf,kf]at h;refine⟨λx hx=>?_,by simpa using h.1.1,by simpa using h.1.2⟩;have:=List.all_eq_true.1 h.2 x hx;simpa using this
theorem rJ:∀(l:List Sh) (p:dY l),(oY l p).length=l.length
 |[],_=>rfl
 |[_],_=>rfl
 |
  _::t::l,(p,q)=>by
  show(val _ p::oY (t::l) q).length=_;rw[List.length_cons,rJ (t::l) q];rfl
theorem yW:∀(ps:List Nat) (vs:LV) (e:Env) (a:Act),Ag e a->Ag (Es ps vs e) ((ps.zip vs).foldl (λa x=>a.put (some x.1) x.2) a)
 |[],vs,e,a,h=>by cases vs<;>exact h
 |_::_,[],e,a,h=>h
 |p::ps,v::vs,e,a,h=>yW ps vs _ _ (h.put (some p) (x:=.val v) (λu hu=>by simpa[EV.v?]using hu.symm))
theorem vL:∀(l:List (Nat×Value)) (a:Act),l.foldl (λa x=>a.put (some x.1) x.2) a={a with tmps:=l.foldl (λt x=>t.setIfInBounds x.1 x.2) a.tmps}
 |[],a=>rfl
 |
  x::l,a=>by
  rw[List.foldl_cons,List.foldl_cons,vL l];rfl
theorem xA{c:Code}{e:Env}{i:Nat}{w:World}(hi:eC i c=false):∀{l:List (Nat×(Env->Pr))},xg (MY c e l) i w->False
 |[],h=>h.elim
 |
  (j,k)::l,h=>by
  unfold MY at h;cases hj:eC j c with
  |false=>rw[hj]at h;exact xA hi (l:=l) h
  |
   true=>
   rw[hj]at h;unfold xg at h;cases hb:Nat.beq i j with
   |
    true=>
    have:i=j:=Nat.eq_of_beq_eq_true hb;subst this;rw[hi]at hj;cases hj
   |false=>rw[hb]at h;exact xA hi (l:=l) h
theorem Bi{c:Code}{e:Env}{i:Nat}{w:World}(hi:eC i c=true):∀{l:List (Nat×(Env->Pr))},xg (MY c e l) i w->mB l i e w
 |[],h=>h.elim
 |
  (j,k)::l,h=>by
  unfold MY at h;unfold mB;cases hb:Nat.beq i j with
  |
   true=>
   have:i=j:=Nat.eq_of_beq_eq_true hb;subst this;rw[hi]at h;unfold xg at h;rw[hb]at h;exact h
  |
   false=>
   cases hj:eC j c with
   |false=>rw[hj]at h;exact Bi hi (l:=l) h
   |
    true=>
    rw[hj]at h;unfold xg at h;rw[hb]at h;exact Bi hi (l:=l) h
theorem Oh{c:Code}{e:Env}{i:Nat}{w:World}{l:List (Nat×(Env->Pr))}(h:xg (MY c e l) i w):mB l i e w:=by
 cases hi:eC i c with
 |true=>exact Bi hi h
 |false=>exact(xA hi h).elim
theorem yX{lv:Option Nat->Pr}{i:Nat}{e:Env}{w:World}:∀{l:List (Nat×(Env->Pr))},mB (YN lv l) i e w->lv (some i) w
 |[],h=>h.elim
 |
  (j,k)::l,h=>by
  unfold YN mB at h;cases hb:Nat.beq i j with
  |
   true=>
   rw[hb]at h;have:i=j:=Nat.eq_of_beq_eq_true hb;subst this;exact h
  |
   false=>
   rw[hb]at h;exact yX (l:=l) h
theorem fV{l:Nat}:∀{c:Code},mg c=true->dI l c=false
 |
  .seq a b,h=>by
  simp only[mg,kf]at h;simp only[dI,fV (c:=a) h.1,fV (c:=b) h.2,Bool.or_self]
 |.label _,h=>by cases h
 |.skip,_|.region _ _ _,_|.cond _ _ _,_|.block _ _,_|.loop _,_|.scope _,_|.exit _,_|.goto _,_|.ret,_|.refuse _,_|.rangeFunc _ _ _ _,_=>rfl
def ua(P:Program)(n:Nat)(r:Option Nat):Code->Nat->(Exit->Act->World->Prop)->Act->World->Prop
 |.seq a b,l,Q,ac,w=>(dI l a=true->ua P n r a l (Exit.then (b.wpIn (wf r) n P Q) Q) ac w)/\(dI l b=true->ua P n r b l Q ac w)
 |.label _,_,Q,ac,w=>Q .normal ac w
 |_,_,_,_,_=>True
theorem gI{l:Nat}:∀{c rest:Code},findLabel c l=some rest->dI l c=true
 |
  .seq a b,rest,h=>by
  unfold findLabel at h;simp only[dI,Bool.or_eq_true];split at h
  ·rename_i ra ha;exact .inl (gI ha)
  ·exact .inr (gI h)
 |
  .label l',rest,h=>by
  unfold findLabel at h;split at h
  ·rename_i he
   have:l'=l:=by simpa using he
   subst this;exact Nat.beq_refl _
  ·cases h
 |.skip,_,h|.region _ _ _,_,h|.cond _ _ _,_,h|.block _ _,_,h|.loop _,_,h|.scope _,_,h|.exit _,_,h|.goto _,_,h|.ret,_,h|.refuse _,_,h|.rangeFunc _ _ _ _,_,h=>by simp[findLabel]at h
theorem kq{l:Nat}:∀{c:Code},dI l c=true->∃rest,findLabel c l=some rest
 |
  .seq a b,h=>by
  simp only[dI,Bool.or_eq_true]at h;unfold findLabel;cases ha:findLabel a l with
  |some ra=>exact⟨_,rfl⟩
  |
   none=>
   rcases h with h|h
   ·obtain⟨r,hr⟩:=kq h
    rw[ha]at hr;cases hr
   ·exact kq h
 |
  .label l',h=>by
  have:l'=l:=(Nat.eq_of_beq_eq_true (show Nat.beq l' l=true from h));subst this;exact⟨.skip,by simp[findLabel]⟩
 |.skip,h|.region _ _ _,h|.cond _ _ _,h|.block _ _,h|.loop _,h|.scope _,h|.exit _,h|.goto _,h|.ret,h|.refuse _,h|.rangeFunc _ _ _ _,h=>by cases h
theorem uc{P:Program}{n:Nat}{r:Option Nat}{l:Nat}:∀{c rest:Code} {Q:Exit->Act->World->Prop} {a:Act} {w:World},findLabel c l=some rest->ua P n r c l Q a w->rest.wpIn (wf r) n P Q a w
 |
  .seq c1 c2,rest,Q,a,w,h,hl=>by
  obtain⟨h1,h2⟩:=hl;unfold findLabel at h;split at h
  ·rename_i ra ha
   simp only[jg]at h;subst h;exact wpIn_seq (uc ha (h1 (gI ha)))
  ·exact uc h (h2 (gI h))
 |
  .label l',rest,Q,a,w,h,hl=>by
  unfold findLabel at h;split at h
  ·simp only[jg]at h
   subst h;exact wpIn_skip hl
  ·cases h
 |.skip,_,_,_,_,h,_|.region _ _ _,_,_,_,_,h,_|.cond _ _ _,_,_,_,_,h,_|.block _ _,_,_,_,_,h,_|.loop _,_,_,_,_,h,_|.scope _,_,_,_,_,h,_|.exit _,_,_,_,_,h,_
 |.goto _,_,_,_,_,h,_|.ret,_,_,_,_,h,_|.refuse _,_,_,_,_,h,_|.rangeFunc _ _ _ _,_,_,_,_,h,_=>by simp[findLabel]at h
def Et(l:Nat)(J:Act->World->Prop)(Q:Exit->Act->World->Prop):Exit->Act->World->Prop
 |.goto l',a,w=>l'=l/\J a w
 |e,a,w=>Q e a w
theorem pE{F:Fence}{n:Nat}{P:Program}{Q:Exit->Act->World->Prop}{a:Act}{w:World}{c rest:Code}{S:Type}(l:Nat)(J:S->Act->World->Prop)(μ:S->World->Nat)(hf:findLabel c l=some rest)
 (first:c.wpIn F n P (Et l (λa w=>∃s,J s a w) Q) a w)
 (pass:∀s a w,J s a w->rest.wpIn F n P (Et l (λa' w'=>∃s',J s' a' w'/\μ s' w'<μ s w) Q) a w):(Code.scope c).wpIn F n P Q a w:=by
 intro b k cs hro hb hr;have h0:(lone (b.atR a (.code (.scope c)::k)) cs w).fenced P F:=fenced_calm hb hr rfl;have hg:gotoIn l (.inScope c::k)=some (.code rest::.inScope c::k):=by simp[gotoIn,hf]
 have Iu:∀id,exitTo id (.inScope c::k)=exitTo id k:=λid=>by simp[exitTo]
 have key:∀m s a w,μ s w=m->J s a w->∃e a' w',Q e a' w'/\ArrivesIn (Machine.fenced P F) P (lone (b.atR a (.code rest::.inScope c::k)) cs w) b k cs e a' w':=by
  intro m
  induction m using Nat.strongRecOn with
  |
   _ m ih=>
   intro s a w hn hJ;obtain⟨e,a₁,w₁,hq,jN⟩:=pass s a w hJ b (.inScope c::k) cs hro hb hr;cases e with
   |normal=>exact⟨.normal,a₁,w₁,hq,StepsIn.trans jN (.one (fenced_calm hb hr rfl) i6)⟩
   |exit id=>exact⟨.exit id,a₁,w₁,hq,λk' hk=>jN.1 k' (by rw[Iu];exact hk),λhr' hk=>jN.2 hr' (by rw[Iu];exact hk)⟩
   |
    goto l'=>
    obtain⟨rfl,s',Rm,hlt⟩:=hq;obtain⟨e₂,a₂,w₂,ZL,Iv⟩:=ih _ (hn▸hlt) s' a₁ w₁ rfl Rm;exact⟨e₂,a₂,w₂,ZL,.of_steps (jN.1 _ hg) Iv⟩
   |ret=>exact⟨_,a₁,w₁,hq,jN⟩
   |panic ch=>exact⟨_,a₁,w₁,hq,jN⟩
   |outgrown=>exact⟨_,a₁,w₁,hq,jN⟩
 obtain⟨e,a₁,w₁,hq,jN⟩:=first b (.inScope c::k) cs hro hb hr
 cases e with
 |normal=>exact⟨.normal,a₁,w₁,hq,.head h0 cy (StepsIn.trans jN (.one (fenced_calm hb hr rfl) i6))⟩
 |
  exit id=>
  exact⟨_,a₁,w₁,hq,λk' hk=>.head h0 cy (jN.1 k' (by rw[Iu];exact hk)),
   λhr' hk=>let⟨k₁,h1,h2⟩:=jN.2 hr' (by rw[Iu];exact hk);⟨k₁,h1,.head h0 cy h2⟩⟩
 |
  goto l'=>
  obtain⟨rfl,s',Rm⟩:=hq;obtain⟨e₂,a₂,w₂,ZL,Iv⟩:=key _ s' a₁ w₁ rfl Rm;exact⟨e₂,a₂,w₂,ZL,.of_steps (.head h0 cy (jN.1 _ hg)) Iv⟩
 |ret=>exact⟨_,a₁,w₁,hq,.of_steps (.one h0 cy) jN⟩
 |panic ch=>exact⟨_,a₁,w₁,hq,.of_steps (.one h0 cy) jN⟩
 |outgrown=>exact⟨_,a₁,w₁,hq,.of_steps (.one h0 cy) jN⟩
def
 Bj(P:Program)(dk:Bool)(an:An):Prop:=∀(kp:KP) (n:Nat) (r:Option Nat) (c:Code) (Q:Exit->Act->World->Prop) (e:Env) (a:Act) (w:World) (K:Ks),(dk=true->∀ch a d v w,d∈cZ c->Q (.panic ch) (a.put (some d) v) w->Q (.panic ch) a w)->
 (∀e' a' ch w',Ag e' a'->Ext (cZ c) e e'->KA (kp.at e') ch w'->Q (.panic ch) a' w')->Ag e a->cC P kp dk an c e K w->(K.rg=false->r=none)->
 (∀e' a' w',Ag e' a'->Ext (cZ c) e e'->K.n e' w'->Q .normal a' w')->(∀e' a' w',Ag e' a'->K.r e' w'->Q .ret a' w')->
 (∀i e' a' w',Ag e' a'->Ext (cZ c) e e'->mB K.x i e' w'->Q (.exit i) a' w')->
 (∀l e' a' w',Ag e' a'->Ext (cZ c) e e'->mB K.g l e' w'->Q (.goto l) a' w')->
 (∀l e' a' w',dI l c=true->Ag e' a'->Ext (cZ c) e e'->mB K.g l e' w'->ua P n r c l Q a' w')->c.wpIn (wf r) n P Q a w
def
 qz(P:Program)(dk:Bool)(an:An):Prop:=∀(kp:KP) (n:Nat) (r:Option Nat) (lb:Nat) (c:Code) (Q:Exit->Act->World->Prop) (e:Env) (a:Act) (w:World) (K:Ks),(dk=true->∀ch a d v w,d∈cZ c->Q (.panic ch) (a.put (some d) v) w->Q (.panic ch) a w)->
 (∀e' a' ch w',Ag e' a'->Ext (cZ c) e e'->KA (kp.at e') ch w'->Q (.panic ch) a' w')->Ag e a->cL P kp dk lb an c e K w->(K.rg=false->r=none)->
 (∀e' a' w',Ag e' a'->Ext (cZ c) e e'->K.n e' w'->Q .normal a' w')->(∀e' a' w',Ag e' a'->K.r e' w'->Q .ret a' w')->
 (∀i e' a' w',Ag e' a'->Ext (cZ c) e e'->mB K.x i e' w'->Q (.exit i) a' w')->
 (∀l e' a' w',Ag e' a'->Ext (cZ c) e e'->mB K.g l e' w'->Q (.goto l) a' w')->
 (∀l e' a' w',l≠lb->dI l c=true->Ag e' a'->Ext (cZ c) e e'->mB K.g l e' w'->ua P n r c l Q a' w')->ua P n r c lb Q a w
theorem ZM{dk:Bool}:qz P dk .z:=by
 intro kp n r lb c Q e a w K hI hp he h nQ hn hr hx mL hla;cases c<;>simp only[cL]at h<;>try exact h.elim
 rcases aO h with⟨_,h⟩|⟨_,h⟩
 ·exact hn _ _ _ he (Ext.refl _ _) h
 ·exact h.elim
theorem Rn{dk:Bool}{x y:An}(mh:qz P dk x)(xB:qz P dk y)(icy:Bj P dk y):qz P dk (.sq x y):=by
 intro kp n r lb c Q e a w K hI hp he h nQ hn hr hx mL hla;cases c<;>simp only[cL]at h<;>try exact h.elim
 rename_i c1 c2;rcases aO h with⟨h1,h⟩|⟨h1,h⟩
 ·rcases aO h with⟨h2,h⟩|⟨h2,h⟩
  ·exact h.elim
  ·refine⟨λ_=>?_,λh3=>by rw[h2]at h3;cases h3⟩
   refine mh _ _ _ lb c1 _ e a w _ (λhd ch a d v w hm h=>hI hd ch a d v w (by simp[cZ,hm]) h) (λe1 a1 ch w1 dr hx1 h1=>hp _ _ _ _ dr (hx1.mono (λ_ h=>by simp[cZ,h])) h1) he h nQ ?_ hr ?_ ?_ ?_
   ·intro e1 a1 w1 dr hx1 h1
    refine icy _ _ _ c2 Q e1 a1 w1 K (λhd ch a d v w hm h=>hI hd ch a d v w (by simp[cZ,hm]) h) (λe2 a2 ch w2 dg hx2 h2=>hp _ _ _ _ dg (hx1.trans hx2 (λ_ h=>by simp[cZ,h]) (λ_ h=>by simp[cZ,h])) h2) dr h1 nQ ?_ hr ?_ ?_ ?_
    ·intro e2 a2 w2 dg hx2 h2
     exact hn _ _ _ dg (hx1.trans hx2 (λ_ h=>by simp[cZ,h]) (λ_ h=>by simp[cZ,h])) h2
    ·intro i e2 a2 w2 dg hx2 h2
     exact hx _ _ _ _ dg (hx1.trans hx2 (λ_ h=>by simp[cZ,h]) (λ_ h=>by simp[cZ,h])) h2
    ·intro i e2 a2 w2 dg hx2 h2
     exact mL _ _ _ _ dg (hx1.trans hx2 (λ_ h=>by simp[cZ,h]) (λ_ h=>by simp[cZ,h])) h2
    ·intro l e2 a2 w2 hl dg hx2 h2
     exact(hla l e2 a2 w2 (λh3=>by rw[h3,‹dI lb c2=false›]at hl;cases hl) (by simp[dI,hl]) dg (hx1.trans hx2 (λ_ h=>by simp[cZ,h]) (λ_ h=>by simp[cZ,h])) h2).2 hl
   ·intro i e1 a1 w1 dr hx1 h1
    exact hx _ _ _ _ dr (hx1.mono (λ_ h=>by simp[cZ,h])) h1
   ·intro i e1 a1 w1 dr hx1 h1
    exact mL _ _ _ _ dr (hx1.mono (λ_ h=>by simp[cZ,h])) h1
   ·intro l e1 a1 w1 hne hl dr hx1 h1
    exact(hla l e1 a1 w1 hne (by simp[dI,hl]) dr (hx1.mono (λ_ h=>by simp[cZ,h])) h1).1 hl
 ·refine⟨λh3=>absurd (h1.symm.trans h3) (by decide),λ_=>?_⟩
  exact xB _ _ _ lb c2 Q e a w K (λhd ch a d v w hm h=>hI hd ch a d v w (by simp[cZ,hm]) h) (λe1 a1 ch w1 dr hx1 h1=>hp _ _ _ _ dr (hx1.mono (λ_ h=>by simp[cZ,h])) h1) he h nQ
   (λe1 a1 w1 dr hx1 h1=>hn _ _ _ dr (hx1.mono (λ_ h=>by simp[cZ,h])) h1) hr (λi e1 a1 w1 dr hx1 h1=>hx _ _ _ _ dr (hx1.mono (λ_ h=>by simp[cZ,h])) h1)
   (λi e1 a1 w1 dr hx1 h1=>mL _ _ _ _ dr (hx1.mono (λ_ h=>by simp[cZ,h])) h1)
   (λl e1 a1 w1 hne hl dr hx1 h1=>(hla l e1 a1 w1 hne (by simp[dI,hl]) dr (hx1.mono (λ_ h=>by simp[cZ,h])) h1).2 hl)
theorem gJ{dk:Bool}{an:An}(h:∀P kp dk lb c e K,cL P kp dk lb an c e K=cX):qz P dk an:=by
 intro kp n r lb c Q e a w K _ _ _ h1;rw[h]at h1;exact h1.elim
theorem FP{dk:Bool}:∀(an:An),Bj P dk an/\qz P dk an:=by
 intro an
 induction an with
 |
  z=>
  refine⟨?_,ZM⟩;intro kp n r c Q e a w K hI hp he h nQ hn hr hx mL hla;cases c<;>simp only[cC]at h<;>try exact h.elim
  ·exact wpIn_skip (hn _ _ _ he (Ext.refl _ _) h)
  ·exact tZ nQ hI rfl he h hn hp
  ·exact wpIn_exit (hx _ _ _ _ he (Ext.refl _ _) h)
  ·exact wpIn_label (hn _ _ _ he (Ext.refl _ _) h)
  ·exact wpIn_goto (mL _ _ _ _ he (Ext.refl _ _) h)
  ·exact wpIn_ret (hr _ _ _ he h)
 |
  sq x y mh xB=>
  refine⟨?_,Rn mh.2 xB.2 xB.1⟩;replace mh:=mh.1;replace xB:=xB.1;intro kp n r c Q e a w K hI hp he h nQ hn hr hx mL hla;cases c<;>simp only[cC]at h<;>try exact h.elim
  rename_i c1 c2;refine wpIn_seq (mh _ _ _ c1 _ e a w _ (λhd ch a d v w hm h=>hI hd ch a d v w (by simp[cZ,hm]) h) (λe1 a1 ch w1 dr hx1 h1=>hp _ _ _ _ dr (hx1.mono (λ_ h=>by simp[cZ,h])) h1) he h nQ ?_ hr ?_ ?_ ?_)
  ·intro e1 a1 w1 dr hx1 h1
   refine xB _ _ _ c2 Q e1 a1 w1 K (λhd ch a d v w hm h=>hI hd ch a d v w (by simp[cZ,hm]) h) (λe2 a2 ch w2 dg hx2 h2=>hp _ _ _ _ dg (hx1.trans hx2 (λ_ h=>by simp[cZ,h]) (λ_ h=>by simp[cZ,h])) h2) dr h1 nQ ?_ hr ?_ ?_ ?_
   ·intro e2 a2 w2 dg hx2 h2
    exact hn _ _ _ dg (hx1.trans hx2 (λ_ h=>by simp[cZ,h]) (λ_ h=>by simp[cZ,h])) h2
   ·intro i e2 a2 w2 dg hx2 h2
    exact hx _ _ _ _ dg (hx1.trans hx2 (λ_ h=>by simp[cZ,h]) (λ_ h=>by simp[cZ,h])) h2
   ·intro i e2 a2 w2 dg hx2 h2
    exact mL _ _ _ _ dg (hx1.trans hx2 (λ_ h=>by simp[cZ,h]) (λ_ h=>by simp[cZ,h])) h2
   ·intro l e2 a2 w2 hl dg hx2 h2
    exact(hla l e2 a2 w2 (by simp[dI,hl]) dg (hx1.trans hx2 (λ_ h=>by simp[cZ,h]) (λ_ h=>by simp[cZ,h])) h2).2 hl
  ·intro i e1 a1 w1 dr hx1 h1
   exact hx _ _ _ _ dr (hx1.mono (λ_ h=>by simp[cZ,h])) h1
  ·intro i e1 a1 w1 dr hx1 h1
   exact mL _ _ _ _ dr (hx1.mono (λ_ h=>by simp[cZ,h])) h1
  ·intro l e1 a1 w1 hl dr hx1 h1
   exact(hla l e1 a1 w1 (by simp[dI,hl]) dr (hx1.mono (λ_ h=>by simp[cZ,h])) h1).1 hl
 |
  br x y mh xB=>
  refine⟨?_,gJ λ_ _ _ _ c _ _=>by cases c<;>rfl⟩;replace mh:=mh.1;replace xB:=xB.1;intro kp n r c Q e a w K hI hp he h nQ hn hr hx mL hla;cases c<;>simp only[cC]at h<;>try exact h.elim
  rename_i o c1 c2;rcases aO h with⟨hnl,h⟩|⟨_,h⟩
  rotate_left
  ·exact h.elim
  rw[kf]at hnl;obtain⟨b,hb,h⟩:=qu h;have hev:=he.eval (x:=o) hb;rcases h with⟨rfl,h⟩|⟨rfl,h⟩
  ·refine wpIn_cond_true hev (mh _ _ _ c1 Q e a w K (λhd ch a d v w hm h=>hI hd ch a d v w (by simp[cZ,hm]) h) (λe1 a1 ch w1 dr hx1 h1=>hp _ _ _ _ dr (hx1.mono (λ_ h=>by simp[cZ,h])) h1) he h nQ ?_ hr ?_ ?_ ?_)
   ·exact λe1 a1 w1 dr hx1 h1=>hn _ _ _ dr (hx1.mono (λ_ h=>by simp[cZ,h])) h1
   ·exact λi e1 a1 w1 dr hx1 h1=>hx _ _ _ _ dr (hx1.mono (λ_ h=>by simp[cZ,h])) h1
   ·exact λi e1 a1 w1 dr hx1 h1=>mL _ _ _ _ dr (hx1.mono (λ_ h=>by simp[cZ,h])) h1
   ·exact λl _ _ _ hl=>by rw[fV hnl.1]at hl;cases hl
  ·refine wpIn_cond_false hev (xB _ _ _ c2 Q e a w K (λhd ch a d v w hm h=>hI hd ch a d v w (by simp[cZ,hm]) h) (λe1 a1 ch w1 dr hx1 h1=>hp _ _ _ _ dr (hx1.mono (λ_ h=>by simp[cZ,h])) h1) he h nQ ?_ hr ?_ ?_ ?_)
   ·exact λe1 a1 w1 dr hx1 h1=>hn _ _ _ dr (hx1.mono (λ_ h=>by simp[cZ,h])) h1
   ·exact λi e1 a1 w1 dr hx1 h1=>hx _ _ _ _ dr (hx1.mono (λ_ h=>by simp[cZ,h])) h1
   ·exact λi e1 a1 w1 dr hx1 h1=>mL _ _ _ _ dr (hx1.mono (λ_ h=>by simp[cZ,h])) h1
   ·exact λl _ _ _ hl=>by rw[fV hnl.2]at hl;cases hl
 |
  bl x mh=>
  refine⟨?_,gJ λ_ _ _ _ c _ _=>by cases c<;>rfl⟩;replace mh:=mh.1;intro kp n r c Q e a w K hI hp he h nQ hn hr hx mL hla;cases c<;>simp only[cC]at h<;>try exact h.elim
  rename_i id c1;rcases aO h with⟨hnl,h⟩|⟨_,h⟩
  rotate_left
  ·exact h.elim
  refine wpIn_block (mh _ _ _ c1 _ e a w _ (λhd ch a d v w hm h=>hI hd ch a d v w hm h) (λe1 a1 ch w1 dr hx1 h1=>hp _ _ _ _ dr hx1 h1) he h nQ hn hr ?_ mL (λl _ _ _ hl=>by rw[fV hnl]at hl;cases hl));intro i e1 a1 w1 dr hx1 h1;simp only[mB]at h1;by_cases hi:i=id
  ·subst hi
   rw[Nat.beq_refl]at h1;simp only[Exit.inBlock,if_true];exact hn _ _ _ dr hx1 h1
  ·have hb:Nat.beq i id=false:=by
    cases hb:Nat.beq i id with
    |false=>rfl
    |true=>exact absurd (Nat.eq_of_beq_eq_true hb) hi
   rw[hb]at h1;simp only[Exit.inBlock,hi,if_false];exact hx _ _ _ _ dr hx1 h1
 |
  sc x mh=>
  refine⟨?_,gJ λ_ _ _ _ c _ _=>by cases c<;>rfl⟩;replace mh:=mh.1;intro kp n r c Q e a w K hI hp he h nQ hn hr hx mL hla;cases c<;>simp only[cC]at h<;>try exact h.elim
  rename_i c1;exact yU (mh _ _ _ c1 _ e a w _ (λhd ch a d v w hm h=>hI hd ch a d v w hm h) (λe1 a1 ch w1 dr hx1 h1=>hp _ _ _ _ dr hx1 h1) he h nQ hn hr hx (λ_ _ _ _ _ _ h=>h.elim) (λ_ _ _ _ _ _ _ h=>h.elim))
 |
  lp l x mh=>
  refine⟨?_,gJ λ_ _ _ _ c _ _=>by cases c<;>rfl⟩;replace mh:=mh.1;intro kp n r c Q e a w K hI hp he h nQ hn hr hx mL hla;cases c<;>simp only[cC]at h<;>try exact h.elim
  rename_i c1;have YO:=hI;rcases aO h with⟨hl,h⟩|⟨_,h⟩
  ·rw[kf]at hl
   have hnl:=hl.2;obtain⟨ud,Ai,hdf⟩:=mU hl.1;obtain⟨s,hs,I,μ,hI,hG⟩:=eU (e0:=Env.forget e (cZ c1)) he (he.forget (Ext.refl _ _) Ai hdf) h;refine Be (λs a w=>Ag (kE (Env.forget e (cZ c1)) l s) a/\I s w) μ ⟨hs,hI⟩ ?_;rintro s1 a1 w1 ⟨Rp,MJ⟩;have xC:Ext (cZ c1) e (kE (Env.forget e (cZ c1)) l s1):=Ext.kE (Ext.forget _ _) ud;refine mh _ _ _ c1 _ _ a1 w1 _ (λhd ch a d v w hm h=>YO hd ch a d v w hm h) (λe2 a2 ch w2 dg hx2 h2=>hp _ _ _ _ dg (xC.trans hx2 (λ_ h=>h) (λ_ h=>h)) h2) Rp (hG s1 w1 MJ) nQ ?_ hr ?_ ?_ (λl _ _ _ hl=>by rw[fV hnl]at hl;cases hl)
   ·intro e2 a2 w2 dg hx2 h2
    obtain⟨s2,ri,h3,h4⟩:=eU (e0:=Env.forget e (cZ c1)) dg (dg.forget (xC.trans hx2 (λ_ h=>h) (λ_ h=>h)) Ai hdf) h2;exact⟨s2,⟨ri,h3⟩,h4⟩
   ·intro i e2 a2 w2 dg hx2 h2
    exact hx _ _ _ _ dg (xC.trans hx2 (λ_ h=>h) (λ_ h=>h)) h2
   ·intro i e2 a2 w2 dg hx2 h2
    exact mL _ _ _ _ dg (xC.trans hx2 (λ_ h=>h) (λ_ h=>h)) h2
  ·exact h.elim
 |
  jn l x mh=>
  refine⟨?_,gJ λ_ _ _ _ c _ _=>by cases c<;>rfl⟩;replace mh:=mh.1;intro kp n r c Q e a w K hI hp he h nQ hn hr hx mL hla;have h':tf (qy l (cZ c)&&mg c) (jn (λR=>cC P kp dk x c e {K with n:=λe'=>need e' l R}) (λs=>K.n (kE (Env.forget e (cZ c)) l s))) cX w:=by cases c<;>exact h
  rcases aO h' with⟨hl,h⟩|⟨_,h⟩
  ·rw[kf]at hl
   have hnl:=hl.2;obtain⟨ud,Ai,hdf⟩:=mU hl.1;obtain⟨R,h1,h2⟩:=h;let Q':Exit->Act->World->Prop:=λex a' w'=>match ex with
    |.normal=>∃s,Ag (kE (Env.forget e (cZ c)) l s) a'/\R s w'
    |ex=>Q ex a' w'
   refine wpIn_mono (mh _ _ _ c Q' e a w _ (λhd ch a d v w hm h=>hI hd ch a d v w hm h) (λe1 a1 ch w1 dr hx1 h1=>hp _ _ _ _ dr hx1 h1) he h1 nQ ?_ hr hx mL (λl _ _ _ hl=>by rw[fV hnl]at hl;cases hl)) ?_
   ·intro e1 a1 w1 dr hx1 h3
    exact eU (e0:=Env.forget e (cZ c)) dr (dr.forget hx1 Ai hdf) h3
   ·intro ex a' w' h3
    cases ex with
    |
     normal=>
     obtain⟨s,hs,h4⟩:=h3;exact hn _ _ _ hs (Ext.kE (Ext.forget _ _) ud) (h2 _ _ h4)
    |_=>exact h3
  ·exact h.elim
 |
  rf cH x y mh xB=>
  refine⟨?_,gJ λ_ _ _ _ c _ _=>by cases c<;>rfl⟩;replace mh:=mh.1;replace xB:=xB.1;intro kp n r c Q e a w K hI hp he h nQ hn hr hx mL hla;cases c<;>simp only[cC]at h<;>try exact h.elim
  rename_i g ps assign body;rcases aO h with⟨hb,h⟩|⟨_,h⟩
  rotate_left
  ·exact h.elim
  simp only[kf,Bool.not_eq_true']at hb;have hr0:=nQ hb.1;subst hr0;have hps:=Nat.eq_of_beq_eq_true hb.2;obtain⟨f,caps,hv,vC,h⟩:=eS he h;refine wpIn_rangeFunc ?_;intro fn hfn;obtain⟨L,hL⟩:∃L:LoopState->Option Code->Obj,L=λst pe=>.loop {state:=st,pending:=pe,fn,tmps:=a.tmps,params:=ps,assign,body,defers:=w.heap.size}:=⟨_,rfl⟩;have fE:=h L (λs p=>⟨_,by rw[hL]⟩) ?_
  rotate_left
  ·intro W args k hl hR
   have hl':W.heap[w.heap.size+1]? =some (.loop {state:=.ready,pending:=none,fn,tmps:=a.tmps,params:=ps,assign,body,defers:=w.heap.size}):=by rw[hl,hL]
   refine⟨_,_,_,_,run_yield hl' (by rw[<-hps];simp[rJ]),roundIn_of_wpIn trivial ?_⟩;have oc:Ag (Es ps.toList (oY cH args) ⟨e.l,[],[]⟩) {tmps:=(ps.zip (oY cH args).toArray).foldl (λt x=>t.setIfInBounds x.1 x.2) a.tmps,defers:=[]}:=by
    have h0:Ag ⟨e.l,[],[]⟩ {tmps:=a.tmps,defers:=[]}:=⟨he.size,he.get,rfl⟩;have h1:=yW ps.toList (oY cH args) _ _ h0;rw[vL]at h1;have h2:(ps.zip (oY cH args).toArray).foldl (λt x=>t.setIfInBounds x.1 x.2) a.tmps=(ps.toList.zip (oY cH args)).foldl (λt x=>t.setIfInBounds x.1 x.2) a.tmps:=by
     rw[<-Array.foldl_toList,Array.toList_zip]
    rw[h2];exact h1
   refine mh none 0 (some (w.heap.size+1)) assign _ _ _ W _ (λ_ c a d v w _ h=>h) (λ_ _ _ _ _ _ h=>False.elim h) oc hR (λh=>by cases h) ?_ (λ_ _ _ _ h=>h.elim) (λ_ _ _ _ _ _ h=>h.elim) (λ_ _ _ _ _ _ h=>h.elim) (λ_ _ _ _ _ _ _ h=>h.elim);rintro e1 a1 w1 dr _ ⟨h1,h2⟩;have Hz:w1.heap[w.heap.size+1]? =some (.loop {state:=.ready,pending:=none,fn,tmps:=a.tmps,params:=ps,assign,body,defers:=w.heap.size}):=by rw[h1,hL]
   have La:=run_beginRound (P:=P) Hz rfl;refine⟨_,La,?_⟩;have hLb:(Obj.loop {state:=.busy,pending:=none,fn,tmps:=a.tmps,params:=ps,assign,body,defers:=w.heap.size})=L .busy none:=by rw[hL]
   rw[show({({state:=.ready,pending:=none,fn:=fn,tmps:=a.tmps,params:=ps,assign:=assign,body:=body,defers:=w.heap.size}:Loop)with state:=.busy}:Loop)={state:=.busy,pending:=none,fn,tmps:=a.tmps,params:=ps,assign,body,defers:=w.heap.size}from rfl,hLb];have hend:∀(W3:World) (jump:Option Code),W3.heap[w.heap.size+1]? =some (L .busy none)->
    (Instr.endRound (w.heap.size+1) jump).run P W3=.ok (.bool jump.isNone) (W3.putObj (w.heap.size+1) (L (if jump.isNone then .ready else .done) jump)):=by
    intro W3 jump h3;have YQ:W3.heap[w.heap.size+1]? =some (.loop {state:=.busy,pending:=none,fn,tmps:=a.tmps,params:=ps,assign,body,defers:=w.heap.size}):=by rw[h3,hL]
    rw[run_endRound jump YQ,hL]
   refine xB none 0 (some (w.heap.size+1)) body _ e1 a1 _ _ (λ_ c a d v w _ h=>h) (λ_ _ _ _ _ _ h=>False.elim h) dr h2 (λh=>by cases h) ?_ ?_ ?_ (λ_ _ _ _ _ _ h=>h.elim) (λ_ _ _ _ _ _ _ h=>h.elim)
   ·rintro e2 a2 w2 _ _ ⟨h3,h4⟩
    exact⟨_,_,hend w2 none h3,true,rfl,h4⟩
   ·rintro e2 a2 w2 _ ⟨h3,h4⟩
    exact⟨_,_,hend w2 (some .ret) h3,false,rfl,h4⟩
   ·intro i e2 a2 w2 _ _ h5
    obtain⟨h3,h4⟩:=yX h5;exact⟨_,_,hend w2 (some (.exit i)) h3,false,rfl,h4⟩
  have Ai:Ag (Env.mark e w.heap.size) {a with defers:=[{target:=.collected w.heap.size,args:= #[]}]++a.defers}:=⟨he.size,he.get,by rw[he.defers];rfl⟩;have Lb:Ext [nP] e (Env.mark e w.heap.size):=⟨rfl,λ_ _=>rfl,λh=>absurd (jq.2 rfl) h,λ_=>rfl⟩;have hinv:∀{args:Array Value} {w:World},(callFunc f args).run P w=.ok (.enter f args) w:=fc vC;refine⟨w.heap.size+1,[{target:=.collected w.heap.size,args:= #[]}],(w.alloc (.deferred (some []))).alloc (L .ready none),{target:=.fn (.func f) caps,args:= #[.func (.yield (w.heap.size+1)) #[] #[]]},(w.alloc (.deferred (some []))).alloc (L .ready none),f,
   #[.func (.yield (w.heap.size+1)) #[] #[]]++caps,(w.alloc (.deferred (some []))).alloc (L .ready none),?_,?_,λ_ _=>trivial,?_,?_,?_⟩
  ·rw[hL];exact run_enterLoop_outer _ _ _ _ _
  ·simp only[resolve,hv]
   simp[go_sem]
  ·simp[invoke,go_sem,hinv]
  ·intro h;cases h
  ·refine og.2 (Calls.mono fE ?_)
   rintro e1 W1 ⟨⟨u,rfl⟩,h1⟩;have hend:∀(st:LoopState) (pe:Option Code),st≠.busy->W1.heap[w.heap.size+1]? =some (L st pe)->(Instr.endLoop (w.heap.size+1)).run P W1=.ok pe (W1.putObj (w.heap.size+1) (L .exhausted pe)):=by
    intro st pe hst h3;have YQ:W1.heap[w.heap.size+1]? =some (.loop {state:=st,pending:=pe,fn,tmps:=a.tmps,params:=ps,assign,body,defers:=w.heap.size}):=by rw[h3,hL]
    rw[run_endLoop YQ hst,hL]
   rcases h1 with⟨h2,h3⟩|⟨j,h2,h3⟩
   ·exact⟨none,_,hend _ _ (by simp) h2,hn _ _ _ Ai Lb h3⟩
   ·refine⟨some (oQ j),_,hend _ _ (by simp) h2,?_⟩
    cases j with
    |
     none=>
     rcases aO (show tf (iZ body) _ _ _ from h3)with⟨_,h4⟩|⟨_,h4⟩
     ·exact wpIn_ret (hr _ _ _ Ai h4)
     ·exact h4.elim
    |some i=>exact wpIn_exit (hx _ _ _ _ Ai Lb (Oh h3))
 |
  jm l x mh=>
  refine⟨?_,gJ λ_ _ _ _ c _ _=>by cases c<;>rfl⟩;replace mh:=mh.1;intro kp n r c Q e a w K hI hp he h nQ hn hr hx mL hla;have h':tf ((!(cZ c).contains sx&&l.all λz=>(cZ c).contains z.1)&&mg c) (jn (λR=>cC P kp dk x c e {K with n:=λe'=>need e' l λs=>R (e'.ds,s)}) (λs=>K.n (kE ⟨(Env.forget e (cZ c)).l,s.1,e.bs⟩ l s.2))) cX w:=by cases c<;>exact h
  rcases aO h' with⟨hl,h⟩|⟨_,h⟩
  ·rw[kf]at hl
   have hnl:=hl.2;replace hl:=hl.1;rw[kf]at hl;have hdf:sx∉cZ c:=by simpa using hl.1
   have ud:∀z∈l,z.1∈cZ c:=λz hz=>by simpa using List.all_eq_true.1 hl.2 z hz
   obtain⟨R,h1,h2⟩:=h;let Q':Exit->Act->World->Prop:=λex a' w'=>match ex with
    |.normal=>∃s,Ag (kE ⟨(Env.forget e (cZ c)).l,s.1,e.bs⟩ l s.2) a'/\R s w'/\(nP∉cZ c->s.1=e.ds)
    |ex=>Q ex a' w'
   refine wpIn_mono (mh _ _ _ c Q' e a w _ (λhd ch a d v w hm h=>hI hd ch a d v w hm h) (λe1 a1 ch w1 dr hx1 h1=>hp _ _ _ _ dr hx1 h1) he h1 nQ ?_ hr hx mL (λl _ _ _ hl=>by rw[fV hnl]at hl;cases hl)) ?_
   ·intro e1 a1 w1 dr hx1 h3
    have hf:Ag ⟨(Env.forget e (cZ c)).l,e1.ds,e.bs⟩ a1:=by
     refine⟨?_,λt v hv=>?_,by rw[dr.defers,hx1.2.2.2 hdf]⟩
     ·have h1:(⟨(Env.forget e (cZ c)).l,e1.ds,e.bs⟩:Env).length=(Env.forget e (cZ c)).length:=rfl
      rw[h1,Env.vk,hx1.1];exact dr.size
     ·have Lc:(Env.get (Env.forget e (cZ c)) t).v? =some v:=hv
      rw[Env.n8]at Lc;split at Lc
      ·simp[EV.v?]at Lc
      ·rename_i ht
       by_cases hlt:t<e.length
       ·have ZB:t∉cZ c:=λh=>ht ⟨h,hlt⟩
        rw[<-hx1.2.1 t ZB]at Lc;exact dr.get t v Lc
       ·rw[Env.iY e t (by omega)]at Lc
        simp[EV.v?]at Lc
    obtain⟨p,hp,h4⟩:=eU dr hf h3;exact⟨(e1.ds,p),hp,h4,λhm=>hx1.2.2.1 hm⟩
   ·intro ex a' w' h3
    cases ex with
    |
     normal=>
     obtain⟨s,hs,h4,h5⟩:=h3;refine hn _ _ _ hs (Ext.kE (e0:=⟨(Env.forget e (cZ c)).l,s.1,e.bs⟩) ?_ ud) (h2 _ _ h4);have h6:=Ext.forget e (cZ c);exact⟨h6.1,h6.2.1,h5,λ_=>rfl⟩
    |_=>exact h3
  ·exact h.elim
 |
  rj js=>
  refine⟨?_,gJ λ_ _ _ _ c _ _=>by cases c<;>rfl⟩;intro kp n r c Q e a w K hI hp he h nQ hn hr hx mL hla;cases c<;>simp only[cC]at h<;>try exact h.elim
  rcases aO h with⟨hj,h⟩|⟨_,h⟩
  ·exact tZ nQ hI hj he h hn hp
  ·exact h.elim
 |
  lb=>
  refine⟨?_,gJ λ_ _ _ _ c _ _=>by cases c<;>rfl⟩;intro kp n r c Q e a w K hI hp he h nQ hn hr hx mL hla;cases c<;>simp only[cC]at h<;>try exact h.elim
  rename_i l;exact wpIn_label (hla l e a w (by simp[dI]) he (Ext.refl _ _) h)
 |
  sj lb l x y mh xB=>
  refine⟨?_,gJ λ_ _ _ _ c _ _=>by cases c<;>rfl⟩;replace mh:=mh.1;replace xB:=xB.2;intro kp n r c Q e a w K hI hp he h nQ hn hr hx mL hla;cases c<;>simp only[cC]at h<;>try exact h.elim
  rename_i c1;have YO:=hI;rcases aO h with⟨hl,h⟩|⟨_,h⟩
  rotate_left
  ·exact h.elim
  rw[kf]at hl;obtain⟨ud,Ai,hdf⟩:=mU hl.1;obtain⟨rest,M0⟩:=kq hl.2;obtain⟨I,μ,hF,hG⟩:=h;have Eu:∀(J:Act->World->Prop) (l':Nat) (e':Env) (a':Act) (w':World) (k:Env->Pr),(k e' w'->J a' w')->mB [(lb,k)] l' e' w'->l'=lb/\J a' w':=by
   intro J l' e' a' w' k hk hx;unfold mB at hx;cases hb:Nat.beq l' lb with
   |true=>rw[hb]at hx;exact⟨Nat.eq_of_beq_eq_true hb,hk hx⟩
   |false=>rw[hb]at hx;exact hx.elim
  have Rq:∀s a w (J':Act->World->Prop),Ag (kE (Env.forget e (cZ c1)) l s) a->I s w->(∀s' a' w',Ag (kE (Env.forget e (cZ c1)) l s') a'->I s' w'->μ s' w'<μ s w->J' a' w')->ua P n r c1 lb (Et lb J' Q) a w:=by
   intro s1 a1 w1 J' Rp MJ Rm;have xC:Ext (cZ c1) e (kE (Env.forget e (cZ c1)) l s1):=Ext.kE (Ext.forget _ _) ud;refine xB _ _ _ lb c1 (Et lb J' Q) _ a1 w1 _ (λhd ch a d v w hm h=>YO hd ch a d v w hm h) (λe2 a2 ch w2 dg hx2 h2=>hp _ _ _ _ dg (xC.trans hx2 (λ_ h=>h) (λ_ h=>h)) h2) Rp (hG s1 w1 MJ) nQ ?_ hr ?_ ?_ ?_
   ·exact λe2 a2 w2 dg hx2 h2=>hn _ _ _ dg (xC.trans hx2 (λ_ h=>h) (λ_ h=>h)) h2
   ·exact λi e2 a2 w2 dg hx2 h2=>hx _ _ _ _ dg (xC.trans hx2 (λ_ h=>h) (λ_ h=>h)) h2
   ·intro l' e2 a2 w2 dg hx2 h2
    refine Eu J' l' e2 a2 w2 _ (λh3=>?_) h2;obtain⟨s2,ri,h4,h5⟩:=eU (e0:=Env.forget e (cZ c1)) dg (dg.forget (xC.trans hx2 (λ_ h=>h) (λ_ h=>h)) Ai hdf) h3;exact Rm s2 a2 w2 ri h4 h5
   ·intro l' e2 a2 w2 hne _ dg hx2 h2
    exact absurd (Eu (λ_ _=>True) l' e2 a2 w2 _ (λ_=>trivial) h2).1 hne
  have yY:∀{e2:Env} {a2:Act} {w2:World},Ag e2 a2->Ext (cZ c1) e e2->need e2 l I w2->∃s,Ag (kE (Env.forget e (cZ c1)) l s) a2/\I s w2:=λdg hx2 h=>eU (e0:=Env.forget e (cZ c1)) dg (dg.forget hx2 Ai hdf) h;refine pE lb (λs a w=>Ag (kE (Env.forget e (cZ c1)) l s) a/\I s w) μ M0 ?_ ?_
  ·refine mh _ _ _ c1 _ e a w _ (λhd ch a d v w hm h=>YO hd ch a d v w hm h) (λe2 a2 ch w2 dg hx2 h2=>hp _ _ _ _ dg hx2 h2) he hF nQ (λe2 a2 w2 dg hx2 h2=>hn _ _ _ dg hx2 h2) hr (λi e2 a2 w2 dg hx2 h2=>hx _ _ _ _ dg hx2 h2) ?_ ?_
   ·intro l' e2 a2 w2 dg hx2 h2
    exact Eu (λa w=>∃s,Ag (kE (Env.forget e (cZ c1)) l s) a/\I s w) l' e2 a2 w2 _ (λh3=>yY dg hx2 h3) h2
   ·intro l' e2 a2 w2 _ dg hx2 h2
    obtain⟨rfl,s2,ri,h3⟩:=Eu (λa w=>∃s,Ag (kE (Env.forget e (cZ c1)) l s) a/\I s w) l' e2 a2 w2 _ (λh3=>yY dg hx2 h3) h2;exact Rq s2 a2 w2 _ ri h3 λs' a' w' h4 h5 _=>⟨s',h4,h5⟩
  ·rintro s1 a1 w1 ⟨Rp,MJ⟩
   exact uc M0 (Rq s1 a1 w1 _ Rp MJ λs' a' w' h4 h5 h6=>⟨s',⟨h4,h5⟩,h6⟩)
theorem Iw{dk:Bool}(an:An):Bj P dk an:=(FP an).1
def FQ(P:Program):List ResultVar->Env->(LV->Pr)->Pr
 |[],_,f=>f []
 |.tmp t::l,e,f=>nd (Env.get e t) λv=>FQ P l e λvs=>f (v::vs)
 |.cell t ty::l,e,f=>nd (Env.get e t) λp=>mM p λad=>N3 P ty ad λv=>FQ P l e λvs=>f (v::vs)
def kI:(l:List Sh)->LV->(dY l->Pr)->Pr
 |[],[],f=>f ()
 |[s],[v],f=>yI s v f
 |s::t::l,v::vs,f=>yI s v λp=>kI (t::l) vs λq=>f (p,q)
 |_,_,_=>cX
theorem ue{w:World}:∀{l:List Sh} {vs:LV} {f:dY l->Pr},kI l vs f w->∃p,vs=oY l p/\f p w
 |[],[],_,h=>⟨(),rfl,h⟩
 |[],_::_,_,h=>h.elim
 |[s],[v],_,h=>let⟨p,hp,hf⟩:=lu h;⟨p,by rw[hp];rfl,hf⟩
 |[_],[],_,h=>h.elim
 |[_],_::_::_,_,h=>h.elim
 |
  s::t::l,v::vs,_,h=>by
  obtain⟨p,hp,h⟩:=lu h;obtain⟨q,hq,h⟩:=ue h;exact⟨(p,q),by rw[hp,hq];rfl,h⟩
 |_::_::_,[],_,h=>h.elim
def Ld(args:LV)(m:Nat):Env:=⟨args.map EV.val++List.replicate (m-args.length) EV.no,[],[]⟩
def M1(P:Program)(u:FrameMode)(f:FuncId)(args:LV)(k:Pr):Pr:=λw=>
 CallsDIn (wf none) 0 P f args.toArray u w (λe u' w'=>(∃v,e=.returned v)/\settle u'=.returning/\k w')
def Ev:Deferred->Option (FuncId×LV)
 |⟨.fn (.func f) cap,args⟩=>some (f,args.toList++cap.toList)
 |_=>none
def Rr(P:Program)(u:FrameMode)(d:Deferred)(k:Pr):Pr:=opt (Ev d) λx=>tf (eE P x.1) (M1 P u x.1 x.2 k) cX
def Bk(P:Program):List Deferred->Pr->Pr
 |[],k=>k
 |d::l,k=>Rr P .returning d (Bk P l k)
def fin(P:Program)(fn:Func)(cH:List Sh)(Q:dY cH->Pr)(e:Env):Pr:=takes e.ds (Bk P e.bs (FQ P fn.results.toList e λvs=>kI cH vs Q))
def vM(P:Program)(fn:Func)(an:An)(args:LV)(cH:List Sh)(Q:dY cH->Pr):Pr:=
 opt fn.body λc=>cC P none false an c (Ld args fn.ntmps) ⟨fin P fn cH Q,fin P fn cH Q,[],false,[]⟩
theorem uf:∀(args:LV) (k:Nat) (t:Nat) (v:Value),(Env.kI (args.map EV.val++List.replicate k EV.no) t).v? =some v->(args++List.replicate k undef)[t]? =some v
 |[],0,t,v,h=>by simp[Env.kI,EV.v?]at h
 |[],k+1,0,v,h=>by simp[List.replicate_succ,Env.kI,EV.v?]at h
 |
  [],k+1,t+1,v,h=>by
  have:=uf [] k t v (by simpa[List.replicate_succ,Env.kI]using h);simpa[List.replicate_succ]using this
 |
  x::args,k,0,v,h=>by
  simp only[List.map_cons,List.cons_append,Env.kI,EV.v?,jg]at h;rw[h];rfl
 |x::args,k,t+1,v,h=>uf args k t v h
theorem Le(args:LV)(m:Nat):Ag (Ld args m) {tmps:=args.toArray++Array.replicate (m-args.toArray.size) undef,defers:=[]}:=by
 have hE:args.toArray++Array.replicate (m-args.toArray.size) undef=(args++List.replicate (m-args.length) undef).toArray:=by simp
 refine⟨by simp[Ld,Env.length],λt v h=>?_,by simp[Ld,marks]⟩;simp only[hE];simpa using uf args (m-args.length) t v h
theorem oh{e:Env}{a:Act}{w:World}(he:Ag e a):∀{l:List ResultVar} {f:LV->Pr} {Q:LV->World->Prop},FQ P l e f w->(∀vs,f vs w->Q vs w)->
 RT P (l.mapM λ
  |.tmp t=>Pure.pure (a.tmps.getD t undef)
  |.cell x t=>do Go.loadVar t (<-asAddr (a.tmps.getD x undef))) w (λvs w'=>w'=w/\Q vs w)
 |[],_,_,h,hq=>by simp only[List.mapM_nil];exact .pure ⟨rfl,hq _ h⟩
 |
  .tmp t::l,f,Q,h,hq=>by
  have h1:=eS he (x:=.tmp t) h;simp only[List.mapM_cons];refine .bind (.pure (.bind ((oh he h1 (Q:=λvs w=>Q (a.tmps.getD t undef::vs) w) (λvs h=>hq _ h)).mono ?_)));rintro vs w' ⟨rfl,h⟩;exact .pure ⟨rfl,h⟩
 |
  .cell t ty::l,f,Q,h,hq=>by
  have h1:=eS he (x:=.tmp t) h;obtain⟨ad,hv,h2⟩:=fW h1;simp only[List.mapM_cons];have Lc:a.tmps.getD t undef=.pointer (some ad):=hv;rw[Lc];have h3:N3 P ty ad (λv w'=>FQ P l e (λvs=>f (v::vs)) w'/\w'=w) w:=yK (λv h=>⟨h,rfl⟩) h2;refine .bind (.bind (.pure ((RT.Iy h3).mono ?_)));rintro v w1 ⟨h4,rfl⟩;refine .bind ((oh he h4 (Q:=λvs w=>Q (v::vs) w) (λvs h=>hq _ h)).mono ?_);rintro vs w' ⟨rfl,h⟩;exact .pure ⟨rfl,h⟩
theorem Bl{fn:Func}{tmps:Array Value}{R:Ending->World->Prop}{d:Deferred}{ds:List Deferred}{u:FrameMode}{k:Pr}{w:World}(hu:u≠.run)(hk:∀w,k w->LeavesInM (wf none) 0 P fn tmps R ds .returning w)(h:Rr P u d k w):
 LeavesInM (wf none) 0 P fn tmps R (d::ds) u w:=by
 obtain⟨⟨f,args⟩,hd,h⟩:=ai h;rcases aO h with⟨hc,h⟩|⟨_,h⟩
 ·obtain⟨cap,Oi,rfl,rfl⟩:∃cap Oi,d=⟨.fn (.func f) cap,Oi⟩/\args=Oi.toList++cap.toList:=by
   obtain⟨t,Oi⟩:=d;unfold Ev at hd;split at hd
   ·rename_i heq
    simp only[Deferred.mk.injEq]at heq;obtain⟨rfl,rfl⟩:=heq;simp only[jg,Prod.mk.injEq]at hd;obtain⟨rfl,rfl⟩:=hd;exact⟨_,_,rfl,rfl⟩
   ·cases hd
  have hA:(Oi.toList++cap.toList).toArray=Oi++cap:=by simp
  unfold M1 at h;dsimp only at h;rw[hA]at h;refine⟨hu,.inr ⟨λh=>by simp[wf,Fence.wide]at h,_,cap,f,Oi++cap,rfl,?_,λ_ _=>trivial,?_⟩⟩
  ·simp only[invoke]
   exact fc hc
  ·refine h.mono ?_
   rintro e u' w' ⟨⟨v,rfl⟩,h1,h2⟩;show LeavesInM (wf none) 0 P fn tmps R ds (settle u') w';rw[h1];exact hk _ h2
 ·exact h.elim
theorem pF{fn:Func}{tmps:Array Value}{R:Ending->World->Prop}{k:Pr}(hk:∀w,k w->LeavesInM (wf none) 0 P fn tmps R [] .returning w):∀{ds:List Deferred} {w:World},Bk P ds k w->LeavesInM (wf none) 0 P fn tmps R ds .returning w
 |[],w,h=>hk w h
 |_::_,_,h=>Bl (by simp) (λ_ h=>pF hk h) h
theorem rK{fn:Func}{tmps:Array Value}{R:Ending->World->Prop}{bs:List Deferred}{k:Pr}(hk:∀w,k w->LeavesInM (wf none) 0 P fn tmps R bs .returning w):∀{ds:List Nat} {w:World},takes ds k w->LeavesInM (wf none) 0 P fn tmps R (marks ds++bs) .returning w
 |[],w,h=>hk w h
 |D::ds,w,h=>⟨by simp,.inl ⟨D,_,rfl,run_takeDeferred h.1,rK hk h.2⟩⟩
theorem Bn{fn:Func}{e:Env}{a:Act}{w:World}{cH:List Sh}{Q:dY cH->Pr}{R:Ending->World->Prop}(hR:∀e w,aj cH Q e w->R e w)(he:Ag e a)
 (h:FQ P fn.results.toList e (λvs=>kI cH vs Q) w):LeavesInM (wf none) 0 P fn a.tmps R [] .returning w:=by
 obtain⟨vs,w',h1,hw,p,hvs,hp⟩:=oh he h (Q:=λvs w=>∃p,vs=oY cH p/\Q p w) (λvs h=>ue h);rw[hw]at h1;show∃v,(results fn a.tmps).run P w=.ok v w/\R (.returned v) w;refine⟨lq cH p,?_,hR _ _ ⟨p,rfl,hp⟩⟩;unfold results;rw[Sem.run_bind,show fn.results=fn.results.toList.toArray by simp,List.mapM_toArray,Sem.run_map]
 erw [h1]
 simp only[Result.andThen_ok,Sem.run_pure,Result.ok.injEq,and_true];unfold lq;rw[<-hvs]
 match vs with
 |[]=>rfl
 |[v]=>rfl
 |v::u::vs=>simp
theorem rL{fn:Func}{e:Env}{a:Act}{w:World}{cH:List Sh}{Q:dY cH->Pr}{R:Ending->World->Prop}(hR:∀e w,aj cH Q e w->R e w)(he:Ag e a)(h:fin P fn cH Q e w):
 LeavesInM (wf none) 0 P fn a.tmps R a.defers .returning w:=by
 rw[he.defers];exact rK (λw h=>pF (λw h=>Bn hR he h) h) h
theorem oq{f:FuncId}{fn:Func}{an:An}{args:LV}{cH:List Sh}{Q:dY cH->Pr}{w:World}(hf:P.funcs[f]? =some fn)(h:vM P fn an args cH Q w):
 Calls P f args.toArray w (aj cH Q):=by
 obtain⟨c,hc,h⟩:=ai h;refine(callsIn_wide (n:=0)).1 ?_;refine callsIn_of_wp_marks (F:=wf none) hf hc trivial ?_;let Q':Exit->Act->World->Prop:=λex a w=>match ex with
  |.normal=>bodyPostM (wf none) 0 P fn (aj cH Q) .normal a w
  |.ret=>bodyPostM (wf none) 0 P fn (aj cH Q) .ret a w
  |_=>False
 refine wpIn_mono (Iw (dk:=false) an none 0 none c Q' _ _ w _ (λh=>by cases h) (λ_ _ _ _ _ _ h=>False.elim h) (Le args fn.ntmps) h (λ_=>rfl) ?_ ?_ ?_ (λ_ _ _ _ _ _ h=>h.elim) (λ_ _ _ _ _ _ _ h=>h.elim)) ?_
 ·exact λe' a' w' he' _ h=>rL (λ_ _ h=>h) he' h
 ·exact λe' a' w' he' h=>rL (λ_ _ h=>h) he' h
 ·exact λi e' a' w' _ _ h=>h.elim
 ·intro ex a w h
  cases ex<;>first|exact h|exact h.elim
end
abbrev bA(r i:Nat):Addr:=Addr.add ⟨r,0,none⟩ i
abbrev ax(s:Sl):Value:=.slice s.a s.len s.cap
abbrev bJ(a:Addr)(f:Int->Pr):Pr:=cK (.int .i64) a f
abbrev nI(a:Addr)(f:Int->Pr):Pr:=cK (.int .u8) a f
abbrev fN(a:Addr)(f:Sl->Pr):Pr:=cK .slice a f
abbrev PM(a:Addr)(f:Bool->Pr):Pr:=cK .bool a f
abbrev nR(a:Addr)(f:OA->Pr):Pr:=cK .ptr a f
abbrev YS(a:Addr)(f:Option Nat->Pr):Pr:=cK .map a f
abbrev ag:CS:=.int .i64
abbrev iv(n:Int):Value:=.int .i64 n
abbrev uv(n:Int):Value:=.int .u8 n
def aS(n:Int):Int:=IntKind.wrap .i64 n
def ee(n:Int):Int:=IntKind.wrap .u64 n
def xD(n:Int):Int:=IntKind.wrap .u32 n
def lG(n:Int):Int:=IntKind.wrap .u8 n
def gT(r:Nat):Nat->LV->Pr->Pr
 |_,[],k=>k
 |i,v::l,k=>st (bA r i) v<|gT r (i+1) l k
def eu(T:TypeId)(z vs:LV)(k:Nat->Pr):Pr:=nw (.cells z.toArray T) λr=>gT r 0 vs (k r)
def el(s:Sl)(i:Int)(n:Nat)(k:Addr->Pr):Pr:=bZ ((0:Int)<=i/\i<(s.len:Int))<|deref s.a λa=>k (a.add (Int.toNat i*n))
section
variable{P:Program}{f:FuncId}{fn:Func}{an:An}{args:LV}{cH:List Sh}{w:World}
theorem cF{Q:dY cH->Pr}{F:Pr}(hf:P.funcs[f]? =some fn)(e:vM P fn an args cH Q=F)(h:F w):Calls P f args.toArray w (aj cH Q):=oq hf (by rw[e];exact h)
end
end Go.Eng

namespace Go.Proofs
open Go.Eng
noncomputable abbrev Pq:=Tryz.prog
noncomputable abbrev cI(f:FuncId)(l:LV)(k:Int->Pr):Pr:=aq Pq f l [.c ag] k
noncomputable abbrev cB(f:FuncId)(l:LV)(k:Bool->Pr):Pr:=aq Pq f l [.c .bool] k
noncomputable abbrev cS(f:FuncId)(l:LV)(k:Sl->Pr):Pr:=aq Pq f l [.c .slice] k
noncomputable abbrev cO(f:FuncId)(l:LV)(k:Sl×Int->Pr):Pr:=aq Pq f l [.c .slice,.c ag] k
abbrev _root_.Go.Eng.An.n(x:An):An:=.sq .z x
end Go.Proofs

namespace Go.Eng
@[simp]theorem add_zero'(a:Addr):a.add 0=a:=by simp[Addr.add]
@[simp]theorem PV(a:Addr)(n:Nat):(a.add n).block=a.block:=by unfold Addr.add;split<;>rfl
@[
 simp]theorem add_add(a:Addr)(m n:Nat):(a.add m).add n=a.add (m+n):=by
 unfold Addr.add;by_cases hm:m=0
 ·subst hm;simp
 ·by_cases hn:n=0
  ·subst hn;simp[hm]
  ·simp[hm,hn,Nat.add_assoc]
@[
 simp]theorem gb(b o n:Nat):(⟨b,o,none⟩:Addr).add n=⟨b,o+n,none⟩:=by
 unfold Addr.add;by_cases hn:n=0
 ·subst hn;simp
 ·simp[hn]
section
variable{w:World}
@[simp]theorem gA(a:Addr)(f:Addr->Pr):deref (some a) f w=f a w:=by simp[deref]
@[simp]theorem wY(o:Obj)(f:Nat->Pr):nw o f w=f w.heap.size (w.alloc o):=rfl
@[simp]theorem Jd(b:Bool)(x y:Pr):br b x y w=if b=true then x w else y w:=rfl
@[simp]theorem YW(p:Prop)(f:Pr):bZ p f w=(p/\f w):=rfl
@[simp]theorem aZ(f:Pr):fq f w=f w.drew:=rfl
@[simp]theorem SH(x y:Pr):both x y w=(x w/\y w):=rfl
@[simp]theorem YX:tru w=True:=rfl
@[simp]theorem YY:cX w=False:=rfl
theorem eA{s:CS}{a:Addr}{p:dZ s}{f:dZ s->Pr}(h:w.cell? a=some (c7 s p))(hf:f p w):cK s a f w:=⟨p,h,hf⟩
theorem fm{l:List CS}{a:Addr}{p:lg l}{f:lg l->Pr}(h:c6 w a 0 (gv l p))(hf:f p w):aM l a f w:=⟨p,h,hf⟩
theorem Je{a:Addr}{v u:Value}{f:Pr}(hv:aF v)(h:w.cell? a=some u)(hz:w.frozen? a=false)(hf:f (w.setCell a v)):st a v f w:=⟨hv,by rw[h];rfl,hz,hf⟩
theorem ay{b:Bool}{x y:Pr}(h1:b=true->x w)(h2:b=false->y w):br b x y w:=by
 cases b with
 |true=>simpa using h1 rfl
 |false=>simpa using h2 rfl
theorem bh{b:Bool}{x y:Pr}(hb:b=true)(h:x w):br b x y w:=by rw[Jd,jd hb];exact h
theorem aC{b:Bool}{x y:Pr}(hb:b=false)(h:y w):br b x y w:=by rw[Jd,jc (by simp[hb])];exact h
theorem aI{S:Type}{f:(S->Pr)->Pr}{k:S->Pr}(R:S->Pr)(h:f R w)(hk:∀s w',R s w'->k s w'):jn f k w:=⟨R,h,hk⟩
theorem aW{S:Type}{G:(S->Pr)->S->Pr}{s:S}(I:S->Pr)(μ:S->World->Nat)(h0:I s w)(h:∀s w,I s w->G (λs' w'=>I s' w'/\μ s' w'<μ s w) s w):ck G s w:=⟨I,μ,h0,h⟩
theorem aa{P:Program}{f:FuncId}{args:LV}{cH:List Sh}{k:dY cH->Pr}{post:dY cH->Pr}(h:Calls P f args.toArray w (aj cH post))(hk:∀r w',post r w'->k r w'):aq P f args cH k w:=
 h.mono λ_ _ ⟨p,he,hp⟩=>⟨p,he,hk _ _ hp⟩
end
@[simp]theorem SJ(k:IntKind)(n:Int):c7 (.int k) n=.int k n:=rfl
@[simp]theorem PW(b:Bool):c7 .bool b=.bool b:=rfl
@[simp]theorem SK(p:OA):c7 .ptr p=.pointer p:=rfl
@[simp]theorem Ot(s:Sl):c7 .slice s=.slice s.a s.len s.cap:=rfl
@[simp]theorem SL(r:Option Nat):c7 .map r=.map r:=rfl
@[simp]theorem SM(v:Value):c7 .any v=v:=rfl
@[simp]theorem SN(v:ByteArray):c7 .str v=.string v:=rfl
@[simp]theorem Ou(k:IntKind)(n:Int):aF (.int k n)=True:=rfl
@[simp]theorem Nc(b:Bool):aF (.bool b)=True:=rfl
@[simp]theorem Ov(p:OA):aF (.pointer p)=True:=rfl
@[simp]theorem Lv(a:OA)(l c:Nat):aF (.slice a l c)=True:=rfl
@[simp]theorem Oy(r:Option Nat):aF (.map r)=True:=rfl
@[simp]theorem Nd(f:Fn)(x y:Array Value):aF (.func f x y)=True:=rfl
structure Mod(S:Nat->Prop)(w w':World):Prop where
 size:w.heap.size<=w'.heap.size
 same:∀b,b<w.heap.size->¬S b->w'.heap[b]? =w.heap[b]?
 rest:w'.os=w.os/\w'.tape=w.tape/\w'.output=w.output
abbrev Grow:World->World->Prop:=Mod λ_=>False
section
variable{S T:Nat->Prop}{w w1 w2:World}
theorem Mod.refl(S:Nat->Prop)(w:World):Mod S w w:=⟨Nat.le_refl _,λ_ _ _=>rfl,rfl,rfl,rfl⟩
theorem Mod.trans(h:Mod S w w1)(h':Mod T w1 w2)(hT:∀b,b<w.heap.size->T b->S b):Mod S w w2:=
 ⟨Nat.le_trans h.size h'.size,λb hb hs=>(h'.same b (Nat.lt_of_lt_of_le hb h.size) λht=>hs (hT b hb ht)).trans (h.same b hb hs),h'.rest.1.trans h.rest.1,h'.rest.2.1.trans h.rest.2.1,h'.rest.2.2.trans h.rest.2.2⟩
theorem Mod.mono(h:Mod S w w1)(hT:∀b,b<w.heap.size->S b->T b):Mod T w w1:=⟨h.size,λb hb hs=>h.same b hb λht=>hs (hT b hb ht),h.rest⟩
theorem Grow.trans(h:Grow w w1)(h':Grow w1 w2):Grow w w2:=Mod.trans h h' λ_ _ h=>h
theorem Grow.mod(h:Grow w w1):Mod S w w1:=h.mono λ_ _ h=>h.elim
theorem Mod.alloc(h:Mod S w w1)(o:Obj):Mod S w (w1.alloc o):=
 ⟨by have:=h.size;simp;omega,λb hb hs=>by
   rw[<-h.same b hb hs];have:b<w1.heap.size:=Nat.lt_of_lt_of_le hb h.size;show(w1.heap.push o)[b]? =w1.heap[b]?;rw[Array.getElem?_push,jc (Nat.ne_of_lt this)],h.rest⟩
theorem Mod.drew(h:Mod S w w1):Mod S w w1.drew:=⟨h.size,h.same,h.rest⟩
theorem sA(w:World){a:Addr}{v:Value}{b:Nat}(hb:a.block≠b):(w.setCell a v).heap[b]? =w.heap[b]? :=by
 simp[World.setCell,Array.getElem?_modify,hb]
theorem Mod.setCell(h:Mod S w w1){a:Addr}{v:Value}(ha:S a.block\/w.heap.size<=a.block):Mod S w (w1.setCell a v):=
 ⟨by have:=h.size;simpa using this,λb hb hs=>by
   rw[<-h.same b hb hs];refine sA w1 ?_;rintro rfl;rcases ha with ha|ha
   ·exact hs ha
   ·omega,h.rest⟩
theorem Mod.putObj(h:Mod S w w1){b:Nat}{o:Obj}(ha:S b\/w.heap.size<=b):Mod S w {w1 with heap:=w1.heap.setIfInBounds b o}:=
 ⟨by have:=h.size;simpa using this,λc hc hs=>by
   rw[<-h.same c hc hs];have hne:b≠c:=by
    rintro rfl;rcases ha with ha|ha
    ·exact hs ha
    ·omega
   simp[Array.getElem?_setIfInBounds_ne hne],h.rest⟩
theorem xO{w w':World}{a:Addr}(h:w'.heap[a.block]? =w.heap[a.block]?):w'.cell? a=w.cell? a:=by
 simp only[World.cell?,h]
theorem ux{w w':World}{a:Addr}(h:w'.heap[a.block]? =w.heap[a.block]?):w'.frozen? a=w.frozen? a:=by
 simp only[World.frozen?,h]
end
theorem rQ{w:World}{a:Addr}:∀{vs:LV} {i:Nat},c6 w a i vs↔∀j v,vs[j]? =some v->w.cell? (a.add (i+j))=some v
 |[],i=>by simp[c6]
 |
  x::vs,i=>by
  simp only[c6,rQ (vs:=vs)];constructor
  ·rintro⟨h1,h2⟩ j v hj
   cases j with
   |zero=>simp only[List.getElem?_cons_zero,jg]at hj;subst hj;exact h1
   |succ j=>have:=h2 j v (by simpa using hj);rwa[show i+1+j=i+(j+1) by omega]at this
  ·intro h
   refine⟨by simpa using h 0 x rfl,λj v hj=>?_⟩;have:=h (j+1) v (by simpa using hj);rwa[show i+(j+1)=i+1+j by omega]at this
def Row(w:World)(a:Addr)(vs:LV):Prop:=∀j v,vs[j]? =some v->w.cell? (a.add j)=some v
theorem az{w:World}{a:Addr}{vs:LV}:c6 w a 0 vs↔Row w a vs:=by
 rw[rQ];simp[Row]
theorem Row.get{w:World}{a:Addr}{vs:LV}(h:Row w a vs){j:Nat}{v:Value}(hj:vs[j]? =some v):w.cell? (a.add j)=some v:=h j v hj
theorem Row.nil(w:World)(a:Addr):Row w a []:=λj v h=>by simp at h
theorem Row.append{w:World}{a:Addr}{vs us:LV}:Row w a (vs++us)↔Row w a vs/\Row w (a.add vs.length) us:=by
 constructor
 ·intro h
  refine⟨λj v hj=>h j v ?_,λj v hj=>?_⟩
  ·have hlt:j<vs.length:=by
    rcases Nat.lt_or_ge j vs.length with h'|h'
    ·exact h'
    ·rw[List.getElem?_eq_none h']at hj;cases hj
   rw[List.getElem?_append_left hlt];exact hj
  ·rw[add_add]
   refine h _ v ?_;rw[List.getElem?_append_right (by omega)];simpa using hj
 ·rintro⟨h1,h2⟩ j v hj
  rcases Nat.lt_or_ge j vs.length with h'|h'
  ·exact h1 j v (by rwa[List.getElem?_append_left h']at hj)
  ·rw[List.getElem?_append_right h']at hj
   have:=h2 _ v hj;rwa[add_add,show vs.length+(j-vs.length)=j by omega]at this
theorem Row.take{w:World}{a:Addr}{vs:LV}(h:Row w a vs)(n:Nat):Row w a (vs.take n):=λj v hj=>by
 rw[List.getElem?_take]at hj;split at hj
 ·exact h j v hj
 ·cases hj
theorem Row.drop{w:World}{a:Addr}{vs:LV}(h:Row w a vs)(n:Nat):Row w (a.add n) (vs.drop n):=λj v hj=>by
 rw[add_add];exact h _ v (by rwa[List.getElem?_drop]at hj)
theorem Row.of_heap{w w':World}{a:Addr}{vs:LV}(h:Row w a vs)(he:w'.heap[a.block]? =w.heap[a.block]?):Row w' a vs:=λj v hj=>by
 rw[xO (w:=w) (by simpa using he)];exact h j v hj
theorem Row.zj{w:World}{a:Addr}{vs:LV}(h:Row w a vs)(hne:vs≠[]):a.block<w.heap.size:=by
 cases vs with
 |nil=>exact absurd rfl hne
 |cons v vs=>have:=World.block_lt_of_cell? w _ (h 0 v rfl);simpa using this
theorem Row.mod{S:Nat->Prop}{w w':World}{a:Addr}{vs:LV}(h:Row w a vs)(hm:Mod S w w')(hs:¬S a.block):Row w' a vs:=by
 by_cases hv:vs=[]
 ·subst hv;exact Row.nil _ _
 ·exact h.of_heap (hm.same _ (h.zj hv) hs)
theorem acn.some{w:World}{a:Addr}{vs:LV}:cm w (some a) vs↔Row w a vs:=az
theorem exS{p:Sl->Prop}{a:OA}{l c:Nat}:(∃s:Sl,(a=s.a/\l=s.len/\c=s.cap)/\p s)↔p ⟨a,l,c⟩:=by
 constructor
 ·rintro⟨⟨a',l',c'⟩,⟨rfl,rfl,rfl⟩,h⟩;exact h
 ·intro h;exact⟨⟨a,l,c⟩,⟨rfl,rfl,rfl⟩,h⟩
@[simp]theorem Sl.eta(s:Sl):(⟨s.a,s.len,s.cap⟩:Sl)=s:=rfl
@[
 simp]theorem Nf(w:World)(c:Array Value)(t:TypeId)(i:Nat)(v:Value):(w.alloc (.cells c t)).setCell ⟨w.heap.size,i,none⟩ v=w.alloc (.cells (c.setIfInBounds i v) t):=
 World.setCell_alloc_new (w:=w) c t i v
@[
 simp]theorem heap_alloc_new(w:World)(o:Obj):(w.alloc o).heap[w.heap.size]? =some o:=by
 show(w.heap.push o)[w.heap.size]? =some o;simp
theorem j7{w:World}{o:Obj}{b:Nat}(h:b<w.heap.size):(w.alloc o).heap[b]? =w.heap[b]? :=by
 show(w.heap.push o)[b]? =w.heap[b]?;rw[Array.getElem?_push,jc (Nat.ne_of_lt h)]
@[simp]theorem heap_drew(w:World):w.drew.heap=w.heap:=rfl
theorem wrap_i64{n:Int}(h: -9223372036854775808<=n/\n<=9223372036854775807):IntKind.wrap .i64 n=n:=by
 simp only[IntKind.wrap,IntKind.signed,IntKind.bits];simp;omega
theorem wrap_u8{n:Int}(h:0<=n/\n<=255):IntKind.wrap .u8 n=n:=by
 simp only[IntKind.wrap,IntKind.signed,IntKind.bits];simp;omega
end Go.Eng
