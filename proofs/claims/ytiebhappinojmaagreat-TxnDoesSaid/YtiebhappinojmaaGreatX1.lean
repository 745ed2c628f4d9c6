import Derived.OrdersIn
import Derived.TacticsIn
import Derived.CallsIn
import Derived.LoopNIn
import Derived.KernelRfl
import Derived.Laws.World
import Derived.RangeFuncSeq
import Derived.Laws.StructEq
import Derived.Lib.ConvBytes
import Derived.RangeFuncNested
import Derived.RecoverIn
import Derived.Test.YtiebhappinojmaaGreatProg
import Derived.Laws.Alloc2
set_option linter.unusedVariables false
set_option linter.unusedSimpArgs false
set_option linter.unusedSectionVars false
namespace Go.Eng
abbrev ja:=@decide_eq_false_iff_not
abbrev jb:=@decide_eq_true_eq
abbrev jc:=@if_neg
abbrev jd:=@if_pos
abbrev je:=@List.length_map
abbrev jf:=@List.getElem?_map
abbrev jg:=@Option.some.injEq
abbrev jh:=@List.length_append
abbrev ji:=@List.mem_of_getElem?
abbrev jk:=@List.map_append
abbrev jl:=@Int.toNat_natCast
abbrev jo:=@List.getElem?_eq_getElem
abbrev jq:=@List.mem_singleton
abbrev jr:=@not_not_intro
abbrev jt:=@List.length_take
abbrev ju:=@List.append_assoc
abbrev jv:=@of_decide_eq_true
abbrev jx:=@of_decide_eq_false
abbrev jy:=@List.eq_nil_of_length_eq_zero
abbrev jz:=@List.mem_append
abbrev kf:=@Bool.and_eq_true
abbrev kg:=@List.length_drop
abbrev ki:=@List.mem_map
abbrev kj:=@List.length_replicate
abbrev kn:=@beq_iff_eq
abbrev OA:=Option Addr
abbrev LB:=List UInt8
abbrev LV:=List Value
abbrev I6:=Int×Int×Int×Int×Int×Int
abbrev I4:=Int×Int×Int×Int
abbrev Pr:=World->Prop
structure Sl where
 a:OA
 len:Nat
 cap:Nat
inductive CS where
 |int (k:IntKind)|bool|str|ptr|slice|map|any
@[
 reducible]def dZ:CS->Type
 |.int _=>Int
 |.bool=>Bool
 |.str=>ByteArray
 |.ptr=>OA
 |.slice=>Sl
 |.map=>Option Nat
 |.any=>Value
def dH:(s:CS)->dZ s->Value
 |.int k,n=>.int k n
 |.bool,b=>.bool b
 |.str,s=>.string s
 |.ptr,p=>.pointer p
 |.slice,s=>.slice s.a s.len s.cap
 |.map,r=>.map r
 |.any,v=>v
@[
 reducible]def mu:List CS->Type
 |[]=>Unit
 |[s]=>dZ s
 |s::t::l=>dZ s×mu (t::l)
def fY:(l:List CS)->mu l->LV
 |[],_=>[]
 |[s],p=>[dH s p]
 |s::t::l,p=>dH s p.1::fY (t::l) p.2
inductive Sh where
 |c (s:CS)
 |agg (l:List CS)
@[
 reducible]def Rx:Sh->Type
 |.c s=>dZ s
 |.agg l=>mu l
def val:(s:Sh)->Rx s->Value
 |.c s,p=>dH s p
 |.agg l,p=>.agg (fY l p).toArray
@[
 reducible]def eD:List Sh->Type
 |[]=>Unit
 |[s]=>Rx s
 |s::t::l=>Rx s×eD (t::l)
def rU:(l:List Sh)->eD l->LV
 |[],_=>[]
 |[s],p=>[val s p]
 |s::t::l,p=>val s p.1::rU (t::l) p.2
def nq(l:List Sh)(p:eD l):Value:=
 match rU l p with
 |[v]=>v
 |vs=>.tuple vs.toArray
def dM:Pr:=λ_=>False
def deref(p:OA)(f:Addr->Pr):Pr:=match p with|some a=>f a|none=>dM
theorem gu{p:OA}{f:Addr->Pr}{w:World}:deref p f w↔∃a,p=some a/\f a w:=by cases p<;>simp[deref,dM]
def bI(s:CS)(a:Addr)(f:dZ s->Pr):Pr:=λw=>∃p:dZ s,w.cell? a=some (dH s p)/\f p w
def dL(w:World)(a:Addr):Nat->LV->Prop
 |_,[]=>True
 |i,v::l=>w.cell? (a.add i)=some v/\dL w a (i+1) l
def bf(l:List CS)(a:Addr)(f:mu l->Pr):Pr:=λw=>∃p:mu l,dL w a 0 (fY l p)/\f p w
def aO:Value->Prop
 |.agg _=>False
 |.tuple _=>False
 |_=>True
def st(a:Addr)(v:Value)(f:Pr):Pr:=λw=>aO v/\(w.cell? a).isSome=true/\w.frozen? a=false/\f (w.setCell a v)
def Lk(a:Addr):Nat->LV->Pr->Pr
 |_,[],f=>f
 |i,v::l,f=>st (a.add i) v (Lk a (i+1) l f)
def nw(o:Obj)(f:Nat->Pr):Pr:=λw=>f w.heap.size (w.alloc o)
def br(b:Bool)(x y:Pr):Pr:=λw=>if b=true then x w else y w
def cq(p:Prop)(f:Pr):Pr:=λw=>p/\f w
def eG(f:Pr):Pr:=λw=>f w.drew
def jn{S:Type}(f:(S->Pr)->Pr)(k:S->Pr):Pr:=λw=>∃R:S->Pr,f R w/\∀s w',R s w'->k s w'
def bh{S:Type}(G:(S->Pr)->S->Pr)(s:S):Pr:=λw=>
 ∃(I:S->Pr) (μ:S->World->Nat),I s w/\∀s w,I s w->G (λs' w'=>I s' w'/\μ s' w'<μ s w) s w
def both(x y:Pr):Pr:=λw=>x w/\y w
inductive EV where
 |no
 |val (v:Value)
 |lit (b:Bool)
 |Db
 |Dc (k v:Value)
 |D6 (k v:Value)
def EV.v? :EV->Option Value
 |.no=>none
 |.val v=>some v
 |.lit b=>some (.bool b)
 |.Db=>some (.tuple #[.bool false])
 |.Dc k v=>some (.tuple #[.bool true,k,v])
 |.D6 k v=>some (.tuple #[k,v])
def Env.mw:List EV->Nat->EV
 |[],_=>.no
 |x::_,0=>x
 |_::e,n+1=>Env.mw e n
def Env.yG:List EV->Nat->EV->List EV
 |[],_,_=>[]
 |_::e,0,v=>v::e
 |x::e,n+1,v=>x::Env.yG e n v
structure Env where
 l:List EV
 ds:List Nat
 bs:List Deferred
def Env.length(e:Env):Nat:=e.l.length
def Env.get(e:Env)(n:Nat):EV:=Env.mw e.l n
def Env.set(e:Env)(n:Nat)(v:EV):Env:=⟨Env.yG e.l n v,e.ds,e.bs⟩
def Env.mark(e:Env)(D:Nat):Env:=⟨e.l,D::e.ds,e.bs⟩
def Env.dfr(e:Env)(d:Deferred):Env:=⟨e.l,e.ds,d::e.bs⟩
def Env.put(e:Env)(d:Option Tmp)(v:EV):Env:=
 match d with
 |none=>e
 |some d=>Env.set e d v
def Env.ev(e:Env):Operand->EV
 |.tmp t=>Env.get e t
 |.const (.bool b)=>.lit b
 |.const v=>.val v
 |.global g=>.val (.pointer (some ⟨g,0,none⟩))
 |.func f=>.val (.func (.func f) #[] #[])
def Env.forget:Env->List Nat->Env
 |e,[]=>e
 |e,t::l=>Env.forget (Env.set e t .no) l
def marks(ds:List Nat):List Deferred:=ds.map λD=>{target:=.collected D,args:= #[]}
structure Ag(e:Env)(a:Act):Prop where
 size:e.length<=a.tmps.size
 get:∀t v,(Env.get e t).v? =some v->a.tmps[t]? =some v
 defers:a.defers=marks e.ds++e.bs
theorem Env.I5(e:List EV)(t:Nat)(v:EV)(u:Nat):Env.mw (Env.yG e t v) u=if u=t/\t<e.length then v else Env.mw e u:=by
 induction e generalizing t u with
 |nil=>simp[Env.yG,Env.mw]
 |
  cons x e ih=>
  cases t with
  |zero=>cases u<;>simp[Env.yG,Env.mw]
  |
   succ t=>
   cases u with
   |zero=>simp[Env.yG,Env.mw]
   |succ u=>simp[Env.yG,Env.mw,ih]
theorem Env.BE(e:List EV)(t:Nat)(v:EV):(Env.yG e t v).length=e.length:=by
 induction e generalizing t with
 |nil=>simp[Env.yG]
 |cons x e ih=>cases t<;>simp[Env.yG,ih]
theorem Env.vI(e:List EV)(t:Nat)(h:e.length<=t):Env.mw e t=.no:=by
 induction e generalizing t with
 |nil=>rfl
 |
  cons x e ih=>
  cases t with
  |zero=>simp at h
  |succ t=>simp only[Env.mw];exact ih t (by simpa using h)
theorem Env.jV(e:Env)(t:Nat)(v:EV)(u:Nat):Env.get (Env.set e t v) u=if u=t/\t<e.length then v else Env.get e u:=Env.I5 e.l t v u
theorem Env.lB(e:Env)(t:Nat)(h:e.length<=t):Env.get e t=.no:=Env.vI e.l t h
@[simp]theorem Env.length_set(e:Env)(t:Nat)(v:EV):(Env.set e t v).length=e.length:=Env.BE e.l t v
@[
 simp]theorem Env.Tj(e:Env)(d:Option Tmp)(v:EV):(Env.put e d v).length=e.length:=by
 cases d<;>simp[Env.put]
@[simp]theorem Env.ae2(e:Env)(t:Nat)(v:EV):(Env.set e t v).ds=e.ds:=rfl
@[
 simp]theorem Env.ae3(e:Env)(d:Option Tmp)(v:EV):(Env.put e d v).ds=e.ds:=by
 cases d<;>simp[Env.put]
@[simp]theorem Env.ae4(e:Env)(t:Nat)(v:EV):(Env.set e t v).bs=e.bs:=rfl
@[
 simp]theorem Env.ae5(e:Env)(d:Option Tmp)(v:EV):(Env.put e d v).bs=e.bs:=by
 cases d<;>simp[Env.put]
@[
 simp]theorem Env.I7(e:Env)(l:List Nat):(Env.forget e l).bs=e.bs:=by
 induction l generalizing e with
 |nil=>rfl
 |cons t l ih=>simp[Env.forget,ih]
@[
 simp]theorem Env.yH(e:Env)(l:List Nat):(Env.forget e l).length=e.length:=by
 induction l generalizing e with
 |nil=>rfl
 |cons t l ih=>simp[Env.forget,ih]
@[
 simp]theorem Env.I8(e:Env)(l:List Nat):(Env.forget e l).ds=e.ds:=by
 induction l generalizing e with
 |nil=>rfl
 |cons t l ih=>simp[Env.forget,ih]
theorem Env.G4(e:Env)(d:Option Tmp)(v:EV)(u:Nat):Env.get (Env.put e d v) u=if d=some u/\u<e.length then v else Env.get e u:=by
 cases d with
 |none=>simp[Env.put]
 |
  some d=>
  simp only[Env.put,Env.jV];by_cases h:u=d
  ·subst h;simp
  ·have:¬(some d=some u):=λh'=>h (by simpa using h'.symm)
   simp[h,this]
theorem Env.qB(e:Env)(l:List Nat)(u:Nat):Env.get (Env.forget e l) u=if u∈l/\u<e.length then .no else Env.get e u:=by
 induction l generalizing e with
 |nil=>simp[Env.forget]
 |
  cons t l ih=>
  simp only[Env.forget,ih,Env.jV,Env.length_set,List.mem_cons];by_cases h1:u∈l/\u<e.length
  ·rw[jd h1,jd ⟨.inr h1.1,h1.2⟩]
  ·rw[jc h1]
   by_cases h2:u=t/\t<e.length
   ·rw[jd h2,jd ⟨.inl h2.1,h2.1▸h2.2⟩]
   ·rw[jc h2,jc]
    rintro⟨h3|h3,h4⟩
    ·exact h2 ⟨h3,h3▸h4⟩
    ·exact h1 ⟨h3,h4⟩
section
variable{e:Env}{a:Act}
theorem Ag.eval(h:Ag e a){x:Operand}{v:Value}(hx:(Env.ev e x).v? =some v):a.eval x=v:=by
 cases x with
 |tmp t=>have:=h.get t v hx;simp[Act.eval,Array.getD_eq_getD_getElem?,this]
 |const c=>cases c<;>simpa[Env.ev,EV.v?,Act.eval]using hx
 |global g=>simpa[Env.ev,EV.v?,Act.eval]using hx
 |func f=>simpa[Env.ev,EV.v?,Act.eval]using hx
theorem Ag.put(h:Ag e a)(d:Option Tmp){x:EV}{v:Value}(hx:∀u,x.v? =some u->u=v):Ag (Env.put e d x) (a.put d v):=by
 cases d with
 |none=>exact h
 |
  some d=>
  refine⟨by simpa[Act.put]using h.size,λt u hu=>?_,by simpa[Act.put]using h.defers⟩;rw[Env.G4]at hu;simp only[Act.put];by_cases hd:d=t
  ·subst hd
   by_cases hl:d<e.length
   ·rw[jd ⟨rfl,hl⟩]at hu
    have hs:d<a.tmps.size:=Nat.lt_of_lt_of_le hl h.size;simp[hs,hx u hu]
   ·rw[jc (λh'=>hl h'.2)]at hu
    rw[Env.lB e d (Nat.le_of_not_lt hl)]at hu;simp[EV.v?]at hu
  ·rw[jc (λh'=>hd (by simpa using h'.1))]at hu
   rw[Array.getElem?_setIfInBounds,jc hd];exact h.get t u hu
theorem Ag.Tk(h:Ag e a)(d:Option Tmp)(v:Value):Ag (Env.put e d .no) (a.put d v):=h.put d (by simp[EV.v?])
theorem Ag.lit(h:Ag e a){t:Nat}{b:Bool}(hb:(Env.get e t).v? =some (.bool b)):Ag (Env.set e t (.lit b)) a:=by
 refine⟨by simpa using h.size,λu v hv=>?_,by simpa using h.defers⟩;rw[Env.jV]at hv;by_cases hu:u=t/\t<e.length
 ·rw[jd hu]at hv
  obtain⟨rfl,_⟩:=hu;simp only[EV.v?,jg]at hv;exact hv▸h.get u _ hb
 ·rw[jc hu]at hv
  exact h.get u v hv
end
def L1:(s:CS)->Value->(dZ s->Pr)->Pr
 |.int .i8,.int .i8 n,f=>f n
 |.int .i16,.int .i16 n,f=>f n
 |.int .i32,.int .i32 n,f=>f n
 |.int .i64,.int .i64 n,f=>f n
 |.int .u8,.int .u8 n,f=>f n
 |.int .u16,.int .u16 n,f=>f n
 |.int .u32,.int .u32 n,f=>f n
 |.int .u64,.int .u64 n,f=>f n
 |.bool,.bool b,f=>f b
 |.str,.string s,f=>f s
 |.ptr,.pointer p,f=>f p
 |.slice,.slice a l c,f=>f ⟨a,l,c⟩
 |.map,.map r,f=>f r
 |.any,v,f=>f v
 |_,_,_=>dM
theorem qC{s:CS}{v:Value}{f:dZ s->Pr}{w:World}(h:L1 s v f w):∃p,v=dH s p/\f p w:=by
 unfold L1 at h;split at h<;>first|exact⟨_,rfl,h⟩|exact h.elim
def Tl:(l:List CS)->LV->(mu l->Pr)->Pr
 |[],[],f=>f ()
 |[s],[v],f=>L1 s v f
 |s::t::l,v::vs,f=>L1 s v λp=>Tl (t::l) vs λq=>f (p,q)
 |_,_,_=>dM
theorem wI:∀{l:List CS} {vs:LV} {f:mu l->Pr} {w:World},Tl l vs f w->∃p,vs=fY l p/\f p w
 |[],[],_,_,h=>⟨(),rfl,h⟩
 |[],_::_,_,_,h=>h.elim
 |[s],[v],_,_,h=>let⟨p,hp,hf⟩:=qC h;⟨p,by rw[hp];rfl,hf⟩
 |[_],[],_,_,h=>h.elim
 |[_],_::_::_,_,_,h=>h.elim
 |
  s::t::l,v::vs,_,_,h=>by
  obtain⟨p,hp,h⟩:=qC h;obtain⟨q,hq,h⟩:=wI h;exact⟨(p,q),by rw[hp,hq];rfl,h⟩
 |_::_::_,[],_,_,h=>h.elim
def BF:(s:Sh)->Value->(Rx s->Pr)->Pr
 |.c s,v,f=>L1 s v f
 |.agg l,.agg cs,f=>Tl l cs.toList f
 |_,_,_=>dM
theorem nr{s:Sh}{v:Value}{f:Rx s->Pr}{w:World}(h:BF s v f w):∃p,v=val s p/\f p w:=by
 cases s with
 |c s=>exact qC h
 |
  agg l=>
  cases v<;>simp only[BF]at h<;>try exact h.elim
  obtain⟨p,hp,h⟩:=wI h;exact⟨p,by simp[val,<-hp],h⟩
abbrev Live:=List (Nat×Sh)
@[reducible]def Live.S(l:Live):Type:=eD (l.map (·.2))
def Tm(s:Sh)(x:EV)(f:Rx s->Pr):Pr:=
 match x with
 |.val v=>BF s v f
 |.lit b=>BF s (.bool b) f
 |.Db=>dM
 |.Dc _ _=>dM
 |.D6 _ _=>dM
 |.no=>dM
theorem wJ{s:Sh}{x:EV}{f:Rx s->Pr}{w:World}(h:Tm s x f w):∃p,x.v? =some (val s p)/\f p w:=by
 cases x with
 |no=>exact h.elim
 |Db=>exact h.elim
 |Dc _ _=>exact h.elim
 |D6 _ _=>exact h.elim
 |val v=>obtain⟨p,rfl,h1⟩:=nr (show BF s v f w from h);exact⟨p,rfl,h1⟩
 |lit b=>obtain⟨p,hp,h1⟩:=nr (show BF s (.bool b) f w from h);exact⟨p,by rw[<-hp];rfl,h1⟩
def need(e:Env):(l:Live)->(eD (l.map (·.2))->Pr)->Pr
 |[],f=>f ()
 |[x],f=>Tm x.2 (Env.get e x.1) f
 |x::y::l,f=>Tm x.2 (Env.get e x.1) λp=>need e (y::l) λq=>f (p,q)
def mI(e:Env):(l:Live)->eD (l.map (·.2))->Env
 |[],_=>e
 |[x],p=>Env.set e x.1 (.val (val x.2 p))
 |x::y::l,p=>mI (Env.set e x.1 (.val (val x.2 p.1))) (y::l) p.2
theorem gj{a:Act}{w:World}:∀{l:Live} {e e0:Env} {f:eD (l.map (·.2))->Pr},Ag e a->Ag e0 a->need e l f w->∃p,Ag (mI e0 l p) a/\f p w
 |[],_,_,_,_,h0,h=>⟨(),h0,h⟩
 |
  [x],e,e0,f,he,h0,h=>by
  obtain⟨p,hv,h⟩:=wJ h;refine⟨p,?_,h⟩;have hg:=he.get x.1 _ hv;refine⟨by simpa[mI]using h0.size,λt u hu=>?_,by simpa[mI]using h0.defers⟩;simp only[mI,Env.jV]at hu;split at hu
  ·rename_i ht
   simp only[EV.v?,jg]at hu;rw[ht.1,hg,hu]
  ·exact h0.get t u hu
 |
  x::y::l,e,e0,f,he,h0,h=>by
  obtain⟨p,hv,h⟩:=wJ h;have hg:=he.get x.1 _ hv;have h1:Ag (Env.set e0 x.1 (.val (val x.2 p))) a:=by
   refine⟨by simpa using h0.size,λt u hu=>?_,by simpa using h0.defers⟩;rw[Env.jV]at hu;split at hu
   ·rename_i ht
    simp only[EV.v?,jg]at hu;rw[ht.1,hg,hu]
   ·exact h0.get t u hu
  obtain⟨q,hq,h⟩:=gj he h1 h;exact⟨(p,q),hq,h⟩
def qj:Nat:=1000000007
def vJ:Nat:=1000000009
def Ext(W:List Nat)(e e':Env):Prop:=e.length=e'.length/\(∀t,t∉W->Env.get e' t=Env.get e t)/\(qj∉W->e'.ds=e.ds)/\(vJ∉W->e'.bs=e.bs)
theorem Ext.refl(W:List Nat)(e:Env):Ext W e e:=⟨rfl,λ_ _=>rfl,λ_=>rfl,λ_=>rfl⟩
theorem Ext.trans{W V U:List Nat}{e e1 e2:Env}(h:Ext W e e1)(h':Ext V e1 e2)(hw:∀t,t∈W->t∈U)(hv:∀t,t∈V->t∈U):Ext U e e2:=
 ⟨h.1.trans h'.1,λt ht=>(h'.2.1 t λh=>ht (hv t h)).trans (h.2.1 t λh=>ht (hw t h)),λht=>(h'.2.2.1 λh=>ht (hv _ h)).trans (h.2.2.1 λh=>ht (hw _ h)),
   λht=>(h'.2.2.2 λh=>ht (hv _ h)).trans (h.2.2.2 λh=>ht (hw _ h))⟩
theorem Ext.mono{W U:List Nat}{e e1:Env}(h:Ext W e e1)(hw:∀t,t∈W->t∈U):Ext U e e1:=
 ⟨h.1,λt ht=>h.2.1 t λh=>ht (hw t h),λht=>h.2.2.1 λh=>ht (hw _ h),λht=>h.2.2.2 λh=>ht (hw _ h)⟩
theorem Ext.put(e:Env)(d:Option Tmp)(v:EV):Ext d.toList e (Env.put e d v):=
 ⟨by simp,λt ht=>by
   rw[Env.G4,jc];rintro⟨rfl,_⟩;simp at ht,λ_=>by simp,λ_=>by simp⟩
theorem Ag.forget{W:List Nat}{e e':Env}{a:Act}(h:Ag e' a)(hx:Ext W e e')(hm:qj∉W)(hd:vJ∉W):Ag (Env.forget e W) a:=by
 refine⟨by simpa[hx.1]using h.size,λt v hv=>?_,by rw[Env.I8,Env.I7,<-hx.2.2.1 hm,<-hx.2.2.2 hd];exact h.defers⟩;rw[Env.qB]at hv;split at hv
 ·simp[EV.v?]at hv
 ·rename_i ht
  by_cases hl:t<e.length
  ·have htW:t∉W:=λh=>ht ⟨h,hl⟩
   rw[<-hx.2.1 t htW]at hv;exact h.get t v hv
  ·rw[Env.lB e t (by omega)]at hv
   simp[EV.v?]at hv
theorem Ext.mI:∀{l:Live} {W:List Nat} {e e0:Env} {p:eD (l.map (·.2))},Ext W e e0->(∀x∈l,x.1∈W)->Ext W e (mI e0 l p)
 |[],_,_,_,_,h,_=>h
 |
  [x],W,e,e0,p,h,hl=>by
  refine⟨by simpa[Eng.mI]using h.1,λt ht=>?_,λht=>by simpa[Eng.mI]using h.2.2.1 ht,λht=>by simpa[Eng.mI]using h.2.2.2 ht⟩;rw[Eng.mI,Env.jV,jc]
  ·exact h.2.1 t ht
  ·rintro⟨rfl,_⟩;exact ht (hl x (by simp))
 |
  x::y::l,W,e,e0,p,h,hl=>by
  refine Ext.mI (l:=y::l) (e0:=Env.set e0 x.1 (.val (val x.2 p.1))) ?_ (λz hz=>hl z (by simp[hz]));refine⟨by simpa using h.1,λt ht=>?_,λht=>by simpa using h.2.2.1 ht,λht=>by simpa using h.2.2.2 ht⟩;rw[Env.jV,jc]
  ·exact h.2.1 t ht
  ·rintro⟨rfl,_⟩;exact ht (hl x (by simp))
theorem Ext.forget(e:Env)(W:List Nat):Ext W e (Env.forget e W):=
 ⟨by simp,λt ht=>by rw[Env.qB,jc (λh=>ht h.1)],λ_=>by simp,λ_=>by simp⟩
section
variable(P:Program)
def cY:Nat->TypeId->Option (List CS)
 |0,_=>none
 |
  d+1,t=>
  match P.underlying t with
  |some .bool=>some [.bool]
  |some (.int k)=>some [.int k]
  |some .string=>some [.str]
  |some (.pointer _)=>some [.ptr]
  |some (.slice _)=>some [.slice]
  |some (.map _ _)=>some [.map]
  |some (.func _ _ _)=>some [.any]
  |some (.interface _)=>some [.any]
  |some .unsafePointer=>some [.any]
  |some (.struct fs)=>fs.toList.foldr (λf acc=>match cY d f.type,acc with|some l,some r=>some (l++r)|_,_=>none) (some [])
  |some (.array n e)=>match cY d e with|some l=>some (List.replicate n l).flatten|none=>none
  |_=>none
def fh(t:TypeId):Bool:=
 match P.underlying t with
 |some (.struct _)|some (.array _ _)=>true
 |_=>false
def TD(t:TypeId):Option Sh:=
 match fh P t with
 |true=>match cY P 10 t with|some l=>some (.agg l)|none=>none
 |false=>match cY P 1 t with|some [c]=>some (.c c)|_=>none
def RJ:List TypeId->Option (List Sh)
 |[]=>some []
 |t::l=>match TD P t,RJ l with|some s,some r=>some (s::r)|_,_=>none
end
def nd(x:EV)(f:Value->Pr):Pr:=
 match x with
 |.val v=>f v
 |.lit b=>f (.bool b)
 |.Db=>f (.tuple #[.bool false])
 |.Dc k v=>f (.tuple #[.bool true,k,v])
 |.D6 k v=>f (.tuple #[k,v])
 |.no=>dM
theorem B1{x:EV}{f:Value->Pr}{w:World}(h:nd x f w):∃v,x.v? =some v/\f v w:=by
 cases x with
 |no=>exact h.elim
 |val v=>exact⟨v,rfl,h⟩
 |lit b=>exact⟨_,rfl,h⟩
 |Db=>exact⟨_,rfl,h⟩
 |Dc k v=>exact⟨_,rfl,h⟩
 |D6 k v=>exact⟨_,rfl,h⟩
def Lm:List EV->(LV->Pr)->Pr
 |[],f=>f []
 |x::l,f=>nd x λv=>Lm l λvs=>f (v::vs)
def opt{α:Type}(x:Option α)(f:α->Pr):Pr:=
 match x with
 |some a=>f a
 |none=>dM
theorem av{α:Type}{x:Option α}{f:α->Pr}{w:World}(h:opt x f w):∃a,x=some a/\f a w:=by
 cases x with
 |some a=>exact⟨a,rfl,h⟩
 |none=>exact h.elim
def tW(p:Prop)[Decidable p](f:Pr):Pr:=if p then f else dM
theorem eH{p:Prop}[Decidable p]{f:Pr}{w:World}(h:tW p f w):p/\f w:=by
 unfold tW at h;by_cases hp:p
 ·rw[jd hp]at h;exact⟨hp,h⟩
 ·rw[jc hp]at h;exact h.elim
def tf(b:Bool)(x y:Pr):Pr:=
 match b with
 |true=>x
 |false=>y
theorem aW{b:Bool}{x y:Pr}{w:World}(h:tf b x y w):(b=true/\x w)\/(b=false/\y w):=by
 cases b with
 |true=>exact .inl ⟨rfl,h⟩
 |false=>exact .inr ⟨rfl,h⟩
def kC(v:Value)(f:Array Value->Pr):Pr:=
 match v with
 |.agg cs=>f cs
 |_=>dM
theorem kP{v:Value}{f:Array Value->Pr}{w:World}(h:kC v f w):∃cs,v=.agg cs/\f cs w:=by
 cases v with
 |agg cs=>exact⟨cs,rfl,h⟩
 |_=>exact h.elim
def one?{α:Type}:List α->Option α
 |[c]=>some c
 |_=>none
def yC(k:IntKind)(x y:Int):Int:=k.wrap (BitVec.ofInt k.bits x&&&BitVec.ofInt k.bits y).toNat
def Wr(k:IntKind)(x y:Int):Int:=k.wrap (BitVec.ofInt k.bits x|||BitVec.ofInt k.bits y).toNat
def qd(k:IntKind)(x y:Int):Int:=k.wrap (BitVec.ofInt k.bits x^^^BitVec.ofInt k.bits y).toNat
def Ho(k:IntKind)(x y:Int):Int:=k.wrap (BitVec.ofInt k.bits x&&& ~~~(BitVec.ofInt k.bits y)).toNat
def Iy(k:IntKind)(x y:Int):Int:=k.wrap (x*2^(min y.toNat k.bits))
def ob(k:IntKind)(x y:Int):Int:=x.fdiv (2^(min y.toNat k.bits))
def Ad(op:BinOp)(x y:Value)(k:EV->Pr):Pr:=
 match op,x,y with
 |.shl,.int k1 a,.int _ b=>cq (0<=b) (k (.val (.int k1 (Iy k1 a b))))
 |.shr,.int k1 a,.int _ b=>cq (0<=b) (k (.val (.int k1 (ob k1 a b))))
 |.add,.int k1 a,.int k2 b=>if k1=k2 then k (.val (.int k1 (k1.wrap (a+b))))else dM
 |.sub,.int k1 a,.int k2 b=>if k1=k2 then k (.val (.int k1 (k1.wrap (a-b))))else dM
 |.mul,.int k1 a,.int k2 b=>if k1=k2 then k (.val (.int k1 (k1.wrap (a*b))))else dM
 |.quo,.int k1 a,.int k2 b=>if k1=k2 then cq (b≠0) (k (.val (.int k1 (k1.wrap (a.tdiv b)))))else dM
 |.rem,.int k1 a,.int k2 b=>if k1=k2 then cq (b≠0) (k (.val (.int k1 (a.tmod b))))else dM
 |.and,.int k1 a,.int k2 b=>if k1=k2 then k (.val (.int k1 (yC k1 a b)))else dM
 |.or,.int k1 a,.int k2 b=>if k1=k2 then k (.val (.int k1 (Wr k1 a b)))else dM
 |.xor,.int k1 a,.int k2 b=>if k1=k2 then k (.val (.int k1 (qd k1 a b)))else dM
 |.andNot,.int k1 a,.int k2 b=>if k1=k2 then k (.val (.int k1 (Ho k1 a b)))else dM
 |.eql,.int k1 a,.int k2 b=>if k1=k2 then k (.val (.bool (a==b)))else dM
 |.neq,.int k1 a,.int k2 b=>if k1=k2 then k (.val (.bool (a !=b)))else dM
 |.lss,.int k1 a,.int k2 b=>if k1=k2 then k (.val (.bool (decide (a<b))))else dM
 |.leq,.int k1 a,.int k2 b=>if k1=k2 then k (.val (.bool (decide (a<=b))))else dM
 |.gtr,.int k1 a,.int k2 b=>if k1=k2 then k (.val (.bool (decide (a>b))))else dM
 |.geq,.int k1 a,.int k2 b=>if k1=k2 then k (.val (.bool (decide (a>=b))))else dM
 |.add,.string a,.string b=>cq (((a.size+b.size:Nat):Int)<=IntKind.i64.max) (k (.val (.string (a++b))))
 |.eql,.string a,.string b=>k (.val (.bool (a.toList==b.toList)))
 |.neq,.string a,.string b=>k (.val (.bool (!(a.toList==b.toList))))
 |.lss,.string a,.string b=>k (.val (.bool (Op.bytesLess a.toList b.toList)))
 |.leq,.string a,.string b=>k (.val (.bool (Op.bytesLess a.toList b.toList||a.toList==b.toList)))
 |.gtr,.string a,.string b=>k (.val (.bool (!(Op.bytesLess a.toList b.toList||a.toList==b.toList))))
 |.geq,.string a,.string b=>k (.val (.bool (!(Op.bytesLess a.toList b.toList))))
 |_,_,_=>dM
theorem P9{P:Program}{op:BinOp}{t:TypeId}{x y:Value}{k:EV->Pr}{w:World}(h:Ad op x y k w):
 ∃v,(binOp op t x y).run P w=.ok v w/\k (.val v) w:=by
 unfold Ad at h;split at h<;>first
  |exact h.elim
  |(
   obtain⟨h1,h2⟩:=h
   refine⟨_,?_,h2⟩;simp[binOp,Op.shift,show¬(_:Int)<0 from Int.not_lt.2 h1,Iy,ob,pure]
   done)
  |(
   split at h
   ·rename_i hk
    first
     |(
      refine⟨_,?_,h⟩
      simp[binOp,hk,Op.intArith,Op.intBits,Op.intCmp,yC,Wr,qd,Ho,pure]
      done)
     |(
      obtain⟨h1,h2⟩:=h
      refine⟨_,?_,h2⟩;simp[binOp,hk,Op.intDiv,h1,pure]
      done)
   ·exact h.elim)
  |exact⟨_,by simp only[binOp,Op.stringOp];rw[jc (Int.not_lt.2 h.1)];rfl,h.2⟩
  |(
   refine⟨_,?_,h⟩
   simp[binOp,Op.stringOp,pure]
   done)
def RT{α:Type}(P:Program)(s:Sem α)(w:World)(Q:α->World->Prop):Prop:=∃v w',s.run P w=.ok v w'/\Q v w'
section
variable{P:Program}{α β:Type}{w:World}
theorem RT.pure{a:α}{Q:α->World->Prop}(h:Q a w):RT P (Pure.pure a) w Q:=⟨a,w,rfl,h⟩
theorem RT.bind{s:Sem α}{f:α->Sem β}{Q:β->World->Prop}(h:RT P s w λv w'=>RT P (f v) w' Q):RT P (s>>=f) w Q:=by
 obtain⟨v,w',h1,v2,w2,h2,h3⟩:=h;exact⟨v2,w2,by rw[Sem.run_bind,h1];exact h2,h3⟩
theorem RT.mono{s:Sem α}{Q Q':α->World->Prop}(h:RT P s w Q)(hq:∀v w',Q v w'->Q' v w'):RT P s w Q':=
 let⟨v,w',h1,h2⟩:=h;⟨v,w',h1,hq _ _ h2⟩
theorem RT.xz{s:Sem α}{v:α}{w':World}{Q:α->World->Prop}(h:s.run P w=.ok v w')(hq:Q v w'):RT P s w Q:=⟨v,w',h,hq⟩
theorem RT.underlying{t:TypeId}{d:TypeDesc}{Q:TypeDesc->World->Prop}(h:P.underlying t=some d)(hq:Q d w):RT P (Go.underlying t) w Q:=
 ⟨d,w,by simp[Go.underlying,h],hq⟩
theorem RT.typeInfo{t:TypeId}{i:TypeInfo}{Q:TypeInfo->World->Prop}(h:P.info? t=some i)(hq:Q i w):RT P (Go.typeInfo t) w Q:=
 ⟨i,w,by simp[Go.typeInfo,h],hq⟩
theorem RT.sizeOf{t:TypeId}{i:TypeInfo}{Q:Nat->World->Prop}(h:P.info? t=some i)(hq:Q i.size w):RT P (Go.sizeOf t) w Q:=
 .bind (.typeInfo h (.pure hq))
theorem RT.zeroValue{t:TypeId}{i:TypeInfo}{z:Value}{Q:Value->World->Prop}(h:P.info? t=some i)(hz:i.zero=some z)(hq:Q z w):RT P (Go.zeroValue t) w Q:=
 .bind (.typeInfo h (by rw[hz];exact .pure hq))
theorem RT.load{a:Addr}{v:Value}{Q:Value->World->Prop}(h:w.cell? a=some v)(hq:Q v w):RT P (Go.load a) w Q:=
 ⟨v,w,by simp[h],hq⟩
theorem RT.newObj{o:Obj}{Q:Nat->World->Prop}(hq:Q w.heap.size (w.alloc o)):RT P (Go.newObj o) w Q:=⟨_,_,rfl,hq⟩
theorem aO.one{v:Value}(h:aO v):v.oneCell'=true:=by cases v<;>simp_all[aO,Value.oneCell']
theorem aO.cells{v:Value}(h:aO v):v.cells= #[v]:=by cases v<;>simp_all[aO,Value.cells]
theorem RT.store{a:Addr}{v:Value}{f:Pr}{Q:Unit->World->Prop}(h:st a v f w)(hq:∀w',f w'->Q () w'):RT P (Go.store a v) w Q:=by
 obtain⟨h1,h2,h3,h4⟩:=h;obtain⟨u,hu⟩:=Option.isSome_iff_exists.1 h2;exact⟨(),_,by rw[run_store P w a v .plain h1.one];simp[hu,h3],hq _ h4⟩
theorem RT.storeCells{a:Addr}{f:Pr}{Q:Unit->World->Prop}:∀{l:LV} {i:Nat} {w:World},Lk a i l f w->(∀w',f w'->Q () w')->RT P (Go.storeCells a l i) w Q
 |[],_,_,h,hq=>.pure (hq _ h)
 |_::_,_,_,h,hq=>.bind (.store h λ_ h'=>RT.storeCells h' hq)
theorem RT.loadCellsFrom{a:Addr}{Q:Array Value->World->Prop}:∀{l:LV} {i n:Nat} {acc:Array Value},l.length=n->dL w a i l->Q (acc++l.toArray) w->RT P (Go.loadCellsFrom a i n acc) w Q
 |[],_,_,acc,rfl,_,hq=>.pure (by simpa using hq)
 |
  v::l,i,_,acc,rfl,h,hq=>by
  simp only[List.length_cons,Go.loadCellsFrom];exact .bind (.load h.1 (RT.loadCellsFrom rfl h.2 (by simpa using hq)))
theorem RT.loadCells{a:Addr}{Q:Array Value->World->Prop}{l:LV}{n:Nat}(hn:l.length=n)(h:dL w a 0 l)(hq:Q l.toArray w):RT P (Go.loadCells a n) w Q:=
 RT.loadCellsFrom hn h (by simpa using hq)
end
theorem vl:∀(l:List CS) (p:mu l),(fY l p).length=l.length
 |[],_=>rfl
 |[_],_=>rfl
 |_::t::l,p=>by simp only[fY,List.length_cons,vl (t::l)]
section
variable(P:Program)
def Tn(t:TypeId)(a:Addr)(k:Value->Pr):Pr:=
 opt (P.info? t) λi=>
  tf (fh P t)
   (opt (cY P 10 t) λl=>tW (l.length=i.size) (bf l a λp=>k (.agg (fY l p).toArray)))
   (opt (cY P 1 t) λl=>opt (one? l) λc=>bI c a λp=>k (dH c p))
def stT(t:TypeId)(a:Addr)(v:Value)(k:Pr):Pr:=
 opt (P.info? t) λi=>
  tf (fh P t)
   (kC v λcs=>tW (cs.size=i.size) (Lk a 0 cs.toList k))
   (tW (i.size=1) (st a v k))
def nwT(t:TypeId)(v:Value)(k:EV->Pr):Pr:=
 tf (fh P t)
  (kC v λcs=>nw (.cells cs t) λr=>k (.val (.pointer (some ⟨r,0,none⟩))))
  (cq (aO v) (nw (.cells #[v] t) λr=>k (.val (.pointer (some ⟨r,0,none⟩)))))
end
section
variable{P:Program}{w:World}
theorem mS{t:TypeId}{d:TypeDesc}(h:P.underlying t=some d):(isAgg t).run P w=.ok (fh P t) w:=by
 simp only[isAgg,Sem.run_bind,Go.underlying,run_program,Result.andThen_ok,h,Sem.run_pure,fh];cases d<;>rfl
theorem lE{t:TypeId}{i:TypeInfo}(h:P.info? t=some i)(hc:fh P t=true\/∃l,cY P 1 t=some l):∃d,P.underlying t=some d:=by
 cases hu:P.underlying t with
 |some d=>exact⟨d,rfl⟩
 |
  none=>
  rcases hc with hc|⟨l,hl⟩
  ·simp[fh,hu]at hc
  ·simp[cY,hu]at hl
theorem RT.loadVar{t:TypeId}{a:Addr}{k:Value->Pr}{Q:Value->World->Prop}(h:Tn P t a k w)(hq:∀v,k v w->Q v w):RT P (Go.loadVar t a) w Q:=by
 obtain⟨i,hi,h⟩:=av h;rcases aW h with⟨lS,h⟩|⟨lS,h⟩
 ·obtain⟨l,hl,h⟩:=av h
  obtain⟨hlen,p,hr,hk⟩:=eH h;obtain⟨d,hd⟩:=lE hi (.inl lS);refine .bind (.xz (mS hd) ?_);rw[lS,jd rfl];refine .bind (.sizeOf hi (.bind ?_));exact .loadCells (by rw[vl,hlen]) hr (.pure (hq _ hk))
 ·obtain⟨l,hl,h⟩:=av h
  obtain⟨c,hc,p,hr,hk⟩:=av h;obtain⟨d,hd⟩:=lE hi (.inr ⟨_,hl⟩);refine .bind (.xz (mS hd) ?_);rw[lS,jc Bool.false_ne_true];exact .load hr (hq _ hk)
theorem RT.MD{t:TypeId}{a:Addr}{k:Value->Pr}(h:Tn P t a k w):RT P (Go.loadVar t a) w k:=RT.loadVar h λ_ h=>h
theorem RT.storeVar{t:TypeId}{a:Addr}{v:Value}{k:Pr}{Q:Unit->World->Prop}(h:stT P t a v k w)(hq:∀w',k w'->Q () w'):RT P (Go.storeVar t a v) w Q:=by
 obtain⟨i,hi,h⟩:=av h;rcases aW h with⟨lS,h⟩|⟨lS,h⟩
 ·obtain⟨cs,rfl,h⟩:=kP h
  obtain⟨hlen,h⟩:=eH h;refine .bind (.sizeOf hi ?_);simp only[Value.cells,hlen,ne_eq,not_true_eq_false,if_false];exact .storeCells h hq
 ·obtain⟨hs,h⟩:=eH h
  refine .bind (.sizeOf hi ?_);simp only[h.1.cells,hs,List.size_toArray,List.length_cons,List.length_nil,ne_eq,not_true_eq_false,if_false];exact .storeCells (l:=[v]) (i:=0) (by simpa[Lk,Addr.add]using h) hq
theorem RT.newVar{t:TypeId}{v:Value}{k:EV->Pr}{Q:Addr->World->Prop}(h:nwT P t v k w)(hq:∀a w',k (.val (.pointer (some a))) w'->Q a w'):RT P (Go.newVar t v) w Q:=by
 unfold Go.newVar Go.newRow;rcases aW h with⟨lS,h⟩|⟨lS,h⟩
 ·obtain⟨cs,rfl,h⟩:=kP h
  exact .bind (.newObj (.pure (hq _ _ h)))
 ·obtain⟨h1,h2⟩:=h
  rw[h1.cells];exact .bind (.newObj (.pure (hq _ _ h2)))
end
def slc(n:Nat)(s:Sl)(lo hi mx:Option Int)(k:Sl->Pr):Pr:=λw=>
 (∀m,mx=some m->0<=m/\m<=(s.cap:Int))/\
 (mx.isSome=true->hi.isSome=true)/\
 (∀h,hi=some h->0<=h/\h<=((mx.map Int.toNat).getD s.cap:Int))/\
 (∀l,lo=some l->0<=l/\l<=((hi.map Int.toNat).getD s.len:Int))/\
 k ⟨
  if(mx.map Int.toNat).getD s.cap=(lo.map Int.toNat).getD 0 then s.a else s.a.map (·.add ((lo.map Int.toNat).getD 0*n)),
  (hi.map Int.toNat).getD s.len-(lo.map Int.toNat).getD 0,(mx.map Int.toNat).getD s.cap-(lo.map Int.toNat).getD 0⟩ w
def tX(s:ByteArray)(lo hi:Option Int)(k:ByteArray->Pr):Pr:=λw=>
 (∀h,hi=some h->0<=h/\h<=(s.size:Int))/\
 (∀l,lo=some l->0<=l/\l<=((hi.map Int.toNat).getD s.size:Int))/\
 k (s.extract ((lo.map Int.toNat).getD 0) ((hi.map Int.toNat).getD s.size)) w
def cE(w:World)(a:OA)(vs:LV):Prop:=
 match a with
 |some b=>dL w b 0 vs
 |none=>vs=[]
def TE(a:OA)(off:Nat)(vs:LV)(k:Pr):Pr:=
 match a with
 |some b=>Lk (b.add off) 0 vs k
 |none=>k
def y3(n:Nat)(d s:Sl)(k:Pr):Pr:=λw=>
 ∃vs:LV,(s.a.isSome=true->vs.length=Nat.min s.len d.len*n)/\cE w s.a vs/\TE d.a 0 vs k w
def zc(z:LV)(n:Nat):LV:=(List.replicate n z).flatten
def app(E:TypeId)(n b:Nat)(z:LV)(s x:Sl)(k:Sl->Pr):Pr:=λw=>
 ∃
  new:LV,(x.a.isSome=true->new.length=x.len*n)/\cE w x.a new/\
  (s.len+x.len<=s.cap->TE s.a (s.len*n) new (k ⟨s.a,s.len+x.len,s.cap⟩) w)/\
  (s.cap<s.len+x.len->∃old:LV,(s.a.isSome=true->old.length=s.len*n)/\cE w s.a old/\(b≠0)/\
    (Builtin.nextslicecap (s.len+x.len) s.cap*b<=2^48)/\(s.len+x.len<2^63)/\
    ∀
     cap,s.len+x.len<=cap->cap<2^63->
     k ⟨some ⟨w.heap.size,0,none⟩,s.len+x.len,cap⟩ (w.drew.alloc (.cells (old++new++zc z (cap-(s.len+x.len))).toArray E)))
def RK(x:ByteArray):LV:=x.data.toList.map λb=>.int .u8 b.toNat
def
 Jv(E:TypeId)(n b:Nat)(z:LV)(s:Sl)(x:ByteArray)(k:Sl->Pr):Pr:=λw=>
 (s.len+x.size<=s.cap->TE s.a (s.len*n) (RK x) (k ⟨s.a,s.len+x.size,s.cap⟩) w)/\
 (s.cap<s.len+x.size->∃old:LV,(s.a.isSome=true->old.length=s.len*n)/\cE w s.a old/\(b≠0)/\
   (Builtin.nextslicecap (s.len+x.size) s.cap*b<=2^48)/\(s.len+x.size<2^63)/\
   ∀
    cap,s.len+x.size<=cap->cap<2^63->
    k ⟨some ⟨w.heap.size,0,none⟩,s.len+x.size,cap⟩ (w.drew.alloc (.cells (old++RK x++zc z (cap-(s.len+x.size))).toArray E)))
def AA(E:TypeId)(n b:Nat)(z:LV)(s:Sl)(m:Int)(k:Sl->Pr):Pr:=λw=>
 0
  <=m/\m*(b:Int)<=2^48/\IntKind.wrap .i64 m=m/\
  (s.len+m.toNat<=s.cap->TE s.a (s.len*n) (zc z m.toNat) (k ⟨s.a,s.len+m.toNat,s.cap⟩) w)/\
  (s.cap<s.len+m.toNat->∃old:LV,(s.a.isSome=true->old.length=s.len*n)/\cE w s.a old/\
    (Builtin.nextslicecap (s.len+m.toNat) s.cap*b<=2^48)/\(s.len+m.toNat<2^63)/\
    ∀
     cap,s.len+m.toNat<=cap->cap<2^63->
     k ⟨some ⟨w.heap.size,0,none⟩,s.len+m.toNat,cap⟩ (w.drew.alloc (.cells (old++zc z m.toNat++zc z (cap-(s.len+m.toNat))).toArray E)))
def Ba(E:TypeId)(b:Nat)(z:LV)(l c:Int)(k:Sl->Pr):Pr:=λw=>
 0
  <=l/\l<=c/\(b:Int)*c<=2^48/\c<2^63/\
  k ⟨some ⟨w.heap.size,0,none⟩,l.toNat,c.toNat⟩ (w.alloc (.cells (zc z c.toNat).toArray E))
def G6(w:World)(r:Option Nat)(es:Array MapEntry):Prop:=
 match r with
 |none=>es= #[]
 |some b=>∃clock,w.heap[b]? =some (.map es clock)
def gP(kd:TypeDesc)(r:Option Nat)(key:Value)(sh:CS)(zero:Value)(k:dZ sh->Bool->Pr):Pr:=λw=>
 ∃es res p,G6 w r es/\Instr.findNow kd key es.toList 0=some res/\((res.map (·.2)).getD zero)=dH sh p/\k p res.isSome w
def mo(kd:TypeDesc)(r:Option Nat)(key v:Value)(k:Pr):Pr:=λw=>
 ∃
  b es clock res,r=some b/\w.heap[b]? =some (.map es clock)/\Instr.findNow kd key es.toList 0=some res/\
  match res with
  |some (i,_)=>Instr.sameBits 10000 (((es[i]?).map (·.key)).getD key) key=true/\
    k {w with heap:=w.heap.setIfInBounds b (.map (es.modify i λe=>{e with key,val:=v}) clock)}
  |none=>k {w with heap:=w.heap.setIfInBounds b (.map (es.push {key,val:=v,born:=clock}) (clock+1))}
def oW(kd:TypeDesc)(r:Option Nat)(key:Value)(k:Pr):Pr:=λw=>
 ∃
  b es clock res,r=some b/\w.heap[b]? =some (.map es clock)/\Instr.findNow kd key es.toList 0=some res/\
  k {w with heap:=w.heap.setIfInBounds b (.map (match res with|some (i,_)=>es.eraseIdxIfInBounds i|none=>es) clock)}
def oN(r:Option Nat)(k:Int->Pr):Pr:=λw=>∃es,G6 w r es/\k es.size w
def jN(r:Option Nat)(k:Nat->Pr):Pr:=λw=>
 match r with
 |none=>k w.heap.size (w.alloc (.mapIter none 0 #[] 0))
 |some m=>∃es clock,w.heap[m]? =some (.map es clock)/\k w.heap.size (w.alloc (.mapIter (some m) clock #[] clock))
def nY(a:Addr)(k0:Pr)(k1:MapEntry->Pr):Pr:=λw=>a.off=0/\
 (
  (∃c f d,w.heap[a.block]? =some (.mapIter none c f d)/\k0 w)\/
  ∃
   m since seen last es clock,w.heap[a.block]? =some (.mapIter (some m) since seen last)/\w.heap[m]? =some (.map es clock)/\
   (!seen.isEmpty&& !es.isEmpty&&es.all (·.born>=last))=false/\
   ∀
    w1,(w1=w\/w1=w.drew)->
    ((∀e∈es.toList,e.born<since->seen.contains e.born=true)->k0 w1)/\
    ∀e∈es.toList,seen.contains e.born=false->k1 e {w1 with heap:=w1.heap.setIfInBounds a.block (.mapIter (some m) since (seen.push e.born) clock)})
def kF(a:Addr)(k:MapEntry->Pr):Pr:=λw=>a.off=0/\
 ∃
  m since seen stepped es clock stamp e,w.heap[a.block]? =some (.mapIter (some m) since seen stepped)/\seen.back? =some stamp/\w.heap[m]? =some (.map es clock)/\
  clock=stepped/\es.find? (·.born==stamp)=some e/\k e w
def fN:TypeDesc->Bool
 |.int _|.string|.bool=>true
 |_=>false
def Af(s:Sl)(k:ByteArray->Pr):Pr:=λw=>
 ∃l:List Int,(s.a.isSome=true->l.length=s.len)/\cE w s.a (l.map (.int .u8))/\k ⟨(l.map λn=>UInt8.ofNat n.toNat).toArray⟩ w
def MJ(s:ByteArray)(cap:Nat):Array Value:=(s.data.map λb=>Value.int .u8 b.toNat)++Array.replicate (cap-s.size) (.int .u8 0)
def Hp(a:Addr)(k:Pr):Pr:=λw=>∃E n,w.shape? a.block=some (E,n)/\k (w.freeze ⟨a.block,n,none⟩ 1)
def s2b(E:TypeId)(s:ByteArray)(k:Sl->Pr):Pr:=λw=>
 s.size<2^63/\∀cap,s.size<=cap->cap<2^63->
  k ⟨some ⟨w.heap.size,0,none⟩,s.size,cap⟩ ((w.drew.alloc (.cells (MJ s cap) E)).freeze ⟨w.heap.size,(MJ s cap).size,none⟩ 1)
def MK(s:ByteArray)(k:Nat->Pr):Pr:=λw=>k w.heap.size (w.alloc (.stringIter s 0))
def RM(a:Addr)(k0:Pr)(k1:Nat->Nat->Pr):Pr:=λw=>a.off=0/\∃s pos,w.heap[a.block]? =some (.stringIter s pos)/\
 (¬pos<s.size->k0 w)/\(pos<s.size->k1 pos (Utf8.decode s pos).1 (w.putObj a.block (.stringIter s (pos+(Utf8.decode s pos).2))))
def fI(P:Program)(f:FuncId):Bool:=
 match P.funcs[f]?with
 |some fn=>fn.body.isSome&& !(fn.name== "runtime.NumGoroutine")
 |none=>false
def au(cM:List Sh)(k:eD cM->Pr):Ending->World->Prop:=λe w=>∃p:eD cM,e=.returned (nq cM p)/\k p w
def XI(q:List PanicEntry->Pr)(cM:List Sh)(k:eD cM->Pr):Ending->World->Prop:=λe w=>au cM k e w\/∃ch,e=.panicked ch/\q ch w
def ML(P:Program)(q:List PanicEntry->Pr)(f:FuncId)(args:LV)(cM:List Sh)(k:eD cM->Pr):Pr:=λw=>Calls P f args.toArray w (XI q cM k)
def aq(P:Program)(f:FuncId)(args:LV)(cM:List Sh)(k:eD cM->Pr):Pr:=λw=>Calls P f args.toArray w (au cM k)
def RN(P:Program)(f:FuncId)(args:LV)(cM:List Sh)(k:eD cM->Pr):Pr:=λw=>
 ∃p w',(callFunc f args.toArray).run P w=.ok (.value (nq cM p)) w'/\k p w'
def fH(P:Program)(v:Value)(args:LV)(cM:List Sh)(k:eD cM->Pr):Pr:=λw=>
 (∃f first caps,v=.func (.func f) first caps/\fI P f=true/\Calls P f (first++args.toArray++caps) w (au cM k))\/
 (∃l caps,v=.func (.yield l) #[] caps/\YieldAt Fence.wide 0 P l args.toArray w (au cM k))
def MM(v:Value):Prop:=
 match v with
 |.func (.func _) _ _=>True
 |.func (.yield _) _ _=>True
 |_=>False
def gh(x y:Int):Int:=if y<x then y else x
def imax(x y:Int):Int:=if y>x then y else x
def mz(v:Value)(f:Int->Pr):Pr:=
 match v with
 |.int _ n=>f n
 |_=>dM
theorem iX{v:Value}{f:Int->Pr}{w:World}(h:mz v f w):∃k n,v=.int k n/\f n w:=by
 cases v with
 |int k n=>exact⟨k,n,rfl,h⟩
 |_=>exact h.elim
def Ry(x:Option EV)(f:Option Int->Pr):Pr:=
 match x with
 |none=>f none
 |some e=>nd e λv=>mz v λn=>f (some n)
def oL(v:Value)(f:Addr->Pr):Pr:=
 match v with
 |.pointer p=>deref p f
 |_=>dM
theorem iA{v:Value}{f:Addr->Pr}{w:World}(h:oL v f w):∃a,v=.pointer (some a)/\f a w:=by
 cases v with
 |pointer p=>obtain⟨a,rfl,h1⟩:=gu.1 (show deref p f w from h);exact⟨a,rfl,h1⟩
 |_=>exact h.elim
def aiz(v:Value)(f:Sl->Pr):Pr:=
 match v with
 |.slice a l c=>f ⟨a,l,c⟩
 |_=>dM
def RO(v:Value)(f:ByteArray->Pr):Pr:=
 match v with
 |.string s=>f s
 |_=>dM
theorem B2{v:Value}{f:ByteArray->Pr}{w:World}(h:RO v f w):∃s,v=.string s/\f s w:=by
 cases v with
 |string s=>exact⟨s,rfl,h⟩
 |_=>exact h.elim
def wR(P:Program)(t:TypeId):Bool:=
 match P.underlying t with
 |some .string=>true
 |_=>false
theorem ny{P:Program}{t:TypeId}(h:wR P t=true):P.underlying t=some .string:=by
 unfold wR at h;split at h
 ·assumption
 ·cases h
def wL(v:Value)(f:Option Nat->Pr):Pr:=
 match v with
 |.map r=>f r
 |_=>dM
theorem l6{v:Value}{f:Option Nat->Pr}{w:World}(h:wL v f w):∃r,v=.map r/\f r w:=by
 cases v with
 |map r=>exact⟨r,rfl,h⟩
 |_=>exact h.elim
def Ew:Value->Bool
 |.nilFunc=>true
 |_=>false
def RQ:Operand->Bool
 |.const _=>true
 |_=>false
def XJ(P:Program)(t:TypeId):Bool:=
 match P.underlying t with
 |
  some (.pointer el)=>(match P.info? el with
  |some i=> !(i.size==0)
  |none=>false)
 |_=>false
def PV(P:Program)(t:TypeId)(x y:Operand):Bool:= !RQ x&& !RQ y&&XJ P t
def wN(u v:Value)(f:Bool->Pr):Pr:=
 match u,v with
 |.pointer p,.pointer q=>cq (∀a b,p=some a->q=some b->a.block=b.block) (f (p==q))
 |_,_=>dM
def Ex(d:TypeDesc)(x y:Value):Option (Prop×Bool):=
 match d,x,y with
 |.bool,.bool a,.bool b=>some (True,a==b)
 |.pointer _,.pointer p,.pointer none=>some (True,p.isNone)
 |.pointer _,.pointer none,.pointer q=>some (True,q.isNone)
 |.slice _,.slice a _ _,.slice none _ _=>some (True,a.isNone)
 |.map _ _,.map r,.map none=>some (True,r.isNone)
 |.func _ _ _,v,.nilFunc=>some (MM v\/v=.nilFunc,Ew v)
 |_,_,_=>none
def To(P:Program)(t:TypeId)(x y:Value)(f:Bool->Pr):Pr:=
 opt (P.underlying t) λd=>opt (Ex d x y) λr=>cq r.1 (f r.2)
def XK(d:TypeDesc)(x y:Value):Option Bool:=
 match d,x,y with
 |.bool,.bool a,.bool b=>some (a==b)
 |.int _,.int k a,.int k' b=>if k=k' then some (a==b)else none
 |.string,.string a,.string b=>some (a.toList==b.toList)
 |_,_,_=>none
def RU(a b:String):Bool:=decide (a=b)
def nv(P:Program)(t:TypeId):Option (Array Field):=
 match P.underlying t with
 |some (.struct fs)=>some fs
 |_=>none
def Wb(g:TypeId->LV->LV->Option Bool)(xs ys:LV):List Field->Option Bool
 |[]=>some true
 |
  f::l=>
  match RU f.name "_",g f.type (xs.drop f.offset) (ys.drop f.offset),Wb g xs ys l with
  |false,some b,some c=>some (b&&c)
  |_,_,_=>none
def AB(P:Program)(t:TypeId)(us vs:LV):Option Bool:=
 match P.underlying t,us.head?,vs.head? with
 |some d,some u,some v=>XK d u v
 |_,_,_=>none
def XL(P:Program):Nat->TypeId->LV->LV->Option Bool
 |0,t,us,vs=>AB P t us vs
 |
  m+1,t,us,vs=>
  match nv P t,P.info? t,P.stoodInHeld t with
  |some fs,some i,false=>Wb (XL P m) (us.take i.size) (vs.take i.size) fs.toList
  |some _,_,_=>none
  |none,_,_=>AB P t us vs
def Tp(P:Program)(xs ys:LV)(fs:List Field):Option Bool:=Wb (XL P 2) xs ys fs
def Ai(u v:Value)(f:LV->LV->Pr):Pr:=
 match u,v with
 |.agg xs,.agg ys=>f xs.toList ys.toList
 |_,_=>dM
theorem nu{u v:Value}{f:LV->LV->Pr}{w:World}(h:Ai u v f w):∃xs ys,u=.agg xs/\v=.agg ys/\f xs.toList ys.toList w:=by
 unfold Ai at h;split at h
 ·exact⟨_,_,rfl,rfl,h⟩
 ·exact h.elim
def BN(P:Program)(t:TypeId)(fs:Array Field)(u v:Value)(f:Bool->Pr):Pr:=
 tf (P.eqGuardType P.depth t||P.stoodInHeld t) dM (Ai u v λxs ys=>opt (Tp P xs ys fs.toList) f)
def BM(P:Program)(u v:Value)(f:Bool->Pr):Pr:=λw=>
 ∃tx x ty y,u=.iface tx x/\v=.iface ty y/\∃b,((tx≠ty/\b=false)\/(tx=ty/\∃i k a c,P.info? tx=some i/\i.comparable=true/\P.underlying tx=some (.int k)/\x=.int k a/\y=.int k c/\b=(a==c)))/\f b w
def vX(P:Program)(s:TypeId)(i:Nat):Option Field:=
 match P.underlying s with
 |some (.struct fs)=>fs[i]?
 |_=>none
def cN(P:Program)(t:TypeId):Option TypeId:=
 match P.underlying t with
 |some (.slice e)=>some e
 |_=>none
def mapElem(P:Program)(t:TypeId):Option (TypeId×TypeId):=
 match P.underlying t with
 |some (.map k e)=>some (k,e)
 |_=>none
def vm(place:Nat->Option (Nat×Nat)):LV->List (Nat×Value)->Option (LV)
 |cells,[]=>some cells
 |
  cells,(i,v)::rest=>
  match place i with
  |none=>none
  |
   some (off,size)=>
   match v with
   |.agg cs=>if cs.size=size/\off+size<=cells.length then vm place (cells.take off++cs.toList++cells.drop (off+size)) rest else none
   |v=>if size=1/\off+1<=cells.length then vm place (cells.set off v) rest else none
def na(v:Value)(k:Pr):Pr:=
 match v with
 |.agg _=>dM
 |_=>k
theorem MN{v:Value}{k:Pr}{w:World}(h:na v k w):(∀cs,v≠.agg cs)/\k w:=by
 cases v<;>first|exact h.elim|exact⟨λcs=>by simp,h⟩
def j7(agg:Nat->Bool)(place:Nat->Option (Nat×Nat)):LV->List (Nat×Value)->(LV->Pr)->Pr
 |cells,[],f=>f cells
 |cells,(i,v)::rest,f=>opt (place i) λos=>tf (agg i)
   (kC v λcs=>tW (cs.size=os.2/\os.1+os.2<=cells.length) (j7 agg place (cells.take os.1++cs.toList++cells.drop (os.1+os.2)) rest f))
   (na v (tW (os.2=1/\os.1+1<=cells.length) (j7 agg place (cells.set os.1 v) rest f)))
theorem j9{agg:Nat->Bool}{place:Nat->Option (Nat×Nat)}{w:World}:∀{ps:List (Nat×Value)} {cells:LV} {f:LV->Pr},j7 agg place cells ps f w->∃out,vm place cells ps=some out/\f out w
 |[],cells,f,h=>⟨cells,rfl,h⟩
 |
  (i,v)::ps,cells,f,h=>by
  simp only[j7]at h;obtain⟨⟨off,size⟩,hp,h⟩:=av h;simp only[vm,hp];rcases aW h with⟨_,h⟩|⟨_,h⟩
  ·obtain⟨cs,rfl,h⟩:=kP h
   obtain⟨hc,h⟩:=eH h;obtain⟨out,ho,h⟩:=j9 h;exact⟨out,by dsimp only;rw[jd hc];exact ho,h⟩
  ·obtain⟨hv,h⟩:=MN h
   obtain⟨hc,h⟩:=eH h;obtain⟨out,ho,h⟩:=j9 h;refine⟨out,?_,h⟩;cases v<;>first|exact absurd rfl (hv _)|(dsimp only;rw[jd hc];exact ho)
def l5(e:Env):List (Nat×Operand)->(List (Nat×Value)->Pr)->Pr
 |[],f=>f []
 |(i,x)::l,f=>nd (Env.ev e x) λv=>l5 e l λvs=>f ((i,v)::vs)
def placesOf(P:Program):List Field->Option (List (Nat×Nat))
 |[]=>some []
 |
  f::l=>match P.info? f.type,placesOf P l with
  |some i,some r=>some ((f.offset,i.size)::r)
  |_,_=>none
def zeroOf(P:Program)(t:TypeId):Option Value:=
 match P.info? t with
 |some i=>i.zero
 |none=>none
def xA(P:Program)(t:TypeId):Option (List Sh):=
 match P.underlying t with
 |some (.tuple ts)=>RJ P ts.toList
 |some _=>match TD P t with|some s=>some [s]|none=>none
 |none=>none
def yI:LV->(Value->Pr)->Pr
 |[.int k x,.int _ y],f=>f (.int k (gh x y))
 |[.int k x,.int _ y,.int _ z],f=>f (.int k (gh (gh x y) z))
 |_,_=>dM
def yJ:LV->(Value->Pr)->Pr
 |[.int k x,.int _ y],f=>f (.int k (imax x y))
 |[.int k x,.int _ y,.int _ z],f=>f (.int k (imax (imax x y) z))
 |_,_=>dM
def kD(P:Program)(t:TypeId):Bool:=
 match P.underlying t with
 |some (.int _)=>true
 |_=>false
def fJ(P:Program)(b:Builtin)(ts:List TypeId)(args:LV)(k:EV->Pr):Pr:=
 match b,args with
 |.len,[.slice _ n _]=>opt (ts[0]?) λt=>opt (cN P t) λ_=>k (.val (.int .i64 n))
 |.len,[.string s]=>opt (ts[0]?) λt=>opt (P.underlying t) λd=>match d with|.string=>k (.val (.int .i64 s.size))|_=>dM
 |.len,[.map r]=>opt (ts[0]?) λt=>opt (mapElem P t) λ_=>oN r λn=>k (.val (.int .i64 n))
 |.cap,[.slice _ _ n]=>opt (ts[0]?) λt=>opt (cN P t) λ_=>k (.val (.int .i64 n))
 |.min,l=>yI l λv=>k (.val v)
 |.max,l=>yJ l λv=>k (.val v)
 |.copy,[.slice da dl dc,.slice sa sl sc]=>opt (ts[0]?) λt=>opt (cN P t) λel=>opt (P.info? el) λi=>
   y3 i.size ⟨da,dl,dc⟩ ⟨sa,sl,sc⟩ (k (.val (.int .i64 (Nat.min sl dl:Nat))))
 |.append,[.slice da dl dc,.slice sa sl sc]=>opt (ts[0]?) λt=>opt (ts[1]?) λt2=>tf (kD P t2) dM<|opt (P.underlying t2) λ_=>opt (cN P t) λel=>opt (P.info? el) λi=>opt i.zero λz=>
   tW (z.cells.size=i.size) (app el i.size i.bytes z.cells.toList ⟨da,dl,dc⟩ ⟨sa,sl,sc⟩ λs=>k (.val (.slice s.a s.len s.cap)))
 |.append,[.slice da dl dc,.string x]=>opt (ts[0]?) λt=>opt (ts[1]?) λt2=>tf (kD P t2) dM<|opt (P.underlying t2) λ_=>opt (cN P t) λel=>opt (P.info? el) λi=>opt i.zero λz=>
   tW (z.cells.size=i.size) (Jv el i.size i.bytes z.cells.toList ⟨da,dl,dc⟩ x λs=>k (.val (.slice s.a s.len s.cap)))
 |.append,[.slice da dl dc,.int _ m]=>opt (ts[0]?) λt=>opt (ts[1]?) λt2=>tf (kD P t2) (opt (cN P t) λel=>opt (P.info? el) λi=>opt i.zero λz=>
   tW (z.cells.size=i.size) (AA el i.size i.bytes z.cells.toList ⟨da,dl,dc⟩ m λs=>k (.val (.slice s.a s.len s.cap)))) dM
 |.delete,[.map r,key]=>opt (ts[0]?) λt=>opt (mapElem P t) λke=>opt (P.underlying ke.1) λkd=>tf (fN kd) (oW kd r key (k (.val (.tuple #[])))) dM
 |_,_=>dM
def u9(P:Program)(src dst:TypeId)(x:Value)(k:EV->Pr):Pr:=
 opt (P.underlying src) λs=>opt (P.underlying dst) λd=>
  match s,d,x with
  |.int _,.int kd,.int _ n=>k (.val (.int kd (kd.wrap n)))
  |.string,.string,.string b=>k (.val (.string b))
  |.slice _,.slice e,.slice a l c=>tf (src==dst) (opt (P.underlying e) λu=>match u with|.int .u8=>deref a λad=>Hp ad (k (.val (.slice (some ad) l c)))|_=>dM) dM
  |.string,.slice e,.string s=>opt (P.underlying e) λu=>match u with|.int .u8=>s2b e s λr=>k (.val (.slice r.a r.len r.cap))|_=>dM
  |.slice e,.string,.slice a l c=>opt (P.underlying e) λu=>match u with|.int .u8=>Af ⟨a,l,c⟩ λb=>k (.val (.string b))|_=>dM
  |_,_,_=>dM
def PM(op:UnOp)(x:EV)(k:EV->Pr):Pr:=
 match op,x with
 |.not,.lit b=>k (.lit (!b))
 |.not,.val (.bool b)=>k (.val (.bool !b))
 |.neg,.val (.int kd n)=>k (.val (.int kd (kd.wrap (0-n))))
 |.xor,.val (.int kd n)=>k (.val (.int kd (qd kd (if kd.signed then-1 else kd.max) n)))
 |_,_=>dM
def Ll(x:EV)(y z:Pr):Pr:=
 match x with
 |.lit true=>y
 |.lit false=>z
 |.val (.bool b)=>br b y z
 |_=>dM
theorem tZ{x:EV}{y z:Pr}{w:World}(h:Ll x y z w):∃b,x.v? =some (.bool b)/\((b=true/\y w)\/(b=false/\z w)):=by
 unfold Ll at h;split at h
 ·exact⟨true,rfl,.inl ⟨rfl,h⟩⟩
 ·exact⟨false,rfl,.inr ⟨rfl,h⟩⟩
 ·rename_i b
  refine⟨b,rfl,?_⟩;unfold br at h;cases b with
  |true=>exact .inl ⟨rfl,by simpa using h⟩
  |false=>exact .inr ⟨rfl,by simpa using h⟩
 ·exact h.elim
def Mk(e:Env)(c a b:Operand)(k:EV->Pr):Pr:=
 Ll (Env.ev e c) (nd (Env.ev e a) λ_=>k (Env.ev e a)) (nd (Env.ev e b) λ_=>k (Env.ev e b))
def Ak(v u:Value):Bool:=
 match v,u with
 |.int _ _,.int _ _=>true
 |.string _,.string _=>true
 |_,_=>false
def BK(op:BinOp)(f:Bool->Pr):Pr:=
 match op with
 |.eql=>f false
 |.neq=>f true
 |_=>dM
def wQ(s:CS)(v:Value)(f:dZ s->Pr):Pr:=λw=>∃p,v=dH s p/\f p w
def va(P:Program)(t:TypeId)(f:CS->Pr):Pr:=opt (cY P 1 t) λl=>opt (one? l) f
def afa(P:Program)(ty:TypeId)(x:EV)(ix:Nat)(k:EV->Pr):Pr:=
 match x with
 |
  .Db=>(match ix with
  |0=>k (.lit false)
  |_=>dM)
 |
  .Dc a b=>(match ix with
  |0=>k (.lit true)
  |1=>k (.val a)
  |2=>k (.val b)
  |_=>dM)
 |
  .D6 a b=>(match ix with
  |0=>va P ty λs=>wQ s a λp=>k (.val (dH s p))
  |1=>va P ty λs=>wQ s b λp=>k (.val (dH s p))
  |_=>dM)
 |
  x=>nd x λv=>match v with
  |.tuple vs=>opt (vs[ix]?) λx=>k (.val x)
  |_=>dM
def Ml:Operand->Bool
 |.const .nilIface=>true
 |_=>false
def orElse{α:Type}(x:Option α)(f:α->Pr)(y:Pr):Pr:=
 match x with
 |some a=>f a
 |none=>y
theorem kN{α:Type}{x:Option α}{f:α->Pr}{y:Pr}{w:World}(h:orElse x f y w):(∃a,x=some a/\f a w)\/(x=none/\y w):=by
 cases x with
 |some a=>exact .inl ⟨a,rfl,h⟩
 |none=>exact .inr ⟨rfl,h⟩
def Ec(P:Program)(t:TypeId):Bool:=
 match P.underlying t with
 |some (.interface _)=>true
 |_=>false
def Ae(P:Program)(t:TypeId)(u v:Value)(f:Bool->Pr):Pr:=orElse (nv P t) (λfs=>BN P t fs u v f)<|To P t u v f
def isI:Value->Prop
 |.nilIface=>True
 |.iface _ _=>True
 |_=>False
def oO:Value->Bool
 |.nilIface=>true
 |_=>false
def vc:TypeDesc->Bool
 |.interface _=>true
 |_=>false
def asT(T:TypeId)(sh:Sh)(z v:Value)(ok:Bool)(k:Rx sh->Bool->Pr):Pr:=λw=>
 ∃p b,((b=true/\v=.iface T (val sh p))\/(ok=true/\b=false/\val sh p=z/\(v=.nilIface\/∃t u,v=.iface t u/\t≠T)))/\k p b w
def MO:TypeDesc->Option (Array (String×TypeId))
 |.interface want=>some want
 |_=>none
def asI(P:Program)(want:Array (String×TypeId))(v:Value)(ok:Bool)(k:Bool->Pr):Pr:=λw=>
 ∃
  b,((b=true/\∃t u i,v=.iface t u/\P.info? t=some i/\Instr.missingMethod want i.methods=none)\/
  (ok=true/\b=false/\(v=.nilIface\/∃t u i m,v=.iface t u/\P.info? t=some i/\Instr.missingMethod want i.methods=some m)))/\k b w
def XM(P:Program)(v:Value)(name:String)(args:LV)(cM:List Sh)(k:eD cM->Pr):Pr:=λw=>
 ∃
  t u f recv,v=.iface t u/\(method (P.types.size+Made.depth) t u name).run P w=.ok (f,recv) w/\((fI P f=true/\Calls P f (#[recv]++args.toArray) w (au cM k))\/
  ∃p w',(callFunc f (#[recv]++args.toArray)).run P w=.ok (.value (nq cM p)) w'/\k p w')
def cop(P:Program)(o:Oper)(e:Env)(k:EV->Pr):Pr:=
 match o.op with
 |.move x|.assign x=>nd (Env.ev e x) λ_=>k (Env.ev e x)
 |.pick c a b=>Mk e c a b k
 |.alloc t=>opt (zeroOf P t) λz=>nwT P t z k
 |.box t x=>nd (Env.ev e x) λv=>nwT P t v k
 |.build t parts=>opt (zeroOf P t) λz=>l5 e parts.toList λps=>
   opt (P.underlying t) λd=>match d with
    |.struct fs=>opt (placesOf P fs.toList) λpl=>j7 (λj=>match fs[j]?with|some fl=>fh P fl.type|none=>false) (pl[·]?) z.cells.toList ps λcs=>k (.val (.agg cs.toArray))
    |.array _ el=>opt (P.info? el) λi=>j7 (λ_=>fh P el) (λj=>some (j*i.size,i.size)) z.cells.toList ps λcs=>k (.val (.agg cs.toArray))
    |_=>dM
 |.buildSlice t len parts=>l5 e parts.toList λps=>
   opt (cN P t) λel=>opt (P.info? el) λi=>opt i.zero λz=>tW (z.cells.size=i.size/\i.size≠0/\len*i.size<=2^24)
    (j7 (λ_=>fh P el) (λj=>some (j*i.size,i.size)) (zc z.cells.toList len) ps λcs=>
      nw (.cells cs.toArray el) λr=>k (.val (.slice (some ⟨r,0,none⟩) len len)))
 |.load t a=>nd (Env.ev e a) λp=>oL p λad=>Tn P t ad λv=>k (.val v)
 |.store t a x=>nd (Env.ev e a) λp=>oL p λad=>nd (Env.ev e x) λv=>stT P t ad v (k .no)
 |.nilCheck x=>nd (Env.ev e x) λv=>match v with
   |.pointer p=>deref p λad=>k (.val (.pointer (some ad)))
   |.func fn a b=>cq (MM (.func fn a b)) (k (.val (.func fn a b)))
   |.int _ _|.bool _|.string _|.nilIface|.slice _ _ _|.map _=>dM
   |v=>cq (MM v) (k (.val v))
 |.binOp op t x y _=>tf (Ml y&&Ec P t) (nd (Env.ev e x) λu=>BK op λneg=>cq (isI u) (k (.val (.bool (if neg then !oO u else oO u)))))<|nd (Env.ev e x) λu=>nd (Env.ev e y) λv=>tf (Ec P t) (BK op λneg=>BM P u v λb=>k (.val (.bool (if neg then !b else b))))<|tf (PV P t x y) (BK op λneg=>wN u v λb=>k (.val (.bool (if neg then !b else b))))<|tf (Ak v u) (Ad op u v k)
   (BK op λneg=>Ae P t u v λb=>k (.val (.bool (if neg then !b else b))))
 |.unOp op _ x=>PM op (Env.ev e x) k
 |.convert s d x=>nd (Env.ev e x) λv=>u9 P s d v k
 |.makeFunc fn first caps=>Lm (first.toList.map (Env.ev e)) λfs=>Lm (caps.toList.map (Env.ev e)) λcs=>k (.val (.func fn fs.toArray cs.toArray))
 |.makeMap _ none=>nw (.map #[] 0) λr=>k (.val (.map (some r)))
 |.makeSlice t l c=>opt (cN P t) λel=>opt (P.info? el) λi=>opt i.zero λz=>tW (z.cells.size=i.size/\i.size≠0)
   (nd (Env.ev e l) λlv=>mz lv λln=>nd (Env.ev e c) λcv=>mz cv λcn=>Ba el i.bytes z.cells.toList ln cn λs=>k (.val (.slice s.a s.len s.cap)))
 |.slice t x lo hi mx=>nd (Env.ev e x) λv=>Ry (lo.map (Env.ev e)) λl=>Ry (hi.map (Env.ev e)) λh=>Ry (mx.map (Env.ev e)) λm=>match v with
   |.slice a ln c=>opt (cN P t) λel=>opt (P.info? el) λi=>slc i.size ⟨a,ln,c⟩ l h m λs=>k (.val (.slice s.a s.len s.cap))
   |.string s=>opt (P.underlying t) λd=>match d,m with|.string,none=>tX s l h λr=>k (.val (.string r))|_,_=>dM
   |_=>dM
 |.fieldAddr s x f=>nd (Env.ev e x) λp=>oL p λad=>opt (vX P s f) λfl=>opt (P.info? fl.type) λi=>tW (i.size≠0) (k (.val (.pointer (some (ad.add fl.offset)))))
 |.field s x f=>nd (Env.ev e x) λv=>kC v λcs=>opt (vX P s f) λfl=>opt (P.info? fl.type) λi=>opt (P.underlying fl.type) λ_=>
   tf (fh P fl.type) (k (.val (.agg (cs.extract fl.offset (fl.offset+i.size))))) (opt (cs[fl.offset]?) λc=>k (.val c))
 |.indexAddr t x ix=>nd (Env.ev e x) λv=>nd (Env.ev e ix) λiv=>mz iv λn=>match v with
   |.slice a ln _=>opt (cN P t) λel=>opt (P.info? el) λi=>cq (0<=n/\n<(ln:Int)) (deref a λad=>k (.val (.pointer (some (ad.add (n.toNat*i.size))))))
   |.pointer p=>opt (P.underlying t) λd=>match d with
     |.array ln el=>opt (P.info? el) λi=>cq (0<=n/\n<(ln:Int)) (deref p λad=>k (.val (.pointer (some (ad.add (n.toNat*i.size))))))
     |_=>dM
   |_=>dM
 |.index t x ix=>nd (Env.ev e x) λv=>nd (Env.ev e ix) λiv=>mz iv λn=>match v with
   |.string s=>opt (P.underlying t) λd=>match d with|.string=>cq (0<=n/\n<(s.size:Int)) (k (.val (.int .u8 ((s[n.toNat]?).getD 0).toNat)))|_=>dM
   |_=>dM
 |.lookup t x ix ok=>nd (Env.ev e x) λv=>nd (Env.ev e ix) λkey=>wL v λr=>opt (mapElem P t) λke=>opt (P.underlying ke.1) λkd=>tf (fN kd)
   (opt (cY P 1 ke.2) λl=>opt (one? l) λsh=>opt (zeroOf P ke.2) λz=>gP kd r key sh z λp b=>tf ok (k (.val (.tuple #[dH sh p,.bool b]))) (k (.val (dH sh p)))) dM
 |.mapUpdate t m ky x=>nd (Env.ev e m) λmv=>nd (Env.ev e ky) λkey=>nd (Env.ev e x) λv=>wL mv λr=>opt (mapElem P t) λke=>opt (P.underlying ke.1) λkd=>tf (fN kd)
   (mo kd r key v (k .no)) dM
 |.extract t ix=>afa P o.type (Env.ev e t) ix k
 |.range t x=>nd (Env.ev e x) λv=>tf (wR P t) (RO v λs=>MK s λb=>k (.val (.pointer (some ⟨b,0,none⟩)))) (wL v λr=>opt (mapElem P t) λ_=>jN r λb=>k (.val (.pointer (some ⟨b,0,none⟩))))
 |.next it str=>nd (Env.ev e it) λv=>oL v λad=>tf str (RM ad (k .Db) λi c=>k (.Dc (.int .i64 (i:Nat)) (.int .i32 (c:Nat)))) (nY ad (k .Db) λen=>k (.Dc en.key en.val))
 |.entry it=>nd (Env.ev e it) λv=>oL v λad=>kF ad λen=>k (.D6 en.key en.val)
 |.makeInterface t x=>nd (Env.ev e x) λv=>opt (P.underlying t) λd=>tf (vc d) dM (k (.val (.iface t v)))
 |.typeAssert x _ T ok=>nd (Env.ev e x) λv=>opt (P.underlying T) λd=>tf (vc d) (opt (MO d) λwant=>opt (zeroOf P T) λz=>asI P want v ok λb=>tf ok (k (.val (.tuple #[if b=true then v else z,.bool b]))) (k (.val v)))
   (opt (TD P T) λsh=>opt (zeroOf P T) λz=>
   asT T sh z v ok λp b=>tf ok (k (.val (.tuple #[val sh p,.bool b]))) (k (.val (val sh p))))
 |.call c=>Lm (c.args.toList.map (Env.ev e)) λargs=>match c.callee with
   |.value (.func f)=>opt (xA P o.type) λcM=>tf (fI P f) (aq P f args cM λp=>k (.val (nq cM p))) (RN P f args cM λp=>k (.val (nq cM p)))
   |.value x=>nd (Env.ev e x) λfv=>opt (xA P o.type) λcM=>fH P fv args cM λp=>k (.val (nq cM p))
   |.builtin b=>fJ P b c.argTypes.toList args k
   |.invoke x name=>nd (Env.ev e x) λrv=>opt (xA P o.type) λcM=>XM P rv name args cM λp=>k (.val (nq cM p))
 |_=>dM
def r8:Op->Option (FuncId×Array Operand)
 |.call ⟨.value (.func f),args,_⟩=>some (f,args)
 |_=>none
def vU:Op->Option (Array Operand)
 |.call ⟨.builtin .panic,args,_⟩=>some args
 |.panic x=>some #[x]
 |_=>none
def Ey(l:LV)(f:Value->Pr):Pr:=
 match l with
 |[.iface t v]=>f (.iface t v)
 |_=>dM
theorem AD{l:LV}{f:Value->Pr}{w:World}(h:Ey l f w):∃t v,l=[.iface t v]/\f (.iface t v) w:=by
 unfold Ey at h
 match l,h with
 |[.iface t v],h=>exact⟨t,v,rfl,h⟩
def PW(P:Program)(kp:Option (List PanicEntry->Pr))(o:Oper)(e:Env)(k:EV->Pr):Pr:=
 match kp with
 |none=>cop P o e k
 |
  some q=>
  orElse (r8 o.op) (λx=>Lm (x.2.toList.map (Env.ev e)) λargs=>
   opt (xA P o.type) λcM=>tf (fI P x.1) (ML P q x.1 args cM λp=>k (.val (nq cM p))) (RN P x.1 args cM λp=>k (.val (nq cM p))))
   (orElse (vU o.op) (λargs=>Lm (args.toList.map (Env.ev e)) λargs=>Ey args λv=>q [{v:=v,recovered:=false}])
     (cop P o e k))
def Pd(kp:Option (List PanicEntry->Pr))(ch:List PanicEntry):Pr:=
 match kp with
 |none=>dM
 |some q=>q ch
def wf(r:Option Nat):Fence:={Fence.wide with round:=r}
theorem qH{r:Option Nat}{n:Nat}{P:Program}{f:FuncId}{args:Array Value}{w:World}{R:Ending->World->Prop}:
 CallsIn (wf r) n P f args w R↔Calls P f args w R:=callsIn_wide (n:=n)
def Good(x:EV)(v:Value):Prop:=∀u,x.v? =some u->u=v
theorem Good.val(v:Value):Good (.val v) v:=λu h=>by simpa[EV.v?]using h.symm
def NX(k:EV->Pr):Next->World->Prop
 |.value v,w'=>∃x,Good x v/\k x w'
 |.skip,w'=>k .no w'
 |_,_=>False
section
variable{P:Program}{e:Env}{a:Act}{w:World}{k:EV->Pr}
theorem RT.value{s:Sem Value}(h:RT P s w λv w'=>∃x,Good x v/\k x w'):RT P (do Pure.pure (Next.value (<-s))) w (NX k):=
 .bind (h.mono λ_ _ h=>.pure h)
theorem RT.value'{s:Sem Value}(h:RT P s w λv w'=>k (.val v) w'):RT P (do Pure.pure (Next.value (<-s))) w (NX k):=
 .value (h.mono λv _ h=>⟨_,Good.val v,h⟩)
theorem RT.skip{s:Sem Unit}(h:RT P s w λ_ w'=>k .no w'):RT P (do s;Pure.pure Next.skip) w (NX k):=
 .bind (h.mono λ_ _ h=>.pure h)
theorem fU(he:Ag e a){x:Operand}{f:Value->Pr}(h:nd (Env.ev e x) f w):f (a.eval x) w:=by
 obtain⟨v,hv,h⟩:=B1 h;rw[he.eval hv];exact h
theorem Hq(he:Ag e a){x:Operand}{k:EV->Pr}(h:nd (Env.ev e x) (λ_=>k (Env.ev e x)) w):∃y,Good y (a.eval x)/\k y w:=by
 obtain⟨v,hv,h⟩:=B1 h;exact⟨_,λu hu=>by rw[hv]at hu;simp only[jg]at hu;rw[<-hu,he.eval hv],h⟩
theorem iy(he:Ag e a):∀{l:List Operand} {f:LV->Pr},Lm (l.map (Env.ev e)) f w->f (l.map a.eval) w
 |[],_,h=>h
 |
  x::l,_,h=>by
  have h1:=fU he (x:=x) h;exact iy he (l:=l) h1
theorem mB(he:Ag e a):∀{l:List (Nat×Operand)} {f:List (Nat×Value)->Pr},l5 e l f w->f (l.map λ(i,x)=>(i,a.eval x)) w
 |[],_,h=>h
 |
  (i,x)::l,_,h=>by
  have h1:=fU he (x:=x) h;exact mB he (l:=l) h1
theorem MP(he:Ag e a){c x y:Operand}(h:Mk e c x y k w):
 RT P (do Pure.pure (Next.value (if<-asBool (a.eval c)then a.eval x else a.eval y))) w (NX k):=by
 obtain⟨b,hb,h⟩:=tZ h;rw[he.eval (x:=c) hb];rcases h with⟨rfl,h⟩|⟨rfl,h⟩
 ·exact⟨_,w,rfl,Hq he h⟩
 ·exact⟨_,w,rfl,Hq he h⟩
theorem gw{t:TypeId}{z:Value}(h:zeroOf P t=some z){Q:Value->World->Prop}(hq:Q z w):RT P (zeroValue t) w Q:=by
 unfold zeroOf at h;split at h
 ·rename_i i hi;exact .zeroValue hi h hq
 ·simp at h
theorem cJ{t el:TypeId}(h:cN P t=some el):P.underlying t=some (.slice el):=by
 unfold cN at h;split at h
 ·rename_i e he;simp at h;rw[he,h]
 ·simp at h
theorem fM{t:TypeId}{ke:TypeId×TypeId}(h:mapElem P t=some ke):P.underlying t=some (.map ke.1 ke.2):=by
 unfold mapElem at h;split at h
 ·rename_i e he;simp at h;rw[he,<-h]
 ·simp at h
theorem qm{t:TypeId}{j:Nat}{f:Field}(h:vX P t j=some f):∃fs,P.underlying t=some (.struct fs)/\fs[j]? =some f:=by
 unfold vX at h;split at h
 ·rename_i fs Ez;exact⟨fs,Ez,h⟩
 ·simp at h
theorem zf(off:Nat):∀(vs:LV) (cells:LV) (j:Nat),off+j+vs.length<=cells.length->
 (vs.zipIdx j).foldl (λ(cs:Array Value) (x:Value×Nat)=>cs.setIfInBounds (off+x.2) x.1) cells.toArray=(cells.take (off+j)++vs++cells.drop (off+j+vs.length)).toArray
 |[],cells,j,_=>by simp
 |
  v::vs,cells,j,h=>by
  simp only[List.length_cons]at h;simp only[List.zipIdx_cons,List.foldl_cons,List.setIfInBounds_toArray];rw[zf off vs (cells.set (off+j) v) (j+1) (by simp;omega)]
  congr 1
  have h1:(cells.set (off+j) v).take (off+(j+1))=cells.take (off+j)++[v]:=by
   rw[<-Nat.add_assoc,List.take_add_one];simp[List.take_set_of_le,show off+j<cells.length by omega]
  have h2:(cells.set (off+j) v).drop (off+(j+1)+vs.length)=cells.drop (off+j+(vs.length+1)):=by
   rw[List.drop_set_of_lt (by omega)]
   congr 1;omega
  rw[h1,h2];simp
theorem EA(off:Nat)(vs:Array Value)(cells:LV)(h:off+vs.size<=cells.length):
 vs.zipIdx.foldl (λ(cs:Array Value) (x:Value×Nat)=>cs.setIfInBounds (off+x.2) x.1) cells.toArray=(cells.take off++vs.toList++cells.drop (off+vs.size)).toArray:=by
 rw[<-Array.foldl_toList,Array.toList_zipIdx];have:=zf off vs.toList cells 0 (by simpa using h);simpa using this
theorem ko{place:Nat->Option (Nat×Nat)}:∀{ps:List (Nat×Value)} {cells out:LV},vm place cells ps=some out->Instr.fill place cells.toArray ps=some out.toArray
 |[],_,_,h=>by simp only[vm,jg]at h;rw[h];rfl
 |
  (i,v)::ps,cells,out,h=>by
  simp only[vm]at h;unfold Instr.fill;cases hp:place i with
  |none=>simp[hp]at h
  |
   some os=>
   obtain⟨off,size⟩:=os;simp only[hp]at h⊢;have one:∀v:Value,v.cells= #[v]->(if size=1/\off+1<=cells.length then vm place (cells.set off v) ps else none)=some out->
    (if v.cells.size≠size||off+v.cells.size>cells.toArray.size then none
      else Instr.fill place (v.cells.zipIdx.foldl (λcs (c,j)=>cs.setIfInBounds (off+j) c) cells.toArray) ps)=some out.toArray:=by
    clear h;intro v hv h9;by_cases hc:size=1/\off+1<=cells.length
    ·rw[jd hc]at h9
     rw[hv];obtain⟨rfl,h2⟩:=hc;have hn:¬(off+1>cells.length):=by omega
     have:=ko h9;simp[hn,this]
    ·rw[jc hc]at h9;simp at h9
   cases v with
   |
    agg cs=>
    simp only[Value.cells]at h⊢;by_cases hc:cs.size=size/\off+size<=cells.length
    ·rw[jd hc]at h
     obtain⟨rfl,h2⟩:=hc;have hn:¬(off+cs.size>cells.length):=by omega
     have h3:=ko h;have h4:=EA off cs cells h2;simp only[ne_eq,not_true_eq_false,decide_false,List.size_toArray,hn,Bool.or_self,Bool.false_eq_true,if_false];rw[h4];exact h3
    ·rw[jc hc]at h;simp at h
   |_=>exact one _ rfl h
theorem sx:∀{l:List Field} {pl:List (Nat×Nat)} {Q:List (Nat×Nat)->World->Prop},placesOf P l=some pl->Q pl w->
 RT P (l.mapM λf=>do Pure.pure (f.offset,<-sizeOf f.type)) w Q
 |
  [],pl,Q,h,hq=>by
  simp only[placesOf,jg]at h;simp only[List.mapM_nil];exact .pure (h▸hq)
 |
  f::l,pl,Q,h,hq=>by
  simp only[placesOf]at h;cases hi:P.info? f.type with
  |none=>simp[hi]at h
  |
   some i=>
   cases hr:placesOf P l with
   |none=>simp[hi,hr]at h
   |
    some r=>
    simp only[hi,hr,jg]at h;simp only[List.mapM_cons];refine .bind (.bind (.sizeOf hi (.pure (.bind (sx hr (.pure ?_))))));exact h▸hq
theorem MQ(z:LV)(n m:Nat)(hm:z.length=m):(Array.range (n*m)).map (λi=>z.toArray[i%m]!)=(zc z n).toArray:=by
 subst hm;apply Array.ext';simp only[Array.toList_map,Array.toList_range]
 induction n with
 |zero=>simp[zc]
 |
  succ n ih=>
  unfold zc at ih⊢;rw[Nat.succ_mul,List.range_add,jk,ih,List.replicate_succ',List.flatten_append];simp only[List.flatten_cons,List.flatten_nil,List.append_nil,List.map_map]
  congr 1
  apply List.ext_getElem (by simp);intro i h1 h2;simp only[je,List.length_range]at h1;simp[Nat.mul_add_mod,Nat.mod_eq_of_lt h1,h1,getElem!_pos,Nat.add_mul_mod_self_left,Nat.mul_comm n]
end
section
variable{P:Program}{w:World}
theorem RT.sliceBound{n:Int}{k:IntKind}{y:Nat}{c:BoundsCode}{Q:Nat->World->Prop}(h:0<=n/\n<=(y:Int))(hq:Q n.toNat w):RT P (Instr.sliceBound (.int k n) y c) w Q:=by
 unfold Instr.sliceBound;refine .bind (.pure ?_);simp only[h.1,h.2,and_self,if_true];exact .pure hq
theorem sy{isS:Bool}{len cap:Nat}{lo hi mx:Option Int}{k1 k2 k3:IntKind}{Q:Nat×Nat×Nat->World->Prop}
 (h1:∀m,mx=some m->0<=m/\m<=(cap:Int))(h2:mx.isSome=true->hi.isSome=true)
 (h3:∀h,hi=some h->0<=h/\h<=((mx.map Int.toNat).getD cap:Int))
 (h4:∀l,lo=some l->0<=l/\l<=((hi.map Int.toNat).getD len:Int))
 (hq:Q ((lo.map Int.toNat).getD 0,(hi.map Int.toNat).getD len,(mx.map Int.toNat).getD cap) w):
 RT P (Instr.sliceBounds isS len cap (lo.map (.int k1)) (hi.map (.int k2)) (mx.map (.int k3))) w Q:=by
 unfold Instr.sliceBounds;cases mx with
 |
  none=>
  simp only[Option.map_none,Option.getD_none]at *;refine .bind (.pure ?_);cases hi with
  |
   none=>
   simp only[Option.map_none,Option.getD_none]at *;refine .bind (.pure ?_);cases lo with
   |none=>simp only[Option.map_none,Option.getD_none]at *;exact .bind (.pure (.pure hq))
   |some l=>simp only[Option.map_some,Option.getD_some]at *;exact .bind (.sliceBound (h4 l rfl) (.pure hq))
  |
   some h=>
   simp only[Option.map_some,Option.getD_some]at *;refine .bind (.sliceBound (h3 h rfl) ?_);cases lo with
   |none=>simp only[Option.map_none,Option.getD_none]at *;exact .bind (.pure (.pure hq))
   |some l=>simp only[Option.map_some,Option.getD_some]at *;exact .bind (.sliceBound (h4 l rfl) (.pure hq))
 |
  some m=>
  simp only[Option.map_some,Option.getD_some]at *;refine .bind (.sliceBound (h1 m rfl) ?_);cases hi with
  |none=>simp at h2
  |
   some h=>
   simp only[Option.map_some,Option.getD_some]at *;refine .bind (.sliceBound (h3 h rfl) ?_);cases lo with
   |none=>simp only[Option.map_none,Option.getD_none]at *;exact .bind (.pure (.pure hq))
   |some l=>simp only[Option.map_some,Option.getD_some]at *;exact .bind (.sliceBound (h4 l rfl) (.pure hq))
theorem B3{t el:TypeId}{i:TypeInfo}{s:Sl}{lo hi mx:Option Int}{k1 k2 k3:IntKind}{k:Sl->Pr}{Q:Value->World->Prop}(ht:P.underlying t=some (.slice el))(hi':P.info? el=some i)
 (h:slc i.size s lo hi mx k w)(hq:∀s,k s w->Q (.slice s.a s.len s.cap) w):
 RT P (Instr.sliceAt t (.slice s.a s.len s.cap) (lo.map (.int k1)) (hi.map (.int k2)) (mx.map (.int k3))) w Q:=by
 obtain⟨h1,h2,h3,h4,h5⟩:=h;unfold Instr.sliceAt;refine .bind (.underlying ht ?_);unfold Instr.slice;refine .bind (.underlying ht ?_);simp only;exact .bind (sy h1 h2 h3 h4 (.bind (.sizeOf hi' (.pure (hq _ h5)))))
theorem AE{t:TypeId}{s:ByteArray}{lo hi:Option Int}{k1 k2:IntKind}{k:ByteArray->Pr}{Q:Value->World->Prop}(ht:P.underlying t=some .string)
 (h:tX s lo hi k w)(hq:∀s,k s w->Q (.string s) w):
 RT P (Instr.sliceAt t (.string s) (lo.map (.int k1)) (hi.map (.int k2)) none) w Q:=by
 obtain⟨h3,h4,h5⟩:=h;unfold Instr.sliceAt;refine .bind (.underlying ht ?_);unfold Instr.slice;refine .bind (.underlying ht ?_);simp only[Option.isSome_none,Bool.false_eq_true,if_false];exact .bind (sy (mx:=none) (k3:=.i64) (by simp) (by simp) (by simpa using h3) h4 (.pure (hq _ h5)))
theorem fk{size n:Nat}{a:OA}{l c:Nat}{vs:LV}{Q:Array Value->World->Prop}(hl:a.isSome=true->vs.length=n*size)(hr:cE w a vs)(hq:Q vs.toArray w):
 RT P (Builtin.firstCells size n (.slice a l c)) w Q:=by
 cases a with
 |
  none=>
  obtain rfl:vs=[]:=hr;exact .pure hq
 |some b=>exact .loadCells (hl rfl) hr hq
theorem MR{t el:TypeId}{i:TypeInfo}{ts:Array TypeId}{ty:TypeId}{d s:Sl}{k:Pr}{Q:Value->World->Prop}(h0:ts[0]? =some t)(ht:P.underlying t=some (.slice el))(hi:P.info? el=some i)
 (h:y3 i.size d s k w)(hq:∀w',k w'->Q (.int .i64 (Nat.min s.len d.len:Nat)) w'):
 RT P (Builtin.copy_ ts ty #[.slice d.a d.len d.cap,.slice s.a s.len s.cap]) w Q:=by
 obtain⟨vs,hl,hr,hs⟩:=h;unfold Builtin.copy_;simp only[h0,List.getElem?_toArray,List.getElem?_cons_zero,List.getElem?_cons_succ];refine .bind (.underlying ht ?_);refine .bind (.pure ?_);refine .bind (.sizeOf hi ?_);refine .bind (fk hl hr ?_);cases hd:d.a with
 |
  none=>
  simp only[hd]at hs⊢;exact .pure (hq _ hs)
 |
  some b=>
  rw[hd]at hs;simp only;refine .bind (.storeCells (l:=vs) (i:=0) (a:=b) (f:=k) (by simpa[TE,Addr.add]using hs) λ_ h=>.pure (hq _ h))
theorem kQ(z:LV)(n:Nat):Builtin.zeroCells z.toArray n=(zc z n).toArray:=by
 unfold Builtin.zeroCells;simpa using MQ z n z.length rfl
theorem sH{a:Addr}:∀{l:LV} {i:Nat},dL w a i l->dL w.drew a i l
 |[],_,_=>trivial
 |_::_,_,h=>⟨h.1,sH h.2⟩
theorem l8{a:OA}{l:LV}(h:cE w a l):cE w.drew a l:=by
 cases a with
 |none=>exact h
 |some b=>exact sH h
theorem RT.AF{α:Type}{a b:α}{Q:α->World->Prop}(h:a=b)(hq:Q b w):RT P (Pure.pure a) w Q:=⟨b,w,by rw[h];rfl,hq⟩
theorem EB{t t2 el:TypeId}{d2:TypeDesc}{i:TypeInfo}{z:Value}{ts:Array TypeId}{ty:TypeId}{s x:Sl}{k:Sl->Pr}{Q:Value->World->Prop}(h0:ts[0]? =some t)(h1:ts[1]? =some t2)(h2:P.underlying t2=some d2)
 (h3:kD P t2=false)(ht:P.underlying t=some (.slice el))(hi:P.info? el=some i)(hz:i.zero=some z)(hzs:z.cells.size=i.size)
 (h:app el i.size i.bytes z.cells.toList s x k w)(hq:∀s w',k s w'->Q (.slice s.a s.len s.cap) w'):
 RT P (Builtin.append_ ts ty #[.slice s.a s.len s.cap,.slice x.a x.len x.cap]) w Q:=by
 obtain⟨new,hl,hr,hA,hB⟩:=h;unfold Builtin.append_;simp only[h0,h1,List.getElem?_toArray,List.getElem?_cons_zero,List.getElem?_cons_succ];refine .bind (.underlying ht ?_);refine .bind (.sizeOf hi ?_);refine .bind (.underlying h2 (.bind (RT.AF (b:=false) (by cases d2<;>simp_all[kD]) ?_)));simp only[Bool.false_eq_true,if_false,Bool.not_false,if_true];refine .bind (.pure ?_);by_cases hc:s.len+x.len<=s.cap
 ·rw[jd hc]
  refine .bind (fk hl hr ?_);have hs:=hA hc;cases hd:s.a with
  |
   none=>
   simp only[hd]at hs⊢;have:=hq _ _ hs;exact .pure this
  |
   some b=>
   rw[hd]at hs;simp only;refine .bind (.storeCells (l:=new) (i:=0) hs λ_ h=>?_);have:=hq _ _ h;exact .pure this
 ·rw[jc hc]
  obtain⟨old,LI,RV,hb0,hcap,BX,hk⟩:=hB (by omega);have hn:¬((s.len+x.len:Nat):Int)>IntKind.i64.max:=by
   simp only[IntKind.max,IntKind.signed,IntKind.bits];simp;omega
  refine .bind (.typeInfo hi ?_);rw[jc (λh=>hn h.1)];refine .bind (.typeInfo hi ?_);rw[jc (Nat.not_lt.2 hcap)];refine .bind ⟨_,_,by rw[run_choose];simp only[Question.forced,Bool.false_eq_true,if_false];rfl,?_⟩;simp only[Question.cut];generalize Ar:w.tape w.drawn (Question.appendCap (s.len+x.len) s.cap el)%(2^63-(s.len+x.len))=tk;have XN:tk<2^63-(s.len+x.len):=by rw[<-Ar];exact Nat.mod_lt _ (by omega)
  have hk':=hk (s.len+x.len+tk) (by omega) (by omega);refine .bind (.typeInfo hi (.bind ⟨(),_,run_askRoom _ _ _,?_⟩));refine .bind (fk (w:=w.drew) LI (l8 RV) (.bind (fk (w:=w.drew) hl (l8 hr) (.bind (.zeroValue hi hz ?_)))));have Hr:=kQ z.cells.toList (s.len+x.len+tk-(s.len+x.len));simp only[Array.toArray_toList]at Hr;rw[Hr];refine .bind (.bind (.newObj (.pure (.pure ?_))));have:=hq _ _ hk';simpa using this
theorem nZ{n:Nat}{x:ByteArray}{Q:Array Value->World->Prop}{w:World}(hq:Q (RK x).toArray w):RT P (Builtin.firstCells n x.size (.string x)) w Q:=by
 unfold Builtin.firstCells;refine .pure ?_;have:(x.extract 0 x.size).data.map (λb=>Value.int .u8 b.toNat)=(RK x).toArray:=by
  unfold RK;rw[ByteArray.data_extract];have:x.size=x.data.size:=rfl;rw[this,Array.extract_size];apply Array.ext';simp
 rw[this];exact hq
theorem MT{t t2 el:TypeId}{d2:TypeDesc}{i:TypeInfo}{z:Value}{ts:Array TypeId}{ty:TypeId}{s:Sl}{x:ByteArray}{k:Sl->Pr}{Q:Value->World->Prop}(h0:ts[0]? =some t)(h1:ts[1]? =some t2)(h2:P.underlying t2=some d2)
 (h3:kD P t2=false)(ht:P.underlying t=some (.slice el))(hi:P.info? el=some i)(hz:i.zero=some z)(hzs:z.cells.size=i.size)
 (h:Jv el i.size i.bytes z.cells.toList s x k w)(hq:∀s w',k s w'->Q (.slice s.a s.len s.cap) w'):
 RT P (Builtin.append_ ts ty #[.slice s.a s.len s.cap,.string x]) w Q:=by
 obtain⟨hA,hB⟩:=h;unfold Builtin.append_;simp only[h0,h1,List.getElem?_toArray,List.getElem?_cons_zero,List.getElem?_cons_succ];refine .bind (.underlying ht ?_);refine .bind (.sizeOf hi ?_);refine .bind (.underlying h2 (.bind (RT.AF (b:=false) (by cases d2<;>simp_all[kD]) ?_)));simp only[Bool.false_eq_true,if_false,Bool.not_false,if_true];refine .bind (.pure ?_);by_cases hc:s.len+x.size<=s.cap
 ·rw[jd hc]
  refine .bind (nZ ?_);have hs:=hA hc;cases hd:s.a with
  |
   none=>
   simp only[hd]at hs⊢;have:=hq _ _ hs;exact .pure this
  |
   some b=>
   rw[hd]at hs;simp only;refine .bind (.storeCells (l:=RK x) (i:=0) hs λ_ h=>?_);have:=hq _ _ h;exact .pure this
 ·rw[jc hc]
  obtain⟨old,LI,RV,hb0,hcap,BX,hk⟩:=hB (by omega);have hn:¬((s.len+x.size:Nat):Int)>IntKind.i64.max:=by
   simp only[IntKind.max,IntKind.signed,IntKind.bits];simp;omega
  refine .bind (.typeInfo hi ?_);rw[jc (λh=>hn h.1)];refine .bind (.typeInfo hi ?_);rw[jc (Nat.not_lt.2 hcap)];refine .bind ⟨_,_,by rw[run_choose];simp only[Question.forced,Bool.false_eq_true,if_false];rfl,?_⟩;simp only[Question.cut];generalize Ar:w.tape w.drawn (Question.appendCap (s.len+x.size) s.cap el)%(2^63-(s.len+x.size))=tk;have XN:tk<2^63-(s.len+x.size):=by rw[<-Ar];exact Nat.mod_lt _ (by omega)
  have hk':=hk (s.len+x.size+tk) (by omega) (by omega);refine .bind (.typeInfo hi (.bind ⟨(),_,run_askRoom _ _ _,?_⟩));refine .bind (fk (w:=w.drew) LI (l8 RV) (.bind (nZ (.bind (.zeroValue hi hz ?_)))));have Hr:=kQ z.cells.toList (s.len+x.size+tk-(s.len+x.size));simp only[Array.toArray_toList]at Hr;rw[Hr];refine .bind (.bind (.newObj (.pure (.pure ?_))));have:=hq _ _ hk';simpa using this
theorem MU{t t2 el:TypeId}{kd:IntKind}{i:TypeInfo}{z:Value}{ts:Array TypeId}{ty:TypeId}{s:Sl}{kx:IntKind}{m:Int}{k:Sl->Pr}{Q:Value->World->Prop}(h0:ts[0]? =some t)(h1:ts[1]? =some t2)(h2:P.underlying t2=some (.int kd))
 (ht:P.underlying t=some (.slice el))(hi:P.info? el=some i)(hz:i.zero=some z)(hzs:z.cells.size=i.size)
 (h:AA el i.size i.bytes z.cells.toList s m k w)(hq:∀s w',k s w'->Q (.slice s.a s.len s.cap) w'):
 RT P (Builtin.append_ ts ty #[.slice s.a s.len s.cap,.int kx m]) w Q:=by
 obtain⟨hm0,hmb,hmw,hA,hB⟩:=h;unfold Builtin.append_;simp only[h0,h1,List.getElem?_toArray,List.getElem?_cons_zero,List.getElem?_cons_succ];refine .bind (.underlying ht ?_);refine .bind (.sizeOf hi ?_);refine .bind (.underlying h2 (.bind (RT.AF (b:=true) rfl ?_)));rw[jd rfl];have XO:∀(w:World) (Q:Array Value->World->Prop),Q (zc z.cells.toList m.toNat).toArray w->
  RT P (if(!true)=true then Builtin.firstCells i.size m.toNat (Value.int kx m)else if m.toNat*i.size=0 then Pure.pure #[]else do Pure.pure (Builtin.zeroCells (<-zeroValue el).cells m.toNat)) w Q:=by
  intro w Q h;rw[jc (by simp)];have Hr:=kQ z.cells.toList m.toNat;simp only[Array.toArray_toList]at Hr;by_cases h9:m.toNat*i.size=0
  ·rw[jd h9]
   have:zc z.cells.toList m.toNat=[]:=by
    apply jy;simp[zc,hzs,h9]
   rw[this]at h;exact .pure h
  ·rw[jc h9]
   refine .bind (.zeroValue hi hz (.pure ?_));rw[Hr];exact h
 refine RT.bind (RT.pure ?_);rw[hmw,jc (by omega)];refine .bind (.typeInfo hi ?_);rw[jc (by omega)];refine RT.bind (RT.pure ?_);by_cases hc:s.len+m.toNat<=s.cap
 ·rw[jd hc]
  refine .bind (XO _ _ ?_);have hs:=hA hc;cases hd:s.a with
  |
   none=>
   simp only[hd]at hs⊢;have:=hq _ _ hs;exact .pure this
  |
   some b=>
   rw[hd]at hs;simp only;refine .bind (.storeCells (l:=zc z.cells.toList m.toNat) (i:=0) hs λ_ h=>?_);have:=hq _ _ h;exact .pure this
 ·rw[jc hc]
  obtain⟨old,LI,RV,hcap,BX,hk⟩:=hB (by omega);have hn:¬((s.len+m.toNat:Nat):Int)>IntKind.i64.max:=by
   simp only[IntKind.max,IntKind.signed,IntKind.bits];simp;omega
  refine .bind (.typeInfo hi ?_);rw[jc (λh=>hn h.1)];refine .bind (.typeInfo hi ?_);rw[jc (Nat.not_lt.2 hcap)];refine .bind ⟨_,_,by rw[run_choose];simp only[Question.forced,Bool.false_eq_true,if_false];rfl,?_⟩;simp only[Question.cut];generalize Ar:w.tape w.drawn (Question.appendCap (s.len+m.toNat) s.cap el)%(2^63-(s.len+m.toNat))=tk;have XN:tk<2^63-(s.len+m.toNat):=by rw[<-Ar];exact Nat.mod_lt _ (by omega)
  have hk':=hk (s.len+m.toNat+tk) (by omega) (by omega);refine .bind (.typeInfo hi (.bind ⟨(),_,run_askRoom _ _ _,?_⟩));refine .bind (fk (w:=w.drew) LI (l8 RV) (.bind (XO _ _ (.bind (.zeroValue hi hz ?_)))));have Hr:=kQ z.cells.toList (s.len+m.toNat+tk-(s.len+m.toNat));simp only[Array.toArray_toList]at Hr;rw[Hr];refine .bind (.bind (.newObj (.pure (.pure ?_))));have:=hq _ _ hk';simpa using this
end
section
variable{P:Program}{w:World}
theorem Qa{t el:TypeId}{i:TypeInfo}{z:Value}{l c:Int}{k1 k2:IntKind}{k:Sl->Pr}{Q:Value->World->Prop}(ht:P.underlying t=some (.slice el))(hi:P.info? el=some i)
 (hz:i.zero=some z)(hzs:z.cells.size=i.size)(hz0:i.size≠0)
 (h:Ba el i.bytes z.cells.toList l c k w)(hq:∀s w',k s w'->Q (.slice s.a s.len s.cap) w'):
 RT P (Instr.makeSlice t (.int k1 l) (.int k2 c)) w Q:=by
 obtain⟨h1,h2,h3,h4,h5⟩:=h;have jU:IntKind.i64.wrap l=l:=by simp[IntKind.wrap,IntKind.signed,IntKind.bits,Int.bmod_eq_of_le];omega
 have XP:IntKind.i64.wrap c=c:=by simp[IntKind.wrap,IntKind.signed,IntKind.bits,Int.bmod_eq_of_le];omega
 unfold Instr.makeSlice;refine .bind (.underlying ht ?_);simp only[asInt,asIntOf,pure_bind];refine .bind (.typeInfo hi ?_);rw[jU,XP];have hc:¬((decide (c<0\/(i.bytes:Int)*c>2^48)=true\/l<0)\/l>c):=by
  simp;omega
 simp only[Bool.or_eq_true,jb];rw[jc (by simpa using hc)];refine .bind ⟨(),_,run_askRoom _ _ _,.bind (.sizeOf hi ?_)⟩;by_cases h0:c.toNat*i.size=0
 ·rw[jd h0]
  have hc0:c.toNat=0:=(Nat.mul_eq_zero.1 h0).resolve_right hz0;have he:(zc z.cells.toList c.toNat).toArray= #[]:=by simp[hc0,zc]
  rw[he]at h5;have e0:∀g:Nat->Value,Array.map g (Array.range 0)= #[]:=λ_=>by simp
  rw[h0,e0];exact .bind (.bind (.newObj (.pure (.pure (hq _ _ h5)))))
 ·rw[jc h0]
  have he:=MQ z.cells.toList c.toNat i.size (by simpa using hzs);simp only[Array.toArray_toList]at he;rw[<-he]at h5;refine .bind (.zeroValue hi hz ?_);rw[hzs];exact .bind (.bind (.newObj (.pure (.pure (hq _ _ h5)))))
theorem RT.getObj{r:Nat}{o:Obj}{Q:Obj->World->Prop}(h:w.heap[r]? =some o)(hc:∀c e f,o≠.cells c e f)(hq:Q o w):RT P (Go.getObj r) w Q:=by
 refine⟨o,w,?_,hq⟩;simp only[Go.getObj,Sem.run,h]
 try(cases o<;>first|rfl|exact absurd rfl (hc _ _ _))
theorem RT.setObj{r:Nat}{o o':Obj}{Q:Unit->World->Prop}(h:w.heap[r]? =some o)(hc:∀c e f,o≠.cells c e f)(hq:Q () {w with heap:=w.heap.setIfInBounds r o'}):RT P (Go.setObj r o') w Q:=by
 refine⟨(),_,?_,hq⟩;simp only[Go.setObj,Sem.run,h]
 try(cases o<;>first|rfl|exact absurd rfl (hc _ _ _))
theorem RT.checkKey{emp:Bool}{n:Nat}{t:TypeId}{d:TypeDesc}{key:Value}{Q:Unit->World->Prop}(ht:P.underlying t=some d)(hs:fN d=true)(hq:Q () w):RT P (Instr.checkKey emp (n+1) t key) w Q:=by
 unfold Instr.checkKey;refine .bind (.underlying ht ?_);cases d<;>simp only[fN,Bool.false_eq_true]at hs<;>exact .pure hq
theorem RT.findKey{t:TypeId}{d:TypeDesc}{key:Value}{es:List MapEntry}{res:Option (Nat×Value)}{Q:Option (Nat×Value)->World->Prop}(ht:P.underlying t=some d)
 (hf:Instr.findNow d key es 0=some res)(hq:Q res w):RT P (Instr.findKey t key es) w Q:=by
 unfold Instr.findKey;refine .bind (.underlying ht ?_);rw[hf];exact .pure hq
theorem EC{t:TypeId}{ke:TypeId×TypeId}{kd:TypeDesc}{r:Option Nat}{key zero:Value}{sh:CS}{ok:Bool}{k:dZ sh->Bool->Pr}{Q:Value->World->Prop}
 (ht:P.underlying t=some (.map ke.1 ke.2))(hk:P.underlying ke.1=some kd)(hs:fN kd=true)(hz:zeroOf P ke.2=some zero)(h:gP kd r key sh zero k w)
 (hq:∀p b,k p b w->Q (if ok then .tuple #[dH sh p,.bool b]else dH sh p) w):RT P (Instr.lookup t (.map r) key ok) w Q:=by
 obtain⟨es,res,p,hm,hf,hv,hkk⟩:=h;unfold Instr.lookup;refine .bind (.underlying ht ?_);dsimp only;cases r with
 |
  none=>
  obtain rfl:es= #[]:=hm;refine .bind (.pure ?_);refine .bind (.checkKey hk hs ?_);refine .bind (.findKey hk hf ?_);cases res with
  |
   none=>
   simp only[Option.map_none,Option.getD_none]at hv;refine .bind (gw hz (.bind (.pure ?_)));rw[hv];exact .pure (hq p false (by simpa using hkk))
  |
   some iv=>
   simp only[Option.map_some,Option.getD_some]at hv;refine .bind (.pure ?_);simp only[hv];exact .pure (hq p true (by simpa using hkk))
 |
  some b=>
  obtain⟨clock,hb⟩:=hm;refine .bind (.getObj hb (by simp) (.bind (.pure ?_)));refine .bind (.checkKey hk hs ?_);refine .bind (.findKey hk hf ?_);cases res with
  |
   none=>
   simp only[Option.map_none,Option.getD_none]at hv;refine .bind (gw hz (.bind (.pure ?_)));rw[hv];exact .pure (hq p false (by simpa using hkk))
  |
   some iv=>
   simp only[Option.map_some,Option.getD_some]at hv;refine .bind (.pure ?_);simp only[hv];exact .pure (hq p true (by simpa using hkk))
theorem ED{t:TypeId}{ke:TypeId×TypeId}{kd:TypeDesc}{r:Option Nat}{key v:Value}{k:Pr}{Q:Unit->World->Prop}
 (ht:P.underlying t=some (.map ke.1 ke.2))(hk:P.underlying ke.1=some kd)(hs:fN kd=true)(h:mo kd r key v k w)
 (hq:∀w',k w'->Q () w'):RT P (Instr.mapUpdate t (.map r) key v) w Q:=by
 obtain⟨b,es,clock,res,rfl,hb,hf,h⟩:=h;unfold Instr.mapUpdate;refine .bind (.underlying ht ?_);refine .bind (.getObj hb (by simp) ?_);refine .bind (.checkKey hk hs ?_);refine .bind (.findKey hk hf ?_);cases res with
 |none=>exact .setObj hb (by simp) (hq _ h)
 |
  some iv=>
  obtain⟨h1,h2⟩:=h;refine .bind ?_;unfold Instr.keyThatStays;rw[jd h1];exact .pure (.setObj hb (by simp) (hq _ h2))
theorem EE{t:TypeId}{ke:TypeId×TypeId}{kd:TypeDesc}{ts:Array TypeId}{ty:TypeId}{r:Option Nat}{key:Value}{k:Pr}{Q:Value->World->Prop}(h0:ts[0]? =some t)
 (ht:P.underlying t=some (.map ke.1 ke.2))(hk:P.underlying ke.1=some kd)(hs:fN kd=true)(h:oW kd r key k w)
 (hq:∀w',k w'->Q (.tuple #[]) w'):RT P (Builtin.delete_ ts ty #[.map r,key]) w Q:=by
 obtain⟨b,es,clock,res,rfl,hb,hf,h⟩:=h;unfold Builtin.delete_;simp only[h0,List.getElem?_toArray,List.getElem?_cons_zero,List.getElem?_cons_succ];refine .bind (.underlying ht ?_);refine .bind (.getObj hb (by simp) ?_);refine .bind (.checkKey hk hs ?_);refine .bind (.findKey hk hf ?_);cases res with
 |none=>exact .bind (.setObj hb (by simp) (.pure (hq _ h)))
 |some iv=>exact .bind (.setObj hb (by simp) (.pure (hq _ h)))
theorem EF{t:TypeId}{ke:TypeId×TypeId}{ts:Array TypeId}{ty:TypeId}{r:Option Nat}{k:Int->Pr}{Q:Value->World->Prop}(h0:ts[0]? =some t)
 (ht:P.underlying t=some (.map ke.1 ke.2))(h:oN r k w)
 (hq:∀n,k n w->Q (.int .i64 n) w):RT P (Builtin.len_ ts ty #[.map r]) w Q:=by
 obtain⟨es,hm,h⟩:=h;unfold Builtin.len_;simp only[h0,List.getElem?_toArray,List.getElem?_cons_zero];refine .bind (.underlying ht ?_);cases r with
 |
  none=>
  obtain rfl:es= #[]:=hm;exact .pure (hq _ h)
 |
  some b=>
  obtain⟨clock,hb⟩:=hm;exact .bind (.getObj hb (by simp) (.pure (hq _ h)))
theorem MV(l:List Int):∀(s:ByteArray),
 RT P (forIn (m:=Sem) (l.map (Value.int .u8)).toArray s λc r=>do
  let .int .u8 n:=c|stuck "bytesToString: byte expected"
  Pure.pure (ForInStep.yield (r.push (UInt8.ofNat n.toNat)))) w (λr w'=>w'=w/\r=⟨s.data++(l.map λn=>UInt8.ofNat n.toNat).toArray⟩):=by
 induction l with
 |nil=>intro s;simp;exact .pure ⟨rfl,by simp⟩
 |
  cons n l ih=>
  intro s;simp only[List.map_cons,List.forIn_toArray,List.forIn_cons]at ih⊢;refine .bind (.pure ?_);refine(ih _).mono ?_;rintro r w' ⟨rfl,rfl⟩;refine⟨rfl,?_⟩;simp[ByteArray.push]
theorem Hs{a:OA}{l c:Nat}{k:ByteArray->Pr}{Q:Value->World->Prop}(h:Af ⟨a,l,c⟩ k w)(hq:∀s,k s w->Q (.string s) w):
 RT P (Conv.bytesToString (.slice a l c)) w Q:=by
 obtain⟨ns,hl,hr,hk⟩:=h;unfold Conv.bytesToString;cases a with
 |
  none=>
  have:ns.map (Value.int .u8)=[]:=hr;obtain rfl:ns=[]:=by simpa using this
  exact .pure (hq _ hk)
 |
  some b=>
  have hl':ns.length=l:=hl rfl;refine .bind (.loadCells (l:=ns.map (.int .u8)) (by simpa using hl') hr ?_);refine .bind ((MV ns ByteArray.empty).mono ?_);rintro r w' ⟨rfl,rfl⟩;refine .pure (hq _ ?_);have he:ByteArray.empty.data= #[]:=rfl;rw[he,Array.empty_append];exact hk
theorem EG{t:TypeId}{d:TypeDesc}{x y:Value}{r:Prop×Bool}(hd:P.underlying t=some d)(h:Ex d x y=some r)(h1:r.1):(Op.equal t x y).run P w=.ok r.2 w:=by
 unfold Op.equal;change(Op.equalIn (9999+1) t x y).run P w=_;have key:RT P (Op.equalIn (9999+1) t x y) w (λb w'=>b=r.2/\w'=w):=by
  unfold Op.equalIn;refine .bind (.underlying hd ?_);unfold Ex at h;split at h<;>first
   |(simp at h;done)
   |(
    simp only[jg]at h
    subst h
    first
     |exact .pure ⟨rfl,rfl⟩
     |(rename_i p;cases p<;>exact .pure ⟨rfl,rfl⟩)
     |(rename_i a _ _ _ _;cases a<;>exact .pure ⟨rfl,rfl⟩)
     |(
      rcases h1 with h1|h1
      ·cases x<;>first|exact(h1:False).elim|exact .pure ⟨rfl,rfl⟩
      ·subst h1;exact .pure ⟨rfl,rfl⟩))
 obtain⟨v,w',h3,rfl,rfl⟩:=key;exact h3
theorem Qb{t:TypeId}{x y:Value}{f:Bool->Pr}{Q:Bool->World->Prop}(h:To P t x y f w)(hq:∀b,f b w->Q b w):RT P (Op.equal t x y) w Q:=by
 obtain⟨d,hd,h⟩:=av h;obtain⟨r,hr,h1,h2⟩:=av h;exact⟨_,w,EG hd hr h1,hq _ h2⟩
end
section
variable{P:Program}{e:Env}{a:Act}{w:World}{k:EV->Pr}
theorem Qc{op:UnOp}{x:EV}(h:PM op x k w):∃v u,x.v? =some v/\(Op.unary op v).run P w=.ok u w/\∃y,Good y u/\k y w:=by
 unfold PM at h;split at h
 ·exact⟨_,_,rfl,rfl,_,λu hu=>by simp[EV.v?]at hu;exact hu.symm,h⟩
 ·exact⟨_,_,rfl,rfl,_,Good.val _,h⟩
 ·exact⟨_,_,rfl,rfl,_,Good.val _,h⟩
 ·exact⟨_,_,rfl,rfl,_,Good.val _,h⟩
 ·exact h.elim
theorem Jw{s d:TypeId}{x:Value}(h:u9 P s d x k w):RT P (convert s d x) w λv w'=>k (.val v) w':=by
 obtain⟨sd,hs,h⟩:=av h;obtain⟨dd,hd,h9⟩:=av h;clear h;have h:=h9;clear h9;split at h
 ·unfold convert
  refine .bind (.underlying hs (.bind (.underlying hd ?_)));exact⟨_,w,rfl,h⟩
 ·unfold convert
  refine .bind (.underlying hs (.bind (.underlying hd ?_)));exact .pure h
 ·rename_i e0 e a0 l0 c0
  rcases aW h with⟨he,h⟩|⟨_,h⟩
  rotate_left
  ·exact h.elim
  obtain⟨u,hu,h9⟩:=av h;clear h;have h:=h9;clear h9;split at h
  ·obtain⟨ad,rfl,E,n,Wc,h⟩:=gu.1 h
   unfold convert;refine .bind (.underlying hs (.bind (.underlying hd ?_)));refine .bind (.underlying hu ?_);rw[he];refine .bind ⟨(),_,?_,.pure h⟩;simp[markStringish,Wc,go_sem]
  ·exact h.elim
 ·rename_i e s0 _
  obtain⟨u,hu,h9⟩:=av h;clear h;have h:=h9;clear h9;split at h
  ·have hr:=Lib.run_convert_string_bytes (P:=P) w _ _ e s0 hs hd hu
   obtain⟨hlt,h⟩:=h;have hc:s0.size<=grownCap w s0.size 0 e/\grownCap w s0.size 0 e<2^63:=by
    unfold grownCap Question.cut;have:=Nat.mod_lt (w.tape w.drawn (.appendCap s0.size 0 e)) (show 0<2^63-s0.size by omega);constructor
    ·exact Nat.le_add_right _ _
    ·show s0.size+_%_<_
     omega
   exact⟨_,_,hr,h _ hc.1 hc.2⟩
  ·exact h.elim
 ·unfold convert
  refine .bind (.underlying hs (.bind (.underlying hd ?_)));obtain⟨u,hu,h9⟩:=av h;clear h;have h:=h9;clear h9;split at h
  ·rename_i a _ _ _ _
   cases a with
   |none=>exact .bind (.underlying hu (Hs h λ_ h=>h))
   |some b=>exact .bind (.underlying hu (Hs h λ_ h=>h))
  ·exact h.elim
 ·exact h.elim
theorem Qd{l:LV}{f:Value->Pr}{ts:Array TypeId}{ty:TypeId}(h:yI l f w):RT P (Builtin.min_ ts ty l.toArray) w λv w'=>f v w':=by
 unfold yI at h;split at h
 ·exact⟨_,w,rfl,h⟩
 ·exact⟨_,w,rfl,h⟩
 ·exact h.elim
theorem Qe{l:LV}{f:Value->Pr}{ts:Array TypeId}{ty:TypeId}(h:yJ l f w):RT P (Builtin.max_ ts ty l.toArray) w λv w'=>f v w':=by
 unfold yJ at h;split at h
 ·exact⟨_,w,rfl,h⟩
 ·exact⟨_,w,rfl,h⟩
 ·exact h.elim
theorem ve{b:Builtin}{ts:Array TypeId}{ty:TypeId}{cs:Array Bool}{args:LV}(h:fJ P b ts.toList args k w):
 RT P (builtin b ts ty cs args.toArray) w (NX k):=by
 unfold fJ at h;split at h
 ·obtain⟨t,ht,h⟩:=av h
  obtain⟨el,hel,h⟩:=av h;refine RT.value' ?_;unfold Builtin.len_;simp only[show ts[0]? =some t by simpa using ht,List.getElem?_toArray,List.getElem?_cons_zero];exact .bind (.underlying (cJ hel) (.pure h))
 ·obtain⟨t,ht,h⟩:=av h
  obtain⟨d,hd,h9⟩:=av h;clear h;refine RT.value' ?_;unfold Builtin.len_;simp only[show ts[0]? =some t by simpa using ht,List.getElem?_toArray,List.getElem?_cons_zero];refine .bind (.underlying hd ?_);cases d<;>first|exact h9.elim|exact .pure h9
 ·obtain⟨t,ht,h⟩:=av h
  obtain⟨el,hel,h⟩:=av h;exact RT.value' (EF (by simpa using ht) (fM hel) h λ_ h=>h)
 ·obtain⟨t,ht,h⟩:=av h
  obtain⟨el,hel,h⟩:=av h;refine RT.value' ?_;unfold Builtin.cap_;simp only[show ts[0]? =some t by simpa using ht,List.getElem?_toArray,List.getElem?_cons_zero];exact .bind (.underlying (cJ hel) (.pure h))
 ·exact RT.value' (Qd h)
 ·exact RT.value' (Qe h)
 ·rename_i da dl dc sa sl sc
  obtain⟨t,ht,h⟩:=av h;obtain⟨el,hel,h⟩:=av h;obtain⟨i,hi,h⟩:=av h;exact RT.value' (MR (d:=⟨da,dl,dc⟩) (s:=⟨sa,sl,sc⟩) (by simpa using ht) (cJ hel) hi h λ_ h=>h)
 ·rename_i da dl dc sa sl sc
  obtain⟨t,ht,h⟩:=av h;obtain⟨t2,ht2,h⟩:=av h;rcases aW h with⟨_,h⟩|⟨hint,h⟩
  ·exact h.elim
  obtain⟨d2,A8,h⟩:=av h;obtain⟨el,hel,h⟩:=av h;obtain⟨i,hi,h⟩:=av h;obtain⟨z,hz,h⟩:=av h;obtain⟨hzs,h⟩:=eH h;exact RT.value' (EB (s:=⟨da,dl,dc⟩) (x:=⟨sa,sl,sc⟩) (by simpa using ht) (by simpa using ht2) A8 hint (cJ hel) hi hz hzs h λ_ _ h=>h)
 ·rename_i da dl dc x0
  obtain⟨t,ht,h⟩:=av h;obtain⟨t2,ht2,h⟩:=av h;rcases aW h with⟨_,h⟩|⟨hint,h⟩
  ·exact h.elim
  obtain⟨d2,A8,h⟩:=av h;obtain⟨el,hel,h⟩:=av h;obtain⟨i,hi,h⟩:=av h;obtain⟨z,hz,h⟩:=av h;obtain⟨hzs,h⟩:=eH h;exact RT.value' (MT (s:=⟨da,dl,dc⟩) (x:=x0) (by simpa using ht) (by simpa using ht2) A8 hint (cJ hel) hi hz hzs h λ_ _ h=>h)
 ·rename_i da dl dc kx m
  obtain⟨t,ht,h⟩:=av h;obtain⟨t2,ht2,h⟩:=av h;rcases aW h with⟨hint,h⟩|⟨_,h⟩
  rotate_left
  ·exact h.elim
  obtain⟨el,hel,h⟩:=av h;obtain⟨i,hi,h⟩:=av h;obtain⟨z,hz,h⟩:=av h;obtain⟨hzs,h⟩:=eH h;obtain⟨kd,TF⟩:∃kd,P.underlying t2=some (.int kd):=by
   unfold kD at hint;split at hint
   ·rename_i kd heq;exact⟨kd,heq⟩
   ·cases hint
  exact RT.value' (MU (s:=⟨da,dl,dc⟩) (by simpa using ht) (by simpa using ht2) TF (cJ hel) hi hz hzs h λ_ _ h=>h)
 ·obtain⟨t,ht,h⟩:=av h
  obtain⟨ke,LD,h⟩:=av h;obtain⟨kd,TF,h⟩:=av h;rcases aW h with⟨hs,h⟩|⟨_,h⟩
  ·exact RT.value' (EE (by simpa using ht) (fM LD) TF hs h λ_ h=>h)
  ·exact h.elim
 ·exact h.elim
theorem uk(he:Ag e a){x:Option Operand}{f:Option Int->Pr}(h:Ry (x.map (Env.ev e)) f w):∃(n:Option Int) (kd:IntKind),x.map a.eval=n.map (.int kd)/\f n w:=by
 cases x with
 |none=>exact⟨none,.i64,rfl,h⟩
 |
  some x=>
  have h1:=fU he (x:=x) h;obtain⟨kd,n,hn,h2⟩:=iX h1;exact⟨some n,kd,by simp[hn],h2⟩
theorem xB{f:FuncId}(h:fI P f=true):∃fn,P.funcs[f]? =some fn/\fn.body.isNone=false/\(fn.name== "runtime.NumGoroutine")=false:=by
 unfold fI at h;split at h
 ·rename_i fn hfn
  simp only[kf,Bool.not_eq_true']at h;exact⟨fn,hfn,by cases hb:fn.body<;>simp_all,h.2⟩
 ·simp at h
theorem gv{f:FuncId}{args:Array Value}(h:fI P f=true):(callFunc f args).run P w=.ok (.enter f args) w:=by
 obtain⟨fn,h1,h2,h3⟩:=xB h;unfold callFunc;simp only[Sem.run_bind,run_program,Result.andThen_ok,h1,h2,h3,Bool.false_eq_true,if_false,Sem.run_pure]
theorem upon_enter{r:Option Nat}{n:Nat}{o:Oper}{next:Act->World->Prop}{Q:Exit->Act->World->Prop}{f:FuncId}{args:Array Value}{cM:List Sh}{kk:eD cM->Pr}
 (h:Calls P f args w (au cM kk))(hk:∀p w',kk p w'->next (a.put o.dst (nq cM p)) w'):o.uponIn (wf r) n P a next Q (.ok (.enter f args) w):=by
 rw[Oper.uponIn_enter];refine⟨λh=>by simp[wf,Fence.wide]at h,qH.2 (h.mono ?_)⟩;rintro e w' ⟨p,rfl,hp⟩;exact hk p w' hp
theorem EH{r:Option Nat}{n m:Nat}{P:Program}{l:Nat}{f:FuncId}{tmps:Array Value}{assign body:Code}{w:World}{R:Ending->World->Prop}:
 RoundIn Fence.wide m P l f tmps assign body w R->RoundIn (wf r) n P l f tmps assign body w R:=by
 rintro⟨h1,h2⟩;exact⟨trivial,λc cs _=>h2 c cs (room_wide _)⟩
theorem EI{r:Option Nat}{n:Nat}{o:Oper}{next:Act->World->Prop}{Q:Exit->Act->World->Prop}{l:Nat}{f:FuncId}{tmps:Array Value}{assign body:Code}{cM:List Sh}{kk:eD cM->Pr}{m:Nat}
 (h:RoundIn Fence.wide m P l f tmps assign body w (au cM kk))(hk:∀p w',kk p w'->next (a.put o.dst (nq cM p)) w'):o.uponIn (wf r) n P a next Q (.ok (.round l f tmps assign body) w):=by
 rw[Oper.uponIn_round];refine⟨λh=>by simp[wf,Fence.wide]at h,(EH h).mono ?_⟩;rintro e w' ⟨p,rfl,hp⟩;exact hk p w' hp
theorem Ht{r:Option Nat}{n:Nat}{o:Oper}{next:Act->World->Prop}{Q:Exit->Act->World->Prop}{s:Sem Next}(h:RT P s w (NX k))
 (hk:∀x v w',Good x v->k x w'->next (a.put o.dst v) w'):o.uponIn (wf r) n P a next Q (s.run P w):=by
 obtain⟨nx,w',h1,h2⟩:=h;rw[h1];cases nx<;>simp only[NX]at h2<;>try exact h2.elim
 ·obtain⟨x,hx,h2⟩:=h2
  exact hk x _ _ hx h2
 ·exact hk .no _ _ (by intro u hu;simp[EV.v?]at hu) h2
end
section
variable{P:Program}{e:Env}{a:Act}{w:World}{k:EV->Pr}
theorem EJ{d:TypeDesc}{u v:Value}{r:Prop×Bool}(h:Ex d u v=some r):(∀xs ys,¬(u=.agg xs/\v=.agg ys))/\¬(u=.nilIface/\v=.nilIface):=by
 refine⟨λxs ys=>?_,?_⟩<;>rintro⟨rfl,rfl⟩<;>cases d<;>simp[Ex]at h
theorem MW{d:TypeDesc}{t:TypeId}{u v:Value}{r:Prop×Bool}(neg:Bool)(h:Ex d u v=some r)(h1:r.1):
 binOp (if neg then .neq else .eql) t u v=(Op.equal t u v>>=λb=>Pure.pure (.bool (if neg then !b else b))):=by
 unfold Ex at h;split at h<;>first
  |(simp at h;done)
  |(cases neg<;>rfl)
  |(
   simp only[jg]at h
   subst h;rcases h1 with h1|h1
   ·cases u<;>first|exact(h1:False).elim|(cases neg<;>rfl)
   ·subst h1;cases neg<;>rfl)
theorem Qf{t:TypeId}{x y:Operand}{u v:Value}(neg:Bool)
 (h:To P t u v (λb=>k (.val (.bool (if neg then !b else b)))) w):
 RT P (do eqGuard (if neg then .neq else .eql) t x y u v;binOp (if neg then .neq else .eql) t u v) w λv w'=>k (.val v) w':=by
 obtain⟨d,hd,h2⟩:=av h;obtain⟨r,hr,h3,h4⟩:=av h2;obtain⟨g1,g2⟩:=EJ hr;refine .bind ⟨(),w,?_,?_⟩
 ·unfold eqGuard
  cases neg<;>simp only[Bool.false_eq_true,if_false,if_true]
  all_goals
   split
   ·rfl
   ·split
    ·exact absurd ⟨rfl,rfl⟩ g2
    ·exact absurd ⟨rfl,rfl⟩ (g1 _ _)
    ·rfl
 ·rw[MW neg hr h3]
  exact .bind (Qb h λb h=>.pure h)
theorem Jy(n:Nat){d:TypeDesc}{ty:TypeId}{u v:Value}{b:Bool}(hd:P.underlying ty=some d)(h:XK d u v=some b):(Op.equalIn (n+1) ty u v).run P w=.ok b w:=by
 unfold XK at h;split at h
 ·simp only[jg]at h;subst h
  exact run_equalIn_bool w n ty _ _ hd
 ·split at h
  ·rename_i hk
   simp only[jg]at h;subst h;subst hk;exact run_equalIn_int w n ty _ _ _ _ hd
  ·cases h
 ·simp only[jg]at h;subst h
  rw[run_equalIn_string w n ty _ _ hd]
 ·cases h
theorem Qg{d:TypeDesc}{ty:TypeId}{u v:Value}{b:Bool}(hd:P.underlying ty=some d)(h:XK d u v=some b):fh P ty=false:=by
 unfold fh;rw[hd];unfold XK at h;split at h<;>first|rfl|cases h
def EqAt(P:Program)(w:World)(n:Nat)(t:TypeId)(xs ys:Array Value)(off:Nat)(b:Bool):Prop:=
 ∃u v,(part t xs off).run P w=.ok u w/\(part t ys off).run P w=.ok v w/\(Op.equalIn n t u v).run P w=.ok b w
theorem um{g:TypeId->LV->LV->Option Bool}{n:Nat}(xs ys:Array Value)(hg:∀t off b,g t (xs.toList.drop off) (ys.toList.drop off)=some b->EqAt P w n t xs ys off b):
 ∀{fs:List Field} {b:Bool},Wb g xs.toList ys.toList fs=some b->(Op.eqFields n xs ys fs).run P w=.ok b w
 |
  [],b,h=>by
  simp only[Wb,jg]at h;subst h;simp[Op.eqFields]
 |
  f::fs,b,h=>by
  simp only[Wb]at h;split at h
  ·rename_i b1 c hn h1 h2
   simp only[jg]at h;have hname:f.name≠ "_":=by simpa[RU]using hn
   obtain⟨u,v,hu,hv,he⟩:=hg _ _ _ h1;have hr:=um xs ys hg h2;simp only[Op.eqFields,hname,ne_eq,not_false_eq_true,if_true,Sem.run_bind,hu,hv,he,Result.andThen_ok];cases b1
   ·simp only[Bool.false_and]at h;subst h;simp
   ·simp only[Bool.true_and]at h;subst h;simpa using hr
  ·cases h
theorem sI(n:Nat){t:TypeId}{xs ys:Array Value}{off:Nat}{b:Bool}(h:AB P t (xs.toList.drop off) (ys.toList.drop off)=some b):EqAt P w (n+1) t xs ys off b:=by
 unfold AB at h;split at h
 ·rename_i d u v hd hu hv
  have lS:=Qg (P:=P) hd h;have hpart:∀(zs:Array Value) (z:Value),(zs.toList.drop off).head? =some z->(part t zs off).run P w=.ok z w:=by
   intro zs z hz;have O9:zs[off]? =some z:=by rw[<-hz,List.head?_drop];simp
   have h5:RT P (part t zs off) w (λv w'=>v=z/\w'=w):=by
    unfold Go.part;refine .bind (.xz (mS hd) ?_);rw[lS,jc Bool.false_ne_true,O9];exact .pure ⟨rfl,rfl⟩
   obtain⟨_,_,h6,rfl,rfl⟩:=h5;exact h6
  exact⟨u,v,hpart xs u hu,hpart ys v hv,Jy n hd h⟩
 ·cases h
theorem AG{t:TypeId}{fs:Array Field}(h:nv P t=some fs):P.underlying t=some (.struct fs):=by
 unfold nv at h;split at h
 ·simp only[jg]at h;subst h;assumption
 ·cases h
theorem zg:∀(m k:Nat) {t:TypeId} {xs ys:Array Value} {off:Nat} {b:Bool},XL P m t (xs.toList.drop off) (ys.toList.drop off)=some b->EqAt P w (k+m+1) t xs ys off b
 |0,k,t,xs,ys,off,b,h=>sI k h
 |
  m+1,k,t,xs,ys,off,b,h=>by
  unfold XL at h;split at h
  ·rename_i fs i hs hi hst
   have hu:=AG hs;have Ez:P.fieldsOf t=fs:=by simp[Program.fieldsOf,hu]
   have lS:fh P t=true:=by unfold fh;rw[hu]
   have hpart:∀(zs:Array Value),(part t zs off).run P w=.ok (.agg (zs.extract off (off+i.size))) w:=by
    intro zs;have h5:RT P (part t zs off) w (λv w'=>v=.agg (zs.extract off (off+i.size))/\w'=w):=by
     unfold Go.part;refine .bind (.xz (mS hu) ?_);rw[lS,jd rfl];exact .bind (.sizeOf hi (.pure ⟨rfl,rfl⟩))
    obtain⟨_,_,h6,rfl,rfl⟩:=h5;exact h6
   refine⟨_,_,hpart xs,hpart ys,?_⟩;have e:∀zs:Array Value,(zs.extract off (off+i.size)).toList=(zs.toList.drop off).take i.size:=by
    intro zs;rw[Array.toList_extract,List.extract_eq_take_drop]
    congr 1
    omega
   rw[show k+(m+1)+1=(k+m+1)+1 by omega,run_equalIn_struct w (k+m+1) t _ _ (by rw[Ez];exact hu) hst,Ez];refine um _ _ (g:=XL P m) (λt' off' b' h'=>zg m k h') ?_;rw[e,e];exact h
  ·cases h
  ·exact sI (k+(m+1)) h
theorem EK(xs ys:Array Value){fs:List Field}{b:Bool}(h:Tp P xs.toList ys.toList fs=some b):(Op.eqFields (9998+1) xs ys fs).run P w=.ok b w:=
 um xs ys (λt off b h=>zg 2 9996 h) h
theorem MX{t:TypeId}{fs:Array Field}{x y:Operand}{u v:Value}{f:Bool->Pr}{Q:Value->World->Prop}(neg:Bool)(hs:nv P t=some fs)(h:BN P t fs u v f w)(hq:∀b,f b w->Q (.bool (if neg then !b else b)) w):
 RT P (do eqGuard (if neg then .neq else .eql) t x y u v;binOp (if neg then .neq else .eql) t u v) w Q:=by
 rcases aW h with⟨_,h⟩|⟨hg,h⟩
 ·exact h.elim
 obtain⟨xs,ys,rfl,rfl,h⟩:=nu h;obtain⟨b,hb,h⟩:=av h;rw[Bool.or_eq_false_iff]at hg;have hu:P.underlying t=some (.struct fs):=by
  unfold nv at hs;split at hs
  ·simp only[jg]at hs;subst hs;assumption
  ·cases hs
 have Ez:P.fieldsOf t=fs:=by simp[Program.fieldsOf,hu]
 have he:(Op.equal t (.agg xs) (.agg ys)).run P w=.ok b w:=by
  unfold Op.equal;change(Op.equalIn (9999+1) t _ _).run P w=_;rw[run_equalIn_struct w 9999 t xs ys (by rw[Ez];exact hu) hg.2,Ez];exact EK xs ys hb
 have hgd:(eqGuard (if neg then .neq else .eql) t x y (.agg xs) (.agg ys)).run P w=.ok () w:=by
  unfold eqGuard;cases neg<;>simp[go_sem,hg.1]
 refine .bind ⟨(),w,hgd,?_⟩;cases neg
 ·exact .bind ⟨_,w,he,.pure (hq _ h)⟩
 ·exact .bind ⟨_,w,he,.pure (hq _ h)⟩
theorem B4{t:TypeId}{x y:Operand}{u v:Value}{f:Bool->Pr}{Q:Value->World->Prop}(neg:Bool)(ht:Ec P t=true)(h:BM P u v f w)(hq:∀b,f b w->Q (.bool (if neg then !b else b)) w):
 RT P (do eqGuard (if neg then .neq else .eql) t x y u v;binOp (if neg then .neq else .eql) t u v) w Q:=by
 obtain⟨tx,vx,ty,vy,rfl,rfl,b,hb,h⟩:=h;obtain⟨ms,hms⟩:∃ms,P.underlying t=some (.interface ms):=by
  unfold Ec at ht;split at ht
  ·exact⟨_,‹_›⟩
  ·cases ht
 have he:(Op.equal t (.iface tx vx) (.iface ty vy)).run P w=.ok b w:=by
  have:RT P (Op.equalIn (9999+1) t (.iface tx vx) (.iface ty vy)) w (λc w'=>c=b/\w'=w):=by
   unfold Op.equalIn;refine .bind (.underlying hms ?_);rcases hb with⟨hne,rfl⟩|⟨rfl,i,k,a,c,hi,hc,hu,rfl,rfl,rfl⟩
   ·simp only[ne_eq,hne,not_false_eq_true,if_true]
    exact .pure ⟨rfl,rfl⟩
   ·simp only[ne_eq,not_true_eq_false,if_false]
    refine .bind (.typeInfo hi ?_);simp only[hc,Bool.not_true,Bool.false_eq_true,if_false];exact⟨_,w,run_equalIn_int w 9998 tx _ _ _ _ hu,rfl,rfl⟩
  obtain⟨_,_,h6,rfl,rfl⟩:=this;exact h6
 have hgd:(eqGuard (if neg then .neq else .eql) t x y (.iface tx vx) (.iface ty vy)).run P w=.ok () w:=by
  unfold eqGuard;cases neg<;>rfl
 refine .bind ⟨(),w,hgd,?_⟩;cases neg
 ·exact .bind ⟨_,w,he,.pure (hq _ h)⟩
 ·exact .bind ⟨_,w,he,.pure (hq _ h)⟩
theorem B5{t:TypeId}{x y:Operand}{u v:Value}{f:Bool->Pr}{Q:Value->World->Prop}(neg:Bool)(ht:PV P t x y=true)(h:wN u v f w)(hq:∀b,f b w->Q (.bool (if neg then !b else b)) w):
 RT P (do eqGuard (if neg then .neq else .eql) t x y u v;binOp (if neg then .neq else .eql) t u v) w Q:=by
 unfold PV at ht;rw[kf]at ht;obtain⟨el,i,hu,hi,hs⟩:∃el i,P.underlying t=some (.pointer el)/\P.info? el=some i/\i.size≠0:=by
  have h2:=ht.2;unfold XJ at h2;split at h2
  ·split at h2
   ·exact⟨_,_,‹_›,‹_›,by simpa using h2⟩
   ·cases h2
  ·cases h2
 unfold wN at h;split at h
 ·rename_i p q
  have he:(Op.equal t (.pointer p) (.pointer q)).run P w=.ok (p==q) w:=by
   have:RT P (Op.equalIn (9999+1) t (.pointer p) (.pointer q)) w (λc w'=>c=(p==q)/\w'=w):=by
    unfold Op.equalIn;refine .bind (.underlying hu ?_);cases p with
    |none=>exact .pure ⟨by cases q<;>rfl,rfl⟩
    |
     some a=>
     cases q with
     |none=>exact .pure ⟨rfl,rfl⟩
     |
      some b=>
      refine .bind (.sizeOf hi ?_);rw[jd hs];unfold sameAddr;rw[jd (by rw[h.1 a b rfl rfl];exact beq_self_eq_true _)];exact .pure ⟨rfl,rfl⟩
   obtain⟨_,_,h6,rfl,rfl⟩:=this;exact h6
  have hgd:(eqGuard (if neg then .neq else .eql) t x y (.pointer p) (.pointer q)).run P w=.ok () w:=by
   unfold eqGuard;cases neg<;>cases x<;>cases y<;>rfl
  refine .bind ⟨(),w,hgd,?_⟩;cases neg
  ·exact .bind ⟨_,w,he,.pure (hq _ h.2)⟩
  ·exact .bind ⟨_,w,he,.pure (hq _ h.2)⟩
 ·exact h.elim
theorem EL{t:TypeId}{s:ByteArray}{k:Nat->Pr}{Q:Value->World->Prop}(ht:P.underlying t=some .string)(h:MK s k w)
 (hq:∀b w',k b w'->Q (.pointer (some ⟨b,0,none⟩)) w'):RT P (Instr.range t (.string s)) w Q:=by
 unfold Instr.range;refine .bind (.underlying ht ?_);exact RT.bind (RT.pure (RT.bind (RT.newObj (RT.pure (hq _ _ h)))))
theorem Jz{a:Addr}{k0:Pr}{k1:Nat->Nat->Pr}{Q:Value->World->Prop}{t:TypeId}(h:RM a k0 k1 w)(TG:∀w',k0 w'->Q (.tuple #[.bool false]) w')(hq1:∀i c w',k1 i c w'->Q (.tuple #[.bool true,.int .i64 (i:Nat),.int .i32 (c:Nat)]) w'):
 RT P (Instr.next (.pointer (some a)) true t) w Q:=by
 obtain⟨h0,s,pos,h1,h2,h3⟩:=h;obtain⟨b,off,sp⟩:=a;dsimp only at h0 h1;subst h0;unfold Instr.next;refine .bind (.getObj h1 (λ_ _ _=>by simp) ?_);dsimp only;by_cases hp:pos<s.size
 ·rw[jd hp]
  refine .bind (.setObj h1 (λ_ _ _=>by simp) ?_);exact .pure (hq1 _ _ _ (h3 hp))
 ·rw[jc hp]
  exact .pure (TG _ (h2 hp))
theorem AH{op:BinOp}{t:TypeId}{x y:Operand}{u v:Value}(h:Ak v u=true):(eqGuard op t x y u v).run P w=.ok () w:=by
 unfold Ak at h;split at h
 ·unfold eqGuard;cases op<;>rfl
 ·unfold eqGuard;cases op<;>rfl
 ·simp at h
theorem EM{t:TypeId}{ke:TypeId×TypeId}{r:Option Nat}{k:Nat->Pr}{Q:Value->World->Prop}(ht:P.underlying t=some (.map ke.1 ke.2))(h:jN r k w)
 (hq:∀b w',k b w'->Q (.pointer (some ⟨b,0,none⟩)) w'):RT P (Instr.range t (.map r)) w Q:=by
 unfold Instr.range;unfold jN at h;refine .bind (.underlying ht ?_);cases r with
 |none=>exact .bind (.pure (.bind (.newObj (.pure (hq _ _ h)))))
 |
  some m=>
  obtain⟨es,clock,hm,h⟩:=h;refine .bind (.bind (.getObj hm (λ_ _ _=>by simp) ?_));refine RT.pure (RT.bind (RT.pure (RT.bind (RT.newObj (RT.pure (hq _ _ h))))))
theorem EN{a:Addr}{k:MapEntry->Pr}{Q:Value->World->Prop}(h:kF a k w)(hq:∀e w',k e w'->Q (.tuple #[e.key,e.val]) w'):RT P (Instr.entry (.pointer (some a))) w Q:=by
 obtain⟨h0,m,since,seen,stepped,es,clock,stamp,e,h1,h2,h3,h4,h5,h8⟩:=h;obtain⟨b,off,sp⟩:=a;dsimp only at h0 h1;subst h0;unfold Instr.entry;refine RT.bind (RT.getObj h1 (λ_ _ _=>by simp) ?_);dsimp only;rw[h2];dsimp only;refine RT.bind (RT.getObj h3 (λ_ _ _=>by simp) ?_);dsimp only;subst h4;simp only[bne_self_eq_false,Bool.false_eq_true,if_false,h5];exact .pure (hq _ _ h8)
theorem RT.EO{n:Nat}{Q:Nat->World->Prop}(hn:0<n)(h:∀i w1,i<n->(w1=w\/w1=w.drew)->Q i w1):RT P (Go.choose (.mapNext n)) w Q:=by
 have hr:=run_choose_drew P w (.mapNext n);by_cases hf:n<=1
 ·refine⟨0,w,?_,h 0 w hn (.inl rfl)⟩
  rw[hr];simp[Question.forced,hf]
 ·refine⟨w.tape w.drawn (.mapNext n)%n,w.drew,?_,h _ _ (Nat.mod_lt _ hn) (.inr rfl)⟩
  rw[hr];simp[Question.forced,hf,Question.cut]
theorem JB{a:Addr}{k0:Pr}{k1:MapEntry->Pr}{Q:Value->World->Prop}{t:TypeId}(h:nY a k0 k1 w)(TG:∀w',k0 w'->Q (.tuple #[.bool false]) w')(hq1:∀e w',k1 e w'->Q (.tuple #[.bool true,e.key,e.val]) w'):
 RT P (Instr.next (.pointer (some a)) false t) w Q:=by
 obtain⟨h0,h⟩:=h;obtain⟨b,off,sp⟩:=a;dsimp only at h0 h;subst h0;unfold Instr.next;rcases h with⟨c,f,d,h1,h2⟩|⟨m,since,seen,last,es,clock,h1,h2,h3,h4⟩
 ·exact .bind (.getObj h1 (λ_ _ _=>by simp) (.pure (TG _ h2)))
 ·refine .bind (.getObj h1 (λ_ _ _=>by simp) ?_)
  dsimp only;refine .bind (.getObj h2 (λ_ _ _=>by simp) ?_);dsimp only;rw[jc (by rw[h3];simp)];generalize hc:(if((es.filter λe=> !seen.contains e.born).filter (·.born<since)).isEmpty=true then(#[none]:Array (Option MapEntry))else#[])++(((es.filter λe=> !seen.contains e.born).filter (·.born<since))++((es.filter λe=> !seen.contains e.born).filter (·.born>=since))).map some=cs;have hpos:0<cs.size:=by
   rw[<-hc];split
   ·simp only[Array.size_append,List.size_toArray,List.length_cons,List.length_nil];omega
   ·rename_i hne
    have:0<((es.filter λe=> !seen.contains e.born).filter (·.born<since)).size:=by
     rcases Nat.eq_zero_or_pos ((es.filter λe=> !seen.contains e.born).filter (·.born<since)).size with h|h
     ·exact absurd (by simpa[Array.isEmpty]using h) hne
     ·exact h
    simp only[Array.size_append,Array.size_map];omega
  refine RT.bind (RT.EO hpos λi w1 hi hw=>?_);obtain⟨hend,XQ⟩:=h4 w1 hw;rw[Array.getElem?_eq_getElem hi];have hmem:cs[i]∈cs:=Array.getElem_mem hi;generalize cs[i]=x at hmem⊢;rw[<-hc,Array.mem_append]at hmem;have IG:w1.heap[b]? =some (.mapIter (some m) since seen last):=by rcases hw with rfl|rfl<;>exact h1
  cases x with
  |
   none=>
   refine RT.pure (TG _ (hend ?_));rcases hmem with hmem|hmem
   ·split at hmem
    ·rename_i XR
     intro e he hb;cases hs:seen.contains e.born with
     |true=>rfl
     |
      false=>
      exfalso;have h9:e∈((es.filter λe=> !seen.contains e.born).filter (·.born<since)):=by
       rw[Array.mem_filter,Array.mem_filter];exact⟨⟨by simpa using he,by simpa using hs⟩,by simpa using hb⟩
      rw[Array.isEmpty_iff]at XR;rw[XR]at h9;simp at h9
    ·simp at hmem
   ·simp at hmem
  |
   some e=>
   have he:e∈es.toList/\seen.contains e.born=false:=by
    rcases hmem with hmem|hmem
    ·split at hmem<;>simp at hmem
    ·rw[Array.mem_map]at hmem
     obtain⟨e',h5,h6⟩:=hmem;simp only[jg]at h6;subst h6;simp only[Array.mem_append,Array.mem_filter]at h5;have h7:e'∈es/\(!seen.contains e'.born)=true:=by rcases h5 with h5|h5<;>exact h5.1
     exact⟨by simpa using h7.1,by simpa using h7.2⟩
   refine RT.bind (RT.setObj IG (λ_ _ _=>by simp) (RT.pure (hq1 _ _ (XQ e he.1 he.2))))
theorem Mv{o:Oper}(he:Ag e a)(h:cop P o e k w)(hc:∀c,o.op≠.call c):RT P (execOp a.eval o) w (NX k):=by
 obtain⟨dst,op,ty,pos,after,guard⟩:=o;cases op<;>simp only[cop]at h<;>try exact h.elim
 case makeInterface t x=>
  obtain⟨d,hd,h2⟩:=av (fU he h);rcases aW h2 with⟨_,h2⟩|⟨hb,h2⟩
  ·exact h2.elim
  ·refine RT.value' ?_
   unfold Instr.makeInterface;refine .bind (.underlying hd ?_);cases d<;>first|exact .pure h2|(simp[vc]at hb;done)
 case typeAssert x xt T ok=>
  obtain⟨d,hd,h2⟩:=av (fU he h);rcases aW h2 with⟨_,h2⟩|⟨hb,h2⟩
  ·obtain⟨want,hw,h2⟩:=av h2
   obtain⟨z,hz,h2⟩:=av h2;obtain⟨b,h3,h4⟩:=h2;cases d<;>simp only[MO,reduceCtorEq,jg]at hw;subst hw;refine RT.value' ?_;unfold Instr.typeAssert;refine .bind (.underlying hd ?_);have hf:ok=true->b=false->RT P (do pure (Value.tuple #[<-zeroValue T,.bool false]):Sem Value) w (λv w'=>k (.val v) w'):=by
    rintro rfl rfl;exact .bind (gw hz (.pure h4))
   rcases h3 with⟨rfl,t,u,i,hv,hi,hm⟩|⟨hok,hb0,hv|⟨t,u,i,m,hv,hi,hm⟩⟩
   ·rw[hv]at h4⊢
    refine .bind (.typeInfo hi ?_);rw[hm];cases ok<;>exact .pure h4
   ·rw[hv]
    have:=hf hok hb0;subst hok;exact this
   ·rw[hv]
    refine .bind (.typeInfo hi ?_);rw[hm];have:=hf hok hb0;subst hok;exact this
  obtain⟨sh,_,h2⟩:=av h2;obtain⟨z,hz,h2⟩:=av h2;refine RT.value' ?_;unfold Instr.typeAssert;refine .bind (.underlying hd ?_);obtain⟨p,b,h3,h4⟩:=h2;rcases h3 with⟨rfl,hv⟩|⟨rfl,rfl,hp,hv⟩
  ·rw[hv]
   have:RT P (Pure.pure (if ok then .tuple #[val sh p,.bool true]else val sh p):Sem Value) w (λv w'=>k (.val v) w'):=by
    cases ok<;>exact .pure h4
   cases d<;>first|(simp only[if_true];exact this)|(simp[vc]at hb;done)
  ·have:RT P (do pure (Value.tuple #[<-zeroValue T,.bool false]):Sem Value) w (λv w'=>k (.val v) w'):=by
    refine .bind (gw hz (.pure ?_));rw[<-hp];exact h4
   rcases hv with hv|⟨t,u,hv,hne⟩
   ·rw[hv]
    cases d<;>first|exact this|(simp[vc]at hb;done)
   ·rw[hv]
    cases d<;>first|(simp only[hne,if_false];exact this)|(simp[vc]at hb;done)
 case move x=>exact .pure (Hq he h)
 case assign x=>exact .pure (Hq he h)
 case pick c x y=>exact MP he h
 case alloc t=>
  obtain⟨z,hz,h⟩:=av h;refine RT.value' ?_;exact .bind (gw hz (.bind (.newVar h λ_ _ h=>.pure h)))
 case box t x=>exact RT.value' (.bind (.newVar (fU he h) λ_ _ h=>.pure h))
 case build t parts=>
  obtain⟨z,hz,h⟩:=av h;have h1:=mB he h;obtain⟨d,hd,h2⟩:=av h1;clear h h1;refine RT.value' ?_;unfold Instr.build;refine .bind (gw hz (.bind (.underlying hd ?_)));have hp:(parts.map λ(i,x)=>(i,a.eval x)).toList=parts.toList.map λ(i,x)=>(i,a.eval x):=by simp
  cases d with
  |
   struct fs=>
   obtain⟨pl,iL,h2⟩:=av h2;obtain⟨cs,hcs,h2⟩:=j9 h2;have hf:=ko hcs;simp only[Array.toArray_toList]at hf;dsimp only;rw[show fs=fs.toList.toArray by simp,List.mapM_toArray];refine .bind ?_;rw[map_eq_pure_bind];refine .bind (sx iL (.pure ?_));rw[hp];have afb:(λj:Nat=>pl.toArray[j]?)=(λj:Nat=>pl[j]?):=by funext j;simp
   rw[afb,hf];exact .pure h2
  |
   array ln el=>
   obtain⟨i,hi,h2⟩:=av h2;obtain⟨cs,hcs,h2⟩:=j9 h2;have hf:=ko hcs;simp only[Array.toArray_toList]at hf;refine .bind (.sizeOf hi ?_);rw[hp,hf];exact .pure h2
  |_=>exact h2.elim
 case buildSlice t len parts=>
  have h1:=mB he h;obtain⟨el,hel,h2⟩:=av h1;obtain⟨i,hi,h2⟩:=av h2;obtain⟨z,hz,h2⟩:=av h2;obtain⟨⟨hzs,hs0,hlen⟩,h2⟩:=eH h2;obtain⟨cs,hcs,h2⟩:=j9 h2;clear h h1;refine RT.value' ?_;unfold Instr.buildSlice;refine .bind (.underlying (cJ hel) (.bind (.sizeOf hi ?_)));rw[jc (Nat.not_lt.2 hlen)];have hp:(parts.map λ(i,x)=>(i,a.eval x)).toList=parts.toList.map λ(i,x)=>(i,a.eval x):=by simp
  have hf:=ko hcs;have Hr:=MQ z.cells.toList len i.size (by simpa using hzs);simp only[Array.toArray_toList]at Hr;by_cases h0:len*i.size=0
  ·rw[jd h0]
   have hl0:len=0:=(Nat.mul_eq_zero.1 h0).resolve_right hs0;refine .bind (.pure ?_);dsimp only;have e0:∀g:Nat->Value,Array.map g (Array.range 0)=[].toArray:=λ_=>by simp
   rw[h0,e0,hp];have:zc z.cells.toList len=[]:=by simp[hl0,zc]
   rw[this]at hf;rw[hf];exact .bind (.bind (.newObj (.pure (.pure h2))))
  ·rw[jc h0]
   refine .bind (.zeroValue hi hz (.bind (.pure ?_)));dsimp only;rw[hp,hzs,Hr,hf];exact .bind (.bind (.newObj (.pure (.pure h2))))
 case load t x=>
  have h1:=fU he h;obtain⟨ad,hv,h2⟩:=iA h1;refine RT.value' ?_;unfold Instr.loadAt;rw[hv];exact .bind (.pure (.loadVar h2 λ_ h=>h))
 case store t x y=>
  have h1:=fU he h;obtain⟨ad,hv,h2⟩:=iA h1;have h3:=fU he h2;refine RT.skip ?_;unfold Instr.storeAt;rw[hv];exact .bind (.pure (.storeVar h3 λ_ h=>h))
 case nilCheck x=>
  have h1:=fU he h;clear h;unfold execOp;dsimp only;generalize a.eval x=v at h1⊢;cases v with
  |
   pointer p=>
   obtain⟨ad,rfl,h2⟩:=gu.1 h1;exact .pure ⟨_,Good.val _,h2⟩
  |
   func fn f1 f2=>
   obtain⟨h2,h3⟩:=h1;cases fn<;>first|exact(h2:False).elim|exact .pure ⟨_,Good.val _,h3⟩
  |int _ _=>exact h1.elim
  |bool _=>exact h1.elim
  |string _=>exact h1.elim
  |nilIface=>exact h1.elim
  |slice _ _ _=>exact h1.elim
  |map _=>exact h1.elim
  |float _ _=>exact(h1.1:False).elim
  |complex _ _ _=>exact(h1.1:False).elim
  |chan _=>exact(h1.1:False).elim
  |nilFunc=>exact(h1.1:False).elim
  |iface _ _=>exact(h1.1:False).elim
  |agg _=>exact(h1.1:False).elim
  |tuple _=>exact(h1.1:False).elim
 case binOp op t x y ty2=>
  rcases aW h with⟨hb,h⟩|⟨_,h⟩
  ·simp only[kf]at hb
   obtain⟨hy,ht⟩:=hb;have h1:=fU he h;clear h;have hy':y=.const .nilIface:=by
    unfold Ml at hy;split at hy<;>simp_all
   subst hy';obtain⟨ms,hms⟩:∃ms,P.underlying t=some (.interface ms):=by
    unfold Ec at ht;split at ht
    ·exact⟨_,‹_›⟩
    ·cases ht
   refine RT.value' ?_;generalize a.eval x=u at h1⊢;have hn:a.eval (.const .nilIface)=.nilIface:=rfl;rw[hn];have key:isI u->(eqGuard op t x (.const .nilIface) u .nilIface).run P w=.ok () w/\(Op.equal t u .nilIface).run P w=.ok (oO u) w:=by
    intro hi;have eqn:RT P (Op.equalIn (9999+1) t u .nilIface) w (λb w'=>b=oO u/\w'=w):=by
     unfold Op.equalIn;refine .bind (.underlying hms ?_);cases u<;>first|exact hi.elim|exact .pure ⟨rfl,rfl⟩
    refine⟨?_,?_⟩
    ·unfold eqGuard
     cases u<;>first|exact hi.elim|(cases x<;>cases op<;>rfl)
    ·obtain⟨v,w',h3,rfl,rfl⟩:=eqn
     exact h3
   cases op<;>first|exact h1.elim|skip
   all_goals
    obtain⟨hi,h2⟩:=h1;obtain⟨k1,k2⟩:=key hi;refine .bind ⟨(),w,k1,?_⟩;cases u<;>first|exact hi.elim|exact .bind ⟨_,w,k2,.pure h2⟩
  have h1:=fU he (fU he h);clear h;refine RT.value' ?_;generalize a.eval x=u at h1⊢;generalize a.eval y=v at h1⊢;have h9:=aW h1;clear h1;rcases h9 with⟨hi,h1⟩|⟨_,h1⟩
  ·cases op<;>first
    |exact h1.elim
    |exact B4 false hi h1 λ_ h=>h
    |exact B4 true hi h1 λ_ h=>h
  rcases aW h1 with⟨hi,h1⟩|⟨_,h1⟩
  ·cases op<;>first
    |exact h1.elim
    |exact B5 (f:=λb=>k (.val (.bool (if false then !b else b)))) false hi h1 λ_ h=>h
    |exact B5 (f:=λb=>k (.val (.bool (if true then !b else b)))) true hi h1 λ_ h=>h
  rcases aW h1 with⟨hn,h1⟩|⟨hn,h1⟩
  ·refine .bind ⟨(),w,?_,?_⟩
   ·exact AH hn
   ·obtain⟨v,hv,h2⟩:=P9 (P:=P) (t:=t) h1
    exact⟨v,w,hv,h2⟩
  ·have fin:∀neg:Bool,Ae P t u v (λb=>k (.val (.bool (if neg then !b else b)))) w->RT P (do eqGuard (if neg then .neq else .eql) t x y u v;binOp (if neg then .neq else .eql) t u v) w λv w'=>k (.val v) w':=by
    intro neg h2;rcases kN (show orElse _ _ _ w from h2)with⟨fs,Ez,h2⟩|⟨_,h2⟩
    ·exact MX neg Ez h2 λ_ h=>h
    ·exact Qf neg h2
   cases op<;>first
    |exact h1.elim
    |exact fin false h1
    |exact fin true h1
 case unOp op t x=>
  obtain⟨v,u,hv,hr,y,hy,h2⟩:=Qc h;refine RT.value ?_;rw[he.eval (x:=x) hv];exact⟨_,w,hr,y,hy,h2⟩
 case convert s d x=>exact RT.value' (Jw (fU he h))
 case makeFunc fn first caps=>
  have h1:=iy he h;have h2:=iy he h1;have e1:(first.toList.map a.eval).toArray=first.map a.eval:=by rw[<-Array.toList_map,Array.toArray_toList]
  have e2:(caps.toList.map a.eval).toArray=caps.map a.eval:=by rw[<-Array.toList_map,Array.toArray_toList]
  rw[e1,e2]at h2;exact RT.value' (.pure h2)
 case makeMap t r=>
  cases r with
  |none=>exact RT.value' (.bind (.newObj (.pure h)))
  |some _=>exact h.elim
 case makeSlice t l c=>
  obtain⟨el,hel,h⟩:=av h;obtain⟨i,hi,h⟩:=av h;obtain⟨z,hz,h⟩:=av h;obtain⟨⟨hzs,hs0⟩,h⟩:=eH h;obtain⟨k1,ln,hl,h⟩:=iX (fU he h);obtain⟨k2,cn,lY,h⟩:=iX (fU he h);refine RT.value' ?_;rw[hl,lY];exact Qa (cJ hel) hi hz hzs hs0 h λ_ _ h=>h
 case slice t x lo hi mx=>
  have h1:=fU he h;obtain⟨l,k1,hl,h2⟩:=uk he h1;obtain⟨hh,k2,hhi,h3⟩:=uk he h2;obtain⟨m,k3,hm,h4⟩:=uk he h3;clear h h1 h2 h3;refine RT.value' ?_;rw[hl,hhi,hm];generalize a.eval x=v at h4⊢;split at h4
  ·rename_i a0 ln c
   obtain⟨el,hel,h⟩:=av h4;obtain⟨i,hi,h⟩:=av h;exact B3 (s:=⟨a0,ln,c⟩) (cJ hel) hi h λ_ h=>h
  ·obtain⟨d,hd,h9⟩:=av h4
   clear h4;split at h9
   ·exact AE hd h9 λ_ h=>h
   ·exact h9.elim
  ·exact h4.elim
 case fieldAddr s x f=>
  obtain⟨ad,hv,h2⟩:=iA (fU he h);obtain⟨fl,hfl,h2⟩:=av h2;obtain⟨i,hi,h2⟩:=av h2;obtain⟨hs,h2⟩:=eH h2;obtain⟨fs,Ez,hf⟩:=qm hfl;refine RT.value' ?_;unfold Instr.fieldAt;refine .bind (.underlying Ez ?_);simp only[hf,hv];refine .bind (.pure (.bind ?_));unfold fieldPlace;refine .bind (.sizeOf hi ?_);rw[jc hs];exact .pure (.pure h2)
 case field s x f=>
  obtain⟨cs,hv,h2⟩:=kP (fU he h);obtain⟨fl,hfl,h2⟩:=av h2;obtain⟨i,hi,h2⟩:=av h2;obtain⟨d,hd,h2⟩:=av h2;obtain⟨fs,Ez,hf⟩:=qm hfl;refine RT.value' ?_;unfold Instr.field;refine .bind (.underlying Ez ?_);simp only[hf,hv];refine .bind (.pure ?_);unfold Go.part;refine .bind (.xz (mS hd) ?_);rcases aW h2 with⟨lS,h2⟩|⟨lS,h2⟩
  ·rw[lS,jd rfl]
   exact .bind (.sizeOf hi (.pure h2))
  ·rw[lS,jc Bool.false_ne_true]
   obtain⟨c,lY,h2⟩:=av h2;simp only[lY];exact .pure h2
 case indexAddr t x ix=>
  have h1:=fU he h;obtain⟨k1,n,hn,h2⟩:=iX (fU he h1);clear h h1;refine RT.value' ?_;unfold Instr.indexAt;rw[hn];refine .bind (.pure ?_);dsimp only;generalize a.eval x=v at h2⊢;split at h2
  ·rename_i a0 ln c
   obtain⟨el,hel,h⟩:=av h2;obtain⟨i,hi,h⟩:=av h;obtain⟨hb,h⟩:=h;obtain⟨ad,rfl,h5⟩:=gu.1 h;refine .bind (.underlying (cJ hel) (.bind (.pure (.bind (.underlying (cJ hel) ?_)))));dsimp only;rw[jd hb];exact .bind (.sizeOf hi (.pure h5))
  ·obtain⟨d,hd,h9⟩:=av h2
   clear h2;split at h9
   ·obtain⟨i,hi,h⟩:=av h9
    obtain⟨hb,h⟩:=h;obtain⟨ad,rfl,h5⟩:=gu.1 h;refine .bind (.underlying hd (.bind (.pure (.bind (.pure (.bind (.underlying hd ?_)))))));dsimp only;rw[jd hb];exact .bind (.sizeOf hi (.pure h5))
   ·exact h9.elim
  ·exact h2.elim
 case index t x ix=>
  have h1:=fU he h;obtain⟨k1,n,hn,h2⟩:=iX (fU he h1);clear h h1;refine RT.value' ?_;unfold Instr.index;rw[hn];refine .bind (.pure ?_);dsimp only;generalize a.eval x=v at h2⊢;split at h2
  ·rename_i s
   obtain⟨d,hd,h9⟩:=av h2;clear h2;split at h9
   ·obtain⟨hb,h9⟩:=h9
    refine .bind (.underlying hd ?_);have hlt:n.toNat<s.size:=by omega
    simp only[hb.1,if_true];rw[getElem?_pos s n.toNat hlt]at h9⊢;exact .pure h9
   ·exact h9.elim
  ·exact h2.elim
 case lookup t x ix ok=>
  have h1:=fU he (fU he h);obtain⟨r,hr,h2⟩:=l6 h1;obtain⟨ke,LD,h2⟩:=av h2;obtain⟨kd,TF,h2⟩:=av h2;rcases aW h2 with⟨hs,h2⟩|⟨_,h2⟩
  ·obtain⟨l,hl,h2⟩:=av h2
   obtain⟨sh,Wc,h2⟩:=av h2;obtain⟨z,hz,h2⟩:=av h2;refine RT.value' ?_;rw[hr];refine EC (fM LD) TF hs hz h2 λp b h=>?_;rcases aW h with⟨hok,h⟩|⟨hok,h⟩<;>simpa[hok]using h
  ·exact h2.elim
 case mapUpdate t m ky x=>
  have h1:=fU he (fU he (fU he h));obtain⟨r,hr,h2⟩:=l6 h1;obtain⟨ke,LD,h2⟩:=av h2;obtain⟨kd,TF,h2⟩:=av h2;rcases aW h2 with⟨hs,h2⟩|⟨_,h2⟩
  ·refine RT.skip ?_
   rw[hr];exact ED (fM LD) TF hs h2 λ_ h=>h
  ·exact h2.elim
 case extract t ix=>
  refine RT.value ?_;unfold Instr.extract;cases hx:Env.ev e t with
  |
   Db=>
   rw[hx]at h;have hv:=he.eval (x:=t) (v:=.tuple #[.bool false]) (by rw[hx];rfl);rw[hv]
   match ix,h with
   |0,h=>exact .pure ⟨_,λu hu=>by simpa[EV.v?]using hu.symm,h⟩
   |_+1,h=>exact h.elim
  |
   Dc k1 v1=>
   rw[hx]at h;have hv:=he.eval (x:=t) (v:=.tuple #[.bool true,k1,v1]) (by rw[hx];rfl);rw[hv]
   match ix,h with
   |0,h=>exact .pure ⟨_,λu hu=>by simpa[EV.v?]using hu.symm,h⟩
   |1,h=>exact .pure ⟨_,λu hu=>by simpa[EV.v?]using hu.symm,h⟩
   |2,h=>exact .pure ⟨_,λu hu=>by simpa[EV.v?]using hu.symm,h⟩
   |_+3,h=>exact h.elim
  |
   D6 k1 v1=>
   rw[hx]at h;have hv:=he.eval (x:=t) (v:=.tuple #[k1,v1]) (by rw[hx];rfl);rw[hv]
   match ix,h with
   |
    0,h=>
    obtain⟨l,_,h⟩:=av (show va P _ _ w from h);obtain⟨s,_,h⟩:=av h;obtain⟨p,hp,h⟩:=h;exact .pure ⟨_,λu hu=>by simp only[EV.v?,jg]at hu;rw[<-hu];exact hp.symm,h⟩
   |
    1,h=>
    obtain⟨l,_,h⟩:=av (show va P _ _ w from h);obtain⟨s,_,h⟩:=av h;obtain⟨p,hp,h⟩:=h;exact .pure ⟨_,λu hu=>by simp only[EV.v?,jg]at hu;rw[<-hu];exact hp.symm,h⟩
   |_+2,h=>exact h.elim
  |no=>rw[hx]at h;exact h.elim
  |lit b=>rw[hx]at h;exact h.elim
  |
   val v=>
   rw[hx]at h;have hv:=he.eval (x:=t) (v:=v) (by rw[hx];rfl);rw[hv];cases v<;>first|exact h.elim|skip
   obtain⟨c,lY,h1⟩:=av (show opt _ _ w from h);simp only[lY];exact .pure ⟨_,Good.val _,h1⟩
 case range t x=>
  refine RT.value' ?_;rcases aW (fU he h)with⟨hs,h2⟩|⟨_,h2⟩
  ·obtain⟨s,hr,h2⟩:=B2 h2
   rw[hr];exact EL (ny hs) h2 λ_ _ h=>h
  ·obtain⟨r,hr,h2⟩:=l6 h2
   obtain⟨ke,LD,h2⟩:=av h2;rw[hr];exact EM (fM LD) h2 λ_ _ h=>h
 case next it str=>
  obtain⟨ad,hv,h3⟩:=iA (fU he h);refine RT.value ?_;rw[hv];have h4:=aW h3;clear h h3;rcases h4 with⟨hs,h2⟩|⟨hs,h2⟩
  ·subst hs
   exact Jz h2 (λ_ h=>⟨_,λu hu=>by simpa[EV.v?]using hu.symm,h⟩) (λ_ _ _ h=>⟨_,λu hu=>by simpa[EV.v?]using hu.symm,h⟩)
  subst hs;exact JB h2 (λ_ h=>⟨_,λu hu=>by simpa[EV.v?]using hu.symm,h⟩) (λ_ _ h=>⟨_,λu hu=>by simpa[EV.v?]using hu.symm,h⟩)
 case entry it=>
  obtain⟨ad,hv,h2⟩:=iA (fU he h);refine RT.value ?_;rw[hv];exact EN h2 λ_ _ h=>⟨_,λu hu=>by simpa[EV.v?]using hu.symm,h⟩
 case call c=>exact absurd rfl (hc c)
end
section
variable{P:Program}{e:Env}{a:Act}{w:World}{k:EV->Pr}
theorem ex0(x:Value)(l:Array Value):(#[x]++l)[0]? =some x:=by
 rw[Array.getElem?_append_left (by simp)];rfl
theorem ex1(x:Value)(l:Array Value):(#[x]++l).extract 1 (#[x]++l).size=l:=by
 apply Array.ext';rw[Array.toList_extract,Array.toList_append,Array.size_append];simp only[List.size_toArray,List.length_cons,List.length_nil,List.cons_append,List.nil_append,List.extract_eq_take_drop,List.drop_succ_cons,List.drop_zero];exact List.take_of_length_le (by simp)
theorem EP{r:Option Nat}{n:Nat}{next:Act->World->Prop}{Q:Exit->Act->World->Prop}{dst:Option Tmp}{x:Operand}{args:Array Operand}{ats:Array TypeId}{ty:TypeId}{pos:String}{after:Array Edge}
 {guard:Option (Nat×Bool)}{cM:List Sh}{kk:eD cM->Pr}(h2:fH P (a.eval x) (args.toList.map a.eval) cM kk w)(hk:∀p w',kk p w'->next (a.put dst (nq cM p)) w'):
 Oper.uponIn (wf r) n P ⟨dst,.call ⟨.value x,args,ats⟩,ty,pos,after,guard⟩ a next Q ((execOp a.eval ⟨dst,.call ⟨.value x,args,ats⟩,ty,pos,after,guard⟩).run P w):=by
 have hargs:(args.toList.map a.eval).toArray=args.map a.eval:=by rw[<-Array.toList_map,Array.toArray_toList]
 unfold fH at h2;rw[hargs]at h2;rcases h2 with⟨f,first,caps,hv,oF,h2⟩|⟨l,caps,hv,fn,tmps,assign,body,hy,h2⟩
 ·have hrun:(execOp a.eval ⟨dst,.call ⟨.value x,args,ats⟩,ty,pos,after,guard⟩).run P w=.ok (.enter f (first++args.map a.eval++caps)) w:=by
   simp only[execOp,resolve,Deferred.ofValue,hv,Sem.run_bind,Sem.run_pure,Result.andThen_ok,invoke];exact gv oF
  rw[hrun];exact upon_enter h2 hk
 ·have hrun:(execOp a.eval ⟨dst,.call ⟨.value x,args,ats⟩,ty,pos,after,guard⟩).run P w=.ok (.round l fn tmps assign body) w:=by
   simp only[execOp,resolve,Deferred.ofValue,hv,Sem.run_bind,Sem.run_pure,Result.andThen_ok,invoke,Array.empty_append];exact hy
  rw[hrun];exact EI h2 hk
theorem zh{r:Option Nat}{n:Nat}{o:Oper}{next:Act->World->Prop}{Q:Exit->Act->World->Prop}(he:Ag e a)(h:cop P o e k w)
 (hk:∀x v w',Good x v->k x w'->next (a.put o.dst v) w'):o.uponIn (wf r) n P a next Q ((o.semAt r a.eval).run P w):=by
 have hnd:∀c,o.op≠.defer c:=by
  intro c hc;obtain⟨dst,op,ty,pos,after,guard⟩:=o;dsimp only at hc;subst hc;exact h
 rw[Oper.semAt_eq r a.eval o hnd];rcases Classical.em (∀c,o.op≠.call c)with hno|hno
 ·exact Ht (Mv he h hno) hk
 obtain⟨c,hc⟩:∃c,o.op=.call c:=Classical.byContradiction λh=>hno λc hc=>h ⟨c,hc⟩;clear hno;obtain⟨dst,op,ty,pos,after,guard⟩:=o;dsimp only at hc;subst hc;clear hnd;simp only[cop]at h;have h1:=iy he h;clear h;obtain⟨callee,args,ats⟩:=c;have hargs:(args.toList.map a.eval).toArray=args.map a.eval:=by rw[<-Array.toList_map,Array.toArray_toList]
 dsimp only at h1;have hval:∀x,nd (Env.ev e x) (λfv=>opt (xA P ty) λcM=>fH P fv (args.toList.map a.eval) cM λp=>k (.val (nq cM p))) w->
  Oper.uponIn (wf r) n P ⟨dst,.call ⟨.value x,args,ats⟩,ty,pos,after,guard⟩ a next Q ((execOp a.eval ⟨dst,.call ⟨.value x,args,ats⟩,ty,pos,after,guard⟩).run P w):=by
  intro x h;obtain⟨cM,_,h2⟩:=av (fU he h);exact EP h2 λp w' hp=>hk _ _ _ (Good.val _) hp
 cases callee with
 |
  value x=>
  cases x with
  |
   func f=>
   obtain⟨cM,afc,h0⟩:=av h1;rcases aW h0 with⟨oF,h2⟩|⟨_,h2⟩
   ·unfold aq at h2
    rw[hargs]at h2;have hrun:(execOp a.eval ⟨dst,.call ⟨.value (.func f),args,ats⟩,ty,pos,after,guard⟩).run P w=.ok (.enter f (args.map a.eval)) w:=by
     simp only[execOp,resolve,Deferred.ofValue,Act.eval,Sem.run_bind,Sem.run_pure,Result.andThen_ok,invoke,Array.empty_append,Array.append_empty];exact gv oF
    rw[hrun];exact upon_enter h2 λp w' hp=>hk _ _ _ (Good.val _) hp
   ·obtain⟨p,w',hr,h3⟩:=h2
    rw[hargs]at hr;have hrun:(execOp a.eval ⟨dst,.call ⟨.value (.func f),args,ats⟩,ty,pos,after,guard⟩).run P w=.ok (.value (nq cM p)) w':=by
     simp only[execOp,resolve,Deferred.ofValue,Act.eval,Sem.run_bind,Sem.run_pure,Result.andThen_ok,invoke,Array.empty_append,Array.append_empty];exact hr
    rw[hrun];exact hk _ _ _ (Good.val _) h3
  |tmp t=>exact hval _ h1
  |const v=>exact hval _ h1
  |global g=>exact hval _ h1
 |
  builtin b=>
  refine Ht (k:=k) ?_ hk;unfold execOp;dsimp only;unfold resolve;dsimp only;refine .bind (.pure ?_);dsimp only[invoke];rw[<-hargs];exact ve h1
 |
  invoke x name=>
  obtain⟨cM,_,h2⟩:=av (fU he h1);obtain⟨t,u,f,recv,hv,hm,h2⟩:=h2;rw[hargs]at h2;rcases h2 with⟨oF,h2⟩|⟨p,w',hr,h3⟩
  ·have hrun:(execOp a.eval ⟨dst,.call ⟨.invoke x name,args,ats⟩,ty,pos,after,guard⟩).run P w=.ok (.enter f (#[recv]++args.map a.eval)) w:=by
    simp only[execOp,resolve,Sem.run_bind,Sem.run_pure,Result.andThen_ok,invoke,ex0,ex1,callMethod,hv,run_program,hm];exact gv oF
   rw[hrun];exact upon_enter h2 λp w' hp=>hk _ _ _ (Good.val _) hp
  ·have hrun:(execOp a.eval ⟨dst,.call ⟨.invoke x name,args,ats⟩,ty,pos,after,guard⟩).run P w=.ok (.value (nq cM p)) w':=by
    simp only[execOp,resolve,Sem.run_bind,Sem.run_pure,Result.andThen_ok,invoke,ex0,ex1,callMethod,hv,run_program,hm];exact hr
   rw[hrun];exact hk _ _ _ (Good.val _) h3
theorem B6{r:Option Nat}{n:Nat}{o:Oper}{next:Act->World->Prop}{Q:Exit->Act->World->Prop}{f:FuncId}{args:Array Value}{cM:List Sh}{kk:eD cM->Pr}{q:List PanicEntry->Pr}
 (h:Calls P f args w (XI q cM kk))(hk:∀p w',kk p w'->next (a.put o.dst (nq cM p)) w')(hp:∀ch w',q ch w'->Q (.panic ch) a w'):o.uponIn (wf r) n P a next Q (.ok (.enter f args) w):=by
 rw[Oper.uponIn_enter];refine⟨λh=>by simp[wf,Fence.wide]at h,qH.2 (h.mono ?_)⟩;rintro e w' (⟨p,rfl,Bc⟩|⟨ch,rfl,hq⟩)
 ·exact hk p w' Bc
 ·exact hp ch w' hq
theorem Ee{r:Option Nat}{n:Nat}{o:Oper}{kp:Option (List PanicEntry->Pr)}{next:Act->World->Prop}{Q:Exit->Act->World->Prop}(he:Ag e a)(h:PW P kp o e k w)
 (hk:∀x v w',Good x v->k x w'->next (a.put o.dst v) w')(hp:∀ch w',Pd kp ch w'->Q (.panic ch) a w'):o.uponIn (wf r) n P a next Q ((o.semAt r a.eval).run P w):=by
 unfold PW at h;cases kp with
 |none=>exact zh he h hk
 |
  some q=>
  have Bc:∀ch w',q ch w'->Q (.panic ch) a w':=hp;rcases kN (show orElse _ _ _ w from h)with⟨⟨f,args⟩,hop,h⟩|⟨_,h⟩
  ·have heq:∃ats,o.op=.call ⟨.value (.func f),args,ats⟩:=by
    unfold r8 at hop;split at hop<;>simp_all
   obtain⟨ats,heq⟩:=heq;obtain⟨dst,op,ty,pos,after,guard⟩:=o;dsimp only at heq;subst heq;rw[Oper.semAt_eq r a.eval _ (by intro c hc;cases hc)];have h1:=iy he h;have hargs:(args.toList.map a.eval).toArray=args.map a.eval:=by rw[<-Array.toList_map,Array.toArray_toList]
   obtain⟨cM,afc,h0⟩:=av h1;rcases aW h0 with⟨oF,h2⟩|⟨_,h2⟩
   ·unfold ML at h2
    rw[hargs]at h2;have hrun:(execOp a.eval ⟨dst,.call ⟨.value (.func f),args,ats⟩,ty,pos,after,guard⟩).run P w=.ok (.enter f (args.map a.eval)) w:=by
     simp only[execOp,resolve,Deferred.ofValue,Act.eval,Sem.run_bind,Sem.run_pure,Result.andThen_ok,invoke,Array.empty_append,Array.append_empty];exact gv oF
    rw[hrun];exact B6 h2 (λp w' hp=>hk _ _ _ (Good.val _) hp) Bc
   ·obtain⟨p,w',hr,h3⟩:=h2
    rw[hargs]at hr;have hrun:(execOp a.eval ⟨dst,.call ⟨.value (.func f),args,ats⟩,ty,pos,after,guard⟩).run P w=.ok (.value (nq cM p)) w':=by
     simp only[execOp,resolve,Deferred.ofValue,Act.eval,Sem.run_bind,Sem.run_pure,Result.andThen_ok,invoke,Array.empty_append,Array.append_empty];exact hr
    rw[hrun];exact hk _ _ _ (Good.val _) h3
  rcases kN h with⟨args,hop,h⟩|⟨_,h⟩
  ·have heq:(∃ats,o.op=.call ⟨.builtin .panic,args,ats⟩)\/∃x,o.op=.panic x/\args= #[x]:=by
    unfold vU at hop;split at hop<;>simp_all
   have h1:=iy he h;obtain⟨t,v,hl,h1⟩:=AD h1;clear h;obtain⟨dst,op,ty,pos,after,guard⟩:=o;dsimp only at heq;have hrun:(execOp a.eval ⟨dst,op,ty,pos,after,guard⟩).run P w=.halt (.panic (.iface t v)) w/\∀c,op≠.defer c:=by
    rcases heq with⟨ats,rfl⟩|⟨x,rfl,rfl⟩
    ·have hA:args.map a.eval= #[.iface t v]:=by
      have hargs:(args.toList.map a.eval).toArray=args.map a.eval:=by rw[<-Array.toList_map,Array.toArray_toList]
      rw[<-hargs,hl]
     refine⟨?_,by intro c hc;cases hc⟩;simp only[execOp,resolve,Sem.run_bind,Sem.run_pure,Result.andThen_ok,invoke,hA];rfl
    ·have hA:a.eval x=.iface t v:=by simpa using hl
     refine⟨?_,by intro c hc;cases hc⟩;simp only[execOp,hA];rfl
   rw[Oper.semAt_eq r a.eval _ hrun.2,hrun.1];exact Bc _ _ h1
  ·exact zh he h hk
end
section
variable{w:World}
theorem dz{x:EV}{f f':Value->Pr}(h:∀v,f v w->f' v w)(hh:nd x f w):nd x f' w:=by
 cases x with
 |no=>exact hh
 |val v=>exact h _ hh
 |lit b=>exact h _ hh
 |Db=>exact h _ hh
 |Dc _ _=>exact h _ hh
 |D6 _ _=>exact h _ hh
theorem aV{α:Type}{x:Option α}{f f':α->Pr}(h:∀v,f v w->f' v w)(hh:opt x f w):opt x f' w:=by
 cases x with
 |none=>exact hh
 |some v=>exact h _ hh
theorem L4{α:Type}{w:World}{x:Option α}{f f':α->Pr}(h:∀v,x=some v->f v w->f' v w)(hh:opt x f w):opt x f' w:=by
 cases x with
 |some v=>exact h v rfl hh
 |none=>exact hh
theorem BG{α:Type}{w:World}{x:Option α}{f f':α->Pr}{g g':Pr}(h:∀v,f v w->f' v w)(h2:g w->g' w)(hh:orElse x f g w):orElse x f' g' w:=by
 cases x with
 |some v=>exact h v hh
 |none=>exact h2 hh
theorem rV{p:Prop}[Decidable p]{f f':Pr}(h:f w->f' w)(hh:tW p f w):tW p f' w:=by
 unfold tW at *;split
 ·rename_i hp;rw[jd hp]at hh;exact h hh
 ·rename_i hp;rw[jc hp]at hh;exact hh
theorem iU{b:Bool}{f f' g g':Pr}(h:f w->f' w)(h2:g w->g' w)(hh:tf b f g w):tf b f' g' w:=by
 cases b with
 |true=>exact h hh
 |false=>exact h2 hh
theorem mN{p:Prop}{f f':Pr}(h:f w->f' w)(hh:cq p f w):cq p f' w:=⟨hh.1,h hh.2⟩
theorem nt{p:OA}{f f':Addr->Pr}(h:∀v,f v w->f' v w)(hh:deref p f w):deref p f' w:=
 let⟨a,h1,h2⟩:=gu.1 hh;gu.2 ⟨a,h1,h _ h2⟩
theorem wK{v:Value}{f f':Addr->Pr}(h:∀v,f v w->f' v w)(hh:oL v f w):oL v f' w:=by
 cases v with
 |pointer p=>exact nt h hh
 |_=>exact hh
theorem oM{v:Value}{f f':Int->Pr}(h:∀v,f v w->f' v w)(hh:mz v f w):mz v f' w:=by
 cases v with
 |int k n=>exact h _ hh
 |_=>exact hh
theorem u7{v:Value}{f f':Array Value->Pr}(h:∀v,f v w->f' v w)(hh:kC v f w):kC v f' w:=by
 cases v with
 |agg cs=>exact h _ hh
 |_=>exact hh
theorem D7{v:Value}{f f':Option Nat->Pr}(h:∀v,f v w->f' v w)(hh:wL v f w):wL v f' w:=by
 cases v with
 |map r=>exact h _ hh
 |_=>exact hh
theorem wM{x:Option EV}{f f':Option Int->Pr}(h:∀v,f v w->f' v w)(hh:Ry x f w):Ry x f' w:=by
 cases x with
 |none=>exact h _ hh
 |some x=>exact dz (λv=>oM λn=>h _) hh
theorem PL{b:Bool}{f f' g g':Pr}(h:f w->f' w)(h2:g w->g' w)(hh:br b f g w):br b f' g' w:=by
 unfold br at *;cases b<;>simp_all
theorem L5{x:EV}{f f' g g':Pr}(h:f w->f' w)(h2:g w->g' w)(hh:Ll x f g w):Ll x f' g' w:=by
 unfold Ll at *;split at hh
 ·exact h hh
 ·exact h2 hh
 ·exact PL h h2 hh
 ·exact hh.elim
theorem L6{s:CS}{a:Addr}{f f':dZ s->Pr}(h:∀v,f v w->f' v w)(hh:bI s a f w):bI s a f' w:=
 let⟨p,h1,h2⟩:=hh;⟨p,h1,h _ h2⟩
theorem L7{s:List CS}{a:Addr}{f f':mu s->Pr}(h:∀v,f v w->f' v w)(hh:bf s a f w):bf s a f' w:=
 let⟨p,h1,h2⟩:=hh;⟨p,h1,h _ h2⟩
theorem BH{P:Program}{t:TypeId}{a:Addr}{f f':Value->Pr}(h:∀v,f v w->f' v w)(hh:Tn P t a f w):Tn P t a f' w:=
 aV (λ_=>iU (aV λ_=>rV (L7 λ_=>h _)) (aV λ_=>aV λ_=>L6 λ_=>h _)) hh
theorem rW:∀{l:List EV} {f f':LV->Pr} (_:∀v,f v w->f' v w),Lm l f w->Lm l f' w
 |[],_,_,h,hh=>h _ hh
 |_::_,_,_,h,hh=>dz (λ_=>rW λ_=>h _) hh
theorem L8{n:Nat}{s:Sl}{lo hi mx:Option Int}{f f':Sl->Pr}(h:∀v,f v w->f' v w)(hh:slc n s lo hi mx f w):slc n s lo hi mx f' w:=
 ⟨hh.1,hh.2.1,hh.2.2.1,hh.2.2.2.1,h _ hh.2.2.2.2⟩
theorem BI{s:ByteArray}{lo hi:Option Int}{f f':ByteArray->Pr}(h:∀v,f v w->f' v w)(hh:tX s lo hi f w):tX s lo hi f' w:=
 ⟨hh.1,hh.2.1,h _ hh.2.2⟩
theorem D8{kd:TypeDesc}{r:Option Nat}{key zero:Value}{sh:CS}{f f':dZ sh->Bool->Pr}(h:∀v b,f v b w->f' v b w)(hh:gP kd r key sh zero f w):gP kd r key sh zero f' w:=
 let⟨es,res,p,h1,h2,h3,h4⟩:=hh;⟨es,res,p,h1,h2,h3,h _ _ h4⟩
theorem BJ{r:Option Nat}{f f':Int->Pr}(h:∀v,f v w->f' v w)(hh:oN r f w):oN r f' w:=
 let⟨es,h1,h2⟩:=hh;⟨es,h1,h _ h2⟩
theorem I9{op:BinOp}{x y:Value}{f f':EV->Pr}(h:∀v,f v w->f' v w)(hh:Ad op x y f w):Ad op x y f' w:=by
 unfold Ad at *;split at hh<;>first
  |exact hh.elim
  |exact⟨hh.1,h _ hh.2⟩
  |exact h _ hh
  |(
   split at hh
   ·rename_i hk
    first
     |exact(show(if _ then _ else _:Pr) w by rw[jd hk];exact h _ hh)
     |exact(show(if _ then _ else _:Pr) w by rw[jd hk];exact⟨hh.1,h _ hh.2⟩)
   ·exact hh.elim)
theorem L9{P:Program}{t:TypeId}{x y:Value}{f f':Bool->Pr}(h:∀v,f v w->f' v w)(hh:To P t x y f w):To P t x y f' w:=by
 exact aV (λd=>aV λr=>mN (h _)) hh
theorem pP{op:BinOp}{f f':Bool->Pr}(h:∀v,f v w->f' v w)(hh:BK op f w):BK op f' w:=by
 cases op<;>first|exact hh.elim|exact h _ hh
theorem Ma{op:UnOp}{x:EV}{f f':EV->Pr}(h:∀v,f v w->f' v w)(hh:PM op x f w):PM op x f' w:=by
 unfold PM at *;split at hh<;>first
  |exact hh.elim
  |exact h _ hh
theorem Ja{P:Program}{u v:Value}{f f':Bool->Pr}(h:∀v,f v w->f' v w)(hh:BM P u v f w):BM P u v f' w:=
 let⟨tx,x,ty,y,h1,h2,b,h3,h4⟩:=hh;⟨tx,x,ty,y,h1,h2,b,h3,h _ h4⟩
theorem Jb{P:Program}{t:TypeId}{fs:Array Field}{u v:Value}{f f':Bool->Pr}(h:∀v,f v w->f' v w)(hh:BN P t fs u v f w):BN P t fs u v f' w:=by
 refine iU (λh=>h) (λh1=>?_) hh;obtain⟨xs,ys,rfl,rfl,h2⟩:=nu h1;exact aV (λ_=>h _) h2
theorem Jc{P:Program}{t:TypeId}{u v:Value}{f f':Bool->Pr}(h:∀v,f v w->f' v w)(hh:Ae P t u v f w):Ae P t u v f' w:=
 BG (λ_=>Jb h) (L9 h) hh
theorem Jd{u v:Value}{f f':Bool->Pr}(h:∀v,f v w->f' v w)(hh:wN u v f w):wN u v f' w:=by
 unfold wN at *;split at hh
 ·exact⟨hh.1,h _ hh.2⟩
 ·exact hh.elim
theorem PN{v:Value}{f f':Pr}(h:f w->f' w)(hh:na v f w):na v f' w:=by
 cases v<;>first|exact hh|exact h hh
theorem qD{agg:Nat->Bool}{place:Nat->Option (Nat×Nat)}:∀{ps:List (Nat×Value)} {cells:LV} {f f':LV->Pr},(∀v,f v w->f' v w)->j7 agg place cells ps f w->j7 agg place cells ps f' w
 |[],_,_,_,h,hh=>h _ hh
 |_::_,_,_,_,h,hh=>aV (λ_=>iU (u7 λ_=>rV (qD h)) (PN (rV (qD h)))) hh
theorem rX{e:Env}:∀{l:List (Nat×Operand)} {f f':List (Nat×Value)->Pr},(∀v,f v w->f' v w)->l5 e l f w->l5 e l f' w
 |[],_,_,h,hh=>h _ hh
 |_::_,_,_,h,hh=>dz (λ_=>rX λ_=>h _) hh
theorem Mb{s:Sl}{f f':ByteArray->Pr}(h:∀v,f v w->f' v w)(hh:Af s f w):Af s f' w:=
 let⟨l,h1,h2,h3⟩:=hh;⟨l,h1,h2,h _ h3⟩
theorem D9{P:Program}{s d:TypeId}{x:Value}{f f':EV->Pr}(hd:cN P d=none)(h:∀v,f v w->f' v w)(hh:u9 P s d x f w):u9 P s d x f' w:=by
 refine aV (λd=>L4 λe he h9=>?_) hh;split at h9
 ·exact h _ h9
 ·exact h _ h9
 ·unfold cN at hd
  rw[he]at hd;cases hd
 ·unfold cN at hd
  rw[he]at hd;cases hd
 ·refine aV (λu h8=>?_) h9
  split at h8
  ·exact Mb (λ_=>h _) h8
  ·exact h8.elim
 ·exact h9.elim
theorem Je{l:LV}{f f':Value->Pr}(h:∀v,f v w->f' v w)(hh:yI l f w):yI l f' w:=by
 unfold yI at *;split at hh<;>first|exact hh.elim|exact h _ hh
theorem Jf{l:LV}{f f':Value->Pr}(h:∀v,f v w->f' v w)(hh:yJ l f w):yJ l f' w:=by
 unfold yJ at *;split at hh<;>first|exact hh.elim|exact h _ hh
end
def cu(P:Program)(o:Oper):Bool:=
 match o.op with
 |.move _|.assign _|.pick _ _ _|.load _ _|.nilCheck _|.binOp _ _ _ _ _|.unOp _ _ _|.makeFunc _ _ _|.slice _ _ _ _ _|.fieldAddr _ _ _|.field _ _ _
 |.indexAddr _ _ _|.index _ _ _|.lookup _ _ _ _|.extract _ _|.makeInterface _ _|.build _ _=>true
 |.convert _ d _=>match cN P d with|none=>true|some _=>false
 |.call {callee:=.builtin .len, .. }|.call {callee:=.builtin .cap, .. }|.call {callee:=.builtin .min, .. }|.call {callee:=.builtin .max, .. }=>true
 |_=>false
section
variable{P:Program}{e:Env}{w:World}{k:EV->Pr}
def Rz:Builtin->Bool
 |.len|.cap|.min|.max=>true
 |_=>false
theorem yK{b:Builtin}{ts:List TypeId}{args:LV}{k':EV->Pr}(hb:Rz b=true)(hk:∀x,k x w->k' x w)(h:fJ P b ts args k w):fJ P b ts args k' w:=by
 unfold fJ at *;split at h<;>first
  |exact h.elim
  |exact aV (λ_=>aV λ_=>hk _) h
  |exact aV (λ_=>aV λ_=>BJ λ_=>hk _) h
  |exact Je (λ_=>hk _) h
  |exact Jf (λ_=>hk _) h
  |(
   refine aV (λ_=>aV λd h=>?_) h
   cases d<;>first|exact h.elim|exact hk _ h)
  |simp[Rz]at hb
theorem Mc{o:Oper}{k':EV->Pr}(hr:cu P o=true)(hk:∀x,k x w->k' x w)(h:cop P o e k w):cop P o e k' w:=by
 obtain⟨dst,op,ty,pos,after,guard⟩:=o;cases op<;>simp only[cu,Bool.false_eq_true]at hr<;>simp only[cop]at h⊢
 case move x=>exact dz (λ_=>hk _) h
 case assign x=>exact dz (λ_=>hk _) h
 case pick c x y=>exact L5 (dz λ_=>hk _) (dz λ_=>hk _) h
 case load t x=>exact dz (λ_=>wK λ_=>BH λ_=>hk _) h
 case nilCheck x=>
  refine dz (λv h=>?_) h;cases v<;>first
   |exact nt (λ_=>hk _) h
   |exact mN (hk _) h
   |exact h
 case binOp op t x y ty2=>
  refine iU (dz λu=>pP λneg=>mN (hk _)) (λh=>?_) h;refine dz (λu=>dz λv=>iU (pP λneg=>Ja λ_=>hk _)<|iU (pP λneg=>Jd λ_=>hk _)<|iU (I9 hk) λh=>?_) h;exact pP (λneg=>Jc λ_=>hk _) h
 case unOp op t x=>exact Ma hk h
 case convert s d x=>
  have hd:cN P d=none:=by
   cases hs:cN P d with
   |none=>rfl
   |some _=>rw[hs]at hr;cases hr
  exact dz (λ_=>D9 hd hk) h
 case makeFunc fn f c=>exact rW (λ_=>rW λ_=>hk _) h
 case makeInterface t x=>exact dz (λ_=>aV λ_=>iU (λh=>h) (hk _)) h
 case build t ps=>
  refine aV (λz=>rX λps=>aV λd h=>?_) h;cases d<;>first
   |exact h.elim
   |exact aV (λ_=>qD λ_=>hk _) h
 case slice t x lo hi mx=>
  refine dz (λv=>wM λl=>wM λh=>wM λm h=>?_) h;cases v<;>first
   |exact aV (λ_=>aV λ_=>L8 λ_=>hk _) h
   |(
    refine aV (λd h=>?_) h
    cases d<;>first
     |exact h.elim
     |(cases m<;>first|exact h.elim|exact BI (λ_=>hk _) h))
   |exact h
 case fieldAddr s x f=>exact dz (λ_=>wK λ_=>aV λ_=>aV λ_=>rV (hk _)) h
 case field s x f=>exact dz (λ_=>u7 λ_=>aV λ_=>aV λ_=>aV λ_=>iU (hk _) (aV λ_=>hk _)) h
 case indexAddr t x ix=>
  refine dz (λv=>dz λ_=>oM λn h=>?_) h;cases v<;>first
   |exact aV (λ_=>aV λ_=>mN (nt λ_=>hk _)) h
   |(
    refine aV (λd h=>?_) h
    cases d<;>first
     |exact h.elim
     |exact aV (λ_=>mN (nt λ_=>hk _)) h)
   |exact h
 case index t x ix=>
  refine dz (λv=>dz λ_=>oM λn h=>?_) h;cases v<;>first
   |(
    refine aV (λd h=>?_) h
    cases d<;>first
     |exact h.elim
     |exact mN (hk _) h)
   |exact h
 case lookup t x ix ok=>
  exact dz (λ_=>dz λ_=>D7 λ_=>aV λ_=>aV λ_=>iU (aV λ_=>aV λ_=>aV λ_=>D8 λ_ _=>iU (hk _) (hk _)) id) h
 case extract t ix=>
  cases hx:Env.ev e t with
  |
   Db=>
   rw[hx]at h
   match ix,h with
   |0,h=>exact hk _ h
   |_+1,h=>exact h.elim
  |
   Dc k1 v1=>
   rw[hx]at h
   match ix,h with
   |0,h=>exact hk _ h
   |1,h=>exact hk _ h
   |2,h=>exact hk _ h
   |_+3,h=>exact h.elim
  |
   D6 k1 v1=>
   rw[hx]at h
   match ix,h with
   |0,h=>exact aV (λ_ h=>aV (λ_ ⟨p,hp,h⟩=>⟨p,hp,hk _ h⟩) h) (show va P _ _ w from h)
   |1,h=>exact aV (λ_ h=>aV (λ_ ⟨p,hp,h⟩=>⟨p,hp,hk _ h⟩) h) (show va P _ _ w from h)
   |_+2,h=>exact h.elim
  |no=>rw[hx]at h;exact h.elim
  |lit b=>rw[hx]at h;exact h.elim
  |
   val v=>
   rw[hx]at h;cases v<;>first|exact h.elim|skip
   exact aV (λ_=>hk _) (show opt _ _ w from h)
 case call c=>
  obtain⟨callee,args,ats⟩:=c;cases callee<;>(try(simp at hr;done));rename_i b;refine rW (λargs h=>?_) h;refine yK (b:=b) ?_ hk h;cases b<;>first|rfl|simp at hr
theorem Md{o:Oper}(hr:cu P o=true)(h:cop P o e k w):cop P o e (λx w'=>k x w'/\w'=w) w:=Mc hr (λ_ h=>⟨h,rfl⟩) h
end
section
variable{w:World}
theorem fR{x:EV}{f:Value->Pr}(hh:nd x f w):∃v,f v w/\∀(f':Value->Pr) w',f' v w'->nd x f' w':=by
 cases x with
 |no=>exact hh.elim
 |val v=>exact⟨v,hh,λ_ _ h=>h⟩
 |lit b=>exact⟨_,hh,λ_ _ h=>h⟩
 |Db=>exact⟨_,hh,λ_ _ h=>h⟩
 |Dc _ _=>exact⟨_,hh,λ_ _ h=>h⟩
 |D6 _ _=>exact⟨_,hh,λ_ _ h=>h⟩
theorem vR{x:EV}{k:EV->Pr}(hh:nd x (λ_=>k x) w):∃y v,y.v? =some v/\k y w/\∀(k':EV->Pr) w',k' y w'->nd x (λ_=>k' x) w':=by
 cases x with
 |no=>exact hh.elim
 |val v=>exact⟨_,v,rfl,hh,λ_ _ h=>h⟩
 |lit b=>exact⟨_,_,rfl,hh,λ_ _ h=>h⟩
 |Db=>exact⟨_,_,rfl,hh,λ_ _ h=>h⟩
 |Dc _ _=>exact⟨_,_,rfl,hh,λ_ _ h=>h⟩
 |D6 _ _=>exact⟨_,_,rfl,hh,λ_ _ h=>h⟩
theorem bK{α:Type}{x:Option α}{f:α->Pr}(hh:opt x f w):∃v,f v w/\∀(f':α->Pr) w',f' v w'->opt x f' w':=by
 cases x with
 |none=>exact hh.elim
 |some v=>exact⟨v,hh,λ_ _ h=>h⟩
theorem vS{p:Prop}[Decidable p]{f:Pr}(hh:tW p f w):f w/\∀(f':Pr) w',f' w'->tW p f' w':=by
 obtain⟨hp,h⟩:=eH hh;exact⟨h,λf' w' h'=>by unfold tW;rw[jd hp];exact h'⟩
theorem pQ{p:OA}{f:Addr->Pr}(hh:deref p f w):∃v,f v w/\∀(f':Addr->Pr) w',f' v w'->deref p f' w':=
 let⟨a,h1,h2⟩:=gu.1 hh;⟨a,h2,λ_ _ h=>gu.2 ⟨a,h1,h⟩⟩
theorem PO{x:EV}{f g:Pr}(hh:Ll x f g w):(f w/\∀(f' g':Pr) w',f' w'->Ll x f' g' w')\/(g w/\∀(f' g':Pr) w',g' w'->Ll x f' g' w'):=by
 unfold Ll at *;split at hh
 ·exact .inl ⟨hh,λ_ _ _ h=>h⟩
 ·exact .inr ⟨hh,λ_ _ _ h=>h⟩
 ·rename_i b
  unfold br at *;cases b with
  |true=>exact .inl ⟨by simpa using hh,λf' g' w' h=>by simpa using h⟩
  |false=>exact .inr ⟨by simpa using hh,λf' g' w' h=>by simpa using h⟩
 ·exact hh.elim
theorem y4{v:Value}{f:Addr->Pr}(hh:oL v f w):∃a,f a w/\∀(f':Addr->Pr) w',f' a w'->oL v f' w':=by
 cases v with
 |pointer p=>exact pQ hh
 |_=>exact hh.elim
theorem wO{v:Value}{f:Int->Pr}(hh:mz v f w):∃a,f a w/\∀(f':Int->Pr) w',f' a w'->mz v f' w':=by
 cases v with
 |int k n=>exact⟨n,hh,λ_ _ h=>h⟩
 |_=>exact hh.elim
theorem wP{v:Value}{f:Array Value->Pr}(hh:kC v f w):∃a,f a w/\∀(f':Array Value->Pr) w',f' a w'->kC v f' w':=by
 cases v with
 |agg k=>exact⟨k,hh,λ_ _ h=>h⟩
 |_=>exact hh.elim
theorem Ah{x:Option EV}{f:Option Int->Pr}(hh:Ry x f w):∃a,f a w/\∀(f':Option Int->Pr) w',f' a w'->Ry x f' w':=by
 cases x with
 |none=>exact⟨none,hh,λ_ _ h=>h⟩
 |
  some x=>
  obtain⟨v,h1,h2⟩:=fR hh;obtain⟨n,h3,h4⟩:=wO h1;exact⟨some n,h3,λf' w' h=>h2 _ _ (h4 (λn=>f' (some n)) _ h)⟩
theorem vT:∀{l:List EV} {f:LV->Pr},Lm l f w->∃a,f a w/\∀(f':LV->Pr) w',f' a w'->Lm l f' w'
 |[],_,hh=>⟨[],hh,λ_ _ h=>h⟩
 |
  x::l,f,hh=>by
  obtain⟨v,h1,h2⟩:=fR hh;obtain⟨vs,h3,h4⟩:=vT h1;exact⟨v::vs,h3,λf' w' h=>h2 _ _ (h4 (λvs=>f' (v::vs)) _ h)⟩
theorem PR{n:Nat}{s:Sl}{lo hi mx:Option Int}{f:Sl->Pr}(hh:slc n s lo hi mx f w):∃r,f r w/\∀(f':Sl->Pr) w',f' r w'->slc n s lo hi mx f' w':=
 ⟨_,hh.2.2.2.2,λ_ _ h=>⟨hh.1,hh.2.1,hh.2.2.1,hh.2.2.2.1,h⟩⟩
theorem Ea{s:ByteArray}{lo hi:Option Int}{f:ByteArray->Pr}(hh:tX s lo hi f w):∃r,f r w/\∀(f':ByteArray->Pr) w',f' r w'->tX s lo hi f' w':=
 ⟨_,hh.2.2,λ_ _ h=>⟨hh.1,hh.2.1,h⟩⟩
theorem Me{op:BinOp}{x y:Value}{k:EV->Pr}(hh:Ad op x y k w):∃v,k (.val v) w/\∀(k':EV->Pr) w',k' (.val v) w'->Ad op x y k' w':=by
 unfold Ad at *;split at hh<;>first
  |exact hh.elim
  |exact⟨_,hh.2,λ_ _ h=>⟨hh.1,h⟩⟩
  |(
   split at hh
   ·rename_i hk
    first
     |exact⟨_,hh.2,λk' w' h=>by rw[jd hk];exact⟨hh.1,h⟩⟩
     |exact⟨_,hh,λk' w' h=>by rw[jd hk];exact h⟩
   ·exact hh.elim)
  |exact⟨_,hh,λ_ _ h=>h⟩
theorem PS{P:Program}{t:TypeId}{x y:Value}{f:Bool->Pr}(hh:To P t x y f w):∃b,f b w/\∀(f':Bool->Pr) w',f' b w'->To P t x y f' w':=by
 obtain⟨d,h1,g1⟩:=bK hh;obtain⟨r,h2,g2⟩:=bK h1;exact⟨r.2,h2.2,λf' w' h=>g1 _ _ (g2 _ _ ⟨h2.1,h⟩)⟩
theorem Mf{P:Program}{x y:Value}{f:Bool->Pr}(hh:BM P x y f w):∃b,f b w/\∀(f':Bool->Pr) w',f' b w'->BM P x y f' w':=by
 obtain⟨tx,u,ty,v,h1,h2,b,h3,h4⟩:=hh;exact⟨b,h4,λf' w' h=>⟨tx,u,ty,v,h1,h2,b,h3,h⟩⟩
theorem Mg{x y:Value}{f:Bool->Pr}(hh:wN x y f w):∃b,f b w/\∀(f':Bool->Pr) w',f' b w'->wN x y f' w':=by
 unfold wN at *;split at hh
 ·exact⟨_,hh.2,λf' w' h=>⟨hh.1,h⟩⟩
 ·exact hh.elim
theorem Mh{P:Program}{t:TypeId}{x y:Value}{f:Bool->Pr}(hh:Ae P t x y f w):∃b,f b w/\∀(f':Bool->Pr) w',f' b w'->Ae P t x y f' w':=by
 unfold Ae at hh⊢;cases hs:nv P t with
 |
  some fs=>
  rw[hs]at hh;have h0:BN P t fs x y f w:=hh;unfold BN at h0;cases hg:(P.eqGuardType P.depth t||P.stoodInHeld t)with
  |true=>rw[hg]at h0;exact h0.elim
  |
   false=>
   rw[hg]at h0;obtain⟨xs,ys,rfl,rfl,h1⟩:=nu (show Ai x y (λxs ys=>opt (Tp P xs ys fs.toList) f) w from h0);obtain⟨b,h2,g2⟩:=bK h1;refine⟨b,h2,λf' w' h=>?_⟩;show BN P t fs _ _ f' w';unfold BN;rw[hg];exact g2 _ _ h
 |
  none=>
  rw[hs]at hh;exact PS hh
theorem rY{op:BinOp}{f:Bool->Pr}(hh:BK op f w):∃b,f b w/\∀(f':Bool->Pr) w',f' b w'->BK op f' w':=by
 cases op<;>first|exact hh.elim|exact⟨_,hh,λ_ _ h=>h⟩
theorem PT{op:UnOp}{x:EV}{k:EV->Pr}(hh:PM op x k w):∃y v,y.v? =some v/\k y w/\∀(k':EV->Pr) w',k' y w'->PM op x k' w':=by
 unfold PM at *;split at hh<;>first
  |exact hh.elim
  |exact⟨_,_,rfl,hh,λ_ _ h=>h⟩
end
def Eb(P:Program)(t:TypeId):Bool:=
 match P.underlying t with
 |some (.map _ _)=>false
 |some _=>true
 |none=>false
def BO(P:Program)(b:Builtin)(ts:List TypeId):Bool:=
 match b with
 |.min=>true
 |.max=>true
 |.len=>(match ts with|t::_=>Eb P t|[]=>false)
 |.cap=>(match ts with|t::_=>Eb P t|[]=>false)
 |_=>false
def gG(P:Program)(o:Oper):Bool:=
 match o.op with
 |.move _|.assign _|.pick _ _ _|.nilCheck _|.binOp _ _ _ _ _|.unOp _ _ _|.makeFunc _ _ _|.slice _ _ _ _ _|.fieldAddr _ _ _|.field _ _ _
 |.indexAddr _ _ _|.extract _ _|.makeInterface _ _|.build _ _=>true
 |.convert s d _=>kD P s&&kD P d
 |.call {callee:=.builtin b,argTypes:=ts, .. }=>BO P b ts.toList
 |_=>false
section
variable{P:Program}{e:Env}{a:Act}{w:World}{k:EV->Pr}
theorem Mi{l:LV}{f:Value->Pr}(hh:yI l f w):∃v,f v w/\∀(f':Value->Pr) w',f' v w'->yI l f' w':=by
 unfold yI at hh;split at hh<;>first|exact hh.elim|exact⟨_,hh,λ_ _ h=>h⟩
theorem Mj{l:LV}{f:Value->Pr}(hh:yJ l f w):∃v,f v w/\∀(f':Value->Pr) w',f' v w'->yJ l f' w':=by
 unfold yJ at hh;split at hh<;>first|exact hh.elim|exact⟨_,hh,λ_ _ h=>h⟩
theorem Aj{b:Builtin}{ts:List TypeId}{args:LV}(hb:BO P b ts=true)(h:fJ P b ts args k w):
 ∃x v,x.v? =some v/\k x w/\∀(k':EV->Pr) w',k' x w'->fJ P b ts args k' w':=by
 cases b<;>simp only[BO,Bool.false_eq_true]at hb
 case min=>
  obtain⟨v,h1,g1⟩:=Mi (show yI args _ w from h);exact⟨.val v,v,rfl,h1,λk' w' h=>g1 (λv=>k' (.val v)) _ h⟩
 case max=>
  obtain⟨v,h1,g1⟩:=Mj (show yJ args _ w from h);exact⟨.val v,v,rfl,h1,λk' w' h=>g1 (λv=>k' (.val v)) _ h⟩
 case len=>
  cases ts with
  |nil=>cases hb
  |
   cons t ts=>
   match args,h with
   |
    [.slice a n c],h=>
    simp only[fJ]at h⊢;obtain⟨t',h1,g1⟩:=bK h;obtain⟨e,h2,g2⟩:=bK h1;exact⟨_,_,rfl,h2,λk' w' h=>g1 _ _ (g2 (λ_=>k' (.val (.int .i64 n))) _ h)⟩
   |
    [.string s],h=>
    simp only[fJ]at h⊢;obtain⟨t',h1,g1⟩:=bK h;obtain⟨d,h2,g2⟩:=bK h1;cases d<;>first|exact h2.elim|skip
    exact⟨_,_,rfl,h2,λk' w' h=>g1 _ _ (g2 _ _ h)⟩
   |
    [.map r],h=>
    exfalso;simp only[fJ]at h;obtain⟨t',ht,h1⟩:=av h;simp only[List.getElem?_cons_zero,jg]at ht;subst ht;obtain⟨ke,LD,_⟩:=av h1;have:=fM LD;simp[Eb,this]at hb
 case cap=>
  cases ts with
  |nil=>cases hb
  |
   cons t ts=>
   match args,h with
   |
    [.slice a m n],h=>
    simp only[fJ]at h⊢;obtain⟨t',h1,g1⟩:=bK h;obtain⟨e,h2,g2⟩:=bK h1;exact⟨_,_,rfl,h2,λk' w' h=>g1 _ _ (g2 (λ_=>k' (.val (.int .i64 n))) _ h)⟩
theorem Tq{v:Value}{f:Pr}(hh:na v f w):f w/\∀(f':Pr) w',f' w'->na v f' w':=by
 cases v<;>first|exact hh.elim|exact⟨hh,λ_ _ h=>h⟩
theorem tY{agg:Nat->Bool}{place:Nat->Option (Nat×Nat)}:∀{ps:List (Nat×Value)} {cells:LV} {f:LV->Pr},j7 agg place cells ps f w->∃c,f c w/\∀(f':LV->Pr) w',f' c w'->j7 agg place cells ps f' w'
 |[],cells,f,h=>⟨cells,h,λ_ _ h=>h⟩
 |
  (i,v)::ps,cells,f,h=>by
  obtain⟨os,h1,g1⟩:=bK (show opt (place i) _ w from h);have hh:∀(f':LV->Pr) w',(tf (agg i) (kC v λcs=>tW (cs.size=os.2/\os.1+os.2<=cells.length) (j7 agg place (cells.take os.1++cs.toList++cells.drop (os.1+os.2)) ps f'))
   (na v (tW (os.2=1/\os.1+1<=cells.length) (j7 agg place (cells.set os.1 v) ps f')))) w'->j7 agg place cells ((i,v)::ps) f' w':=λf' w' h=>g1 (λos=>tf (agg i) (kC v λcs=>tW (cs.size=os.2/\os.1+os.2<=cells.length) (j7 agg place (cells.take os.1++cs.toList++cells.drop (os.1+os.2)) ps f'))
   (na v (tW (os.2=1/\os.1+1<=cells.length) (j7 agg place (cells.set os.1 v) ps f')))) w' h
  cases ha:agg i with
  |
   true=>
   rw[ha]at h1;obtain⟨cs,h2,g2⟩:=wP (show kC v _ w from h1);obtain⟨h3,g3⟩:=vS h2;obtain⟨c,h4,g4⟩:=tY h3;refine⟨c,h4,λf' w' h=>hh f' w' ?_⟩;rw[ha];exact g2 (λcs=>tW (cs.size=os.2/\os.1+os.2<=cells.length) (j7 agg place (cells.take os.1++cs.toList++cells.drop (os.1+os.2)) ps f')) _ (g3 _ _ (g4 _ _ h))
  |
   false=>
   rw[ha]at h1;obtain⟨h2,g2⟩:=Tq (show na v _ w from h1);obtain⟨h3,g3⟩:=vS h2;obtain⟨c,h4,g4⟩:=tY h3;refine⟨c,h4,λf' w' h=>hh f' w' ?_⟩;rw[ha];exact g2 _ _ (g3 _ _ (g4 _ _ h))
theorem vb{e:Env}:∀{l:List (Nat×Operand)} {f:List (Nat×Value)->Pr},l5 e l f w->∃c,f c w/\∀(f':List (Nat×Value)->Pr) w',f' c w'->l5 e l f' w'
 |[],f,h=>⟨[],h,λ_ _ h=>h⟩
 |
  (i,x)::l,f,h=>by
  obtain⟨v,h1,g1⟩:=fR h;obtain⟨c,h2,g2⟩:=vb h1;exact⟨(i,v)::c,h2,λf' w' h=>g1 _ _ (g2 (λvs=>f' ((i,v)::vs)) _ h)⟩
theorem PU{o:Oper}(hr:gG P o=true)(h:cop P o e k w):∃x v,x.v? =some v/\k x w/\∀(k':EV->Pr) w',k' x w'->cop P o e k' w':=by
 obtain⟨dst,op,ty,pos,after,guard⟩:=o;cases op<;>simp only[gG,Bool.false_eq_true]at hr<;>simp only[cop]at h⊢
 case move x=>exact vR h
 case assign x=>exact vR h
 case pick c x y=>
  unfold Mk at *;rcases PO h with⟨h,g⟩|⟨h,g⟩
  ·obtain⟨z,v,h1,h2,h3⟩:=vR h
   exact⟨z,v,h1,h2,λk' w' h=>g _ _ _ (h3 k' w' h)⟩
  ·obtain⟨z,v,h1,h2,h3⟩:=vR h
   exact⟨z,v,h1,h2,λk' w' h=>g _ _ _ (h3 k' w' h)⟩
 case nilCheck x=>
  obtain⟨v,h1,h2⟩:=fR h;clear h;cases v with
  |
   pointer p=>
   obtain⟨ad,h3,h4⟩:=pQ h1;exact⟨_,_,rfl,h3,λk' w' h=>h2 _ _ (h4 _ _ h)⟩
  |func fn f1 f2=>exact⟨_,_,rfl,h1.2,λk' w' h=>h2 _ _ ⟨h1.1,h⟩⟩
  |int _ _=>exact h1.elim
  |bool _=>exact h1.elim
  |string _=>exact h1.elim
  |nilIface=>exact h1.elim
  |slice _ _ _=>exact h1.elim
  |map _=>exact h1.elim
  |float _ _=>exact(h1.1:False).elim
  |complex _ _ _=>exact(h1.1:False).elim
  |chan _=>exact(h1.1:False).elim
  |nilFunc=>exact(h1.1:False).elim
  |iface _ _=>exact(h1.1:False).elim
  |agg _=>exact(h1.1:False).elim
  |tuple _=>exact(h1.1:False).elim
 case binOp op t x y ty2=>
  cases hb:(Ml y&&Ec P t)with
  |
   true=>
   rw[hb]at h;simp only[tf]at h⊢;obtain⟨u,h1,h2⟩:=fR h;obtain⟨neg,h3,g3⟩:=rY (f:=λneg=>cq (isI u) (k (.val (.bool (if neg then !oO u else oO u))))) h1;exact⟨_,_,rfl,h3.2,λk' w' h=>h2 _ _ (g3 (λneg=>cq (isI u) (k' (.val (.bool (if neg then !oO u else oO u))))) _ ⟨h3.1,h⟩)⟩
  |false=>
  rw[hb]at h;simp only[tf]at h⊢;obtain⟨u,h1,h2⟩:=fR h;obtain⟨v,h3,h4⟩:=fR h1;clear h h1;cases hi:Ec P t with
  |
   true=>
   rw[hi]at h3;obtain⟨neg,Xw,g4⟩:=rY (f:=λneg=>BM P u v λb=>k (.val (.bool (if neg then !b else b)))) h3;obtain⟨r,h5,h6⟩:=Mf Xw;exact⟨_,_,rfl,h5,λk' w' h=>h2 _ _ (h4 _ _ (by exact g4 (λneg=>BM P u v λb=>k' (.val (.bool (if neg then !b else b)))) _ (h6 (λb=>k' (.val (.bool (if neg then !b else b)))) _ h)))⟩
  |false=>
  rw[hi]at h3;cases hp:PV P t x y with
  |
   true=>
   rw[hp]at h3;obtain⟨neg,Xw,g4⟩:=rY (f:=λneg=>wN u v λb=>k (.val (.bool (if neg then !b else b)))) h3;obtain⟨r,h5,h6⟩:=Mg Xw;exact⟨_,_,rfl,h5,λk' w' h=>h2 _ _ (h4 _ _ (by exact g4 (λneg=>wN u v λb=>k' (.val (.bool (if neg then !b else b)))) _ (h6 (λb=>k' (.val (.bool (if neg then !b else b)))) _ h)))⟩
  |false=>
  rw[hp]at h3;replace h4:∀(f':Value->Pr) w',f' v w'->nd (Env.ev e y) f' w':=h4;cases hn:Ak v u with
  |
   true=>
   rw[hn]at h3;obtain⟨r,h5,h6⟩:=Me h3;exact⟨_,_,rfl,h5,λk' w' h=>h2 _ _ (h4 _ _ (by rw[hn];exact h6 _ _ h))⟩
  |
   false=>
   rw[hn]at h3;obtain⟨neg,Xw,g4⟩:=rY (f:=λneg=>Ae P t u v λb=>k (.val (.bool (if neg then !b else b)))) h3;obtain⟨r,h5,h6⟩:=Mh Xw;exact⟨_,_,rfl,h5,λk' w' h=>h2 _ _ (h4 _ _ (by rw[hn];exact g4 (λneg=>Ae P t u v λb=>k' (.val (.bool (if neg then !b else b)))) _ (h6 (λb=>k' (.val (.bool (if neg then !b else b)))) _ h)))⟩
 case unOp op t x=>exact PT h
 case makeInterface t x=>
  obtain⟨v,h1,g1⟩:=fR h;obtain⟨d,h2,g2⟩:=bK h1;cases hi:vc d with
  |true=>rw[hi]at h2;exact h2.elim
  |
   false=>
   rw[hi]at h2;refine⟨_,_,rfl,h2,λk' w' h=>g1 _ _ (g2 (λd=>tf (vc d) dM (k' (.val (.iface t v)))) _ ?_)⟩;rw[hi];exact h
 case build t ps=>
  obtain⟨z,h1,g1⟩:=bK h;obtain⟨l,h2,g2⟩:=vb h1;obtain⟨d,h3,g3⟩:=bK h2;clear h h1 h2;cases d<;>first|exact h3.elim|skip
  all_goals
   obtain⟨q,h4,g4⟩:=bK h3;obtain⟨cs,h5,g5⟩:=tY h4;exact⟨_,_,rfl,h5,λk' w' h=>g1 _ _ (g2 _ _ (g3 _ _ (g4 _ _ (g5 (λcs=>k' (.val (.agg cs.toArray))) _ h))))⟩
 case makeFunc fn f c=>
  obtain⟨u,h1,h2⟩:=vT h;obtain⟨v,h3,h4⟩:=vT h1;exact⟨_,_,rfl,h3,λk' w' h=>h2 _ _ (h4 _ _ h)⟩
 case slice t x lo hi mx=>
  obtain⟨v,h1,g1⟩:=fR h;obtain⟨l,h2,g2⟩:=Ah h1;obtain⟨hh,h3,g3⟩:=Ah h2;obtain⟨m,h4,g4⟩:=Ah h3;clear h h1 h2 h3;cases v<;>first|exact h4.elim|skip
  ·obtain⟨d,h5,g5⟩:=bK h4
   clear h4;cases d<;>first|exact h5.elim|skip
   cases m<;>first|exact h5.elim|skip
   obtain⟨r,h6,g6⟩:=Ea h5;exact⟨_,_,rfl,h6,λk' w' h=>g1 _ _ (g2 _ _ (g3 _ _ (g4 _ _ (g5 _ _ (g6 _ _ h)))))⟩
  ·obtain⟨d,h5,g5⟩:=bK h4
   obtain⟨i,h6,g6⟩:=bK h5;obtain⟨r,h7,g7⟩:=PR h6;exact⟨_,_,rfl,h7,λk' w' h=>g1 _ _ (g2 _ _ (g3 _ _ (g4 _ _ (g5 _ _ (g6 _ _ (g7 (λs=>k' (.val (.slice s.a s.len s.cap))) _ h))))))⟩
 case fieldAddr s x f=>
  obtain⟨v,h1,g1⟩:=fR h;obtain⟨ad,h2,g2⟩:=y4 h1;obtain⟨fl,h3,g3⟩:=bK h2;obtain⟨i,h4,g4⟩:=bK h3;obtain⟨h5,g5⟩:=vS h4;exact⟨_,_,rfl,h5,λk' w' h=>g1 _ _ (g2 _ _ (g3 _ _ (g4 _ _ (g5 _ _ h))))⟩
 case field s x f=>
  obtain⟨v,h1,g1⟩:=fR h;obtain⟨ad,h2,g2⟩:=wP h1;obtain⟨fl,h3,g3⟩:=bK h2;obtain⟨i,h4,g4⟩:=bK h3;obtain⟨d,h5,g5⟩:=bK h4;clear h h1 h2 h3 h4;cases hb:fh P fl.type with
  |
   true=>
   rw[hb]at h5;exact⟨_,_,rfl,h5,λk' w' h=>g1 _ _ (g2 _ _ (g3 _ _ (g4 _ _ (g5 _ _ (by rw[hb];exact h)))))⟩
  |
   false=>
   rw[hb]at h5;obtain⟨c,h6,g6⟩:=bK h5;exact⟨_,_,rfl,h6,λk' w' h=>g1 _ _ (g2 _ _ (g3 _ _ (g4 _ _ (g5 _ _ (by rw[hb];exact g6 (λc=>k' (.val c)) _ h)))))⟩
 case indexAddr t x ix=>
  obtain⟨v,h1,g1⟩:=fR h;obtain⟨iv,h2,g2⟩:=fR h1;obtain⟨n,h3,g3⟩:=wO h2;clear h h1 h2;cases v<;>first|exact h3.elim|skip
  ·obtain⟨d,h5,g5⟩:=bK h3
   clear h3;cases d<;>first|exact h5.elim|skip
   obtain⟨i,h6,g6⟩:=bK h5;obtain⟨hb,h7⟩:=h6;obtain⟨ad,h8,g8⟩:=pQ h7;exact⟨_,_,rfl,h8,λk' w' h=>g1 _ _ (g2 _ _ (g3 _ _ (g5 _ _ (g6 _ _ ⟨hb,g8 _ _ h⟩))))⟩
  ·obtain⟨d,h5,g5⟩:=bK h3
   obtain⟨i,h6,g6⟩:=bK h5;obtain⟨hb,h7⟩:=h6;obtain⟨ad,h8,g8⟩:=pQ h7;exact⟨_,_,rfl,h8,λk' w' h=>g1 _ _ (g2 _ _ (g3 _ _ (g5 _ _ (g6 _ _ ⟨hb,g8 _ _ h⟩))))⟩
 case convert s d x=>
  rw[kf]at hr;obtain⟨v,h1,g1⟩:=fR h;unfold u9 at h1;obtain⟨s',hs,h2⟩:=av h1;obtain⟨d',hd,h3⟩:=av h2;have Bl:=hr.1;have A8:=hr.2;unfold kD at Bl A8;rw[hs]at Bl;rw[hd]at A8;cases s'<;>(try(simp at Bl;done));cases d'<;>(try(simp at A8;done));cases v<;>first|exact h3.elim|skip
  refine⟨_,_,rfl,h3,λk' w' h=>g1 _ _ ?_⟩;unfold u9;rw[hs,hd];exact h
 case call c=>
  obtain⟨callee,args,ats⟩:=c;cases callee<;>(try(simp at hr;done));rename_i b;obtain⟨vs,h1,g1⟩:=vT h;obtain⟨x,v,hx,h2,g2⟩:=Aj (P:=P) (show BO P b ats.toList=true from hr) h1;exact⟨x,v,hx,h2,λk' w' h=>g1 _ _ (g2 k' w' h)⟩
 case extract t ix=>
  cases hx:Env.ev e t with
  |
   Db=>
   rw[hx]at h
   match ix,h with
   |0,h=>exact⟨.lit false,_,rfl,h,λk' w' h'=>h'⟩
   |_+1,h=>exact h.elim
  |
   Dc k1 v1=>
   rw[hx]at h
   match ix,h with
   |0,h=>exact⟨.lit true,_,rfl,h,λk' w' h'=>h'⟩
   |1,h=>exact⟨.val k1,_,rfl,h,λk' w' h'=>h'⟩
   |2,h=>exact⟨.val v1,_,rfl,h,λk' w' h'=>h'⟩
   |_+3,h=>exact h.elim
  |
   D6 k1 v1=>
   rw[hx]at h
   match ix,h with
   |
    0,h=>
    obtain⟨l,h1,g1⟩:=bK (show va P _ _ w from h);obtain⟨s,h2,g2⟩:=bK h1;obtain⟨p,hp,h3⟩:=h2;exact⟨_,_,rfl,h3,λk' w' h'=>g1 _ _ (g2 (λs w=>wQ s k1 (λp=>k' (.val (dH s p))) w) _ ⟨p,hp,h'⟩)⟩
   |
    1,h=>
    obtain⟨l,h1,g1⟩:=bK (show va P _ _ w from h);obtain⟨s,h2,g2⟩:=bK h1;obtain⟨p,hp,h3⟩:=h2;exact⟨_,_,rfl,h3,λk' w' h'=>g1 _ _ (g2 (λs w=>wQ s v1 (λp=>k' (.val (dH s p))) w) _ ⟨p,hp,h'⟩)⟩
   |_+2,h=>exact h.elim
  |no=>rw[hx]at h;exact h.elim
  |lit b=>rw[hx]at h;exact h.elim
  |
   val v=>
   rw[hx]at h;cases v<;>first|exact h.elim|skip
   obtain⟨c,h2,g2⟩:=bK (show opt _ _ w from h);exact⟨_,_,rfl,h2,λk' w' h=>g2 (λc=>k' (.val c)) _ h⟩
end
def XW(w w':World):Prop:=w.heap.size<=w'.heap.size/\∀b,b<w.heap.size->w'.heap[b]? =w.heap[b]?
theorem XW.refl(w:World):XW w w:=⟨Nat.le_refl _,λ_ _=>rfl⟩
theorem XW.trans{w w1 w2:World}(h:XW w w1)(k:XW w1 w2):XW w w2:=⟨Nat.le_trans h.1 k.1,λb hb=>(k.2 b (Nat.lt_of_lt_of_le hb h.1)).trans (h.2 b hb)⟩
theorem XW.alloc(w:World)(o:Obj):XW w (w.alloc o):=⟨by simp[World.size_alloc],λb hb=>by
 simp only[World.alloc];rw[Array.getElem?_push];split
 ·omega
 ·rfl⟩
theorem XW.drew(w:World):XW w w.drew:=⟨Nat.le_refl _,λb _=>rfl⟩
def PX{α:Type}(P:Program)(s:Sem α):Prop:=∀w v w',s.run P w=.ok v w'->XW w w'
def kE{α:Type}(P:Program)(s:Sem α):Prop:=∀w v w',s.run P w≠.ok v w'
section
variable{P:Program}
theorem PX.bind{α β:Type}{s:Sem α}{f:α->Sem β}(h:PX P s)(k:∀v,PX P (f v)):PX P (s>>=f):=by
 intro w v w' hr;rw[Sem.run_bind]at hr;cases hs:s.run P w with
 |ok u w1=>rw[hs]at hr;exact(h _ _ _ hs).trans (k u _ _ _ hr)
 |halt x w1=>rw[hs]at hr;cases hr
theorem kE.bind{α β:Type}{s:Sem α}{f:α->Sem β}(k:∀v,kE P (f v)):kE P (s>>=f):=by
 intro w v w' hr;rw[Sem.run_bind]at hr;cases hs:s.run P w with
 |ok u w1=>rw[hs]at hr;exact k u _ _ _ hr
 |halt x w1=>rw[hs]at hr;cases hr
theorem kE.px{α:Type}{s:Sem α}(h:kE P s):PX P s:=λw v w' hr=>(h w v w' hr).elim
theorem PX.pure{α:Type}(v:α):PX P (Pure.pure v:Sem α):=by
 intro w u w' h;rw[Sem.run_pure]at h;cases h;exact XW.refl _
theorem kE.stuck{α:Type}{s:String}:kE P (Go.stuck s:Sem α):=λw v w' h=>by cases h
theorem kE.unsupported{α:Type}{s:Unsupported}:kE P (Go.unsupported s:Sem α):=λw v w' h=>by cases h
theorem kE.error{α:Type}{s:String}:kE P (runtimePanic (.error s):Sem α):=kE.bind λp w v w' h=>by cases h
theorem PX.newObj(o:Obj):PX P (Go.newObj o):=by
 intro w v w' h;have:(Go.newObj o).run P w=.ok w.heap.size (w.alloc o):=rfl;rw[this]at h;cases h;exact XW.alloc _ _
theorem PX.choose(q:Question):PX P (Go.choose q):=by
 intro w v w' h;rw[run_choose_drew]at h;split at h
 ·cases h;exact XW.refl _
 ·cases h;exact XW.drew _
theorem PX.program:PX P Go.program:=by
 intro w v w' h;cases h;exact XW.refl _
theorem PX.underlying(t:TypeId):PX P (Go.underlying t):=PX.bind PX.program λp=>by
 split
 ·exact PX.pure _
 ·exact kE.stuck.px
theorem PX.typeInfo(t:TypeId):PX P (Go.typeInfo t):=PX.bind PX.program λp=>by
 split
 ·exact PX.pure _
 ·exact kE.stuck.px
theorem PX.sizeOf(t:TypeId):PX P (Go.sizeOf t):=PX.bind (PX.typeInfo t) λ_=>PX.pure _
theorem PX.zeroValue(t:TypeId):PX P (Go.zeroValue t):=PX.bind (PX.typeInfo t) λ_=>by
 split
 ·exact PX.pure _
 ·exact kE.unsupported.px
theorem PX.newRow(t:TypeId)(c:Array Value):PX P (Go.newRow t c):=PX.bind (PX.newObj _) λ_=>PX.pure _
theorem PX.newVar(t:TypeId)(v:Value):PX P (Go.newVar t v):=PX.newRow _ _
theorem PX.askRoom(n:Nat):PX P (Go.askRoom n):=by
 intro w v w' h;rw[run_askRoom]at h;cases h;exact XW.refl _
theorem PX.load(a:Addr):PX P (Go.load a):=by
 intro w v w' h;rw[run_load]at h;split at h
 ·cases h;exact XW.refl _
 ·split at h
  ·cases h;exact XW.refl _
  ·cases h
theorem PX.loadCellsFrom(a:Addr):∀(n i:Nat) (acc:Array Value),PX P (Go.loadCellsFrom a i n acc)
 |0,_,_=>PX.pure _
 |n+1,i,acc=>PX.bind (PX.load _) λv=>PX.loadCellsFrom a n (i+1) _
theorem PX.firstCells(size n:Nat)(x:Value):PX P (Builtin.firstCells size n x):=by
 unfold Builtin.firstCells;split
 ·exact PX.loadCellsFrom _ _ _ _
 ·exact PX.pure _
 ·exact PX.pure _
 ·exact kE.stuck.px
theorem PX.lenOf(x:Value):PX P (Builtin.lenOf x):=by
 unfold Builtin.lenOf;split
 ·exact PX.pure _
 ·exact PX.pure _
 ·exact kE.stuck.px
theorem PX.mark(m:Mark):PX P (Go.mark m):=λw v w' h=>by
 have:(Go.mark m).run P w=.ok () w:=rfl;rw[this]at h;cases h;exact XW.refl _
theorem PX.frozen(a:Addr):PX P (Go.frozen a):=λw v w' h=>by
 rw[run_frozen]at h;cases h;exact XW.refl _
theorem PX.shape(r:Nat):PX P (Go.shape r):=λw v w' h=>by
 rw[run_shape]at h;cases h;exact XW.refl _
theorem PX.ite{α:Type}{c:Prop}[Decidable c]{x y:Sem α}(hx:PX P x)(hy:PX P y):PX P (if c then x else y):=by
 split
 ·exact hx
 ·exact hy
theorem PX.holdsCells(a:Addr)(n:Nat):PX P (Builtin.holdsCells a n):=by
 unfold Builtin.holdsCells;refine PX.bind (PX.shape _) λ_=>?_;split<;>exact PX.pure _
theorem PX.mayShare(size sLen n:Nat)(base:OA)(x:Value):PX P (Builtin.mayShare size sLen n base x):=by
 unfold Builtin.mayShare
 repeat' first
  |exact PX.pure _
  |exact PX.holdsCells _ _
  |exact PX.frozen _
  |(refine PX.bind ?_ λ_=>?_)
  |refine PX.ite ?_ ?_
  |split
  |dsimp only
theorem PX.asInt(x:Value):PX P (Go.asInt x):=by
 unfold Go.asInt Go.asIntOf;refine PX.bind ?_ λ_=>PX.pure _;split<;>first
  |exact PX.pure _
  |exact kE.stuck.px
  |exact kE.unsupported.px
set_option maxHeartbeats 4000000 in
theorem PX.Jg(ts:Array TypeId)(ty:TypeId)(x:Value):PX P (Builtin.append_ ts ty #[.slice none 0 0,x]):=by
 unfold Builtin.append_;cases h0:ts[0]?with
 |none=>exact kE.stuck.px
 |
  some t=>
  simp only[List.getElem?_toArray,List.getElem?_cons_zero,List.getElem?_cons_succ]
  repeat' first
   |exact PX.pure _
   |exact kE.stuck.px
   |exact kE.unsupported.px
   |exact kE.error.px
   |exact PX.newRow _ _
   |exact PX.firstCells _ _ _
   |exact PX.zeroValue _
   |exact PX.typeInfo _
   |exact PX.underlying _
   |exact PX.sizeOf _
   |exact PX.choose _
   |exact PX.askRoom _
   |exact PX.lenOf _
   |exact PX.asInt _
   |exact PX.mark _
   |exact PX.mayShare _ _ _ _ _
   |refine PX.ite ?_ ?_
   |(refine PX.bind ?_ λ_=>?_)
   |split
   |dsimp only
def Ed:Value->Bool
 |.slice none l c=>Nat.beq l 0&&Nat.beq c 0
 |_=>false
def RA:Operand->Bool
 |.const v=>Ed v
 |_=>false
def Mm:Builtin->Bool
 |.append=>true
 |_=>false
def Mn(c:Call):Bool:=
 match c.callee with
 |.builtin b=>Mm b&&(Nat.beq c.args.size 2&&(match c.args[0]?with|some x=>RA x|none=>false))
 |_=>false
def rZ(P:Program)(o:Oper):Bool:=
 match o.op with
 |.alloc _|.box _ _|.buildSlice _ _ _=>true
 |.call c=>Mn c||cu P o
 |_=>cu P o
theorem PX.alloc(t:TypeId)(v:Value):PX P (Instr.alloc t true v):=by
 unfold Instr.alloc;refine PX.bind (PX.zeroValue _) λz=>?_;exact PX.bind (PX.newVar _ _) λ_=>PX.pure _
theorem PX.box(t:TypeId)(v:Value):PX P (Instr.box t v):=by
 unfold Instr.box;exact PX.bind (PX.newVar _ _) λ_=>PX.pure _
theorem PX.buildSlice(t:TypeId)(n:Nat)(ps:Array (Nat×Value)):PX P (Instr.buildSlice t n ps):=by
 unfold Instr.buildSlice
 repeat' first
  |exact PX.pure _
  |exact kE.stuck.px
  |exact kE.unsupported.px
  |exact PX.newRow _ _
  |exact PX.zeroValue _
  |exact PX.underlying _
  |exact PX.sizeOf _
  |refine PX.ite ?_ ?_
  |(refine PX.bind ?_ λ_=>?_)
  |split
  |dsimp only
theorem Jh{o:Oper}(h:rZ P o=true)(hr:cu P o=false)(a:Act)(w:World)(nx:Next)(w':World)(hx:(execOp a.eval o).run P w=.ok nx w'):XW w w'/\∃v,nx=.value v:=by
 obtain⟨dst,op,ty,pos,after,guard⟩:=o;have val:∀s:Sem Value,PX P s->(do Pure.pure (Next.value (<-s)):Sem Next).run P w=.ok nx w'->XW w w'/\∃v,nx=.value v:=by
  intro s hs h1;rw[Sem.run_bind]at h1;cases h2:s.run P w with
  |
   ok u w1=>
   rw[h2]at h1;have h3:(Result.ok (Next.value u) w1:Result Next)=.ok nx w':=h1;cases h3;exact⟨hs _ _ _ h2,u,rfl⟩
  |halt x w1=>rw[h2]at h1;cases h1
 unfold rZ at h;cases op
 case alloc T=>
  unfold execOp at hx;dsimp only at hx;exact val _ (PX.alloc _ _) hx
 case box T x=>
  unfold execOp at hx;dsimp only at hx;exact val _ (PX.box _ _) hx
 case buildSlice T n ps=>
  unfold execOp at hx;dsimp only at hx;exact val _ (PX.buildSlice _ _ _) hx
 case call c=>
  dsimp only at h;rw[hr,Bool.or_false]at h;obtain⟨callee,args,ats⟩:=c;unfold Mn at h;cases callee<;>first|(cases h;done)|skip
  rename_i b;simp only[kf]at h;obtain⟨hb,hs,h0⟩:=h;have Bl:args.size=2:=Nat.eq_of_beq_eq_true hs;cases b<;>first|(cases hb;done)|skip
  obtain⟨l⟩:=args
  match l,Bl,h0,hx with
  |
   [x,y],_,h0,hx=>
   have IQ:a.eval x=.slice none 0 0:=by
    have h1:RA x=true:=h0;obtain⟨v,rfl,h2⟩:∃v,x=.const v/\Ed v=true:=by
     cases x with
     |const v=>exact⟨v,rfl,h1⟩
     |_=>cases h1
    show v=_;unfold Ed at h2;split at h2
    ·rw[kf]at h2
     rw[Nat.eq_of_beq_eq_true h2.1,Nat.eq_of_beq_eq_true h2.2]
    ·cases h2
   refine val (Builtin.append_ ats ty #[.slice none 0 0,a.eval y]) (PX.Jg _ _ _) ?_;unfold execOp at hx;dsimp only at hx;unfold resolve at hx;dsimp only at hx;rw[Sem.run_bind,Sem.run_pure,Result.andThen_ok]at hx;dsimp only[invoke]at hx;have hm:(Array.map a.eval {toList:=[x,y]})= #[.slice none 0 0,a.eval y]:=by rw[<-IQ];simp
   rw[hm]at hx;exact hx
 all_goals(dsimp only at h;rw[hr]at h;cases h)
def RB(P:Program)(o:Oper):Bool:=
 match o.op with
 |.load _ _=>true
 |.lookup _ _ _ _=>true
 |.convert _ d _=>wR P d
 |_=>false
theorem G5{w w':World}(h:XW w w'){a:Addr}{v:Value}(hc:w.cell? a=some v):w'.cell? a=some v:=by
 have hlt:a.block<w.heap.size:=by
  rcases Nat.lt_or_ge a.block w.heap.size with h'|h'
  ·exact h'
  ·simp[World.cell?,Array.getElem?_eq_none h']at hc
 unfold World.cell? at hc⊢;rw[h.2 _ hlt];exact hc
theorem qE{w w':World}(h:XW w w'){a:Addr}:∀{l:LV} {i:Nat},dL w a i l->dL w' a i l
 |[],_,_=>trivial
 |_::_,_,hr=>⟨G5 h hr.1,qE h hr.2⟩
theorem Ji{w w':World}(h:XW w w'){a:OA}{l:LV}(hr:cE w a l):cE w' a l:=by
 cases a with
 |none=>exact hr
 |some b=>exact qE h hr
theorem Mo{w w':World}(h:XW w w'){r:Option Nat}{es:Array MapEntry}(hr:G6 w r es):G6 w' r es:=by
 cases r with
 |none=>exact hr
 |
  some b=>
  obtain⟨c,hc⟩:=hr;have hlt:b<w.heap.size:=by
   rcases Nat.lt_or_ge b w.heap.size with h'|h'
   ·exact h'
   ·rw[Array.getElem?_eq_none h']at hc;cases hc
  exact⟨c,(h.2 _ hlt).trans hc⟩
theorem Mp{e:Env}{w:World}{k:EV->Pr}{o:Oper}(hr:RB P o=true)(h:cop P o e k w):∃x v,x.v? =some v/\k x w/\∀(k':EV->Pr) w',XW w w'->k' x w'->cop P o e k' w':=by
 obtain⟨dst,op,ty,pos,after,guard⟩:=o;cases op<;>simp only[RB,Bool.false_eq_true]at hr<;>simp only[cop]at h⊢
 case load t x=>
  obtain⟨p,h1,g1⟩:=fR h;obtain⟨ad,h2,g2⟩:=y4 h1;obtain⟨i,h3,g3⟩:=bK (show opt (P.info? t) _ w from h2);cases lS:fh P t with
  |
   true=>
   rw[lS]at h3;obtain⟨l,h4,g4⟩:=bK (show opt (cY P 10 t) _ w from h3);obtain⟨h5,g5⟩:=vS h4;obtain⟨p,h6,h7⟩:=h5;refine⟨_,_,rfl,h7,λk' w' hx hk=>g1 _ _ (g2 _ _ (g3 (λi=>tf (fh P t) (opt (cY P 10 t) λl=>tW (l.length=i.size) (bf l ad λp=>k' (.val (.agg (fY l p).toArray)))) (opt (cY P 1 t) λl=>opt (one? l) λc=>bI c ad λp=>k' (.val (dH c p)))) _ ?_))⟩;rw[lS];exact g4 (λl=>tW (l.length=i.size) (bf l ad λp=>k' (.val (.agg (fY l p).toArray)))) _ (g5 _ _ ⟨p,qE hx h6,hk⟩)
  |
   false=>
   rw[lS]at h3;obtain⟨l,h4,g4⟩:=bK (show opt (cY P 1 t) _ w from h3);obtain⟨c,h5,g5⟩:=bK h4;obtain⟨p,h6,h7⟩:=h5;refine⟨_,_,rfl,h7,λk' w' hx hk=>g1 _ _ (g2 _ _ (g3 (λi=>tf (fh P t) (opt (cY P 10 t) λl=>tW (l.length=i.size) (bf l ad λp=>k' (.val (.agg (fY l p).toArray)))) (opt (cY P 1 t) λl=>opt (one? l) λc=>bI c ad λp=>k' (.val (dH c p)))) _ ?_))⟩;rw[lS];exact g4 (λl=>opt (one? l) λc=>bI c ad λp=>k' (.val (dH c p))) _ (g5 (λc=>bI c ad λp=>k' (.val (dH c p))) _ ⟨p,G5 hx h6,hk⟩)
 case lookup t y ix ok=>
  obtain⟨v,h1,g1⟩:=fR h;obtain⟨key,h2,g2⟩:=fR h1;obtain⟨r,rfl,h3⟩:=l6 h2;obtain⟨ke,h4,g4⟩:=bK h3;obtain⟨kd,h5,g5⟩:=bK h4;cases hs:fN kd with
  |false=>rw[hs]at h5;exact h5.elim
  |
   true=>
   rw[hs]at h5;obtain⟨l,h6,g6⟩:=bK (show opt (cY P 1 ke.2) _ w from h5);obtain⟨sh,h7,g7⟩:=bK h6;obtain⟨z,h8,g8⟩:=bK h7;obtain⟨es,res,p,m1,m2,m3,h9⟩:=h8;have fin:∀(x:EV) (u:Value),x.v? =some u->k x w->(∀(k':EV->Pr) w',k' x w'->tf ok (k' (.val (.tuple #[dH sh p,.bool res.isSome]))) (k' (.val (dH sh p))) w')->
    ∃x v,x.v? =some v/\k x w/\∀(k':EV->Pr) w',XW w w'->k' x w'->nd (Env.ev e y) (λv=>nd (Env.ev e ix) λkey=>wL v λr=>opt (mapElem P t) λke=>opt (P.underlying ke.1) λkd=>tf (fN kd)
   (opt (cY P 1 ke.2) λl=>opt (one? l) λsh=>opt (zeroOf P ke.2) λz=>gP kd r key sh z λp b=>tf ok (k' (.val (.tuple #[dH sh p,.bool b]))) (k' (.val (dH sh p)))) dM) w':=by
     intro x u hx hk ht;refine⟨x,u,hx,hk,λk' w' hw hk'=>g1 _ _ (g2 _ _ (g4 _ _ (g5 _ _ ?_)))⟩;rw[hs];exact g6 _ _ (g7 _ _ (g8 (λz=>gP kd r key sh z λp b=>tf ok (k' (.val (.tuple #[dH sh p,.bool b]))) (k' (.val (dH sh p)))) _ ⟨es,res,p,Mo hw m1,m2,m3,ht k' w' hk'⟩))
   cases ok with
   |true=>exact fin _ _ rfl h9 λk' w' h=>h
   |false=>exact fin _ _ rfl h9 λk' w' h=>h
 case convert s d x=>
  have hd:=ny hr;obtain⟨v,h1,g1⟩:=fR h;obtain⟨sd,hsd,h2⟩:=av h1;obtain⟨dd,Mq,h3⟩:=av h2;rw[hd]at Mq;simp only[jg]at Mq;subst Mq;cases sd<;>first|exact h3.elim|skip
  ·cases v<;>first|exact h3.elim|skip
   rename_i b;refine⟨_,_,rfl,h3,λk' w' _ hk=>g1 _ _ ?_⟩;unfold u9;rw[hsd,hd];exact hk
  ·rename_i el
   cases v<;>first|exact h3.elim|skip
   rename_i a l c;obtain⟨u,hu,h4⟩:=av h3;cases u<;>first|exact h4.elim|skip
   rename_i kd;cases kd<;>first|exact h4.elim|skip
   obtain⟨bl,b1,b2,h5⟩:=h4;refine⟨_,_,rfl,h5,λk' w' hx hk=>g1 _ _ ?_⟩;unfold u9;rw[hsd,hd];show opt (P.underlying el) _ w';rw[hu];exact⟨bl,b1,Ji hx b2,hk⟩
end
section
variable{P:Program}{ops:Array Oper}{md:Region.Mode}
def wS(ops:Array Oper)(j:Nat):Option Tmp:=(ops[j]?).bind (·.dst)
def nV:EV:=.val (.tuple #[])
def iV:EV->Bool
 |.val (.tuple vs)=>vs.toList.isEmpty
 |_=>false
theorem wT{x:EV}(h:iV x=true):x.v? =some undef:=by
 unfold iV at h;split at h
 ·rename_i vs
  have:vs= #[]:=by
   rw[List.isEmpty_iff]at h;exact Array.toList_eq_nil_iff.1 h
  rw[this];rfl
 ·cases h
theorem Ag.oP{e:Env}{a:Act}(h:Ag e a)(d:Option Tmp):Ag (Env.put e d nV) (a.put d undef):=h.put d λu hu=>by
 simp only[nV,EV.v?,jg]at hu;exact hu.symm
def r6:Op->Option (FuncId×Array Operand)
 |.defer ⟨.value (.func f),args,_⟩=>some (f,args)
 |_=>none
abbrev KP:=Option (Env->List PanicEntry->Pr)
def KP.at(kp:KP)(e:Env):Option (List PanicEntry->Pr):=
 match kp with
 |none=>none
 |some q=>some (q e)
def Wa(P:Program)(kp:KP)(df:Bool)(o:Oper)(e:Env)(k:Env->Pr):Pr:=
 orElse (r6 o.op) (λx=>tf (df&&e.ds.isEmpty) (Lm (x.2.toList.map (Env.ev e)) λargs=>k (Env.put (Env.dfr e {target:=.fn (.func x.1) #[],args:=args.toArray}) o.dst nV)) dM)
  (PW P (kp.at e) o e λv=>k (Env.put e o.dst v))
def cGo(P:Program)(kp:KP)(df:Bool)(o:Oper)(e:Env)(d:Tmp)(b want:Bool)(k:Env->Pr):Pr:=
 tf (b==want) (Wa P kp df o (Env.set e d (.lit b)) k) (k (Env.put (Env.set e d (.lit b)) o.dst nV))
def yL(P:Program)(kp:KP)(df:Bool)(ops:Array Oper)(o:Oper)(e:Env)(k:Env->Pr):Pr:=
 match o.guard with
 |none=>Wa P kp df o e k
 |some (j,want)=>opt (wS ops j) λd=>tf (iV (Env.get e d)) (k (Env.put e o.dst nV)) (Ll (Env.get e d) (cGo P kp df o e d true want k) (cGo P kp df o e d false want k))
def nA(ops:Array Oper):Bool:=ops.toList.all λo=>match o.op with|.defer _=>false|_=>true
theorem r7(h:nA ops=true){i:Nat}{o:Oper}(hi:ops[i]? =some o)(c:Call):o.op≠.defer c:=by
 intro hc;have:=List.all_eq_true.1 h o (by simpa using Array.mem_of_getElem? hi);simp[hc]at this
def cw(ops:Array Oper):List Nat:=(match nA ops with|true=>[]|false=>[vJ])++ops.toList.filterMap (·.dst)
theorem pR{i:Nat}{o:Oper}{d:Tmp}(hi:ops[i]? =some o)(hd:o.dst=some d):d∈cw ops:=by
 unfold cw;rw[jz,List.mem_filterMap];exact .inr ⟨o,by simpa using Array.mem_of_getElem? hi,hd⟩
theorem Jj{j:Nat}{d:Tmp}(h:wS ops j=some d):d∈cw ops:=by
 unfold wS at h;cases ho:ops[j]?with
 |none=>simp[ho]at h
 |some o=>simp[ho]at h;exact pR ho h
theorem BP{o:Oper}{j:Nat}{want b:Bool}{a:Act}{d:Tmp}(hg:o.guard=some (j,want))(hd:wS ops j=some d)(hb:a.tmps[d]? =some (.bool b)):
 Region.wanted o (yielded ops a.tmps)=(b==want):=by
 unfold Region.wanted;rw[hg];unfold yielded;unfold wS at hd;dsimp only;rw[hd];simp[hb]
theorem Ext.set(e:Env)(d:Nat)(v:EV)(W:List Nat)(hd:d∈W):Ext W e (Env.set e d v):=
 ⟨by simp,λt ht=>by rw[Env.jV,jc];rintro⟨rfl,_⟩;exact ht hd,λ_=>rfl,λ_=>rfl⟩
theorem Ext.Am{e e1:Env}{i:Nat}{o:Oper}{v:EV}(hi:ops[i]? =some o)(h:Ext (cw ops) e e1):Ext (cw ops) e (Env.put e1 o.dst v):=
 h.trans (Ext.put e1 o.dst v) (λ_ h=>h) (λt ht=>by
  cases hd:o.dst with
  |none=>simp[hd]at ht
  |some d=>simp[hd]at ht;subst ht;exact pR hi hd)
theorem nB{kp:KP}{df:Bool}{i:Nat}{o:Oper}{e:Env}{a:Act}{w:World}{k:Env->Pr}(he:Ag e a)(hi:ops[i]? =some o)(h:yL P kp df ops o e k w):
 (Region.wanted o (yielded ops a.tmps)=true/\∃e1,Ag e1 a/\Ext (cw ops) e e1/\Wa P kp df o e1 k w)\/
 (Region.wanted o (yielded ops a.tmps)=false/\∃e1,Ag e1 a/\Ext (cw ops) e e1/\k (Env.put e1 o.dst nV) w):=by
 unfold yL at h;cases hg:o.guard with
 |
  none=>
  rw[hg]at h;exact .inl ⟨by simp[Region.wanted,hg],e,he,Ext.refl _ _,h⟩
 |
  some jw=>
  obtain⟨j,want⟩:=jw;rw[hg]at h;obtain⟨d,hd,h⟩:=av h;rcases aW h with⟨hs,h⟩|⟨_,h⟩
  ·refine .inr ⟨?_,e,he,Ext.refl _ _,h⟩
   have hv:=he.get d _ (wT hs);unfold Region.wanted;rw[hg];unfold yielded;unfold wS at hd;dsimp only;rw[hd];simp[hv,undef]
  obtain⟨b,hb,h⟩:=tZ h;have hw:=BP hg hd (he.get d _ hb);have ef:Ag (Env.set e d (.lit b)) a:=he.lit hb;have hx:Ext (cw ops) e (Env.set e d (.lit b)):=Ext.set _ _ _ _ (Jj hd);have key:cGo P kp df o e d b want k w:=by
   rcases h with⟨rfl,h⟩|⟨rfl,h⟩<;>exact h
  rcases aW key with⟨hbw,h⟩|⟨hbw,h⟩
  ·exact .inl ⟨hw.trans hbw,_,ef,hx,h⟩
  ·exact .inr ⟨hw.trans hbw,_,ef,hx,h⟩
theorem Ao{op:Op}{f:FuncId}{args:Array Operand}(h:r6 op=some (f,args)):∃ats,op=.defer ⟨.value (.func f),args,ats⟩:=by
 unfold r6 at h;split at h<;>simp_all
theorem Jk{r:Option Nat}{n:Nat}{kp:KP}{df:Bool}{Q:Exit->Act->World->Prop}{i:Nat}{o:Oper}{e:Env}{a:Act}{w:World}{k:Env->Pr}{K:Act->World->Prop}(hr:df=true->r=none)
 (he:Ag e a)(hi:ops[i]? =some o)(h:Wa P kp df o e k w)(hk:∀e' a' w',Ag e' a'->Ext (cw ops) e e'->k e' w'->K a' w')(hp:∀ch w',Pd (kp.at e) ch w'->Q (.panic ch) a w'):
 o.uponIn (wf r) n P a K Q ((o.semAt r a.eval).run P w):=by
 rcases kN h with⟨⟨f,args⟩,hop,h⟩|⟨_,h⟩
 ·rcases aW h with⟨hb,h⟩|⟨_,h⟩
  rotate_left
  ·exact h.elim
  simp only[kf,List.isEmpty_iff]at hb;obtain⟨hdf,hds⟩:=hb;obtain rfl:=hr hdf;obtain⟨ats,heq⟩:=Ao hop;have hin:vJ∈cw ops:=by
   have:nA ops=false:=by
    cases hn:nA ops with
    |false=>rfl
    |true=>exact absurd heq (r7 hn hi _)
   simp[cw,this]
  have hmem:∀t,t∈o.dst.toList->t∈cw ops:=λt ht=>by
   cases hd:o.dst with
   |none=>simp[hd]at ht
   |some d=>simp[hd]at ht;subst ht;exact pR hi hd
  obtain⟨dst,op,ty,pos,after,guard⟩:=o;dsimp only at heq hmem;subst heq;have h1:=iy he h;have hargs:(args.toList.map a.eval).toArray=args.map a.eval:=by rw[<-Array.toList_map,Array.toArray_toList]
  rw[hargs]at h1;have hrun:(execOp a.eval ⟨dst,.defer ⟨.value (.func f),args,ats⟩,ty,pos,after,guard⟩).run P w=.ok (.defer {target:=.fn (.func f) #[],args:=args.map a.eval}) w:=by
   simp[execOp,resolve,Deferred.ofValue,Act.eval,go_sem]
  rw[Oper.semAt_none,hrun,Oper.uponIn_defer];have lS:Ag (Env.dfr e {target:=.fn (.func f) #[],args:=args.map a.eval}) {a with defers:={target:=.fn (.func f) #[],args:=args.map a.eval}::a.defers}:=
   ⟨he.size,he.get,by rw[he.defers];simp[Env.dfr,marks,hds]⟩
  refine hk _ _ _ (lS.oP dst) ?_ h1;have hx:Ext (cw ops) e (Env.dfr e {target:=.fn (.func f) #[],args:=args.map a.eval}):=⟨rfl,λ_ _=>rfl,λ_=>rfl,λhn=>absurd hin hn⟩;exact hx.trans (Ext.put _ _ _) (λ_ h=>h) hmem
 ·exact Ee he h (λx v w' hg hk'=>hk _ _ _ (he.put o.dst hg) (Ext.Am hi (Ext.refl _ _)) hk') hp
theorem y5{r:Option Nat}{n:Nat}{kp:KP}{df:Bool}{Q:Exit->Act->World->Prop}{i:Nat}{o:Oper}{e:Env}{a:Act}{w:World}{k:Env->Pr}{K:Act->World->Prop}(hr:df=true->r=none)(he:Ag e a)(hi:ops[i]? =some o)
 (h:yL P kp df ops o e k w)(hk:∀e' a' w',Ag e' a'->Ext (cw ops) e e'->k e' w'->K a' w')
 (hp:∀e' a' ch w',Ag e' a'->Ext (cw ops) e e'->Pd (kp.at e') ch w'->Q (.panic ch) a' w'):wpOpIn (wf r) n P ops Q i K a w:=by
 unfold wpOpIn;rw[hi];dsimp only;rcases nB he hi h with⟨hw,e1,ef,hx,h1⟩|⟨hw,e1,ef,hx,h1⟩
 ·rw[jd hw]
  refine⟨λ_ _=>trivial,Jk hr ef hi h1 (λe2 a2 w2 h2 hx2 hk2=>hk _ _ _ h2 (hx.trans hx2 (λ_ h=>h) (λ_ h=>h)) hk2) (λch w' hq=>hp _ _ _ _ ef hx hq)⟩
 ·rw[jc (by simp[hw])]
  exact⟨λ_ _=>trivial,hk _ _ _ (ef.oP o.dst) (Ext.Am hi hx) h1⟩
def Tr(P:Program)(kp:KP)(df:Bool)(ops:Array Oper):List Nat->Env->(Env->Pr)->Pr
 |[],e,k=>k e
 |i::l,e,k=>opt (ops[i]?) λo=>yL P kp df ops o e λe'=>Tr P kp df ops l e' k
theorem wU{r:Option Nat}{n:Nat}{kp:KP}{df:Bool}{Q:Exit->Act->World->Prop}(hr:df=true->r=none):∀{l:List Nat} {e:Env} {a:Act} {w:World} {k:Env->Pr},Ag e a->Tr P kp df ops l e k w->
 (∀e' a' w',Ag e' a'->Ext (cw ops) e e'->k e' w'->Q .normal a' w')->
 (∀e' a' ch w',Ag e' a'->Ext (cw ops) e e'->Pd (kp.at e') ch w'->Q (.panic ch) a' w')->wpOpsIn (wf r) n P ops Q l a w
 |[],_,_,_,_,he,h,hk,_=>hk _ _ _ he (Ext.refl _ _) h
 |
  i::l,e,a,w,k,he,h,hk,hp=>by
  obtain⟨o,ho,h⟩:=av h;rw[wpOpsIn_cons];exact y5 hr he ho h (λe' a' w' he' hx h'=>wU hr he' h' (λe2 a2 w2 dW hx2 h2=>hk _ _ _ dW (hx.trans hx2 (λ_ h=>h) (λ_ h=>h)) h2)
   (λe2 a2 ch w2 dW hx2 h2=>hp _ _ _ _ dW (hx.trans hx2 (λ_ h=>h) (λ_ h=>h)) h2)) hp
variable{n:Nat}{Q:Exit->Act->World->Prop}
def yieldOf:Next->Option Value
 |.value v=>some v
 |.skip=>some undef
 |_=>none
theorem Ef{F:Fence}{o:Oper}{a:Act}{w:World}{next:Act->World->Prop}{nx:Next}{v:Value}(hv:yieldOf nx=some v)(h:next (a.put o.dst v) w):o.uponIn F n P a next Q (.ok nx w):=by
 cases nx<;>simp only[yieldOf,jg,reduceCtorEq]at hv
 ·subst hv;exact h
 ·subst hv;exact h
def gC(P:Program)(ops:Array Oper)(n:Nat)(Q:Exit->Act->World->Prop)(i:Nat)(K:Act->World->Prop)(a:Act)(w:World):Prop:=
 match ops[i]?with
 |none=>K a w
 |
  some o=>
  if cu P o=true then
   (Region.wanted o (yielded ops a.tmps)=true/\∃nx v,(execOp a.eval o).run P w=.ok nx w/\yieldOf nx=some v/\K (a.put o.dst v) w)\/
   (Region.wanted o (yielded ops a.tmps)=false/\K (a.put o.dst undef) w)
  else wpOpIn (wf none) n P ops Q i K a w
def iW(P:Program)(md:Region.Mode)(ops:Array Oper)(n:Nat)(Q:Exit->Act->World->Prop):Nat->Array Bool->Act->World->Prop
 |0,listed,a,w=>Region.ready md ops listed=[]/\Q .normal a w
 |
  fuel+1,listed,a,w=>
  (Region.ready md ops listed=[]->Q .normal a w)/\
  ∀i∈Region.ready md ops listed,gC P ops n Q i (iW P md ops n Q fuel (listed.setIfInBounds i true)) a w
theorem qF{i:Nat}{K K':Act->World->Prop}{a:Act}{w:World}(h:∀a w,K a w->K' a w)(hh:gC P ops n Q i K a w):gC P ops n Q i K' a w:=by
 unfold gC at *;cases ho:ops[i]?with
 |none=>rw[ho]at hh;exact h _ _ hh
 |
  some o=>
  simp only[ho]at hh⊢;by_cases hr:cu P o=true
  ·rw[jd hr]at hh⊢
   rcases hh with⟨h1,nx,v,h2,hv,h3⟩|⟨h1,h2⟩
   ·exact .inl ⟨h1,nx,v,h2,hv,h _ _ h3⟩
   ·exact .inr ⟨h1,h _ _ h2⟩
  ·rw[jc hr]at hh⊢
   exact wpOpIn_mono h hh
theorem Mr{r:Option Nat}(hd:nA ops=true){i:Nat}{K:Act->World->Prop}{a:Act}{w:World}(hh:gC P ops n Q i K a w):wpOpIn (wf r) n P ops Q i K a w:=by
 unfold gC at hh;cases ho:ops[i]?with
 |none=>rw[ho]at hh;unfold wpOpIn;rw[ho];exact hh
 |
  some o=>
  simp only[ho]at hh;have hnd:=r7 hd ho;by_cases hr:cu P o=true
  ·rw[jd hr]at hh
   unfold wpOpIn;rw[ho];dsimp only;rcases hh with⟨h1,nx,v,h2,hv,h3⟩|⟨h1,h2⟩
   ·rw[jd h1]
    refine⟨λ_ _=>trivial,?_⟩;rw[show(wf r).round=r from rfl,Oper.semAt_eq r a.eval o hnd,h2];exact Ef hv h3
   ·rw[jc (by simp[h1])]
    exact⟨λ_ _=>trivial,h2⟩
  ·rw[jc hr]at hh
   unfold wpOpIn at *;rw[ho]at *;dsimp only at *;split
   ·rename_i hw
    rw[jd hw]at hh;refine⟨λ_ _=>trivial,?_⟩;have h2:=hh.2;rw[show(wf r).round=r from rfl,Oper.semAt_eq r a.eval o hnd];rw[show(wf none).round=none from rfl,Oper.semAt_none]at h2;generalize(execOp a.eval o).run P w=res at *;cases res with
    |ok x w'=>cases x<;>exact h2
    |halt x w'=>cases x<;>exact h2
   ·rename_i hw
    rw[jc hw]at hh;exact⟨λ_ _=>trivial,hh.2⟩
theorem ua{r:Option Nat}(hd:nA ops=true):∀(fuel:Nat) (listed:Array Bool) (a:Act) (w:World),iW P md ops n Q fuel listed a w->wpAnyIn (wf r) n P md ops Q fuel listed a w
 |0,_,_,_,h=>h
 |fuel+1,listed,a,w,h=>⟨h.1,λi hi=>Mr hd (qF (λa w=>ua hd fuel _ a w) (h.2 i hi))⟩
theorem Eg{listed:Array Bool}{i:Nat}(h:listed.getD i true=false):listed.getD i false=false:=by
 rcases Nat.lt_or_ge i listed.size with h'|h'
 ·simp[h']at h⊢;exact h
 ·simp[Array.getElem?_eq_none h']at h
theorem uc{i:Nat}{oi:Oper}{v:Value}{B:Nat->Prop}{Y:Act->World->Prop}(hi:ops[i]? =some oi)
 (hYi:∀(K:Act->World->Prop) a w,Y a w->K (a.put oi.dst v) w->gC P ops n Q i K a w)
 (hB:∀j oj,ops[j]? =some oj->B j->∃e∈oj.after,Region.binds md e=true/\(e.on=i\/B e.on)):
 ∀
  (fuel:Nat) (listed:Array Bool) (a:Act) (w:World),(∀j,B j->listed.getD j true=false)->
  (∀j oj,ops[j]? =some oj->j≠i->listed.getD j true=false->¬B j->∀(K:Act->World->Prop) a w,Y a w->gC P ops n Q j K (a.put oi.dst v) w->
    gC P ops n Q j (λa' w'=>Y a' w'/\K (a'.put oi.dst v) w') a w)->
  i∈Region.ready md ops listed->Y a w->iW P md ops n Q fuel (listed.setIfInBounds i true) (a.put oi.dst v) w->iW P md ops n Q (fuel+1) listed a w:=by
 intro fuel
 induction fuel with
 |
  zero=>
  intro listed a w iu hput hr hy H;refine⟨λh=>(by rw[h]at hr;cases hr),λj hj=>?_⟩;by_cases hji:j=i
  ·subst hji;exact hYi _ _ _ hy H
  ·have:=ready_mono hj hji
   rw[H.1]at this;cases this
 |
  succ fuel ih=>
  intro listed a w iu hput hr hy H;refine⟨λh=>(by rw[h]at hr;cases hr),λj hj=>?_⟩;by_cases hji:j=i
  ·subst hji;exact hYi _ _ _ hy H
  ·have h1:=H.2 j (ready_mono hj hji)
   obtain⟨Xx,oj,hoj,hall⟩:=mem_ready.1 hj;have hnB:¬B j:=by
    intro hb;obtain⟨e,he,Xy,Xz⟩:=hB j oj hoj hb;have h2:=hall e he Xy;have h3:listed.getD e.on true=false:=by
     rcases Xz with h|h
     ·rw[h];exact(mem_ready.1 hr).1
     ·exact iu _ h
    rw[Eg h3]at h2;cases h2
   have h2:=hput j oj hoj hji Xx hnB _ _ _ hy h1;refine qF (λa' w' h3=>ih (listed.setIfInBounds j true) a' w' ?_ ?_ (ready_mono hr (Ne.symm hji)) h3.1 ?_) h2
   ·intro m hm
    have hne:j≠m:=λh=>hnB (h▸hm);rw[getD_set_ne true hne];exact iu m hm
   ·intro m om hom hmi XA
    refine hput m om hom hmi ?_;by_cases hjm:j=m
    ·subst hjm;exact Xx
    ·rw[getD_set_ne true hjm]at XA;exact XA
   ·rw[Array.setIfInBounds_comm _ _ hji]
    exact h3.2
def YP(P:Program)(ops:Array Oper)(o:Oper)(v:Value)(a:Act):Prop:=
 (Region.wanted o (yielded ops a.tmps)=true/\∀w,(execOp a.eval o).run P w=.ok (.value v) w)\/(Region.wanted o (yielded ops a.tmps)=false/\v=undef)
def YR(P:Program)(ops:Array Oper)(o:Oper)(v:Value)(a:Act)(w:World):Prop:=
 (Region.wanted o (yielded ops a.tmps)=true/\∃nx,(execOp a.eval o).run P w=.ok nx w/\yieldOf nx=some v)\/(Region.wanted o (yielded ops a.tmps)=false/\v=undef)
theorem gY{o:Oper}(h:cu P o=true)(cs:Array SelectCase)(b:Bool):o.op≠.select cs b:=by
 intro hc;simp[cu,hc]at h
theorem Aq{oi oj:Oper}{v:Value}{a:Act}{w:World}(hap:oi.apart ops oj=true)(yM:cu P oi=true)(hy:YR P ops oi v a w)(u:Value):YR P ops oi v (a.put oj.dst u) w:=by
 obtain⟨h1,h2,h3⟩:=Oper.apart_spec hap;unfold YR at *;rw[execOp_put oi (gY yM) a oj.dst u h3,wanted_put oi a oj.dst u h3];exact hy
theorem Ts{oi oj:Oper}{v:Value}{a:Act}(hap:oi.apart ops oj=true)(yM:cu P oi=true)(hy:YP P ops oi v a)(u:Value):YP P ops oi v (a.put oj.dst u):=by
 obtain⟨h1,h2,h3⟩:=Oper.apart_spec hap;unfold YP at *;simp only[execOp_put oi (gY yM) a oj.dst u h3,wanted_put oi a oj.dst u h3];exact hy
theorem l7{i:Nat}{oi:Oper}{v:Value}{K:Act->World->Prop}{a:Act}{w:World}(hi:ops[i]? =some oi)(yM:cu P oi=true)(hy:YR P ops oi v a w)(h:K (a.put oi.dst v) w):gC P ops n Q i K a w:=by
 unfold gC;rw[hi];dsimp only;rw[jd yM];rcases hy with⟨h1,nx,h2,hv⟩|⟨h1,rfl⟩
 ·exact .inl ⟨h1,nx,v,h2,hv,h⟩
 ·exact .inr ⟨h1,h⟩
theorem YP.at{o:Oper}{v:Value}{a:Act}(h:YP P ops o v a)(w:World):YR P ops o v a w:=
 h.imp (λh=>⟨h.1,_,h.2 w,rfl⟩) id
theorem wV{j:Nat}{oi oj:Oper}{v:Value}(hj:ops[j]? =some oj)(hap:oi.apart ops oj=true)(yM:cu P oi=true)(Ms:cu P oj=true)
 {Y:Act->World->Prop}(hY:∀a w u,Y a w->Y (a.put oj.dst u) w)(K:Act->World->Prop)(a:Act)(w:World)(hy:Y a w)(h:gC P ops n Q j K (a.put oi.dst v) w):
 gC P ops n Q j (λa' w'=>Y a' w'/\K (a'.put oi.dst v) w') a w:=by
 obtain⟨h1,h2,h3⟩:=Oper.apart_spec hap;unfold gC at h⊢;simp only[hj]at h⊢;rw[jd Ms]at h⊢;rw[wanted_put oj a oi.dst v h1,execOp_put oj (gY Ms) a oi.dst v h1]at h;rcases h with⟨hw,nx,u,hu,hv,hk⟩|⟨hw,hk⟩
 ·exact .inl ⟨hw,nx,u,hu,hv,hY _ _ _ hy,by rw[<-Act.put_comm a v u h2];exact hk⟩
 ·exact .inr ⟨hw,hY _ _ _ hy,by rw[<-Act.put_comm a v undef h2];exact hk⟩
theorem Eh{o:Oper}(h:gG P o=true)(ρ:Operand->Value)(w:World):o.about P w ρ=none:=by
 unfold Oper.about;cases ho:o.op
 case call c=>
  obtain⟨callee,args,ats⟩:=c;cases callee<;>first|(simp[gG,ho]at h;done)|skip
  rename_i b;have hl:∀d w',(resolve ρ {callee:=.builtin b,args:=args,argTypes:=ats} o.type).run P w=.ok d w'->d.target.leads P w' d.args=none:=by
   intro d w' hd;simp only[resolve,Sem.run_pure,Result.ok.injEq]at hd;obtain⟨rfl,rfl⟩:=hd;rfl
  dsimp only;cases hr:(resolve ρ {callee:=.builtin b,args:=args,argTypes:=ats} o.type).run P w with
  |ok d w'=>exact hl d w' hr
  |halt _ _=>rfl
 all_goals first|rfl|simp[gG,ho]at h
theorem j8{o:Oper}(h:gG P o=true):cu P o=true:=by
 obtain⟨dst,op,ty,pos,after,guard⟩:=o;cases op<;>first
  |rfl
  |(simp[gG]at h;done)
  |skip
 case convert s d x=>
  simp only[gG,kf]at h;have hd:=h.2;unfold kD at hd;simp only[cu];unfold cN;split at hd
  ·rename_i hu;rw[hu]
  ·cases hd
 case call c=>
  obtain⟨callee,args,ats⟩:=c;cases callee<;>first|(simp[gG]at h;done)|skip
  rename_i b;simp only[gG]at h;cases b<;>first|rfl|(simp[BO]at h;done)
theorem Mt{j:Nat}{oi oj:Oper}{v:Value}(hj:ops[j]? =some oj)(hap:oi.apart ops oj=true)(hpi:gG P oi=true)(hsel:Region.noSelect ops=true)
 (hQ:∀c a w,Q (.panic c) (a.put oi.dst v) w->Q (.panic c) a w)(K:Act->World->Prop)(a:Act)(w:World)(hy:YP P ops oi v a)(h:gC P ops n Q j K (a.put oi.dst v) w):
 gC P ops n Q j (λa' w'=>YP P ops oi v a'/\K (a'.put oi.dst v) w') a w:=by
 by_cases Ms:cu P oj=true
 ·exact wV (Y:=λa _=>YP P ops oi v a) hj hap (j8 hpi) Ms (λa w u hy=>Ts hap (j8 hpi) hy u) K a w hy h
 ·unfold gC at h⊢
  simp only[hj]at h⊢;rw[jc Ms]at h⊢;have hyf:YieldsFenced P ops oi v a:=⟨hy,λw=>Eh hpi _ w⟩;have:=wpOpIn_put (F:=wf none) rfl hj hap (gY (j8 hpi)) (Region.noSelect_spec hsel j oj · · hj) hQ hyf h;exact wpOpIn_mono (λa w h=>⟨h.1.1,h.2⟩) this
def YG(P:Program)(ops:Array Oper)(o:Oper)(v:Value)(a:Act)(w:World):Prop:=∀w',XW w w'->YR P ops o v a w'
theorem Tt{oi oj:Oper}{v:Value}{a:Act}{w:World}(hap:oi.apart ops oj=true)(yM:cu P oi=true)(hy:YG P ops oi v a w)(u:Value):YG P ops oi v (a.put oj.dst u) w:=
 λw' hw=>Aq hap yM (hy w' hw) u
theorem Jl{o:Oper}(h:cu P o=true):rZ P o=true:=by
 unfold rZ;split<;>first|rfl|exact h|(rw[h];simp)
theorem Mu{j:Nat}{oi oj:Oper}{v:Value}(hj:ops[j]? =some oj)(hap:oi.apart ops oj=true)(yM:cu P oi=true)(hgj:rZ P oj=true)(hsel:Region.noSelect ops=true)
 (hQ:∀c a w,Q (.panic c) (a.put oi.dst v) w->Q (.panic c) a w)(K:Act->World->Prop)(a:Act)(w:World)(hy:YG P ops oi v a w)(h:gC P ops n Q j K (a.put oi.dst v) w):
 gC P ops n Q j (λa' w'=>YG P ops oi v a' w'/\K (a'.put oi.dst v) w') a w:=by
 by_cases Ms:cu P oj=true
 ·exact wV (Y:=λa w=>YG P ops oi v a w) hj hap yM Ms (λa w u hy=>Tt hap yM hy u) K a w hy h
 ·have ae6:cu P oj=false:=by simpa using Ms
  obtain⟨h1,h2,h3⟩:=Oper.apart_spec hap;have hsj:∀cs b,oj.op≠.select cs b:=λcs b=>Region.noSelect_spec hsel j oj cs b hj;unfold gC at h⊢;simp only[hj]at h⊢;rw[jc Ms]at h⊢;unfold wpOpIn at *;simp only[hj]at *;rw[wanted_put oj a oi.dst v h1,about_put oj w a oi.dst v h1]at h;split
  ·rename_i hw
   simp only[hw,if_true]at h;unfold Oper.wpIn at *;rw[about_put oj w a oi.dst v h1]at h;refine⟨h.1,?_⟩;have h:=h.2;rw[show(wf none).round=none from rfl,Oper.semAt_none,execOp_put oj hsj a oi.dst v h1]at h;rw[show(wf none).round=none from rfl,Oper.semAt_none];cases hr:(execOp a.eval oj).run P w with
   |
    ok x w'=>
    rw[hr]at h;obtain⟨hx,u,rfl⟩:=Jh hgj ae6 a w x w' hr;simp only[Oper.uponIn]at h⊢;exact⟨λw2 Rs=>Aq hap yM (hy w2 (hx.trans Rs)) u,by rw[<-Act.put_comm a v u h2];exact h⟩
   |
    halt x w'=>
    rw[hr]at h;cases x<;>simp only[Oper.uponIn]at h⊢
    case panic u=>exact hQ _ _ _ h
  ·rename_i hw
   simp only[hw]at h;exact⟨h.1,λw2 Rs=>Aq hap yM (hy w2 Rs) _,by rw[<-Act.put_comm a v undef h2];exact h.2⟩
end
section
variable{P:Program}{ops:Array Oper}{md:Region.Mode}{e:Env}{a:Act}{w:World}
theorem oQ{o:Oper}{k:EV->Pr}(hr:cu P o=true)(he:Ag e a)(h:cop P o e k w):RT P (execOp a.eval o) w (NX k):=by
 rcases Classical.em (∀c,o.op≠.call c)with hno|hno
 ·exact Mv he h hno
 obtain⟨c,hc⟩:∃c,o.op=.call c:=Classical.byContradiction λh=>hno λc hc=>h ⟨c,hc⟩;obtain⟨dst,op,ty,pos,after,guard⟩:=o;dsimp only at hc;subst hc;obtain⟨callee,args,ats⟩:=c;have hargs:(args.toList.map a.eval).toArray=args.map a.eval:=by rw[<-Array.toList_map,Array.toArray_toList]
 cases callee with
 |
  builtin b=>
  simp only[cop]at h;have h1:=iy he h;unfold execOp;dsimp only;unfold resolve;dsimp only;refine .bind (.pure ?_);dsimp only[invoke];rw[<-hargs];exact ve h1
 |value x=>simp[cu]at hr
 |invoke _ _=>simp[cu]at hr
theorem wW{kp:KP}{df:Bool}{o:Oper}{k:Env->Pr}(hr:cu P o=true)(h:Wa P kp df o e k w):cop P o e (λv=>k (Env.put e o.dst v)) w:=by
 have h1:r6 o.op=none:=by
  unfold r6;split
  ·rename_i heq;simp[cu,heq]at hr
  ·rfl
 have h2:r8 o.op=none:=by
  unfold r8;split
  ·rename_i heq;simp[cu,heq]at hr
  ·rfl
 have h3:vU o.op=none:=by
  unfold vU;split
  ·rename_i heq;simp[cu,heq]at hr
  ·rename_i heq;simp[cu,heq]at hr
  ·rfl
 unfold Wa at h;rw[h1]at h;unfold orElse PW at h;cases kp with
 |none=>exact h
 |
  some q=>
  unfold KP.at at h;rw[h2,h3]at h;exact h
theorem y6{kp:KP}{df:Bool}{i:Nat}{o:Oper}{k:Env->Pr}(hr:cu P o=true)(he:Ag e a)(hi:ops[i]? =some o)(h:yL P kp df ops o e k w):
 ∃v e',YR P ops o v a w/\Ag e' (a.put o.dst v)/\Ext (cw ops) e e'/\k e' w:=by
 rcases nB he hi h with⟨hw,e1,ef,hx,h1⟩|⟨hw,e1,ef,hx,h1⟩
 ·have h1:=wW hr h1
  obtain⟨nx,w',h2,h3⟩:=oQ hr ef (Md hr h1);cases nx<;>simp only[NX]at h3<;>try exact h3.elim
  ·obtain⟨x,hg,hk,rfl⟩:=h3
   exact⟨_,_,.inl ⟨hw,_,h2,rfl⟩,ef.put o.dst hg,Ext.Am hi hx,hk⟩
  ·obtain⟨hk,rfl⟩:=h3
   exact⟨_,_,.inl ⟨hw,_,h2,rfl⟩,ef.Tk o.dst _,Ext.Am hi hx,hk⟩
 ·exact⟨undef,_,.inr ⟨hw,rfl⟩,ef.oP o.dst,Ext.Am hi hx,h1⟩
theorem Jm{kp:KP}{df:Bool}{i:Nat}{o:Oper}{k:Env->Pr}(hr:gG P o=true)(he:Ag e a)(hi:ops[i]? =some o)(h:yL P kp df ops o e k w):
 ∃v e',YP P ops o v a/\Ag e' (a.put o.dst v)/\Ext (cw ops) e e'/\k e' w:=by
 rcases nB he hi h with⟨hw,e1,ef,hx,h1⟩|⟨hw,e1,ef,hx,h1⟩
 ·have h1:=wW (j8 hr) h1
  obtain⟨x,v,IQ,hk,hall⟩:=PU hr h1;have hrun:∀w',(execOp a.eval o).run P w'=.ok (.value v) w':=by
   intro w';obtain⟨nx,w2,h2,h3⟩:=oQ (j8 hr) ef (hall (λy w''=>y=x/\w''=w') w' ⟨rfl,rfl⟩);cases nx<;>simp only[NX]at h3<;>try exact h3.elim
   ·obtain⟨y,hg,rfl,rfl⟩:=h3
    rw[h2,hg v IQ]
   ·obtain⟨rfl,rfl⟩:=h3
    simp[EV.v?]at IQ
  exact⟨v,_,.inl ⟨hw,hrun⟩,ef.put o.dst (λu hu=>by rw[IQ]at hu;simpa using hu.symm),Ext.Am hi hx,hk⟩
 ·exact⟨undef,_,.inr ⟨hw,rfl⟩,ef.oP o.dst,Ext.Am hi hx,h1⟩
theorem BQ{o:Oper}(h:RB P o=true):cu P o=true:=by
 obtain⟨dst,op,ty,pos,after,guard⟩:=o;cases op<;>first|rfl|(cases h;done)|skip
 rename_i s d x;have hd:=ny (show wR P d=true from h);simp only[cu];unfold cN;rw[hd]
theorem Jn{kp:KP}{df:Bool}{i:Nat}{o:Oper}{k:Env->Pr}(hr:RB P o=true)(he:Ag e a)(hi:ops[i]? =some o)(h:yL P kp df ops o e k w):
 ∃v e',YG P ops o v a w/\Ag e' (a.put o.dst v)/\Ext (cw ops) e e'/\k e' w:=by
 rcases nB he hi h with⟨hw,e1,ef,hx,h1⟩|⟨hw,e1,ef,hx,h1⟩
 ·have h1:=wW (BQ hr) h1
  obtain⟨x,v,IQ,hk,hall⟩:=Mp hr h1;have hrun:∀w',XW w w'->(execOp a.eval o).run P w'=.ok (.value v) w':=by
   intro w' hw';obtain⟨nx,w2,h2,h3⟩:=oQ (BQ hr) ef (hall (λy w''=>y=x/\w''=w') w' hw' ⟨rfl,rfl⟩);cases nx<;>simp only[NX]at h3<;>try exact h3.elim
   ·obtain⟨y,hg,rfl,rfl⟩:=h3
    rw[h2,hg v IQ]
   ·obtain⟨rfl,rfl⟩:=h3
    simp[EV.v?]at IQ
  exact⟨v,_,λw' hw'=>.inl ⟨hw,_,hrun w' hw',rfl⟩,ef.put o.dst (λu hu=>by rw[IQ]at hu;simpa using hu.symm),Ext.Am hi hx,hk⟩
 ·exact⟨undef,_,λ_ _=>.inr ⟨hw,rfl⟩,ef.oP o.dst,Ext.Am hi hx,h1⟩
def wX(md:Region.Mode)(ops:Array Oper)(listed:Array Bool)(i:Nat):List Nat->List Nat->List Nat
 |[],acc=>acc
 |
  j::js,acc=>
  match ops[j]?with
  |
   some o=>match !listed.getD j true&&o.after.toList.any (λe=>Region.binds md e&&(e.on==i||acc.contains e.on))with
   |true=>wX md ops listed i js (j::acc)
   |false=>wX md ops listed i js acc
  |none=>wX md ops listed i js acc
def vV(P:Program)(ops:Array Oper)(listed:Array Bool)(i:Nat)(oi:Oper)(B:List Nat)(j:Nat):Bool:=
 j==i||listed.getD j true||B.contains j||
 match ops[j]?with
 |some oj=>oi.apart ops oj&&(gG P oi||cu P oj||(RB P oi&&rZ P oj))
 |none=>true
def mO(P:Program)(md:Region.Mode)(ops:Array Oper)(listed:Array Bool)(i:Nat):Bool:=
 match ops[i]?with
 |some oi=>cu P oi&&(List.range ops.size).all (vV P ops listed i oi (wX md ops listed i (List.range ops.size) []))
 |none=>false
def tru:Pr:=λ_=>True
def Tu:List Nat->(Nat->Pr)->Pr
 |[],_=>tru
 |[i],f=>f i
 |i::j::l,f=>both (f i) (Tu (j::l) f)
theorem qG{f:Nat->Pr}:∀{l:List Nat},Tu l f w->∀i∈l,f i w
 |[],_,_,h=>by cases h
 |[_],h,i,hi=>by rw[jq]at hi;subst hi;exact h
 |
  _::_::_,h,i,hi=>by
  rcases List.mem_cons.1 hi with rfl|hi
  ·exact h.1
  ·exact qG h.2 i hi
def PY(rs:List Nat)(t:Option Nat)(z:Pr)(f:Nat->Pr):Pr:=
 match rs with
 |[]=>z
 |
  _::_=>match t with
  |some i=>f i
  |none=>Tu rs f
abbrev wY:=Nat->Array Bool->Env->Option Pr
def ud(x:Option Pr)(y:Pr):Pr:=
 match x with
 |some p=>p
 |none=>y
def cD(P:Program)(kp:KP)(md:Region.Mode)(ops:Array Oper)(stop:wY):Nat->Array Bool->Env->(Env->Pr)->Pr
 |0,listed,e,k=>ud (stop 0 listed e) (PY (Region.ready md ops listed) none (k e) (λ_=>dM))
 |fuel+1,listed,e,k=>ud (stop (fuel+1) listed e) (PY (Region.ready md ops listed) ((Region.ready md ops listed).find? (mO P md ops listed)) (k e)
   (λi=>opt (ops[i]?) λo=>yL P kp false ops o e λe'=>cD P kp md ops stop fuel (listed.setIfInBounds i true) e' k))
def mP(e:Env):List Nat->Env->Env
 |[],e0=>e0
 |
  d::l,e0=>
  match Env.get e d with
  |.lit b=>mP e l (Env.set e0 d (.lit b))
  |
   x=>match iV x with
   |true=>mP e l (Env.set e0 d nV)
   |false=>mP e l e0
def r9(e e':Env):List Nat->Bool
 |[]=>true
 |
  d::l=>
  match Env.get e d with
  |.lit b=>(match Env.get e' d with|.lit c=>b==c&&r9 e e' l|_=>false)
  |
   x=>match iV x with
   |true=>iV (Env.get e' d)&&r9 e e' l
   |false=>r9 e e' l
structure JA where
 sk:Bool
 rs:List Nat
 ix:List Nat
 l:Live
def JA.to(j:JA)(listed:Array Bool):Array Bool:=j.ix.foldl (λa i=>a.setIfInBounds i true) listed
def JA.ds(j:JA)(ops:Array Oper):List Nat:=j.ix.filterMap λi=>(ops[i]?).bind (·.dst)
def JA.kp(j:JA)(ops:Array Oper):List Nat:=(cw ops).filter λd=> !(j.ds ops).contains d
def JA.sl(j:JA)(ops:Array Oper):List Nat:=
 match j.sk with
 |true=>(j.ds ops).filter λd=>(cw ops).contains d
 |false=>[]
def RC(ops:Array Oper)(e:Env)(i:Nat):Bool:=
 match(ops[i]?).bind (·.guard)with
 |
  some (g,want)=>(match wS ops g with
  |some d=>(match Env.get e d with|.lit b=>b !=want|x=>iV x)
  |none=>false)
 |none=>false
def wZ:List Nat->Env->Env
 |[],e=>e
 |d::l,e=>wZ l (Env.set e d nV)
def Mw(ops:Array Oper)(j:JA)(e:Env)(T:Array Bool)(f2:Nat)(R:eD (j.l.map (·.2))->Pr):wY:=λfuel listed e'=>
 match listed==T&&Nat.ble f2 fuel with
 |true=>some (tf (r9 e e' (j.kp ops)&&(j.sl ops).all λd=>iV (Env.get e' d)) (need e' j.l R) dM)
 |false=>none
def Mx(P:Program)(kp:KP)(md:Region.Mode)(ops:Array Oper)(j:JA)(Tv:Nat->Array Bool->Env->Pr)(fuel:Nat)(listed:Array Bool)(e:Env):Pr:=
 tf (!(cw ops).contains qj&& !(cw ops).contains vJ) (jn (λR=>cD P kp md ops (Mw ops j e (j.to listed) (fuel-j.ix.length) R) fuel listed e (λ_=>dM))
  (λs=>Tv (fuel-j.ix.length) (j.to listed) (mI (wZ (j.sl ops) (mP e (j.kp ops) (Env.forget e (cw ops)))) j.l s))) dM
def G7(P:Program)(kp:KP)(md:Region.Mode)(ops:Array Oper)(j:JA)(Tv:Nat->Array Bool->Env->Pr)(alt:wY):wY:=λfuel listed e=>
 match Region.ready md ops listed==j.rs&&(j.sk==j.ix.all (RC ops e))with
 |true=>some (Mx P kp md ops j Tv fuel listed e)
 |false=>alt fuel listed e
def stops(P:Program)(kp:KP)(md:Region.Mode)(ops:Array Oper)(k:Env->Pr):List JA->wY
 |[]=>λ_ _ _=>none
 |j::js=>G7 P kp md ops j (λf L e'=>cD P kp md ops (stops P kp md ops k js) f L e' k) (stops P kp md ops k js)
def RD(P:Program)(kp:KP)(md:Region.Mode)(ops:Array Oper)(js:List JA)(fuel:Nat)(listed:Array Bool)(e:Env)(k:Env->Pr):Pr:=cD P kp md ops (stops P kp md ops k js) fuel listed e k
theorem pS{listed:Array Bool}{i:Nat}:∀(js acc:List Nat),(∀j∈acc,listed.getD j true=false/\∃oj,ops[j]? =some oj/\∃e∈oj.after,Region.binds md e=true/\(e.on=i\/e.on∈acc))->
 ∀j∈wX md ops listed i js acc,listed.getD j true=false/\∃oj,ops[j]? =some oj/\∃e∈oj.after,Region.binds md e=true/\(e.on=i\/e.on∈wX md ops listed i js acc)
 |[],acc,h=>h
 |
  j::js,acc,h=>by
  unfold wX;cases ho:ops[j]?with
  |none=>simpa using pS js acc h
  |
   some o=>
   cases hc: !listed.getD j true&&o.after.toList.any (λe=>Region.binds md e&&(e.on==i||acc.contains e.on))with
   |false=>simp only[hc];exact pS js acc h
   |
    true=>
    simp only[hc];refine pS js (j::acc) ?_;intro m hm;rcases List.mem_cons.1 hm with rfl|hm
    ·simp only[kf,Bool.not_eq_true',List.any_eq_true,Bool.or_eq_true,kn,List.contains_iff_mem]at hc
     obtain⟨h1,ed,h2,h3,h4⟩:=hc;exact⟨h1,o,ho,ed,by simpa using h2,h3,h4.imp id (λh=>List.mem_cons_of_mem _ h)⟩
    ·obtain⟨h1,oj,h2,ed,h3,h4,h5⟩:=h m hm
     exact⟨h1,oj,h2,ed,h3,h4,h5.imp id (λh=>List.mem_cons_of_mem _ h)⟩
variable{n:Nat}{Q:Exit->Act->World->Prop}
theorem Ei{j:Nat}{o:Oper}(h:ops[j]? =some o):j<ops.size:=by
 rcases Nat.lt_or_ge j ops.size with h'|h'
 ·exact h'
 ·simp[Array.getElem?_eq_none h']at h
theorem vf:∀(f:Nat) (L:Array Bool) (a:Act) (w:World),iW P md ops n Q f L a w->iW P md ops n Q (f+1) L a w
 |0,L,a,w,h=>⟨λ_=>h.2,λi hi=>by rw[h.1]at hi;cases hi⟩
 |f+1,L,a,w,h=>⟨h.1,λi hi=>qF (λa w h=>vf f _ a w h) (h.2 i hi)⟩
theorem Jo{f g:Nat}{L:Array Bool}{a:Act}{w:World}(h:f<=g)(hh:iW P md ops n Q f L a w):iW P md ops n Q g L a w:=by
 obtain⟨d,rfl⟩:=Nat.exists_eq_add_of_le h;clear h
 induction d with
 |zero=>exact hh
 |succ d ih=>exact vf _ _ _ _ ih
theorem xd{kp:KP}{stop:wY}(hsel:Region.noSelect ops=true)(hQ:∀c a d v w,d∈cw ops->Q (.panic c) (a.put (some d) v) w->Q (.panic c) a w):∀(fuel:Nat) (listed:Array Bool) (e:Env) (a:Act) (w:World) (k:Env->Pr),Ag e a->cD P kp md ops stop fuel listed e k w->
 (∀e' a' w',Ag e' a'->Ext (cw ops) e e'->k e' w'->Q .normal a' w')->
 (∀e' a' ch w',Ag e' a'->Ext (cw ops) e e'->Pd (kp.at e') ch w'->Q (.panic ch) a' w')->(∀f L e' a' w' p,Ag e' a'->Ext (cw ops) e e'->stop f L e'=some p->p w'->iW P md ops n Q f L a' w')->iW P md ops n Q fuel listed a w:=by
 have hQ':∀(i:Nat) (oi:Oper),ops[i]? =some oi->∀c a v w,Q (.panic c) (a.put oi.dst v) w->Q (.panic c) a w:=by
  intro i oi hi c a v w h;cases hd:oi.dst with
  |none=>rw[hd]at h;exact h
  |some d=>rw[hd]at h;exact hQ c a d v w (pR hi hd) h
 intro fuel
 induction fuel with
 |
  zero=>
  intro listed e a w k he h hk hp hst;unfold cD at h;cases hs0:stop 0 listed e with
  |some p=>rw[hs0]at h;exact hst _ _ _ _ _ _ he (Ext.refl _ _) hs0 h
  |none=>
  rw[hs0]at h;unfold ud at h;dsimp only at h;cases hr:Region.ready md ops listed with
  |nil=>rw[hr]at h;exact⟨hr,hk _ _ _ he (Ext.refl _ _) h⟩
  |
   cons i l=>
   rw[hr]at h;exact(qG (f:=λ_=>dM) h i (by simp)).elim
 |
  succ fuel ih=>
  intro listed e a w k he h hk hp hst;have step:∀i o,ops[i]? =some o->yL P kp false ops o e (λe'=>cD P kp md ops stop fuel (listed.setIfInBounds i true) e' k) w->gC P ops n Q i (iW P md ops n Q fuel (listed.setIfInBounds i true)) a w:=by
   intro i o hi h;by_cases hr:cu P o=true
   ·obtain⟨v,e',hy,he',hx,h'⟩:=y6 hr he hi h
    exact l7 hi hr hy (ih _ e' _ _ k he' h' (λe2 a2 w2 dW hx2 h2=>hk _ _ _ dW (hx.trans hx2 (λ_ h=>h) (λ_ h=>h)) h2) (λe2 a2 ch w2 dW hx2 h2=>hp _ _ _ _ dW (hx.trans hx2 (λ_ h=>h) (λ_ h=>h)) h2) (λf L e2 a2 w2 p dW hx2=>hst f L e2 a2 w2 p dW (hx.trans hx2 (λ_ h=>h) (λ_ h=>h))))
   ·have h2:wpOpIn (wf none) n P ops Q i (iW P md ops n Q fuel (listed.setIfInBounds i true)) a w:=
     y5 (λh=>by cases h) he hi h (λe' a' w' he' hx h'=>ih _ e' _ _ k he' h' (λe2 a2 w2 dW hx2 h2=>hk _ _ _ dW (hx.trans hx2 (λ_ h=>h) (λ_ h=>h)) h2) (λe2 a2 ch w2 dW hx2 h2=>hp _ _ _ _ dW (hx.trans hx2 (λ_ h=>h) (λ_ h=>h)) h2) (λf L e2 a2 w2 p dW hx2=>hst f L e2 a2 w2 p dW (hx.trans hx2 (λ_ h=>h) (λ_ h=>h)))) hp
    unfold gC;rw[hi];dsimp only;rw[jc hr];exact h2
  unfold cD at h;cases hs0:stop (fuel+1) listed e with
  |some p=>rw[hs0]at h;exact hst _ _ _ _ _ _ he (Ext.refl _ _) hs0 h
  |none=>
  rw[hs0]at h;unfold ud at h;dsimp only at h;cases hr:Region.ready md ops listed with
  |
   nil=>
   rw[hr]at h;exact⟨λ_=>hk _ _ _ he (Ext.refl _ _) h,by simp[hr]⟩
  |
   cons i0 l0=>
   cases ht:(Region.ready md ops listed).find? (mO P md ops listed)with
   |
    none=>
    rw[ht,hr]at h;refine⟨λh0=>(by rw[hr]at h0;cases h0),λi hi=>?_⟩;rw[hr]at hi;obtain⟨o,ho,h1⟩:=av (qG h i hi);exact step i o ho h1
   |
    some i=>
    rw[ht,hr]at h;have hmem:=List.mem_of_find?_eq_some ht;have Ar:=List.find?_some ht;obtain⟨o,ho,h1⟩:=av (show opt (ops[i]?) _ w from h);unfold mO at Ar;rw[ho]at Ar;simp only[kf,List.all_eq_true,List.mem_range]at Ar;obtain⟨yM,hall⟩:=Ar;have rP:=pS (md:=md) (ops:=ops) (listed:=listed) (i:=i) (List.range ops.size) [] (by simp);generalize hBL:wX md ops listed i (List.range ops.size) []=BL at hall rP;have Tx:∀j oj,ops[j]? =some oj->j≠i->listed.getD j true=false->¬(j∈BL)->o.apart ops oj=true/\((gG P o=true\/cu P oj=true)\/(RB P o=true/\rZ P oj=true)):=by
     intro j oj hj hji hun uW;have:=hall j (Ei hj);unfold vV at this;rw[hj]at this;simp only[Bool.or_eq_true,kn,List.contains_iff_mem,kf]at this;rcases this with((h|h)|h)|h
     ·exact absurd h hji
     ·rw[hun]at h;cases h
     ·exact absurd h uW
     ·exact h
    have hB:∀j oj,ops[j]? =some oj->j∈BL->∃e∈oj.after,Region.binds md e=true/\(e.on=i\/e.on∈BL):=by
     intro j oj hj hb;obtain⟨_,oj',hj',h3⟩:=rP j hb;rw[hj]at hj';simp only[jg]at hj';exact hj'▸h3
    by_cases hpi:gG P o=true
    ·obtain⟨v,e',hy,he',hx,h'⟩:=Jm hpi he ho h1
     refine uc (B:=λj=>j∈BL) (Y:=λa _=>YP P ops o v a) ho (λK a w hy hk=>l7 ho yM (hy.at w) hk) hB fuel listed a w (λj hj=>(rP j hj).1) ?_ hmem hy ?_
     ·intro j oj hj hji hun uW K a w hy h
      exact Mt hj (Tx j oj hj hji hun uW).1 hpi hsel (λc a w=>hQ' _ _ ho c a _ w) K a w hy h
     ·exact ih _ e' _ _ k he' h' (λe2 a2 w2 dW hx2 h2=>hk _ _ _ dW (hx.trans hx2 (λ_ h=>h) (λ_ h=>h)) h2) (λe2 a2 ch w2 dW hx2 h2=>hp _ _ _ _ dW (hx.trans hx2 (λ_ h=>h) (λ_ h=>h)) h2) (λf L e2 a2 w2 p dW hx2=>hst f L e2 a2 w2 p dW (hx.trans hx2 (λ_ h=>h) (λ_ h=>h)))
    by_cases LS:RB P o=true
    ·obtain⟨v,e',hy,he',hx,h'⟩:=Jn LS he ho h1
     refine uc (B:=λj=>j∈BL) (Y:=λa w=>YG P ops o v a w) ho (λK a w hy hk=>l7 ho yM (hy w (XW.refl w)) hk) hB fuel listed a w (λj hj=>(rP j hj).1) ?_ hmem hy ?_
     ·intro j oj hj hji hun uW K a w hy h
      have hb:=Tx j oj hj hji hun uW;have hgj:rZ P oj=true:=hb.2.elim (λh=>Jl (h.resolve_left hpi)) (λh=>h.2);exact Mu hj hb.1 yM hgj hsel (λc a w=>hQ' _ _ ho c a _ w) K a w hy h
     ·exact ih _ e' _ _ k he' h' (λe2 a2 w2 dW hx2 h2=>hk _ _ _ dW (hx.trans hx2 (λ_ h=>h) (λ_ h=>h)) h2) (λe2 a2 ch w2 dW hx2 h2=>hp _ _ _ _ dW (hx.trans hx2 (λ_ h=>h) (λ_ h=>h)) h2) (λf L e2 a2 w2 p dW hx2=>hst f L e2 a2 w2 p dW (hx.trans hx2 (λ_ h=>h) (λ_ h=>h)))
    ·obtain⟨v,e',hy,he',hx,h'⟩:=y6 yM he ho h1
     refine uc (B:=λj=>j∈BL) (Y:=λa w=>YR P ops o v a w) ho (λK a w hy hk=>l7 ho yM hy hk) hB fuel listed a w (λj hj=>(rP j hj).1) ?_ hmem hy ?_
     ·intro j oj hj hji hun uW K a w hy h
      have hb:=Tx j oj hj hji hun uW;have Ms:=(hb.2.resolve_right (λh=>LS h.1)).resolve_left hpi;exact wV (Y:=λa w=>YR P ops o v a w) hj hb.1 yM Ms (λa w u hy=>Aq hb.1 yM hy u) K a w hy h
     ·exact ih _ e' _ _ k he' h' (λe2 a2 w2 dW hx2 h2=>hk _ _ _ dW (hx.trans hx2 (λ_ h=>h) (λ_ h=>h)) h2) (λe2 a2 ch w2 dW hx2 h2=>hp _ _ _ _ dW (hx.trans hx2 (λ_ h=>h) (λ_ h=>h)) h2) (λf L e2 a2 w2 p dW hx2=>hst f L e2 a2 w2 p dW (hx.trans hx2 (λ_ h=>h) (λ_ h=>h)))
theorem si{e e':Env}{a:Act}:∀{l:List Nat} {e0:Env},r9 e e' l=true->Ag e' a->Ag e0 a->Ag (mP e l e0) a
 |[],_,_,_,h0=>h0
 |
  d::l,e0,hk,he,h0=>by
  have od:∀(x:EV) (v:Value),x.v? =some v->(∀u,(Env.get e' d).v? =some u->u=v)->(∃u,(Env.get e' d).v? =some u)->Ag (Env.set e0 d x) a:=by
   intro x v hx hu ⟨u,hu'⟩;have hv:=he.get d u hu';rw[hu u hu']at hv;refine⟨by simpa using h0.size,λt y hy=>?_,by simpa using h0.defers⟩;rw[Env.jV]at hy;split at hy
   ·rename_i ht
    rw[hx]at hy;simp only[jg]at hy;rw[ht.1,hv,hy]
   ·exact h0.get t y hy
  have oR:∀x:EV,(match iV x with|true=>iV (Env.get e' d)&&r9 e e' l|false=>r9 e e' l)=true->
   Ag (match iV x with|true=>mP e l (Env.set e0 d nV)|false=>mP e l e0) a:=by
   intro x hk;cases hs:iV x with
   |
    true=>
    rw[hs]at hk;dsimp only at hk⊢;simp only[kf]at hk;have h1:=wT hk.1;exact si hk.2 he (od nV undef rfl (λu hu=>by rw[h1]at hu;simpa using hu.symm) ⟨_,h1⟩)
   |
    false=>
    rw[hs]at hk;exact si hk he h0
  unfold r9 at hk;unfold mP;cases hx:Env.get e d
  case lit b=>
   rw[hx]at hk;dsimp only at hk⊢;cases hc:Env.get e' d
   case lit c=>
    rw[hc]at hk;dsimp only at hk;simp only[kf,kn]at hk;obtain⟨rfl,hk⟩:=hk;exact si hk he (od (.lit b) (.bool b) rfl (λu hu=>by rw[hc]at hu;simp[EV.v?]at hu;exact hu.symm) ⟨_,by rw[hc];rfl⟩)
   all_goals(rw[hc]at hk;cases hk)
  case no=>rw[hx]at hk;exact oR .no hk
  case Db=>rw[hx]at hk;exact oR .Db hk
  case Dc k v=>rw[hx]at hk;exact oR (.Dc k v) hk
  case D6 k v=>rw[hx]at hk;exact oR (.D6 k v) hk
  case val v=>rw[hx]at hk;exact oR (.val v) hk
theorem pT{e:Env}{W:List Nat}:∀{l:List Nat} {e0:Env},(∀d∈l,d∈W)->Ext W e0 (mP e l e0)
 |[],_,_=>Ext.refl _ _
 |
  d::l,e0,h=>by
  have hd:=h d (List.mem_cons_self ..);have ht:∀x∈l,x∈W:=λx hx=>h x (List.mem_cons_of_mem _ hx);unfold mP;split
  ·exact(Ext.set _ _ _ _ hd).trans (pT ht) (λ_ h=>h) (λ_ h=>h)
  ·split
   ·exact(Ext.set _ _ _ _ hd).trans (pT ht) (λ_ h=>h) (λ_ h=>h)
   ·exact pT ht
theorem G8{W:List Nat}:∀{l:Live} {e:Env} {p:eD (l.map (·.2))},(∀x∈l,x.1∈W)->Ext W e (mI e l p)
 |[],_,_,_=>Ext.refl _ _
 |[x],e,p,h=>Ext.set _ _ _ _ (h x (by simp))
 |x::y::l,e,p,h=>(Ext.set _ _ _ _ (h x (by simp))).trans (G8 (l:=y::l) λz hz=>h z (List.mem_cons_of_mem _ hz)) (λ_ h=>h) (λ_ h=>h)
theorem BR{e':Env}{a:Act}(he:Ag e' a):∀{l:List Nat} {e0:Env},(l.all λd=>iV (Env.get e' d))=true->Ag e0 a->Ag (wZ l e0) a
 |[],_,_,h0=>h0
 |
  d::l,e0,hk,h0=>by
  rw[List.all_cons,kf]at hk;have hv:=he.get d _ (wT hk.1);have h1:Ag (Env.set e0 d nV) a:=by
   refine⟨by simpa using h0.size,λt y hy=>?_,by simpa using h0.defers⟩;rw[Env.jV]at hy;split at hy
   ·rename_i ht
    simp only[nV,EV.v?,jg]at hy;rw[ht.1,hv,<-hy];rfl
   ·exact h0.get t y hy
  exact BR (l:=l) he hk.2 h1
theorem y7{W:List Nat}:∀{l:List Nat} {e0:Env},(∀d∈l,d∈W)->Ext W e0 (wZ l e0)
 |[],_,_=>Ext.refl _ _
 |d::l,e0,h=>(Ext.set _ _ _ _ (h d (List.mem_cons_self ..))).trans (y7 λx hx=>h x (List.mem_cons_of_mem _ hx)) (λ_ h=>h) (λ_ h=>h)
theorem oS{kp:KP}(hsel:Region.noSelect ops=true)(hQ:∀c a d v w,d∈cw ops->Q (.panic c) (a.put (some d) v) w->Q (.panic c) a w){k:Env->Pr}{e:Env}
 (hk:∀e' a' w',Ag e' a'->Ext (cw ops) e e'->k e' w'->Q .normal a' w')
 (hp:∀e' a' ch w',Ag e' a'->Ext (cw ops) e e'->Pd (kp.at e') ch w'->Q (.panic ch) a' w'):∀(js:List JA) (hj:∀j∈js,∀x∈j.l,x.1∈cw ops) (f:Nat) (L:Array Bool) (e1:Env) (a1:Act) (w1:World) (p:Pr),
 Ag e1 a1->Ext (cw ops) e e1->stops P kp md ops k js f L e1=some p->p w1->iW P md ops n Q f L a1 w1
 |[],_,_,_,_,_,_,_,_,_,h,_=>by cases h
 |
  j::js,hj,f,L,e1,a1,w1,p,ef,hx1,hs,h1=>by
  have hj':∀j∈js,∀x∈j.l,x.1∈cw ops:=λi hi=>hj i (List.mem_cons_of_mem _ hi);unfold stops G7 at hs;split at hs
  rotate_left
  ·exact oS hsel hQ hk hp js hj' f L e1 a1 w1 p ef hx1 hs h1
  simp only[jg]at hs;subst hs;rcases aW (show tf _ _ _ w1 from h1)with⟨hm,h1⟩|⟨_,h1⟩
  rotate_left
  ·exact h1.elim
  simp only[kf,Bool.not_eq_true']at hm;have Jp:qj∉cw ops:=by simpa using hm.1
  have hdf:vJ∉cw ops:=by simpa using hm.2
  obtain⟨R,h2,h3⟩:=h1;refine xd hsel hQ f L e1 a1 w1 _ ef h2 (λ_ _ _ _ _ h=>h.elim) (λe2 a2 ch w2 dW hx2 h=>hp e2 a2 ch w2 dW (hx1.trans hx2 (λ_ h=>h) (λ_ h=>h)) h) ?_;intro f2 L2 e2 a2 w2 p dW hx2 hs h4;unfold Mw at hs;split at hs
  rotate_left
  ·cases hs
  rename_i hT;simp only[jg]at hs;subst hs;simp only[kf,kn]at hT;obtain⟨rfl,hle⟩:=hT;have hle:=Nat.le_of_ble_eq_true hle;rcases aW (show tf _ _ _ w2 from h4)with⟨hkp,h4⟩|⟨_,h4⟩
  rotate_left
  ·exact h4.elim
  rw[kf]at hkp;have hsub:∀d∈j.kp ops,d∈cw ops:=λd hd=>(List.mem_filter.1 hd).1;have fP:∀d∈j.sl ops,d∈cw ops:=by
   unfold JA.sl;split
   ·intro d hd
    simpa using(List.mem_filter.1 hd).2
   ·intro d hd;cases hd
  obtain⟨s,hs,hR⟩:=gj (e0:=wZ (j.sl ops) (mP e1 (j.kp ops) (Env.forget e1 (cw ops)))) dW (BR dW hkp.2 (si hkp.1 dW (dW.forget hx2 Jp hdf))) h4;have hx3:Ext (cw ops) e (mI (wZ (j.sl ops) (mP e1 (j.kp ops) (Env.forget e1 (cw ops)))) j.l s):=
   hx1.trans ((Ext.forget e1 _).trans ((pT hsub).trans ((y7 fP).trans (G8 (hj j (List.mem_cons_self ..))) (λ_ h=>h) (λ_ h=>h)) (λ_ h=>h) (λ_ h=>h)) (λ_ h=>h) (λ_ h=>h)) (λ_ h=>h) (λ_ h=>h)
  refine Jo hle (xd hsel hQ (f-j.ix.length) (j.to L) _ a2 w2 k hs (h3 s w2 hR) (λe3 a3 w3 XB hx h=>hk e3 a3 w3 XB (hx3.trans hx (λ_ h=>h) (λ_ h=>h)) h)
   (λe3 a3 ch w3 XB hx h=>hp e3 a3 ch w3 XB (hx3.trans hx (λ_ h=>h) (λ_ h=>h)) h) ?_)
  intro f3 L3 e3 a3 w3 p3 XB hx h5 h6;exact oS hsel hQ hk hp js hj' f3 L3 e3 a3 w3 p3 XB (hx3.trans hx (λ_ h=>h) (λ_ h=>h)) h5 h6
theorem vg{kp:KP}(hsel:Region.noSelect ops=true)(hQ:∀c a d v w,d∈cw ops->Q (.panic c) (a.put (some d) v) w->Q (.panic c) a w)(js:List JA)(hj:∀j∈js,∀x∈j.l,x.1∈cw ops)(fuel:Nat)(listed:Array Bool)(e:Env)(a:Act)(w:World)(k:Env->Pr)(he:Ag e a)(h:RD P kp md ops js fuel listed e k w)
 (hk:∀e' a' w',Ag e' a'->Ext (cw ops) e e'->k e' w'->Q .normal a' w')
 (hp:∀e' a' ch w',Ag e' a'->Ext (cw ops) e e'->Pd (kp.at e') ch w'->Q (.panic ch) a' w'):iW P md ops n Q fuel listed a w:=
 xd hsel hQ fuel listed e a w k he h hk hp (oS hsel hQ hk hp js hj)
end
def kO(n m:Nat):Array Bool:=((List.range n).map (Nat.testBit m)).toArray
theorem Jt(n m:Nat):(kO n m).size=n:=by simp[kO]
theorem mQ(n m i:Nat):(kO n m)[i]? =if i<n then some (m.testBit i)else none:=by
 unfold kO;rw[List.getElem?_toArray,jf];by_cases h:i<n
 ·rw[List.getElem?_range h,jd h];rfl
 ·rw[List.getElem?_eq_none (by simp;omega),jc h];rfl
theorem mR(n m i:Nat)(d:Bool):(kO n m).getD i d=if i<n then m.testBit i else d:=by
 rw[Array.getD_eq_getD_getElem?,mQ];split<;>rfl
def P4(m i:Nat):Nat:=Nat.lor m (Nat.shiftLeft 1 i)
theorem vW(m i j:Nat):(P4 m i).testBit j=(m.testBit j||i==j):=by
 show(m|||(1<<<i)).testBit j=_;rw[Nat.testBit_or,Nat.one_shiftLeft,Nat.testBit_two_pow]
 congr 1
theorem B0(n m i:Nat):(kO n m).setIfInBounds i true=kO n (P4 m i):=by
 refine Array.ext_getElem? λj=>?_;rw[Array.getElem?_setIfInBounds,mQ,mQ,Jt,vW];by_cases h:i=j
 ·subst h
  rw[jd rfl];by_cases h2:i<n<;>simp[h2]
 ·rw[jc h]
  have:(i==j)=false:=by simpa using h
  rw[this,Bool.or_false]
theorem Ju(n:Nat):Array.replicate n false=kO n 0:=by
 refine Array.ext_getElem? λj=>?_;rw[mQ,Array.getElem?_replicate];simp
theorem P5{n m t:Nat}:(kO n m==kO n t)=Nat.beq (m%2^n) (t%2^n):=by
 rw[Bool.eq_iff_iff,kn,Nat.beq_eq];constructor
 ·intro h
  refine Nat.eq_of_testBit_eq λi=>?_;rw[Nat.testBit_mod_two_pow,Nat.testBit_mod_two_pow];by_cases hi:i<n
  ·have:=congrArg (λa=>a.getD i true) h
   simp only[mR,jd hi]at this;rw[this]
  ·simp[hi]
 ·intro h
  refine Array.ext_getElem? λi=>?_;rw[mQ,mQ];by_cases hi:i<n
  ·have:=congrArg (λa=>Nat.testBit a i) h
   simp only[Nat.testBit_mod_two_pow,hi,decide_true,Bool.true_and]at this;rw[this]
  ·rw[jc hi,jc hi]
def lU(md:Region.Mode):List Edge->Nat
 |[]=>0
 |e::l=>match Region.binds md e with|true=>P4 (lU md l) e.on|false=>lU md l
def ME(md:Region.Mode)(o:Oper):Nat:=lU md o.after.toList
theorem oV{md:Region.Mode}{x:Nat}:∀{l:List Edge},(lU md l).testBit x=l.any (λe=>Region.binds md e&&e.on==x)
 |[]=>by simp[lU]
 |
  e::l=>by
  rw[List.any_cons,<-oV (l:=l),lU];cases Region.binds md e<;>simp[vW,Bool.or_comm]
theorem P6{md:Region.Mode}{l:List Edge}{M:Nat}:Nat.beq (Nat.land (lU md l) M) (lU md l)=l.all λe=> !Region.binds md e||M.testBit e.on:=by
 rw[Bool.eq_iff_iff,Nat.beq_eq,List.all_eq_true];constructor
 ·intro h e he
  cases hb:Region.binds md e with
  |false=>rfl
  |
   true=>
   have h1:(lU md l).testBit e.on=true:=by rw[oV,List.any_eq_true];exact⟨e,he,by simp[hb]⟩
   rw[<-h]at h1;have h1:(lU md l&&&M).testBit e.on=true:=h1;rw[Nat.testBit_and,kf]at h1;simpa using h1.2
 ·intro h
  show lU md l&&&M=_;refine Nat.eq_of_testBit_eq λi=>?_;rw[Nat.testBit_and];cases h1:(lU md l).testBit i with
  |false=>rfl
  |
   true=>
   rw[oV,List.any_eq_true]at h1;obtain⟨e,he,hx⟩:=h1;simp only[kf,kn]at hx;have:=h e he;rw[hx.1]at this;rw[<-hx.2];simpa using this
theorem P7{md:Region.Mode}{l:List Edge}{M:Nat}:(!Nat.beq (Nat.land (lU md l) M) 0)=l.any λe=>Region.binds md e&&M.testBit e.on:=by
 rw[Bool.eq_iff_iff,List.any_eq_true,Bool.not_eq_true'];constructor
 ·intro h
  refine Classical.byContradiction λhn=>?_;have h0:lU md l&&&M=0:=by
   refine Nat.eq_of_testBit_eq λi=>?_;rw[Nat.testBit_and,Nat.zero_testBit,Bool.and_eq_false_iff];refine Classical.byContradiction λhc=>hn ?_;have hc1:(lU md l).testBit i=true:=by
    cases h1:(lU md l).testBit i with
    |true=>rfl
    |false=>exact absurd (.inl h1) hc
   have lY:M.testBit i=true:=by
    cases h1:M.testBit i with
    |true=>rfl
    |false=>exact absurd (.inr h1) hc
   rw[oV,List.any_eq_true]at hc1;obtain⟨e,he,hx⟩:=hc1;simp only[kf,kn]at hx;exact⟨e,he,by simp[hx.1,hx.2,lY]⟩
  have h0:Nat.land (lU md l) M=0:=h0;rw[h0]at h;cases h
 ·rintro⟨e,he,hx⟩
  simp only[kf]at hx;have h1:(lU md l).testBit e.on=true:=by rw[oV,List.any_eq_true];exact⟨e,he,by simp[hx.1]⟩
  cases hb:Nat.beq (Nat.land (lU md l) M) 0 with
  |false=>rfl
  |
   true=>
   have h0:lU md l&&&M=0:=Nat.eq_of_beq_eq_true hb;have:=congrArg (λa=>Nat.testBit a e.on) h0;simp only[Nat.testBit_and,h1,hx.2,Nat.zero_testBit]at this;cases this
section
variable(P:Program)(md:Region.Mode)(ops:Array Oper)
def ug(m:Nat):List Nat:=(List.range ops.size).filter λi=> !Nat.testBit m i&&(match ops[i]?with|some o=>Nat.beq (Nat.land (ME md o) (m%2^ops.size)) (ME md o)|none=>false)
theorem uh(m:Nat):ug md ops m=Region.ready md ops (kO ops.size m):=by
 unfold ug Region.ready;refine List.filter_congr λi hi=>?_;have hi:i<ops.size:=by simpa using hi
 rw[mR,jd hi,Array.getElem?_eq_getElem hi,Option.map_some,Option.getD_some]
 congr 1
 show Nat.beq (Nat.land (lU md ops[i].after.toList) _) (lU md ops[i].after.toList)=_;rw[P6,<-Array.all_toList]
 congr 1
 funext e;rw[mR,Nat.testBit_mod_two_pow];by_cases h:e.on<ops.size<;>simp[h]
def Eu(m i:Nat):List Nat->Nat->Nat
 |[],acc=>acc
 |
  j::js,acc=>
  match ops[j]?with
  |
   some o=>match !Nat.testBit m j&& !Nat.beq (Nat.land (ME md o) (P4 acc i)) 0 with
   |true=>Eu m i js (P4 acc j)
   |false=>Eu m i js acc
  |none=>Eu m i js acc
theorem Hj(m i:Nat):∀(js:List Nat) (acc:List Nat) (A:Nat),(∀j∈js,j<ops.size)->(∀x,A.testBit x=acc.contains x)->∀x,(Eu md ops m i js A).testBit x=(wX md ops (kO ops.size m) i js acc).contains x
 |[],_,_,_,h=>h
 |
  j::js,acc,A,hj,h=>by
  have hjl:=hj j (List.mem_cons_self ..);have ih:=λa b hh=>Hj m i js a b (λx hx=>hj x (List.mem_cons_of_mem _ hx)) hh;unfold Eu wX;rw[Array.getElem?_eq_getElem hjl,mR,jd hjl];have hc:(!Nat.beq (Nat.land (ME md ops[j]) (P4 A i)) 0)=ops[j].after.toList.any (λe=>Region.binds md e&&(e.on==i||acc.contains e.on)):=by
   unfold ME;rw[P7]
   congr 1
   funext e;rw[vW,h,Bool.or_comm,Bool.beq_comm]
  dsimp only;rw[hc];cases !m.testBit j&&ops[j].after.toList.any (λe=>Region.binds md e&&(e.on==i||acc.contains e.on))with
  |true=>exact ih _ _ λx=>by rw[vW,h,List.contains_cons,Bool.or_comm,Bool.beq_comm]
  |false=>exact ih _ _ h
def XH(oi:Oper)(j:Nat):Bool:=
 match ops[j]?with
 |some oj=>oi.apart ops oj&&(gG P oi||cu P oj||(RB P oi&&rZ P oj))
 |none=>true
def allM(oi:Oper)(m i B:Nat):List Nat->Bool
 |[]=>true
 |j::js=>(Nat.beq j i||(Nat.testBit m j||(Nat.testBit B j||XH P ops oi j)))&&allM oi m i B js
def Hl(m i:Nat):Bool:=
 match ops[i]?with
 |some oi=>cu P oi&&allM P ops oi m i (Eu md ops m i (List.range ops.size) 0) (List.range ops.size)
 |none=>false
theorem MF(m i:Nat):Hl P md ops m i=mO P md ops (kO ops.size m) i:=by
 unfold Hl mO;cases ops[i]?with
 |none=>rfl
 |
  some oi=>
  dsimp only
  congr 1
  have hB:=Hj md ops m i (List.range ops.size) [] 0 (λj hj=>by simpa using hj) (λx=>by simp);have go:∀js:List Nat,(∀j∈js,j<ops.size)->allM P ops oi m i (Eu md ops m i (List.range ops.size) 0) js=js.all (vV P ops (kO ops.size m) i oi (wX md ops (kO ops.size m) i (List.range ops.size) [])):=by
   intro js
   induction js with
   |nil=>intro _;rfl
   |
    cons j js ih=>
    intro hj;rw[allM,List.all_cons,ih λx hx=>hj x (List.mem_cons_of_mem _ hx)]
    congr 1
    unfold vV;rw[mR,jd (hj j (List.mem_cons_self ..)),<-hB,Bool.or_assoc,Bool.or_assoc];have:Nat.beq j i=(j==i):=by rw[Bool.eq_iff_iff,Nat.beq_eq,kn]
    rw[this];rfl
  exact go _ λj hj=>by simpa using hj
abbrev ze:=Nat->Nat->Env->Option Pr
def P8(kp:KP)(stop:ze):Nat->Nat->Env->(Env->Pr)->Pr
 |0,m,e,k=>ud (stop 0 m e) (PY (ug md ops m) none (k e) (λ_=>dM))
 |fuel+1,m,e,k=>ud (stop (fuel+1) m e) (PY (ug md ops m) ((ug md ops m).find? (Hl P md ops m)) (k e)
   (λi=>opt (ops[i]?) λo=>yL P kp false ops o e λe'=>P8 kp stop fuel (P4 m i) e' k))
theorem Az(kp:KP){sM:ze}{s:wY}(h:∀f m e,sM f m e=s f (kO ops.size m) e):∀(f m:Nat) (e:Env) (k:Env->Pr),P8 P md ops kp sM f m e k=cD P kp md ops s f (kO ops.size m) e k
 |0,m,e,k=>by rw[P8,cD,h,uh]
 |
  f+1,m,e,k=>by
  rw[P8,cD,h,uh];have ht:Hl P md ops m=mO P md ops (kO ops.size m):=funext λi=>MF P md ops m i;have hk:∀i e',P8 P md ops kp sM f (P4 m i) e' k=cD P kp md ops s f ((kO ops.size m).setIfInBounds i true) e' k:=λi e'=>by rw[Az kp h f,B0]
  rw[ht];simp only[hk]
def JA.toM(j:JA)(m:Nat):Nat:=j.ix.foldl P4 m
theorem MG(j:JA)(n m:Nat):j.to (kO n m)=kO n (j.toM m):=by
 unfold JA.to JA.toM;generalize j.ix=l
 induction l generalizing m with
 |nil=>rfl
 |cons i l ih=>rw[List.foldl_cons,List.foldl_cons,B0,ih]
def MH(j:JA)(e:Env)(T:Nat)(f2:Nat)(R:eD (j.l.map (·.2))->Pr):ze:=λfuel m e'=>
 match Nat.beq (m%2^ops.size) (T%2^ops.size)&&Nat.ble f2 fuel with
 |true=>some (tf (r9 e e' (j.kp ops)&&(j.sl ops).all λd=>iV (Env.get e' d)) (need e' j.l R) dM)
 |false=>none
def MI(kp:KP)(j:JA)(Tv:Nat->Nat->Env->Pr)(fuel:Nat)(m:Nat)(e:Env):Pr:=
 tf (!(cw ops).contains qj&& !(cw ops).contains vJ) (jn (λR=>P8 P md ops kp (MH ops j e (j.toM m) (fuel-j.ix.length) R) fuel m e (λ_=>dM))
  (λs=>Tv (fuel-j.ix.length) (j.toM m) (mI (wZ (j.sl ops) (mP e (j.kp ops) (Env.forget e (cw ops)))) j.l s))) dM
def Ev(kp:KP)(j:JA)(Tv:Nat->Nat->Env->Pr)(alt:ze):ze:=λfuel m e=>
 match ug md ops m==j.rs&&(j.sk==j.ix.all (RC ops e))with
 |true=>some (MI P md ops kp j Tv fuel m e)
 |false=>alt fuel m e
def xy(kp:KP)(k:Env->Pr):List JA->ze
 |[]=>λ_ _ _=>none
 |j::js=>Ev P md ops kp j (λf L e'=>P8 P md ops kp (xy kp k js) f L e' k) (xy kp k js)
theorem uj(kp:KP)(k:Env->Pr):∀(js:List JA) (f m:Nat) (e:Env),xy P md ops kp k js f m e=stops P kp md ops k js f (kO ops.size m) e
 |[],_,_,_=>rfl
 |
  j::js,f,m,e=>by
  show Ev P md ops kp j _ _ f m e=G7 P kp md ops j _ _ f (kO ops.size m) e;unfold Ev G7;rw[uh,uj kp k js];have:MI P md ops kp j (λf L e'=>P8 P md ops kp (xy P md ops kp k js) f L e' k) f m e=Mx P kp md ops j (λf L e'=>cD P kp md ops (stops P kp md ops k js) f L e' k) f (kO ops.size m) e:=by
   unfold MI Mx
   congr 1
   congr 1
   ·funext R
    rw[MG];refine Az P md ops kp (λf' m' e'=>?_) ..;unfold MH Mw;rw[P5]
    all_goals rfl
   ·funext s
    rw[MG];exact Az P md ops kp (λf' m' e'=>uj kp k js f' m' e') ..
  rw[this]
  all_goals rfl
def xe(kp:KP)(js:List JA)(e:Env)(k:Env->Pr):Pr:=P8 P md ops kp (xy P md ops kp k js) ops.size 0 e k
theorem Jq(kp:KP)(js:List JA)(e:Env)(k:Env->Pr):xe P md ops kp js e k=RD P kp md ops js ops.size (Array.replicate ops.size false) e k:=by
 rw[Ju];exact Az P md ops kp (uj P md ops kp k js) ..
end
inductive An where
 |z
 |sq (x y:An)
 |br (x y:An)
 |bl (x:An)
 |sc (x:An)
 |lp (l:Live) (x:An)
 |jn (l:Live) (x:An)
 |rf (cM:List Sh) (x y:An)
 |jm (l:Live) (x:An)
 |lb
 |sj (lb:Nat) (l:Live) (x y:An)
 |rj (js:List JA)
structure Ks where
 n:Env->Pr
 r:Env->Pr
 x:List (Nat×(Env->Pr))
 rg:Bool
 g:List (Nat×(Env->Pr))
def oe:List (Nat×(Env->Pr))->Nat->Env->Pr
 |[],_,_=>dM
 |
  (j,k)::l,i,e=>
  match Nat.beq i j with
  |true=>k e
  |false=>oe l i e
def dO:Code->List Nat
 |.region _ ops _=>cw ops
 |.seq a b=>dO a++dO b
 |.cond _ a b=>dO a++dO b
 |.block _ a=>dO a
 |.loop a=>dO a
 |.scope a=>dO a
 |.rangeFunc _ _ _ _=>[qj]
 |_=>[]
def Au(kp:KP)(dk:Bool):KP:=
 match dk with
 |true=>kp
 |false=>none
def Ej(P:Program)(ops:Array Oper):Bool:=Region.noSelect ops&&nA ops
def y8(P:Program)(ops:Array Oper):Bool:=P.follows .mixedOrders|| !Region.departs ops
def okJ(js:List JA)(ops:Array Oper):Bool:=js.all λj=>j.l.all λx=>(cw ops).contains x.1
def Ty(P:Program)(kp:KP)(dk rg:Bool)(js:List JA)(ops:Array Oper)(draw:Bool)(e:Env)(k:Env->Pr):Pr:=
 match draw with
 |false=>Tr P kp (!rg) ops (List.range ops.size) e k
 |true=>tf (Ej P ops) (eG (tf (y8 P ops) (xe P .any ops (Au kp dk) js e k)
   (both (xe P .text ops (Au kp dk) js e k) (xe P .gc ops (Au kp dk) js e k)))) dM
def ue(l:Live)(W:List Nat):Bool:= !W.contains qj&& !W.contains vJ&&l.all λx=>W.contains x.1
def rQ:Option Nat->Code
 |none=>.ret
 |some i=>.exit i
def xg:List (Nat×Pr)->Nat->Pr
 |[],_=>dM
 |
  (j,k)::l,i=>
  match Nat.beq i j with
  |true=>k
  |false=>xg l i
def jmp(r:Pr)(x:List (Nat×Pr)):Option Nat->Pr
 |none=>r
 |some i=>xg x i
def lC:Code->Bool
 |.ret=>true
 |.seq a b=>lC a||lC b
 |.cond _ a b=>lC a||lC b
 |.block _ a=>lC a
 |.loop a=>lC a
 |.scope a=>lC a
 |.rangeFunc _ _ a b=>lC a||lC b
 |_=>false
def fC(i:Nat):Code->Bool
 |.exit j=>Nat.beq i j
 |.seq a b=>fC i a||fC i b
 |.cond _ a b=>fC i a||fC i b
 |.block _ a=>fC i a
 |.loop a=>fC i a
 |.scope a=>fC i a
 |.rangeFunc _ _ a b=>fC i a||fC i b
 |_=>false
def RE(c:Code)(e:Env):List (Nat×(Env->Pr))->List (Nat×Pr)
 |[]=>[]
 |
  (i,k)::l=>
  match fC i c with
  |true=>(i,k e)::RE c e l
  |false=>RE c e l
def yE(P:Program)(v:Value)(cM:List Sh)(R:Nat->eD cM->(Pr->Pr)->Pr->(Option Nat->Pr)->Pr)(K Jr:Nat->Pr)(Jx:Nat->List (Nat×Pr)):Pr:=λw=>
 ∃f caps,v=.func (.func f) #[] caps/\fI P f=true/\
 ∀
  L:LoopState->Option Code->Obj,(∀s p,∃r,L s p=.loop r)->
  (∀(W:World) (args:eD cM) (k:Bool->Pr),W.heap[w.heap.size+1]? =some (L .ready none)->
    R
     (w.heap.size+1) args (λc W1=>W1.heap[w.heap.size+1]? =some (L .ready none)/\c (W1.putObj (w.heap.size+1) (L .busy none)))
     (λW1=>W1.heap[w.heap.size+1]? =some (L .busy none)/\k true (W1.putObj (w.heap.size+1) (L .ready none)))
     (λj W1=>W1.heap[w.heap.size+1]? =some (L .busy none)/\k false (W1.putObj (w.heap.size+1) (L .done (some (rQ j))))) W->
    YieldAt Fence.wide 0 P (w.heap.size+1) (rU cM args).toArray W (au [.c .bool] k))->
  Calls P f (#[.func (.yield (w.heap.size+1)) #[] #[]]++caps) ((w.alloc (.deferred (some []))).alloc (L .ready none)) λe W1=>
   (∃u,e=.returned u)/\
   (
    (W1.heap[w.heap.size+1]? =some (L .ready none)/\K w.heap.size (W1.putObj (w.heap.size+1) (L .exhausted none)))\/
    ∃j,W1.heap[w.heap.size+1]? =some (L .done (some (rQ j)))/\jmp (Jr w.heap.size) (Jx w.heap.size) j (W1.putObj (w.heap.size+1) (L .exhausted (some (rQ j)))))
def G9:List Nat->LV->Env->Env
 |p::ps,v::vs,e=>G9 ps vs (Env.set e p (.val v))
 |_,_,e=>e
def xlv(lv:Option Nat->Pr):List (Nat×(Env->Pr))->List (Nat×(Env->Pr))
 |[]=>[]
 |(i,_)::l=>(i,λ_=>lv (some i))::xlv lv l
def takes:List Nat->Pr->Pr
 |[],k=>k
 |D::ds,k=>λw=>w.heap[D]? =some (.deferred (some []))/\takes ds k (w.putObj D (.deferred none))
def eE(l:Nat):Code->Bool
 |.seq a b=>eE l a||eE l b
 |.label l'=>Nat.beq l' l
 |_=>false
def nW:Code->Bool
 |.seq a b=>nW a&&nW b
 |.label _=>false
 |_=>true
def ae7{S:Type}(G:(S->Pr)->S->Pr)(F:(S->Pr)->Pr):Pr:=λw=>
 ∃(I:S->Pr) (μ:S->World->Nat),F I w/\∀s w,I s w->G (λs' w'=>I s' w'/\μ s' w'<μ s w) s w
mutual
def cC(P:Program)(kp:KP)(dk:Bool):An->Code->Env->Ks->Pr
 |.z,.skip,e,K=>K.n e
 |.z,.label _,e,K=>K.n e
 |.z,.region _ ops draw,e,K=>Ty P kp dk K.rg [] ops draw e K.n
 |.rj js,.region _ ops draw,e,K=>tf (okJ js ops) (Ty P kp dk K.rg js ops draw e K.n) dM
 |.z,.exit i,e,K=>oe K.x i e
 |.z,.ret,e,K=>K.r e
 |.z,.goto l,e,K=>oe K.g l e
 |.lb,.label l,e,K=>oe K.g l e
 |.sq x y,.seq a b,e,K=>cC P kp dk x a e {K with n:=λe'=>cC P kp dk y b e' K}
 |.br x y,.cond c a b,e,K=>tf (nW a&&nW b) (Ll (Env.ev e c) (cC P kp dk x a e K) (cC P kp dk y b e K)) dM
 |.bl x,.block id a,e,K=>tf (nW a) (cC P kp dk x a e {K with x:=(id,K.n)::K.x}) dM
 |.sc x,.scope a,e,K=>cC P kp dk x a e {K with g:=[]}
 |.sj lb l x y,.scope a,e,K=>tf (ue l (dO a)&&eE lb a) (ae7
   (λX s=>cL P kp dk lb y a (mI (Env.forget e (dO a)) l s) {K with g:=[(lb,λe'=>need e' l X)]})
   (λX=>cC P kp dk x a e {K with g:=[(lb,λe'=>need e' l X)]})) dM
 |.lp l x,.loop a,e,K=>tf (ue l (dO a)&&nW a) (need e l λs=>bh (λX s=>cC P kp dk x a (mI (Env.forget e (dO a)) l s) {K with n:=λe'=>need e' l X}) s) dM
 |.jn l x,c,e,K=>tf (ue l (dO c)&&nW c) (jn (λR=>cC P kp dk x c e {K with n:=λe'=>need e' l R}) (λs=>K.n (mI (Env.forget e (dO c)) l s))) dM
 |.rf cM x y,.rangeFunc g ps assign body,e,K=>tf (!K.rg&&Nat.beq cM.length ps.size) (nd (Env.ev e g) λv=>
   yE P v cM (λ_ args bg nx lv=>cC P none dk x assign (G9 ps.toList (rU cM args) ⟨e.l,[],[]⟩) ⟨λe1=>bg (cC P none dk y body e1 ⟨λ_=>nx,λ_=>lv none,xlv lv K.x,true,[]⟩),λ_=>dM,[],true,[]⟩)
    (λD=>K.n (Env.mark e D)) (λD=>tf (lC body) (K.r (Env.mark e D)) dM) (λD=>RE body (Env.mark e D) K.x)) dM
 |.jm l x,c,e,K=>tf ((!(dO c).contains vJ&&l.all λz=>(dO c).contains z.1)&&nW c) (jn (λR=>cC P kp dk x c e {K with n:=λe'=>need e' l λs=>R (e'.ds,s)}) (λs=>K.n (mI ⟨(Env.forget e (dO c)).l,s.1,e.bs⟩ l s.2))) dM
 |_,_,_,_=>dM
def cL(P:Program)(kp:KP)(dk:Bool)(lb:Nat):An->Code->Env->Ks->Pr
 |.z,.label l,e,K=>tf (Nat.beq l lb) (K.n e) dM
 |.sq x y,.seq a b,e,K=>tf (eE lb a) (tf (eE lb b) dM (cL P kp dk lb x a e {K with n:=λe'=>cC P kp dk y b e' K})) (cL P kp dk lb y b e K)
 |_,_,_,_=>dM
end
theorem cV{P:Program}{b:Frame}{a:Act}{k:List Item}{cs:List Frame}{w:World}{c:Code}:
 step P (lone (b.atR a (.code (.scope c)::k)) cs w)=.next (lone (b.atR a (.code c::.inScope c::k)) cs w):=
 step_lone_go (by simp[stepG,stepG.exec,Frame.atR])
theorem lD{P:Program}{b:Frame}{a:Act}{k:List Item}{cs:List Frame}{w:World}{c:Code}:
 step P (lone (b.atR a (.inScope c::k)) cs w)=.next (lone (b.atR a k) cs w):=
 step_lone_go (by simp[stepG,stepG.exec,Frame.atR])
def ae8(Q:Exit->Act->World->Prop):Exit->Act->World->Prop
 |.goto _,_,_=>False
 |e,a,w=>Q e a w
theorem BT{F:Fence}{n:Nat}{P:Program}{Q:Exit->Act->World->Prop}{a:Act}{w:World}{c:Code}(h:c.wpIn F n P (ae8 Q) a w):(Code.scope c).wpIn F n P Q a w:=by
 intro b k cs hro hb hr;have h0:(lone (b.atR a (.code (.scope c)::k)) cs w).fenced P F:=fenced_calm hb hr rfl;obtain⟨e,a₁,w₁,hq,lT⟩:=h b (.inScope c::k) cs hro hb hr;cases e with
 |normal=>exact⟨.normal,a₁,w₁,hq,.head h0 cV (StepsIn.trans lT (.one (fenced_calm hb hr rfl) lD))⟩
 |
  exit id=>
  have hx:exitTo id (.inScope c::k)=exitTo id k:=by simp[exitTo]
  exact⟨_,a₁,w₁,hq,λk' hk=>.head h0 cV (lT.1 k' (by rw[hx];exact hk)),
   λhr' hk=>let⟨k₁,h1,h2⟩:=lT.2 hr' (by rw[hx];exact hk);⟨k₁,h1,.head h0 cV h2⟩⟩
 |goto l=>exact hq.elim
 |ret=>exact⟨_,a₁,w₁,hq,.of_steps (.one h0 cV) lT⟩
 |panic ch=>exact⟨_,a₁,w₁,hq,.of_steps (.one h0 cV) lT⟩
 |outgrown=>exact⟨_,a₁,w₁,hq,.of_steps (.one h0 cV) lT⟩
theorem least{S:Type}(p:S->Prop)(f:S->Nat)(h:∃s,p s):∃s,p s/\∀s',p s'->f s<=f s':=by
 have key:∀m s,p s->f s=m->∃s,p s/\∀s',p s'->f s<=f s':=by
  intro m
  induction m using Nat.strongRecOn with
  |
   _ m ih=>
   intro s hs hm;rcases Classical.em (∃s',p s'/\f s'<m)with⟨s',h1,h2⟩|hno
   ·exact ih _ h2 s' h1 rfl
   ·refine⟨s,hs,λs' hs'=>?_⟩
    rw[hm];exact Nat.le_of_not_lt λhlt=>hno ⟨s',hs',hlt⟩
 obtain⟨s,hs⟩:=h;exact key _ s hs rfl
theorem Ek{F:Fence}{n:Nat}{P:Program}{Q:Exit->Act->World->Prop}{c:Code}{S:Type}(I:S->Act->World->Prop)(μ:S->World->Nat){s:S}{a:Act}{w:World}(h₀:I s a w)
 (round:∀s a w,I s a w->c.wpIn F n P (Exit.then (λa' w'=>∃s',I s' a' w'/\μ s' w'<μ s w) Q) a w):(Code.loop c).wpIn F n P Q a w:=by
 classical
 let ν:Act->World->Nat:=λa w=>if h:∃s,I s a w then μ (Classical.choose (least (λs=>I s a w) (λs=>μ s w) h)) w else 0;refine wpIn_loop (λa w=>∃s,I s a w) ν ⟨s,h₀⟩ ?_;intro a w hex;obtain⟨hs1,_⟩:=Classical.choose_spec (least (λs=>I s a w) (λs=>μ s w) hex);have hν:ν a w=μ (Classical.choose (least (λs=>I s a w) (λs=>μ s w) hex)) w:=by simp only[ν];rw[dif_pos hex]
 refine wpIn_mono (round _ a w hs1) ?_;intro e a' w' h;cases e with
 |
  normal=>
  obtain⟨s',hs',hlt⟩:=h;refine⟨⟨s',hs'⟩,?_⟩;have Tz:∃s,I s a' w':=⟨s',hs'⟩;have h2:=(Classical.choose_spec (least (λs=>I s a' w') (λs=>μ s w') Tz)).2 s' hs';have hν':ν a' w'=μ (Classical.choose (least (λs=>I s a' w') (λs=>μ s w') Tz)) w':=by simp only[ν];rw[dif_pos Tz]
  rw[hν,hν'];exact Nat.lt_of_le_of_lt h2 hlt
 |_=>exact h
section
variable{P:Program}{n:Nat}{r:Option Nat}
theorem El{Q:Exit->Act->World->Prop}{ops:Array Oper}{id:Nat}{a:Act}{w:World}(hm:y8 P ops=true)
 (h:wpAnyIn (wf r) n P .any ops Q ops.size (Array.replicate ops.size false) a w.drew):(Code.region id ops true).wpIn (wf r) n P Q a w:=
 wpIn_region_draw λt=>by
  unfold y8 at hm;simp only[Region.schedule,hm,if_true];exact wpAnyIn_sound ops.size t _ a _ h
theorem Em{Q:Exit->Act->World->Prop}{ops:Array Oper}{id:Nat}{a:Act}{w:World}(hm:y8 P ops=false)
 (h1:wpAnyIn (wf r) n P .text ops Q ops.size (Array.replicate ops.size false) a w.drew)(h2:wpAnyIn (wf r) n P .gc ops Q ops.size (Array.replicate ops.size false) a w.drew):(Code.region id ops true).wpIn (wf r) n P Q a w:=
 wpIn_region_draw λt=>by
  unfold y8 at hm;simp only[Region.schedule,hm,Bool.false_eq_true,if_false];split
  ·exact wpAnyIn_sound ops.size _ _ a _ h1
  ·exact wpAnyIn_sound ops.size _ _ a _ h2
def My(Q:Exit->Act->World->Prop):Exit->Act->World->Prop
 |.panic _,_,_=>False
 |e,a,w=>Q e a w
theorem BU{js:List JA}{ops:Array Oper}(h:okJ js ops=true):∀j∈js,∀x∈j.l,x.1∈cw ops:=λj hj x hx=>by
 simpa using List.all_eq_true.1 (List.all_eq_true.1 h j hj) x hx
theorem xh{kp:KP}{dk rg:Bool}{js:List JA}{ops:Array Oper}{id:Nat}{draw:Bool}{Q:Exit->Act->World->Prop}{e:Env}{a:Act}{w:World}{k:Env->Pr}(qk:rg=false->r=none)
 (hI:dk=true->∀c a d v w,d∈cw ops->Q (.panic c) (a.put (some d) v) w->Q (.panic c) a w)(hjs:okJ js ops=true)(he:Ag e a)(h:Ty P kp dk rg js ops draw e k w)
 (hk:∀e' a' w',Ag e' a'->Ext (cw ops) e e'->k e' w'->Q .normal a' w')
 (hp:∀e' a' ch w',Ag e' a'->Ext (cw ops) e e'->Pd (kp.at e') ch w'->Q (.panic ch) a' w'):(Code.region id ops draw).wpIn (wf r) n P Q a w:=by
 cases draw with
 |false=>exact wpIn_region (wU (λh=>qk (by simpa using h)) he h hk hp)
 |
  true=>
  rcases aW (show tf (Ej P ops) _ _ w from h)with⟨hd,h⟩|⟨_,h⟩
  ·simp only[Ej,kf]at hd
   have one:∀(md:Region.Mode) (Q0:Exit->Act->World->Prop),(Q0=Q/\dk=true)\/(Q0=My Q/\dk=false)->xe P md ops (Au kp dk) js e k w.drew->
    wpAnyIn (wf r) n P md ops Q0 ops.size (Array.replicate ops.size false) a w.drew:=by
    intro md Q0 XC h;rw[Jq]at h;rcases XC with⟨rfl,rfl⟩|⟨rfl,rfl⟩
    ·exact ua hd.2 _ _ _ _ (vg hd.1 (hI rfl) js (BU hjs) _ _ _ _ _ _ he h hk hp)
    ·exact ua hd.2 _ _ _ _ (vg (kp:=none) hd.1 (λc a d v w _ h=>h) js (BU hjs) _ _ _ _ _ _ he h hk (λe' a' ch w' _ _ h=>False.elim h))
   have RF:∀Q0:Exit->Act->World->Prop,(Q0=Q/\dk=true)\/(Q0=My Q/\dk=false)->(Code.region id ops true).wpIn (wf r) n P Q0 a w:=by
    intro Q0 XC;rcases aW (show tf (y8 P ops) _ _ w.drew from h)with⟨hm,h⟩|⟨hm,h⟩
    ·exact El hm (one _ _ XC h)
    ·exact Em hm (one _ _ XC h.1) (one _ _ XC h.2)
   cases hdk:dk with
   |true=>exact RF Q (.inl ⟨rfl,hdk⟩)
   |
    false=>
    refine wpIn_mono (Q:=My Q) (RF _ (.inr ⟨rfl,hdk⟩)) ?_;intro ex a' w' h;cases ex<;>first|exact h|exact False.elim h
  ·exact h.elim
theorem oT{l:Live}{W:List Nat}(h:ue l W=true):(∀x∈l,x.1∈W)/\qj∉W/\vJ∉W:=by
 unfold ue at h;rw[kf,kf]at h;refine⟨λx hx=>?_,by simpa using h.1.1,by simpa using h.1.2⟩;have:=List.all_eq_true.1 h.2 x hx;simpa using this
theorem vh:∀(l:List Sh) (p:eD l),(rU l p).length=l.length
 |[],_=>rfl
 |[_],_=>rfl
 |
  _::t::l,(p,q)=>by
  show(val _ p::rU (t::l) q).length=_;rw[List.length_cons,vh (t::l) q];rfl
theorem BV:∀(ps:List Nat) (vs:LV) (e:Env) (a:Act),Ag e a->Ag (G9 ps vs e) ((ps.zip vs).foldl (λa x=>a.put (some x.1) x.2) a)
 |[],vs,e,a,h=>by cases vs<;>exact h
 |_::_,[],e,a,h=>h
 |p::ps,v::vs,e,a,h=>BV ps vs _ _ (h.put (some p) (x:=.val v) (λu hu=>by simpa[EV.v?]using hu.symm))
theorem y9:∀(l:List (Nat×Value)) (a:Act),l.foldl (λa x=>a.put (some x.1) x.2) a={a with tmps:=l.foldl (λt x=>t.setIfInBounds x.1 x.2) a.tmps}
 |[],a=>rfl
 |
  x::l,a=>by
  rw[List.foldl_cons,List.foldl_cons,y9 l];rfl
theorem Av{c:Code}{e:Env}{i:Nat}{w:World}(hi:fC i c=false):∀{l:List (Nat×(Env->Pr))},xg (RE c e l) i w->False
 |[],h=>h.elim
 |
  (j,k)::l,h=>by
  unfold RE at h;cases hj:fC j c with
  |false=>rw[hj]at h;exact Av hi (l:=l) h
  |
   true=>
   rw[hj]at h;unfold xg at h;cases hb:Nat.beq i j with
   |
    true=>
    have:i=j:=Nat.eq_of_beq_eq_true hb;subst this;rw[hi]at hj;cases hj
   |false=>rw[hb]at h;exact Av hi (l:=l) h
theorem En{c:Code}{e:Env}{i:Nat}{w:World}(hi:fC i c=true):∀{l:List (Nat×(Env->Pr))},xg (RE c e l) i w->oe l i e w
 |[],h=>h.elim
 |
  (j,k)::l,h=>by
  unfold RE at h;unfold oe;cases hb:Nat.beq i j with
  |
   true=>
   have:i=j:=Nat.eq_of_beq_eq_true hb;subst this;rw[hi]at h;unfold xg at h;rw[hb]at h;exact h
  |
   false=>
   cases hj:fC j c with
   |false=>rw[hj]at h;exact En hi (l:=l) h
   |
    true=>
    rw[hj]at h;unfold xg at h;rw[hb]at h;exact En hi (l:=l) h
theorem TA{c:Code}{e:Env}{i:Nat}{w:World}{l:List (Nat×(Env->Pr))}(h:xg (RE c e l) i w):oe l i e w:=by
 cases hi:fC i c with
 |true=>exact En hi h
 |false=>exact(Av hi h).elim
theorem BW{lv:Option Nat->Pr}{i:Nat}{e:Env}{w:World}:∀{l:List (Nat×(Env->Pr))},oe (xlv lv l) i e w->lv (some i) w
 |[],h=>h.elim
 |
  (j,k)::l,h=>by
  unfold xlv oe at h;cases hb:Nat.beq i j with
  |
   true=>
   rw[hb]at h;have:i=j:=Nat.eq_of_beq_eq_true hb;subst this;exact h
  |
   false=>
   rw[hb]at h;exact BW (l:=l) h
theorem iz{l:Nat}:∀{c:Code},nW c=true->eE l c=false
 |
  .seq a b,h=>by
  simp only[nW,kf]at h;simp only[eE,iz (c:=a) h.1,iz (c:=b) h.2,Bool.or_self]
 |.label _,h=>by cases h
 |.skip,_|.region _ _ _,_|.cond _ _ _,_|.block _ _,_|.loop _,_|.scope _,_|.exit _,_|.goto _,_|.ret,_|.refuse _,_|.rangeFunc _ _ _ _,_=>rfl
def xj(P:Program)(n:Nat)(r:Option Nat):Code->Nat->(Exit->Act->World->Prop)->Act->World->Prop
 |.seq a b,l,Q,ac,w=>(eE l a=true->xj P n r a l (Exit.then (b.wpIn (wf r) n P Q) Q) ac w)/\(eE l b=true->xj P n r b l Q ac w)
 |.label _,_,Q,ac,w=>Q .normal ac w
 |_,_,_,_,_=>True
theorem jW{l:Nat}:∀{c rest:Code},findLabel c l=some rest->eE l c=true
 |
  .seq a b,rest,h=>by
  unfold findLabel at h;simp only[eE,Bool.or_eq_true];split at h
  ·rename_i ra ha;exact .inl (jW ha)
  ·exact .inr (jW h)
 |
  .label l',rest,h=>by
  unfold findLabel at h;split at h
  ·rename_i he
   have:l'=l:=by simpa using he
   subst this;exact Nat.beq_refl _
  ·cases h
 |.skip,_,h|.region _ _ _,_,h|.cond _ _ _,_,h|.block _ _,_,h|.loop _,_,h|.scope _,_,h|.exit _,_,h|.goto _,_,h|.ret,_,h|.refuse _,_,h|.rangeFunc _ _ _ _,_,h=>by simp[findLabel]at h
theorem mA{l:Nat}:∀{c:Code},eE l c=true->∃rest,findLabel c l=some rest
 |
  .seq a b,h=>by
  simp only[eE,Bool.or_eq_true]at h;unfold findLabel;cases ha:findLabel a l with
  |some ra=>exact⟨_,rfl⟩
  |
   none=>
   rcases h with h|h
   ·obtain⟨r,hr⟩:=mA h
    rw[ha]at hr;cases hr
   ·exact mA h
 |
  .label l',h=>by
  have:l'=l:=(Nat.eq_of_beq_eq_true (show Nat.beq l' l=true from h));subst this;exact⟨.skip,by simp[findLabel]⟩
 |.skip,h|.region _ _ _,h|.cond _ _ _,h|.block _ _,h|.loop _,h|.scope _,h|.exit _,h|.goto _,h|.ret,h|.refuse _,h|.rangeFunc _ _ _ _,h=>by cases h
theorem xm{P:Program}{n:Nat}{r:Option Nat}{l:Nat}:∀{c rest:Code} {Q:Exit->Act->World->Prop} {a:Act} {w:World},findLabel c l=some rest->xj P n r c l Q a w->rest.wpIn (wf r) n P Q a w
 |
  .seq c1 c2,rest,Q,a,w,h,hl=>by
  obtain⟨h1,h2⟩:=hl;unfold findLabel at h;split at h
  ·rename_i ra ha
   simp only[jg]at h;subst h;exact wpIn_seq (xm ha (h1 (jW ha)))
  ·exact xm h (h2 (jW h))
 |
  .label l',rest,Q,a,w,h,hl=>by
  unfold findLabel at h;split at h
  ·simp only[jg]at h
   subst h;exact wpIn_skip hl
  ·cases h
 |.skip,_,_,_,_,h,_|.region _ _ _,_,_,_,_,h,_|.cond _ _ _,_,_,_,_,h,_|.block _ _,_,_,_,_,h,_|.loop _,_,_,_,_,h,_|.scope _,_,_,_,_,h,_|.exit _,_,_,_,_,h,_
 |.goto _,_,_,_,_,h,_|.ret,_,_,_,_,h,_|.refuse _,_,_,_,_,h,_|.rangeFunc _ _ _ _,_,_,_,_,h,_=>by simp[findLabel]at h
def He(l:Nat)(J:Act->World->Prop)(Q:Exit->Act->World->Prop):Exit->Act->World->Prop
 |.goto l',a,w=>l'=l/\J a w
 |e,a,w=>Q e a w
theorem su{F:Fence}{n:Nat}{P:Program}{Q:Exit->Act->World->Prop}{a:Act}{w:World}{c rest:Code}{S:Type}(l:Nat)(J:S->Act->World->Prop)(μ:S->World->Nat)(hf:findLabel c l=some rest)
 (first:c.wpIn F n P (He l (λa w=>∃s,J s a w) Q) a w)
 (pass:∀s a w,J s a w->rest.wpIn F n P (He l (λa' w'=>∃s',J s' a' w'/\μ s' w'<μ s w) Q) a w):(Code.scope c).wpIn F n P Q a w:=by
 intro b k cs hro hb hr;have h0:(lone (b.atR a (.code (.scope c)::k)) cs w).fenced P F:=fenced_calm hb hr rfl;have hg:gotoIn l (.inScope c::k)=some (.code rest::.inScope c::k):=by simp[gotoIn,hf]
 have Dd:∀id,exitTo id (.inScope c::k)=exitTo id k:=λid=>by simp[exitTo]
 have key:∀m s a w,μ s w=m->J s a w->∃e a' w',Q e a' w'/\ArrivesIn (Machine.fenced P F) P (lone (b.atR a (.code rest::.inScope c::k)) cs w) b k cs e a' w':=by
  intro m
  induction m using Nat.strongRecOn with
  |
   _ m ih=>
   intro s a w hn hJ;obtain⟨e,a₁,w₁,hq,lT⟩:=pass s a w hJ b (.inScope c::k) cs hro hb hr;cases e with
   |normal=>exact⟨.normal,a₁,w₁,hq,StepsIn.trans lT (.one (fenced_calm hb hr rfl) lD)⟩
   |exit id=>exact⟨.exit id,a₁,w₁,hq,λk' hk=>lT.1 k' (by rw[Dd];exact hk),λhr' hk=>lT.2 hr' (by rw[Dd];exact hk)⟩
   |
    goto l'=>
    obtain⟨rfl,s',XD,hlt⟩:=hq;obtain⟨e₂,a₂,w₂,hq₂,Mz⟩:=ih _ (hn▸hlt) s' a₁ w₁ rfl XD;exact⟨e₂,a₂,w₂,hq₂,.of_steps (lT.1 _ hg) Mz⟩
   |ret=>exact⟨_,a₁,w₁,hq,lT⟩
   |panic ch=>exact⟨_,a₁,w₁,hq,lT⟩
   |outgrown=>exact⟨_,a₁,w₁,hq,lT⟩
 obtain⟨e,a₁,w₁,hq,lT⟩:=first b (.inScope c::k) cs hro hb hr
 cases e with
 |normal=>exact⟨.normal,a₁,w₁,hq,.head h0 cV (StepsIn.trans lT (.one (fenced_calm hb hr rfl) lD))⟩
 |
  exit id=>
  exact⟨_,a₁,w₁,hq,λk' hk=>.head h0 cV (lT.1 k' (by rw[Dd];exact hk)),
   λhr' hk=>let⟨k₁,h1,h2⟩:=lT.2 hr' (by rw[Dd];exact hk);⟨k₁,h1,.head h0 cV h2⟩⟩
 |
  goto l'=>
  obtain⟨rfl,s',XD⟩:=hq;obtain⟨e₂,a₂,w₂,hq₂,Mz⟩:=key _ s' a₁ w₁ rfl XD;exact⟨e₂,a₂,w₂,hq₂,.of_steps (.head h0 cV (lT.1 _ hg)) Mz⟩
 |ret=>exact⟨_,a₁,w₁,hq,.of_steps (.one h0 cV) lT⟩
 |panic ch=>exact⟨_,a₁,w₁,hq,.of_steps (.one h0 cV) lT⟩
 |outgrown=>exact⟨_,a₁,w₁,hq,.of_steps (.one h0 cV) lT⟩
def
 Eo(P:Program)(dk:Bool)(an:An):Prop:=∀(kp:KP) (n:Nat) (r:Option Nat) (c:Code) (Q:Exit->Act->World->Prop) (e:Env) (a:Act) (w:World) (K:Ks),(dk=true->∀ch a d v w,d∈dO c->Q (.panic ch) (a.put (some d) v) w->Q (.panic ch) a w)->
 (∀e' a' ch w',Ag e' a'->Ext (dO c) e e'->Pd (kp.at e') ch w'->Q (.panic ch) a' w')->Ag e a->cC P kp dk an c e K w->(K.rg=false->r=none)->
 (∀e' a' w',Ag e' a'->Ext (dO c) e e'->K.n e' w'->Q .normal a' w')->(∀e' a' w',Ag e' a'->K.r e' w'->Q .ret a' w')->
 (∀i e' a' w',Ag e' a'->Ext (dO c) e e'->oe K.x i e' w'->Q (.exit i) a' w')->
 (∀l e' a' w',Ag e' a'->Ext (dO c) e e'->oe K.g l e' w'->Q (.goto l) a' w')->
 (∀l e' a' w',eE l c=true->Ag e' a'->Ext (dO c) e e'->oe K.g l e' w'->xj P n r c l Q a' w')->c.wpIn (wf r) n P Q a w
def
 uf(P:Program)(dk:Bool)(an:An):Prop:=∀(kp:KP) (n:Nat) (r:Option Nat) (lb:Nat) (c:Code) (Q:Exit->Act->World->Prop) (e:Env) (a:Act) (w:World) (K:Ks),(dk=true->∀ch a d v w,d∈dO c->Q (.panic ch) (a.put (some d) v) w->Q (.panic ch) a w)->
 (∀e' a' ch w',Ag e' a'->Ext (dO c) e e'->Pd (kp.at e') ch w'->Q (.panic ch) a' w')->Ag e a->cL P kp dk lb an c e K w->(K.rg=false->r=none)->
 (∀e' a' w',Ag e' a'->Ext (dO c) e e'->K.n e' w'->Q .normal a' w')->(∀e' a' w',Ag e' a'->K.r e' w'->Q .ret a' w')->
 (∀i e' a' w',Ag e' a'->Ext (dO c) e e'->oe K.x i e' w'->Q (.exit i) a' w')->
 (∀l e' a' w',Ag e' a'->Ext (dO c) e e'->oe K.g l e' w'->Q (.goto l) a' w')->
 (∀l e' a' w',l≠lb->eE l c=true->Ag e' a'->Ext (dO c) e e'->oe K.g l e' w'->xj P n r c l Q a' w')->xj P n r c lb Q a w
theorem ae9{dk:Bool}:uf P dk .z:=by
 intro kp n r lb c Q e a w K hI hp he h qk hn hr hx kB hla;cases c<;>simp only[cL]at h<;>try exact h.elim
 rcases aW h with⟨_,h⟩|⟨_,h⟩
 ·exact hn _ _ _ he (Ext.refl _ _) h
 ·exact h.elim
theorem XE{dk:Bool}{x y:An}(nX:uf P dk x)(Aw:uf P dk y)(icy:Eo P dk y):uf P dk (.sq x y):=by
 intro kp n r lb c Q e a w K hI hp he h qk hn hr hx kB hla;cases c<;>simp only[cL]at h<;>try exact h.elim
 rename_i c1 c2;rcases aW h with⟨h1,h⟩|⟨h1,h⟩
 ·rcases aW h with⟨h2,h⟩|⟨h2,h⟩
  ·exact h.elim
  ·refine⟨λ_=>?_,λh3=>by rw[h2]at h3;cases h3⟩
   refine nX _ _ _ lb c1 _ e a w _ (λhd ch a d v w hm h=>hI hd ch a d v w (by simp[dO,hm]) h) (λe1 a1 ch w1 ef hx1 h1=>hp _ _ _ _ ef (hx1.mono (λ_ h=>by simp[dO,h])) h1) he h qk ?_ hr ?_ ?_ ?_
   ·intro e1 a1 w1 ef hx1 h1
    refine icy _ _ _ c2 Q e1 a1 w1 K (λhd ch a d v w hm h=>hI hd ch a d v w (by simp[dO,hm]) h) (λe2 a2 ch w2 dW hx2 h2=>hp _ _ _ _ dW (hx1.trans hx2 (λ_ h=>by simp[dO,h]) (λ_ h=>by simp[dO,h])) h2) ef h1 qk ?_ hr ?_ ?_ ?_
    ·intro e2 a2 w2 dW hx2 h2
     exact hn _ _ _ dW (hx1.trans hx2 (λ_ h=>by simp[dO,h]) (λ_ h=>by simp[dO,h])) h2
    ·intro i e2 a2 w2 dW hx2 h2
     exact hx _ _ _ _ dW (hx1.trans hx2 (λ_ h=>by simp[dO,h]) (λ_ h=>by simp[dO,h])) h2
    ·intro i e2 a2 w2 dW hx2 h2
     exact kB _ _ _ _ dW (hx1.trans hx2 (λ_ h=>by simp[dO,h]) (λ_ h=>by simp[dO,h])) h2
    ·intro l e2 a2 w2 hl dW hx2 h2
     exact(hla l e2 a2 w2 (λh3=>by rw[h3,‹eE lb c2=false›]at hl;cases hl) (by simp[eE,hl]) dW (hx1.trans hx2 (λ_ h=>by simp[dO,h]) (λ_ h=>by simp[dO,h])) h2).2 hl
   ·intro i e1 a1 w1 ef hx1 h1
    exact hx _ _ _ _ ef (hx1.mono (λ_ h=>by simp[dO,h])) h1
   ·intro i e1 a1 w1 ef hx1 h1
    exact kB _ _ _ _ ef (hx1.mono (λ_ h=>by simp[dO,h])) h1
   ·intro l e1 a1 w1 hne hl ef hx1 h1
    exact(hla l e1 a1 w1 hne (by simp[eE,hl]) ef (hx1.mono (λ_ h=>by simp[dO,h])) h1).1 hl
 ·refine⟨λh3=>absurd (h1.symm.trans h3) (by decide),λ_=>?_⟩
  exact Aw _ _ _ lb c2 Q e a w K (λhd ch a d v w hm h=>hI hd ch a d v w (by simp[dO,hm]) h) (λe1 a1 ch w1 ef hx1 h1=>hp _ _ _ _ ef (hx1.mono (λ_ h=>by simp[dO,h])) h1) he h qk
   (λe1 a1 w1 ef hx1 h1=>hn _ _ _ ef (hx1.mono (λ_ h=>by simp[dO,h])) h1) hr (λi e1 a1 w1 ef hx1 h1=>hx _ _ _ _ ef (hx1.mono (λ_ h=>by simp[dO,h])) h1)
   (λi e1 a1 w1 ef hx1 h1=>kB _ _ _ _ ef (hx1.mono (λ_ h=>by simp[dO,h])) h1)
   (λl e1 a1 w1 hne hl ef hx1 h1=>(hla l e1 a1 w1 hne (by simp[eE,hl]) ef (hx1.mono (λ_ h=>by simp[dO,h])) h1).2 hl)
theorem jX{dk:Bool}{an:An}(h:∀P kp dk lb c e K,cL P kp dk lb an c e K=dM):uf P dk an:=by
 intro kp n r lb c Q e a w K _ _ _ h1;rw[h]at h1;exact h1.elim
theorem Js{dk:Bool}:∀(an:An),Eo P dk an/\uf P dk an:=by
 intro an
 induction an with
 |
  z=>
  refine⟨?_,ae9⟩;intro kp n r c Q e a w K hI hp he h qk hn hr hx kB hla;cases c<;>simp only[cC]at h<;>try exact h.elim
  ·exact wpIn_skip (hn _ _ _ he (Ext.refl _ _) h)
  ·exact xh qk hI rfl he h hn hp
  ·exact wpIn_exit (hx _ _ _ _ he (Ext.refl _ _) h)
  ·exact wpIn_label (hn _ _ _ he (Ext.refl _ _) h)
  ·exact wpIn_goto (kB _ _ _ _ he (Ext.refl _ _) h)
  ·exact wpIn_ret (hr _ _ _ he h)
 |
  sq x y nX Aw=>
  refine⟨?_,XE nX.2 Aw.2 Aw.1⟩;replace nX:=nX.1;replace Aw:=Aw.1;intro kp n r c Q e a w K hI hp he h qk hn hr hx kB hla;cases c<;>simp only[cC]at h<;>try exact h.elim
  rename_i c1 c2;refine wpIn_seq (nX _ _ _ c1 _ e a w _ (λhd ch a d v w hm h=>hI hd ch a d v w (by simp[dO,hm]) h) (λe1 a1 ch w1 ef hx1 h1=>hp _ _ _ _ ef (hx1.mono (λ_ h=>by simp[dO,h])) h1) he h qk ?_ hr ?_ ?_ ?_)
  ·intro e1 a1 w1 ef hx1 h1
   refine Aw _ _ _ c2 Q e1 a1 w1 K (λhd ch a d v w hm h=>hI hd ch a d v w (by simp[dO,hm]) h) (λe2 a2 ch w2 dW hx2 h2=>hp _ _ _ _ dW (hx1.trans hx2 (λ_ h=>by simp[dO,h]) (λ_ h=>by simp[dO,h])) h2) ef h1 qk ?_ hr ?_ ?_ ?_
   ·intro e2 a2 w2 dW hx2 h2
    exact hn _ _ _ dW (hx1.trans hx2 (λ_ h=>by simp[dO,h]) (λ_ h=>by simp[dO,h])) h2
   ·intro i e2 a2 w2 dW hx2 h2
    exact hx _ _ _ _ dW (hx1.trans hx2 (λ_ h=>by simp[dO,h]) (λ_ h=>by simp[dO,h])) h2
   ·intro i e2 a2 w2 dW hx2 h2
    exact kB _ _ _ _ dW (hx1.trans hx2 (λ_ h=>by simp[dO,h]) (λ_ h=>by simp[dO,h])) h2
   ·intro l e2 a2 w2 hl dW hx2 h2
    exact(hla l e2 a2 w2 (by simp[eE,hl]) dW (hx1.trans hx2 (λ_ h=>by simp[dO,h]) (λ_ h=>by simp[dO,h])) h2).2 hl
  ·intro i e1 a1 w1 ef hx1 h1
   exact hx _ _ _ _ ef (hx1.mono (λ_ h=>by simp[dO,h])) h1
  ·intro i e1 a1 w1 ef hx1 h1
   exact kB _ _ _ _ ef (hx1.mono (λ_ h=>by simp[dO,h])) h1
  ·intro l e1 a1 w1 hl ef hx1 h1
   exact(hla l e1 a1 w1 (by simp[eE,hl]) ef (hx1.mono (λ_ h=>by simp[dO,h])) h1).1 hl
 |
  br x y nX Aw=>
  refine⟨?_,jX λ_ _ _ _ c _ _=>by cases c<;>rfl⟩;replace nX:=nX.1;replace Aw:=Aw.1;intro kp n r c Q e a w K hI hp he h qk hn hr hx kB hla;cases c<;>simp only[cC]at h<;>try exact h.elim
  rename_i o c1 c2;rcases aW h with⟨hnl,h⟩|⟨_,h⟩
  rotate_left
  ·exact h.elim
  rw[kf]at hnl;obtain⟨b,hb,h⟩:=tZ h;have hev:=he.eval (x:=o) hb;rcases h with⟨rfl,h⟩|⟨rfl,h⟩
  ·refine wpIn_cond_true hev (nX _ _ _ c1 Q e a w K (λhd ch a d v w hm h=>hI hd ch a d v w (by simp[dO,hm]) h) (λe1 a1 ch w1 ef hx1 h1=>hp _ _ _ _ ef (hx1.mono (λ_ h=>by simp[dO,h])) h1) he h qk ?_ hr ?_ ?_ ?_)
   ·exact λe1 a1 w1 ef hx1 h1=>hn _ _ _ ef (hx1.mono (λ_ h=>by simp[dO,h])) h1
   ·exact λi e1 a1 w1 ef hx1 h1=>hx _ _ _ _ ef (hx1.mono (λ_ h=>by simp[dO,h])) h1
   ·exact λi e1 a1 w1 ef hx1 h1=>kB _ _ _ _ ef (hx1.mono (λ_ h=>by simp[dO,h])) h1
   ·exact λl _ _ _ hl=>by rw[iz hnl.1]at hl;cases hl
  ·refine wpIn_cond_false hev (Aw _ _ _ c2 Q e a w K (λhd ch a d v w hm h=>hI hd ch a d v w (by simp[dO,hm]) h) (λe1 a1 ch w1 ef hx1 h1=>hp _ _ _ _ ef (hx1.mono (λ_ h=>by simp[dO,h])) h1) he h qk ?_ hr ?_ ?_ ?_)
   ·exact λe1 a1 w1 ef hx1 h1=>hn _ _ _ ef (hx1.mono (λ_ h=>by simp[dO,h])) h1
   ·exact λi e1 a1 w1 ef hx1 h1=>hx _ _ _ _ ef (hx1.mono (λ_ h=>by simp[dO,h])) h1
   ·exact λi e1 a1 w1 ef hx1 h1=>kB _ _ _ _ ef (hx1.mono (λ_ h=>by simp[dO,h])) h1
   ·exact λl _ _ _ hl=>by rw[iz hnl.2]at hl;cases hl
 |
  bl x nX=>
  refine⟨?_,jX λ_ _ _ _ c _ _=>by cases c<;>rfl⟩;replace nX:=nX.1;intro kp n r c Q e a w K hI hp he h qk hn hr hx kB hla;cases c<;>simp only[cC]at h<;>try exact h.elim
  rename_i id c1;rcases aW h with⟨hnl,h⟩|⟨_,h⟩
  rotate_left
  ·exact h.elim
  refine wpIn_block (nX _ _ _ c1 _ e a w _ (λhd ch a d v w hm h=>hI hd ch a d v w hm h) (λe1 a1 ch w1 ef hx1 h1=>hp _ _ _ _ ef hx1 h1) he h qk hn hr ?_ kB (λl _ _ _ hl=>by rw[iz hnl]at hl;cases hl));intro i e1 a1 w1 ef hx1 h1;simp only[oe]at h1;by_cases hi:i=id
  ·subst hi
   rw[Nat.beq_refl]at h1;simp only[Exit.inBlock,if_true];exact hn _ _ _ ef hx1 h1
  ·have hb:Nat.beq i id=false:=by
    cases hb:Nat.beq i id with
    |false=>rfl
    |true=>exact absurd (Nat.eq_of_beq_eq_true hb) hi
   rw[hb]at h1;simp only[Exit.inBlock,hi,if_false];exact hx _ _ _ _ ef hx1 h1
 |
  sc x nX=>
  refine⟨?_,jX λ_ _ _ _ c _ _=>by cases c<;>rfl⟩;replace nX:=nX.1;intro kp n r c Q e a w K hI hp he h qk hn hr hx kB hla;cases c<;>simp only[cC]at h<;>try exact h.elim
  rename_i c1;exact BT (nX _ _ _ c1 _ e a w _ (λhd ch a d v w hm h=>hI hd ch a d v w hm h) (λe1 a1 ch w1 ef hx1 h1=>hp _ _ _ _ ef hx1 h1) he h qk hn hr hx (λ_ _ _ _ _ _ h=>h.elim) (λ_ _ _ _ _ _ _ h=>h.elim))
 |
  lp l x nX=>
  refine⟨?_,jX λ_ _ _ _ c _ _=>by cases c<;>rfl⟩;replace nX:=nX.1;intro kp n r c Q e a w K hI hp he h qk hn hr hx kB hla;cases c<;>simp only[cC]at h<;>try exact h.elim
  rename_i c1;have hI0:=hI;rcases aW h with⟨hl,h⟩|⟨_,h⟩
  ·rw[kf]at hl
   have hnl:=hl.2;obtain⟨xp,Jp,hdf⟩:=oT hl.1;obtain⟨s,hs,I,μ,hI,hG⟩:=gj (e0:=Env.forget e (dO c1)) he (he.forget (Ext.refl _ _) Jp hdf) h;refine Ek (λs a w=>Ag (mI (Env.forget e (dO c1)) l s) a/\I s w) μ ⟨hs,hI⟩ ?_;rintro s1 a1 w1 ⟨MA,Rm⟩;have Ay:Ext (dO c1) e (mI (Env.forget e (dO c1)) l s1):=Ext.mI (Ext.forget _ _) xp;refine nX _ _ _ c1 _ _ a1 w1 _ (λhd ch a d v w hm h=>hI0 hd ch a d v w hm h) (λe2 a2 ch w2 dW hx2 h2=>hp _ _ _ _ dW (Ay.trans hx2 (λ_ h=>h) (λ_ h=>h)) h2) MA (hG s1 w1 Rm) qk ?_ hr ?_ ?_ (λl _ _ _ hl=>by rw[iz hnl]at hl;cases hl)
   ·intro e2 a2 w2 dW hx2 h2
    obtain⟨s2,Bl,h3,h4⟩:=gj (e0:=Env.forget e (dO c1)) dW (dW.forget (Ay.trans hx2 (λ_ h=>h) (λ_ h=>h)) Jp hdf) h2;exact⟨s2,⟨Bl,h3⟩,h4⟩
   ·intro i e2 a2 w2 dW hx2 h2
    exact hx _ _ _ _ dW (Ay.trans hx2 (λ_ h=>h) (λ_ h=>h)) h2
   ·intro i e2 a2 w2 dW hx2 h2
    exact kB _ _ _ _ dW (Ay.trans hx2 (λ_ h=>h) (λ_ h=>h)) h2
  ·exact h.elim
 |
  jn l x nX=>
  refine⟨?_,jX λ_ _ _ _ c _ _=>by cases c<;>rfl⟩;replace nX:=nX.1;intro kp n r c Q e a w K hI hp he h qk hn hr hx kB hla;have h':tf (ue l (dO c)&&nW c) (jn (λR=>cC P kp dk x c e {K with n:=λe'=>need e' l R}) (λs=>K.n (mI (Env.forget e (dO c)) l s))) dM w:=by cases c<;>exact h
  rcases aW h' with⟨hl,h⟩|⟨_,h⟩
  ·rw[kf]at hl
   have hnl:=hl.2;obtain⟨xp,Jp,hdf⟩:=oT hl.1;obtain⟨R,h1,h2⟩:=h;let Q':Exit->Act->World->Prop:=λex a' w'=>match ex with
    |.normal=>∃s,Ag (mI (Env.forget e (dO c)) l s) a'/\R s w'
    |ex=>Q ex a' w'
   refine wpIn_mono (nX _ _ _ c Q' e a w _ (λhd ch a d v w hm h=>hI hd ch a d v w hm h) (λe1 a1 ch w1 ef hx1 h1=>hp _ _ _ _ ef hx1 h1) he h1 qk ?_ hr hx kB (λl _ _ _ hl=>by rw[iz hnl]at hl;cases hl)) ?_
   ·intro e1 a1 w1 ef hx1 h3
    exact gj (e0:=Env.forget e (dO c)) ef (ef.forget hx1 Jp hdf) h3
   ·intro ex a' w' h3
    cases ex with
    |
     normal=>
     obtain⟨s,hs,h4⟩:=h3;exact hn _ _ _ hs (Ext.mI (Ext.forget _ _) xp) (h2 _ _ h4)
    |_=>exact h3
  ·exact h.elim
 |
  rf cM x y nX Aw=>
  refine⟨?_,jX λ_ _ _ _ c _ _=>by cases c<;>rfl⟩;replace nX:=nX.1;replace Aw:=Aw.1;intro kp n r c Q e a w K hI hp he h qk hn hr hx kB hla;cases c<;>simp only[cC]at h<;>try exact h.elim
  rename_i g ps assign body;rcases aW h with⟨hb,h⟩|⟨_,h⟩
  rotate_left
  ·exact h.elim
  simp only[kf,Bool.not_eq_true']at hb;have Ep:=qk hb.1;subst Ep;have hps:=Nat.eq_of_beq_eq_true hb.2;obtain⟨f,caps,hv,tS,h⟩:=fU he h;refine wpIn_rangeFunc ?_;intro fn hfn;obtain⟨L,hL⟩:∃L:LoopState->Option Code->Obj,L=λst pe=>.loop {state:=st,pending:=pe,fn,tmps:=a.tmps,params:=ps,assign,body,defers:=w.heap.size}:=⟨_,rfl⟩;have oF:=h L (λs p=>⟨_,by rw[hL]⟩) ?_
  rotate_left
  ·intro W args k hl hR
   have hl':W.heap[w.heap.size+1]? =some (.loop {state:=.ready,pending:=none,fn,tmps:=a.tmps,params:=ps,assign,body,defers:=w.heap.size}):=by rw[hl,hL]
   refine⟨_,_,_,_,run_yield hl' (by rw[<-hps];simp[vh]),roundIn_of_wpIn trivial ?_⟩;have lS:Ag (G9 ps.toList (rU cM args) ⟨e.l,[],[]⟩) {tmps:=(ps.zip (rU cM args).toArray).foldl (λt x=>t.setIfInBounds x.1 x.2) a.tmps,defers:=[]}:=by
    have h0:Ag ⟨e.l,[],[]⟩ {tmps:=a.tmps,defers:=[]}:=⟨he.size,he.get,rfl⟩;have h1:=BV ps.toList (rU cM args) _ _ h0;rw[y9]at h1;have h2:(ps.zip (rU cM args).toArray).foldl (λt x=>t.setIfInBounds x.1 x.2) a.tmps=(ps.toList.zip (rU cM args)).foldl (λt x=>t.setIfInBounds x.1 x.2) a.tmps:=by
     rw[<-Array.foldl_toList,Array.toList_zip]
    rw[h2];exact h1
   refine nX none 0 (some (w.heap.size+1)) assign _ _ _ W _ (λ_ c a d v w _ h=>h) (λ_ _ _ _ _ _ h=>False.elim h) lS hR (λh=>by cases h) ?_ (λ_ _ _ _ h=>h.elim) (λ_ _ _ _ _ _ h=>h.elim) (λ_ _ _ _ _ _ h=>h.elim) (λ_ _ _ _ _ _ _ h=>h.elim);rintro e1 a1 w1 ef _ ⟨h1,h2⟩;have IG:w1.heap[w.heap.size+1]? =some (.loop {state:=.ready,pending:=none,fn,tmps:=a.tmps,params:=ps,assign,body,defers:=w.heap.size}):=by rw[h1,hL]
   have PZ:=run_beginRound (P:=P) IG rfl;refine⟨_,PZ,?_⟩;have hLb:(Obj.loop {state:=.busy,pending:=none,fn,tmps:=a.tmps,params:=ps,assign,body,defers:=w.heap.size})=L .busy none:=by rw[hL]
   rw[show({({state:=.ready,pending:=none,fn:=fn,tmps:=a.tmps,params:=ps,assign:=assign,body:=body,defers:=w.heap.size}:Loop)with state:=.busy}:Loop)={state:=.busy,pending:=none,fn,tmps:=a.tmps,params:=ps,assign,body,defers:=w.heap.size}from rfl,hLb];have hend:∀(W3:World) (jump:Option Code),W3.heap[w.heap.size+1]? =some (L .busy none)->
    (Instr.endRound (w.heap.size+1) jump).run P W3=.ok (.bool jump.isNone) (W3.putObj (w.heap.size+1) (L (if jump.isNone then .ready else .done) jump)):=by
    intro W3 jump h3;have h3':W3.heap[w.heap.size+1]? =some (.loop {state:=.busy,pending:=none,fn,tmps:=a.tmps,params:=ps,assign,body,defers:=w.heap.size}):=by rw[h3,hL]
    rw[run_endRound jump h3',hL]
   refine Aw none 0 (some (w.heap.size+1)) body _ e1 a1 _ _ (λ_ c a d v w _ h=>h) (λ_ _ _ _ _ _ h=>False.elim h) ef h2 (λh=>by cases h) ?_ ?_ ?_ (λ_ _ _ _ _ _ h=>h.elim) (λ_ _ _ _ _ _ _ h=>h.elim)
   ·rintro e2 a2 w2 _ _ ⟨h3,h4⟩
    exact⟨_,_,hend w2 none h3,true,rfl,h4⟩
   ·rintro e2 a2 w2 _ ⟨h3,h4⟩
    exact⟨_,_,hend w2 (some .ret) h3,false,rfl,h4⟩
   ·intro i e2 a2 w2 _ _ h5
    obtain⟨h3,h4⟩:=BW h5;exact⟨_,_,hend w2 (some (.exit i)) h3,false,rfl,h4⟩
  have Jp:Ag (Env.mark e w.heap.size) {a with defers:=[{target:=.collected w.heap.size,args:= #[]}]++a.defers}:=⟨he.size,he.get,by rw[he.defers];rfl⟩;have Hf:Ext [qj] e (Env.mark e w.heap.size):=⟨rfl,λ_ _=>rfl,λh=>absurd (jq.2 rfl) h,λ_=>rfl⟩;have hinv:∀{args:Array Value} {w:World},(callFunc f args).run P w=.ok (.enter f args) w:=gv tS;refine⟨w.heap.size+1,[{target:=.collected w.heap.size,args:= #[]}],(w.alloc (.deferred (some []))).alloc (L .ready none),{target:=.fn (.func f) caps,args:= #[.func (.yield (w.heap.size+1)) #[] #[]]},(w.alloc (.deferred (some []))).alloc (L .ready none),f,
   #[.func (.yield (w.heap.size+1)) #[] #[]]++caps,(w.alloc (.deferred (some []))).alloc (L .ready none),?_,?_,λ_ _=>trivial,?_,?_,?_⟩
  ·rw[hL];exact run_enterLoop_outer _ _ _ _ _
  ·simp only[resolve,hv]
   simp[go_sem]
  ·simp[invoke,go_sem,hinv]
  ·intro h;cases h
  ·refine qH.2 (Calls.mono oF ?_)
   rintro e1 W1 ⟨⟨u,rfl⟩,h1⟩;have hend:∀(st:LoopState) (pe:Option Code),st≠.busy->W1.heap[w.heap.size+1]? =some (L st pe)->(Instr.endLoop (w.heap.size+1)).run P W1=.ok pe (W1.putObj (w.heap.size+1) (L .exhausted pe)):=by
    intro st pe hst h3;have h3':W1.heap[w.heap.size+1]? =some (.loop {state:=st,pending:=pe,fn,tmps:=a.tmps,params:=ps,assign,body,defers:=w.heap.size}):=by rw[h3,hL]
    rw[run_endLoop h3' hst,hL]
   rcases h1 with⟨h2,h3⟩|⟨j,h2,h3⟩
   ·exact⟨none,_,hend _ _ (by simp) h2,hn _ _ _ Jp Hf h3⟩
   ·refine⟨some (rQ j),_,hend _ _ (by simp) h2,?_⟩
    cases j with
    |
     none=>
     rcases aW (show tf (lC body) _ _ _ from h3)with⟨_,h4⟩|⟨_,h4⟩
     ·exact wpIn_ret (hr _ _ _ Jp h4)
     ·exact h4.elim
    |some i=>exact wpIn_exit (hx _ _ _ _ Jp Hf (TA h3))
 |
  jm l x nX=>
  refine⟨?_,jX λ_ _ _ _ c _ _=>by cases c<;>rfl⟩;replace nX:=nX.1;intro kp n r c Q e a w K hI hp he h qk hn hr hx kB hla;have h':tf ((!(dO c).contains vJ&&l.all λz=>(dO c).contains z.1)&&nW c) (jn (λR=>cC P kp dk x c e {K with n:=λe'=>need e' l λs=>R (e'.ds,s)}) (λs=>K.n (mI ⟨(Env.forget e (dO c)).l,s.1,e.bs⟩ l s.2))) dM w:=by cases c<;>exact h
  rcases aW h' with⟨hl,h⟩|⟨_,h⟩
  ·rw[kf]at hl
   have hnl:=hl.2;replace hl:=hl.1;rw[kf]at hl;have hdf:vJ∉dO c:=by simpa using hl.1
   have xp:∀z∈l,z.1∈dO c:=λz hz=>by simpa using List.all_eq_true.1 hl.2 z hz
   obtain⟨R,h1,h2⟩:=h;let Q':Exit->Act->World->Prop:=λex a' w'=>match ex with
    |.normal=>∃s,Ag (mI ⟨(Env.forget e (dO c)).l,s.1,e.bs⟩ l s.2) a'/\R s w'/\(qj∉dO c->s.1=e.ds)
    |ex=>Q ex a' w'
   refine wpIn_mono (nX _ _ _ c Q' e a w _ (λhd ch a d v w hm h=>hI hd ch a d v w hm h) (λe1 a1 ch w1 ef hx1 h1=>hp _ _ _ _ ef hx1 h1) he h1 qk ?_ hr hx kB (λl _ _ _ hl=>by rw[iz hnl]at hl;cases hl)) ?_
   ·intro e1 a1 w1 ef hx1 h3
    have hf:Ag ⟨(Env.forget e (dO c)).l,e1.ds,e.bs⟩ a1:=by
     refine⟨?_,λt v hv=>?_,by rw[ef.defers,hx1.2.2.2 hdf]⟩
     ·have h1:(⟨(Env.forget e (dO c)).l,e1.ds,e.bs⟩:Env).length=(Env.forget e (dO c)).length:=rfl
      rw[h1,Env.yH,hx1.1];exact ef.size
     ·have P3:(Env.get (Env.forget e (dO c)) t).v? =some v:=hv
      rw[Env.qB]at P3;split at P3
      ·simp[EV.v?]at P3
      ·rename_i ht
       by_cases hlt:t<e.length
       ·have htW:t∉dO c:=λh=>ht ⟨h,hlt⟩
        rw[<-hx1.2.1 t htW]at P3;exact ef.get t v P3
       ·rw[Env.lB e t (by omega)]at P3
        simp[EV.v?]at P3
    obtain⟨p,hp,h4⟩:=gj ef hf h3;exact⟨(e1.ds,p),hp,h4,λhm=>hx1.2.2.1 hm⟩
   ·intro ex a' w' h3
    cases ex with
    |
     normal=>
     obtain⟨s,hs,h4,h5⟩:=h3;refine hn _ _ _ hs (Ext.mI (e0:=⟨(Env.forget e (dO c)).l,s.1,e.bs⟩) ?_ xp) (h2 _ _ h4);have h6:=Ext.forget e (dO c);exact⟨h6.1,h6.2.1,h5,λ_=>rfl⟩
    |_=>exact h3
  ·exact h.elim
 |
  rj js=>
  refine⟨?_,jX λ_ _ _ _ c _ _=>by cases c<;>rfl⟩;intro kp n r c Q e a w K hI hp he h qk hn hr hx kB hla;cases c<;>simp only[cC]at h<;>try exact h.elim
  rcases aW h with⟨hj,h⟩|⟨_,h⟩
  ·exact xh qk hI hj he h hn hp
  ·exact h.elim
 |
  lb=>
  refine⟨?_,jX λ_ _ _ _ c _ _=>by cases c<;>rfl⟩;intro kp n r c Q e a w K hI hp he h qk hn hr hx kB hla;cases c<;>simp only[cC]at h<;>try exact h.elim
  rename_i l;exact wpIn_label (hla l e a w (by simp[eE]) he (Ext.refl _ _) h)
 |
  sj lb l x y nX Aw=>
  refine⟨?_,jX λ_ _ _ _ c _ _=>by cases c<;>rfl⟩;replace nX:=nX.1;replace Aw:=Aw.2;intro kp n r c Q e a w K hI hp he h qk hn hr hx kB hla;cases c<;>simp only[cC]at h<;>try exact h.elim
  rename_i c1;have hI0:=hI;rcases aW h with⟨hl,h⟩|⟨_,h⟩
  rotate_left
  ·exact h.elim
  rw[kf]at hl;obtain⟨xp,Jp,hdf⟩:=oT hl.1;obtain⟨rest,RG⟩:=mA hl.2;obtain⟨I,μ,hF,hG⟩:=h;have Hg:∀(J:Act->World->Prop) (l':Nat) (e':Env) (a':Act) (w':World) (k:Env->Pr),(k e' w'->J a' w')->oe [(lb,k)] l' e' w'->l'=lb/\J a' w':=by
   intro J l' e' a' w' k hk hx;unfold oe at hx;cases hb:Nat.beq l' lb with
   |true=>rw[hb]at hx;exact⟨Nat.eq_of_beq_eq_true hb,hk hx⟩
   |false=>rw[hb]at hx;exact hx.elim
  have XF:∀s a w (J':Act->World->Prop),Ag (mI (Env.forget e (dO c1)) l s) a->I s w->(∀s' a' w',Ag (mI (Env.forget e (dO c1)) l s') a'->I s' w'->μ s' w'<μ s w->J' a' w')->xj P n r c1 lb (He lb J' Q) a w:=by
   intro s1 a1 w1 J' MA Rm XD;have Ay:Ext (dO c1) e (mI (Env.forget e (dO c1)) l s1):=Ext.mI (Ext.forget _ _) xp;refine Aw _ _ _ lb c1 (He lb J' Q) _ a1 w1 _ (λhd ch a d v w hm h=>hI0 hd ch a d v w hm h) (λe2 a2 ch w2 dW hx2 h2=>hp _ _ _ _ dW (Ay.trans hx2 (λ_ h=>h) (λ_ h=>h)) h2) MA (hG s1 w1 Rm) qk ?_ hr ?_ ?_ ?_
   ·exact λe2 a2 w2 dW hx2 h2=>hn _ _ _ dW (Ay.trans hx2 (λ_ h=>h) (λ_ h=>h)) h2
   ·exact λi e2 a2 w2 dW hx2 h2=>hx _ _ _ _ dW (Ay.trans hx2 (λ_ h=>h) (λ_ h=>h)) h2
   ·intro l' e2 a2 w2 dW hx2 h2
    refine Hg J' l' e2 a2 w2 _ (λh3=>?_) h2;obtain⟨s2,Bl,h4,h5⟩:=gj (e0:=Env.forget e (dO c1)) dW (dW.forget (Ay.trans hx2 (λ_ h=>h) (λ_ h=>h)) Jp hdf) h3;exact XD s2 a2 w2 Bl h4 h5
   ·intro l' e2 a2 w2 hne _ dW hx2 h2
    exact absurd (Hg (λ_ _=>True) l' e2 a2 w2 _ (λ_=>trivial) h2).1 hne
  have BX:∀{e2:Env} {a2:Act} {w2:World},Ag e2 a2->Ext (dO c1) e e2->need e2 l I w2->∃s,Ag (mI (Env.forget e (dO c1)) l s) a2/\I s w2:=λdW hx2 h=>gj (e0:=Env.forget e (dO c1)) dW (dW.forget hx2 Jp hdf) h;refine su lb (λs a w=>Ag (mI (Env.forget e (dO c1)) l s) a/\I s w) μ RG ?_ ?_
  ·refine nX _ _ _ c1 _ e a w _ (λhd ch a d v w hm h=>hI0 hd ch a d v w hm h) (λe2 a2 ch w2 dW hx2 h2=>hp _ _ _ _ dW hx2 h2) he hF qk (λe2 a2 w2 dW hx2 h2=>hn _ _ _ dW hx2 h2) hr (λi e2 a2 w2 dW hx2 h2=>hx _ _ _ _ dW hx2 h2) ?_ ?_
   ·intro l' e2 a2 w2 dW hx2 h2
    exact Hg (λa w=>∃s,Ag (mI (Env.forget e (dO c1)) l s) a/\I s w) l' e2 a2 w2 _ (λh3=>BX dW hx2 h3) h2
   ·intro l' e2 a2 w2 _ dW hx2 h2
    obtain⟨rfl,s2,Bl,h3⟩:=Hg (λa w=>∃s,Ag (mI (Env.forget e (dO c1)) l s) a/\I s w) l' e2 a2 w2 _ (λh3=>BX dW hx2 h3) h2;exact XF s2 a2 w2 _ Bl h3 λs' a' w' h4 h5 _=>⟨s',h4,h5⟩
  ·rintro s1 a1 w1 ⟨MA,Rm⟩
   exact xm RG (XF s1 a1 w1 _ MA Rm λs' a' w' h4 h5 h6=>⟨s',⟨h4,h5⟩,h6⟩)
theorem BY{dk:Bool}(an:An):Eo P dk an:=(Js an).1
def Er(P:Program):List ResultVar->Env->(LV->Pr)->Pr
 |[],_,f=>f []
 |.tmp t::l,e,f=>nd (Env.get e t) λv=>Er P l e λvs=>f (v::vs)
 |.cell t ty::l,e,f=>nd (Env.get e t) λp=>oL p λad=>Tn P ty ad λv=>Er P l e λvs=>f (v::vs)
def mw:(l:List Sh)->LV->(eD l->Pr)->Pr
 |[],[],f=>f ()
 |[s],[v],f=>BF s v f
 |s::t::l,v::vs,f=>BF s v λp=>mw (t::l) vs λq=>f (p,q)
 |_,_,_=>dM
theorem xq{w:World}:∀{l:List Sh} {vs:LV} {f:eD l->Pr},mw l vs f w->∃p,vs=rU l p/\f p w
 |[],[],_,h=>⟨(),rfl,h⟩
 |[],_::_,_,h=>h.elim
 |[s],[v],_,h=>let⟨p,hp,hf⟩:=nr h;⟨p,by rw[hp];rfl,hf⟩
 |[_],[],_,h=>h.elim
 |[_],_::_::_,_,h=>h.elim
 |
  s::t::l,v::vs,_,h=>by
  obtain⟨p,hp,h⟩:=nr h;obtain⟨q,hq,h⟩:=xq h;exact⟨(p,q),by rw[hp,hq];rfl,h⟩
 |_::_::_,[],_,h=>h.elim
def MB(args:LV)(m:Nat):Env:=⟨args.map EV.val++List.replicate (m-args.length) EV.no,[],[]⟩
def oU(P:Program)(u:FrameMode)(f:FuncId)(args:LV)(k:Pr):Pr:=λw=>
 CallsDIn (wf none) 0 P f args.toArray u w (λe u' w'=>(∃v,e=.returned v)/\settle u'=.returning/\k w')
def Hh:Deferred->Option (FuncId×LV)
 |⟨.fn (.func f) cap,args⟩=>some (f,args.toList++cap.toList)
 |_=>none
def XG(P:Program)(u:FrameMode)(d:Deferred)(k:Pr):Pr:=opt (Hh d) λx=>tf (fI P x.1) (oU P u x.1 x.2 k) dM
def Es(P:Program):List Deferred->Pr->Pr
 |[],k=>k
 |d::l,k=>XG P .returning d (Es P l k)
def fin(P:Program)(fn:Func)(cM:List Sh)(Q:eD cM->Pr)(e:Env):Pr:=takes e.ds (Es P e.bs (Er P fn.results.toList e λvs=>mw cM vs Q))
def za(P:Program)(fn:Func)(an:An)(args:LV)(cM:List Sh)(Q:eD cM->Pr):Pr:=
 opt fn.body λc=>cC P none false an c (MB args fn.ntmps) ⟨fin P fn cM Q,fin P fn cM Q,[],false,[]⟩
def MC{α:Type}(l:List α)(k:Pr):Pr:=
 match l with
 |[]=>k
 |_::_=>dM
theorem vi{α:Type}{l:List α}{k:Pr}{w:World}(h:MC l k w):l=[]/\k w:=by
 cases l with
 |nil=>exact⟨rfl,h⟩
 |cons _ _=>exact h.elim
def TB(P:Program)(fn:Func)(cM:List Sh)(Q:eD cM->Pr)(e:Env):Pr:=MC e.ds (MC e.bs (Er P fn.results.toList e λvs=>mw cM vs Q))
def BZ(P:Program)(fn:Func)(an:An)(args:LV)(cM:List Sh)(Q:eD cM->Pr):Pr:=
 opt fn.body λc=>cC P none false an c (MB args fn.ntmps) ⟨TB P fn cM Q,TB P fn cM Q,[],false,[]⟩
theorem xu:∀(args:LV) (k:Nat) (t:Nat) (v:Value),(Env.mw (args.map EV.val++List.replicate k EV.no) t).v? =some v->(args++List.replicate k undef)[t]? =some v
 |[],0,t,v,h=>by simp[Env.mw,EV.v?]at h
 |[],k+1,0,v,h=>by simp[List.replicate_succ,Env.mw,EV.v?]at h
 |
  [],k+1,t+1,v,h=>by
  have:=xu [] k t v (by simpa[List.replicate_succ,Env.mw]using h);simpa[List.replicate_succ]using this
 |
  x::args,k,0,v,h=>by
  simp only[List.map_cons,List.cons_append,Env.mw,EV.v?,jg]at h;rw[h];rfl
 |x::args,k,t+1,v,h=>xu args k t v h
theorem Hi(args:LV)(m:Nat):Ag (MB args m) {tmps:=args.toArray++Array.replicate (m-args.toArray.size) undef,defers:=[]}:=by
 have hE:args.toArray++Array.replicate (m-args.toArray.size) undef=(args++List.replicate (m-args.length) undef).toArray:=by simp
 refine⟨by simp[MB,Env.length],λt v h=>?_,by simp[MB,marks]⟩;simp only[hE];simpa using xu args (m-args.length) t v h
theorem qJ{e:Env}{a:Act}{w:World}(he:Ag e a):∀{l:List ResultVar} {f:LV->Pr} {Q:LV->World->Prop},Er P l e f w->(∀vs,f vs w->Q vs w)->
 RT P (l.mapM λ
  |.tmp t=>Pure.pure (a.tmps.getD t undef)
  |.cell x t=>do Go.loadVar t (<-asAddr (a.tmps.getD x undef))) w (λvs w'=>w'=w/\Q vs w)
 |[],_,_,h,hq=>by simp only[List.mapM_nil];exact .pure ⟨rfl,hq _ h⟩
 |
  .tmp t::l,f,Q,h,hq=>by
  have h1:=fU he (x:=.tmp t) h;simp only[List.mapM_cons];refine .bind (.pure (.bind ((qJ he h1 (Q:=λvs w=>Q (a.tmps.getD t undef::vs) w) (λvs h=>hq _ h)).mono ?_)));rintro vs w' ⟨rfl,h⟩;exact .pure ⟨rfl,h⟩
 |
  .cell t ty::l,f,Q,h,hq=>by
  have h1:=fU he (x:=.tmp t) h;obtain⟨ad,hv,h2⟩:=iA h1;simp only[List.mapM_cons];have P3:a.tmps.getD t undef=.pointer (some ad):=hv;rw[P3];have h3:Tn P ty ad (λv w'=>Er P l e (λvs=>f (v::vs)) w'/\w'=w) w:=BH (λv h=>⟨h,rfl⟩) h2;refine .bind (.bind (.pure ((RT.MD h3).mono ?_)));rintro v w1 ⟨h4,rfl⟩;refine .bind ((qJ he h4 (Q:=λvs w=>Q (v::vs) w) (λvs h=>hq _ h)).mono ?_);rintro vs w' ⟨rfl,h⟩;exact .pure ⟨rfl,h⟩
theorem Et{fn:Func}{tmps:Array Value}{R:Ending->World->Prop}{d:Deferred}{ds:List Deferred}{u:FrameMode}{k:Pr}{w:World}(hu:u≠.run)(hk:∀w,k w->LeavesInM (wf none) 0 P fn tmps R ds .returning w)(h:XG P u d k w):
 LeavesInM (wf none) 0 P fn tmps R (d::ds) u w:=by
 obtain⟨⟨f,args⟩,hd,h⟩:=av h;rcases aW h with⟨hc,h⟩|⟨_,h⟩
 ·obtain⟨cap,TC,rfl,rfl⟩:∃cap TC,d=⟨.fn (.func f) cap,TC⟩/\args=TC.toList++cap.toList:=by
   obtain⟨t,TC⟩:=d;unfold Hh at hd;split at hd
   ·rename_i heq
    simp only[Deferred.mk.injEq]at heq;obtain⟨rfl,rfl⟩:=heq;simp only[jg,Prod.mk.injEq]at hd;obtain⟨rfl,rfl⟩:=hd;exact⟨_,_,rfl,rfl⟩
   ·cases hd
  have hA:(TC.toList++cap.toList).toArray=TC++cap:=by simp
  unfold oU at h;dsimp only at h;rw[hA]at h;refine⟨hu,.inr ⟨λh=>by simp[wf,Fence.wide]at h,_,cap,f,TC++cap,rfl,?_,λ_ _=>trivial,?_⟩⟩
  ·simp only[invoke]
   exact gv hc
  ·refine h.mono ?_
   rintro e u' w' ⟨⟨v,rfl⟩,h1,h2⟩;show LeavesInM (wf none) 0 P fn tmps R ds (settle u') w';rw[h1];exact hk _ h2
 ·exact h.elim
theorem sw{fn:Func}{tmps:Array Value}{R:Ending->World->Prop}{k:Pr}(hk:∀w,k w->LeavesInM (wf none) 0 P fn tmps R [] .returning w):∀{ds:List Deferred} {w:World},Es P ds k w->LeavesInM (wf none) 0 P fn tmps R ds .returning w
 |[],w,h=>hk w h
 |_::_,_,h=>Et (by simp) (λ_ h=>sw hk h) h
theorem vj{fn:Func}{tmps:Array Value}{R:Ending->World->Prop}{bs:List Deferred}{k:Pr}(hk:∀w,k w->LeavesInM (wf none) 0 P fn tmps R bs .returning w):∀{ds:List Nat} {w:World},takes ds k w->LeavesInM (wf none) 0 P fn tmps R (marks ds++bs) .returning w
 |[],w,h=>hk w h
 |D::ds,w,h=>⟨by simp,.inl ⟨D,_,rfl,run_takeDeferred h.1,vj hk h.2⟩⟩
theorem xx{fn:Func}{e:Env}{a:Act}{w:World}{cM:List Sh}{Q:eD cM->Pr}{R:Ending->World->Prop}(hR:∀e w,au cM Q e w->R e w)(he:Ag e a)
 (h:Er P fn.results.toList e (λvs=>mw cM vs Q) w):LeavesInM (wf none) 0 P fn a.tmps R [] .returning w:=by
 obtain⟨vs,w',h1,hw,p,hvs,hp⟩:=qJ he h (Q:=λvs w=>∃p,vs=rU cM p/\Q p w) (λvs h=>xq h);rw[hw]at h1;show∃v,(results fn a.tmps).run P w=.ok v w/\R (.returned v) w;refine⟨nq cM p,?_,hR _ _ ⟨p,rfl,hp⟩⟩;unfold results;rw[Sem.run_bind,show fn.results=fn.results.toList.toArray by simp,List.mapM_toArray,Sem.run_map]
 erw [h1]
 simp only[Result.andThen_ok,Sem.run_pure,Result.ok.injEq,and_true];unfold nq;rw[<-hvs]
 match vs with
 |[]=>rfl
 |[v]=>rfl
 |v::u::vs=>simp
theorem vk{fn:Func}{e:Env}{a:Act}{w:World}{cM:List Sh}{Q:eD cM->Pr}{R:Ending->World->Prop}(hR:∀e w,au cM Q e w->R e w)(he:Ag e a)(h:fin P fn cM Q e w):
 LeavesInM (wf none) 0 P fn a.tmps R a.defers .returning w:=by
 rw[he.defers];exact vj (λw h=>sw (λw h=>xx hR he h) h) h
theorem qK{f:FuncId}{fn:Func}{an:An}{args:LV}{cM:List Sh}{Q:eD cM->Pr}{w:World}(hf:P.funcs[f]? =some fn)(h:za P fn an args cM Q w):
 Calls P f args.toArray w (au cM Q):=by
 obtain⟨c,hc,h⟩:=av h;refine(callsIn_wide (n:=0)).1 ?_;refine callsIn_of_wp_marks (F:=wf none) hf hc trivial ?_;let Q':Exit->Act->World->Prop:=λex a w=>match ex with
  |.normal=>bodyPostM (wf none) 0 P fn (au cM Q) .normal a w
  |.ret=>bodyPostM (wf none) 0 P fn (au cM Q) .ret a w
  |_=>False
 refine wpIn_mono (BY (dk:=false) an none 0 none c Q' _ _ w _ (λh=>by cases h) (λ_ _ _ _ _ _ h=>False.elim h) (Hi args fn.ntmps) h (λ_=>rfl) ?_ ?_ ?_ (λ_ _ _ _ _ _ h=>h.elim) (λ_ _ _ _ _ _ _ h=>h.elim)) ?_
 ·exact λe' a' w' he' _ h=>vk (λ_ _ h=>h) he' h
 ·exact λe' a' w' he' h=>vk (λ_ _ h=>h) he' h
 ·exact λi e' a' w' _ _ h=>h.elim
 ·intro ex a w h
  cases ex<;>first|exact h|exact h.elim
theorem qf{f:FuncId}{fn:Func}{an:An}{args:LV}{cM:List Sh}{Q:eD cM->Pr}{u:FrameMode}{w:World}(hf:P.funcs[f]? =some fn)(h:BZ P fn an args cM Q w):
 CallsDIn (wf none) 0 P f args.toArray u w (λe u' w'=>u'=u/\au cM Q e w'):=by
 obtain⟨c,hc,h⟩:=av h;refine callsDIn_of_wp hf hc trivial ?_;let Q':Exit->Act->World->Prop:=λex a w=>match ex with
  |.normal=>a.defers=[]/\∃v,(results fn a.tmps).run P w=.ok v w/\au cM Q (.returned v) w
  |.ret=>a.defers=[]/\∃v,(results fn a.tmps).run P w=.ok v w/\au cM Q (.returned v) w
  |_=>False
 have key:∀e' a' w',Ag e' a'->TB P fn cM Q e' w'->a'.defers=[]/\∃v,(results fn a'.tmps).run P w'=.ok v w'/\au cM Q (.returned v) w':=by
  intro e' a' w' he' h;obtain⟨h1,h⟩:=vi h;obtain⟨h2,h⟩:=vi h;exact⟨by rw[he'.defers,h1,h2];rfl,xx (λ_ _ h=>h) he' h⟩
 refine wpIn_mono (BY (dk:=false) an none 0 none c Q' _ _ w _ (λh=>by cases h) (λ_ _ _ _ _ _ h=>False.elim h) (Hi args fn.ntmps) h (λ_=>rfl) ?_ ?_ ?_ (λ_ _ _ _ _ _ h=>h.elim) (λ_ _ _ _ _ _ _ h=>h.elim)) ?_
 ·exact λe' a' w' he' _ h=>key _ _ _ he' h
 ·exact λe' a' w' he' h=>key _ _ _ he' h
 ·exact λi e' a' w' _ _ h=>h.elim
 ·intro ex a w h
  cases ex<;>first|exact h|exact h.elim
end
abbrev bA(r i:Nat):Addr:=Addr.add ⟨r,0,none⟩ i
abbrev slV(s:Sl):Value:=.slice s.a s.len s.cap
abbrev bE(a:Addr)(f:Int->Pr):Pr:=bI (.int .i64) a f
abbrev oq(a:Addr)(f:Int->Pr):Pr:=bI (.int .u8) a f
abbrev ei(a:Addr)(f:Sl->Pr):Pr:=bI .slice a f
abbrev ot(a:Addr)(f:Bool->Pr):Pr:=bI .bool a f
abbrev bX(a:Addr)(f:OA->Pr):Pr:=bI .ptr a f
abbrev RI(a:Addr)(f:Option Nat->Pr):Pr:=bI .map a f
abbrev aa:CS:=.int .i64
abbrev iv(n:Int):Value:=.int .i64 n
abbrev uv(n:Int):Value:=.int .u8 n
def bq(n:Int):Int:=IntKind.wrap .i64 n
def gH(n:Int):Int:=IntKind.wrap .u64 n
def zb(n:Int):Int:=IntKind.wrap .u8 n
def gM(r:Nat):Nat->LV->Pr->Pr
 |_,[],k=>k
 |i,v::l,k=>st (bA r i) v<|gM r (i+1) l k
def iB(T:TypeId)(z vs:LV)(k:Nat->Pr):Pr:=nw (.cells z.toArray T) λr=>gM r 0 vs (k r)
def el(s:Sl)(i:Int)(n:Nat)(k:Addr->Pr):Pr:=cq ((0:Int)<=i/\i<(s.len:Int))<|deref s.a λa=>k (a.add (Int.toNat i*n))
section
variable{P:Program}{f:FuncId}{fn:Func}{an:An}{args:LV}{cM:List Sh}{w:World}
theorem cF{Q:eD cM->Pr}{F:Pr}(hf:P.funcs[f]? =some fn)(e:za P fn an args cM Q=F)(h:F w):Calls P f args.toArray w (au cM Q):=qK hf (by rw[e];exact h)
end
end Go.Eng

namespace Go.Proofs
open Go.Eng
noncomputable abbrev Pq:=Tryz.prog
noncomputable abbrev cI(f:FuncId)(l:LV)(k:Int->Pr):Pr:=aq Pq f l [.c aa] k
noncomputable abbrev cB(f:FuncId)(l:LV)(k:Bool->Pr):Pr:=aq Pq f l [.c .bool] k
noncomputable abbrev cS(f:FuncId)(l:LV)(k:Sl->Pr):Pr:=aq Pq f l [.c .slice] k
noncomputable abbrev cO(f:FuncId)(l:LV)(k:Sl×Int->Pr):Pr:=aq Pq f l [.c .slice,.c aa] k
abbrev _root_.Go.Eng.An.n(x:An):An:=.sq .z x
end Go.Proofs

namespace Go.Eng
@[simp]theorem add_zero'(a:Addr):a.add 0=a:=by simp[Addr.add]
@[simp]theorem We(a:Addr)(n:Nat):(a.add n).block=a.block:=by unfold Addr.add;split<;>rfl
@[
 simp]theorem add_add(a:Addr)(m n:Nat):(a.add m).add n=a.add (m+n):=by
 unfold Addr.add;by_cases hm:m=0
 ·subst hm;simp
 ·by_cases hn:n=0
  ·subst hn;simp[hm]
  ·simp[hm,hn,Nat.add_assoc]
@[
 simp]theorem iQ(b o n:Nat):(⟨b,o,none⟩:Addr).add n=⟨b,o+n,none⟩:=by
 unfold Addr.add;by_cases hn:n=0
 ·subst hn;simp
 ·simp[hn]
section
variable{w:World}
@[simp]theorem fZ(a:Addr)(f:Addr->Pr):deref (some a) f w=f a w:=by simp[deref]
@[simp]theorem oJ(o:Obj)(f:Nat->Pr):nw o f w=f w.heap.size (w.alloc o):=rfl
@[simp]theorem z8(b:Bool)(x y:Pr):br b x y w=if b=true then x w else y w:=rfl
@[simp]theorem aeS(p:Prop)(f:Pr):cq p f w=(p/\f w):=rfl
@[simp]theorem aL(f:Pr):eG f w=f w.drew:=rfl
@[simp]theorem YV(x y:Pr):both x y w=(x w/\y w):=rfl
@[simp]theorem aeT:tru w=True:=rfl
@[simp]theorem aeU:dM w=False:=rfl
theorem fe{s:CS}{a:Addr}{p:dZ s}{f:dZ s->Pr}(h:w.cell? a=some (dH s p))(hf:f p w):bI s a f w:=⟨p,h,hf⟩
theorem ek{l:List CS}{a:Addr}{p:mu l}{f:mu l->Pr}(h:dL w a 0 (fY l p))(hf:f p w):bf l a f w:=⟨p,h,hf⟩
theorem Nf{a:Addr}{v u:Value}{f:Pr}(hv:aO v)(h:w.cell? a=some u)(hz:w.frozen? a=false)(hf:f (w.setCell a v)):st a v f w:=⟨hv,by rw[h];rfl,hz,hf⟩
theorem aj{b:Bool}{x y:Pr}(h1:b=true->x w)(h2:b=false->y w):br b x y w:=by
 cases b with
 |true=>simpa using h1 rfl
 |false=>simpa using h2 rfl
theorem cj{b:Bool}{x y:Pr}(hb:b=true)(h:x w):br b x y w:=by rw[z8,jd hb];exact h
theorem aK{b:Bool}{x y:Pr}(hb:b=false)(h:y w):br b x y w:=by rw[z8,jc (by simp[hb])];exact h
theorem aB{S:Type}{f:(S->Pr)->Pr}{k:S->Pr}(R:S->Pr)(h:f R w)(hk:∀s w',R s w'->k s w'):jn f k w:=⟨R,h,hk⟩
theorem aC{S:Type}{G:(S->Pr)->S->Pr}{s:S}(I:S->Pr)(μ:S->World->Nat)(h0:I s w)(h:∀s w,I s w->G (λs' w'=>I s' w'/\μ s' w'<μ s w) s w):bh G s w:=⟨I,μ,h0,h⟩
theorem af{P:Program}{f:FuncId}{args:LV}{cM:List Sh}{k:eD cM->Pr}{post:eD cM->Pr}(h:Calls P f args.toArray w (au cM post))(hk:∀r w',post r w'->k r w'):aq P f args cM k w:=
 h.mono λ_ _ ⟨p,he,hp⟩=>⟨p,he,hk _ _ hp⟩
end
@[simp]theorem YW(k:IntKind)(n:Int):dH (.int k) n=.int k n:=rfl
@[simp]theorem Wf(b:Bool):dH .bool b=.bool b:=rfl
@[simp]theorem YX(p:OA):dH .ptr p=.pointer p:=rfl
@[simp]theorem TR(s:Sl):dH .slice s=.slice s.a s.len s.cap:=rfl
@[simp]theorem YY(r:Option Nat):dH .map r=.map r:=rfl
@[simp]theorem YZ(v:Value):dH .any v=v:=rfl
@[simp]theorem Y0(v:ByteArray):dH .str v=.string v:=rfl
@[simp]theorem TS(k:IntKind)(n:Int):aO (.int k n)=True:=rfl
@[simp]theorem RY(b:Bool):aO (.bool b)=True:=rfl
@[simp]theorem TU(p:OA):aO (.pointer p)=True:=rfl
@[simp]theorem Ql(a:OA)(l c:Nat):aO (.slice a l c)=True:=rfl
@[simp]theorem TV(r:Option Nat):aO (.map r)=True:=rfl
@[simp]theorem RZ(f:Fn)(x y:Array Value):aO (.func f x y)=True:=rfl
structure Mod(S:Nat->Prop)(w w':World):Prop where
 size:w.heap.size<=w'.heap.size
 same:∀b,b<w.heap.size->¬S b->w'.heap[b]? =w.heap[b]?
 rest:w'.os=w.os/\w'.tape=w.tape/\w'.output=w.output
abbrev Grow:World->World->Prop:=Mod λ_=>False
section
variable{S T:Nat->Prop}{w w1 w2:World}
theorem Mod.refl(S:Nat->Prop)(w:World):Mod S w w:=⟨Nat.le_refl _,λ_ _ _=>rfl,rfl,rfl,rfl⟩
theorem Mod.trans(h:Mod S w w1)(h':Mod T w1 w2)(hT:∀b,b<w.heap.size->T b->S b):Mod S w w2:=
 ⟨Nat.le_trans h.size h'.size,λb hb hs=>(h'.same b (Nat.lt_of_lt_of_le hb h.size) λht=>hs (hT b hb ht)).trans (h.same b hb hs),h'.rest.1.trans h.rest.1,h'.rest.2.1.trans h.rest.2.1,h'.rest.2.2.trans h.rest.2.2⟩
theorem Mod.mono(h:Mod S w w1)(hT:∀b,b<w.heap.size->S b->T b):Mod T w w1:=⟨h.size,λb hb hs=>h.same b hb λht=>hs (hT b hb ht),h.rest⟩
theorem Grow.trans(h:Grow w w1)(h':Grow w1 w2):Grow w w2:=Mod.trans h h' λ_ _ h=>h
theorem Grow.mod(h:Grow w w1):Mod S w w1:=h.mono λ_ _ h=>h.elim
theorem Mod.alloc(h:Mod S w w1)(o:Obj):Mod S w (w1.alloc o):=
 ⟨by have:=h.size;simp;omega,λb hb hs=>by
   rw[<-h.same b hb hs];have:b<w1.heap.size:=Nat.lt_of_lt_of_le hb h.size;show(w1.heap.push o)[b]? =w1.heap[b]?;rw[Array.getElem?_push,jc (Nat.ne_of_lt this)],h.rest⟩
theorem Mod.drew(h:Mod S w w1):Mod S w w1.drew:=⟨h.size,h.same,h.rest⟩
theorem vK(w:World){a:Addr}{v:Value}{b:Nat}(hb:a.block≠b):(w.setCell a v).heap[b]? =w.heap[b]? :=by
 simp[World.setCell,Array.getElem?_modify,hb]
theorem Mod.setCell(h:Mod S w w1){a:Addr}{v:Value}(ha:S a.block\/w.heap.size<=a.block):Mod S w (w1.setCell a v):=
 ⟨by have:=h.size;simpa using this,λb hb hs=>by
   rw[<-h.same b hb hs];refine vK w1 ?_;rintro rfl;rcases ha with ha|ha
   ·exact hs ha
   ·omega,h.rest⟩
theorem Mod.putObj(h:Mod S w w1){b:Nat}{o:Obj}(ha:S b\/w.heap.size<=b):Mod S w {w1 with heap:=w1.heap.setIfInBounds b o}:=
 ⟨by have:=h.size;simpa using this,λc hc hs=>by
   rw[<-h.same c hc hs];have hne:b≠c:=by
    rintro rfl;rcases ha with ha|ha
    ·exact hs ha
    ·omega
   simp[Array.getElem?_setIfInBounds_ne hne],h.rest⟩
theorem AM{w w':World}{a:Addr}(h:w'.heap[a.block]? =w.heap[a.block]?):w'.cell? a=w.cell? a:=by
 simp only[World.cell?,h]
theorem xN{w w':World}{a:Addr}(h:w'.heap[a.block]? =w.heap[a.block]?):w'.frozen? a=w.frozen? a:=by
 simp only[World.frozen?,h]
end
theorem vp{w:World}{a:Addr}:∀{vs:LV} {i:Nat},dL w a i vs↔∀j v,vs[j]? =some v->w.cell? (a.add (i+j))=some v
 |[],i=>by simp[dL]
 |
  x::vs,i=>by
  simp only[dL,vp (vs:=vs)];constructor
  ·rintro⟨h1,h2⟩ j v hj
   cases j with
   |zero=>simp only[List.getElem?_cons_zero,jg]at hj;subst hj;exact h1
   |succ j=>have:=h2 j v (by simpa using hj);rwa[show i+1+j=i+(j+1) by omega]at this
  ·intro h
   refine⟨by simpa using h 0 x rfl,λj v hj=>?_⟩;have:=h (j+1) v (by simpa using hj);rwa[show i+(j+1)=i+1+j by omega]at this
def Row(w:World)(a:Addr)(vs:LV):Prop:=∀j v,vs[j]? =some v->w.cell? (a.add j)=some v
theorem az{w:World}{a:Addr}{vs:LV}:dL w a 0 vs↔Row w a vs:=by
 rw[vp];simp[Row]
theorem Row.get{w:World}{a:Addr}{vs:LV}(h:Row w a vs){j:Nat}{v:Value}(hj:vs[j]? =some v):w.cell? (a.add j)=some v:=h j v hj
theorem Row.nil(w:World)(a:Addr):Row w a []:=λj v h=>by simp at h
theorem Row.append{w:World}{a:Addr}{vs us:LV}:Row w a (vs++us)↔Row w a vs/\Row w (a.add vs.length) us:=by
 constructor
 ·intro h
  refine⟨λj v hj=>h j v ?_,λj v hj=>?_⟩
  ·have hlt:j<vs.length:=by
    rcases Nat.lt_or_ge j vs.length with h'|h'
    ·exact h'
    ·rw[List.getElem?_eq_none h']at hj;cases hj
   rw[List.getElem?_append_left hlt];exact hj
  ·rw[add_add]
   refine h _ v ?_;rw[List.getElem?_append_right (by omega)];simpa using hj
 ·rintro⟨h1,h2⟩ j v hj
  rcases Nat.lt_or_ge j vs.length with h'|h'
  ·exact h1 j v (by rwa[List.getElem?_append_left h']at hj)
  ·rw[List.getElem?_append_right h']at hj
   have:=h2 _ v hj;rwa[add_add,show vs.length+(j-vs.length)=j by omega]at this
theorem Row.take{w:World}{a:Addr}{vs:LV}(h:Row w a vs)(n:Nat):Row w a (vs.take n):=λj v hj=>by
 rw[List.getElem?_take]at hj;split at hj
 ·exact h j v hj
 ·cases hj
theorem Row.drop{w:World}{a:Addr}{vs:LV}(h:Row w a vs)(n:Nat):Row w (a.add n) (vs.drop n):=λj v hj=>by
 rw[add_add];exact h _ v (by rwa[List.getElem?_drop]at hj)
theorem Row.of_heap{w w':World}{a:Addr}{vs:LV}(h:Row w a vs)(he:w'.heap[a.block]? =w.heap[a.block]?):Row w' a vs:=λj v hj=>by
 rw[AM (w:=w) (by simpa using he)];exact h j v hj
theorem Row.Ca{w:World}{a:Addr}{vs:LV}(h:Row w a vs)(hne:vs≠[]):a.block<w.heap.size:=by
 cases vs with
 |nil=>exact absurd rfl hne
 |cons v vs=>have:=World.block_lt_of_cell? w _ (h 0 v rfl);simpa using this
theorem Row.mod{S:Nat->Prop}{w w':World}{a:Addr}{vs:LV}(h:Row w a vs)(hm:Mod S w w')(hs:¬S a.block):Row w' a vs:=by
 by_cases hv:vs=[]
 ·subst hv;exact Row.nil _ _
 ·exact h.of_heap (hm.same _ (h.Ca hv) hs)
theorem aiA.some{w:World}{a:Addr}{vs:LV}:cE w (some a) vs↔Row w a vs:=az
theorem Wt{p:Sl->Prop}{a:OA}{l c:Nat}:(∃s:Sl,(a=s.a/\l=s.len/\c=s.cap)/\p s)↔p ⟨a,l,c⟩:=by
 constructor
 ·rintro⟨⟨a',l',c'⟩,⟨rfl,rfl,rfl⟩,h⟩;exact h
 ·intro h;exact⟨⟨a,l,c⟩,⟨rfl,rfl,rfl⟩,h⟩
@[simp]theorem Sl.eta(s:Sl):(⟨s.a,s.len,s.cap⟩:Sl)=s:=rfl
@[
 simp]theorem R1(w:World)(c:Array Value)(t:TypeId)(i:Nat)(v:Value):(w.alloc (.cells c t)).setCell ⟨w.heap.size,i,none⟩ v=w.alloc (.cells (c.setIfInBounds i v) t):=
 World.setCell_alloc_new (w:=w) c t i v
@[
 simp]theorem heap_alloc_new(w:World)(o:Obj):(w.alloc o).heap[w.heap.size]? =some o:=by
 show(w.heap.push o)[w.heap.size]? =some o;simp
theorem mm{w:World}{o:Obj}{b:Nat}(h:b<w.heap.size):(w.alloc o).heap[b]? =w.heap[b]? :=by
 show(w.heap.push o)[b]? =w.heap[b]?;rw[Array.getElem?_push,jc (Nat.ne_of_lt h)]
@[simp]theorem heap_drew(w:World):w.drew.heap=w.heap:=rfl
theorem wrap_i64{n:Int}(h: -9223372036854775808<=n/\n<=9223372036854775807):IntKind.wrap .i64 n=n:=by
 simp only[IntKind.wrap,IntKind.signed,IntKind.bits];simp;omega
theorem wrap_u8{n:Int}(h:0<=n/\n<=255):IntKind.wrap .u8 n=n:=by
 simp only[IntKind.wrap,IntKind.signed,IntKind.bits];simp;omega
end Go.Eng
