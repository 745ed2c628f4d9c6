import Derived.OrdersIn
import Derived.TacticsIn
import Derived.CallsIn
import Derived.LoopNIn
import Derived.KernelRfl
import Derived.Laws.World
import Derived.RangeFuncSeq
import Derived.Laws.StructEq
import Derived.Lib.ConvBytes
import Derived.RangeFuncNested
set_option linter.unusedVariables false
set_option linter.unusedSimpArgs false
set_option linter.unusedSectionVars false
namespace Go.Eng
abbrev ja:=@decide_eq_false_iff_not
abbrev jb:=@decide_eq_true_eq
abbrev jc:=@if_neg
abbrev jd:=@if_pos
abbrev je:=@List.length_map
abbrev jf:=@List.getElem?_map
abbrev jg:=@Option.some.injEq
abbrev jh:=@List.length_append
abbrev ji:=@List.mem_of_getElem?
abbrev jj:=@List.map_append
abbrev jk:=@Int.toNat_natCast
abbrev jl:=@List.getElem?_eq_getElem
abbrev jo:=@List.mem_singleton
abbrev jq:=@not_not_intro
abbrev jr:=@List.length_take
abbrev jt:=@List.append_assoc
abbrev ju:=@of_decide_eq_true
abbrev jv:=@of_decide_eq_false
abbrev jx:=@List.eq_nil_of_length_eq_zero
abbrev jy:=@List.mem_append
abbrev jz:=@Bool.and_eq_true
abbrev kf:=@List.length_drop
abbrev kg:=@List.mem_map
abbrev kh:=@List.length_replicate
abbrev ki:=@beq_iff_eq
abbrev OA:=Option Addr
abbrev LB:=List UInt8
abbrev LV:=List Value
abbrev I6:=Int×Int×Int×Int×Int×Int
abbrev I4:=Int×Int×Int×Int
abbrev Pr:=World->Prop
structure Sl where
 a:OA
 len:Nat
 cap:Nat
inductive CS where
 |int (k:IntKind)|bool|str|ptr|slice|map|any
@[
 reducible]def dw:CS->Type
 |.int _=>Int
 |.bool=>Bool
 |.str=>ByteArray
 |.ptr=>OA
 |.slice=>Sl
 |.map=>Option Nat
 |.any=>Value
def bC:(s:CS)->dw s->Value
 |.int k,n=>.int k n
 |.bool,b=>.bool b
 |.str,s=>.string s
 |.ptr,p=>.pointer p
 |.slice,s=>.slice s.a s.len s.cap
 |.map,r=>.map r
 |.any,v=>v
@[
 reducible]def kD:List CS->Type
 |[]=>Unit
 |[s]=>dw s
 |s::t::l=>dw s×kD (t::l)
def j0:(l:List CS)->kD l->LV
 |[],_=>[]
 |[s],p=>[bC s p]
 |s::t::l,p=>bC s p.1::j0 (t::l) p.2
inductive Sh where
 |c (s:CS)
 |agg (l:List CS)
@[
 reducible]def J4:Sh->Type
 |.c s=>dw s
 |.agg l=>kD l
def val:(s:Sh)->J4 s->Value
 |.c s,p=>bC s p
 |.agg l,p=>.agg (j0 l p).toArray
@[
 reducible]def b9:List Sh->Type
 |[]=>Unit
 |[s]=>J4 s
 |s::t::l=>J4 s×b9 (t::l)
def nM:(l:List Sh)->b9 l->LV
 |[],_=>[]
 |[s],p=>[val s p]
 |s::t::l,p=>val s p.1::nM (t::l) p.2
def dM(l:List Sh)(p:b9 l):Value:=
 match nM l p with
 |[v]=>v
 |vs=>.tuple vs.toArray
def bK:Pr:=λ_=>False
def deref(p:OA)(f:Addr->Pr):Pr:=match p with|some a=>f a|none=>bK
theorem dW{p:OA}{f:Addr->Pr}{w:World}:deref p f w↔∃a,p=some a/\f a w:=by cases p<;>simp[deref,bK]
def au(s:CS)(a:Addr)(f:dw s->Pr):Pr:=λw=>∃p:dw s,w.cell? a=some (bC s p)/\f p w
def cc(w:World)(a:Addr):Nat->LV->Prop
 |_,[]=>True
 |i,v::l=>w.cell? (a.add i)=some v/\cc w a (i+1) l
def aQ(l:List CS)(a:Addr)(f:kD l->Pr):Pr:=λw=>∃p:kD l,cc w a 0 (j0 l p)/\f p w
def aK:Value->Prop
 |.agg _=>False
 |.tuple _=>False
 |_=>True
def st(a:Addr)(v:Value)(f:Pr):Pr:=λw=>aK v/\(w.cell? a).isSome=true/\w.frozen? a=false/\f (w.setCell a v)
def D1(a:Addr):Nat->LV->Pr->Pr
 |_,[],f=>f
 |i,v::l,f=>st (a.add i) v (D1 a (i+1) l f)
def nw(o:Obj)(f:Nat->Pr):Pr:=λw=>f w.heap.size (w.alloc o)
def br(b:Bool)(x y:Pr):Pr:=λw=>if b=true then x w else y w
def aP(p:Prop)(f:Pr):Pr:=λw=>p/\f w
def jE(f:Pr):Pr:=λw=>f w.drew
def jn{S:Type}(f:(S->Pr)->Pr)(k:S->Pr):Pr:=λw=>∃R:S->Pr,f R w/\∀s w',R s w'->k s w'
def aM{S:Type}(G:(S->Pr)->S->Pr)(s:S):Pr:=λw=>
 ∃(I:S->Pr) (μ:S->World->Nat),I s w/\∀s w,I s w->G (λs' w'=>I s' w'/\μ s' w'<μ s w) s w
def both(x y:Pr):Pr:=λw=>x w/\y w
inductive EV where
 |no
 |val (v:Value)
 |lit (b:Bool)
 |xB
 |xC (k v:Value)
 |yP (k v:Value)
def EV.v? :EV->Option Value
 |.no=>none
 |.val v=>some v
 |.lit b=>some (.bool b)
 |.xB=>some (.tuple #[.bool false])
 |.xC k v=>some (.tuple #[.bool true,k,v])
 |.yP k v=>some (.tuple #[k,v])
def Env.fV:List EV->Nat->EV
 |[],_=>.no
 |x::_,0=>x
 |_::e,n+1=>Env.fV e n
def Env.ry:List EV->Nat->EV->List EV
 |[],_,_=>[]
 |_::e,0,v=>v::e
 |x::e,n+1,v=>x::Env.ry e n v
structure Env where
 l:List EV
 ds:List Nat
 bs:List Deferred
def Env.length(e:Env):Nat:=e.l.length
def Env.get(e:Env)(n:Nat):EV:=Env.fV e.l n
def Env.set(e:Env)(n:Nat)(v:EV):Env:=⟨Env.ry e.l n v,e.ds,e.bs⟩
def Env.mark(e:Env)(D:Nat):Env:=⟨e.l,D::e.ds,e.bs⟩
def Env.QH(e:Env)(d:Deferred):Env:=⟨e.l,e.ds,d::e.bs⟩
def Env.put(e:Env)(d:Option Tmp)(v:EV):Env:=
 match d with
 |none=>e
 |some d=>Env.set e d v
def Env.ev(e:Env):Operand->EV
 |.tmp t=>Env.get e t
 |.const (.bool b)=>.lit b
 |.const v=>.val v
 |.global g=>.val (.pointer (some ⟨g,0,none⟩))
 |.func f=>.val (.func (.func f) #[] #[])
def Env.forget:Env->List Nat->Env
 |e,[]=>e
 |e,t::l=>Env.forget (Env.set e t .no) l
def marks(ds:List Nat):List Deferred:=ds.map λD=>{target:=.collected D,args:= #[]}
structure Ag(e:Env)(a:Act):Prop where
 size:e.length<=a.tmps.size
 get:∀t v,(Env.get e t).v? =some v->a.tmps[t]? =some v
 defers:a.defers=marks e.ds++e.bs
theorem Env.Cv(e:List EV)(t:Nat)(v:EV)(u:Nat):Env.fV (Env.ry e t v) u=if u=t/\t<e.length then v else Env.fV e u:=by
 induction e generalizing t u with
 |nil=>simp[Env.ry,Env.fV]
 |
  cons x e ih=>
  cases t with
  |zero=>cases u<;>simp[Env.ry,Env.fV]
  |
   succ t=>
   cases u with
   |zero=>simp[Env.ry,Env.fV]
   |succ u=>simp[Env.ry,Env.fV,ih]
theorem Env.wg(e:List EV)(t:Nat)(v:EV):(Env.ry e t v).length=e.length:=by
 induction e generalizing t with
 |nil=>simp[Env.ry]
 |cons x e ih=>cases t<;>simp[Env.ry,ih]
theorem Env.oR(e:List EV)(t:Nat)(h:e.length<=t):Env.fV e t=.no:=by
 induction e generalizing t with
 |nil=>rfl
 |
  cons x e ih=>
  cases t with
  |zero=>simp at h
  |succ t=>simp only[Env.fV];exact ih t (by simpa using h)
theorem Env.fF(e:Env)(t:Nat)(v:EV)(u:Nat):Env.get (Env.set e t v) u=if u=t/\t<e.length then v else Env.get e u:=Env.Cv e.l t v u
theorem Env.gL(e:Env)(t:Nat)(h:e.length<=t):Env.get e t=.no:=Env.oR e.l t h
@[simp]theorem Env.length_set(e:Env)(t:Nat)(v:EV):(Env.set e t v).length=e.length:=Env.wg e.l t v
@[
 simp]theorem Env.LK(e:Env)(d:Option Tmp)(v:EV):(Env.put e d v).length=e.length:=by
 cases d<;>simp[Env.put]
@[simp]theorem Env.Sb(e:Env)(t:Nat)(v:EV):(Env.set e t v).ds=e.ds:=rfl
@[
 simp]theorem Env.Sc(e:Env)(d:Option Tmp)(v:EV):(Env.put e d v).ds=e.ds:=by
 cases d<;>simp[Env.put]
@[simp]theorem Env.Sd(e:Env)(t:Nat)(v:EV):(Env.set e t v).bs=e.bs:=rfl
@[
 simp]theorem Env.Se(e:Env)(d:Option Tmp)(v:EV):(Env.put e d v).bs=e.bs:=by
 cases d<;>simp[Env.put]
@[
 simp]theorem Env.Cw(e:Env)(l:List Nat):(Env.forget e l).bs=e.bs:=by
 induction l generalizing e with
 |nil=>rfl
 |cons t l ih=>simp[Env.forget,ih]
@[
 simp]theorem Env.rz(e:Env)(l:List Nat):(Env.forget e l).length=e.length:=by
 induction l generalizing e with
 |nil=>rfl
 |cons t l ih=>simp[Env.forget,ih]
@[
 simp]theorem Env.Cx(e:Env)(l:List Nat):(Env.forget e l).ds=e.ds:=by
 induction l generalizing e with
 |nil=>rfl
 |cons t l ih=>simp[Env.forget,ih]
theorem Env.AD(e:Env)(d:Option Tmp)(v:EV)(u:Nat):Env.get (Env.put e d v) u=if d=some u/\u<e.length then v else Env.get e u:=by
 cases d with
 |none=>simp[Env.put]
 |
  some d=>
  simp only[Env.put,Env.fF];by_cases h:u=d
  ·subst h;simp
  ·have:¬(some d=some u):=λh'=>h (by simpa using h'.symm)
   simp[h,this]
theorem Env.lG(e:Env)(l:List Nat)(u:Nat):Env.get (Env.forget e l) u=if u∈l/\u<e.length then .no else Env.get e u:=by
 induction l generalizing e with
 |nil=>simp[Env.forget]
 |
  cons t l ih=>
  simp only[Env.forget,ih,Env.fF,Env.length_set,List.mem_cons];by_cases h1:u∈l/\u<e.length
  ·rw[jd h1,jd ⟨.inr h1.1,h1.2⟩]
  ·rw[jc h1]
   by_cases h2:u=t/\t<e.length
   ·rw[jd h2,jd ⟨.inl h2.1,h2.1▸h2.2⟩]
   ·rw[jc h2,jc]
    rintro⟨h3|h3,h4⟩
    ·exact h2 ⟨h3,h3▸h4⟩
    ·exact h1 ⟨h3,h4⟩
section
variable{e:Env}{a:Act}
theorem Ag.eval(h:Ag e a){x:Operand}{v:Value}(hx:(Env.ev e x).v? =some v):a.eval x=v:=by
 cases x with
 |tmp t=>have:=h.get t v hx;simp[Act.eval,Array.getD_eq_getD_getElem?,this]
 |const c=>cases c<;>simpa[Env.ev,EV.v?,Act.eval]using hx
 |global g=>simpa[Env.ev,EV.v?,Act.eval]using hx
 |func f=>simpa[Env.ev,EV.v?,Act.eval]using hx
theorem Ag.put(h:Ag e a)(d:Option Tmp){x:EV}{v:Value}(hx:∀u,x.v? =some u->u=v):Ag (Env.put e d x) (a.put d v):=by
 cases d with
 |none=>exact h
 |
  some d=>
  refine⟨by simpa[Act.put]using h.size,λt u hu=>?_,by simpa[Act.put]using h.defers⟩;rw[Env.AD]at hu;simp only[Act.put];by_cases hd:d=t
  ·subst hd
   by_cases hl:d<e.length
   ·rw[jd ⟨rfl,hl⟩]at hu
    have hs:d<a.tmps.size:=Nat.lt_of_lt_of_le hl h.size;simp[hs,hx u hu]
   ·rw[jc (λh'=>hl h'.2)]at hu
    rw[Env.gL e d (Nat.le_of_not_lt hl)]at hu;simp[EV.v?]at hu
  ·rw[jc (λh'=>hd (by simpa using h'.1))]at hu
   rw[Array.getElem?_setIfInBounds,jc hd];exact h.get t u hu
theorem Ag.LL(h:Ag e a)(d:Option Tmp)(v:Value):Ag (Env.put e d .no) (a.put d v):=h.put d (by simp[EV.v?])
theorem Ag.lit(h:Ag e a){t:Nat}{b:Bool}(hb:(Env.get e t).v? =some (.bool b)):Ag (Env.set e t (.lit b)) a:=by
 refine⟨by simpa using h.size,λu v hv=>?_,by simpa using h.defers⟩;rw[Env.fF]at hv;by_cases hu:u=t/\t<e.length
 ·rw[jd hu]at hv
  obtain⟨rfl,_⟩:=hu;simp only[EV.v?,jg]at hv;exact hv▸h.get u _ hb
 ·rw[jc hu]at hv
  exact h.get u v hv
end
def EB:(s:CS)->Value->(dw s->Pr)->Pr
 |.int .i8,.int .i8 n,f=>f n
 |.int .i16,.int .i16 n,f=>f n
 |.int .i32,.int .i32 n,f=>f n
 |.int .i64,.int .i64 n,f=>f n
 |.int .u8,.int .u8 n,f=>f n
 |.int .u16,.int .u16 n,f=>f n
 |.int .u32,.int .u32 n,f=>f n
 |.int .u64,.int .u64 n,f=>f n
 |.bool,.bool b,f=>f b
 |.str,.string s,f=>f s
 |.ptr,.pointer p,f=>f p
 |.slice,.slice a l c,f=>f ⟨a,l,c⟩
 |.map,.map r,f=>f r
 |.any,v,f=>f v
 |_,_,_=>bK
theorem lH{s:CS}{v:Value}{f:dw s->Pr}{w:World}(h:EB s v f w):∃p,v=bC s p/\f p w:=by
 unfold EB at h;split at h<;>first|exact⟨_,rfl,h⟩|exact h.elim
def LM:(l:List CS)->LV->(kD l->Pr)->Pr
 |[],[],f=>f ()
 |[s],[v],f=>EB s v f
 |s::t::l,v::vs,f=>EB s v λp=>LM (t::l) vs λq=>f (p,q)
 |_,_,_=>bK
theorem qg:∀{l:List CS} {vs:LV} {f:kD l->Pr} {w:World},LM l vs f w->∃p,vs=j0 l p/\f p w
 |[],[],_,_,h=>⟨(),rfl,h⟩
 |[],_::_,_,_,h=>h.elim
 |[s],[v],_,_,h=>let⟨p,hp,hf⟩:=lH h;⟨p,by rw[hp];rfl,hf⟩
 |[_],[],_,_,h=>h.elim
 |[_],_::_::_,_,_,h=>h.elim
 |
  s::t::l,v::vs,_,_,h=>by
  obtain⟨p,hp,h⟩:=lH h;obtain⟨q,hq,h⟩:=qg h;exact⟨(p,q),by rw[hp,hq];rfl,h⟩
 |_::_::_,[],_,_,h=>h.elim
def wh:(s:Sh)->Value->(J4 s->Pr)->Pr
 |.c s,v,f=>EB s v f
 |.agg l,.agg cs,f=>LM l cs.toList f
 |_,_,_=>bK
theorem jF{s:Sh}{v:Value}{f:J4 s->Pr}{w:World}(h:wh s v f w):∃p,v=val s p/\f p w:=by
 cases s with
 |c s=>exact lH h
 |
  agg l=>
  cases v<;>simp only[wh]at h<;>try exact h.elim
  obtain⟨p,hp,h⟩:=qg h;exact⟨p,by simp[val,<-hp],h⟩
abbrev Live:=List (Nat×Sh)
@[reducible]def Live.S(l:Live):Type:=b9 (l.map (·.2))
def LN(s:Sh)(x:EV)(f:J4 s->Pr):Pr:=
 match x with
 |.val v=>wh s v f
 |.lit b=>wh s (.bool b) f
 |.xB=>bK
 |.xC _ _=>bK
 |.yP _ _=>bK
 |.no=>bK
theorem qh{s:Sh}{x:EV}{f:J4 s->Pr}{w:World}(h:LN s x f w):∃p,x.v? =some (val s p)/\f p w:=by
 cases x with
 |no=>exact h.elim
 |xB=>exact h.elim
 |xC _ _=>exact h.elim
 |yP _ _=>exact h.elim
 |val v=>obtain⟨p,rfl,h1⟩:=jF (show wh s v f w from h);exact⟨p,rfl,h1⟩
 |lit b=>obtain⟨p,hp,h1⟩:=jF (show wh s (.bool b) f w from h);exact⟨p,by rw[<-hp];rfl,h1⟩
def need(e:Env):(l:Live)->(b9 (l.map (·.2))->Pr)->Pr
 |[],f=>f ()
 |[x],f=>LN x.2 (Env.get e x.1) f
 |x::y::l,f=>LN x.2 (Env.get e x.1) λp=>need e (y::l) λq=>f (p,q)
def iM(e:Env):(l:Live)->b9 (l.map (·.2))->Env
 |[],_=>e
 |[x],p=>Env.set e x.1 (.val (val x.2 p))
 |x::y::l,p=>iM (Env.set e x.1 (.val (val x.2 p.1))) (y::l) p.2
theorem dN{a:Act}{w:World}:∀{l:Live} {e e0:Env} {f:b9 (l.map (·.2))->Pr},Ag e a->Ag e0 a->need e l f w->∃p,Ag (iM e0 l p) a/\f p w
 |[],_,_,_,_,h0,h=>⟨(),h0,h⟩
 |
  [x],e,e0,f,he,h0,h=>by
  obtain⟨p,hv,h⟩:=qh h;refine⟨p,?_,h⟩;have hg:=he.get x.1 _ hv;refine⟨by simpa[iM]using h0.size,λt u hu=>?_,by simpa[iM]using h0.defers⟩;simp only[iM,Env.fF]at hu;split at hu
  ·rename_i ht
   simp only[EV.v?,jg]at hu;rw[ht.1,hg,hu]
  ·exact h0.get t u hu
 |
  x::y::l,e,e0,f,he,h0,h=>by
  obtain⟨p,hv,h⟩:=qh h;have hg:=he.get x.1 _ hv;have h1:Ag (Env.set e0 x.1 (.val (val x.2 p))) a:=by
   refine⟨by simpa using h0.size,λt u hu=>?_,by simpa using h0.defers⟩;rw[Env.fF]at hu;split at hu
   ·rename_i ht
    simp only[EV.v?,jg]at hu;rw[ht.1,hg,hu]
   ·exact h0.get t u hu
  obtain⟨q,hq,h⟩:=dN he h1 h;exact⟨(p,q),hq,h⟩
def jU:Nat:=1000000007
def mJ:Nat:=1000000009
def Ext(W:List Nat)(e e':Env):Prop:=e.length=e'.length/\(∀t,t∉W->Env.get e' t=Env.get e t)/\(jU∉W->e'.ds=e.ds)/\(mJ∉W->e'.bs=e.bs)
theorem Ext.refl(W:List Nat)(e:Env):Ext W e e:=⟨rfl,λ_ _=>rfl,λ_=>rfl,λ_=>rfl⟩
theorem Ext.trans{W V U:List Nat}{e e1 e2:Env}(h:Ext W e e1)(h':Ext V e1 e2)(hw:∀t,t∈W->t∈U)(hv:∀t,t∈V->t∈U):Ext U e e2:=
 ⟨h.1.trans h'.1,λt ht=>(h'.2.1 t λh=>ht (hv t h)).trans (h.2.1 t λh=>ht (hw t h)),λht=>(h'.2.2.1 λh=>ht (hv _ h)).trans (h.2.2.1 λh=>ht (hw _ h)),
   λht=>(h'.2.2.2 λh=>ht (hv _ h)).trans (h.2.2.2 λh=>ht (hw _ h))⟩
theorem Ext.mono{W U:List Nat}{e e1:Env}(h:Ext W e e1)(hw:∀t,t∈W->t∈U):Ext U e e1:=
 ⟨h.1,λt ht=>h.2.1 t λh=>ht (hw t h),λht=>h.2.2.1 λh=>ht (hw _ h),λht=>h.2.2.2 λh=>ht (hw _ h)⟩
theorem Ext.put(e:Env)(d:Option Tmp)(v:EV):Ext d.toList e (Env.put e d v):=
 ⟨by simp,λt ht=>by
   rw[Env.AD,jc];rintro⟨rfl,_⟩;simp at ht,λ_=>by simp,λ_=>by simp⟩
theorem Ag.forget{W:List Nat}{e e':Env}{a:Act}(h:Ag e' a)(hx:Ext W e e')(hm:jU∉W)(hd:mJ∉W):Ag (Env.forget e W) a:=by
 refine⟨by simpa[hx.1]using h.size,λt v hv=>?_,by rw[Env.Cx,Env.Cw,<-hx.2.2.1 hm,<-hx.2.2.2 hd];exact h.defers⟩;rw[Env.lG]at hv;split at hv
 ·simp[EV.v?]at hv
 ·rename_i ht
  by_cases hl:t<e.length
  ·have Sf:t∉W:=λh=>ht ⟨h,hl⟩
   rw[<-hx.2.1 t Sf]at hv;exact h.get t v hv
  ·rw[Env.gL e t (by omega)]at hv
   simp[EV.v?]at hv
theorem Ext.iM:∀{l:Live} {W:List Nat} {e e0:Env} {p:b9 (l.map (·.2))},Ext W e e0->(∀x∈l,x.1∈W)->Ext W e (iM e0 l p)
 |[],_,_,_,_,h,_=>h
 |
  [x],W,e,e0,p,h,hl=>by
  refine⟨by simpa[Eng.iM]using h.1,λt ht=>?_,λht=>by simpa[Eng.iM]using h.2.2.1 ht,λht=>by simpa[Eng.iM]using h.2.2.2 ht⟩;rw[Eng.iM,Env.fF,jc]
  ·exact h.2.1 t ht
  ·rintro⟨rfl,_⟩;exact ht (hl x (by simp))
 |
  x::y::l,W,e,e0,p,h,hl=>by
  refine Ext.iM (l:=y::l) (e0:=Env.set e0 x.1 (.val (val x.2 p.1))) ?_ (λz hz=>hl z (by simp[hz]));refine⟨by simpa using h.1,λt ht=>?_,λht=>by simpa using h.2.2.1 ht,λht=>by simpa using h.2.2.2 ht⟩;rw[Env.fF,jc]
  ·exact h.2.1 t ht
  ·rintro⟨rfl,_⟩;exact ht (hl x (by simp))
theorem Ext.forget(e:Env)(W:List Nat):Ext W e (Env.forget e W):=
 ⟨by simp,λt ht=>by rw[Env.lG,jc (λh=>ht h.1)],λ_=>by simp,λ_=>by simp⟩
section
variable(P:Program)
def aV:Nat->TypeId->Option (List CS)
 |0,_=>none
 |
  d+1,t=>
  match P.underlying t with
  |some .bool=>some [.bool]
  |some (.int k)=>some [.int k]
  |some .string=>some [.str]
  |some (.pointer _)=>some [.ptr]
  |some (.slice _)=>some [.slice]
  |some (.map _ _)=>some [.map]
  |some (.func _ _ _)=>some [.any]
  |some (.interface _)=>some [.any]
  |some .unsafePointer=>some [.any]
  |some (.struct fs)=>fs.toList.foldr (λf acc=>match aV d f.type,acc with|some l,some r=>some (l++r)|_,_=>none) (some [])
  |some (.array n e)=>match aV d e with|some l=>some (List.replicate n l).flatten|none=>none
  |_=>none
def cZ(t:TypeId):Bool:=
 match P.underlying t with
 |some (.struct _)|some (.array _ _)=>true
 |_=>false
def L8(t:TypeId):Option Sh:=
 match cZ P t with
 |true=>match aV P 10 t with|some l=>some (.agg l)|none=>none
 |false=>match aV P 1 t with|some [c]=>some (.c c)|_=>none
def Kg:List TypeId->Option (List Sh)
 |[]=>some []
 |t::l=>match L8 P t,Kg l with|some s,some r=>some (s::r)|_,_=>none
end
def nd(x:EV)(f:Value->Pr):Pr:=
 match x with
 |.val v=>f v
 |.lit b=>f (.bool b)
 |.xB=>f (.tuple #[.bool false])
 |.xC k v=>f (.tuple #[.bool true,k,v])
 |.yP k v=>f (.tuple #[k,v])
 |.no=>bK
theorem wP{x:EV}{f:Value->Pr}{w:World}(h:nd x f w):∃v,x.v? =some v/\f v w:=by
 cases x with
 |no=>exact h.elim
 |val v=>exact⟨v,rfl,h⟩
 |lit b=>exact⟨_,rfl,h⟩
 |xB=>exact⟨_,rfl,h⟩
 |xC k v=>exact⟨_,rfl,h⟩
 |yP k v=>exact⟨_,rfl,h⟩
def Dk:List EV->(LV->Pr)->Pr
 |[],f=>f []
 |x::l,f=>nd x λv=>Dk l λvs=>f (v::vs)
def opt{α:Type}(x:Option α)(f:α->Pr):Pr:=
 match x with
 |some a=>f a
 |none=>bK
theorem ai{α:Type}{x:Option α}{f:α->Pr}{w:World}(h:opt x f w):∃a,x=some a/\f a w:=by
 cases x with
 |some a=>exact⟨a,rfl,h⟩
 |none=>exact h.elim
def nN(p:Prop)[Decidable p](f:Pr):Pr:=if p then f else bK
theorem cN{p:Prop}[Decidable p]{f:Pr}{w:World}(h:nN p f w):p/\f w:=by
 unfold nN at h;by_cases hp:p
 ·rw[jd hp]at h;exact⟨hp,h⟩
 ·rw[jc hp]at h;exact h.elim
def tf(b:Bool)(x y:Pr):Pr:=
 match b with
 |true=>x
 |false=>y
theorem aI{b:Bool}{x y:Pr}{w:World}(h:tf b x y w):(b=true/\x w)\/(b=false/\y w):=by
 cases b with
 |true=>exact .inl ⟨rfl,h⟩
 |false=>exact .inr ⟨rfl,h⟩
def fW(v:Value)(f:Array Value->Pr):Pr:=
 match v with
 |.agg cs=>f cs
 |_=>bK
theorem gm{v:Value}{f:Array Value->Pr}{w:World}(h:fW v f w):∃cs,v=.agg cs/\f cs w:=by
 cases v with
 |agg cs=>exact⟨cs,rfl,h⟩
 |_=>exact h.elim
def one?{α:Type}:List α->Option α
 |[c]=>some c
 |_=>none
def nA(k:IntKind)(x y:Int):Int:=k.wrap (BitVec.ofInt k.bits x&&&BitVec.ofInt k.bits y).toNat
def Dn(k:IntKind)(x y:Int):Int:=k.wrap (BitVec.ofInt k.bits x|||BitVec.ofInt k.bits y).toNat
def ny(k:IntKind)(x y:Int):Int:=k.wrap (BitVec.ofInt k.bits x^^^BitVec.ofInt k.bits y).toNat
def AP(k:IntKind)(x y:Int):Int:=k.wrap (BitVec.ofInt k.bits x&&& ~~~(BitVec.ofInt k.bits y)).toNat
def sU(k:IntKind)(x y:Int):Int:=k.wrap (x*2^(min y.toNat k.bits))
def kj(k:IntKind)(x y:Int):Int:=x.fdiv (2^(min y.toNat k.bits))
def tF(op:BinOp)(x y:Value)(k:EV->Pr):Pr:=
 match op,x,y with
 |.shl,.int k1 a,.int _ b=>aP (0<=b) (k (.val (.int k1 (sU k1 a b))))
 |.shr,.int k1 a,.int _ b=>aP (0<=b) (k (.val (.int k1 (kj k1 a b))))
 |.add,.int k1 a,.int k2 b=>if k1=k2 then k (.val (.int k1 (k1.wrap (a+b))))else bK
 |.sub,.int k1 a,.int k2 b=>if k1=k2 then k (.val (.int k1 (k1.wrap (a-b))))else bK
 |.mul,.int k1 a,.int k2 b=>if k1=k2 then k (.val (.int k1 (k1.wrap (a*b))))else bK
 |.quo,.int k1 a,.int k2 b=>if k1=k2 then aP (b≠0) (k (.val (.int k1 (k1.wrap (a.tdiv b)))))else bK
 |.rem,.int k1 a,.int k2 b=>if k1=k2 then aP (b≠0) (k (.val (.int k1 (a.tmod b))))else bK
 |.and,.int k1 a,.int k2 b=>if k1=k2 then k (.val (.int k1 (nA k1 a b)))else bK
 |.or,.int k1 a,.int k2 b=>if k1=k2 then k (.val (.int k1 (Dn k1 a b)))else bK
 |.xor,.int k1 a,.int k2 b=>if k1=k2 then k (.val (.int k1 (ny k1 a b)))else bK
 |.andNot,.int k1 a,.int k2 b=>if k1=k2 then k (.val (.int k1 (AP k1 a b)))else bK
 |.eql,.int k1 a,.int k2 b=>if k1=k2 then k (.val (.bool (a==b)))else bK
 |.neq,.int k1 a,.int k2 b=>if k1=k2 then k (.val (.bool (a !=b)))else bK
 |.lss,.int k1 a,.int k2 b=>if k1=k2 then k (.val (.bool (decide (a<b))))else bK
 |.leq,.int k1 a,.int k2 b=>if k1=k2 then k (.val (.bool (decide (a<=b))))else bK
 |.gtr,.int k1 a,.int k2 b=>if k1=k2 then k (.val (.bool (decide (a>b))))else bK
 |.geq,.int k1 a,.int k2 b=>if k1=k2 then k (.val (.bool (decide (a>=b))))else bK
 |.add,.string a,.string b=>aP (((a.size+b.size:Nat):Int)<=IntKind.i64.max) (k (.val (.string (a++b))))
 |.eql,.string a,.string b=>k (.val (.bool (a.toList==b.toList)))
 |.neq,.string a,.string b=>k (.val (.bool (!(a.toList==b.toList))))
 |.lss,.string a,.string b=>k (.val (.bool (Op.bytesLess a.toList b.toList)))
 |.leq,.string a,.string b=>k (.val (.bool (Op.bytesLess a.toList b.toList||a.toList==b.toList)))
 |.gtr,.string a,.string b=>k (.val (.bool (!(Op.bytesLess a.toList b.toList||a.toList==b.toList))))
 |.geq,.string a,.string b=>k (.val (.bool (!(Op.bytesLess a.toList b.toList))))
 |_,_,_=>bK
theorem Iz{P:Program}{op:BinOp}{t:TypeId}{x y:Value}{k:EV->Pr}{w:World}(h:tF op x y k w):
 ∃v,(binOp op t x y).run P w=.ok v w/\k (.val v) w:=by
 unfold tF at h;split at h<;>first
  |exact h.elim
  |(
   obtain⟨h1,h2⟩:=h
   refine⟨_,?_,h2⟩;simp[binOp,Op.shift,show¬(_:Int)<0 from Int.not_lt.2 h1,sU,kj,pure]
   done)
  |(
   split at h
   ·rename_i hk
    first
     |(
      refine⟨_,?_,h⟩
      simp[binOp,hk,Op.intArith,Op.intBits,Op.intCmp,nA,Dn,ny,AP,pure]
      done)
     |(
      obtain⟨h1,h2⟩:=h
      refine⟨_,?_,h2⟩;simp[binOp,hk,Op.intDiv,h1,pure]
      done)
   ·exact h.elim)
  |exact⟨_,by simp only[binOp,Op.stringOp];rw[jc (Int.not_lt.2 h.1)];rfl,h.2⟩
  |(
   refine⟨_,?_,h⟩
   simp[binOp,Op.stringOp,pure]
   done)
def RT{α:Type}(P:Program)(s:Sem α)(w:World)(Q:α->World->Prop):Prop:=∃v w',s.run P w=.ok v w'/\Q v w'
section
variable{P:Program}{α β:Type}{w:World}
theorem RT.pure{a:α}{Q:α->World->Prop}(h:Q a w):RT P (Pure.pure a) w Q:=⟨a,w,rfl,h⟩
theorem RT.bind{s:Sem α}{f:α->Sem β}{Q:β->World->Prop}(h:RT P s w λv w'=>RT P (f v) w' Q):RT P (s>>=f) w Q:=by
 obtain⟨v,w',h1,v2,w2,h2,h3⟩:=h;exact⟨v2,w2,by rw[Sem.run_bind,h1];exact h2,h3⟩
theorem RT.mono{s:Sem α}{Q Q':α->World->Prop}(h:RT P s w Q)(hq:∀v w',Q v w'->Q' v w'):RT P s w Q':=
 let⟨v,w',h1,h2⟩:=h;⟨v,w',h1,hq _ _ h2⟩
theorem RT.kN{s:Sem α}{v:α}{w':World}{Q:α->World->Prop}(h:s.run P w=.ok v w')(hq:Q v w'):RT P s w Q:=⟨v,w',h,hq⟩
theorem RT.underlying{t:TypeId}{d:TypeDesc}{Q:TypeDesc->World->Prop}(h:P.underlying t=some d)(hq:Q d w):RT P (Go.underlying t) w Q:=
 ⟨d,w,by simp[Go.underlying,h],hq⟩
theorem RT.typeInfo{t:TypeId}{i:TypeInfo}{Q:TypeInfo->World->Prop}(h:P.info? t=some i)(hq:Q i w):RT P (Go.typeInfo t) w Q:=
 ⟨i,w,by simp[Go.typeInfo,h],hq⟩
theorem RT.sizeOf{t:TypeId}{i:TypeInfo}{Q:Nat->World->Prop}(h:P.info? t=some i)(hq:Q i.size w):RT P (Go.sizeOf t) w Q:=
 .bind (.typeInfo h (.pure hq))
theorem RT.zeroValue{t:TypeId}{i:TypeInfo}{z:Value}{Q:Value->World->Prop}(h:P.info? t=some i)(hz:i.zero=some z)(hq:Q z w):RT P (Go.zeroValue t) w Q:=
 .bind (.typeInfo h (by rw[hz];exact .pure hq))
theorem RT.load{a:Addr}{v:Value}{Q:Value->World->Prop}(h:w.cell? a=some v)(hq:Q v w):RT P (Go.load a) w Q:=
 ⟨v,w,by simp[h],hq⟩
theorem RT.newObj{o:Obj}{Q:Nat->World->Prop}(hq:Q w.heap.size (w.alloc o)):RT P (Go.newObj o) w Q:=⟨_,_,rfl,hq⟩
theorem aK.one{v:Value}(h:aK v):v.oneCell'=true:=by cases v<;>simp_all[aK,Value.oneCell']
theorem aK.cells{v:Value}(h:aK v):v.cells= #[v]:=by cases v<;>simp_all[aK,Value.cells]
theorem RT.store{a:Addr}{v:Value}{f:Pr}{Q:Unit->World->Prop}(h:st a v f w)(hq:∀w',f w'->Q () w'):RT P (Go.store a v) w Q:=by
 obtain⟨h1,h2,h3,h4⟩:=h;obtain⟨u,hu⟩:=Option.isSome_iff_exists.1 h2;exact⟨(),_,by rw[run_store P w a v .plain h1.one];simp[hu,h3],hq _ h4⟩
theorem RT.storeCells{a:Addr}{f:Pr}{Q:Unit->World->Prop}:∀{l:LV} {i:Nat} {w:World},D1 a i l f w->(∀w',f w'->Q () w')->RT P (Go.storeCells a l i) w Q
 |[],_,_,h,hq=>.pure (hq _ h)
 |_::_,_,_,h,hq=>.bind (.store h λ_ h'=>RT.storeCells h' hq)
theorem RT.loadCellsFrom{a:Addr}{Q:Array Value->World->Prop}:∀{l:LV} {i n:Nat} {acc:Array Value},l.length=n->cc w a i l->Q (acc++l.toArray) w->RT P (Go.loadCellsFrom a i n acc) w Q
 |[],_,_,acc,rfl,_,hq=>.pure (by simpa using hq)
 |
  v::l,i,_,acc,rfl,h,hq=>by
  simp only[List.length_cons,Go.loadCellsFrom];exact .bind (.load h.1 (RT.loadCellsFrom rfl h.2 (by simpa using hq)))
theorem RT.loadCells{a:Addr}{Q:Array Value->World->Prop}{l:LV}{n:Nat}(hn:l.length=n)(h:cc w a 0 l)(hq:Q l.toArray w):RT P (Go.loadCells a n) w Q:=
 RT.loadCellsFrom hn h (by simpa using hq)
end
theorem oI:∀(l:List CS) (p:kD l),(j0 l p).length=l.length
 |[],_=>rfl
 |[_],_=>rfl
 |_::t::l,p=>by simp only[j0,List.length_cons,oI (t::l)]
section
variable(P:Program)
def LO(t:TypeId)(a:Addr)(k:Value->Pr):Pr:=
 opt (P.info? t) λi=>
  tf (cZ P t)
   (opt (aV P 10 t) λl=>nN (l.length=i.size) (aQ l a λp=>k (.agg (j0 l p).toArray)))
   (opt (aV P 1 t) λl=>opt (one? l) λc=>au c a λp=>k (bC c p))
def Wj(t:TypeId)(a:Addr)(v:Value)(k:Pr):Pr:=
 opt (P.info? t) λi=>
  tf (cZ P t)
   (fW v λcs=>nN (cs.size=i.size) (D1 a 0 cs.toList k))
   (nN (i.size=1) (st a v k))
def Sz(t:TypeId)(v:Value)(k:EV->Pr):Pr:=
 tf (cZ P t)
  (fW v λcs=>nw (.cells cs t) λr=>k (.val (.pointer (some ⟨r,0,none⟩))))
  (aP (aK v) (nw (.cells #[v] t) λr=>k (.val (.pointer (some ⟨r,0,none⟩)))))
end
section
variable{P:Program}{w:World}
theorem iS{t:TypeId}{d:TypeDesc}(h:P.underlying t=some d):(isAgg t).run P w=.ok (cZ P t) w:=by
 simp only[isAgg,Sem.run_bind,Go.underlying,run_program,Result.andThen_ok,h,Sem.run_pure,cZ];cases d<;>rfl
theorem gO{t:TypeId}{i:TypeInfo}(h:P.info? t=some i)(hc:cZ P t=true\/∃l,aV P 1 t=some l):∃d,P.underlying t=some d:=by
 cases hu:P.underlying t with
 |some d=>exact⟨d,rfl⟩
 |
  none=>
  rcases hc with hc|⟨l,hl⟩
  ·simp[cZ,hu]at hc
  ·simp[aV,hu]at hl
theorem RT.loadVar{t:TypeId}{a:Addr}{k:Value->Pr}{Q:Value->World->Prop}(h:LO P t a k w)(hq:∀v,k v w->Q v w):RT P (Go.loadVar t a) w Q:=by
 obtain⟨i,hi,h⟩:=ai h;rcases aI h with⟨nv,h⟩|⟨nv,h⟩
 ·obtain⟨l,hl,h⟩:=ai h
  obtain⟨hlen,p,hr,hk⟩:=cN h;obtain⟨d,hd⟩:=gO hi (.inl nv);refine .bind (.kN (iS hd) ?_);rw[nv,jd rfl];refine .bind (.sizeOf hi (.bind ?_));exact .loadCells (by rw[oI,hlen]) hr (.pure (hq _ hk))
 ·obtain⟨l,hl,h⟩:=ai h
  obtain⟨c,hc,p,hr,hk⟩:=ai h;obtain⟨d,hd⟩:=gO hi (.inr ⟨_,hl⟩);refine .bind (.kN (iS hd) ?_);rw[nv,jc Bool.false_ne_true];exact .load hr (hq _ hk)
theorem RT.Fa{t:TypeId}{a:Addr}{k:Value->Pr}(h:LO P t a k w):RT P (Go.loadVar t a) w k:=RT.loadVar h λ_ h=>h
theorem RT.storeVar{t:TypeId}{a:Addr}{v:Value}{k:Pr}{Q:Unit->World->Prop}(h:Wj P t a v k w)(hq:∀w',k w'->Q () w'):RT P (Go.storeVar t a v) w Q:=by
 obtain⟨i,hi,h⟩:=ai h;rcases aI h with⟨nv,h⟩|⟨nv,h⟩
 ·obtain⟨cs,rfl,h⟩:=gm h
  obtain⟨hlen,h⟩:=cN h;refine .bind (.sizeOf hi ?_);simp only[Value.cells,hlen,ne_eq,not_true_eq_false,if_false];exact .storeCells h hq
 ·obtain⟨hs,h⟩:=cN h
  refine .bind (.sizeOf hi ?_);simp only[h.1.cells,hs,List.size_toArray,List.length_cons,List.length_nil,ne_eq,not_true_eq_false,if_false];exact .storeCells (l:=[v]) (i:=0) (by simpa[D1,Addr.add]using h) hq
theorem RT.newVar{t:TypeId}{v:Value}{k:EV->Pr}{Q:Addr->World->Prop}(h:Sz P t v k w)(hq:∀a w',k (.val (.pointer (some a))) w'->Q a w'):RT P (Go.newVar t v) w Q:=by
 unfold Go.newVar Go.newRow;rcases aI h with⟨nv,h⟩|⟨nv,h⟩
 ·obtain⟨cs,rfl,h⟩:=gm h
  exact .bind (.newObj (.pure (hq _ _ h)))
 ·obtain⟨h1,h2⟩:=h
  rw[h1.cells];exact .bind (.newObj (.pure (hq _ _ h2)))
end
def slc(n:Nat)(s:Sl)(lo hi mx:Option Int)(k:Sl->Pr):Pr:=λw=>
 (∀m,mx=some m->0<=m/\m<=(s.cap:Int))/\
 (mx.isSome=true->hi.isSome=true)/\
 (∀h,hi=some h->0<=h/\h<=((mx.map Int.toNat).getD s.cap:Int))/\
 (∀l,lo=some l->0<=l/\l<=((hi.map Int.toNat).getD s.len:Int))/\
 k ⟨
  if(mx.map Int.toNat).getD s.cap=(lo.map Int.toNat).getD 0 then s.a else s.a.map (·.add ((lo.map Int.toNat).getD 0*n)),
  (hi.map Int.toNat).getD s.len-(lo.map Int.toNat).getD 0,(mx.map Int.toNat).getD s.cap-(lo.map Int.toNat).getD 0⟩ w
def nO(s:ByteArray)(lo hi:Option Int)(k:ByteArray->Pr):Pr:=λw=>
 (∀h,hi=some h->0<=h/\h<=(s.size:Int))/\
 (∀l,lo=some l->0<=l/\l<=((hi.map Int.toNat).getD s.size:Int))/\
 k (s.extract ((lo.map Int.toNat).getD 0) ((hi.map Int.toNat).getD s.size)) w
def bn(w:World)(a:OA)(vs:LV):Prop:=
 match a with
 |some b=>cc w b 0 vs
 |none=>vs=[]
def HI(a:OA)(off:Nat)(vs:LV)(k:Pr):Pr:=
 match a with
 |some b=>D1 (b.add off) 0 vs k
 |none=>k
def Wk(n:Nat)(d s:Sl)(k:Pr):Pr:=λw=>
 ∃vs:LV,(s.a.isSome=true->vs.length=Nat.min s.len d.len*n)/\bn w s.a vs/\HI d.a 0 vs k w
def zc(z:LV)(n:Nat):LV:=(List.replicate n z).flatten
def SA(z:LV)(s:Sl)(k:Pr):Pr:=HI (if s.len=0 then none else s.a) 0 (zc z s.len) k
def app(E:TypeId)(n b:Nat)(z:LV)(s x:Sl)(k:Sl->Pr):Pr:=λw=>
 ∃
  new:LV,(x.a.isSome=true->new.length=x.len*n)/\bn w x.a new/\
  (s.len+x.len<=s.cap->HI s.a (s.len*n) new (k ⟨s.a,s.len+x.len,s.cap⟩) w)/\
  (s.cap<s.len+x.len->∃old:LV,(s.a.isSome=true->old.length=s.len*n)/\bn w s.a old/\(b≠0)/\
    (Builtin.nextslicecap (s.len+x.len) s.cap*b<=2^48)/\(s.len+x.len<2^63)/\
    ∀
     cap,s.len+x.len<=cap->cap<2^63->
     k ⟨some ⟨w.heap.size,0,none⟩,s.len+x.len,cap⟩ (w.drew.alloc (.cells (old++new++zc z (cap-(s.len+x.len))).toArray E)))
def GU(x:ByteArray):LV:=x.data.toList.map λb=>.int .u8 b.toNat
def
 ct(E:TypeId)(n b:Nat)(z:LV)(s:Sl)(x:ByteArray)(k:Sl->Pr):Pr:=λw=>
 (s.len+x.size<=s.cap->HI s.a (s.len*n) (GU x) (k ⟨s.a,s.len+x.size,s.cap⟩) w)/\
 (s.cap<s.len+x.size->∃old:LV,(s.a.isSome=true->old.length=s.len*n)/\bn w s.a old/\(b≠0)/\
   (Builtin.nextslicecap (s.len+x.size) s.cap*b<=2^48)/\(s.len+x.size<2^63)/\
   ∀
    cap,s.len+x.size<=cap->cap<2^63->
    k ⟨some ⟨w.heap.size,0,none⟩,s.len+x.size,cap⟩ (w.drew.alloc (.cells (old++GU x++zc z (cap-(s.len+x.size))).toArray E)))
def Fi(E:TypeId)(n b:Nat)(z:LV)(s:Sl)(m:Int)(k:Sl->Pr):Pr:=λw=>
 0
  <=m/\m*(b:Int)<=2^48/\IntKind.wrap .i64 m=m/\
  (s.len+m.toNat<=s.cap->HI s.a (s.len*n) (zc z m.toNat) (k ⟨s.a,s.len+m.toNat,s.cap⟩) w)/\
  (s.cap<s.len+m.toNat->∃old:LV,(s.a.isSome=true->old.length=s.len*n)/\bn w s.a old/\
    (Builtin.nextslicecap (s.len+m.toNat) s.cap*b<=2^48)/\(s.len+m.toNat<2^63)/\
    ∀
     cap,s.len+m.toNat<=cap->cap<2^63->
     k ⟨some ⟨w.heap.size,0,none⟩,s.len+m.toNat,cap⟩ (w.drew.alloc (.cells (old++zc z m.toNat++zc z (cap-(s.len+m.toNat))).toArray E)))
def AQ(E:TypeId)(b:Nat)(z:LV)(l c:Int)(k:Sl->Pr):Pr:=λw=>
 0
  <=l/\l<=c/\(b:Int)*c<=2^48/\c<2^63/\
  k ⟨some ⟨w.heap.size,0,none⟩,l.toNat,c.toNat⟩ (w.alloc (.cells (zc z c.toNat).toArray E))
def wB(w:World)(r:Option Nat)(es:Array MapEntry):Prop:=
 match r with
 |none=>es= #[]
 |some b=>∃clock,w.heap[b]? =some (.map es clock)
def gd(kd:TypeDesc)(r:Option Nat)(key:Value)(sh:CS)(zero:Value)(k:dw sh->Bool->Pr):Pr:=λw=>
 ∃es res p,wB w r es/\Instr.findNow kd key es.toList 0=some res/\((res.map (·.2)).getD zero)=bC sh p/\k p res.isSome w
def ej(kd:TypeDesc)(r:Option Nat)(key v:Value)(k:Pr):Pr:=λw=>
 ∃
  b es clock res,r=some b/\w.heap[b]? =some (.map es clock)/\Instr.findNow kd key es.toList 0=some res/\
  match res with
  |some (i,_)=>Instr.sameBits 10000 (((es[i]?).map (·.key)).getD key) key=true/\
    k {w with heap:=w.heap.setIfInBounds b (.map (es.modify i λe=>{e with key,val:=v}) clock)}
  |none=>k {w with heap:=w.heap.setIfInBounds b (.map (es.push {key,val:=v,born:=clock}) (clock+1))}
def tX(kd:TypeDesc)(r:Option Nat)(key:Value)(k:Pr):Pr:=λw=>
 ∃
  b es clock res,r=some b/\w.heap[b]? =some (.map es clock)/\Instr.findNow kd key es.toList 0=some res/\
  k {w with heap:=w.heap.setIfInBounds b (.map (match res with|some (i,_)=>es.eraseIdxIfInBounds i|none=>es) clock)}
def nP(r:Option Nat)(k:Int->Pr):Pr:=λw=>∃es,wB w r es/\k es.size w
def qK(r:Option Nat)(k:Nat->Pr):Pr:=λw=>
 match r with
 |none=>k w.heap.size (w.alloc (.mapIter none 0 #[] 0))
 |some m=>∃es clock,w.heap[m]? =some (.map es clock)/\k w.heap.size (w.alloc (.mapIter (some m) clock #[] clock))
def AR(a:Addr)(k0:Pr)(k1:MapEntry->Pr):Pr:=λw=>a.off=0/\
 (
  (∃c f d,w.heap[a.block]? =some (.mapIter none c f d)/\k0 w)\/
  ∃
   m since seen last es clock,w.heap[a.block]? =some (.mapIter (some m) since seen last)/\w.heap[m]? =some (.map es clock)/\
   (!seen.isEmpty&& !es.isEmpty&&es.all (·.born>=last))=false/\
   ∀
    w1,(w1=w\/w1=w.drew)->
    ((∀e∈es.toList,e.born<since->seen.contains e.born=true)->k0 w1)/\
    ∀e∈es.toList,seen.contains e.born=false->k1 e {w1 with heap:=w1.heap.setIfInBounds a.block (.mapIter (some m) since (seen.push e.born) clock)})
def tY(a:Addr)(k:MapEntry->Pr):Pr:=λw=>a.off=0/\
 ∃
  m since seen stepped es clock stamp e,w.heap[a.block]? =some (.mapIter (some m) since seen stepped)/\seen.back? =some stamp/\w.heap[m]? =some (.map es clock)/\
  clock=stepped/\es.find? (·.born==stamp)=some e/\k e w
def b6:TypeDesc->Bool
 |.int _|.string|.bool=>true
 |_=>false
def yS(s:Sl)(k:ByteArray->Pr):Pr:=λw=>
 ∃l:List Int,(s.a.isSome=true->l.length=s.len)/\bn w s.a (l.map (.int .u8))/\k ⟨(l.map λn=>UInt8.ofNat n.toNat).toArray⟩ w
def pY(s:ByteArray)(cap:Nat):Array Value:=(s.data.map λb=>Value.int .u8 b.toNat)++Array.replicate (cap-s.size) (.int .u8 0)
def Ao(a:Addr)(k:Pr):Pr:=λw=>∃E n,w.shape? a.block=some (E,n)/\k (w.freeze ⟨a.block,n,none⟩ 1)
def JV(E:TypeId)(s:ByteArray)(k:Sl->Pr):Pr:=λw=>
 s.size<2^63/\∀cap,s.size<=cap->cap<2^63->
  k ⟨some ⟨w.heap.size,0,none⟩,s.size,cap⟩ ((w.drew.alloc (.cells (pY s cap) E)).freeze ⟨w.heap.size,(pY s cap).size,none⟩ 1)
def tE(s:ByteArray)(k:Nat->Pr):Pr:=λw=>k w.heap.size (w.alloc (.stringIter s 0))
def Fj(a:Addr)(k0:Pr)(k1:Nat->Nat->Pr):Pr:=λw=>a.off=0/\∃s pos,w.heap[a.block]? =some (.stringIter s pos)/\
 (¬pos<s.size->k0 w)/\(pos<s.size->k1 pos (Utf8.decode s pos).1 (w.putObj a.block (.stringIter s (pos+(Utf8.decode s pos).2))))
def ey(P:Program)(f:FuncId):Bool:=
 match P.funcs[f]?with
 |some fn=>fn.body.isSome&& !(fn.name== "runtime.NumGoroutine")
 |none=>false
def aC(aU:List Sh)(k:b9 aU->Pr):Ending->World->Prop:=λe w=>∃p:b9 aU,e=.returned (dM aU p)/\k p w
def iL(q:List PanicEntry->Pr)(aU:List Sh)(k:b9 aU->Pr):Ending->World->Prop:=λe w=>aC aU k e w\/∃ch,e=.panicked ch/\q ch w
def bf(P:Program)(q:List PanicEntry->Pr)(f:FuncId)(args:LV)(aU:List Sh)(k:b9 aU->Pr):Pr:=λw=>Calls P f args.toArray w (iL q aU k)
def aH(P:Program)(f:FuncId)(args:LV)(aU:List Sh)(k:b9 aU->Pr):Pr:=λw=>Calls P f args.toArray w (aC aU k)
def fP(P:Program)(f:FuncId)(args:LV)(aU:List Sh)(k:b9 aU->Pr):Pr:=λw=>
 ∃p w',(callFunc f args.toArray).run P w=.ok (.value (dM aU p)) w'/\k p w'
def cE(P:Program)(v:Value)(args:LV)(aU:List Sh)(k:b9 aU->Pr):Pr:=λw=>
 (∃f first caps,v=.func (.func f) first caps/\ey P f=true/\Calls P f (first++args.toArray++caps) w (aC aU k))\/
 (∃l caps,v=.func (.yield l) #[] caps/\YieldAt Fence.wide 0 P l args.toArray w (aC aU k))
def L9(v:Value):Prop:=
 match v with
 |.func (.func _) _ _=>True
 |.func (.yield _) _ _=>True
 |_=>False
def Bz(x y:Int):Int:=if y<x then y else x
def imax(x y:Int):Int:=if y>x then y else x
def iw(v:Value)(f:Int->Pr):Pr:=
 match v with
 |.int _ n=>f n
 |_=>bK
theorem eX{v:Value}{f:Int->Pr}{w:World}(h:iw v f w):∃k n,v=.int k n/\f n w:=by
 cases v with
 |int k n=>exact⟨k,n,rfl,h⟩
 |_=>exact h.elim
def J5(x:Option EV)(f:Option Int->Pr):Pr:=
 match x with
 |none=>f none
 |some e=>nd e λv=>iw v λn=>f (some n)
def kE(v:Value)(f:Addr->Pr):Pr:=
 match v with
 |.pointer p=>deref p f
 |_=>bK
theorem eM{v:Value}{f:Addr->Pr}{w:World}(h:kE v f w):∃a,v=.pointer (some a)/\f a w:=by
 cases v with
 |pointer p=>obtain⟨a,rfl,h1⟩:=dW.1 (show deref p f w from h);exact⟨a,rfl,h1⟩
 |_=>exact h.elim
def YD(v:Value)(f:Sl->Pr):Pr:=
 match v with
 |.slice a l c=>f ⟨a,l,c⟩
 |_=>bK
def Kh(v:Value)(f:ByteArray->Pr):Pr:=
 match v with
 |.string s=>f s
 |_=>bK
theorem wQ{v:Value}{f:ByteArray->Pr}{w:World}(h:Kh v f w):∃s,v=.string s/\f s w:=by
 cases v with
 |string s=>exact⟨s,rfl,h⟩
 |_=>exact h.elim
def qn(P:Program)(t:TypeId):Bool:=
 match P.underlying t with
 |some .string=>true
 |_=>false
theorem jI{P:Program}{t:TypeId}(h:qn P t=true):P.underlying t=some .string:=by
 unfold qn at h;split at h
 ·assumption
 ·cases h
def ox(v:Value)(f:Option Nat->Pr):Pr:=
 match v with
 |.map r=>f r
 |_=>bK
theorem hO{v:Value}{f:Option Nat->Pr}{w:World}(h:ox v f w):∃r,v=.map r/\f r w:=by
 cases v with
 |map r=>exact⟨r,rfl,h⟩
 |_=>exact h.elim
def Ma:Value->Bool
 |.nilFunc=>true
 |_=>false
def Ki:Operand->Bool
 |.const _=>true
 |_=>false
def OB(P:Program)(t:TypeId):Bool:=
 match P.underlying t with
 |
  some (.pointer el)=>(match P.info? el with
  |some i=> !(i.size==0)
  |none=>false)
 |_=>false
def Io(P:Program)(t:TypeId)(x y:Operand):Bool:= !Ki x&& !Ki y&&OB P t
def qk(u v:Value)(f:Bool->Pr):Pr:=
 match u,v with
 |.pointer p,.pointer q=>aP (∀a b,p=some a->q=some b->a.block=b.block) (f (p==q))
 |_,_=>bK
def zg(d:TypeDesc)(x y:Value):Option (Prop×Bool):=
 match d,x,y with
 |.bool,.bool a,.bool b=>some (True,a==b)
 |.pointer _,.pointer p,.pointer none=>some (True,p.isNone)
 |.pointer _,.pointer none,.pointer q=>some (True,q.isNone)
 |.slice _,.slice a _ _,.slice none _ _=>some (True,a.isNone)
 |.map _ _,.map r,.map none=>some (True,r.isNone)
 |.func _ _ _,v,.nilFunc=>some (L9 v\/v=.nilFunc,Ma v)
 |_,_,_=>none
def LP(P:Program)(t:TypeId)(x y:Value)(f:Bool->Pr):Pr:=
 opt (P.underlying t) λd=>opt (zg d x y) λr=>aP r.1 (f r.2)
def OC(d:TypeDesc)(x y:Value):Option Bool:=
 match d,x,y with
 |.bool,.bool a,.bool b=>some (a==b)
 |.int _,.int k a,.int k' b=>if k=k' then some (a==b)else none
 |.string,.string a,.string b=>some (a.toList==b.toList)
 |_,_,_=>none
def Kj(a b:String):Bool:=decide (a=b)
def eU(P:Program)(t:TypeId):Option (Array Field):=
 match P.underlying t with
 |some (.struct fs)=>some fs
 |_=>none
def Kk(g:TypeId->LV->LV->Option Bool)(xs ys:LV):List Field->Option Bool
 |[]=>some true
 |
  f::l=>
  match Kj f.name "_",g f.type (xs.drop f.offset) (ys.drop f.offset),Kk g xs ys l with
  |false,some b,some c=>some (b&&c)
  |_,_,_=>none
def tZ(P:Program)(t:TypeId)(us vs:LV):Option Bool:=
 match P.underlying t,us.head?,vs.head? with
 |some d,some u,some v=>OC d u v
 |_,_,_=>none
def OD(P:Program):Nat->TypeId->LV->LV->Option Bool
 |0,t,us,vs=>tZ P t us vs
 |
  m+1,t,us,vs=>
  match eU P t,P.info? t,P.stoodInHeld t with
  |some fs,some i,false=>Kk (OD P m) (us.take i.size) (vs.take i.size) fs.toList
  |some _,_,_=>none
  |none,_,_=>tZ P t us vs
def ER(P:Program)(xs ys:LV)(fs:List Field):Option Bool:=Kk (OD P 2) xs ys fs
def AF(P:Program)(t:TypeId)(u v:Value):Option Bool:=
 match eU P t,u,v with
 |some fs,.agg xs,.agg ys=>ER P xs.toList ys.toList fs.toList
 |_,_,_=>none
def wR(P:Program):List Field->Bool
 |[]=>true
 |f::l=>(match P.underlying f.type with|some d=>b6 d|none=>false)&&wR P l
def lM(P:Program)(t:TypeId):Bool:=
 match eU P t with
 |some fs=>wR P fs.toList&& !P.stoodInHeld t
 |none=>false
def oJ(g:Value->Value->Option Bool)(k:Value):List MapEntry->Nat->Option (Option (Nat×Value))
 |[],_=>some none
 |
  e::es,i=>
  match g k e.key with
  |some true=>some (some (i,e.val))
  |some false=>oJ g k es (i+1)
  |none=>none
def lI(g:Value->Value->Option Bool)(r:Option Nat)(key:Value)(sh:CS)(zero:Value)(k:dw sh->Bool->Pr):Pr:=λw=>
 ∃es res p,wB w r es/\g key key=some true/\oJ g key es.toList 0=some res/\((res.map (·.2)).getD zero)=bC sh p/\k p res.isSome w
def AS(g:Value->Value->Option Bool)(r:Option Nat)(key v:Value)(k:Pr):Pr:=λw=>
 ∃
  b es clock res,r=some b/\w.heap[b]? =some (.map es clock)/\g key key=some true/\oJ g key es.toList 0=some res/\
  match res with
  |some (i,_)=>Instr.sameBits 10000 (((es[i]?).map (·.key)).getD key) key=true/\
    k {w with heap:=w.heap.setIfInBounds b (.map (es.modify i λe=>{e with key,val:=v}) clock)}
  |none=>k {w with heap:=w.heap.setIfInBounds b (.map (es.push {key,val:=v,born:=clock}) (clock+1))}
def tI(u v:Value)(f:LV->LV->Pr):Pr:=
 match u,v with
 |.agg xs,.agg ys=>f xs.toList ys.toList
 |_,_=>bK
theorem jH{u v:Value}{f:LV->LV->Pr}{w:World}(h:tI u v f w):∃xs ys,u=.agg xs/\v=.agg ys/\f xs.toList ys.toList w:=by
 unfold tI at h;split at h
 ·exact⟨_,_,rfl,rfl,h⟩
 ·exact h.elim
def wv(P:Program)(t:TypeId)(fs:Array Field)(u v:Value)(f:Bool->Pr):Pr:=
 tf (P.eqGuardType P.depth t||P.stoodInHeld t) bK (tI u v λxs ys=>opt (ER P xs ys fs.toList) f)
def oQ(P:Program)(u v:Value)(f:Bool->Pr):Pr:=λw=>
 ∃tx x ty y,u=.iface tx x/\v=.iface ty y/\∃b,((tx≠ty/\b=false)\/(tx=ty/\∃i k a c,P.info? tx=some i/\i.comparable=true/\P.underlying tx=some (.int k)/\x=.int k a/\y=.int k c/\b=(a==c)))/\f b w
def pC(P:Program)(s:TypeId)(i:Nat):Option Field:=
 match P.underlying s with
 |some (.struct fs)=>fs[i]?
 |_=>none
def bk(P:Program)(t:TypeId):Option TypeId:=
 match P.underlying t with
 |some (.slice e)=>some e
 |_=>none
def mapElem(P:Program)(t:TypeId):Option (TypeId×TypeId):=
 match P.underlying t with
 |some (.map k e)=>some (k,e)
 |_=>none
def oK(place:Nat->Option (Nat×Nat)):LV->List (Nat×Value)->Option (LV)
 |cells,[]=>some cells
 |
  cells,(i,v)::rest=>
  match place i with
  |none=>none
  |
   some (off,size)=>
   match v with
   |.agg cs=>if cs.size=size/\off+size<=cells.length then oK place (cells.take off++cs.toList++cells.drop (off+size)) rest else none
   |v=>if size=1/\off+1<=cells.length then oK place (cells.set off v) rest else none
def na(v:Value)(k:Pr):Pr:=
 match v with
 |.agg _=>bK
 |_=>k
theorem Fk{v:Value}{k:Pr}{w:World}(h:na v k w):(∀cs,v≠.agg cs)/\k w:=by
 cases v<;>first|exact h.elim|exact⟨λcs=>by simp,h⟩
def fR(agg:Nat->Bool)(place:Nat->Option (Nat×Nat)):LV->List (Nat×Value)->(LV->Pr)->Pr
 |cells,[],f=>f cells
 |cells,(i,v)::rest,f=>opt (place i) λos=>tf (agg i)
   (fW v λcs=>nN (cs.size=os.2/\os.1+os.2<=cells.length) (fR agg place (cells.take os.1++cs.toList++cells.drop (os.1+os.2)) rest f))
   (na v (nN (os.2=1/\os.1+1<=cells.length) (fR agg place (cells.set os.1 v) rest f)))
theorem fT{agg:Nat->Bool}{place:Nat->Option (Nat×Nat)}{w:World}:∀{ps:List (Nat×Value)} {cells:LV} {f:LV->Pr},fR agg place cells ps f w->∃out,oK place cells ps=some out/\f out w
 |[],cells,f,h=>⟨cells,rfl,h⟩
 |
  (i,v)::ps,cells,f,h=>by
  simp only[fR]at h;obtain⟨⟨off,size⟩,hp,h⟩:=ai h;simp only[oK,hp];rcases aI h with⟨_,h⟩|⟨_,h⟩
  ·obtain⟨cs,rfl,h⟩:=gm h
   obtain⟨hc,h⟩:=cN h;obtain⟨out,ho,h⟩:=fT h;exact⟨out,by dsimp only;rw[jd hc];exact ho,h⟩
  ·obtain⟨hv,h⟩:=Fk h
   obtain⟨hc,h⟩:=cN h;obtain⟨out,ho,h⟩:=fT h;refine⟨out,?_,h⟩;cases v<;>first|exact absurd rfl (hv _)|(dsimp only;rw[jd hc];exact ho)
def hH(e:Env):List (Nat×Operand)->(List (Nat×Value)->Pr)->Pr
 |[],f=>f []
 |(i,x)::l,f=>nd (Env.ev e x) λv=>hH e l λvs=>f ((i,v)::vs)
def placesOf(P:Program):List Field->Option (List (Nat×Nat))
 |[]=>some []
 |
  f::l=>match P.info? f.type,placesOf P l with
  |some i,some r=>some ((f.offset,i.size)::r)
  |_,_=>none
def zeroOf(P:Program)(t:TypeId):Option Value:=
 match P.info? t with
 |some i=>i.zero
 |none=>none
def qL(P:Program)(t:TypeId):Option (List Sh):=
 match P.underlying t with
 |some (.tuple ts)=>Kg P ts.toList
 |some _=>match L8 P t with|some s=>some [s]|none=>none
 |none=>none
def rA:LV->(Value->Pr)->Pr
 |[.int k x,.int _ y],f=>f (.int k (Bz x y))
 |[.int k x,.int _ y,.int _ z],f=>f (.int k (Bz (Bz x y) z))
 |_,_=>bK
def rB:LV->(Value->Pr)->Pr
 |[.int k x,.int _ y],f=>f (.int k (imax x y))
 |[.int k x,.int _ y,.int _ z],f=>f (.int k (imax (imax x y) z))
 |_,_=>bK
def fX(P:Program)(t:TypeId):Bool:=
 match P.underlying t with
 |some (.int _)=>true
 |_=>false
def dx(P:Program)(b:Builtin)(ts:List TypeId)(args:LV)(k:EV->Pr):Pr:=
 match b,args with
 |.len,[.slice _ n _]=>opt (ts[0]?) λt=>opt (bk P t) λ_=>k (.val (.int .i64 n))
 |.len,[.string s]=>opt (ts[0]?) λt=>opt (P.underlying t) λd=>match d with|.string=>k (.val (.int .i64 s.size))|_=>bK
 |.len,[.map r]=>opt (ts[0]?) λt=>opt (mapElem P t) λ_=>nP r λn=>k (.val (.int .i64 n))
 |.cap,[.slice _ _ n]=>opt (ts[0]?) λt=>opt (bk P t) λ_=>k (.val (.int .i64 n))
 |.min,l=>rA l λv=>k (.val v)
 |.max,l=>rB l λv=>k (.val v)
 |.copy,[.slice da dl dc,.slice sa sl sc]=>opt (ts[0]?) λt=>opt (bk P t) λel=>opt (P.info? el) λi=>
   Wk i.size ⟨da,dl,dc⟩ ⟨sa,sl,sc⟩ (k (.val (.int .i64 (Nat.min sl dl:Nat))))
 |.clear,[.slice a l c]=>opt (ts[0]?) λt=>opt (bk P t) λel=>opt (P.info? el) λi=>opt i.zero λz=>SA z.cells.toList ⟨a,l,c⟩ (k (.val (.tuple #[])))
 |.append,[.slice da dl dc,.slice sa sl sc]=>opt (ts[0]?) λt=>opt (ts[1]?) λt2=>tf (fX P t2) bK<|opt (P.underlying t2) λ_=>opt (bk P t) λel=>opt (P.info? el) λi=>opt i.zero λz=>
   nN (z.cells.size=i.size) (app el i.size i.bytes z.cells.toList ⟨da,dl,dc⟩ ⟨sa,sl,sc⟩ λs=>k (.val (.slice s.a s.len s.cap)))
 |.append,[.slice da dl dc,.string x]=>opt (ts[0]?) λt=>opt (ts[1]?) λt2=>tf (fX P t2) bK<|opt (P.underlying t2) λ_=>opt (bk P t) λel=>opt (P.info? el) λi=>opt i.zero λz=>
   nN (z.cells.size=i.size) (ct el i.size i.bytes z.cells.toList ⟨da,dl,dc⟩ x λs=>k (.val (.slice s.a s.len s.cap)))
 |.append,[.slice da dl dc,.int _ m]=>opt (ts[0]?) λt=>opt (ts[1]?) λt2=>tf (fX P t2) (opt (bk P t) λel=>opt (P.info? el) λi=>opt i.zero λz=>
   nN (z.cells.size=i.size) (Fi el i.size i.bytes z.cells.toList ⟨da,dl,dc⟩ m λs=>k (.val (.slice s.a s.len s.cap)))) bK
 |.delete,[.map r,key]=>opt (ts[0]?) λt=>opt (mapElem P t) λke=>opt (P.underlying ke.1) λkd=>tf (b6 kd) (tX kd r key (k (.val (.tuple #[])))) bK
 |_,_=>bK
def oy(P:Program)(src dst:TypeId)(x:Value)(k:EV->Pr):Pr:=
 opt (P.underlying src) λs=>opt (P.underlying dst) λd=>
  match s,d,x with
  |.int _,.int kd,.int _ n=>k (.val (.int kd (kd.wrap n)))
  |.string,.string,.string b=>k (.val (.string b))
  |.slice _,.slice e,.slice a l c=>tf (src==dst) (opt (P.underlying e) λu=>match u with|.int .u8=>deref a λad=>Ao ad (k (.val (.slice (some ad) l c)))|_=>bK) bK
  |.string,.slice e,.string s=>opt (P.underlying e) λu=>match u with|.int .u8=>JV e s λr=>k (.val (.slice r.a r.len r.cap))|_=>bK
  |.slice e,.string,.slice a l c=>opt (P.underlying e) λu=>match u with|.int .u8=>yS ⟨a,l,c⟩ λb=>k (.val (.string b))|_=>bK
  |_,_,_=>bK
def Ig(op:UnOp)(x:EV)(k:EV->Pr):Pr:=
 match op,x with
 |.not,.lit b=>k (.lit (!b))
 |.not,.val (.bool b)=>k (.val (.bool !b))
 |.neg,.val (.int kd n)=>k (.val (.int kd (kd.wrap (0-n))))
 |.xor,.val (.int kd n)=>k (.val (.int kd (ny kd (if kd.signed then-1 else kd.max) n)))
 |_,_=>bK
def Dj(x:EV)(y z:Pr):Pr:=
 match x with
 |.lit true=>y
 |.lit false=>z
 |.val (.bool b)=>br b y z
 |_=>bK
theorem nR{x:EV}{y z:Pr}{w:World}(h:Dj x y z w):∃b,x.v? =some (.bool b)/\((b=true/\y w)\/(b=false/\z w)):=by
 unfold Dj at h;split at h
 ·exact⟨true,rfl,.inl ⟨rfl,h⟩⟩
 ·exact⟨false,rfl,.inr ⟨rfl,h⟩⟩
 ·rename_i b
  refine⟨b,rfl,?_⟩;unfold br at h;cases b with
  |true=>exact .inl ⟨rfl,by simpa using h⟩
  |false=>exact .inr ⟨rfl,by simpa using h⟩
 ·exact h.elim
def EU(e:Env)(c a b:Operand)(k:EV->Pr):Pr:=
 Dj (Env.ev e c) (nd (Env.ev e a) λ_=>k (Env.ev e a)) (nd (Env.ev e b) λ_=>k (Env.ev e b))
def tL(v u:Value):Bool:=
 match v,u with
 |.int _ _,.int _ _=>true
 |.string _,.string _=>true
 |_,_=>false
def wu(op:BinOp)(f:Bool->Pr):Pr:=
 match op with
 |.eql=>f false
 |.neq=>f true
 |_=>bK
def Ip(s:CS)(v:Value)(f:dw s->Pr):Pr:=λw=>∃p,v=bC s p/\f p w
def oz(P:Program)(t:TypeId)(f:CS->Pr):Pr:=opt (aV P 1 t) λl=>opt (one? l) f
def SB(P:Program)(ty:TypeId)(x:EV)(ix:Nat)(k:EV->Pr):Pr:=
 match x with
 |
  .xB=>(match ix with
  |0=>k (.lit false)
  |_=>bK)
 |
  .xC a b=>(match ix with
  |0=>k (.lit true)
  |1=>k (.val a)
  |2=>k (.val b)
  |_=>bK)
 |
  .yP a b=>(match ix with
  |0=>oz P ty λs=>Ip s a λp=>k (.val (bC s p))
  |1=>oz P ty λs=>Ip s b λp=>k (.val (bC s p))
  |_=>bK)
 |
  x=>nd x λv=>match v with
  |.tuple vs=>opt (vs[ix]?) λx=>k (.val x)
  |_=>bK
def EW:Operand->Bool
 |.const .nilIface=>true
 |_=>false
def orElse{α:Type}(x:Option α)(f:α->Pr)(y:Pr):Pr:=
 match x with
 |some a=>f a
 |none=>y
theorem gk{α:Type}{x:Option α}{f:α->Pr}{y:Pr}{w:World}(h:orElse x f y w):(∃a,x=some a/\f a w)\/(x=none/\y w):=by
 cases x with
 |some a=>exact .inl ⟨a,rfl,h⟩
 |none=>exact .inr ⟨rfl,h⟩
def yW(P:Program)(t:TypeId):Bool:=
 match P.underlying t with
 |some (.interface _)=>true
 |_=>false
def tG(P:Program)(t:TypeId)(u v:Value)(f:Bool->Pr):Pr:=orElse (eU P t) (λfs=>wv P t fs u v f)<|LP P t u v f
def tK:Value->Prop
 |.nilIface=>True
 |.iface _ _=>True
 |_=>False
def cg:Value->Bool
 |.nilIface=>true
 |_=>false
def oB:TypeDesc->Bool
 |.interface _=>true
 |_=>false
def Wl(T:TypeId)(sh:Sh)(z v:Value)(ok:Bool)(k:J4 sh->Bool->Pr):Pr:=λw=>
 ∃p b,((b=true/\v=.iface T (val sh p))\/(ok=true/\b=false/\val sh p=z/\(v=.nilIface\/∃t u,v=.iface t u/\t≠T)))/\k p b w
def Fl:TypeDesc->Option (Array (String×TypeId))
 |.interface want=>some want
 |_=>none
def H6(P:Program)(want:Array (String×TypeId))(v:Value)(ok:Bool)(k:Bool->Pr):Pr:=λw=>
 ∃
  b,((b=true/\∃t u i,v=.iface t u/\P.info? t=some i/\Instr.missingMethod want i.methods=none)\/
  (ok=true/\b=false/\(v=.nilIface\/∃t u i m,v=.iface t u/\P.info? t=some i/\Instr.missingMethod want i.methods=some m)))/\k b w
def cY(P:Program)(v:Value)(name:String)(args:LV)(aU:List Sh)(k:b9 aU->Pr):Pr:=λw=>
 ∃
  t u f recv,v=.iface t u/\(method (P.types.size+Made.depth) t u name).run P w=.ok (f,recv) w/\((ey P f=true/\Calls P f (#[recv]++args.toArray) w (aC aU k))\/
  ∃p w',(callFunc f (#[recv]++args.toArray)).run P w=.ok (.value (dM aU p)) w'/\k p w')
def cop(P:Program)(o:Oper)(e:Env)(k:EV->Pr):Pr:=
 match o.op with
 |.move x|.assign x=>nd (Env.ev e x) λ_=>k (Env.ev e x)
 |.pick c a b=>EU e c a b k
 |.alloc t=>opt (zeroOf P t) λz=>Sz P t z k
 |.box t x=>nd (Env.ev e x) λv=>Sz P t v k
 |.build t parts=>opt (zeroOf P t) λz=>hH e parts.toList λps=>
   opt (P.underlying t) λd=>match d with
    |.struct fs=>opt (placesOf P fs.toList) λpl=>fR (λj=>match fs[j]?with|some fl=>cZ P fl.type|none=>false) (pl[·]?) z.cells.toList ps λcs=>k (.val (.agg cs.toArray))
    |.array _ el=>opt (P.info? el) λi=>fR (λ_=>cZ P el) (λj=>some (j*i.size,i.size)) z.cells.toList ps λcs=>k (.val (.agg cs.toArray))
    |_=>bK
 |.buildSlice t len parts=>hH e parts.toList λps=>
   opt (bk P t) λel=>opt (P.info? el) λi=>opt i.zero λz=>nN (z.cells.size=i.size/\i.size≠0/\len*i.size<=2^24)
    (fR (λ_=>cZ P el) (λj=>some (j*i.size,i.size)) (zc z.cells.toList len) ps λcs=>
      nw (.cells cs.toArray el) λr=>k (.val (.slice (some ⟨r,0,none⟩) len len)))
 |.load t a=>nd (Env.ev e a) λp=>kE p λad=>LO P t ad λv=>k (.val v)
 |.store t a x=>nd (Env.ev e a) λp=>kE p λad=>nd (Env.ev e x) λv=>Wj P t ad v (k .no)
 |.nilCheck x=>nd (Env.ev e x) λv=>match v with
   |.pointer p=>deref p λad=>k (.val (.pointer (some ad)))
   |.func fn a b=>aP (L9 (.func fn a b)) (k (.val (.func fn a b)))
   |.int _ _|.bool _|.string _|.nilIface|.slice _ _ _|.map _=>bK
   |v=>aP (L9 v) (k (.val v))
 |.binOp op t x y _=>tf (EW y&&yW P t) (nd (Env.ev e x) λu=>wu op λneg=>aP (tK u) (k (.val (.bool (if neg then !cg u else cg u)))))<|nd (Env.ev e x) λu=>nd (Env.ev e y) λv=>tf (yW P t) (wu op λneg=>oQ P u v λb=>k (.val (.bool (if neg then !b else b))))<|tf (Io P t x y) (wu op λneg=>qk u v λb=>k (.val (.bool (if neg then !b else b))))<|tf (tL v u) (tF op u v k)
   (wu op λneg=>tG P t u v λb=>k (.val (.bool (if neg then !b else b))))
 |.unOp op _ x=>Ig op (Env.ev e x) k
 |.convert s d x=>nd (Env.ev e x) λv=>oy P s d v k
 |.makeFunc fn first caps=>Dk (first.toList.map (Env.ev e)) λfs=>Dk (caps.toList.map (Env.ev e)) λcs=>k (.val (.func fn fs.toArray cs.toArray))
 |.makeMap _ none=>nw (.map #[] 0) λr=>k (.val (.map (some r)))
 |.makeSlice t l c=>opt (bk P t) λel=>opt (P.info? el) λi=>opt i.zero λz=>nN (z.cells.size=i.size/\i.size≠0)
   (nd (Env.ev e l) λlv=>iw lv λln=>nd (Env.ev e c) λcv=>iw cv λcn=>AQ el i.bytes z.cells.toList ln cn λs=>k (.val (.slice s.a s.len s.cap)))
 |.slice t x lo hi mx=>nd (Env.ev e x) λv=>J5 (lo.map (Env.ev e)) λl=>J5 (hi.map (Env.ev e)) λh=>J5 (mx.map (Env.ev e)) λm=>match v with
   |.slice a ln c=>opt (bk P t) λel=>opt (P.info? el) λi=>slc i.size ⟨a,ln,c⟩ l h m λs=>k (.val (.slice s.a s.len s.cap))
   |.string s=>opt (P.underlying t) λd=>match d,m with|.string,none=>nO s l h λr=>k (.val (.string r))|_,_=>bK
   |_=>bK
 |.fieldAddr s x f=>nd (Env.ev e x) λp=>kE p λad=>opt (pC P s f) λfl=>opt (P.info? fl.type) λi=>nN (i.size≠0) (k (.val (.pointer (some (ad.add fl.offset)))))
 |.field s x f=>nd (Env.ev e x) λv=>fW v λcs=>opt (pC P s f) λfl=>opt (P.info? fl.type) λi=>opt (P.underlying fl.type) λ_=>
   tf (cZ P fl.type) (k (.val (.agg (cs.extract fl.offset (fl.offset+i.size))))) (opt (cs[fl.offset]?) λc=>k (.val c))
 |.indexAddr t x ix=>nd (Env.ev e x) λv=>nd (Env.ev e ix) λiv=>iw iv λn=>match v with
   |.slice a ln _=>opt (bk P t) λel=>opt (P.info? el) λi=>aP (0<=n/\n<(ln:Int)) (deref a λad=>k (.val (.pointer (some (ad.add (n.toNat*i.size))))))
   |.pointer p=>opt (P.underlying t) λd=>match d with
     |.array ln el=>opt (P.info? el) λi=>aP (0<=n/\n<(ln:Int)) (deref p λad=>k (.val (.pointer (some (ad.add (n.toNat*i.size))))))
     |_=>bK
   |_=>bK
 |.index t x ix=>nd (Env.ev e x) λv=>nd (Env.ev e ix) λiv=>iw iv λn=>match v with
   |.string s=>opt (P.underlying t) λd=>match d with|.string=>aP (0<=n/\n<(s.size:Int)) (k (.val (.int .u8 ((s[n.toNat]?).getD 0).toNat)))|_=>bK
   |_=>bK
 |.lookup t x ix ok=>nd (Env.ev e x) λv=>nd (Env.ev e ix) λkey=>ox v λr=>opt (mapElem P t) λke=>opt (P.underlying ke.1) λkd=>tf (b6 kd)
   (opt (aV P 1 ke.2) λl=>opt (one? l) λsh=>opt (zeroOf P ke.2) λz=>gd kd r key sh z λp b=>tf ok (k (.val (.tuple #[bC sh p,.bool b]))) (k (.val (bC sh p)))) (tf (lM P ke.1) (opt (aV P 1 ke.2) λl=>opt (one? l) λsh=>opt (zeroOf P ke.2) λz=>lI (AF P ke.1) r key sh z λp b=>tf ok (k (.val (.tuple #[bC sh p,.bool b]))) (k (.val (bC sh p)))) bK)
 |.mapUpdate t m ky x=>nd (Env.ev e m) λmv=>nd (Env.ev e ky) λkey=>nd (Env.ev e x) λv=>ox mv λr=>opt (mapElem P t) λke=>opt (P.underlying ke.1) λkd=>tf (b6 kd)
   (ej kd r key v (k .no)) (tf (lM P ke.1) (AS (AF P ke.1) r key v (k .no)) bK)
 |.extract t ix=>SB P o.type (Env.ev e t) ix k
 |.range t x=>nd (Env.ev e x) λv=>tf (qn P t) (Kh v λs=>tE s λb=>k (.val (.pointer (some ⟨b,0,none⟩)))) (ox v λr=>opt (mapElem P t) λ_=>qK r λb=>k (.val (.pointer (some ⟨b,0,none⟩))))
 |.next it str=>nd (Env.ev e it) λv=>kE v λad=>tf str (Fj ad (k .xB) λi c=>k (.xC (.int .i64 (i:Nat)) (.int .i32 (c:Nat)))) (AR ad (k .xB) λen=>k (.xC en.key en.val))
 |.entry it=>nd (Env.ev e it) λv=>kE v λad=>tY ad λen=>k (.yP en.key en.val)
 |.makeInterface t x=>nd (Env.ev e x) λv=>opt (P.underlying t) λd=>tf (oB d) bK (k (.val (.iface t v)))
 |.typeAssert x _ T ok=>nd (Env.ev e x) λv=>opt (P.underlying T) λd=>tf (oB d) (opt (Fl d) λwant=>opt (zeroOf P T) λz=>H6 P want v ok λb=>tf ok (k (.val (.tuple #[if b=true then v else z,.bool b]))) (k (.val v)))
   (opt (L8 P T) λsh=>opt (zeroOf P T) λz=>
   Wl T sh z v ok λp b=>tf ok (k (.val (.tuple #[val sh p,.bool b]))) (k (.val (val sh p))))
 |.call c=>Dk (c.args.toList.map (Env.ev e)) λargs=>match c.callee with
   |.value (.func f)=>opt (qL P o.type) λaU=>tf (ey P f) (aH P f args aU λp=>k (.val (dM aU p))) (fP P f args aU λp=>k (.val (dM aU p)))
   |.value x=>nd (Env.ev e x) λfv=>opt (qL P o.type) λaU=>cE P fv args aU λp=>k (.val (dM aU p))
   |.builtin b=>dx P b c.argTypes.toList args k
   |.invoke x name=>nd (Env.ev e x) λrv=>opt (qL P o.type) λaU=>cY P rv name args aU λp=>k (.val (dM aU p))
 |_=>bK
def mR:Op->Option (FuncId×Array Operand)
 |.call ⟨.value (.func f),args,_⟩=>some (f,args)
 |_=>none
def pg:Op->Option (Array Operand)
 |.call ⟨.builtin .panic,args,_⟩=>some args
 |.panic x=>some #[x]
 |_=>none
def zh(l:LV)(f:Value->Pr):Pr:=
 match l with
 |[.iface t v]=>f (.iface t v)
 |_=>bK
theorem ua{l:LV}{f:Value->Pr}{w:World}(h:zh l f w):∃t v,l=[.iface t v]/\f (.iface t v) w:=by
 unfold zh at h
 match l,h with
 |[.iface t v],h=>exact⟨t,v,rfl,h⟩
def Ir(P:Program)(kp:Option (List PanicEntry->Pr))(o:Oper)(e:Env)(k:EV->Pr):Pr:=
 match kp with
 |none=>cop P o e k
 |
  some q=>
  orElse (mR o.op) (λx=>Dk (x.2.toList.map (Env.ev e)) λargs=>
   opt (qL P o.type) λaU=>tf (ey P x.1) (bf P q x.1 args aU λp=>k (.val (dM aU p))) (fP P x.1 args aU λp=>k (.val (dM aU p))))
   (orElse (pg o.op) (λargs=>Dk (args.toList.map (Env.ev e)) λargs=>zh args λv=>q [{v:=v,recovered:=false}])
     (cop P o e k))
def GY(kp:Option (List PanicEntry->Pr))(ch:List PanicEntry):Pr:=
 match kp with
 |none=>bK
 |some q=>q ch
def wf(r:Option Nat):Fence:={Fence.wide with round:=r}
theorem lP{r:Option Nat}{n:Nat}{P:Program}{f:FuncId}{args:Array Value}{w:World}{R:Ending->World->Prop}:
 CallsIn (wf r) n P f args w R↔Calls P f args w R:=callsIn_wide (n:=n)
def Good(x:EV)(v:Value):Prop:=∀u,x.v? =some u->u=v
theorem Good.val(v:Value):Good (.val v) v:=λu h=>by simpa[EV.v?]using h.symm
def NX(k:EV->Pr):Next->World->Prop
 |.value v,w'=>∃x,Good x v/\k x w'
 |.skip,w'=>k .no w'
 |_,_=>False
section
variable{P:Program}{e:Env}{a:Act}{w:World}{k:EV->Pr}
theorem RT.value{s:Sem Value}(h:RT P s w λv w'=>∃x,Good x v/\k x w'):RT P (do Pure.pure (Next.value (<-s))) w (NX k):=
 .bind (h.mono λ_ _ h=>.pure h)
theorem RT.value'{s:Sem Value}(h:RT P s w λv w'=>k (.val v) w'):RT P (do Pure.pure (Next.value (<-s))) w (NX k):=
 .value (h.mono λv _ h=>⟨_,Good.val v,h⟩)
theorem RT.skip{s:Sem Unit}(h:RT P s w λ_ w'=>k .no w'):RT P (do s;Pure.pure Next.skip) w (NX k):=
 .bind (h.mono λ_ _ h=>.pure h)
theorem dI(he:Ag e a){x:Operand}{f:Value->Pr}(h:nd (Env.ev e x) f w):f (a.eval x) w:=by
 obtain⟨v,hv,h⟩:=wP h;rw[he.eval hv];exact h
theorem AT(he:Ag e a){x:Operand}{k:EV->Pr}(h:nd (Env.ev e x) (λ_=>k (Env.ev e x)) w):∃y,Good y (a.eval x)/\k y w:=by
 obtain⟨v,hv,h⟩:=wP h;exact⟨_,λu hu=>by rw[hv]at hu;simp only[jg]at hu;rw[<-hu,he.eval hv],h⟩
theorem eK(he:Ag e a):∀{l:List Operand} {f:LV->Pr},Dk (l.map (Env.ev e)) f w->f (l.map a.eval) w
 |[],_,h=>h
 |
  x::l,_,h=>by
  have h1:=dI he (x:=x) h;exact eK he (l:=l) h1
theorem iz(he:Ag e a):∀{l:List (Nat×Operand)} {f:List (Nat×Value)->Pr},hH e l f w->f (l.map λ(i,x)=>(i,a.eval x)) w
 |[],_,h=>h
 |
  (i,x)::l,_,h=>by
  have h1:=dI he (x:=x) h;exact iz he (l:=l) h1
theorem Fm(he:Ag e a){c x y:Operand}(h:EU e c x y k w):
 RT P (do Pure.pure (Next.value (if<-asBool (a.eval c)then a.eval x else a.eval y))) w (NX k):=by
 obtain⟨b,hb,h⟩:=nR h;rw[he.eval (x:=c) hb];rcases h with⟨rfl,h⟩|⟨rfl,h⟩
 ·exact⟨_,w,rfl,AT he h⟩
 ·exact⟨_,w,rfl,AT he h⟩
theorem di{t:TypeId}{z:Value}(h:zeroOf P t=some z){Q:Value->World->Prop}(hq:Q z w):RT P (zeroValue t) w Q:=by
 unfold zeroOf at h;split at h
 ·rename_i i hi;exact .zeroValue hi h hq
 ·simp at h
theorem aW{t el:TypeId}(h:bk P t=some el):P.underlying t=some (.slice el):=by
 unfold bk at h;split at h
 ·rename_i e he;simp at h;rw[he,h]
 ·simp at h
theorem cj{t:TypeId}{ke:TypeId×TypeId}(h:mapElem P t=some ke):P.underlying t=some (.map ke.1 ke.2):=by
 unfold mapElem at h;split at h
 ·rename_i e he;simp at h;rw[he,<-h]
 ·simp at h
theorem lz{t:TypeId}{j:Nat}{f:Field}(h:pC P t j=some f):∃fs,P.underlying t=some (.struct fs)/\fs[j]? =some f:=by
 unfold pC at h;split at h
 ·rename_i fs xD;exact⟨fs,xD,h⟩
 ·simp at h
theorem sC(off:Nat):∀(vs:LV) (cells:LV) (j:Nat),off+j+vs.length<=cells.length->
 (vs.zipIdx j).foldl (λ(cs:Array Value) (x:Value×Nat)=>cs.setIfInBounds (off+x.2) x.1) cells.toArray=(cells.take (off+j)++vs++cells.drop (off+j+vs.length)).toArray
 |[],cells,j,_=>by simp
 |
  v::vs,cells,j,h=>by
  simp only[List.length_cons]at h;simp only[List.zipIdx_cons,List.foldl_cons,List.setIfInBounds_toArray];rw[sC off vs (cells.set (off+j) v) (j+1) (by simp;omega)]
  congr 1
  have h1:(cells.set (off+j) v).take (off+(j+1))=cells.take (off+j)++[v]:=by
   rw[<-Nat.add_assoc,List.take_add_one];simp[List.take_set_of_le,show off+j<cells.length by omega]
  have h2:(cells.set (off+j) v).drop (off+(j+1)+vs.length)=cells.drop (off+j+(vs.length+1)):=by
   rw[List.drop_set_of_lt (by omega)]
   congr 1;omega
  rw[h1,h2];simp
theorem zi(off:Nat)(vs:Array Value)(cells:LV)(h:off+vs.size<=cells.length):
 vs.zipIdx.foldl (λ(cs:Array Value) (x:Value×Nat)=>cs.setIfInBounds (off+x.2) x.1) cells.toArray=(cells.take off++vs.toList++cells.drop (off+vs.size)).toArray:=by
 rw[<-Array.foldl_toList,Array.toList_zipIdx];have:=sC off vs.toList cells 0 (by simpa using h);simpa using this
theorem fU{place:Nat->Option (Nat×Nat)}:∀{ps:List (Nat×Value)} {cells out:LV},oK place cells ps=some out->Instr.fill place cells.toArray ps=some out.toArray
 |[],_,_,h=>by simp only[oK,jg]at h;rw[h];rfl
 |
  (i,v)::ps,cells,out,h=>by
  simp only[oK]at h;unfold Instr.fill;cases hp:place i with
  |none=>simp[hp]at h
  |
   some os=>
   obtain⟨off,size⟩:=os;simp only[hp]at h⊢;have one:∀v:Value,v.cells= #[v]->(if size=1/\off+1<=cells.length then oK place (cells.set off v) ps else none)=some out->
    (if v.cells.size≠size||off+v.cells.size>cells.toArray.size then none
      else Instr.fill place (v.cells.zipIdx.foldl (λcs (c,j)=>cs.setIfInBounds (off+j) c) cells.toArray) ps)=some out.toArray:=by
    clear h;intro v hv h9;by_cases hc:size=1/\off+1<=cells.length
    ·rw[jd hc]at h9
     rw[hv];obtain⟨rfl,h2⟩:=hc;have hn:¬(off+1>cells.length):=by omega
     have:=fU h9;simp[hn,this]
    ·rw[jc hc]at h9;simp at h9
   cases v with
   |
    agg cs=>
    simp only[Value.cells]at h⊢;by_cases hc:cs.size=size/\off+size<=cells.length
    ·rw[jd hc]at h
     obtain⟨rfl,h2⟩:=hc;have hn:¬(off+cs.size>cells.length):=by omega
     have h3:=fU h;have h4:=zi off cs cells h2;simp only[ne_eq,not_true_eq_false,decide_false,List.size_toArray,hn,Bool.or_self,Bool.false_eq_true,if_false];rw[h4];exact h3
    ·rw[jc hc]at h;simp at h
   |_=>exact one _ rfl h
theorem mZ:∀{l:List Field} {pl:List (Nat×Nat)} {Q:List (Nat×Nat)->World->Prop},placesOf P l=some pl->Q pl w->
 RT P (l.mapM λf=>do Pure.pure (f.offset,<-sizeOf f.type)) w Q
 |
  [],pl,Q,h,hq=>by
  simp only[placesOf,jg]at h;simp only[List.mapM_nil];exact .pure (h▸hq)
 |
  f::l,pl,Q,h,hq=>by
  simp only[placesOf]at h;cases hi:P.info? f.type with
  |none=>simp[hi]at h
  |
   some i=>
   cases hr:placesOf P l with
   |none=>simp[hi,hr]at h
   |
    some r=>
    simp only[hi,hr,jg]at h;simp only[List.mapM_cons];refine .bind (.bind (.sizeOf hi (.pure (.bind (mZ hr (.pure ?_))))));exact h▸hq
theorem Fo(z:LV)(n m:Nat)(hm:z.length=m):(Array.range (n*m)).map (λi=>z.toArray[i%m]!)=(zc z n).toArray:=by
 subst hm;apply Array.ext';simp only[Array.toList_map,Array.toList_range]
 induction n with
 |zero=>simp[zc]
 |
  succ n ih=>
  unfold zc at ih⊢;rw[Nat.succ_mul,List.range_add,jj,ih,List.replicate_succ',List.flatten_append];simp only[List.flatten_cons,List.flatten_nil,List.append_nil,List.map_map]
  congr 1
  apply List.ext_getElem (by simp);intro i h1 h2;simp only[je,List.length_range]at h1;simp[Nat.mul_add_mod,Nat.mod_eq_of_lt h1,h1,getElem!_pos,Nat.add_mul_mod_self_left,Nat.mul_comm n]
end
section
variable{P:Program}{w:World}
theorem RT.sliceBound{n:Int}{k:IntKind}{y:Nat}{c:BoundsCode}{Q:Nat->World->Prop}(h:0<=n/\n<=(y:Int))(hq:Q n.toNat w):RT P (Instr.sliceBound (.int k n) y c) w Q:=by
 unfold Instr.sliceBound;refine .bind (.pure ?_);simp only[h.1,h.2,and_self,if_true];exact .pure hq
theorem m6{YE:Bool}{len cap:Nat}{lo hi mx:Option Int}{k1 k2 k3:IntKind}{Q:Nat×Nat×Nat->World->Prop}
 (h1:∀m,mx=some m->0<=m/\m<=(cap:Int))(h2:mx.isSome=true->hi.isSome=true)
 (h3:∀h,hi=some h->0<=h/\h<=((mx.map Int.toNat).getD cap:Int))
 (h4:∀l,lo=some l->0<=l/\l<=((hi.map Int.toNat).getD len:Int))
 (hq:Q ((lo.map Int.toNat).getD 0,(hi.map Int.toNat).getD len,(mx.map Int.toNat).getD cap) w):
 RT P (Instr.sliceBounds YE len cap (lo.map (.int k1)) (hi.map (.int k2)) (mx.map (.int k3))) w Q:=by
 unfold Instr.sliceBounds;cases mx with
 |
  none=>
  simp only[Option.map_none,Option.getD_none]at *;refine .bind (.pure ?_);cases hi with
  |
   none=>
   simp only[Option.map_none,Option.getD_none]at *;refine .bind (.pure ?_);cases lo with
   |none=>simp only[Option.map_none,Option.getD_none]at *;exact .bind (.pure (.pure hq))
   |some l=>simp only[Option.map_some,Option.getD_some]at *;exact .bind (.sliceBound (h4 l rfl) (.pure hq))
  |
   some h=>
   simp only[Option.map_some,Option.getD_some]at *;refine .bind (.sliceBound (h3 h rfl) ?_);cases lo with
   |none=>simp only[Option.map_none,Option.getD_none]at *;exact .bind (.pure (.pure hq))
   |some l=>simp only[Option.map_some,Option.getD_some]at *;exact .bind (.sliceBound (h4 l rfl) (.pure hq))
 |
  some m=>
  simp only[Option.map_some,Option.getD_some]at *;refine .bind (.sliceBound (h1 m rfl) ?_);cases hi with
  |none=>simp at h2
  |
   some h=>
   simp only[Option.map_some,Option.getD_some]at *;refine .bind (.sliceBound (h3 h rfl) ?_);cases lo with
   |none=>simp only[Option.map_none,Option.getD_none]at *;exact .bind (.pure (.pure hq))
   |some l=>simp only[Option.map_some,Option.getD_some]at *;exact .bind (.sliceBound (h4 l rfl) (.pure hq))
theorem wS{t el:TypeId}{i:TypeInfo}{s:Sl}{lo hi mx:Option Int}{k1 k2 k3:IntKind}{k:Sl->Pr}{Q:Value->World->Prop}(ht:P.underlying t=some (.slice el))(hi':P.info? el=some i)
 (h:slc i.size s lo hi mx k w)(hq:∀s,k s w->Q (.slice s.a s.len s.cap) w):
 RT P (Instr.sliceAt t (.slice s.a s.len s.cap) (lo.map (.int k1)) (hi.map (.int k2)) (mx.map (.int k3))) w Q:=by
 obtain⟨h1,h2,h3,h4,h5⟩:=h;unfold Instr.sliceAt;refine .bind (.underlying ht ?_);unfold Instr.slice;refine .bind (.underlying ht ?_);simp only;exact .bind (m6 h1 h2 h3 h4 (.bind (.sizeOf hi' (.pure (hq _ h5)))))
theorem uc{t:TypeId}{s:ByteArray}{lo hi:Option Int}{k1 k2:IntKind}{k:ByteArray->Pr}{Q:Value->World->Prop}(ht:P.underlying t=some .string)
 (h:nO s lo hi k w)(hq:∀s,k s w->Q (.string s) w):
 RT P (Instr.sliceAt t (.string s) (lo.map (.int k1)) (hi.map (.int k2)) none) w Q:=by
 obtain⟨h3,h4,h5⟩:=h;unfold Instr.sliceAt;refine .bind (.underlying ht ?_);unfold Instr.slice;refine .bind (.underlying ht ?_);simp only[Option.isSome_none,Bool.false_eq_true,if_false];exact .bind (m6 (mx:=none) (k3:=.i64) (by simp) (by simp) (by simpa using h3) h4 (.pure (hq _ h5)))
theorem c5{size n:Nat}{a:OA}{l c:Nat}{vs:LV}{Q:Array Value->World->Prop}(hl:a.isSome=true->vs.length=n*size)(hr:bn w a vs)(hq:Q vs.toArray w):
 RT P (Builtin.firstCells size n (.slice a l c)) w Q:=by
 cases a with
 |
  none=>
  obtain rfl:vs=[]:=hr;exact .pure hq
 |some b=>exact .loadCells (hl rfl) hr hq
theorem Fp{t el:TypeId}{i:TypeInfo}{ts:Array TypeId}{ty:TypeId}{d s:Sl}{k:Pr}{Q:Value->World->Prop}(h0:ts[0]? =some t)(ht:P.underlying t=some (.slice el))(hi:P.info? el=some i)
 (h:Wk i.size d s k w)(hq:∀w',k w'->Q (.int .i64 (Nat.min s.len d.len:Nat)) w'):
 RT P (Builtin.copy_ ts ty #[.slice d.a d.len d.cap,.slice s.a s.len s.cap]) w Q:=by
 obtain⟨vs,hl,hr,hs⟩:=h;unfold Builtin.copy_;simp only[h0,List.getElem?_toArray,List.getElem?_cons_zero,List.getElem?_cons_succ];refine .bind (.underlying ht ?_);refine .bind (.pure ?_);refine .bind (.sizeOf hi ?_);refine .bind (c5 hl hr ?_);cases hd:d.a with
 |
  none=>
  simp only[hd]at hs⊢;exact .pure (hq _ hs)
 |
  some b=>
  rw[hd]at hs;simp only;refine .bind (.storeCells (l:=vs) (i:=0) (a:=b) (f:=k) (by simpa[HI,Addr.add]using hs) λ_ h=>.pure (hq _ h))
theorem eY(z:LV)(n:Nat):Builtin.zeroCells z.toArray n=(zc z n).toArray:=by
 unfold Builtin.zeroCells;simpa using Fo z n z.length rfl
theorem CU{t el:TypeId}{i:TypeInfo}{z:Value}{ts:Array TypeId}{ty:TypeId}{s:Sl}{k:Pr}{Q:Value->World->Prop}(h0:ts[0]? =some t)(ht:P.underlying t=some (.slice el))(hi:P.info? el=some i)(hz:i.zero=some z)
 (h:SA z.cells.toList s k w)(hq:∀w',k w'->Q (.tuple #[]) w'):RT P (Builtin.clear_ ts ty #[.slice s.a s.len s.cap]) w Q:=by
 unfold Builtin.clear_;simp only[h0,List.getElem?_toArray,List.getElem?_cons_zero];refine .bind (.underlying ht ?_);obtain⟨a,n,c⟩:=s;unfold SA at h;dsimp only at h⊢;cases a with
 |none=>refine .bind (.pure (.pure (hq _ ?_)));cases n<;>exact h
 |
  some b=>
  cases n with
  |zero=>exact .bind (.pure (.pure (hq _ h)))
  |
   succ n=>
   refine .bind (.zeroValue hi hz ?_);rw[show Builtin.zeroCells z.cells (n+1)=(zc z.cells.toList (n+1)).toArray from eY z.cells.toList (n+1)];refine .bind ?_;exact .storeCells (l:=zc z.cells.toList (n+1)) (i:=0) (a:=b) (f:=k) (by simpa[HI,Addr.add]using h) λ_ h=>.pure (hq _ h)
theorem m7{a:Addr}:∀{l:LV} {i:Nat},cc w a i l->cc w.drew a i l
 |[],_,_=>trivial
 |_::_,_,h=>⟨h.1,m7 h.2⟩
theorem ia{a:OA}{l:LV}(h:bn w a l):bn w.drew a l:=by
 cases a with
 |none=>exact h
 |some b=>exact m7 h
theorem RT.ud{α:Type}{a b:α}{Q:α->World->Prop}(h:a=b)(hq:Q b w):RT P (Pure.pure a) w Q:=⟨b,w,by rw[h];rfl,hq⟩
theorem zj{t t2 el:TypeId}{d2:TypeDesc}{i:TypeInfo}{z:Value}{ts:Array TypeId}{ty:TypeId}{s x:Sl}{k:Sl->Pr}{Q:Value->World->Prop}(h0:ts[0]? =some t)(h1:ts[1]? =some t2)(h2:P.underlying t2=some d2)
 (h3:fX P t2=false)(ht:P.underlying t=some (.slice el))(hi:P.info? el=some i)(hz:i.zero=some z)(hzs:z.cells.size=i.size)
 (h:app el i.size i.bytes z.cells.toList s x k w)(hq:∀s w',k s w'->Q (.slice s.a s.len s.cap) w'):
 RT P (Builtin.append_ ts ty #[.slice s.a s.len s.cap,.slice x.a x.len x.cap]) w Q:=by
 obtain⟨new,hl,hr,hA,hB⟩:=h;unfold Builtin.append_;simp only[h0,h1,List.getElem?_toArray,List.getElem?_cons_zero,List.getElem?_cons_succ];refine .bind (.underlying ht ?_);refine .bind (.sizeOf hi ?_);refine .bind (.underlying h2 (.bind (RT.ud (b:=false) (by cases d2<;>simp_all[fX]) ?_)));simp only[Bool.false_eq_true,if_false,Bool.not_false,if_true];refine .bind (.pure ?_);by_cases hc:s.len+x.len<=s.cap
 ·rw[jd hc]
  refine .bind (c5 hl hr ?_);have hs:=hA hc;cases hd:s.a with
  |
   none=>
   simp only[hd]at hs⊢;have:=hq _ _ hs;exact .pure this
  |
   some b=>
   rw[hd]at hs;simp only;refine .bind (.storeCells (l:=new) (i:=0) hs λ_ h=>?_);have:=hq _ _ h;exact .pure this
 ·rw[jc hc]
  obtain⟨old,OE,KK,hb0,hcap,wK,hk⟩:=hB (by omega);have hn:¬((s.len+x.len:Nat):Int)>IntKind.i64.max:=by
   simp only[IntKind.max,IntKind.signed,IntKind.bits];simp;omega
  refine .bind (.typeInfo hi ?_);rw[jc (λh=>hn h.1)];refine .bind (.typeInfo hi ?_);rw[jc (Nat.not_lt.2 hcap)];refine .bind ⟨_,_,by rw[run_choose];simp only[Question.forced,Bool.false_eq_true,if_false];rfl,?_⟩;simp only[Question.cut];generalize q9:w.tape w.drawn (Question.appendCap (s.len+x.len) s.cap el)%(2^63-(s.len+x.len))=tk;have OF:tk<2^63-(s.len+x.len):=by rw[<-q9];exact Nat.mod_lt _ (by omega)
  have hk':=hk (s.len+x.len+tk) (by omega) (by omega);refine .bind (.typeInfo hi (.bind ⟨(),_,run_askRoom _ _ _,?_⟩));refine .bind (c5 (w:=w.drew) OE (ia KK) (.bind (c5 (w:=w.drew) hl (ia hr) (.bind (.zeroValue hi hz ?_)))));have AU:=eY z.cells.toList (s.len+x.len+tk-(s.len+x.len));simp only[Array.toArray_toList]at AU;rw[AU];refine .bind (.bind (.newObj (.pure (.pure ?_))));have:=hq _ _ hk';simpa using this
theorem jY{n:Nat}{x:ByteArray}{Q:Array Value->World->Prop}{w:World}(hq:Q (GU x).toArray w):RT P (Builtin.firstCells n x.size (.string x)) w Q:=by
 unfold Builtin.firstCells;refine .pure ?_;have:(x.extract 0 x.size).data.map (λb=>Value.int .u8 b.toNat)=(GU x).toArray:=by
  unfold GU;rw[ByteArray.data_extract];have:x.size=x.data.size:=rfl;rw[this,Array.extract_size];apply Array.ext';simp
 rw[this];exact hq
theorem Fq{t t2 el:TypeId}{d2:TypeDesc}{i:TypeInfo}{z:Value}{ts:Array TypeId}{ty:TypeId}{s:Sl}{x:ByteArray}{k:Sl->Pr}{Q:Value->World->Prop}(h0:ts[0]? =some t)(h1:ts[1]? =some t2)(h2:P.underlying t2=some d2)
 (h3:fX P t2=false)(ht:P.underlying t=some (.slice el))(hi:P.info? el=some i)(hz:i.zero=some z)(hzs:z.cells.size=i.size)
 (h:ct el i.size i.bytes z.cells.toList s x k w)(hq:∀s w',k s w'->Q (.slice s.a s.len s.cap) w'):
 RT P (Builtin.append_ ts ty #[.slice s.a s.len s.cap,.string x]) w Q:=by
 obtain⟨hA,hB⟩:=h;unfold Builtin.append_;simp only[h0,h1,List.getElem?_toArray,List.getElem?_cons_zero,List.getElem?_cons_succ];refine .bind (.underlying ht ?_);refine .bind (.sizeOf hi ?_);refine .bind (.underlying h2 (.bind (RT.ud (b:=false) (by cases d2<;>simp_all[fX]) ?_)));simp only[Bool.false_eq_true,if_false,Bool.not_false,if_true];refine .bind (.pure ?_);by_cases hc:s.len+x.size<=s.cap
 ·rw[jd hc]
  refine .bind (jY ?_);have hs:=hA hc;cases hd:s.a with
  |
   none=>
   simp only[hd]at hs⊢;have:=hq _ _ hs;exact .pure this
  |
   some b=>
   rw[hd]at hs;simp only;refine .bind (.storeCells (l:=GU x) (i:=0) hs λ_ h=>?_);have:=hq _ _ h;exact .pure this
 ·rw[jc hc]
  obtain⟨old,OE,KK,hb0,hcap,wK,hk⟩:=hB (by omega);have hn:¬((s.len+x.size:Nat):Int)>IntKind.i64.max:=by
   simp only[IntKind.max,IntKind.signed,IntKind.bits];simp;omega
  refine .bind (.typeInfo hi ?_);rw[jc (λh=>hn h.1)];refine .bind (.typeInfo hi ?_);rw[jc (Nat.not_lt.2 hcap)];refine .bind ⟨_,_,by rw[run_choose];simp only[Question.forced,Bool.false_eq_true,if_false];rfl,?_⟩;simp only[Question.cut];generalize q9:w.tape w.drawn (Question.appendCap (s.len+x.size) s.cap el)%(2^63-(s.len+x.size))=tk;have OF:tk<2^63-(s.len+x.size):=by rw[<-q9];exact Nat.mod_lt _ (by omega)
  have hk':=hk (s.len+x.size+tk) (by omega) (by omega);refine .bind (.typeInfo hi (.bind ⟨(),_,run_askRoom _ _ _,?_⟩));refine .bind (c5 (w:=w.drew) OE (ia KK) (.bind (jY (.bind (.zeroValue hi hz ?_)))));have AU:=eY z.cells.toList (s.len+x.size+tk-(s.len+x.size));simp only[Array.toArray_toList]at AU;rw[AU];refine .bind (.bind (.newObj (.pure (.pure ?_))));have:=hq _ _ hk';simpa using this
theorem Fs{t t2 el:TypeId}{kd:IntKind}{i:TypeInfo}{z:Value}{ts:Array TypeId}{ty:TypeId}{s:Sl}{kx:IntKind}{m:Int}{k:Sl->Pr}{Q:Value->World->Prop}(h0:ts[0]? =some t)(h1:ts[1]? =some t2)(h2:P.underlying t2=some (.int kd))
 (ht:P.underlying t=some (.slice el))(hi:P.info? el=some i)(hz:i.zero=some z)(hzs:z.cells.size=i.size)
 (h:Fi el i.size i.bytes z.cells.toList s m k w)(hq:∀s w',k s w'->Q (.slice s.a s.len s.cap) w'):
 RT P (Builtin.append_ ts ty #[.slice s.a s.len s.cap,.int kx m]) w Q:=by
 obtain⟨hm0,hmb,YF,hA,hB⟩:=h;unfold Builtin.append_;simp only[h0,h1,List.getElem?_toArray,List.getElem?_cons_zero,List.getElem?_cons_succ];refine .bind (.underlying ht ?_);refine .bind (.sizeOf hi ?_);refine .bind (.underlying h2 (.bind (RT.ud (b:=true) rfl ?_)));rw[jd rfl];have OG:∀(w:World) (Q:Array Value->World->Prop),Q (zc z.cells.toList m.toNat).toArray w->
  RT P (if(!true)=true then Builtin.firstCells i.size m.toNat (Value.int kx m)else if m.toNat*i.size=0 then Pure.pure #[]else do Pure.pure (Builtin.zeroCells (<-zeroValue el).cells m.toNat)) w Q:=by
  intro w Q h;rw[jc (by simp)];have AU:=eY z.cells.toList m.toNat;simp only[Array.toArray_toList]at AU;by_cases h9:m.toNat*i.size=0
  ·rw[jd h9]
   have:zc z.cells.toList m.toNat=[]:=by
    apply jx;simp[zc,hzs,h9]
   rw[this]at h;exact .pure h
  ·rw[jc h9]
   refine .bind (.zeroValue hi hz (.pure ?_));rw[AU];exact h
 refine RT.bind (RT.pure ?_);rw[YF,jc (by omega)];refine .bind (.typeInfo hi ?_);rw[jc (by omega)];refine RT.bind (RT.pure ?_);by_cases hc:s.len+m.toNat<=s.cap
 ·rw[jd hc]
  refine .bind (OG _ _ ?_);have hs:=hA hc;cases hd:s.a with
  |
   none=>
   simp only[hd]at hs⊢;have:=hq _ _ hs;exact .pure this
  |
   some b=>
   rw[hd]at hs;simp only;refine .bind (.storeCells (l:=zc z.cells.toList m.toNat) (i:=0) hs λ_ h=>?_);have:=hq _ _ h;exact .pure this
 ·rw[jc hc]
  obtain⟨old,OE,KK,hcap,wK,hk⟩:=hB (by omega);have hn:¬((s.len+m.toNat:Nat):Int)>IntKind.i64.max:=by
   simp only[IntKind.max,IntKind.signed,IntKind.bits];simp;omega
  refine .bind (.typeInfo hi ?_);rw[jc (λh=>hn h.1)];refine .bind (.typeInfo hi ?_);rw[jc (Nat.not_lt.2 hcap)];refine .bind ⟨_,_,by rw[run_choose];simp only[Question.forced,Bool.false_eq_true,if_false];rfl,?_⟩;simp only[Question.cut];generalize q9:w.tape w.drawn (Question.appendCap (s.len+m.toNat) s.cap el)%(2^63-(s.len+m.toNat))=tk;have OF:tk<2^63-(s.len+m.toNat):=by rw[<-q9];exact Nat.mod_lt _ (by omega)
  have hk':=hk (s.len+m.toNat+tk) (by omega) (by omega);refine .bind (.typeInfo hi (.bind ⟨(),_,run_askRoom _ _ _,?_⟩));refine .bind (c5 (w:=w.drew) OE (ia KK) (.bind (OG _ _ (.bind (.zeroValue hi hz ?_)))));have AU:=eY z.cells.toList (s.len+m.toNat+tk-(s.len+m.toNat));simp only[Array.toArray_toList]at AU;rw[AU];refine .bind (.bind (.newObj (.pure (.pure ?_))));have:=hq _ _ hk';simpa using this
end
section
variable{P:Program}{w:World}
theorem IA{t el:TypeId}{i:TypeInfo}{z:Value}{l c:Int}{k1 k2:IntKind}{k:Sl->Pr}{Q:Value->World->Prop}(ht:P.underlying t=some (.slice el))(hi:P.info? el=some i)
 (hz:i.zero=some z)(hzs:z.cells.size=i.size)(YH:i.size≠0)
 (h:AQ el i.bytes z.cells.toList l c k w)(hq:∀s w',k s w'->Q (.slice s.a s.len s.cap) w'):
 RT P (Instr.makeSlice t (.int k1 l) (.int k2 c)) w Q:=by
 obtain⟨h1,h2,h3,h4,h5⟩:=h;have YI:IntKind.i64.wrap l=l:=by simp[IntKind.wrap,IntKind.signed,IntKind.bits,Int.bmod_eq_of_le];omega
 have YJ:IntKind.i64.wrap c=c:=by simp[IntKind.wrap,IntKind.signed,IntKind.bits,Int.bmod_eq_of_le];omega
 unfold Instr.makeSlice;refine .bind (.underlying ht ?_);simp only[asInt,asIntOf,pure_bind];refine .bind (.typeInfo hi ?_);rw[YI,YJ];have hc:¬((decide (c<0\/(i.bytes:Int)*c>2^48)=true\/l<0)\/l>c):=by
  simp;omega
 simp only[Bool.or_eq_true,jb];rw[jc (by simpa using hc)];refine .bind ⟨(),_,run_askRoom _ _ _,.bind (.sizeOf hi ?_)⟩;by_cases h0:c.toNat*i.size=0
 ·rw[jd h0]
  have hc0:c.toNat=0:=(Nat.mul_eq_zero.1 h0).resolve_right YH;have he:(zc z.cells.toList c.toNat).toArray= #[]:=by simp[hc0,zc]
  rw[he]at h5;have e0:∀g:Nat->Value,Array.map g (Array.range 0)= #[]:=λ_=>by simp
  rw[h0,e0];exact .bind (.bind (.newObj (.pure (.pure (hq _ _ h5)))))
 ·rw[jc h0]
  have he:=Fo z.cells.toList c.toNat i.size (by simpa using hzs);simp only[Array.toArray_toList]at he;rw[<-he]at h5;refine .bind (.zeroValue hi hz ?_);rw[hzs];exact .bind (.bind (.newObj (.pure (.pure (hq _ _ h5)))))
theorem RT.getObj{r:Nat}{o:Obj}{Q:Obj->World->Prop}(h:w.heap[r]? =some o)(hc:∀c e f,o≠.cells c e f)(hq:Q o w):RT P (Go.getObj r) w Q:=by
 refine⟨o,w,?_,hq⟩;simp only[Go.getObj,Sem.run,h]
 try(cases o<;>first|rfl|exact absurd rfl (hc _ _ _))
theorem RT.setObj{r:Nat}{o o':Obj}{Q:Unit->World->Prop}(h:w.heap[r]? =some o)(hc:∀c e f,o≠.cells c e f)(hq:Q () {w with heap:=w.heap.setIfInBounds r o'}):RT P (Go.setObj r o') w Q:=by
 refine⟨(),_,?_,hq⟩;simp only[Go.setObj,Sem.run,h]
 try(cases o<;>first|rfl|exact absurd rfl (hc _ _ _))
theorem RT.checkKey{emp:Bool}{n:Nat}{t:TypeId}{d:TypeDesc}{key:Value}{Q:Unit->World->Prop}(ht:P.underlying t=some d)(hs:b6 d=true)(hq:Q () w):RT P (Instr.checkKey emp (n+1) t key) w Q:=by
 unfold Instr.checkKey;refine .bind (.underlying ht ?_);cases d<;>simp only[b6,Bool.false_eq_true]at hs<;>exact .pure hq
theorem RT.findKey{t:TypeId}{d:TypeDesc}{key:Value}{es:List MapEntry}{res:Option (Nat×Value)}{Q:Option (Nat×Value)->World->Prop}(ht:P.underlying t=some d)
 (hf:Instr.findNow d key es 0=some res)(hq:Q res w):RT P (Instr.findKey t key es) w Q:=by
 unfold Instr.findKey;refine .bind (.underlying ht ?_);rw[hf];exact .pure hq
theorem zk{t:TypeId}{ke:TypeId×TypeId}{kd:TypeDesc}{r:Option Nat}{key zero:Value}{sh:CS}{ok:Bool}{k:dw sh->Bool->Pr}{Q:Value->World->Prop}
 (ht:P.underlying t=some (.map ke.1 ke.2))(hk:P.underlying ke.1=some kd)(hs:b6 kd=true)(hz:zeroOf P ke.2=some zero)(h:gd kd r key sh zero k w)
 (hq:∀p b,k p b w->Q (if ok then .tuple #[bC sh p,.bool b]else bC sh p) w):RT P (Instr.lookup t (.map r) key ok) w Q:=by
 obtain⟨es,res,p,hm,hf,hv,Mb⟩:=h;unfold Instr.lookup;refine .bind (.underlying ht ?_);dsimp only;cases r with
 |
  none=>
  obtain rfl:es= #[]:=hm;refine .bind (.pure ?_);refine .bind (.checkKey hk hs ?_);refine .bind (.findKey hk hf ?_);cases res with
  |
   none=>
   simp only[Option.map_none,Option.getD_none]at hv;refine .bind (di hz (.bind (.pure ?_)));rw[hv];exact .pure (hq p false (by simpa using Mb))
  |
   some iv=>
   simp only[Option.map_some,Option.getD_some]at hv;refine .bind (.pure ?_);simp only[hv];exact .pure (hq p true (by simpa using Mb))
 |
  some b=>
  obtain⟨clock,hb⟩:=hm;refine .bind (.getObj hb (by simp) (.bind (.pure ?_)));refine .bind (.checkKey hk hs ?_);refine .bind (.findKey hk hf ?_);cases res with
  |
   none=>
   simp only[Option.map_none,Option.getD_none]at hv;refine .bind (di hz (.bind (.pure ?_)));rw[hv];exact .pure (hq p false (by simpa using Mb))
  |
   some iv=>
   simp only[Option.map_some,Option.getD_some]at hv;refine .bind (.pure ?_);simp only[hv];exact .pure (hq p true (by simpa using Mb))
theorem zl{t:TypeId}{ke:TypeId×TypeId}{kd:TypeDesc}{r:Option Nat}{key v:Value}{k:Pr}{Q:Unit->World->Prop}
 (ht:P.underlying t=some (.map ke.1 ke.2))(hk:P.underlying ke.1=some kd)(hs:b6 kd=true)(h:ej kd r key v k w)
 (hq:∀w',k w'->Q () w'):RT P (Instr.mapUpdate t (.map r) key v) w Q:=by
 obtain⟨b,es,clock,res,rfl,hb,hf,h⟩:=h;unfold Instr.mapUpdate;refine .bind (.underlying ht ?_);refine .bind (.getObj hb (by simp) ?_);refine .bind (.checkKey hk hs ?_);refine .bind (.findKey hk hf ?_);cases res with
 |none=>exact .setObj hb (by simp) (hq _ h)
 |
  some iv=>
  obtain⟨h1,h2⟩:=h;refine .bind ?_;unfold Instr.keyThatStays;rw[jd h1];exact .pure (.setObj hb (by simp) (hq _ h2))
theorem zm{t:TypeId}{ke:TypeId×TypeId}{kd:TypeDesc}{ts:Array TypeId}{ty:TypeId}{r:Option Nat}{key:Value}{k:Pr}{Q:Value->World->Prop}(h0:ts[0]? =some t)
 (ht:P.underlying t=some (.map ke.1 ke.2))(hk:P.underlying ke.1=some kd)(hs:b6 kd=true)(h:tX kd r key k w)
 (hq:∀w',k w'->Q (.tuple #[]) w'):RT P (Builtin.delete_ ts ty #[.map r,key]) w Q:=by
 obtain⟨b,es,clock,res,rfl,hb,hf,h⟩:=h;unfold Builtin.delete_;simp only[h0,List.getElem?_toArray,List.getElem?_cons_zero,List.getElem?_cons_succ];refine .bind (.underlying ht ?_);refine .bind (.getObj hb (by simp) ?_);refine .bind (.checkKey hk hs ?_);refine .bind (.findKey hk hf ?_);cases res with
 |none=>exact .bind (.setObj hb (by simp) (.pure (hq _ h)))
 |some iv=>exact .bind (.setObj hb (by simp) (.pure (hq _ h)))
theorem zn{t:TypeId}{ke:TypeId×TypeId}{ts:Array TypeId}{ty:TypeId}{r:Option Nat}{k:Int->Pr}{Q:Value->World->Prop}(h0:ts[0]? =some t)
 (ht:P.underlying t=some (.map ke.1 ke.2))(h:nP r k w)
 (hq:∀n,k n w->Q (.int .i64 n) w):RT P (Builtin.len_ ts ty #[.map r]) w Q:=by
 obtain⟨es,hm,h⟩:=h;unfold Builtin.len_;simp only[h0,List.getElem?_toArray,List.getElem?_cons_zero];refine .bind (.underlying ht ?_);cases r with
 |
  none=>
  obtain rfl:es= #[]:=hm;exact .pure (hq _ h)
 |
  some b=>
  obtain⟨clock,hb⟩:=hm;exact .bind (.getObj hb (by simp) (.pure (hq _ h)))
theorem Ft(l:List Int):∀(s:ByteArray),
 RT P (forIn (m:=Sem) (l.map (Value.int .u8)).toArray s λc r=>do
  let .int .u8 n:=c|stuck "bytesToString: byte expected"
  Pure.pure (ForInStep.yield (r.push (UInt8.ofNat n.toNat)))) w (λr w'=>w'=w/\r=⟨s.data++(l.map λn=>UInt8.ofNat n.toNat).toArray⟩):=by
 induction l with
 |nil=>intro s;simp;exact .pure ⟨rfl,by simp⟩
 |
  cons n l ih=>
  intro s;simp only[List.map_cons,List.forIn_toArray,List.forIn_cons]at ih⊢;refine .bind (.pure ?_);refine(ih _).mono ?_;rintro r w' ⟨rfl,rfl⟩;refine⟨rfl,?_⟩;simp[ByteArray.push]
theorem AV{a:OA}{l c:Nat}{k:ByteArray->Pr}{Q:Value->World->Prop}(h:yS ⟨a,l,c⟩ k w)(hq:∀s,k s w->Q (.string s) w):
 RT P (Conv.bytesToString (.slice a l c)) w Q:=by
 obtain⟨ns,hl,hr,hk⟩:=h;unfold Conv.bytesToString;cases a with
 |
  none=>
  have:ns.map (Value.int .u8)=[]:=hr;obtain rfl:ns=[]:=by simpa using this
  exact .pure (hq _ hk)
 |
  some b=>
  have hl':ns.length=l:=hl rfl;refine .bind (.loadCells (l:=ns.map (.int .u8)) (by simpa using hl') hr ?_);refine .bind ((Ft ns ByteArray.empty).mono ?_);rintro r w' ⟨rfl,rfl⟩;refine .pure (hq _ ?_);have he:ByteArray.empty.data= #[]:=rfl;rw[he,Array.empty_append];exact hk
theorem zo{t:TypeId}{d:TypeDesc}{x y:Value}{r:Prop×Bool}(hd:P.underlying t=some d)(h:zg d x y=some r)(h1:r.1):(Op.equal t x y).run P w=.ok r.2 w:=by
 unfold Op.equal;change(Op.equalIn (9999+1) t x y).run P w=_;have key:RT P (Op.equalIn (9999+1) t x y) w (λb w'=>b=r.2/\w'=w):=by
  unfold Op.equalIn;refine .bind (.underlying hd ?_);unfold zg at h;split at h<;>first
   |(simp at h;done)
   |(
    simp only[jg]at h
    subst h
    first
     |exact .pure ⟨rfl,rfl⟩
     |(rename_i p;cases p<;>exact .pure ⟨rfl,rfl⟩)
     |(rename_i a _ _ _ _;cases a<;>exact .pure ⟨rfl,rfl⟩)
     |(
      rcases h1 with h1|h1
      ·cases x<;>first|exact(h1:False).elim|exact .pure ⟨rfl,rfl⟩
      ·subst h1;exact .pure ⟨rfl,rfl⟩))
 obtain⟨v,w',h3,rfl,rfl⟩:=key;exact h3
theorem IB{t:TypeId}{x y:Value}{f:Bool->Pr}{Q:Bool->World->Prop}(h:LP P t x y f w)(hq:∀b,f b w->Q b w):RT P (Op.equal t x y) w Q:=by
 obtain⟨d,hd,h⟩:=ai h;obtain⟨r,hr,h1,h2⟩:=ai h;exact⟨_,w,zo hd hr h1,hq _ h2⟩
end
section
variable{P:Program}{e:Env}{a:Act}{w:World}{k:EV->Pr}
theorem IC{op:UnOp}{x:EV}(h:Ig op x k w):∃v u,x.v? =some v/\(Op.unary op v).run P w=.ok u w/\∃y,Good y u/\k y w:=by
 unfold Ig at h;split at h
 ·exact⟨_,_,rfl,rfl,_,λu hu=>by simp[EV.v?]at hu;exact hu.symm,h⟩
 ·exact⟨_,_,rfl,rfl,_,Good.val _,h⟩
 ·exact⟨_,_,rfl,rfl,_,Good.val _,h⟩
 ·exact⟨_,_,rfl,rfl,_,Good.val _,h⟩
 ·exact h.elim
theorem CV{s d:TypeId}{x:Value}(h:oy P s d x k w):RT P (convert s d x) w λv w'=>k (.val v) w':=by
 obtain⟨sd,hs,h⟩:=ai h;obtain⟨dd,hd,h9⟩:=ai h;clear h;have h:=h9;clear h9;split at h
 ·unfold convert
  refine .bind (.underlying hs (.bind (.underlying hd ?_)));exact⟨_,w,rfl,h⟩
 ·unfold convert
  refine .bind (.underlying hs (.bind (.underlying hd ?_)));exact .pure h
 ·rename_i e0 e a0 l0 c0
  rcases aI h with⟨he,h⟩|⟨_,h⟩
  rotate_left
  ·exact h.elim
  obtain⟨u,hu,h9⟩:=ai h;clear h;have h:=h9;clear h9;split at h
  ·obtain⟨ad,rfl,E,n,hsh,h⟩:=dW.1 h
   unfold convert;refine .bind (.underlying hs (.bind (.underlying hd ?_)));refine .bind (.underlying hu ?_);rw[he];refine .bind ⟨(),_,?_,.pure h⟩;simp[markStringish,hsh,go_sem]
  ·exact h.elim
 ·rename_i e s0 _
  obtain⟨u,hu,h9⟩:=ai h;clear h;have h:=h9;clear h9;split at h
  ·have hr:=Lib.run_convert_string_bytes (P:=P) w _ _ e s0 hs hd hu
   obtain⟨hlt,h⟩:=h;have hc:s0.size<=grownCap w s0.size 0 e/\grownCap w s0.size 0 e<2^63:=by
    unfold grownCap Question.cut;have:=Nat.mod_lt (w.tape w.drawn (.appendCap s0.size 0 e)) (show 0<2^63-s0.size by omega);constructor
    ·exact Nat.le_add_right _ _
    ·show s0.size+_%_<_
     omega
   exact⟨_,_,hr,h _ hc.1 hc.2⟩
  ·exact h.elim
 ·unfold convert
  refine .bind (.underlying hs (.bind (.underlying hd ?_)));obtain⟨u,hu,h9⟩:=ai h;clear h;have h:=h9;clear h9;split at h
  ·rename_i a _ _ _ _
   cases a with
   |none=>exact .bind (.underlying hu (AV h λ_ h=>h))
   |some b=>exact .bind (.underlying hu (AV h λ_ h=>h))
  ·exact h.elim
 ·exact h.elim
theorem ID{l:LV}{f:Value->Pr}{ts:Array TypeId}{ty:TypeId}(h:rA l f w):RT P (Builtin.min_ ts ty l.toArray) w λv w'=>f v w':=by
 unfold rA at h;split at h
 ·exact⟨_,w,rfl,h⟩
 ·exact⟨_,w,rfl,h⟩
 ·exact h.elim
theorem IE{l:LV}{f:Value->Pr}{ts:Array TypeId}{ty:TypeId}(h:rB l f w):RT P (Builtin.max_ ts ty l.toArray) w λv w'=>f v w':=by
 unfold rB at h;split at h
 ·exact⟨_,w,rfl,h⟩
 ·exact⟨_,w,rfl,h⟩
 ·exact h.elim
theorem oC{b:Builtin}{ts:Array TypeId}{ty:TypeId}{cs:Array Bool}{args:LV}(h:dx P b ts.toList args k w):
 RT P (builtin b ts ty cs args.toArray) w (NX k):=by
 unfold dx at h;split at h
 ·obtain⟨t,ht,h⟩:=ai h
  obtain⟨el,pD,h⟩:=ai h;refine RT.value' ?_;unfold Builtin.len_;simp only[show ts[0]? =some t by simpa using ht,List.getElem?_toArray,List.getElem?_cons_zero];exact .bind (.underlying (aW pD) (.pure h))
 ·obtain⟨t,ht,h⟩:=ai h
  obtain⟨d,hd,h9⟩:=ai h;clear h;refine RT.value' ?_;unfold Builtin.len_;simp only[show ts[0]? =some t by simpa using ht,List.getElem?_toArray,List.getElem?_cons_zero];refine .bind (.underlying hd ?_);cases d<;>first|exact h9.elim|exact .pure h9
 ·obtain⟨t,ht,h⟩:=ai h
  obtain⟨el,pD,h⟩:=ai h;exact RT.value' (zn (by simpa using ht) (cj pD) h λ_ h=>h)
 ·obtain⟨t,ht,h⟩:=ai h
  obtain⟨el,pD,h⟩:=ai h;refine RT.value' ?_;unfold Builtin.cap_;simp only[show ts[0]? =some t by simpa using ht,List.getElem?_toArray,List.getElem?_cons_zero];exact .bind (.underlying (aW pD) (.pure h))
 ·exact RT.value' (ID h)
 ·exact RT.value' (IE h)
 ·rename_i da dl dc sa sl sc
  obtain⟨t,ht,h⟩:=ai h;obtain⟨el,pD,h⟩:=ai h;obtain⟨i,hi,h⟩:=ai h;exact RT.value' (Fp (d:=⟨da,dl,dc⟩) (s:=⟨sa,sl,sc⟩) (by simpa using ht) (aW pD) hi h λ_ h=>h)
 ·rename_i a l c
  obtain⟨t,ht,h⟩:=ai h;obtain⟨el,pD,h⟩:=ai h;obtain⟨i,hi,h⟩:=ai h;obtain⟨z,hz,h⟩:=ai h;exact RT.value' (CU (s:=⟨a,l,c⟩) (by simpa using ht) (aW pD) hi hz h λ_ h=>h)
 ·rename_i da dl dc sa sl sc
  obtain⟨t,ht,h⟩:=ai h;obtain⟨t2,Lk,h⟩:=ai h;rcases aI h with⟨_,h⟩|⟨hint,h⟩
  ·exact h.elim
  obtain⟨d2,Dl,h⟩:=ai h;obtain⟨el,pD,h⟩:=ai h;obtain⟨i,hi,h⟩:=ai h;obtain⟨z,hz,h⟩:=ai h;obtain⟨hzs,h⟩:=cN h;exact RT.value' (zj (s:=⟨da,dl,dc⟩) (x:=⟨sa,sl,sc⟩) (by simpa using ht) (by simpa using Lk) Dl hint (aW pD) hi hz hzs h λ_ _ h=>h)
 ·rename_i da dl dc x0
  obtain⟨t,ht,h⟩:=ai h;obtain⟨t2,Lk,h⟩:=ai h;rcases aI h with⟨_,h⟩|⟨hint,h⟩
  ·exact h.elim
  obtain⟨d2,Dl,h⟩:=ai h;obtain⟨el,pD,h⟩:=ai h;obtain⟨i,hi,h⟩:=ai h;obtain⟨z,hz,h⟩:=ai h;obtain⟨hzs,h⟩:=cN h;exact RT.value' (Fq (s:=⟨da,dl,dc⟩) (x:=x0) (by simpa using ht) (by simpa using Lk) Dl hint (aW pD) hi hz hzs h λ_ _ h=>h)
 ·rename_i da dl dc kx m
  obtain⟨t,ht,h⟩:=ai h;obtain⟨t2,Lk,h⟩:=ai h;rcases aI h with⟨hint,h⟩|⟨_,h⟩
  rotate_left
  ·exact h.elim
  obtain⟨el,pD,h⟩:=ai h;obtain⟨i,hi,h⟩:=ai h;obtain⟨z,hz,h⟩:=ai h;obtain⟨hzs,h⟩:=cN h;obtain⟨kd,Mc⟩:∃kd,P.underlying t2=some (.int kd):=by
   unfold fX at hint;split at hint
   ·rename_i kd heq;exact⟨kd,heq⟩
   ·cases hint
  exact RT.value' (Fs (s:=⟨da,dl,dc⟩) (by simpa using ht) (by simpa using Lk) Mc (aW pD) hi hz hzs h λ_ _ h=>h)
 ·obtain⟨t,ht,h⟩:=ai h
  obtain⟨ke,vC,h⟩:=ai h;obtain⟨kd,Mc,h⟩:=ai h;rcases aI h with⟨hs,h⟩|⟨_,h⟩
  ·exact RT.value' (zm (by simpa using ht) (cj vC) Mc hs h λ_ h=>h)
  ·exact h.elim
 ·exact h.elim
theorem n3(he:Ag e a){x:Option Operand}{f:Option Int->Pr}(h:J5 (x.map (Env.ev e)) f w):∃(n:Option Int) (kd:IntKind),x.map a.eval=n.map (.int kd)/\f n w:=by
 cases x with
 |none=>exact⟨none,.i64,rfl,h⟩
 |
  some x=>
  have h1:=dI he (x:=x) h;obtain⟨kd,n,hn,h2⟩:=eX h1;exact⟨some n,kd,by simp[hn],h2⟩
theorem qM{f:FuncId}(h:ey P f=true):∃fn,P.funcs[f]? =some fn/\fn.body.isNone=false/\(fn.name== "runtime.NumGoroutine")=false:=by
 unfold ey at h;split at h
 ·rename_i fn hfn
  simp only[jz,Bool.not_eq_true']at h;exact⟨fn,hfn,by cases hb:fn.body<;>simp_all,h.2⟩
 ·simp at h
theorem dY{f:FuncId}{args:Array Value}(h:ey P f=true):(callFunc f args).run P w=.ok (.enter f args) w:=by
 obtain⟨fn,h1,h2,h3⟩:=qM h;unfold callFunc;simp only[Sem.run_bind,run_program,Result.andThen_ok,h1,h2,h3,Bool.false_eq_true,if_false,Sem.run_pure]
theorem upon_enter{r:Option Nat}{n:Nat}{o:Oper}{next:Act->World->Prop}{Q:Exit->Act->World->Prop}{f:FuncId}{args:Array Value}{aU:List Sh}{kk:b9 aU->Pr}
 (h:Calls P f args w (aC aU kk))(hk:∀p w',kk p w'->next (a.put o.dst (dM aU p)) w'):o.uponIn (wf r) n P a next Q (.ok (.enter f args) w):=by
 rw[Oper.uponIn_enter];refine⟨λh=>by simp[wf,Fence.wide]at h,lP.2 (h.mono ?_)⟩;rintro e w' ⟨p,rfl,hp⟩;exact hk p w' hp
theorem zq{r:Option Nat}{n m:Nat}{P:Program}{l:Nat}{f:FuncId}{tmps:Array Value}{assign body:Code}{w:World}{R:Ending->World->Prop}:
 RoundIn Fence.wide m P l f tmps assign body w R->RoundIn (wf r) n P l f tmps assign body w R:=by
 rintro⟨h1,h2⟩;exact⟨trivial,λc cs _=>h2 c cs (room_wide _)⟩
theorem zu{r:Option Nat}{n:Nat}{o:Oper}{next:Act->World->Prop}{Q:Exit->Act->World->Prop}{l:Nat}{f:FuncId}{tmps:Array Value}{assign body:Code}{aU:List Sh}{kk:b9 aU->Pr}{m:Nat}
 (h:RoundIn Fence.wide m P l f tmps assign body w (aC aU kk))(hk:∀p w',kk p w'->next (a.put o.dst (dM aU p)) w'):o.uponIn (wf r) n P a next Q (.ok (.round l f tmps assign body) w):=by
 rw[Oper.uponIn_round];refine⟨λh=>by simp[wf,Fence.wide]at h,(zq h).mono ?_⟩;rintro e w' ⟨p,rfl,hp⟩;exact hk p w' hp
theorem AW{r:Option Nat}{n:Nat}{o:Oper}{next:Act->World->Prop}{Q:Exit->Act->World->Prop}{s:Sem Next}(h:RT P s w (NX k))
 (hk:∀x v w',Good x v->k x w'->next (a.put o.dst v) w'):o.uponIn (wf r) n P a next Q (s.run P w):=by
 obtain⟨nx,w',h1,h2⟩:=h;rw[h1];cases nx<;>simp only[NX]at h2<;>try exact h2.elim
 ·obtain⟨x,hx,h2⟩:=h2
  exact hk x _ _ hx h2
 ·exact hk .no _ _ (by intro u hu;simp[EV.v?]at hu) h2
end
section
variable{P:Program}{e:Env}{a:Act}{w:World}{k:EV->Pr}
theorem zv{d:TypeDesc}{u v:Value}{r:Prop×Bool}(h:zg d u v=some r):(∀xs ys,¬(u=.agg xs/\v=.agg ys))/\¬(u=.nilIface/\v=.nilIface):=by
 refine⟨λxs ys=>?_,?_⟩<;>rintro⟨rfl,rfl⟩<;>cases d<;>simp[zg]at h
theorem Fu{d:TypeDesc}{t:TypeId}{u v:Value}{r:Prop×Bool}(neg:Bool)(h:zg d u v=some r)(h1:r.1):
 binOp (if neg then .neq else .eql) t u v=(Op.equal t u v>>=λb=>Pure.pure (.bool (if neg then !b else b))):=by
 unfold zg at h;split at h<;>first
  |(simp at h;done)
  |(cases neg<;>rfl)
  |(
   simp only[jg]at h
   subst h;rcases h1 with h1|h1
   ·cases u<;>first|exact(h1:False).elim|(cases neg<;>rfl)
   ·subst h1;cases neg<;>rfl)
theorem IF{t:TypeId}{x y:Operand}{u v:Value}(neg:Bool)
 (h:LP P t u v (λb=>k (.val (.bool (if neg then !b else b)))) w):
 RT P (do eqGuard (if neg then .neq else .eql) t x y u v;binOp (if neg then .neq else .eql) t u v) w λv w'=>k (.val v) w':=by
 obtain⟨d,hd,h2⟩:=ai h;obtain⟨r,hr,h3,h4⟩:=ai h2;obtain⟨g1,g2⟩:=zv hr;refine .bind ⟨(),w,?_,?_⟩
 ·unfold eqGuard
  cases neg<;>simp only[Bool.false_eq_true,if_false,if_true]
  all_goals
   split
   ·rfl
   ·split
    ·exact absurd ⟨rfl,rfl⟩ g2
    ·exact absurd ⟨rfl,rfl⟩ (g1 _ _)
    ·rfl
 ·rw[Fu neg hr h3]
  exact .bind (IB h λb h=>.pure h)
theorem CW(n:Nat){d:TypeDesc}{ty:TypeId}{u v:Value}{b:Bool}(hd:P.underlying ty=some d)(h:OC d u v=some b):(Op.equalIn (n+1) ty u v).run P w=.ok b w:=by
 unfold OC at h;split at h
 ·simp only[jg]at h;subst h
  exact run_equalIn_bool w n ty _ _ hd
 ·split at h
  ·rename_i hk
   simp only[jg]at h;subst h;subst hk;exact run_equalIn_int w n ty _ _ _ _ hd
  ·cases h
 ·simp only[jg]at h;subst h
  rw[run_equalIn_string w n ty _ _ hd]
 ·cases h
theorem IG{d:TypeDesc}{ty:TypeId}{u v:Value}{b:Bool}(hd:P.underlying ty=some d)(h:OC d u v=some b):cZ P ty=false:=by
 unfold cZ;rw[hd];unfold OC at h;split at h<;>first|rfl|cases h
def EqAt(P:Program)(w:World)(n:Nat)(t:TypeId)(xs ys:Array Value)(off:Nat)(b:Bool):Prop:=
 ∃u v,(part t xs off).run P w=.ok u w/\(part t ys off).run P w=.ok v w/\(Op.equalIn n t u v).run P w=.ok b w
theorem n4{g:TypeId->LV->LV->Option Bool}{n:Nat}(xs ys:Array Value)(hg:∀t off b,g t (xs.toList.drop off) (ys.toList.drop off)=some b->EqAt P w n t xs ys off b):
 ∀{fs:List Field} {b:Bool},Kk g xs.toList ys.toList fs=some b->(Op.eqFields n xs ys fs).run P w=.ok b w
 |
  [],b,h=>by
  simp only[Kk,jg]at h;subst h;simp[Op.eqFields]
 |
  f::fs,b,h=>by
  simp only[Kk]at h;split at h
  ·rename_i b1 c hn h1 h2
   simp only[jg]at h;have hname:f.name≠ "_":=by simpa[Kj]using hn
   obtain⟨u,v,hu,hv,he⟩:=hg _ _ _ h1;have hr:=n4 xs ys hg h2;simp only[Op.eqFields,hname,ne_eq,not_false_eq_true,if_true,Sem.run_bind,hu,hv,he,Result.andThen_ok];cases b1
   ·simp only[Bool.false_and]at h;subst h;simp
   ·simp only[Bool.true_and]at h;subst h;simpa using hr
  ·cases h
theorem m8(n:Nat){t:TypeId}{xs ys:Array Value}{off:Nat}{b:Bool}(h:tZ P t (xs.toList.drop off) (ys.toList.drop off)=some b):EqAt P w (n+1) t xs ys off b:=by
 unfold tZ at h;split at h
 ·rename_i d u v hd hu hv
  have nv:=IG (P:=P) hd h;have hpart:∀(zs:Array Value) (z:Value),(zs.toList.drop off).head? =some z->(part t zs off).run P w=.ok z w:=by
   intro zs z hz;have Qy:zs[off]? =some z:=by rw[<-hz,List.head?_drop];simp
   have h5:RT P (part t zs off) w (λv w'=>v=z/\w'=w):=by
    unfold Go.part;refine .bind (.kN (iS hd) ?_);rw[nv,jc Bool.false_ne_true,Qy];exact .pure ⟨rfl,rfl⟩
   obtain⟨_,_,h6,rfl,rfl⟩:=h5;exact h6
  exact⟨u,v,hpart xs u hu,hpart ys v hv,CW n hd h⟩
 ·cases h
theorem gp{t:TypeId}{fs:Array Field}(h:eU P t=some fs):P.underlying t=some (.struct fs):=by
 unfold eU at h;split at h
 ·simp only[jg]at h;subst h;assumption
 ·cases h
theorem n5:∀(m k:Nat) {t:TypeId} {xs ys:Array Value} {off:Nat} {b:Bool},OD P m t (xs.toList.drop off) (ys.toList.drop off)=some b->EqAt P w (k+m+1) t xs ys off b
 |0,k,t,xs,ys,off,b,h=>m8 k h
 |
  m+1,k,t,xs,ys,off,b,h=>by
  unfold OD at h;split at h
  ·rename_i fs i hs hi hst
   have hu:=gp hs;have xD:P.fieldsOf t=fs:=by simp[Program.fieldsOf,hu]
   have nv:cZ P t=true:=by unfold cZ;rw[hu]
   have hpart:∀(zs:Array Value),(part t zs off).run P w=.ok (.agg (zs.extract off (off+i.size))) w:=by
    intro zs;have h5:RT P (part t zs off) w (λv w'=>v=.agg (zs.extract off (off+i.size))/\w'=w):=by
     unfold Go.part;refine .bind (.kN (iS hu) ?_);rw[nv,jd rfl];exact .bind (.sizeOf hi (.pure ⟨rfl,rfl⟩))
    obtain⟨_,_,h6,rfl,rfl⟩:=h5;exact h6
   refine⟨_,_,hpart xs,hpart ys,?_⟩;have e:∀zs:Array Value,(zs.extract off (off+i.size)).toList=(zs.toList.drop off).take i.size:=by
    intro zs;rw[Array.toList_extract,List.extract_eq_take_drop]
    congr 1
    omega
   rw[show k+(m+1)+1=(k+m+1)+1 by omega,run_equalIn_struct w (k+m+1) t _ _ (by rw[xD];exact hu) hst,xD];refine n4 _ _ (g:=OD P m) (λt' off' b' h'=>n5 m k h') ?_;rw[e,e];exact h
  ·cases h
  ·exact m8 (k+(m+1)) h
theorem qN(xs ys:Array Value){fs:List Field}{b:Bool}(h:ER P xs.toList ys.toList fs=some b):(Op.eqFields (9998+1) xs ys fs).run P w=.ok b w:=
 n4 xs ys (λt off b h=>n5 2 9996 h) h
theorem sD{g:TypeId->LV->LV->Option Bool}{n:Nat}(xs ys:Array Value)(hg:∀t off b,g t (xs.toList.drop off) (ys.toList.drop off)=some b->EqAt P w n t xs ys off b):
 ∀{fs:List Field} {b:Bool},Kk g xs.toList ys.toList fs=some b->∀f∈fs,∃u,(part f.type xs f.offset).run P w=.ok u w
 |[],_,_,f,hf=>by cases hf
 |
  f::fs,b,h,f',hf=>by
  simp only[Kk]at h;split at h
  ·rename_i b1 c hn h1 h2
   obtain⟨u,v,hu,hv,he⟩:=hg _ _ _ h1;rcases List.mem_cons.1 hf with rfl|hf
   ·exact⟨u,hu⟩
   ·exact sD xs ys hg h2 f' hf
  ·cases h
theorem sE:∀{fs:List Field},wR P fs=true->∀f∈fs,∃d,P.underlying f.type=some d/\b6 d=true
 |[],_,f,hf=>by cases hf
 |
  f::fs,h,f',hf=>by
  simp only[wR,jz]at h;rcases List.mem_cons.1 hf with rfl|hf
  ·obtain⟨h,_⟩:=h
   split at h
   ·exact⟨_,‹_›,h⟩
   ·cases h
  ·exact sE h.2 f' hf
theorem qO{t:TypeId}{u v:Value}{b:Bool}(h:AF P t u v=some b):∃fs xs ys,eU P t=some fs/\u=.agg xs/\v=.agg ys/\ER P xs.toList ys.toList fs.toList=some b:=by
 unfold AF at h;split at h
 ·exact⟨_,_,_,‹_›,rfl,rfl,h⟩
 ·cases h
theorem sF{t:TypeId}{fs:Array Field}(h:lM P t=true)(hs:eU P t=some fs):wR P fs.toList=true/\P.stoodInHeld t=false:=by
 unfold lM at h;rw[hs]at h;simpa using h
theorem RT.sG{emp:Bool}{n:Nat}{t:TypeId}{key:Value}{b:Bool}{Q:Unit->World->Prop}(hk:lM P t=true)(he:AF P t key key=some b)(hq:Q () w):RT P (Instr.checkKey emp (n+2) t key) w Q:=by
 obtain⟨fs,xs,ys,hs,rfl,hy,he⟩:=qO he;cases hy;obtain⟨hk,_⟩:=sF hk hs;have hp:=sD (w:=w) xs xs (λt off b h=>n5 2 9996 h) he;have hd:=sE hk;unfold Instr.checkKey;refine .bind (.underlying (gp hs) ?_);dsimp only;rw[<-Array.forIn_toList];generalize fs.toList=l at hp hd;have key:∀(l:List Field) (u:PUnit),(∀f∈l,∃u,(part f.type xs f.offset).run P w=.ok u w)->(∀f∈l,∃d,P.underlying f.type=some d/\b6 d=true)->
  RT P (forIn (m:=Sem) l u λf (r:PUnit)=>if f.name≠ "_" then do
   Instr.checkKey emp (n+1) f.type (<-part f.type xs f.offset)
   Pure.pure (ForInStep.yield PUnit.unit)
   else do
    Pure.pure (ForInStep.yield PUnit.unit)) w λ_ w'=>w'=w:=by
  intro l
  induction l with
  |nil=>intro u _ _;exact .pure rfl
  |
   cons f l ih=>
   intro u hp hd;rw[List.forIn_cons];obtain⟨v,hv⟩:=hp f List.mem_cons_self;obtain⟨d,YK,Dl⟩:=hd f List.mem_cons_self;have Wm:=ih PUnit.unit (λf hf=>hp f (List.mem_cons_of_mem _ hf)) (λf hf=>hd f (List.mem_cons_of_mem _ hf));by_cases hn:f.name≠ "_"
   ·rw[jd hn]
    exact .bind (.bind (.kN hv (.bind (.checkKey YK Dl (.pure Wm)))))
   ·rw[jc hn]
    exact .bind (.pure Wm)
 obtain⟨u,w',h1,rfl⟩:=key l PUnit.unit hp hd;exact .bind ⟨u,w',h1,.pure hq⟩
theorem lA{t:TypeId}{u v:Value}{b:Bool}(hk:lM P t=true)(he:AF P t u v=some b):(Op.equal t u v).run P w=.ok b w:=by
 obtain⟨fs,xs,ys,hs,rfl,rfl,cu⟩:=qO he;obtain⟨_,hst⟩:=sF hk hs;have hu:=gp hs;have xD:P.fieldsOf t=fs:=by simp[Program.fieldsOf,hu]
 unfold Op.equal;change(Op.equalIn (9999+1) t _ _).run P w=_;rw[run_equalIn_struct w 9999 t xs ys (by rw[xD];exact hu) hst,xD];exact qN xs ys cu
theorem RT.findAsking{t:TypeId}{key:Value}(hk:lM P t=true):∀{es:List MapEntry} {i:Nat} {res:Option (Nat×Value)} {Q:Option (Nat×Value)->World->Prop},
 oJ (AF P t) key es i=some res->Q res w->RT P (Instr.findAsking t key es i) w Q
 |
  [],i,res,Q,h,hq=>by
  simp only[oJ,jg]at h;subst h;exact .pure hq
 |
  e::es,i,res,Q,h,hq=>by
  unfold oJ at h;unfold Instr.findAsking;split at h
  ·rename_i he
   simp only[jg]at h;subst h;refine .bind (.kN (lA hk he) ?_);rw[jd rfl];exact .pure hq
  ·rename_i he
   refine .bind (.kN (lA hk he) ?_);rw[jc Bool.false_ne_true];exact RT.findAsking hk h hq
  ·cases h
theorem RT.wT{t:TypeId}{key:Value}{es:List MapEntry}{res:Option (Nat×Value)}{Q:Option (Nat×Value)->World->Prop}(hk:lM P t=true)(h0:AF P t key key=some true)
 (hf:oJ (AF P t) key es 0=some res)(hq:Q res w):RT P (Instr.findKey t key es) w Q:=by
 obtain⟨fs,xs,ys,hs,rfl,_,_⟩:=qO h0;unfold Instr.findKey;refine .bind (.underlying (gp hs) ?_);cases es with
 |
  nil=>
  simp only[oJ,jg]at hf;subst hf;exact .pure hq
 |
  cons e es=>
  have:Instr.findNow (.struct fs) (.agg xs) (e::es) 0=none:=rfl;rw[this];exact RT.findAsking hk hf hq
theorem wU{t:TypeId}{ke:TypeId×TypeId}{r:Option Nat}{key zero:Value}{sh:CS}{ok:Bool}{k:dw sh->Bool->Pr}{Q:Value->World->Prop}
 (ht:P.underlying t=some (.map ke.1 ke.2))(hk:lM P ke.1=true)(hz:zeroOf P ke.2=some zero)(h:lI (AF P ke.1) r key sh zero k w)
 (hq:∀p b,k p b w->Q (if ok then .tuple #[bC sh p,.bool b]else bC sh p) w):RT P (Instr.lookup t (.map r) key ok) w Q:=by
 obtain⟨es,res,p,hm,h0,hf,hv,Mb⟩:=h;unfold Instr.lookup;refine .bind (.underlying ht ?_);dsimp only;have fin:RT P (do
  Instr.checkKey es.isEmpty 10000 ke.1 key
  let(v,YL)<-match<-Instr.findKey ke.1 key es.toList with
   |some (_,v)=>Pure.pure (v,true)
   |none=>Pure.pure (<-zeroValue ke.2,false)
  Pure.pure (if ok then .tuple #[v,.bool YL]else v)) w Q:=by
  refine .bind (.sG hk h0 ?_);refine .bind (.wT hk h0 hf ?_);cases res with
  |
   none=>
   simp only[Option.map_none,Option.getD_none]at hv;refine .bind (di hz (.bind (.pure ?_)));rw[hv];exact .pure (hq p false (by simpa using Mb))
  |
   some iv=>
   simp only[Option.map_some,Option.getD_some]at hv;refine .bind (.pure ?_);simp only[hv];exact .pure (hq p true (by simpa using Mb))
 cases r with
 |
  none=>
  obtain rfl:es= #[]:=hm;exact .bind (.pure fin)
 |
  some b=>
  obtain⟨clock,hb⟩:=hm;exact .bind (.getObj hb (by simp) (.bind (.pure fin)))
theorem wV{t:TypeId}{ke:TypeId×TypeId}{r:Option Nat}{key v:Value}{k:Pr}{Q:Unit->World->Prop}
 (ht:P.underlying t=some (.map ke.1 ke.2))(hk:lM P ke.1=true)(h:AS (AF P ke.1) r key v k w)
 (hq:∀w',k w'->Q () w'):RT P (Instr.mapUpdate t (.map r) key v) w Q:=by
 obtain⟨b,es,clock,res,rfl,hb,h0,hf,h⟩:=h;unfold Instr.mapUpdate;refine .bind (.underlying ht ?_);refine .bind (.getObj hb (by simp) ?_);refine .bind (.sG hk h0 ?_);refine .bind (.wT hk h0 hf ?_);cases res with
 |none=>exact .setObj hb (by simp) (hq _ h)
 |
  some iv=>
  obtain⟨h1,h2⟩:=h;refine .bind ?_;unfold Instr.keyThatStays;rw[jd h1];exact .pure (.setObj hb (by simp) (hq _ h2))
theorem Fv{t:TypeId}{fs:Array Field}{x y:Operand}{u v:Value}{f:Bool->Pr}{Q:Value->World->Prop}(neg:Bool)(hs:eU P t=some fs)(h:wv P t fs u v f w)(hq:∀b,f b w->Q (.bool (if neg then !b else b)) w):
 RT P (do eqGuard (if neg then .neq else .eql) t x y u v;binOp (if neg then .neq else .eql) t u v) w Q:=by
 rcases aI h with⟨_,h⟩|⟨hg,h⟩
 ·exact h.elim
 obtain⟨xs,ys,rfl,rfl,h⟩:=jH h;obtain⟨b,hb,h⟩:=ai h;rw[Bool.or_eq_false_iff]at hg;have hu:P.underlying t=some (.struct fs):=by
  unfold eU at hs;split at hs
  ·simp only[jg]at hs;subst hs;assumption
  ·cases hs
 have xD:P.fieldsOf t=fs:=by simp[Program.fieldsOf,hu]
 have he:(Op.equal t (.agg xs) (.agg ys)).run P w=.ok b w:=by
  unfold Op.equal;change(Op.equalIn (9999+1) t _ _).run P w=_;rw[run_equalIn_struct w 9999 t xs ys (by rw[xD];exact hu) hg.2,xD];exact qN xs ys hb
 have hgd:(eqGuard (if neg then .neq else .eql) t x y (.agg xs) (.agg ys)).run P w=.ok () w:=by
  unfold eqGuard;cases neg<;>simp[go_sem,hg.1]
 refine .bind ⟨(),w,hgd,?_⟩;cases neg
 ·exact .bind ⟨_,w,he,.pure (hq _ h)⟩
 ·exact .bind ⟨_,w,he,.pure (hq _ h)⟩
theorem wW{t:TypeId}{x y:Operand}{u v:Value}{f:Bool->Pr}{Q:Value->World->Prop}(neg:Bool)(ht:yW P t=true)(h:oQ P u v f w)(hq:∀b,f b w->Q (.bool (if neg then !b else b)) w):
 RT P (do eqGuard (if neg then .neq else .eql) t x y u v;binOp (if neg then .neq else .eql) t u v) w Q:=by
 obtain⟨tx,vx,ty,vy,rfl,rfl,b,hb,h⟩:=h;obtain⟨ms,SC⟩:∃ms,P.underlying t=some (.interface ms):=by
  unfold yW at ht;split at ht
  ·exact⟨_,‹_›⟩
  ·cases ht
 have he:(Op.equal t (.iface tx vx) (.iface ty vy)).run P w=.ok b w:=by
  have:RT P (Op.equalIn (9999+1) t (.iface tx vx) (.iface ty vy)) w (λc w'=>c=b/\w'=w):=by
   unfold Op.equalIn;refine .bind (.underlying SC ?_);rcases hb with⟨hne,rfl⟩|⟨rfl,i,k,a,c,hi,hc,hu,rfl,rfl,rfl⟩
   ·simp only[ne_eq,hne,not_false_eq_true,if_true]
    exact .pure ⟨rfl,rfl⟩
   ·simp only[ne_eq,not_true_eq_false,if_false]
    refine .bind (.typeInfo hi ?_);simp only[hc,Bool.not_true,Bool.false_eq_true,if_false];exact⟨_,w,run_equalIn_int w 9998 tx _ _ _ _ hu,rfl,rfl⟩
  obtain⟨_,_,h6,rfl,rfl⟩:=this;exact h6
 have hgd:(eqGuard (if neg then .neq else .eql) t x y (.iface tx vx) (.iface ty vy)).run P w=.ok () w:=by
  unfold eqGuard;cases neg<;>rfl
 refine .bind ⟨(),w,hgd,?_⟩;cases neg
 ·exact .bind ⟨_,w,he,.pure (hq _ h)⟩
 ·exact .bind ⟨_,w,he,.pure (hq _ h)⟩
theorem wX{t:TypeId}{x y:Operand}{u v:Value}{f:Bool->Pr}{Q:Value->World->Prop}(neg:Bool)(ht:Io P t x y=true)(h:qk u v f w)(hq:∀b,f b w->Q (.bool (if neg then !b else b)) w):
 RT P (do eqGuard (if neg then .neq else .eql) t x y u v;binOp (if neg then .neq else .eql) t u v) w Q:=by
 unfold Io at ht;rw[jz]at ht;obtain⟨el,i,hu,hi,hs⟩:∃el i,P.underlying t=some (.pointer el)/\P.info? el=some i/\i.size≠0:=by
  have h2:=ht.2;unfold OB at h2;split at h2
  ·split at h2
   ·exact⟨_,_,‹_›,‹_›,by simpa using h2⟩
   ·cases h2
  ·cases h2
 unfold qk at h;split at h
 ·rename_i p q
  have he:(Op.equal t (.pointer p) (.pointer q)).run P w=.ok (p==q) w:=by
   have:RT P (Op.equalIn (9999+1) t (.pointer p) (.pointer q)) w (λc w'=>c=(p==q)/\w'=w):=by
    unfold Op.equalIn;refine .bind (.underlying hu ?_);cases p with
    |none=>exact .pure ⟨by cases q<;>rfl,rfl⟩
    |
     some a=>
     cases q with
     |none=>exact .pure ⟨rfl,rfl⟩
     |
      some b=>
      refine .bind (.sizeOf hi ?_);rw[jd hs];unfold sameAddr;rw[jd (by rw[h.1 a b rfl rfl];exact beq_self_eq_true _)];exact .pure ⟨rfl,rfl⟩
   obtain⟨_,_,h6,rfl,rfl⟩:=this;exact h6
  have hgd:(eqGuard (if neg then .neq else .eql) t x y (.pointer p) (.pointer q)).run P w=.ok () w:=by
   unfold eqGuard;cases neg<;>cases x<;>cases y<;>rfl
  refine .bind ⟨(),w,hgd,?_⟩;cases neg
  ·exact .bind ⟨_,w,he,.pure (hq _ h.2)⟩
  ·exact .bind ⟨_,w,he,.pure (hq _ h.2)⟩
 ·exact h.elim
theorem zw{t:TypeId}{s:ByteArray}{k:Nat->Pr}{Q:Value->World->Prop}(ht:P.underlying t=some .string)(h:tE s k w)
 (hq:∀b w',k b w'->Q (.pointer (some ⟨b,0,none⟩)) w'):RT P (Instr.range t (.string s)) w Q:=by
 unfold Instr.range;refine .bind (.underlying ht ?_);exact RT.bind (RT.pure (RT.bind (RT.newObj (RT.pure (hq _ _ h)))))
theorem CX{a:Addr}{k0:Pr}{k1:Nat->Nat->Pr}{Q:Value->World->Prop}{t:TypeId}(h:Fj a k0 k1 w)(xy:∀w',k0 w'->Q (.tuple #[.bool false]) w')(QM:∀i c w',k1 i c w'->Q (.tuple #[.bool true,.int .i64 (i:Nat),.int .i32 (c:Nat)]) w'):
 RT P (Instr.next (.pointer (some a)) true t) w Q:=by
 obtain⟨h0,s,pos,h1,h2,h3⟩:=h;obtain⟨b,off,sp⟩:=a;dsimp only at h0 h1;subst h0;unfold Instr.next;refine .bind (.getObj h1 (λ_ _ _=>by simp) ?_);dsimp only;by_cases hp:pos<s.size
 ·rw[jd hp]
  refine .bind (.setObj h1 (λ_ _ _=>by simp) ?_);exact .pure (QM _ _ _ (h3 hp))
 ·rw[jc hp]
  exact .pure (xy _ (h2 hp))
theorem ue{op:BinOp}{t:TypeId}{x y:Operand}{u v:Value}(h:tL v u=true):(eqGuard op t x y u v).run P w=.ok () w:=by
 unfold tL at h;split at h
 ·unfold eqGuard;cases op<;>rfl
 ·unfold eqGuard;cases op<;>rfl
 ·simp at h
theorem zx{t:TypeId}{ke:TypeId×TypeId}{r:Option Nat}{k:Nat->Pr}{Q:Value->World->Prop}(ht:P.underlying t=some (.map ke.1 ke.2))(h:qK r k w)
 (hq:∀b w',k b w'->Q (.pointer (some ⟨b,0,none⟩)) w'):RT P (Instr.range t (.map r)) w Q:=by
 unfold Instr.range;unfold qK at h;refine .bind (.underlying ht ?_);cases r with
 |none=>exact .bind (.pure (.bind (.newObj (.pure (hq _ _ h)))))
 |
  some m=>
  obtain⟨es,clock,hm,h⟩:=h;refine .bind (.bind (.getObj hm (λ_ _ _=>by simp) ?_));refine RT.pure (RT.bind (RT.pure (RT.bind (RT.newObj (RT.pure (hq _ _ h))))))
theorem zy{a:Addr}{k:MapEntry->Pr}{Q:Value->World->Prop}(h:tY a k w)(hq:∀e w',k e w'->Q (.tuple #[e.key,e.val]) w'):RT P (Instr.entry (.pointer (some a))) w Q:=by
 obtain⟨h0,m,since,seen,stepped,es,clock,stamp,e,h1,h2,h3,h4,h5,h8⟩:=h;obtain⟨b,off,sp⟩:=a;dsimp only at h0 h1;subst h0;unfold Instr.entry;refine RT.bind (RT.getObj h1 (λ_ _ _=>by simp) ?_);dsimp only;rw[h2];dsimp only;refine RT.bind (RT.getObj h3 (λ_ _ _=>by simp) ?_);dsimp only;subst h4;simp only[bne_self_eq_false,Bool.false_eq_true,if_false,h5];exact .pure (hq _ _ h8)
theorem RT.zz{n:Nat}{Q:Nat->World->Prop}(hn:0<n)(h:∀i w1,i<n->(w1=w\/w1=w.drew)->Q i w1):RT P (Go.choose (.mapNext n)) w Q:=by
 have hr:=run_choose_drew P w (.mapNext n);by_cases hf:n<=1
 ·refine⟨0,w,?_,h 0 w hn (.inl rfl)⟩
  rw[hr];simp[Question.forced,hf]
 ·refine⟨w.tape w.drawn (.mapNext n)%n,w.drew,?_,h _ _ (Nat.mod_lt _ hn) (.inr rfl)⟩
  rw[hr];simp[Question.forced,hf,Question.cut]
theorem CY{a:Addr}{k0:Pr}{k1:MapEntry->Pr}{Q:Value->World->Prop}{t:TypeId}(h:AR a k0 k1 w)(xy:∀w',k0 w'->Q (.tuple #[.bool false]) w')(QM:∀e w',k1 e w'->Q (.tuple #[.bool true,e.key,e.val]) w'):
 RT P (Instr.next (.pointer (some a)) false t) w Q:=by
 obtain⟨h0,h⟩:=h;obtain⟨b,off,sp⟩:=a;dsimp only at h0 h;subst h0;unfold Instr.next;rcases h with⟨c,f,d,h1,h2⟩|⟨m,since,seen,last,es,clock,h1,h2,h3,h4⟩
 ·exact .bind (.getObj h1 (λ_ _ _=>by simp) (.pure (xy _ h2)))
 ·refine .bind (.getObj h1 (λ_ _ _=>by simp) ?_)
  dsimp only;refine .bind (.getObj h2 (λ_ _ _=>by simp) ?_);dsimp only;rw[jc (by rw[h3];simp)];generalize hc:(if((es.filter λe=> !seen.contains e.born).filter (·.born<since)).isEmpty=true then(#[none]:Array (Option MapEntry))else#[])++(((es.filter λe=> !seen.contains e.born).filter (·.born<since))++((es.filter λe=> !seen.contains e.born).filter (·.born>=since))).map some=cs;have hpos:0<cs.size:=by
   rw[<-hc];split
   ·simp only[Array.size_append,List.size_toArray,List.length_cons,List.length_nil];omega
   ·rename_i hne
    have:0<((es.filter λe=> !seen.contains e.born).filter (·.born<since)).size:=by
     rcases Nat.eq_zero_or_pos ((es.filter λe=> !seen.contains e.born).filter (·.born<since)).size with h|h
     ·exact absurd (by simpa[Array.isEmpty]using h) hne
     ·exact h
    simp only[Array.size_append,Array.size_map];omega
  refine RT.bind (RT.zz hpos λi w1 hi hw=>?_);obtain⟨hend,OH⟩:=h4 w1 hw;rw[Array.getElem?_eq_getElem hi];have hmem:cs[i]∈cs:=Array.getElem_mem hi;generalize cs[i]=x at hmem⊢;rw[<-hc,Array.mem_append]at hmem;have GW:w1.heap[b]? =some (.mapIter (some m) since seen last):=by rcases hw with rfl|rfl<;>exact h1
  cases x with
  |
   none=>
   refine RT.pure (xy _ (hend ?_));rcases hmem with hmem|hmem
   ·split at hmem
    ·rename_i OI
     intro e he hb;cases hs:seen.contains e.born with
     |true=>rfl
     |
      false=>
      exfalso;have h9:e∈((es.filter λe=> !seen.contains e.born).filter (·.born<since)):=by
       rw[Array.mem_filter,Array.mem_filter];exact⟨⟨by simpa using he,by simpa using hs⟩,by simpa using hb⟩
      rw[Array.isEmpty_iff]at OI;rw[OI]at h9;simp at h9
    ·simp at hmem
   ·simp at hmem
  |
   some e=>
   have he:e∈es.toList/\seen.contains e.born=false:=by
    rcases hmem with hmem|hmem
    ·split at hmem<;>simp at hmem
    ·rw[Array.mem_map]at hmem
     obtain⟨e',h5,h6⟩:=hmem;simp only[jg]at h6;subst h6;simp only[Array.mem_append,Array.mem_filter]at h5;have h7:e'∈es/\(!seen.contains e'.born)=true:=by rcases h5 with h5|h5<;>exact h5.1
     exact⟨by simpa using h7.1,by simpa using h7.2⟩
   refine RT.bind (RT.setObj GW (λ_ _ _=>by simp) (RT.pure (QM _ _ (OH e he.1 he.2))))
theorem E4{o:Oper}(he:Ag e a)(h:cop P o e k w)(hc:∀c,o.op≠.call c):RT P (execOp a.eval o) w (NX k):=by
 obtain⟨dst,op,ty,pos,after,guard⟩:=o;cases op<;>simp only[cop]at h<;>try exact h.elim
 case makeInterface t x=>
  obtain⟨d,hd,h2⟩:=ai (dI he h);rcases aI h2 with⟨_,h2⟩|⟨hb,h2⟩
  ·exact h2.elim
  ·refine RT.value' ?_
   unfold Instr.makeInterface;refine .bind (.underlying hd ?_);cases d<;>first|exact .pure h2|(simp[oB]at hb;done)
 case typeAssert x xt T ok=>
  obtain⟨d,hd,h2⟩:=ai (dI he h);rcases aI h2 with⟨_,h2⟩|⟨hb,h2⟩
  ·obtain⟨want,hw,h2⟩:=ai h2
   obtain⟨z,hz,h2⟩:=ai h2;obtain⟨b,h3,h4⟩:=h2;cases d<;>simp only[Fl,reduceCtorEq,jg]at hw;subst hw;refine RT.value' ?_;unfold Instr.typeAssert;refine .bind (.underlying hd ?_);have hf:ok=true->b=false->RT P (do pure (Value.tuple #[<-zeroValue T,.bool false]):Sem Value) w (λv w'=>k (.val v) w'):=by
    rintro rfl rfl;exact .bind (di hz (.pure h4))
   rcases h3 with⟨rfl,t,u,i,hv,hi,hm⟩|⟨hok,hb0,hv|⟨t,u,i,m,hv,hi,hm⟩⟩
   ·rw[hv]at h4⊢
    refine .bind (.typeInfo hi ?_);rw[hm];cases ok<;>exact .pure h4
   ·rw[hv]
    have:=hf hok hb0;subst hok;exact this
   ·rw[hv]
    refine .bind (.typeInfo hi ?_);rw[hm];have:=hf hok hb0;subst hok;exact this
  obtain⟨sh,_,h2⟩:=ai h2;obtain⟨z,hz,h2⟩:=ai h2;refine RT.value' ?_;unfold Instr.typeAssert;refine .bind (.underlying hd ?_);obtain⟨p,b,h3,h4⟩:=h2;rcases h3 with⟨rfl,hv⟩|⟨rfl,rfl,hp,hv⟩
  ·rw[hv]
   have:RT P (Pure.pure (if ok then .tuple #[val sh p,.bool true]else val sh p):Sem Value) w (λv w'=>k (.val v) w'):=by
    cases ok<;>exact .pure h4
   cases d<;>first|(simp only[if_true];exact this)|(simp[oB]at hb;done)
  ·have:RT P (do pure (Value.tuple #[<-zeroValue T,.bool false]):Sem Value) w (λv w'=>k (.val v) w'):=by
    refine .bind (di hz (.pure ?_));rw[<-hp];exact h4
   rcases hv with hv|⟨t,u,hv,hne⟩
   ·rw[hv]
    cases d<;>first|exact this|(simp[oB]at hb;done)
   ·rw[hv]
    cases d<;>first|(simp only[hne,if_false];exact this)|(simp[oB]at hb;done)
 case move x=>exact .pure (AT he h)
 case assign x=>exact .pure (AT he h)
 case pick c x y=>exact Fm he h
 case alloc t=>
  obtain⟨z,hz,h⟩:=ai h;refine RT.value' ?_;exact .bind (di hz (.bind (.newVar h λ_ _ h=>.pure h)))
 case box t x=>exact RT.value' (.bind (.newVar (dI he h) λ_ _ h=>.pure h))
 case build t parts=>
  obtain⟨z,hz,h⟩:=ai h;have h1:=iz he h;obtain⟨d,hd,h2⟩:=ai h1;clear h h1;refine RT.value' ?_;unfold Instr.build;refine .bind (di hz (.bind (.underlying hd ?_)));have hp:(parts.map λ(i,x)=>(i,a.eval x)).toList=parts.toList.map λ(i,x)=>(i,a.eval x):=by simp
  cases d with
  |
   struct fs=>
   obtain⟨pl,nq,h2⟩:=ai h2;obtain⟨cs,hcs,h2⟩:=fT h2;have hf:=fU hcs;simp only[Array.toArray_toList]at hf;dsimp only;rw[show fs=fs.toList.toArray by simp,List.mapM_toArray];refine .bind ?_;rw[map_eq_pure_bind];refine .bind (mZ nq (.pure ?_));rw[hp];have SD:(λj:Nat=>pl.toArray[j]?)=(λj:Nat=>pl[j]?):=by funext j;simp
   rw[SD,hf];exact .pure h2
  |
   array ln el=>
   obtain⟨i,hi,h2⟩:=ai h2;obtain⟨cs,hcs,h2⟩:=fT h2;have hf:=fU hcs;simp only[Array.toArray_toList]at hf;refine .bind (.sizeOf hi ?_);rw[hp,hf];exact .pure h2
  |_=>exact h2.elim
 case buildSlice t len parts=>
  have h1:=iz he h;obtain⟨el,pD,h2⟩:=ai h1;obtain⟨i,hi,h2⟩:=ai h2;obtain⟨z,hz,h2⟩:=ai h2;obtain⟨⟨hzs,hs0,hlen⟩,h2⟩:=cN h2;obtain⟨cs,hcs,h2⟩:=fT h2;clear h h1;refine RT.value' ?_;unfold Instr.buildSlice;refine .bind (.underlying (aW pD) (.bind (.sizeOf hi ?_)));rw[jc (Nat.not_lt.2 hlen)];have hp:(parts.map λ(i,x)=>(i,a.eval x)).toList=parts.toList.map λ(i,x)=>(i,a.eval x):=by simp
  have hf:=fU hcs;have AU:=Fo z.cells.toList len i.size (by simpa using hzs);simp only[Array.toArray_toList]at AU;by_cases h0:len*i.size=0
  ·rw[jd h0]
   have YM:len=0:=(Nat.mul_eq_zero.1 h0).resolve_right hs0;refine .bind (.pure ?_);dsimp only;have e0:∀g:Nat->Value,Array.map g (Array.range 0)=[].toArray:=λ_=>by simp
   rw[h0,e0,hp];have:zc z.cells.toList len=[]:=by simp[YM,zc]
   rw[this]at hf;rw[hf];exact .bind (.bind (.newObj (.pure (.pure h2))))
  ·rw[jc h0]
   refine .bind (.zeroValue hi hz (.bind (.pure ?_)));dsimp only;rw[hp,hzs,AU,hf];exact .bind (.bind (.newObj (.pure (.pure h2))))
 case load t x=>
  have h1:=dI he h;obtain⟨ad,hv,h2⟩:=eM h1;refine RT.value' ?_;unfold Instr.loadAt;rw[hv];exact .bind (.pure (.loadVar h2 λ_ h=>h))
 case store t x y=>
  have h1:=dI he h;obtain⟨ad,hv,h2⟩:=eM h1;have h3:=dI he h2;refine RT.skip ?_;unfold Instr.storeAt;rw[hv];exact .bind (.pure (.storeVar h3 λ_ h=>h))
 case nilCheck x=>
  have h1:=dI he h;clear h;unfold execOp;dsimp only;generalize a.eval x=v at h1⊢;cases v with
  |
   pointer p=>
   obtain⟨ad,rfl,h2⟩:=dW.1 h1;exact .pure ⟨_,Good.val _,h2⟩
  |
   func fn f1 f2=>
   obtain⟨h2,h3⟩:=h1;cases fn<;>first|exact(h2:False).elim|exact .pure ⟨_,Good.val _,h3⟩
  |int _ _=>exact h1.elim
  |bool _=>exact h1.elim
  |string _=>exact h1.elim
  |nilIface=>exact h1.elim
  |slice _ _ _=>exact h1.elim
  |map _=>exact h1.elim
  |float _ _=>exact(h1.1:False).elim
  |complex _ _ _=>exact(h1.1:False).elim
  |chan _=>exact(h1.1:False).elim
  |nilFunc=>exact(h1.1:False).elim
  |iface _ _=>exact(h1.1:False).elim
  |agg _=>exact(h1.1:False).elim
  |tuple _=>exact(h1.1:False).elim
 case binOp op t x y V9=>
  rcases aI h with⟨hb,h⟩|⟨_,h⟩
  ·simp only[jz]at hb
   obtain⟨hy,ht⟩:=hb;have h1:=dI he h;clear h;have hy':y=.const .nilIface:=by
    unfold EW at hy;split at hy<;>simp_all
   subst hy';obtain⟨ms,SC⟩:∃ms,P.underlying t=some (.interface ms):=by
    unfold yW at ht;split at ht
    ·exact⟨_,‹_›⟩
    ·cases ht
   refine RT.value' ?_;generalize a.eval x=u at h1⊢;have hn:a.eval (.const .nilIface)=.nilIface:=rfl;rw[hn];have key:tK u->(eqGuard op t x (.const .nilIface) u .nilIface).run P w=.ok () w/\(Op.equal t u .nilIface).run P w=.ok (cg u) w:=by
    intro hi;have YN:RT P (Op.equalIn (9999+1) t u .nilIface) w (λb w'=>b=cg u/\w'=w):=by
     unfold Op.equalIn;refine .bind (.underlying SC ?_);cases u<;>first|exact hi.elim|exact .pure ⟨rfl,rfl⟩
    refine⟨?_,?_⟩
    ·unfold eqGuard
     cases u<;>first|exact hi.elim|(cases x<;>cases op<;>rfl)
    ·obtain⟨v,w',h3,rfl,rfl⟩:=YN
     exact h3
   cases op<;>first|exact h1.elim|skip
   all_goals
    obtain⟨hi,h2⟩:=h1;obtain⟨k1,k2⟩:=key hi;refine .bind ⟨(),w,k1,?_⟩;cases u<;>first|exact hi.elim|exact .bind ⟨_,w,k2,.pure h2⟩
  have h1:=dI he (dI he h);clear h;refine RT.value' ?_;generalize a.eval x=u at h1⊢;generalize a.eval y=v at h1⊢;have h9:=aI h1;clear h1;rcases h9 with⟨hi,h1⟩|⟨_,h1⟩
  ·cases op<;>first
    |exact h1.elim
    |exact wW false hi h1 λ_ h=>h
    |exact wW true hi h1 λ_ h=>h
  rcases aI h1 with⟨hi,h1⟩|⟨_,h1⟩
  ·cases op<;>first
    |exact h1.elim
    |exact wX (f:=λb=>k (.val (.bool (if false then !b else b)))) false hi h1 λ_ h=>h
    |exact wX (f:=λb=>k (.val (.bool (if true then !b else b)))) true hi h1 λ_ h=>h
  rcases aI h1 with⟨hn,h1⟩|⟨hn,h1⟩
  ·refine .bind ⟨(),w,?_,?_⟩
   ·exact ue hn
   ·obtain⟨v,hv,h2⟩:=Iz (P:=P) (t:=t) h1
    exact⟨v,w,hv,h2⟩
  ·have fin:∀neg:Bool,tG P t u v (λb=>k (.val (.bool (if neg then !b else b)))) w->RT P (do eqGuard (if neg then .neq else .eql) t x y u v;binOp (if neg then .neq else .eql) t u v) w λv w'=>k (.val v) w':=by
    intro neg h2;rcases gk (show orElse _ _ _ w from h2)with⟨fs,xD,h2⟩|⟨_,h2⟩
    ·exact Fv neg xD h2 λ_ h=>h
    ·exact IF neg h2
   cases op<;>first
    |exact h1.elim
    |exact fin false h1
    |exact fin true h1
 case unOp op t x=>
  obtain⟨v,u,hv,hr,y,hy,h2⟩:=IC h;refine RT.value ?_;rw[he.eval (x:=x) hv];exact⟨_,w,hr,y,hy,h2⟩
 case convert s d x=>exact RT.value' (CV (dI he h))
 case makeFunc fn first caps=>
  have h1:=eK he h;have h2:=eK he h1;have e1:(first.toList.map a.eval).toArray=first.map a.eval:=by rw[<-Array.toList_map,Array.toArray_toList]
  have e2:(caps.toList.map a.eval).toArray=caps.map a.eval:=by rw[<-Array.toList_map,Array.toArray_toList]
  rw[e1,e2]at h2;exact RT.value' (.pure h2)
 case makeMap t r=>
  cases r with
  |none=>exact RT.value' (.bind (.newObj (.pure h)))
  |some _=>exact h.elim
 case makeSlice t l c=>
  obtain⟨el,pD,h⟩:=ai h;obtain⟨i,hi,h⟩:=ai h;obtain⟨z,hz,h⟩:=ai h;obtain⟨⟨hzs,hs0⟩,h⟩:=cN h;obtain⟨k1,ln,hl,h⟩:=eX (dI he h);obtain⟨k2,cn,rL,h⟩:=eX (dI he h);refine RT.value' ?_;rw[hl,rL];exact IA (aW pD) hi hz hzs hs0 h λ_ _ h=>h
 case slice t x lo hi mx=>
  have h1:=dI he h;obtain⟨l,k1,hl,h2⟩:=n3 he h1;obtain⟨hh,k2,hhi,h3⟩:=n3 he h2;obtain⟨m,k3,hm,h4⟩:=n3 he h3;clear h h1 h2 h3;refine RT.value' ?_;rw[hl,hhi,hm];generalize a.eval x=v at h4⊢;split at h4
  ·rename_i a0 ln c
   obtain⟨el,pD,h⟩:=ai h4;obtain⟨i,hi,h⟩:=ai h;exact wS (s:=⟨a0,ln,c⟩) (aW pD) hi h λ_ h=>h
  ·obtain⟨d,hd,h9⟩:=ai h4
   clear h4;split at h9
   ·exact uc hd h9 λ_ h=>h
   ·exact h9.elim
  ·exact h4.elim
 case fieldAddr s x f=>
  obtain⟨ad,hv,h2⟩:=eM (dI he h);obtain⟨fl,hfl,h2⟩:=ai h2;obtain⟨i,hi,h2⟩:=ai h2;obtain⟨hs,h2⟩:=cN h2;obtain⟨fs,xD,hf⟩:=lz hfl;refine RT.value' ?_;unfold Instr.fieldAt;refine .bind (.underlying xD ?_);simp only[hf,hv];refine .bind (.pure (.bind ?_));unfold fieldPlace;refine .bind (.sizeOf hi ?_);rw[jc hs];exact .pure (.pure h2)
 case field s x f=>
  obtain⟨cs,hv,h2⟩:=gm (dI he h);obtain⟨fl,hfl,h2⟩:=ai h2;obtain⟨i,hi,h2⟩:=ai h2;obtain⟨d,hd,h2⟩:=ai h2;obtain⟨fs,xD,hf⟩:=lz hfl;refine RT.value' ?_;unfold Instr.field;refine .bind (.underlying xD ?_);simp only[hf,hv];refine .bind (.pure ?_);unfold Go.part;refine .bind (.kN (iS hd) ?_);rcases aI h2 with⟨nv,h2⟩|⟨nv,h2⟩
  ·rw[nv,jd rfl]
   exact .bind (.sizeOf hi (.pure h2))
  ·rw[nv,jc Bool.false_ne_true]
   obtain⟨c,rL,h2⟩:=ai h2;simp only[rL];exact .pure h2
 case indexAddr t x ix=>
  have h1:=dI he h;obtain⟨k1,n,hn,h2⟩:=eX (dI he h1);clear h h1;refine RT.value' ?_;unfold Instr.indexAt;rw[hn];refine .bind (.pure ?_);dsimp only;generalize a.eval x=v at h2⊢;split at h2
  ·rename_i a0 ln c
   obtain⟨el,pD,h⟩:=ai h2;obtain⟨i,hi,h⟩:=ai h;obtain⟨hb,h⟩:=h;obtain⟨ad,rfl,h5⟩:=dW.1 h;refine .bind (.underlying (aW pD) (.bind (.pure (.bind (.underlying (aW pD) ?_)))));dsimp only;rw[jd hb];exact .bind (.sizeOf hi (.pure h5))
  ·obtain⟨d,hd,h9⟩:=ai h2
   clear h2;split at h9
   ·obtain⟨i,hi,h⟩:=ai h9
    obtain⟨hb,h⟩:=h;obtain⟨ad,rfl,h5⟩:=dW.1 h;refine .bind (.underlying hd (.bind (.pure (.bind (.pure (.bind (.underlying hd ?_)))))));dsimp only;rw[jd hb];exact .bind (.sizeOf hi (.pure h5))
   ·exact h9.elim
  ·exact h2.elim
 case index t x ix=>
  have h1:=dI he h;obtain⟨k1,n,hn,h2⟩:=eX (dI he h1);clear h h1;refine RT.value' ?_;unfold Instr.index;rw[hn];refine .bind (.pure ?_);dsimp only;generalize a.eval x=v at h2⊢;split at h2
  ·rename_i s
   obtain⟨d,hd,h9⟩:=ai h2;clear h2;split at h9
   ·obtain⟨hb,h9⟩:=h9
    refine .bind (.underlying hd ?_);have hlt:n.toNat<s.size:=by omega
    simp only[hb.1,if_true];rw[getElem?_pos s n.toNat hlt]at h9⊢;exact .pure h9
   ·exact h9.elim
  ·exact h2.elim
 case lookup t x ix ok=>
  have h1:=dI he (dI he h);obtain⟨r,hr,h2⟩:=hO h1;obtain⟨ke,vC,h2⟩:=ai h2;obtain⟨kd,Mc,h2⟩:=ai h2;rcases aI h2 with⟨hs,h2⟩|⟨_,h2⟩
  ·obtain⟨l,hl,h2⟩:=ai h2
   obtain⟨sh,hsh,h2⟩:=ai h2;obtain⟨z,hz,h2⟩:=ai h2;refine RT.value' ?_;rw[hr];refine zk (cj vC) Mc hs hz h2 λp b h=>?_;rcases aI h with⟨hok,h⟩|⟨hok,h⟩<;>simpa[hok]using h
  ·rcases aI h2 with⟨hs,h2⟩|⟨_,h2⟩
   ·obtain⟨l,hl,h2⟩:=ai h2
    obtain⟨sh,hsh,h2⟩:=ai h2;obtain⟨z,hz,h2⟩:=ai h2;refine RT.value' ?_;rw[hr];refine wU (cj vC) hs hz h2 λp b h=>?_;rcases aI h with⟨hok,h⟩|⟨hok,h⟩<;>simpa[hok]using h
   ·exact h2.elim
 case mapUpdate t m ky x=>
  have h1:=dI he (dI he (dI he h));obtain⟨r,hr,h2⟩:=hO h1;obtain⟨ke,vC,h2⟩:=ai h2;obtain⟨kd,Mc,h2⟩:=ai h2;rcases aI h2 with⟨hs,h2⟩|⟨_,h2⟩
  ·refine RT.skip ?_
   rw[hr];exact zl (cj vC) Mc hs h2 λ_ h=>h
  ·rcases aI h2 with⟨hs,h2⟩|⟨_,h2⟩
   ·refine RT.skip ?_
    rw[hr];exact wV (cj vC) hs h2 λ_ h=>h
   ·exact h2.elim
 case extract t ix=>
  refine RT.value ?_;unfold Instr.extract;cases hx:Env.ev e t with
  |
   xB=>
   rw[hx]at h;have hv:=he.eval (x:=t) (v:=.tuple #[.bool false]) (by rw[hx];rfl);rw[hv]
   match ix,h with
   |0,h=>exact .pure ⟨_,λu hu=>by simpa[EV.v?]using hu.symm,h⟩
   |_+1,h=>exact h.elim
  |
   xC k1 v1=>
   rw[hx]at h;have hv:=he.eval (x:=t) (v:=.tuple #[.bool true,k1,v1]) (by rw[hx];rfl);rw[hv]
   match ix,h with
   |0,h=>exact .pure ⟨_,λu hu=>by simpa[EV.v?]using hu.symm,h⟩
   |1,h=>exact .pure ⟨_,λu hu=>by simpa[EV.v?]using hu.symm,h⟩
   |2,h=>exact .pure ⟨_,λu hu=>by simpa[EV.v?]using hu.symm,h⟩
   |_+3,h=>exact h.elim
  |
   yP k1 v1=>
   rw[hx]at h;have hv:=he.eval (x:=t) (v:=.tuple #[k1,v1]) (by rw[hx];rfl);rw[hv]
   match ix,h with
   |
    0,h=>
    obtain⟨l,_,h⟩:=ai (show oz P _ _ w from h);obtain⟨s,_,h⟩:=ai h;obtain⟨p,hp,h⟩:=h;exact .pure ⟨_,λu hu=>by simp only[EV.v?,jg]at hu;rw[<-hu];exact hp.symm,h⟩
   |
    1,h=>
    obtain⟨l,_,h⟩:=ai (show oz P _ _ w from h);obtain⟨s,_,h⟩:=ai h;obtain⟨p,hp,h⟩:=h;exact .pure ⟨_,λu hu=>by simp only[EV.v?,jg]at hu;rw[<-hu];exact hp.symm,h⟩
   |_+2,h=>exact h.elim
  |no=>rw[hx]at h;exact h.elim
  |lit b=>rw[hx]at h;exact h.elim
  |
   val v=>
   rw[hx]at h;have hv:=he.eval (x:=t) (v:=v) (by rw[hx];rfl);rw[hv];cases v<;>first|exact h.elim|skip
   obtain⟨c,rL,h1⟩:=ai (show opt _ _ w from h);simp only[rL];exact .pure ⟨_,Good.val _,h1⟩
 case range t x=>
  refine RT.value' ?_;rcases aI (dI he h)with⟨hs,h2⟩|⟨_,h2⟩
  ·obtain⟨s,hr,h2⟩:=wQ h2
   rw[hr];exact zw (jI hs) h2 λ_ _ h=>h
  ·obtain⟨r,hr,h2⟩:=hO h2
   obtain⟨ke,vC,h2⟩:=ai h2;rw[hr];exact zx (cj vC) h2 λ_ _ h=>h
 case next it str=>
  obtain⟨ad,hv,h3⟩:=eM (dI he h);refine RT.value ?_;rw[hv];have h4:=aI h3;clear h h3;rcases h4 with⟨hs,h2⟩|⟨hs,h2⟩
  ·subst hs
   exact CX h2 (λ_ h=>⟨_,λu hu=>by simpa[EV.v?]using hu.symm,h⟩) (λ_ _ _ h=>⟨_,λu hu=>by simpa[EV.v?]using hu.symm,h⟩)
  subst hs;exact CY h2 (λ_ h=>⟨_,λu hu=>by simpa[EV.v?]using hu.symm,h⟩) (λ_ _ h=>⟨_,λu hu=>by simpa[EV.v?]using hu.symm,h⟩)
 case entry it=>
  obtain⟨ad,hv,h2⟩:=eM (dI he h);refine RT.value ?_;rw[hv];exact zy h2 λ_ _ h=>⟨_,λu hu=>by simpa[EV.v?]using hu.symm,h⟩
 case call c=>exact absurd rfl (hc c)
end
section
variable{P:Program}{e:Env}{a:Act}{w:World}{k:EV->Pr}
theorem Wn(x:Value)(l:Array Value):(#[x]++l)[0]? =some x:=by
 rw[Array.getElem?_append_left (by simp)];rfl
theorem Wo(x:Value)(l:Array Value):(#[x]++l).extract 1 (#[x]++l).size=l:=by
 apply Array.ext';rw[Array.toList_extract,Array.toList_append,Array.size_append];simp only[List.size_toArray,List.length_cons,List.length_nil,List.cons_append,List.nil_append,List.extract_eq_take_drop,List.drop_succ_cons,List.drop_zero];exact List.take_of_length_le (by simp)
theorem zA{r:Option Nat}{n:Nat}{next:Act->World->Prop}{Q:Exit->Act->World->Prop}{dst:Option Tmp}{x:Operand}{args:Array Operand}{ats:Array TypeId}{ty:TypeId}{pos:String}{after:Array Edge}
 {guard:Option (Nat×Bool)}{aU:List Sh}{kk:b9 aU->Pr}(h2:cE P (a.eval x) (args.toList.map a.eval) aU kk w)(hk:∀p w',kk p w'->next (a.put dst (dM aU p)) w'):
 Oper.uponIn (wf r) n P ⟨dst,.call ⟨.value x,args,ats⟩,ty,pos,after,guard⟩ a next Q ((execOp a.eval ⟨dst,.call ⟨.value x,args,ats⟩,ty,pos,after,guard⟩).run P w):=by
 have hargs:(args.toList.map a.eval).toArray=args.map a.eval:=by rw[<-Array.toList_map,Array.toArray_toList]
 unfold cE at h2;rw[hargs]at h2;rcases h2 with⟨f,first,caps,hv,mV,h2⟩|⟨l,caps,hv,fn,tmps,assign,body,hy,h2⟩
 ·have hrun:(execOp a.eval ⟨dst,.call ⟨.value x,args,ats⟩,ty,pos,after,guard⟩).run P w=.ok (.enter f (first++args.map a.eval++caps)) w:=by
   simp only[execOp,resolve,Deferred.ofValue,hv,Sem.run_bind,Sem.run_pure,Result.andThen_ok,invoke];exact dY mV
  rw[hrun];exact upon_enter h2 hk
 ·have hrun:(execOp a.eval ⟨dst,.call ⟨.value x,args,ats⟩,ty,pos,after,guard⟩).run P w=.ok (.round l fn tmps assign body) w:=by
   simp only[execOp,resolve,Deferred.ofValue,hv,Sem.run_bind,Sem.run_pure,Result.andThen_ok,invoke,Array.empty_append];exact hy
  rw[hrun];exact zu h2 hk
theorem sH{r:Option Nat}{n:Nat}{o:Oper}{next:Act->World->Prop}{Q:Exit->Act->World->Prop}(he:Ag e a)(h:cop P o e k w)
 (hk:∀x v w',Good x v->k x w'->next (a.put o.dst v) w'):o.uponIn (wf r) n P a next Q ((o.semAt r a.eval).run P w):=by
 have hnd:∀c,o.op≠.defer c:=by
  intro c hc;obtain⟨dst,op,ty,pos,after,guard⟩:=o;dsimp only at hc;subst hc;exact h
 rw[Oper.semAt_eq r a.eval o hnd];rcases Classical.em (∀c,o.op≠.call c)with hno|hno
 ·exact AW (E4 he h hno) hk
 obtain⟨c,hc⟩:∃c,o.op=.call c:=Classical.byContradiction λh=>hno λc hc=>h ⟨c,hc⟩;clear hno;obtain⟨dst,op,ty,pos,after,guard⟩:=o;dsimp only at hc;subst hc;clear hnd;simp only[cop]at h;have h1:=eK he h;clear h;obtain⟨callee,args,ats⟩:=c;have hargs:(args.toList.map a.eval).toArray=args.map a.eval:=by rw[<-Array.toList_map,Array.toArray_toList]
 dsimp only at h1;have hval:∀x,nd (Env.ev e x) (λfv=>opt (qL P ty) λaU=>cE P fv (args.toList.map a.eval) aU λp=>k (.val (dM aU p))) w->
  Oper.uponIn (wf r) n P ⟨dst,.call ⟨.value x,args,ats⟩,ty,pos,after,guard⟩ a next Q ((execOp a.eval ⟨dst,.call ⟨.value x,args,ats⟩,ty,pos,after,guard⟩).run P w):=by
  intro x h;obtain⟨aU,_,h2⟩:=ai (dI he h);exact zA h2 λp w' hp=>hk _ _ _ (Good.val _) hp
 cases callee with
 |
  value x=>
  cases x with
  |
   func f=>
   obtain⟨aU,SE,h0⟩:=ai h1;rcases aI h0 with⟨mV,h2⟩|⟨_,h2⟩
   ·unfold aH at h2
    rw[hargs]at h2;have hrun:(execOp a.eval ⟨dst,.call ⟨.value (.func f),args,ats⟩,ty,pos,after,guard⟩).run P w=.ok (.enter f (args.map a.eval)) w:=by
     simp only[execOp,resolve,Deferred.ofValue,Act.eval,Sem.run_bind,Sem.run_pure,Result.andThen_ok,invoke,Array.empty_append,Array.append_empty];exact dY mV
    rw[hrun];exact upon_enter h2 λp w' hp=>hk _ _ _ (Good.val _) hp
   ·obtain⟨p,w',hr,h3⟩:=h2
    rw[hargs]at hr;have hrun:(execOp a.eval ⟨dst,.call ⟨.value (.func f),args,ats⟩,ty,pos,after,guard⟩).run P w=.ok (.value (dM aU p)) w':=by
     simp only[execOp,resolve,Deferred.ofValue,Act.eval,Sem.run_bind,Sem.run_pure,Result.andThen_ok,invoke,Array.empty_append,Array.append_empty];exact hr
    rw[hrun];exact hk _ _ _ (Good.val _) h3
  |tmp t=>exact hval _ h1
  |const v=>exact hval _ h1
  |global g=>exact hval _ h1
 |
  builtin b=>
  refine AW (k:=k) ?_ hk;unfold execOp;dsimp only;unfold resolve;dsimp only;refine .bind (.pure ?_);dsimp only[invoke];rw[<-hargs];exact oC h1
 |
  invoke x name=>
  obtain⟨aU,_,h2⟩:=ai (dI he h1);obtain⟨t,u,f,recv,hv,hm,h2⟩:=h2;rw[hargs]at h2;rcases h2 with⟨mV,h2⟩|⟨p,w',hr,h3⟩
  ·have hrun:(execOp a.eval ⟨dst,.call ⟨.invoke x name,args,ats⟩,ty,pos,after,guard⟩).run P w=.ok (.enter f (#[recv]++args.map a.eval)) w:=by
    simp only[execOp,resolve,Sem.run_bind,Sem.run_pure,Result.andThen_ok,invoke,Wn,Wo,callMethod,hv,run_program,hm];exact dY mV
   rw[hrun];exact upon_enter h2 λp w' hp=>hk _ _ _ (Good.val _) hp
  ·have hrun:(execOp a.eval ⟨dst,.call ⟨.invoke x name,args,ats⟩,ty,pos,after,guard⟩).run P w=.ok (.value (dM aU p)) w':=by
    simp only[execOp,resolve,Sem.run_bind,Sem.run_pure,Result.andThen_ok,invoke,Wn,Wo,callMethod,hv,run_program,hm];exact hr
   rw[hrun];exact hk _ _ _ (Good.val _) h3
theorem wY{r:Option Nat}{n:Nat}{o:Oper}{next:Act->World->Prop}{Q:Exit->Act->World->Prop}{f:FuncId}{args:Array Value}{aU:List Sh}{kk:b9 aU->Pr}{q:List PanicEntry->Pr}
 (h:Calls P f args w (iL q aU kk))(hk:∀p w',kk p w'->next (a.put o.dst (dM aU p)) w')(hp:∀ch w',q ch w'->Q (.panic ch) a w'):o.uponIn (wf r) n P a next Q (.ok (.enter f args) w):=by
 rw[Oper.uponIn_enter];refine⟨λh=>by simp[wf,Fence.wide]at h,lP.2 (h.mono ?_)⟩;rintro e w' (⟨p,rfl,QN⟩|⟨ch,rfl,hq⟩)
 ·exact hk p w' QN
 ·exact hp ch w' hq
theorem yY{r:Option Nat}{n:Nat}{o:Oper}{kp:Option (List PanicEntry->Pr)}{next:Act->World->Prop}{Q:Exit->Act->World->Prop}(he:Ag e a)(h:Ir P kp o e k w)
 (hk:∀x v w',Good x v->k x w'->next (a.put o.dst v) w')(hp:∀ch w',GY kp ch w'->Q (.panic ch) a w'):o.uponIn (wf r) n P a next Q ((o.semAt r a.eval).run P w):=by
 unfold Ir at h;cases kp with
 |none=>exact sH he h hk
 |
  some q=>
  have QN:∀ch w',q ch w'->Q (.panic ch) a w':=hp;rcases gk (show orElse _ _ _ w from h)with⟨⟨f,args⟩,hop,h⟩|⟨_,h⟩
  ·have heq:∃ats,o.op=.call ⟨.value (.func f),args,ats⟩:=by
    unfold mR at hop;split at hop<;>simp_all
   obtain⟨ats,heq⟩:=heq;obtain⟨dst,op,ty,pos,after,guard⟩:=o;dsimp only at heq;subst heq;rw[Oper.semAt_eq r a.eval _ (by intro c hc;cases hc)];have h1:=eK he h;have hargs:(args.toList.map a.eval).toArray=args.map a.eval:=by rw[<-Array.toList_map,Array.toArray_toList]
   obtain⟨aU,SE,h0⟩:=ai h1;rcases aI h0 with⟨mV,h2⟩|⟨_,h2⟩
   ·unfold bf at h2
    rw[hargs]at h2;have hrun:(execOp a.eval ⟨dst,.call ⟨.value (.func f),args,ats⟩,ty,pos,after,guard⟩).run P w=.ok (.enter f (args.map a.eval)) w:=by
     simp only[execOp,resolve,Deferred.ofValue,Act.eval,Sem.run_bind,Sem.run_pure,Result.andThen_ok,invoke,Array.empty_append,Array.append_empty];exact dY mV
    rw[hrun];exact wY h2 (λp w' hp=>hk _ _ _ (Good.val _) hp) QN
   ·obtain⟨p,w',hr,h3⟩:=h2
    rw[hargs]at hr;have hrun:(execOp a.eval ⟨dst,.call ⟨.value (.func f),args,ats⟩,ty,pos,after,guard⟩).run P w=.ok (.value (dM aU p)) w':=by
     simp only[execOp,resolve,Deferred.ofValue,Act.eval,Sem.run_bind,Sem.run_pure,Result.andThen_ok,invoke,Array.empty_append,Array.append_empty];exact hr
    rw[hrun];exact hk _ _ _ (Good.val _) h3
  rcases gk h with⟨args,hop,h⟩|⟨_,h⟩
  ·have heq:(∃ats,o.op=.call ⟨.builtin .panic,args,ats⟩)\/∃x,o.op=.panic x/\args= #[x]:=by
    unfold pg at hop;split at hop<;>simp_all
   have h1:=eK he h;obtain⟨t,v,hl,h1⟩:=ua h1;clear h;obtain⟨dst,op,ty,pos,after,guard⟩:=o;dsimp only at heq;have hrun:(execOp a.eval ⟨dst,op,ty,pos,after,guard⟩).run P w=.halt (.panic (.iface t v)) w/\∀c,op≠.defer c:=by
    rcases heq with⟨ats,rfl⟩|⟨x,rfl,rfl⟩
    ·have hA:args.map a.eval= #[.iface t v]:=by
      have hargs:(args.toList.map a.eval).toArray=args.map a.eval:=by rw[<-Array.toList_map,Array.toArray_toList]
      rw[<-hargs,hl]
     refine⟨?_,by intro c hc;cases hc⟩;simp only[execOp,resolve,Sem.run_bind,Sem.run_pure,Result.andThen_ok,invoke,hA];rfl
    ·have hA:a.eval x=.iface t v:=by simpa using hl
     refine⟨?_,by intro c hc;cases hc⟩;simp only[execOp,hA];rfl
   rw[Oper.semAt_eq r a.eval _ hrun.2,hrun.1];exact QN _ _ h1
  ·exact sH he h hk
end
section
variable{w:World}
theorem bI{x:EV}{f f':Value->Pr}(h:∀v,f v w->f' v w)(hh:nd x f w):nd x f' w:=by
 cases x with
 |no=>exact hh
 |val v=>exact h _ hh
 |lit b=>exact h _ hh
 |xB=>exact h _ hh
 |xC _ _=>exact h _ hh
 |yP _ _=>exact h _ hh
theorem aJ{α:Type}{x:Option α}{f f':α->Pr}(h:∀v,f v w->f' v w)(hh:opt x f w):opt x f' w:=by
 cases x with
 |none=>exact hh
 |some v=>exact h _ hh
theorem EC{α:Type}{w:World}{x:Option α}{f f':α->Pr}(h:∀v,x=some v->f v w->f' v w)(hh:opt x f w):opt x f' w:=by
 cases x with
 |some v=>exact h v rfl hh
 |none=>exact hh
theorem wj{α:Type}{w:World}{x:Option α}{f f':α->Pr}{g g':Pr}(h:∀v,f v w->f' v w)(h2:g w->g' w)(hh:orElse x f g w):orElse x f' g' w:=by
 cases x with
 |some v=>exact h v hh
 |none=>exact h2 hh
theorem mK{p:Prop}[Decidable p]{f f':Pr}(h:f w->f' w)(hh:nN p f w):nN p f' w:=by
 unfold nN at *;split
 ·rename_i hp;rw[jd hp]at hh;exact h hh
 ·rename_i hp;rw[jc hp]at hh;exact hh
theorem dX{b:Bool}{f f' g g':Pr}(h:f w->f' w)(h2:g w->g' w)(hh:tf b f g w):tf b f' g' w:=by
 cases b with
 |true=>exact h hh
 |false=>exact h2 hh
theorem iN{p:Prop}{f f':Pr}(h:f w->f' w)(hh:aP p f w):aP p f' w:=⟨hh.1,h hh.2⟩
theorem jG{p:OA}{f f':Addr->Pr}(h:∀v,f v w->f' v w)(hh:deref p f w):deref p f' w:=
 let⟨a,h1,h2⟩:=dW.1 hh;dW.2 ⟨a,h1,h _ h2⟩
theorem qi{v:Value}{f f':Addr->Pr}(h:∀v,f v w->f' v w)(hh:kE v f w):kE v f' w:=by
 cases v with
 |pointer p=>exact jG h hh
 |_=>exact hh
theorem kF{v:Value}{f f':Int->Pr}(h:∀v,f v w->f' v w)(hh:iw v f w):iw v f' w:=by
 cases v with
 |int k n=>exact h _ hh
 |_=>exact hh
theorem ow{v:Value}{f f':Array Value->Pr}(h:∀v,f v w->f' v w)(hh:fW v f w):fW v f' w:=by
 cases v with
 |agg cs=>exact h _ hh
 |_=>exact hh
theorem yQ{v:Value}{f f':Option Nat->Pr}(h:∀v,f v w->f' v w)(hh:ox v f w):ox v f' w:=by
 cases v with
 |map r=>exact h _ hh
 |_=>exact hh
theorem qj{x:Option EV}{f f':Option Int->Pr}(h:∀v,f v w->f' v w)(hh:J5 x f w):J5 x f' w:=by
 cases x with
 |none=>exact h _ hh
 |some x=>exact bI (λv=>kF λn=>h _) hh
theorem Ie{b:Bool}{f f' g g':Pr}(h:f w->f' w)(h2:g w->g' w)(hh:br b f g w):br b f' g' w:=by
 unfold br at *;cases b<;>simp_all
theorem ED{x:EV}{f f' g g':Pr}(h:f w->f' w)(h2:g w->g' w)(hh:Dj x f g w):Dj x f' g' w:=by
 unfold Dj at *;split at hh
 ·exact h hh
 ·exact h2 hh
 ·exact Ie h h2 hh
 ·exact hh.elim
theorem EE{s:CS}{a:Addr}{f f':dw s->Pr}(h:∀v,f v w->f' v w)(hh:au s a f w):au s a f' w:=
 let⟨p,h1,h2⟩:=hh;⟨p,h1,h _ h2⟩
theorem EF{s:List CS}{a:Addr}{f f':kD s->Pr}(h:∀v,f v w->f' v w)(hh:aQ s a f w):aQ s a f' w:=
 let⟨p,h1,h2⟩:=hh;⟨p,h1,h _ h2⟩
theorem wk{P:Program}{t:TypeId}{a:Addr}{f f':Value->Pr}(h:∀v,f v w->f' v w)(hh:LO P t a f w):LO P t a f' w:=
 aJ (λ_=>dX (aJ λ_=>mK (EF λ_=>h _)) (aJ λ_=>aJ λ_=>EE λ_=>h _)) hh
theorem mL:∀{l:List EV} {f f':LV->Pr} (_:∀v,f v w->f' v w),Dk l f w->Dk l f' w
 |[],_,_,h,hh=>h _ hh
 |_::_,_,_,h,hh=>bI (λ_=>mL λ_=>h _) hh
theorem EG{n:Nat}{s:Sl}{lo hi mx:Option Int}{f f':Sl->Pr}(h:∀v,f v w->f' v w)(hh:slc n s lo hi mx f w):slc n s lo hi mx f' w:=
 ⟨hh.1,hh.2.1,hh.2.2.1,hh.2.2.2.1,h _ hh.2.2.2.2⟩
theorem wm{s:ByteArray}{lo hi:Option Int}{f f':ByteArray->Pr}(h:∀v,f v w->f' v w)(hh:nO s lo hi f w):nO s lo hi f' w:=
 ⟨hh.1,hh.2.1,h _ hh.2.2⟩
theorem yR{kd:TypeDesc}{r:Option Nat}{key zero:Value}{sh:CS}{f f':dw sh->Bool->Pr}(h:∀v b,f v b w->f' v b w)(hh:gd kd r key sh zero f w):gd kd r key sh zero f' w:=
 let⟨es,res,p,h1,h2,h3,h4⟩:=hh;⟨es,res,p,h1,h2,h3,h _ _ h4⟩
theorem wo{g:Value->Value->Option Bool}{r:Option Nat}{key zero:Value}{sh:CS}{f f':dw sh->Bool->Pr}(h:∀v b,f v b w->f' v b w)(hh:lI g r key sh zero f w):lI g r key sh zero f' w:=
 let⟨es,res,p,h1,h2,h3,h4,h5⟩:=hh;⟨es,res,p,h1,h2,h3,h4,h _ _ h5⟩
theorem wq{r:Option Nat}{f f':Int->Pr}(h:∀v,f v w->f' v w)(hh:nP r f w):nP r f' w:=
 let⟨es,h1,h2⟩:=hh;⟨es,h1,h _ h2⟩
theorem Cy{op:BinOp}{x y:Value}{f f':EV->Pr}(h:∀v,f v w->f' v w)(hh:tF op x y f w):tF op x y f' w:=by
 unfold tF at *;split at hh<;>first
  |exact hh.elim
  |exact⟨hh.1,h _ hh.2⟩
  |exact h _ hh
  |(
   split at hh
   ·rename_i hk
    first
     |exact(show(if _ then _ else _:Pr) w by rw[jd hk];exact h _ hh)
     |exact(show(if _ then _ else _:Pr) w by rw[jd hk];exact⟨hh.1,h _ hh.2⟩)
   ·exact hh.elim)
theorem EH{P:Program}{t:TypeId}{x y:Value}{f f':Bool->Pr}(h:∀v,f v w->f' v w)(hh:LP P t x y f w):LP P t x y f' w:=by
 exact aJ (λd=>aJ λr=>iN (h _)) hh
theorem kX{op:BinOp}{f f':Bool->Pr}(h:∀v,f v w->f' v w)(hh:wu op f w):wu op f' w:=by
 cases op<;>first|exact hh.elim|exact h _ hh
theorem EI{op:UnOp}{x:EV}{f f':EV->Pr}(h:∀v,f v w->f' v w)(hh:Ig op x f w):Ig op x f' w:=by
 unfold Ig at *;split at hh<;>first
  |exact hh.elim
  |exact h _ hh
theorem Cz{P:Program}{u v:Value}{f f':Bool->Pr}(h:∀v,f v w->f' v w)(hh:oQ P u v f w):oQ P u v f' w:=
 let⟨tx,x,ty,y,h1,h2,b,h3,h4⟩:=hh;⟨tx,x,ty,y,h1,h2,b,h3,h _ h4⟩
theorem CA{P:Program}{t:TypeId}{fs:Array Field}{u v:Value}{f f':Bool->Pr}(h:∀v,f v w->f' v w)(hh:wv P t fs u v f w):wv P t fs u v f' w:=by
 refine dX (λh=>h) (λh1=>?_) hh;obtain⟨xs,ys,rfl,rfl,h2⟩:=jH h1;exact aJ (λ_=>h _) h2
theorem CB{P:Program}{t:TypeId}{u v:Value}{f f':Bool->Pr}(h:∀v,f v w->f' v w)(hh:tG P t u v f w):tG P t u v f' w:=
 wj (λ_=>CA h) (EH h) hh
theorem CC{u v:Value}{f f':Bool->Pr}(h:∀v,f v w->f' v w)(hh:qk u v f w):qk u v f' w:=by
 unfold qk at *;split at hh
 ·exact⟨hh.1,h _ hh.2⟩
 ·exact hh.elim
theorem Ih{v:Value}{f f':Pr}(h:f w->f' w)(hh:na v f w):na v f' w:=by
 cases v<;>first|exact hh|exact h hh
theorem lJ{agg:Nat->Bool}{place:Nat->Option (Nat×Nat)}:∀{ps:List (Nat×Value)} {cells:LV} {f f':LV->Pr},(∀v,f v w->f' v w)->fR agg place cells ps f w->fR agg place cells ps f' w
 |[],_,_,_,h,hh=>h _ hh
 |_::_,_,_,_,h,hh=>aJ (λ_=>dX (ow λ_=>mK (lJ h)) (Ih (mK (lJ h)))) hh
theorem mM{e:Env}:∀{l:List (Nat×Operand)} {f f':List (Nat×Value)->Pr},(∀v,f v w->f' v w)->hH e l f w->hH e l f' w
 |[],_,_,h,hh=>h _ hh
 |_::_,_,_,h,hh=>bI (λ_=>mM λ_=>h _) hh
theorem EJ{s:Sl}{f f':ByteArray->Pr}(h:∀v,f v w->f' v w)(hh:yS s f w):yS s f' w:=
 let⟨l,h1,h2,h3⟩:=hh;⟨l,h1,h2,h _ h3⟩
theorem yT{P:Program}{s d:TypeId}{x:Value}{f f':EV->Pr}(hd:bk P d=none)(h:∀v,f v w->f' v w)(hh:oy P s d x f w):oy P s d x f' w:=by
 refine aJ (λd=>EC λe he h9=>?_) hh;split at h9
 ·exact h _ h9
 ·exact h _ h9
 ·unfold bk at hd
  rw[he]at hd;cases hd
 ·unfold bk at hd
  rw[he]at hd;cases hd
 ·refine aJ (λu h8=>?_) h9
  split at h8
  ·exact EJ (λ_=>h _) h8
  ·exact h8.elim
 ·exact h9.elim
theorem CD{l:LV}{f f':Value->Pr}(h:∀v,f v w->f' v w)(hh:rA l f w):rA l f' w:=by
 unfold rA at *;split at hh<;>first|exact hh.elim|exact h _ hh
theorem CE{l:LV}{f f':Value->Pr}(h:∀v,f v w->f' v w)(hh:rB l f w):rB l f' w:=by
 unfold rB at *;split at hh<;>first|exact hh.elim|exact h _ hh
end
def aX(P:Program)(o:Oper):Bool:=
 match o.op with
 |.move _|.assign _|.pick _ _ _|.load _ _|.nilCheck _|.binOp _ _ _ _ _|.unOp _ _ _|.makeFunc _ _ _|.slice _ _ _ _ _|.fieldAddr _ _ _|.field _ _ _
 |.indexAddr _ _ _|.index _ _ _|.lookup _ _ _ _|.extract _ _|.makeInterface _ _|.build _ _=>true
 |.convert _ d _=>match bk P d with|none=>true|some _=>false
 |.call {callee:=.builtin .len, .. }|.call {callee:=.builtin .cap, .. }|.call {callee:=.builtin .min, .. }|.call {callee:=.builtin .max, .. }=>true
 |_=>false
section
variable{P:Program}{e:Env}{w:World}{k:EV->Pr}
def J6:Builtin->Bool
 |.len|.cap|.min|.max=>true
 |_=>false
theorem rC{b:Builtin}{ts:List TypeId}{args:LV}{k':EV->Pr}(hb:J6 b=true)(hk:∀x,k x w->k' x w)(h:dx P b ts args k w):dx P b ts args k' w:=by
 unfold dx at *;split at h<;>first
  |exact h.elim
  |exact aJ (λ_=>aJ λ_=>hk _) h
  |exact aJ (λ_=>aJ λ_=>wq λ_=>hk _) h
  |exact CD (λ_=>hk _) h
  |exact CE (λ_=>hk _) h
  |(
   refine aJ (λ_=>aJ λd h=>?_) h
   cases d<;>first|exact h.elim|exact hk _ h)
  |simp[J6]at hb
theorem EK{o:Oper}{k':EV->Pr}(hr:aX P o=true)(hk:∀x,k x w->k' x w)(h:cop P o e k w):cop P o e k' w:=by
 obtain⟨dst,op,ty,pos,after,guard⟩:=o;cases op<;>simp only[aX,Bool.false_eq_true]at hr<;>simp only[cop]at h⊢
 case move x=>exact bI (λ_=>hk _) h
 case assign x=>exact bI (λ_=>hk _) h
 case pick c x y=>exact ED (bI λ_=>hk _) (bI λ_=>hk _) h
 case load t x=>exact bI (λ_=>qi λ_=>wk λ_=>hk _) h
 case nilCheck x=>
  refine bI (λv h=>?_) h;cases v<;>first
   |exact jG (λ_=>hk _) h
   |exact iN (hk _) h
   |exact h
 case binOp op t x y V9=>
  refine dX (bI λu=>kX λneg=>iN (hk _)) (λh=>?_) h;refine bI (λu=>bI λv=>dX (kX λneg=>Cz λ_=>hk _)<|dX (kX λneg=>CC λ_=>hk _)<|dX (Cy hk) λh=>?_) h;exact kX (λneg=>CB λ_=>hk _) h
 case unOp op t x=>exact EI hk h
 case convert s d x=>
  have hd:bk P d=none:=by
   cases hs:bk P d with
   |none=>rfl
   |some _=>rw[hs]at hr;cases hr
  exact bI (λ_=>yT hd hk) h
 case makeFunc fn f c=>exact mL (λ_=>mL λ_=>hk _) h
 case makeInterface t x=>exact bI (λ_=>aJ λ_=>dX (λh=>h) (hk _)) h
 case build t ps=>
  refine aJ (λz=>mM λps=>aJ λd h=>?_) h;cases d<;>first
   |exact h.elim
   |exact aJ (λ_=>lJ λ_=>hk _) h
 case slice t x lo hi mx=>
  refine bI (λv=>qj λl=>qj λh=>qj λm h=>?_) h;cases v<;>first
   |exact aJ (λ_=>aJ λ_=>EG λ_=>hk _) h
   |(
    refine aJ (λd h=>?_) h
    cases d<;>first
     |exact h.elim
     |(cases m<;>first|exact h.elim|exact wm (λ_=>hk _) h))
   |exact h
 case fieldAddr s x f=>exact bI (λ_=>qi λ_=>aJ λ_=>aJ λ_=>mK (hk _)) h
 case field s x f=>exact bI (λ_=>ow λ_=>aJ λ_=>aJ λ_=>aJ λ_=>dX (hk _) (aJ λ_=>hk _)) h
 case indexAddr t x ix=>
  refine bI (λv=>bI λ_=>kF λn h=>?_) h;cases v<;>first
   |exact aJ (λ_=>aJ λ_=>iN (jG λ_=>hk _)) h
   |(
    refine aJ (λd h=>?_) h
    cases d<;>first
     |exact h.elim
     |exact aJ (λ_=>iN (jG λ_=>hk _)) h)
   |exact h
 case index t x ix=>
  refine bI (λv=>bI λ_=>kF λn h=>?_) h;cases v<;>first
   |(
    refine aJ (λd h=>?_) h
    cases d<;>first
     |exact h.elim
     |exact iN (hk _) h)
   |exact h
 case lookup t x ix ok=>
  exact bI (λ_=>bI λ_=>yQ λ_=>aJ λ_=>aJ λ_=>dX (aJ λ_=>aJ λ_=>aJ λ_=>yR λ_ _=>dX (hk _) (hk _)) (dX (aJ λ_=>aJ λ_=>aJ λ_=>wo λ_ _=>dX (hk _) (hk _)) id)) h
 case extract t ix=>
  cases hx:Env.ev e t with
  |
   xB=>
   rw[hx]at h
   match ix,h with
   |0,h=>exact hk _ h
   |_+1,h=>exact h.elim
  |
   xC k1 v1=>
   rw[hx]at h
   match ix,h with
   |0,h=>exact hk _ h
   |1,h=>exact hk _ h
   |2,h=>exact hk _ h
   |_+3,h=>exact h.elim
  |
   yP k1 v1=>
   rw[hx]at h
   match ix,h with
   |0,h=>exact aJ (λ_ h=>aJ (λ_ ⟨p,hp,h⟩=>⟨p,hp,hk _ h⟩) h) (show oz P _ _ w from h)
   |1,h=>exact aJ (λ_ h=>aJ (λ_ ⟨p,hp,h⟩=>⟨p,hp,hk _ h⟩) h) (show oz P _ _ w from h)
   |_+2,h=>exact h.elim
  |no=>rw[hx]at h;exact h.elim
  |lit b=>rw[hx]at h;exact h.elim
  |
   val v=>
   rw[hx]at h;cases v<;>first|exact h.elim|skip
   exact aJ (λ_=>hk _) (show opt _ _ w from h)
 case call c=>
  obtain⟨callee,args,ats⟩:=c;cases callee<;>(try(simp at hr;done));rename_i b;refine mL (λargs h=>?_) h;refine rC (b:=b) ?_ hk h;cases b<;>first|rfl|simp at hr
theorem EL{o:Oper}(hr:aX P o=true)(h:cop P o e k w):cop P o e (λx w'=>k x w'/\w'=w) w:=EK hr (λ_ h=>⟨h,rfl⟩) h
end
section
variable{w:World}
theorem dF{x:EV}{f:Value->Pr}(hh:nd x f w):∃v,f v w/\∀(f':Value->Pr) w',f' v w'->nd x f' w':=by
 cases x with
 |no=>exact hh.elim
 |val v=>exact⟨v,hh,λ_ _ h=>h⟩
 |lit b=>exact⟨_,hh,λ_ _ h=>h⟩
 |xB=>exact⟨_,hh,λ_ _ h=>h⟩
 |xC _ _=>exact⟨_,hh,λ_ _ h=>h⟩
 |yP _ _=>exact⟨_,hh,λ_ _ h=>h⟩
theorem o6{x:EV}{k:EV->Pr}(hh:nd x (λ_=>k x) w):∃y v,y.v? =some v/\k y w/\∀(k':EV->Pr) w',k' y w'->nd x (λ_=>k' x) w':=by
 cases x with
 |no=>exact hh.elim
 |val v=>exact⟨_,v,rfl,hh,λ_ _ h=>h⟩
 |lit b=>exact⟨_,_,rfl,hh,λ_ _ h=>h⟩
 |xB=>exact⟨_,_,rfl,hh,λ_ _ h=>h⟩
 |xC _ _=>exact⟨_,_,rfl,hh,λ_ _ h=>h⟩
 |yP _ _=>exact⟨_,_,rfl,hh,λ_ _ h=>h⟩
theorem aO{α:Type}{x:Option α}{f:α->Pr}(hh:opt x f w):∃v,f v w/\∀(f':α->Pr) w',f' v w'->opt x f' w':=by
 cases x with
 |none=>exact hh.elim
 |some v=>exact⟨v,hh,λ_ _ h=>h⟩
theorem o7{p:Prop}[Decidable p]{f:Pr}(hh:nN p f w):f w/\∀(f':Pr) w',f' w'->nN p f' w':=by
 obtain⟨hp,h⟩:=cN hh;exact⟨h,λf' w' h'=>by unfold nN;rw[jd hp];exact h'⟩
theorem kY{p:OA}{f:Addr->Pr}(hh:deref p f w):∃v,f v w/\∀(f':Addr->Pr) w',f' v w'->deref p f' w':=
 let⟨a,h1,h2⟩:=dW.1 hh;⟨a,h2,λ_ _ h=>dW.2 ⟨a,h1,h⟩⟩
theorem Ii{x:EV}{f g:Pr}(hh:Dj x f g w):(f w/\∀(f' g':Pr) w',f' w'->Dj x f' g' w')\/(g w/\∀(f' g':Pr) w',g' w'->Dj x f' g' w'):=by
 unfold Dj at *;split at hh
 ·exact .inl ⟨hh,λ_ _ _ h=>h⟩
 ·exact .inr ⟨hh,λ_ _ _ h=>h⟩
 ·rename_i b
  unfold br at *;cases b with
  |true=>exact .inl ⟨by simpa using hh,λf' g' w' h=>by simpa using h⟩
  |false=>exact .inr ⟨by simpa using hh,λf' g' w' h=>by simpa using h⟩
 ·exact hh.elim
theorem si{v:Value}{f:Addr->Pr}(hh:kE v f w):∃a,f a w/\∀(f':Addr->Pr) w',f' a w'->kE v f' w':=by
 cases v with
 |pointer p=>exact kY hh
 |_=>exact hh.elim
theorem ql{v:Value}{f:Int->Pr}(hh:iw v f w):∃a,f a w/\∀(f':Int->Pr) w',f' a w'->iw v f' w':=by
 cases v with
 |int k n=>exact⟨n,hh,λ_ _ h=>h⟩
 |_=>exact hh.elim
theorem qm{v:Value}{f:Array Value->Pr}(hh:fW v f w):∃a,f a w/\∀(f':Array Value->Pr) w',f' a w'->fW v f' w':=by
 cases v with
 |agg k=>exact⟨k,hh,λ_ _ h=>h⟩
 |_=>exact hh.elim
theorem tH{x:Option EV}{f:Option Int->Pr}(hh:J5 x f w):∃a,f a w/\∀(f':Option Int->Pr) w',f' a w'->J5 x f' w':=by
 cases x with
 |none=>exact⟨none,hh,λ_ _ h=>h⟩
 |
  some x=>
  obtain⟨v,h1,h2⟩:=dF hh;obtain⟨n,h3,h4⟩:=ql h1;exact⟨some n,h3,λf' w' h=>h2 _ _ (h4 (λn=>f' (some n)) _ h)⟩
theorem o8:∀{l:List EV} {f:LV->Pr},Dk l f w->∃a,f a w/\∀(f':LV->Pr) w',f' a w'->Dk l f' w'
 |[],_,hh=>⟨[],hh,λ_ _ h=>h⟩
 |
  x::l,f,hh=>by
  obtain⟨v,h1,h2⟩:=dF hh;obtain⟨vs,h3,h4⟩:=o8 h1;exact⟨v::vs,h3,λf' w' h=>h2 _ _ (h4 (λvs=>f' (v::vs)) _ h)⟩
theorem Ij{n:Nat}{s:Sl}{lo hi mx:Option Int}{f:Sl->Pr}(hh:slc n s lo hi mx f w):∃r,f r w/\∀(f':Sl->Pr) w',f' r w'->slc n s lo hi mx f' w':=
 ⟨_,hh.2.2.2.2,λ_ _ h=>⟨hh.1,hh.2.1,hh.2.2.1,hh.2.2.2.1,h⟩⟩
theorem yU{s:ByteArray}{lo hi:Option Int}{f:ByteArray->Pr}(hh:nO s lo hi f w):∃r,f r w/\∀(f':ByteArray->Pr) w',f' r w'->nO s lo hi f' w':=
 ⟨_,hh.2.2,λ_ _ h=>⟨hh.1,hh.2.1,h⟩⟩
theorem EM{op:BinOp}{x y:Value}{k:EV->Pr}(hh:tF op x y k w):∃v,k (.val v) w/\∀(k':EV->Pr) w',k' (.val v) w'->tF op x y k' w':=by
 unfold tF at *;split at hh<;>first
  |exact hh.elim
  |exact⟨_,hh.2,λ_ _ h=>⟨hh.1,h⟩⟩
  |(
   split at hh
   ·rename_i hk
    first
     |exact⟨_,hh.2,λk' w' h=>by rw[jd hk];exact⟨hh.1,h⟩⟩
     |exact⟨_,hh,λk' w' h=>by rw[jd hk];exact h⟩
   ·exact hh.elim)
  |exact⟨_,hh,λ_ _ h=>h⟩
theorem Ik{P:Program}{t:TypeId}{x y:Value}{f:Bool->Pr}(hh:LP P t x y f w):∃b,f b w/\∀(f':Bool->Pr) w',f' b w'->LP P t x y f' w':=by
 obtain⟨d,h1,g1⟩:=aO hh;obtain⟨r,h2,g2⟩:=aO h1;exact⟨r.2,h2.2,λf' w' h=>g1 _ _ (g2 _ _ ⟨h2.1,h⟩)⟩
theorem EN{P:Program}{x y:Value}{f:Bool->Pr}(hh:oQ P x y f w):∃b,f b w/\∀(f':Bool->Pr) w',f' b w'->oQ P x y f' w':=by
 obtain⟨tx,u,ty,v,h1,h2,b,h3,h4⟩:=hh;exact⟨b,h4,λf' w' h=>⟨tx,u,ty,v,h1,h2,b,h3,h⟩⟩
theorem EO{x y:Value}{f:Bool->Pr}(hh:qk x y f w):∃b,f b w/\∀(f':Bool->Pr) w',f' b w'->qk x y f' w':=by
 unfold qk at *;split at hh
 ·exact⟨_,hh.2,λf' w' h=>⟨hh.1,h⟩⟩
 ·exact hh.elim
theorem EP{P:Program}{t:TypeId}{x y:Value}{f:Bool->Pr}(hh:tG P t x y f w):∃b,f b w/\∀(f':Bool->Pr) w',f' b w'->tG P t x y f' w':=by
 unfold tG at hh⊢;cases hs:eU P t with
 |
  some fs=>
  rw[hs]at hh;have h0:wv P t fs x y f w:=hh;unfold wv at h0;cases hg:(P.eqGuardType P.depth t||P.stoodInHeld t)with
  |true=>rw[hg]at h0;exact h0.elim
  |
   false=>
   rw[hg]at h0;obtain⟨xs,ys,rfl,rfl,h1⟩:=jH (show tI x y (λxs ys=>opt (ER P xs ys fs.toList) f) w from h0);obtain⟨b,h2,g2⟩:=aO h1;refine⟨b,h2,λf' w' h=>?_⟩;show wv P t fs _ _ f' w';unfold wv;rw[hg];exact g2 _ _ h
 |
  none=>
  rw[hs]at hh;exact Ik hh
theorem mN{op:BinOp}{f:Bool->Pr}(hh:wu op f w):∃b,f b w/\∀(f':Bool->Pr) w',f' b w'->wu op f' w':=by
 cases op<;>first|exact hh.elim|exact⟨_,hh,λ_ _ h=>h⟩
theorem Il{op:UnOp}{x:EV}{k:EV->Pr}(hh:Ig op x k w):∃y v,y.v? =some v/\k y w/\∀(k':EV->Pr) w',k' y w'->Ig op x k' w':=by
 unfold Ig at *;split at hh<;>first
  |exact hh.elim
  |exact⟨_,_,rfl,hh,λ_ _ h=>h⟩
end
def yV(P:Program)(t:TypeId):Bool:=
 match P.underlying t with
 |some (.map _ _)=>false
 |some _=>true
 |none=>false
def wz(P:Program)(b:Builtin)(ts:List TypeId):Bool:=
 match b with
 |.min=>true
 |.max=>true
 |.len=>(match ts with|t::_=>yV P t|[]=>false)
 |.cap=>(match ts with|t::_=>yV P t|[]=>false)
 |_=>false
def eo(P:Program)(o:Oper):Bool:=
 match o.op with
 |.move _|.assign _|.pick _ _ _|.nilCheck _|.binOp _ _ _ _ _|.unOp _ _ _|.makeFunc _ _ _|.slice _ _ _ _ _|.fieldAddr _ _ _|.field _ _ _
 |.indexAddr _ _ _|.extract _ _|.makeInterface _ _|.build _ _=>true
 |.convert s d _=>fX P s&&fX P d
 |.call {callee:=.builtin b,argTypes:=ts, .. }=>wz P b ts.toList
 |_=>false
section
variable{P:Program}{e:Env}{a:Act}{w:World}{k:EV->Pr}
theorem ES{l:LV}{f:Value->Pr}(hh:rA l f w):∃v,f v w/\∀(f':Value->Pr) w',f' v w'->rA l f' w':=by
 unfold rA at hh;split at hh<;>first|exact hh.elim|exact⟨_,hh,λ_ _ h=>h⟩
theorem ET{l:LV}{f:Value->Pr}(hh:rB l f w):∃v,f v w/\∀(f':Value->Pr) w',f' v w'->rB l f' w':=by
 unfold rB at hh;split at hh<;>first|exact hh.elim|exact⟨_,hh,λ_ _ h=>h⟩
theorem tJ{b:Builtin}{ts:List TypeId}{args:LV}(hb:wz P b ts=true)(h:dx P b ts args k w):
 ∃x v,x.v? =some v/\k x w/\∀(k':EV->Pr) w',k' x w'->dx P b ts args k' w':=by
 cases b<;>simp only[wz,Bool.false_eq_true]at hb
 case min=>
  obtain⟨v,h1,g1⟩:=ES (show rA args _ w from h);exact⟨.val v,v,rfl,h1,λk' w' h=>g1 (λv=>k' (.val v)) _ h⟩
 case max=>
  obtain⟨v,h1,g1⟩:=ET (show rB args _ w from h);exact⟨.val v,v,rfl,h1,λk' w' h=>g1 (λv=>k' (.val v)) _ h⟩
 case len=>
  cases ts with
  |nil=>cases hb
  |
   cons t ts=>
   match args,h with
   |
    [.slice a n c],h=>
    simp only[dx]at h⊢;obtain⟨t',h1,g1⟩:=aO h;obtain⟨e,h2,g2⟩:=aO h1;exact⟨_,_,rfl,h2,λk' w' h=>g1 _ _ (g2 (λ_=>k' (.val (.int .i64 n))) _ h)⟩
   |
    [.string s],h=>
    simp only[dx]at h⊢;obtain⟨t',h1,g1⟩:=aO h;obtain⟨d,h2,g2⟩:=aO h1;cases d<;>first|exact h2.elim|skip
    exact⟨_,_,rfl,h2,λk' w' h=>g1 _ _ (g2 _ _ h)⟩
   |
    [.map r],h=>
    exfalso;simp only[dx]at h;obtain⟨t',ht,h1⟩:=ai h;simp only[List.getElem?_cons_zero,jg]at ht;subst ht;obtain⟨ke,vC,_⟩:=ai h1;have:=cj vC;simp[yV,this]at hb
 case cap=>
  cases ts with
  |nil=>cases hb
  |
   cons t ts=>
   match args,h with
   |
    [.slice a m n],h=>
    simp only[dx]at h⊢;obtain⟨t',h1,g1⟩:=aO h;obtain⟨e,h2,g2⟩:=aO h1;exact⟨_,_,rfl,h2,λk' w' h=>g1 _ _ (g2 (λ_=>k' (.val (.int .i64 n))) _ h)⟩
theorem LQ{v:Value}{f:Pr}(hh:na v f w):f w/\∀(f':Pr) w',f' w'->na v f' w':=by
 cases v<;>first|exact hh.elim|exact⟨hh,λ_ _ h=>h⟩
theorem nQ{agg:Nat->Bool}{place:Nat->Option (Nat×Nat)}:∀{ps:List (Nat×Value)} {cells:LV} {f:LV->Pr},fR agg place cells ps f w->∃c,f c w/\∀(f':LV->Pr) w',f' c w'->fR agg place cells ps f' w'
 |[],cells,f,h=>⟨cells,h,λ_ _ h=>h⟩
 |
  (i,v)::ps,cells,f,h=>by
  obtain⟨os,h1,g1⟩:=aO (show opt (place i) _ w from h);have hh:∀(f':LV->Pr) w',(tf (agg i) (fW v λcs=>nN (cs.size=os.2/\os.1+os.2<=cells.length) (fR agg place (cells.take os.1++cs.toList++cells.drop (os.1+os.2)) ps f'))
   (na v (nN (os.2=1/\os.1+1<=cells.length) (fR agg place (cells.set os.1 v) ps f')))) w'->fR agg place cells ((i,v)::ps) f' w':=λf' w' h=>g1 (λos=>tf (agg i) (fW v λcs=>nN (cs.size=os.2/\os.1+os.2<=cells.length) (fR agg place (cells.take os.1++cs.toList++cells.drop (os.1+os.2)) ps f'))
   (na v (nN (os.2=1/\os.1+1<=cells.length) (fR agg place (cells.set os.1 v) ps f')))) w' h
  cases ha:agg i with
  |
   true=>
   rw[ha]at h1;obtain⟨cs,h2,g2⟩:=qm (show fW v _ w from h1);obtain⟨h3,g3⟩:=o7 h2;obtain⟨c,h4,g4⟩:=nQ h3;refine⟨c,h4,λf' w' h=>hh f' w' ?_⟩;rw[ha];exact g2 (λcs=>nN (cs.size=os.2/\os.1+os.2<=cells.length) (fR agg place (cells.take os.1++cs.toList++cells.drop (os.1+os.2)) ps f')) _ (g3 _ _ (g4 _ _ h))
  |
   false=>
   rw[ha]at h1;obtain⟨h2,g2⟩:=LQ (show na v _ w from h1);obtain⟨h3,g3⟩:=o7 h2;obtain⟨c,h4,g4⟩:=nQ h3;refine⟨c,h4,λf' w' h=>hh f' w' ?_⟩;rw[ha];exact g2 _ _ (g3 _ _ (g4 _ _ h))
theorem oA{e:Env}:∀{l:List (Nat×Operand)} {f:List (Nat×Value)->Pr},hH e l f w->∃c,f c w/\∀(f':List (Nat×Value)->Pr) w',f' c w'->hH e l f' w'
 |[],f,h=>⟨[],h,λ_ _ h=>h⟩
 |
  (i,x)::l,f,h=>by
  obtain⟨v,h1,g1⟩:=dF h;obtain⟨c,h2,g2⟩:=oA h1;exact⟨(i,v)::c,h2,λf' w' h=>g1 _ _ (g2 (λvs=>f' ((i,v)::vs)) _ h)⟩
theorem Im{o:Oper}(hr:eo P o=true)(h:cop P o e k w):∃x v,x.v? =some v/\k x w/\∀(k':EV->Pr) w',k' x w'->cop P o e k' w':=by
 obtain⟨dst,op,ty,pos,after,guard⟩:=o;cases op<;>simp only[eo,Bool.false_eq_true]at hr<;>simp only[cop]at h⊢
 case move x=>exact o6 h
 case assign x=>exact o6 h
 case pick c x y=>
  unfold EU at *;rcases Ii h with⟨h,g⟩|⟨h,g⟩
  ·obtain⟨z,v,h1,h2,h3⟩:=o6 h
   exact⟨z,v,h1,h2,λk' w' h=>g _ _ _ (h3 k' w' h)⟩
  ·obtain⟨z,v,h1,h2,h3⟩:=o6 h
   exact⟨z,v,h1,h2,λk' w' h=>g _ _ _ (h3 k' w' h)⟩
 case nilCheck x=>
  obtain⟨v,h1,h2⟩:=dF h;clear h;cases v with
  |
   pointer p=>
   obtain⟨ad,h3,h4⟩:=kY h1;exact⟨_,_,rfl,h3,λk' w' h=>h2 _ _ (h4 _ _ h)⟩
  |func fn f1 f2=>exact⟨_,_,rfl,h1.2,λk' w' h=>h2 _ _ ⟨h1.1,h⟩⟩
  |int _ _=>exact h1.elim
  |bool _=>exact h1.elim
  |string _=>exact h1.elim
  |nilIface=>exact h1.elim
  |slice _ _ _=>exact h1.elim
  |map _=>exact h1.elim
  |float _ _=>exact(h1.1:False).elim
  |complex _ _ _=>exact(h1.1:False).elim
  |chan _=>exact(h1.1:False).elim
  |nilFunc=>exact(h1.1:False).elim
  |iface _ _=>exact(h1.1:False).elim
  |agg _=>exact(h1.1:False).elim
  |tuple _=>exact(h1.1:False).elim
 case binOp op t x y V9=>
  cases hb:(EW y&&yW P t)with
  |
   true=>
   rw[hb]at h;simp only[tf]at h⊢;obtain⟨u,h1,h2⟩:=dF h;obtain⟨neg,h3,g3⟩:=mN (f:=λneg=>aP (tK u) (k (.val (.bool (if neg then !cg u else cg u))))) h1;exact⟨_,_,rfl,h3.2,λk' w' h=>h2 _ _ (g3 (λneg=>aP (tK u) (k' (.val (.bool (if neg then !cg u else cg u))))) _ ⟨h3.1,h⟩)⟩
  |false=>
  rw[hb]at h;simp only[tf]at h⊢;obtain⟨u,h1,h2⟩:=dF h;obtain⟨v,h3,h4⟩:=dF h1;clear h h1;cases hi:yW P t with
  |
   true=>
   rw[hi]at h3;obtain⟨neg,Oj,g4⟩:=mN (f:=λneg=>oQ P u v λb=>k (.val (.bool (if neg then !b else b)))) h3;obtain⟨r,h5,h6⟩:=EN Oj;exact⟨_,_,rfl,h5,λk' w' h=>h2 _ _ (h4 _ _ (by exact g4 (λneg=>oQ P u v λb=>k' (.val (.bool (if neg then !b else b)))) _ (h6 (λb=>k' (.val (.bool (if neg then !b else b)))) _ h)))⟩
  |false=>
  rw[hi]at h3;cases hp:Io P t x y with
  |
   true=>
   rw[hp]at h3;obtain⟨neg,Oj,g4⟩:=mN (f:=λneg=>qk u v λb=>k (.val (.bool (if neg then !b else b)))) h3;obtain⟨r,h5,h6⟩:=EO Oj;exact⟨_,_,rfl,h5,λk' w' h=>h2 _ _ (h4 _ _ (by exact g4 (λneg=>qk u v λb=>k' (.val (.bool (if neg then !b else b)))) _ (h6 (λb=>k' (.val (.bool (if neg then !b else b)))) _ h)))⟩
  |false=>
  rw[hp]at h3;replace h4:∀(f':Value->Pr) w',f' v w'->nd (Env.ev e y) f' w':=h4;cases hn:tL v u with
  |
   true=>
   rw[hn]at h3;obtain⟨r,h5,h6⟩:=EM h3;exact⟨_,_,rfl,h5,λk' w' h=>h2 _ _ (h4 _ _ (by rw[hn];exact h6 _ _ h))⟩
  |
   false=>
   rw[hn]at h3;obtain⟨neg,Oj,g4⟩:=mN (f:=λneg=>tG P t u v λb=>k (.val (.bool (if neg then !b else b)))) h3;obtain⟨r,h5,h6⟩:=EP Oj;exact⟨_,_,rfl,h5,λk' w' h=>h2 _ _ (h4 _ _ (by rw[hn];exact g4 (λneg=>tG P t u v λb=>k' (.val (.bool (if neg then !b else b)))) _ (h6 (λb=>k' (.val (.bool (if neg then !b else b)))) _ h)))⟩
 case unOp op t x=>exact Il h
 case makeInterface t x=>
  obtain⟨v,h1,g1⟩:=dF h;obtain⟨d,h2,g2⟩:=aO h1;cases hi:oB d with
  |true=>rw[hi]at h2;exact h2.elim
  |
   false=>
   rw[hi]at h2;refine⟨_,_,rfl,h2,λk' w' h=>g1 _ _ (g2 (λd=>tf (oB d) bK (k' (.val (.iface t v)))) _ ?_)⟩;rw[hi];exact h
 case build t ps=>
  obtain⟨z,h1,g1⟩:=aO h;obtain⟨l,h2,g2⟩:=oA h1;obtain⟨d,h3,g3⟩:=aO h2;clear h h1 h2;cases d<;>first|exact h3.elim|skip
  all_goals
   obtain⟨q,h4,g4⟩:=aO h3;obtain⟨cs,h5,g5⟩:=nQ h4;exact⟨_,_,rfl,h5,λk' w' h=>g1 _ _ (g2 _ _ (g3 _ _ (g4 _ _ (g5 (λcs=>k' (.val (.agg cs.toArray))) _ h))))⟩
 case makeFunc fn f c=>
  obtain⟨u,h1,h2⟩:=o8 h;obtain⟨v,h3,h4⟩:=o8 h1;exact⟨_,_,rfl,h3,λk' w' h=>h2 _ _ (h4 _ _ h)⟩
 case slice t x lo hi mx=>
  obtain⟨v,h1,g1⟩:=dF h;obtain⟨l,h2,g2⟩:=tH h1;obtain⟨hh,h3,g3⟩:=tH h2;obtain⟨m,h4,g4⟩:=tH h3;clear h h1 h2 h3;cases v<;>first|exact h4.elim|skip
  ·obtain⟨d,h5,g5⟩:=aO h4
   clear h4;cases d<;>first|exact h5.elim|skip
   cases m<;>first|exact h5.elim|skip
   obtain⟨r,h6,g6⟩:=yU h5;exact⟨_,_,rfl,h6,λk' w' h=>g1 _ _ (g2 _ _ (g3 _ _ (g4 _ _ (g5 _ _ (g6 _ _ h)))))⟩
  ·obtain⟨d,h5,g5⟩:=aO h4
   obtain⟨i,h6,g6⟩:=aO h5;obtain⟨r,h7,g7⟩:=Ij h6;exact⟨_,_,rfl,h7,λk' w' h=>g1 _ _ (g2 _ _ (g3 _ _ (g4 _ _ (g5 _ _ (g6 _ _ (g7 (λs=>k' (.val (.slice s.a s.len s.cap))) _ h))))))⟩
 case fieldAddr s x f=>
  obtain⟨v,h1,g1⟩:=dF h;obtain⟨ad,h2,g2⟩:=si h1;obtain⟨fl,h3,g3⟩:=aO h2;obtain⟨i,h4,g4⟩:=aO h3;obtain⟨h5,g5⟩:=o7 h4;exact⟨_,_,rfl,h5,λk' w' h=>g1 _ _ (g2 _ _ (g3 _ _ (g4 _ _ (g5 _ _ h))))⟩
 case field s x f=>
  obtain⟨v,h1,g1⟩:=dF h;obtain⟨ad,h2,g2⟩:=qm h1;obtain⟨fl,h3,g3⟩:=aO h2;obtain⟨i,h4,g4⟩:=aO h3;obtain⟨d,h5,g5⟩:=aO h4;clear h h1 h2 h3 h4;cases hb:cZ P fl.type with
  |
   true=>
   rw[hb]at h5;exact⟨_,_,rfl,h5,λk' w' h=>g1 _ _ (g2 _ _ (g3 _ _ (g4 _ _ (g5 _ _ (by rw[hb];exact h)))))⟩
  |
   false=>
   rw[hb]at h5;obtain⟨c,h6,g6⟩:=aO h5;exact⟨_,_,rfl,h6,λk' w' h=>g1 _ _ (g2 _ _ (g3 _ _ (g4 _ _ (g5 _ _ (by rw[hb];exact g6 (λc=>k' (.val c)) _ h)))))⟩
 case indexAddr t x ix=>
  obtain⟨v,h1,g1⟩:=dF h;obtain⟨iv,h2,g2⟩:=dF h1;obtain⟨n,h3,g3⟩:=ql h2;clear h h1 h2;cases v<;>first|exact h3.elim|skip
  ·obtain⟨d,h5,g5⟩:=aO h3
   clear h3;cases d<;>first|exact h5.elim|skip
   obtain⟨i,h6,g6⟩:=aO h5;obtain⟨hb,h7⟩:=h6;obtain⟨ad,h8,g8⟩:=kY h7;exact⟨_,_,rfl,h8,λk' w' h=>g1 _ _ (g2 _ _ (g3 _ _ (g5 _ _ (g6 _ _ ⟨hb,g8 _ _ h⟩))))⟩
  ·obtain⟨d,h5,g5⟩:=aO h3
   obtain⟨i,h6,g6⟩:=aO h5;obtain⟨hb,h7⟩:=h6;obtain⟨ad,h8,g8⟩:=kY h7;exact⟨_,_,rfl,h8,λk' w' h=>g1 _ _ (g2 _ _ (g3 _ _ (g5 _ _ (g6 _ _ ⟨hb,g8 _ _ h⟩))))⟩
 case convert s d x=>
  rw[jz]at hr;obtain⟨v,h1,g1⟩:=dF h;unfold oy at h1;obtain⟨s',hs,h2⟩:=ai h1;obtain⟨d',hd,h3⟩:=ai h2;have B2:=hr.1;have Dl:=hr.2;unfold fX at B2 Dl;rw[hs]at B2;rw[hd]at Dl;cases s'<;>(try(simp at B2;done));cases d'<;>(try(simp at Dl;done));cases v<;>first|exact h3.elim|skip
  refine⟨_,_,rfl,h3,λk' w' h=>g1 _ _ ?_⟩;unfold oy;rw[hs,hd];exact h
 case call c=>
  obtain⟨callee,args,ats⟩:=c;cases callee<;>(try(simp at hr;done));rename_i b;obtain⟨vs,h1,g1⟩:=o8 h;obtain⟨x,v,hx,h2,g2⟩:=tJ (P:=P) (show wz P b ats.toList=true from hr) h1;exact⟨x,v,hx,h2,λk' w' h=>g1 _ _ (g2 k' w' h)⟩
 case extract t ix=>
  cases hx:Env.ev e t with
  |
   xB=>
   rw[hx]at h
   match ix,h with
   |0,h=>exact⟨.lit false,_,rfl,h,λk' w' h'=>h'⟩
   |_+1,h=>exact h.elim
  |
   xC k1 v1=>
   rw[hx]at h
   match ix,h with
   |0,h=>exact⟨.lit true,_,rfl,h,λk' w' h'=>h'⟩
   |1,h=>exact⟨.val k1,_,rfl,h,λk' w' h'=>h'⟩
   |2,h=>exact⟨.val v1,_,rfl,h,λk' w' h'=>h'⟩
   |_+3,h=>exact h.elim
  |
   yP k1 v1=>
   rw[hx]at h
   match ix,h with
   |
    0,h=>
    obtain⟨l,h1,g1⟩:=aO (show oz P _ _ w from h);obtain⟨s,h2,g2⟩:=aO h1;obtain⟨p,hp,h3⟩:=h2;exact⟨_,_,rfl,h3,λk' w' h'=>g1 _ _ (g2 (λs w=>Ip s k1 (λp=>k' (.val (bC s p))) w) _ ⟨p,hp,h'⟩)⟩
   |
    1,h=>
    obtain⟨l,h1,g1⟩:=aO (show oz P _ _ w from h);obtain⟨s,h2,g2⟩:=aO h1;obtain⟨p,hp,h3⟩:=h2;exact⟨_,_,rfl,h3,λk' w' h'=>g1 _ _ (g2 (λs w=>Ip s v1 (λp=>k' (.val (bC s p))) w) _ ⟨p,hp,h'⟩)⟩
   |_+2,h=>exact h.elim
  |no=>rw[hx]at h;exact h.elim
  |lit b=>rw[hx]at h;exact h.elim
  |
   val v=>
   rw[hx]at h;cases v<;>first|exact h.elim|skip
   obtain⟨c,h2,g2⟩:=aO (show opt _ _ w from h);exact⟨_,_,rfl,h2,λk' w' h=>g2 (λc=>k' (.val c)) _ h⟩
end
def XW(w w':World):Prop:=w.heap.size<=w'.heap.size/\∀b,b<w.heap.size->w'.heap[b]? =w.heap[b]?
theorem XW.refl(w:World):XW w w:=⟨Nat.le_refl _,λ_ _=>rfl⟩
theorem XW.trans{w w1 w2:World}(h:XW w w1)(k:XW w1 w2):XW w w2:=⟨Nat.le_trans h.1 k.1,λb hb=>(k.2 b (Nat.lt_of_lt_of_le hb h.1)).trans (h.2 b hb)⟩
theorem XW.alloc(w:World)(o:Obj):XW w (w.alloc o):=⟨by simp[World.size_alloc],λb hb=>by
 simp only[World.alloc];rw[Array.getElem?_push];split
 ·omega
 ·rfl⟩
theorem XW.drew(w:World):XW w w.drew:=⟨Nat.le_refl _,λb _=>rfl⟩
def PX{α:Type}(P:Program)(s:Sem α):Prop:=∀w v w',s.run P w=.ok v w'->XW w w'
def fY{α:Type}(P:Program)(s:Sem α):Prop:=∀w v w',s.run P w≠.ok v w'
section
variable{P:Program}
theorem PX.bind{α β:Type}{s:Sem α}{f:α->Sem β}(h:PX P s)(k:∀v,PX P (f v)):PX P (s>>=f):=by
 intro w v w' hr;rw[Sem.run_bind]at hr;cases hs:s.run P w with
 |ok u w1=>rw[hs]at hr;exact(h _ _ _ hs).trans (k u _ _ _ hr)
 |halt x w1=>rw[hs]at hr;cases hr
theorem fY.bind{α β:Type}{s:Sem α}{f:α->Sem β}(k:∀v,fY P (f v)):fY P (s>>=f):=by
 intro w v w' hr;rw[Sem.run_bind]at hr;cases hs:s.run P w with
 |ok u w1=>rw[hs]at hr;exact k u _ _ _ hr
 |halt x w1=>rw[hs]at hr;cases hr
theorem fY.px{α:Type}{s:Sem α}(h:fY P s):PX P s:=λw v w' hr=>(h w v w' hr).elim
theorem PX.pure{α:Type}(v:α):PX P (Pure.pure v:Sem α):=by
 intro w u w' h;rw[Sem.run_pure]at h;cases h;exact XW.refl _
theorem fY.stuck{α:Type}{s:String}:fY P (Go.stuck s:Sem α):=λw v w' h=>by cases h
theorem fY.unsupported{α:Type}{s:Unsupported}:fY P (Go.unsupported s:Sem α):=λw v w' h=>by cases h
theorem fY.error{α:Type}{s:String}:fY P (runtimePanic (.error s):Sem α):=fY.bind λp w v w' h=>by cases h
theorem PX.newObj(o:Obj):PX P (Go.newObj o):=by
 intro w v w' h;have:(Go.newObj o).run P w=.ok w.heap.size (w.alloc o):=rfl;rw[this]at h;cases h;exact XW.alloc _ _
theorem PX.choose(q:Question):PX P (Go.choose q):=by
 intro w v w' h;rw[run_choose_drew]at h;split at h
 ·cases h;exact XW.refl _
 ·cases h;exact XW.drew _
theorem PX.program:PX P Go.program:=by
 intro w v w' h;cases h;exact XW.refl _
theorem PX.underlying(t:TypeId):PX P (Go.underlying t):=PX.bind PX.program λp=>by
 split
 ·exact PX.pure _
 ·exact fY.stuck.px
theorem PX.typeInfo(t:TypeId):PX P (Go.typeInfo t):=PX.bind PX.program λp=>by
 split
 ·exact PX.pure _
 ·exact fY.stuck.px
theorem PX.sizeOf(t:TypeId):PX P (Go.sizeOf t):=PX.bind (PX.typeInfo t) λ_=>PX.pure _
theorem PX.zeroValue(t:TypeId):PX P (Go.zeroValue t):=PX.bind (PX.typeInfo t) λ_=>by
 split
 ·exact PX.pure _
 ·exact fY.unsupported.px
theorem PX.newRow(t:TypeId)(c:Array Value):PX P (Go.newRow t c):=PX.bind (PX.newObj _) λ_=>PX.pure _
theorem PX.newVar(t:TypeId)(v:Value):PX P (Go.newVar t v):=PX.newRow _ _
theorem PX.askRoom(n:Nat):PX P (Go.askRoom n):=by
 intro w v w' h;rw[run_askRoom]at h;cases h;exact XW.refl _
theorem PX.load(a:Addr):PX P (Go.load a):=by
 intro w v w' h;rw[run_load]at h;split at h
 ·cases h;exact XW.refl _
 ·split at h
  ·cases h;exact XW.refl _
  ·cases h
theorem PX.loadCellsFrom(a:Addr):∀(n i:Nat) (acc:Array Value),PX P (Go.loadCellsFrom a i n acc)
 |0,_,_=>PX.pure _
 |n+1,i,acc=>PX.bind (PX.load _) λv=>PX.loadCellsFrom a n (i+1) _
theorem PX.firstCells(size n:Nat)(x:Value):PX P (Builtin.firstCells size n x):=by
 unfold Builtin.firstCells;split
 ·exact PX.loadCellsFrom _ _ _ _
 ·exact PX.pure _
 ·exact PX.pure _
 ·exact fY.stuck.px
theorem PX.lenOf(x:Value):PX P (Builtin.lenOf x):=by
 unfold Builtin.lenOf;split
 ·exact PX.pure _
 ·exact PX.pure _
 ·exact fY.stuck.px
theorem PX.mark(m:Mark):PX P (Go.mark m):=λw v w' h=>by
 have:(Go.mark m).run P w=.ok () w:=rfl;rw[this]at h;cases h;exact XW.refl _
theorem PX.frozen(a:Addr):PX P (Go.frozen a):=λw v w' h=>by
 rw[run_frozen]at h;cases h;exact XW.refl _
theorem PX.shape(r:Nat):PX P (Go.shape r):=λw v w' h=>by
 rw[run_shape]at h;cases h;exact XW.refl _
theorem PX.ite{α:Type}{c:Prop}[Decidable c]{x y:Sem α}(hx:PX P x)(hy:PX P y):PX P (if c then x else y):=by
 split
 ·exact hx
 ·exact hy
theorem PX.holdsCells(a:Addr)(n:Nat):PX P (Builtin.holdsCells a n):=by
 unfold Builtin.holdsCells;refine PX.bind (PX.shape _) λ_=>?_;split<;>exact PX.pure _
theorem PX.mayShare(size sLen n:Nat)(base:OA)(x:Value):PX P (Builtin.mayShare size sLen n base x):=by
 unfold Builtin.mayShare
 repeat' first
  |exact PX.pure _
  |exact PX.holdsCells _ _
  |exact PX.frozen _
  |(refine PX.bind ?_ λ_=>?_)
  |refine PX.ite ?_ ?_
  |split
  |dsimp only
theorem PX.asInt(x:Value):PX P (Go.asInt x):=by
 unfold Go.asInt Go.asIntOf;refine PX.bind ?_ λ_=>PX.pure _;split<;>first
  |exact PX.pure _
  |exact fY.stuck.px
  |exact fY.unsupported.px
set_option maxHeartbeats 4000000 in
theorem PX.CF(ts:Array TypeId)(ty:TypeId)(x:Value):PX P (Builtin.append_ ts ty #[.slice none 0 0,x]):=by
 unfold Builtin.append_;cases h0:ts[0]?with
 |none=>exact fY.stuck.px
 |
  some t=>
  simp only[List.getElem?_toArray,List.getElem?_cons_zero,List.getElem?_cons_succ]
  repeat' first
   |exact PX.pure _
   |exact fY.stuck.px
   |exact fY.unsupported.px
   |exact fY.error.px
   |exact PX.newRow _ _
   |exact PX.firstCells _ _ _
   |exact PX.zeroValue _
   |exact PX.typeInfo _
   |exact PX.underlying _
   |exact PX.sizeOf _
   |exact PX.choose _
   |exact PX.askRoom _
   |exact PX.lenOf _
   |exact PX.asInt _
   |exact PX.mark _
   |exact PX.mayShare _ _ _ _ _
   |refine PX.ite ?_ ?_
   |(refine PX.bind ?_ λ_=>?_)
   |split
   |dsimp only
def yX:Value->Bool
 |.slice none l c=>Nat.beq l 0&&Nat.beq c 0
 |_=>false
def J7:Operand->Bool
 |.const v=>yX v
 |_=>false
def EX:Builtin->Bool
 |.append=>true
 |_=>false
def EY(c:Call):Bool:=
 match c.callee with
 |.builtin b=>EX b&&(Nat.beq c.args.size 2&&(match c.args[0]?with|some x=>J7 x|none=>false))
 |_=>false
def mO(P:Program)(o:Oper):Bool:=
 match o.op with
 |.alloc _|.box _ _|.buildSlice _ _ _=>true
 |.call c=>EY c||aX P o
 |_=>aX P o
theorem PX.alloc(t:TypeId)(v:Value):PX P (Instr.alloc t true v):=by
 unfold Instr.alloc;refine PX.bind (PX.zeroValue _) λz=>?_;exact PX.bind (PX.newVar _ _) λ_=>PX.pure _
theorem PX.box(t:TypeId)(v:Value):PX P (Instr.box t v):=by
 unfold Instr.box;exact PX.bind (PX.newVar _ _) λ_=>PX.pure _
theorem PX.buildSlice(t:TypeId)(n:Nat)(ps:Array (Nat×Value)):PX P (Instr.buildSlice t n ps):=by
 unfold Instr.buildSlice
 repeat' first
  |exact PX.pure _
  |exact fY.stuck.px
  |exact fY.unsupported.px
  |exact PX.newRow _ _
  |exact PX.zeroValue _
  |exact PX.underlying _
  |exact PX.sizeOf _
  |refine PX.ite ?_ ?_
  |(refine PX.bind ?_ λ_=>?_)
  |split
  |dsimp only
theorem CG{o:Oper}(h:mO P o=true)(hr:aX P o=false)(a:Act)(w:World)(nx:Next)(w':World)(hx:(execOp a.eval o).run P w=.ok nx w'):XW w w'/\∃v,nx=.value v:=by
 obtain⟨dst,op,ty,pos,after,guard⟩:=o;have val:∀s:Sem Value,PX P s->(do Pure.pure (Next.value (<-s)):Sem Next).run P w=.ok nx w'->XW w w'/\∃v,nx=.value v:=by
  intro s hs h1;rw[Sem.run_bind]at h1;cases h2:s.run P w with
  |
   ok u w1=>
   rw[h2]at h1;have h3:(Result.ok (Next.value u) w1:Result Next)=.ok nx w':=h1;cases h3;exact⟨hs _ _ _ h2,u,rfl⟩
  |halt x w1=>rw[h2]at h1;cases h1
 unfold mO at h;cases op
 case alloc T=>
  unfold execOp at hx;dsimp only at hx;exact val _ (PX.alloc _ _) hx
 case box T x=>
  unfold execOp at hx;dsimp only at hx;exact val _ (PX.box _ _) hx
 case buildSlice T n ps=>
  unfold execOp at hx;dsimp only at hx;exact val _ (PX.buildSlice _ _ _) hx
 case call c=>
  dsimp only at h;rw[hr,Bool.or_false]at h;obtain⟨callee,args,ats⟩:=c;unfold EY at h;cases callee<;>first|(cases h;done)|skip
  rename_i b;simp only[jz]at h;obtain⟨hb,hs,h0⟩:=h;have B2:args.size=2:=Nat.eq_of_beq_eq_true hs;cases b<;>first|(cases hb;done)|skip
  obtain⟨l⟩:=args
  match l,B2,h0,hx with
  |
   [x,y],_,h0,hx=>
   have Iq:a.eval x=.slice none 0 0:=by
    have h1:J7 x=true:=h0;obtain⟨v,rfl,h2⟩:∃v,x=.const v/\yX v=true:=by
     cases x with
     |const v=>exact⟨v,rfl,h1⟩
     |_=>cases h1
    show v=_;unfold yX at h2;split at h2
    ·rw[jz]at h2
     rw[Nat.eq_of_beq_eq_true h2.1,Nat.eq_of_beq_eq_true h2.2]
    ·cases h2
   refine val (Builtin.append_ ats ty #[.slice none 0 0,a.eval y]) (PX.CF _ _ _) ?_;unfold execOp at hx;dsimp only at hx;unfold resolve at hx;dsimp only at hx;rw[Sem.run_bind,Sem.run_pure,Result.andThen_ok]at hx;dsimp only[invoke]at hx;have hm:(Array.map a.eval {toList:=[x,y]})= #[.slice none 0 0,a.eval y]:=by rw[<-Iq];simp
   rw[hm]at hx;exact hx
 all_goals(dsimp only at h;rw[hr]at h;cases h)
def J8(P:Program)(o:Oper):Bool:=
 match o.op with
 |.load _ _=>true
 |.lookup _ _ _ _=>true
 |.convert _ d _=>qn P d
 |_=>false
theorem AE{w w':World}(h:XW w w'){a:Addr}{v:Value}(hc:w.cell? a=some v):w'.cell? a=some v:=by
 have hlt:a.block<w.heap.size:=by
  rcases Nat.lt_or_ge a.block w.heap.size with h'|h'
  ·exact h'
  ·simp[World.cell?,Array.getElem?_eq_none h']at hc
 unfold World.cell? at hc⊢;rw[h.2 _ hlt];exact hc
theorem lK{w w':World}(h:XW w w'){a:Addr}:∀{l:LV} {i:Nat},cc w a i l->cc w' a i l
 |[],_,_=>trivial
 |_::_,_,hr=>⟨AE h hr.1,lK h hr.2⟩
theorem CH{w w':World}(h:XW w w'){a:OA}{l:LV}(hr:bn w a l):bn w' a l:=by
 cases a with
 |none=>exact hr
 |some b=>exact lK h hr
theorem wA{w w':World}(h:XW w w'){r:Option Nat}{es:Array MapEntry}(hr:wB w r es):wB w' r es:=by
 cases r with
 |none=>exact hr
 |
  some b=>
  obtain⟨c,hc⟩:=hr;have hlt:b<w.heap.size:=by
   rcases Nat.lt_or_ge b w.heap.size with h'|h'
   ·exact h'
   ·rw[Array.getElem?_eq_none h']at hc;cases hc
  exact⟨c,(h.2 _ hlt).trans hc⟩
theorem EZ{e:Env}{w:World}{k:EV->Pr}{o:Oper}(hr:J8 P o=true)(h:cop P o e k w):∃x v,x.v? =some v/\k x w/\∀(k':EV->Pr) w',XW w w'->k' x w'->cop P o e k' w':=by
 obtain⟨dst,op,ty,pos,after,guard⟩:=o;cases op<;>simp only[J8,Bool.false_eq_true]at hr<;>simp only[cop]at h⊢
 case load t x=>
  obtain⟨p,h1,g1⟩:=dF h;obtain⟨ad,h2,g2⟩:=si h1;obtain⟨i,h3,g3⟩:=aO (show opt (P.info? t) _ w from h2);cases nv:cZ P t with
  |
   true=>
   rw[nv]at h3;obtain⟨l,h4,g4⟩:=aO (show opt (aV P 10 t) _ w from h3);obtain⟨h5,g5⟩:=o7 h4;obtain⟨p,h6,h7⟩:=h5;refine⟨_,_,rfl,h7,λk' w' hx hk=>g1 _ _ (g2 _ _ (g3 (λi=>tf (cZ P t) (opt (aV P 10 t) λl=>nN (l.length=i.size) (aQ l ad λp=>k' (.val (.agg (j0 l p).toArray)))) (opt (aV P 1 t) λl=>opt (one? l) λc=>au c ad λp=>k' (.val (bC c p)))) _ ?_))⟩;rw[nv];exact g4 (λl=>nN (l.length=i.size) (aQ l ad λp=>k' (.val (.agg (j0 l p).toArray)))) _ (g5 _ _ ⟨p,lK hx h6,hk⟩)
  |
   false=>
   rw[nv]at h3;obtain⟨l,h4,g4⟩:=aO (show opt (aV P 1 t) _ w from h3);obtain⟨c,h5,g5⟩:=aO h4;obtain⟨p,h6,h7⟩:=h5;refine⟨_,_,rfl,h7,λk' w' hx hk=>g1 _ _ (g2 _ _ (g3 (λi=>tf (cZ P t) (opt (aV P 10 t) λl=>nN (l.length=i.size) (aQ l ad λp=>k' (.val (.agg (j0 l p).toArray)))) (opt (aV P 1 t) λl=>opt (one? l) λc=>au c ad λp=>k' (.val (bC c p)))) _ ?_))⟩;rw[nv];exact g4 (λl=>opt (one? l) λc=>au c ad λp=>k' (.val (bC c p))) _ (g5 (λc=>au c ad λp=>k' (.val (bC c p))) _ ⟨p,AE hx h6,hk⟩)
 case lookup t y ix ok=>
  obtain⟨v,h1,g1⟩:=dF h;obtain⟨key,h2,g2⟩:=dF h1;obtain⟨r,rfl,h3⟩:=hO h2;obtain⟨ke,h4,g4⟩:=aO h3;obtain⟨kd,h5,g5⟩:=aO h4;cases hs:b6 kd with
  |
   false=>
   rw[hs]at h5;have h5:tf (lM P ke.1) _ _ w:=h5;cases Sg:lM P ke.1 with
   |false=>rw[Sg]at h5;exact h5.elim
   |true=>
   rw[Sg]at h5;have Yt:opt (aV P 1 ke.2) _ w:=h5;obtain⟨l,h6,g6⟩:=aO (show opt (aV P 1 ke.2) _ w from Yt);obtain⟨sh,h7,g7⟩:=aO h6;obtain⟨z,h8,g8⟩:=aO h7;obtain⟨es,res,p,m1,m0,m2,m3,h9⟩:=h8;have fin:∀(x:EV) (u:Value),x.v? =some u->k x w->(∀(k':EV->Pr) w',k' x w'->tf ok (k' (.val (.tuple #[bC sh p,.bool res.isSome]))) (k' (.val (bC sh p))) w')->
    ∃x v,x.v? =some v/\k x w/\∀(k':EV->Pr) w',XW w w'->k' x w'->nd (Env.ev e y) (λv=>nd (Env.ev e ix) λkey=>ox v λr=>opt (mapElem P t) λke=>opt (P.underlying ke.1) λkd=>tf (b6 kd)
   (opt (aV P 1 ke.2) λl=>opt (one? l) λsh=>opt (zeroOf P ke.2) λz=>gd kd r key sh z λp b=>tf ok (k' (.val (.tuple #[bC sh p,.bool b]))) (k' (.val (bC sh p)))) (tf (lM P ke.1) (opt (aV P 1 ke.2) λl=>opt (one? l) λsh=>opt (zeroOf P ke.2) λz=>lI (AF P ke.1) r key sh z λp b=>tf ok (k' (.val (.tuple #[bC sh p,.bool b]))) (k' (.val (bC sh p)))) bK)) w':=by
     intro x u hx hk ht;refine⟨x,u,hx,hk,λk' w' hw hk'=>g1 _ _ (g2 _ _ (g4 _ _ (g5 _ _ ?_)))⟩;rw[hs];show tf (lM P ke.1) _ _ w';rw[Sg];exact g6 _ _ (g7 _ _ (g8 (λz=>lI (AF P ke.1) r key sh z λp b=>tf ok (k' (.val (.tuple #[bC sh p,.bool b]))) (k' (.val (bC sh p)))) _ ⟨es,res,p,wA hw m1,m0,m2,m3,ht k' w' hk'⟩))
   cases ok with
   |true=>exact fin _ _ rfl h9 λk' w' h=>h
   |false=>exact fin _ _ rfl h9 λk' w' h=>h
  |
   true=>
   rw[hs]at h5;obtain⟨l,h6,g6⟩:=aO (show opt (aV P 1 ke.2) _ w from h5);obtain⟨sh,h7,g7⟩:=aO h6;obtain⟨z,h8,g8⟩:=aO h7;obtain⟨es,res,p,m1,m2,m3,h9⟩:=h8;have fin:∀(x:EV) (u:Value),x.v? =some u->k x w->(∀(k':EV->Pr) w',k' x w'->tf ok (k' (.val (.tuple #[bC sh p,.bool res.isSome]))) (k' (.val (bC sh p))) w')->
    ∃x v,x.v? =some v/\k x w/\∀(k':EV->Pr) w',XW w w'->k' x w'->nd (Env.ev e y) (λv=>nd (Env.ev e ix) λkey=>ox v λr=>opt (mapElem P t) λke=>opt (P.underlying ke.1) λkd=>tf (b6 kd)
   (opt (aV P 1 ke.2) λl=>opt (one? l) λsh=>opt (zeroOf P ke.2) λz=>gd kd r key sh z λp b=>tf ok (k' (.val (.tuple #[bC sh p,.bool b]))) (k' (.val (bC sh p)))) (tf (lM P ke.1) (opt (aV P 1 ke.2) λl=>opt (one? l) λsh=>opt (zeroOf P ke.2) λz=>lI (AF P ke.1) r key sh z λp b=>tf ok (k' (.val (.tuple #[bC sh p,.bool b]))) (k' (.val (bC sh p)))) bK)) w':=by
     intro x u hx hk ht;refine⟨x,u,hx,hk,λk' w' hw hk'=>g1 _ _ (g2 _ _ (g4 _ _ (g5 _ _ ?_)))⟩;rw[hs];exact g6 _ _ (g7 _ _ (g8 (λz=>gd kd r key sh z λp b=>tf ok (k' (.val (.tuple #[bC sh p,.bool b]))) (k' (.val (bC sh p)))) _ ⟨es,res,p,wA hw m1,m2,m3,ht k' w' hk'⟩))
   cases ok with
   |true=>exact fin _ _ rfl h9 λk' w' h=>h
   |false=>exact fin _ _ rfl h9 λk' w' h=>h
 case convert s d x=>
  have hd:=jI hr;obtain⟨v,h1,g1⟩:=dF h;obtain⟨sd,Bk,h2⟩:=ai h1;obtain⟨dd,BQ,h3⟩:=ai h2;rw[hd]at BQ;simp only[jg]at BQ;subst BQ;cases sd<;>first|exact h3.elim|skip
  ·cases v<;>first|exact h3.elim|skip
   rename_i b;refine⟨_,_,rfl,h3,λk' w' _ hk=>g1 _ _ ?_⟩;unfold oy;rw[Bk,hd];exact hk
  ·rename_i el
   cases v<;>first|exact h3.elim|skip
   rename_i a l c;obtain⟨u,hu,h4⟩:=ai h3;cases u<;>first|exact h4.elim|skip
   rename_i kd;cases kd<;>first|exact h4.elim|skip
   obtain⟨bl,b1,b2,h5⟩:=h4;refine⟨_,_,rfl,h5,λk' w' hx hk=>g1 _ _ ?_⟩;unfold oy;rw[Bk,hd];show opt (P.underlying el) _ w';rw[hu];exact⟨bl,b1,CH hx b2,hk⟩
end
section
variable{P:Program}{ops:Array Oper}{md:Region.Mode}
def qo(ops:Array Oper)(j:Nat):Option Tmp:=(ops[j]?).bind (·.dst)
def jV:EV:=.val (.tuple #[])
def eV:EV->Bool
 |.val (.tuple vs)=>vs.toList.isEmpty
 |_=>false
theorem qp{x:EV}(h:eV x=true):x.v? =some undef:=by
 unfold eV at h;split at h
 ·rename_i vs
  have:vs= #[]:=by
   rw[List.isEmpty_iff]at h;exact Array.toList_eq_nil_iff.1 h
  rw[this];rfl
 ·cases h
theorem Ag.kH{e:Env}{a:Act}(h:Ag e a)(d:Option Tmp):Ag (Env.put e d jV) (a.put d undef):=h.put d λu hu=>by
 simp only[jV,EV.v?,jg]at hu;exact hu.symm
def mP:Op->Option (FuncId×Array Operand)
 |.defer ⟨.value (.func f),args,_⟩=>some (f,args)
 |_=>none
abbrev KP:=Option (Env->List PanicEntry->Pr)
def KP.at(kp:KP)(e:Env):Option (List PanicEntry->Pr):=
 match kp with
 |none=>none
 |some q=>some (q e)
def Nd(P:Program)(kp:KP)(df:Bool)(o:Oper)(e:Env)(k:Env->Pr):Pr:=
 orElse (mP o.op) (λx=>tf (df&&e.ds.isEmpty) (Dk (x.2.toList.map (Env.ev e)) λargs=>k (Env.put (Env.QH e {target:=.fn (.func x.1) #[],args:=args.toArray}) o.dst jV)) bK)
  (Ir P (kp.at e) o e λv=>k (Env.put e o.dst v))
def Si(P:Program)(kp:KP)(df:Bool)(o:Oper)(e:Env)(d:Tmp)(b want:Bool)(k:Env->Pr):Pr:=
 tf (b==want) (Nd P kp df o (Env.set e d (.lit b)) k) (k (Env.put (Env.set e d (.lit b)) o.dst jV))
def rD(P:Program)(kp:KP)(df:Bool)(ops:Array Oper)(o:Oper)(e:Env)(k:Env->Pr):Pr:=
 match o.guard with
 |none=>Nd P kp df o e k
 |some (j,want)=>opt (qo ops j) λd=>tf (eV (Env.get e d)) (k (Env.put e o.dst jV)) (Dj (Env.get e d) (Si P kp df o e d true want k) (Si P kp df o e d false want k))
def jJ(ops:Array Oper):Bool:=ops.toList.all λo=>match o.op with|.defer _=>false|_=>true
theorem mQ(h:jJ ops=true){i:Nat}{o:Oper}(hi:ops[i]? =some o)(c:Call):o.op≠.defer c:=by
 intro hc;have:=List.all_eq_true.1 h o (by simpa using Array.mem_of_getElem? hi);simp[hc]at this
def aY(ops:Array Oper):List Nat:=(match jJ ops with|true=>[]|false=>[mJ])++ops.toList.filterMap (·.dst)
theorem kZ{i:Nat}{o:Oper}{d:Tmp}(hi:ops[i]? =some o)(hd:o.dst=some d):d∈aY ops:=by
 unfold aY;rw[jy,List.mem_filterMap];exact .inr ⟨o,by simpa using Array.mem_of_getElem? hi,hd⟩
theorem CI{j:Nat}{d:Tmp}(h:qo ops j=some d):d∈aY ops:=by
 unfold qo at h;cases ho:ops[j]?with
 |none=>simp[ho]at h
 |some o=>simp[ho]at h;exact kZ ho h
theorem wC{o:Oper}{j:Nat}{want b:Bool}{a:Act}{d:Tmp}(hg:o.guard=some (j,want))(hd:qo ops j=some d)(hb:a.tmps[d]? =some (.bool b)):
 Region.wanted o (yielded ops a.tmps)=(b==want):=by
 unfold Region.wanted;rw[hg];unfold yielded;unfold qo at hd;dsimp only;rw[hd];simp[hb]
theorem Ext.set(e:Env)(d:Nat)(v:EV)(W:List Nat)(hd:d∈W):Ext W e (Env.set e d v):=
 ⟨by simp,λt ht=>by rw[Env.fF,jc];rintro⟨rfl,_⟩;exact ht hd,λ_=>rfl,λ_=>rfl⟩
theorem Ext.tM{e e1:Env}{i:Nat}{o:Oper}{v:EV}(hi:ops[i]? =some o)(h:Ext (aY ops) e e1):Ext (aY ops) e (Env.put e1 o.dst v):=
 h.trans (Ext.put e1 o.dst v) (λ_ h=>h) (λt ht=>by
  cases hd:o.dst with
  |none=>simp[hd]at ht
  |some d=>simp[hd]at ht;subst ht;exact kZ hi hd)
theorem jK{kp:KP}{df:Bool}{i:Nat}{o:Oper}{e:Env}{a:Act}{w:World}{k:Env->Pr}(he:Ag e a)(hi:ops[i]? =some o)(h:rD P kp df ops o e k w):
 (Region.wanted o (yielded ops a.tmps)=true/\∃e1,Ag e1 a/\Ext (aY ops) e e1/\Nd P kp df o e1 k w)\/
 (Region.wanted o (yielded ops a.tmps)=false/\∃e1,Ag e1 a/\Ext (aY ops) e e1/\k (Env.put e1 o.dst jV) w):=by
 unfold rD at h;cases hg:o.guard with
 |
  none=>
  rw[hg]at h;exact .inl ⟨by simp[Region.wanted,hg],e,he,Ext.refl _ _,h⟩
 |
  some jw=>
  obtain⟨j,want⟩:=jw;rw[hg]at h;obtain⟨d,hd,h⟩:=ai h;rcases aI h with⟨hs,h⟩|⟨_,h⟩
  ·refine .inr ⟨?_,e,he,Ext.refl _ _,h⟩
   have hv:=he.get d _ (qp hs);unfold Region.wanted;rw[hg];unfold yielded;unfold qo at hd;dsimp only;rw[hd];simp[hv,undef]
  obtain⟨b,hb,h⟩:=nR h;have hw:=wC hg hd (he.get d _ hb);have cw:Ag (Env.set e d (.lit b)) a:=he.lit hb;have hx:Ext (aY ops) e (Env.set e d (.lit b)):=Ext.set _ _ _ _ (CI hd);have key:Si P kp df o e d b want k w:=by
   rcases h with⟨rfl,h⟩|⟨rfl,h⟩<;>exact h
  rcases aI key with⟨Sj,h⟩|⟨Sj,h⟩
  ·exact .inl ⟨hw.trans Sj,_,cw,hx,h⟩
  ·exact .inr ⟨hw.trans Sj,_,cw,hx,h⟩
theorem tN{op:Op}{f:FuncId}{args:Array Operand}(h:mP op=some (f,args)):∃ats,op=.defer ⟨.value (.func f),args,ats⟩:=by
 unfold mP at h;split at h<;>simp_all
theorem CJ{r:Option Nat}{n:Nat}{kp:KP}{df:Bool}{Q:Exit->Act->World->Prop}{i:Nat}{o:Oper}{e:Env}{a:Act}{w:World}{k:Env->Pr}{K:Act->World->Prop}(hr:df=true->r=none)
 (he:Ag e a)(hi:ops[i]? =some o)(h:Nd P kp df o e k w)(hk:∀e' a' w',Ag e' a'->Ext (aY ops) e e'->k e' w'->K a' w')(hp:∀ch w',GY (kp.at e) ch w'->Q (.panic ch) a w'):
 o.uponIn (wf r) n P a K Q ((o.semAt r a.eval).run P w):=by
 rcases gk h with⟨⟨f,args⟩,hop,h⟩|⟨_,h⟩
 ·rcases aI h with⟨hb,h⟩|⟨_,h⟩
  rotate_left
  ·exact h.elim
  simp only[jz,List.isEmpty_iff]at hb;obtain⟨hdf,hds⟩:=hb;obtain rfl:=hr hdf;obtain⟨ats,heq⟩:=tN hop;have hin:mJ∈aY ops:=by
   have:jJ ops=false:=by
    cases hn:jJ ops with
    |false=>rfl
    |true=>exact absurd heq (mQ hn hi _)
   simp[aY,this]
  have hmem:∀t,t∈o.dst.toList->t∈aY ops:=λt ht=>by
   cases hd:o.dst with
   |none=>simp[hd]at ht
   |some d=>simp[hd]at ht;subst ht;exact kZ hi hd
  obtain⟨dst,op,ty,pos,after,guard⟩:=o;dsimp only at heq hmem;subst heq;have h1:=eK he h;have hargs:(args.toList.map a.eval).toArray=args.map a.eval:=by rw[<-Array.toList_map,Array.toArray_toList]
  rw[hargs]at h1;have hrun:(execOp a.eval ⟨dst,.defer ⟨.value (.func f),args,ats⟩,ty,pos,after,guard⟩).run P w=.ok (.defer {target:=.fn (.func f) #[],args:=args.map a.eval}) w:=by
   simp[execOp,resolve,Deferred.ofValue,Act.eval,go_sem]
  rw[Oper.semAt_none,hrun,Oper.uponIn_defer];have nv:Ag (Env.QH e {target:=.fn (.func f) #[],args:=args.map a.eval}) {a with defers:={target:=.fn (.func f) #[],args:=args.map a.eval}::a.defers}:=
   ⟨he.size,he.get,by rw[he.defers];simp[Env.QH,marks,hds]⟩
  refine hk _ _ _ (nv.kH dst) ?_ h1;have hx:Ext (aY ops) e (Env.QH e {target:=.fn (.func f) #[],args:=args.map a.eval}):=⟨rfl,λ_ _=>rfl,λ_=>rfl,λhn=>absurd hin hn⟩;exact hx.trans (Ext.put _ _ _) (λ_ h=>h) hmem
 ·exact yY he h (λx v w' hg hk'=>hk _ _ _ (he.put o.dst hg) (Ext.tM hi (Ext.refl _ _)) hk') hp
theorem sr{r:Option Nat}{n:Nat}{kp:KP}{df:Bool}{Q:Exit->Act->World->Prop}{i:Nat}{o:Oper}{e:Env}{a:Act}{w:World}{k:Env->Pr}{K:Act->World->Prop}(hr:df=true->r=none)(he:Ag e a)(hi:ops[i]? =some o)
 (h:rD P kp df ops o e k w)(hk:∀e' a' w',Ag e' a'->Ext (aY ops) e e'->k e' w'->K a' w')
 (hp:∀e' a' ch w',Ag e' a'->Ext (aY ops) e e'->GY (kp.at e') ch w'->Q (.panic ch) a' w'):wpOpIn (wf r) n P ops Q i K a w:=by
 unfold wpOpIn;rw[hi];dsimp only;rcases jK he hi h with⟨hw,e1,cw,hx,h1⟩|⟨hw,e1,cw,hx,h1⟩
 ·rw[jd hw]
  refine⟨λ_ _=>trivial,CJ hr cw hi h1 (λe2 a2 w2 h2 cK hk2=>hk _ _ _ h2 (hx.trans cK (λ_ h=>h) (λ_ h=>h)) hk2) (λch w' hq=>hp _ _ _ _ cw hx hq)⟩
 ·rw[jc (by simp[hw])]
  exact⟨λ_ _=>trivial,hk _ _ _ (cw.kH o.dst) (Ext.tM hi hx) h1⟩
def LR(P:Program)(kp:KP)(df:Bool)(ops:Array Oper):List Nat->Env->(Env->Pr)->Pr
 |[],e,k=>k e
 |i::l,e,k=>opt (ops[i]?) λo=>rD P kp df ops o e λe'=>LR P kp df ops l e' k
theorem qq{r:Option Nat}{n:Nat}{kp:KP}{df:Bool}{Q:Exit->Act->World->Prop}(hr:df=true->r=none):∀{l:List Nat} {e:Env} {a:Act} {w:World} {k:Env->Pr},Ag e a->LR P kp df ops l e k w->
 (∀e' a' w',Ag e' a'->Ext (aY ops) e e'->k e' w'->Q .normal a' w')->
 (∀e' a' ch w',Ag e' a'->Ext (aY ops) e e'->GY (kp.at e') ch w'->Q (.panic ch) a' w')->wpOpsIn (wf r) n P ops Q l a w
 |[],_,_,_,_,he,h,hk,_=>hk _ _ _ he (Ext.refl _ _) h
 |
  i::l,e,a,w,k,he,h,hk,hp=>by
  obtain⟨o,ho,h⟩:=ai h;rw[wpOpsIn_cons];exact sr hr he ho h (λe' a' w' he' hx h'=>qq hr he' h' (λe2 a2 w2 cu cK h2=>hk _ _ _ cu (hx.trans cK (λ_ h=>h) (λ_ h=>h)) h2)
   (λe2 a2 ch w2 cu cK h2=>hp _ _ _ _ cu (hx.trans cK (λ_ h=>h) (λ_ h=>h)) h2)) hp
variable{n:Nat}{Q:Exit->Act->World->Prop}
def o9:Next->Option Value
 |.value v=>some v
 |.skip=>some undef
 |_=>none
theorem yZ{F:Fence}{o:Oper}{a:Act}{w:World}{next:Act->World->Prop}{nx:Next}{v:Value}(hv:o9 nx=some v)(h:next (a.put o.dst v) w):o.uponIn F n P a next Q (.ok nx w):=by
 cases nx<;>simp only[o9,jg,reduceCtorEq]at hv
 ·subst hv;exact h
 ·subst hv;exact h
def ef(P:Program)(ops:Array Oper)(n:Nat)(Q:Exit->Act->World->Prop)(i:Nat)(K:Act->World->Prop)(a:Act)(w:World):Prop:=
 match ops[i]?with
 |none=>K a w
 |
  some o=>
  if aX P o=true then
   (Region.wanted o (yielded ops a.tmps)=true/\∃nx v,(execOp a.eval o).run P w=.ok nx w/\o9 nx=some v/\K (a.put o.dst v) w)\/
   (Region.wanted o (yielded ops a.tmps)=false/\K (a.put o.dst undef) w)
  else wpOpIn (wf none) n P ops Q i K a w
def eW(P:Program)(md:Region.Mode)(ops:Array Oper)(n:Nat)(Q:Exit->Act->World->Prop):Nat->Array Bool->Act->World->Prop
 |0,listed,a,w=>Region.ready md ops listed=[]/\Q .normal a w
 |
  fuel+1,listed,a,w=>
  (Region.ready md ops listed=[]->Q .normal a w)/\
  ∀i∈Region.ready md ops listed,ef P ops n Q i (eW P md ops n Q fuel (listed.setIfInBounds i true)) a w
theorem lN{i:Nat}{K K':Act->World->Prop}{a:Act}{w:World}(h:∀a w,K a w->K' a w)(hh:ef P ops n Q i K a w):ef P ops n Q i K' a w:=by
 unfold ef at *;cases ho:ops[i]?with
 |none=>rw[ho]at hh;exact h _ _ hh
 |
  some o=>
  simp only[ho]at hh⊢;by_cases hr:aX P o=true
  ·rw[jd hr]at hh⊢
   rcases hh with⟨h1,nx,v,h2,hv,h3⟩|⟨h1,h2⟩
   ·exact .inl ⟨h1,nx,v,h2,hv,h _ _ h3⟩
   ·exact .inr ⟨h1,h _ _ h2⟩
  ·rw[jc hr]at hh⊢
   exact wpOpIn_mono h hh
theorem E0{r:Option Nat}(hd:jJ ops=true){i:Nat}{K:Act->World->Prop}{a:Act}{w:World}(hh:ef P ops n Q i K a w):wpOpIn (wf r) n P ops Q i K a w:=by
 unfold ef at hh;cases ho:ops[i]?with
 |none=>rw[ho]at hh;unfold wpOpIn;rw[ho];exact hh
 |
  some o=>
  simp only[ho]at hh;have hnd:=mQ hd ho;by_cases hr:aX P o=true
  ·rw[jd hr]at hh
   unfold wpOpIn;rw[ho];dsimp only;rcases hh with⟨h1,nx,v,h2,hv,h3⟩|⟨h1,h2⟩
   ·rw[jd h1]
    refine⟨λ_ _=>trivial,?_⟩;rw[show(wf r).round=r from rfl,Oper.semAt_eq r a.eval o hnd,h2];exact yZ hv h3
   ·rw[jc (by simp[h1])]
    exact⟨λ_ _=>trivial,h2⟩
  ·rw[jc hr]at hh
   unfold wpOpIn at *;rw[ho]at *;dsimp only at *;split
   ·rename_i hw
    rw[jd hw]at hh;refine⟨λ_ _=>trivial,?_⟩;have h2:=hh.2;rw[show(wf r).round=r from rfl,Oper.semAt_eq r a.eval o hnd];rw[show(wf none).round=none from rfl,Oper.semAt_none]at h2;generalize(execOp a.eval o).run P w=res at *;cases res with
    |ok x w'=>cases x<;>exact h2
    |halt x w'=>cases x<;>exact h2
   ·rename_i hw
    rw[jc hw]at hh;exact⟨λ_ _=>trivial,hh.2⟩
theorem nS{r:Option Nat}(hd:jJ ops=true):∀(fuel:Nat) (listed:Array Bool) (a:Act) (w:World),eW P md ops n Q fuel listed a w->wpAnyIn (wf r) n P md ops Q fuel listed a w
 |0,_,_,_,h=>h
 |fuel+1,listed,a,w,h=>⟨h.1,λi hi=>E0 hd (lN (λa w=>nS hd fuel _ a w) (h.2 i hi))⟩
theorem y3{listed:Array Bool}{i:Nat}(h:listed.getD i true=false):listed.getD i false=false:=by
 rcases Nat.lt_or_ge i listed.size with h'|h'
 ·simp[h']at h⊢;exact h
 ·simp[Array.getElem?_eq_none h']at h
theorem nT{i:Nat}{oi:Oper}{v:Value}{B:Nat->Prop}{Y:Act->World->Prop}(hi:ops[i]? =some oi)
 (Wa:∀(K:Act->World->Prop) a w,Y a w->K (a.put oi.dst v) w->ef P ops n Q i K a w)
 (hB:∀j oj,ops[j]? =some oj->B j->∃e∈oj.after,Region.binds md e=true/\(e.on=i\/B e.on)):
 ∀
  (fuel:Nat) (listed:Array Bool) (a:Act) (w:World),(∀j,B j->listed.getD j true=false)->
  (∀j oj,ops[j]? =some oj->j≠i->listed.getD j true=false->¬B j->∀(K:Act->World->Prop) a w,Y a w->ef P ops n Q j K (a.put oi.dst v) w->
    ef P ops n Q j (λa' w'=>Y a' w'/\K (a'.put oi.dst v) w') a w)->
  i∈Region.ready md ops listed->Y a w->eW P md ops n Q fuel (listed.setIfInBounds i true) (a.put oi.dst v) w->eW P md ops n Q (fuel+1) listed a w:=by
 intro fuel
 induction fuel with
 |
  zero=>
  intro listed a w vc hput hr hy H;refine⟨λh=>(by rw[h]at hr;cases hr),λj hj=>?_⟩;by_cases hji:j=i
  ·subst hji;exact Wa _ _ _ hy H
  ·have:=ready_mono hj hji
   rw[H.1]at this;cases this
 |
  succ fuel ih=>
  intro listed a w vc hput hr hy H;refine⟨λh=>(by rw[h]at hr;cases hr),λj hj=>?_⟩;by_cases hji:j=i
  ·subst hji;exact Wa _ _ _ hy H
  ·have h1:=H.2 j (ready_mono hj hji)
   obtain⟨Ok,oj,Wb,hall⟩:=mem_ready.1 hj;have Wc:¬B j:=by
    intro hb;obtain⟨e,he,Ol,Yu⟩:=hB j oj Wb hb;have h2:=hall e he Ol;have h3:listed.getD e.on true=false:=by
     rcases Yu with h|h
     ·rw[h];exact(mem_ready.1 hr).1
     ·exact vc _ h
    rw[y3 h3]at h2;cases h2
   have h2:=hput j oj Wb hji Ok Wc _ _ _ hy h1;refine lN (λa' w' h3=>ih (listed.setIfInBounds j true) a' w' ?_ ?_ (ready_mono hr (Ne.symm hji)) h3.1 ?_) h2
   ·intro m hm
    have hne:j≠m:=λh=>Wc (h▸hm);rw[getD_set_ne true hne];exact vc m hm
   ·intro m om Yv Yw Om
    refine hput m om Yv Yw ?_;by_cases nB:j=m
    ·subst nB;exact Ok
    ·rw[getD_set_ne true nB]at Om;exact Om
   ·rw[Array.setIfInBounds_comm _ _ hji]
    exact h3.2
def YP(P:Program)(ops:Array Oper)(o:Oper)(v:Value)(a:Act):Prop:=
 (Region.wanted o (yielded ops a.tmps)=true/\∀w,(execOp a.eval o).run P w=.ok (.value v) w)\/(Region.wanted o (yielded ops a.tmps)=false/\v=undef)
def YR(P:Program)(ops:Array Oper)(o:Oper)(v:Value)(a:Act)(w:World):Prop:=
 (Region.wanted o (yielded ops a.tmps)=true/\∃nx,(execOp a.eval o).run P w=.ok nx w/\o9 nx=some v)\/(Region.wanted o (yielded ops a.tmps)=false/\v=undef)
theorem eB{o:Oper}(h:aX P o=true)(cs:Array SelectCase)(b:Bool):o.op≠.select cs b:=by
 intro hc;simp[aX,hc]at h
theorem tO{oi oj:Oper}{v:Value}{a:Act}{w:World}(hap:oi.apart ops oj=true)(iD:aX P oi=true)(hy:YR P ops oi v a w)(u:Value):YR P ops oi v (a.put oj.dst u) w:=by
 obtain⟨h1,h2,h3⟩:=Oper.apart_spec hap;unfold YR at *;rw[execOp_put oi (eB iD) a oj.dst u h3,wanted_put oi a oj.dst u h3];exact hy
theorem LS{oi oj:Oper}{v:Value}{a:Act}(hap:oi.apart ops oj=true)(iD:aX P oi=true)(hy:YP P ops oi v a)(u:Value):YP P ops oi v (a.put oj.dst u):=by
 obtain⟨h1,h2,h3⟩:=Oper.apart_spec hap;unfold YP at *;simp only[execOp_put oi (eB iD) a oj.dst u h3,wanted_put oi a oj.dst u h3];exact hy
theorem hU{i:Nat}{oi:Oper}{v:Value}{K:Act->World->Prop}{a:Act}{w:World}(hi:ops[i]? =some oi)(iD:aX P oi=true)(hy:YR P ops oi v a w)(h:K (a.put oi.dst v) w):ef P ops n Q i K a w:=by
 unfold ef;rw[hi];dsimp only;rw[jd iD];rcases hy with⟨h1,nx,h2,hv⟩|⟨h1,rfl⟩
 ·exact .inl ⟨h1,nx,v,h2,hv,h⟩
 ·exact .inr ⟨h1,h⟩
theorem YP.at{o:Oper}{v:Value}{a:Act}(h:YP P ops o v a)(w:World):YR P ops o v a w:=
 h.imp (λh=>⟨h.1,_,h.2 w,rfl⟩) id
theorem qt{j:Nat}{oi oj:Oper}{v:Value}(hj:ops[j]? =some oj)(hap:oi.apart ops oj=true)(iD:aX P oi=true)(E1:aX P oj=true)
 {Y:Act->World->Prop}(hY:∀a w u,Y a w->Y (a.put oj.dst u) w)(K:Act->World->Prop)(a:Act)(w:World)(hy:Y a w)(h:ef P ops n Q j K (a.put oi.dst v) w):
 ef P ops n Q j (λa' w'=>Y a' w'/\K (a'.put oi.dst v) w') a w:=by
 obtain⟨h1,h2,h3⟩:=Oper.apart_spec hap;unfold ef at h⊢;simp only[hj]at h⊢;rw[jd E1]at h⊢;rw[wanted_put oj a oi.dst v h1,execOp_put oj (eB E1) a oi.dst v h1]at h;rcases h with⟨hw,nx,u,hu,hv,hk⟩|⟨hw,hk⟩
 ·exact .inl ⟨hw,nx,u,hu,hv,hY _ _ _ hy,by rw[<-Act.put_comm a v u h2];exact hk⟩
 ·exact .inr ⟨hw,hY _ _ _ hy,by rw[<-Act.put_comm a v undef h2];exact hk⟩
theorem y4{o:Oper}(h:eo P o=true)(ρ:Operand->Value)(w:World):o.about P w ρ=none:=by
 unfold Oper.about;cases ho:o.op
 case call c=>
  obtain⟨callee,args,ats⟩:=c;cases callee<;>first|(simp[eo,ho]at h;done)|skip
  rename_i b;have hl:∀d w',(resolve ρ {callee:=.builtin b,args:=args,argTypes:=ats} o.type).run P w=.ok d w'->d.target.leads P w' d.args=none:=by
   intro d w' hd;simp only[resolve,Sem.run_pure,Result.ok.injEq]at hd;obtain⟨rfl,rfl⟩:=hd;rfl
  dsimp only;cases hr:(resolve ρ {callee:=.builtin b,args:=args,argTypes:=ats} o.type).run P w with
  |ok d w'=>exact hl d w' hr
  |halt _ _=>rfl
 all_goals first|rfl|simp[eo,ho]at h
theorem fS{o:Oper}(h:eo P o=true):aX P o=true:=by
 obtain⟨dst,op,ty,pos,after,guard⟩:=o;cases op<;>first
  |rfl
  |(simp[eo]at h;done)
  |skip
 case convert s d x=>
  simp only[eo,jz]at h;have hd:=h.2;unfold fX at hd;simp only[aX];unfold bk;split at hd
  ·rename_i hu;rw[hu]
  ·cases hd
 case call c=>
  obtain⟨callee,args,ats⟩:=c;cases callee<;>first|(simp[eo]at h;done)|skip
  rename_i b;simp only[eo]at h;cases b<;>first|rfl|(simp[wz]at h;done)
theorem E2{j:Nat}{oi oj:Oper}{v:Value}(hj:ops[j]? =some oj)(hap:oi.apart ops oj=true)(DF:eo P oi=true)(hsel:Region.noSelect ops=true)
 (hQ:∀c a w,Q (.panic c) (a.put oi.dst v) w->Q (.panic c) a w)(K:Act->World->Prop)(a:Act)(w:World)(hy:YP P ops oi v a)(h:ef P ops n Q j K (a.put oi.dst v) w):
 ef P ops n Q j (λa' w'=>YP P ops oi v a'/\K (a'.put oi.dst v) w') a w:=by
 by_cases E1:aX P oj=true
 ·exact qt (Y:=λa _=>YP P ops oi v a) hj hap (fS DF) E1 (λa w u hy=>LS hap (fS DF) hy u) K a w hy h
 ·unfold ef at h⊢
  simp only[hj]at h⊢;rw[jc E1]at h⊢;have Rm:YieldsFenced P ops oi v a:=⟨hy,λw=>y4 DF _ w⟩;have:=wpOpIn_put (F:=wf none) rfl hj hap (eB (fS DF)) (Region.noSelect_spec hsel j oj · · hj) hQ Rm h;exact wpOpIn_mono (λa w h=>⟨h.1.1,h.2⟩) this
def YG(P:Program)(ops:Array Oper)(o:Oper)(v:Value)(a:Act)(w:World):Prop:=∀w',XW w w'->YR P ops o v a w'
theorem LU{oi oj:Oper}{v:Value}{a:Act}{w:World}(hap:oi.apart ops oj=true)(iD:aX P oi=true)(hy:YG P ops oi v a w)(u:Value):YG P ops oi v (a.put oj.dst u) w:=
 λw' hw=>tO hap iD (hy w' hw) u
theorem CK{o:Oper}(h:aX P o=true):mO P o=true:=by
 unfold mO;split<;>first|rfl|exact h|(rw[h];simp)
theorem E3{j:Nat}{oi oj:Oper}{v:Value}(hj:ops[j]? =some oj)(hap:oi.apart ops oj=true)(iD:aX P oi=true)(Sk:mO P oj=true)(hsel:Region.noSelect ops=true)
 (hQ:∀c a w,Q (.panic c) (a.put oi.dst v) w->Q (.panic c) a w)(K:Act->World->Prop)(a:Act)(w:World)(hy:YG P ops oi v a w)(h:ef P ops n Q j K (a.put oi.dst v) w):
 ef P ops n Q j (λa' w'=>YG P ops oi v a' w'/\K (a'.put oi.dst v) w') a w:=by
 by_cases E1:aX P oj=true
 ·exact qt (Y:=λa w=>YG P ops oi v a w) hj hap iD E1 (λa w u hy=>LU hap iD hy u) K a w hy h
 ·have Sm:aX P oj=false:=by simpa using E1
  obtain⟨h1,h2,h3⟩:=Oper.apart_spec hap;have hsj:∀cs b,oj.op≠.select cs b:=λcs b=>Region.noSelect_spec hsel j oj cs b hj;unfold ef at h⊢;simp only[hj]at h⊢;rw[jc E1]at h⊢;unfold wpOpIn at *;simp only[hj]at *;rw[wanted_put oj a oi.dst v h1,about_put oj w a oi.dst v h1]at h;split
  ·rename_i hw
   simp only[hw,if_true]at h;unfold Oper.wpIn at *;rw[about_put oj w a oi.dst v h1]at h;refine⟨h.1,?_⟩;have h:=h.2;rw[show(wf none).round=none from rfl,Oper.semAt_none,execOp_put oj hsj a oi.dst v h1]at h;rw[show(wf none).round=none from rfl,Oper.semAt_none];cases hr:(execOp a.eval oj).run P w with
   |
    ok x w'=>
    rw[hr]at h;obtain⟨hx,u,rfl⟩:=CG Sk Sm a w x w' hr;simp only[Oper.uponIn]at h⊢;exact⟨λw2 NI=>tO hap iD (hy w2 (hx.trans NI)) u,by rw[<-Act.put_comm a v u h2];exact h⟩
   |
    halt x w'=>
    rw[hr]at h;cases x<;>simp only[Oper.uponIn]at h⊢
    case panic u=>exact hQ _ _ _ h
  ·rename_i hw
   simp only[hw]at h;exact⟨h.1,λw2 NI=>tO hap iD (hy w2 NI) _,by rw[<-Act.put_comm a v undef h2];exact h.2⟩
end
section
variable{P:Program}{ops:Array Oper}{md:Region.Mode}{e:Env}{a:Act}{w:World}
theorem kI{o:Oper}{k:EV->Pr}(hr:aX P o=true)(he:Ag e a)(h:cop P o e k w):RT P (execOp a.eval o) w (NX k):=by
 rcases Classical.em (∀c,o.op≠.call c)with hno|hno
 ·exact E4 he h hno
 obtain⟨c,hc⟩:∃c,o.op=.call c:=Classical.byContradiction λh=>hno λc hc=>h ⟨c,hc⟩;obtain⟨dst,op,ty,pos,after,guard⟩:=o;dsimp only at hc;subst hc;obtain⟨callee,args,ats⟩:=c;have hargs:(args.toList.map a.eval).toArray=args.map a.eval:=by rw[<-Array.toList_map,Array.toArray_toList]
 cases callee with
 |
  builtin b=>
  simp only[cop]at h;have h1:=eK he h;unfold execOp;dsimp only;unfold resolve;dsimp only;refine .bind (.pure ?_);dsimp only[invoke];rw[<-hargs];exact oC h1
 |value x=>simp[aX]at hr
 |invoke _ _=>simp[aX]at hr
theorem qu{kp:KP}{df:Bool}{o:Oper}{k:Env->Pr}(hr:aX P o=true)(h:Nd P kp df o e k w):cop P o e (λv=>k (Env.put e o.dst v)) w:=by
 have h1:mP o.op=none:=by
  unfold mP;split
  ·rename_i heq;simp[aX,heq]at hr
  ·rfl
 have h2:mR o.op=none:=by
  unfold mR;split
  ·rename_i heq;simp[aX,heq]at hr
  ·rfl
 have h3:pg o.op=none:=by
  unfold pg;split
  ·rename_i heq;simp[aX,heq]at hr
  ·rename_i heq;simp[aX,heq]at hr
  ·rfl
 unfold Nd at h;rw[h1]at h;unfold orElse Ir at h;cases kp with
 |none=>exact h
 |
  some q=>
  unfold KP.at at h;rw[h2,h3]at h;exact h
theorem su{kp:KP}{df:Bool}{i:Nat}{o:Oper}{k:Env->Pr}(hr:aX P o=true)(he:Ag e a)(hi:ops[i]? =some o)(h:rD P kp df ops o e k w):
 ∃v e',YR P ops o v a w/\Ag e' (a.put o.dst v)/\Ext (aY ops) e e'/\k e' w:=by
 rcases jK he hi h with⟨hw,e1,cw,hx,h1⟩|⟨hw,e1,cw,hx,h1⟩
 ·have h1:=qu hr h1
  obtain⟨nx,w',h2,h3⟩:=kI hr cw (EL hr h1);cases nx<;>simp only[NX]at h3<;>try exact h3.elim
  ·obtain⟨x,hg,hk,rfl⟩:=h3
   exact⟨_,_,.inl ⟨hw,_,h2,rfl⟩,cw.put o.dst hg,Ext.tM hi hx,hk⟩
  ·obtain⟨hk,rfl⟩:=h3
   exact⟨_,_,.inl ⟨hw,_,h2,rfl⟩,cw.LL o.dst _,Ext.tM hi hx,hk⟩
 ·exact⟨undef,_,.inr ⟨hw,rfl⟩,cw.kH o.dst,Ext.tM hi hx,h1⟩
theorem CL{kp:KP}{df:Bool}{i:Nat}{o:Oper}{k:Env->Pr}(hr:eo P o=true)(he:Ag e a)(hi:ops[i]? =some o)(h:rD P kp df ops o e k w):
 ∃v e',YP P ops o v a/\Ag e' (a.put o.dst v)/\Ext (aY ops) e e'/\k e' w:=by
 rcases jK he hi h with⟨hw,e1,cw,hx,h1⟩|⟨hw,e1,cw,hx,h1⟩
 ·have h1:=qu (fS hr) h1
  obtain⟨x,v,Iq,hk,hall⟩:=Im hr h1;have hrun:∀w',(execOp a.eval o).run P w'=.ok (.value v) w':=by
   intro w';obtain⟨nx,w2,h2,h3⟩:=kI (fS hr) cw (hall (λy w''=>y=x/\w''=w') w' ⟨rfl,rfl⟩);cases nx<;>simp only[NX]at h3<;>try exact h3.elim
   ·obtain⟨y,hg,rfl,rfl⟩:=h3
    rw[h2,hg v Iq]
   ·obtain⟨rfl,rfl⟩:=h3
    simp[EV.v?]at Iq
  exact⟨v,_,.inl ⟨hw,hrun⟩,cw.put o.dst (λu hu=>by rw[Iq]at hu;simpa using hu.symm),Ext.tM hi hx,hk⟩
 ·exact⟨undef,_,.inr ⟨hw,rfl⟩,cw.kH o.dst,Ext.tM hi hx,h1⟩
theorem wD{o:Oper}(h:J8 P o=true):aX P o=true:=by
 obtain⟨dst,op,ty,pos,after,guard⟩:=o;cases op<;>first|rfl|(cases h;done)|skip
 rename_i s d x;have hd:=jI (show qn P d=true from h);simp only[aX];unfold bk;rw[hd]
theorem CM{kp:KP}{df:Bool}{i:Nat}{o:Oper}{k:Env->Pr}(hr:J8 P o=true)(he:Ag e a)(hi:ops[i]? =some o)(h:rD P kp df ops o e k w):
 ∃v e',YG P ops o v a w/\Ag e' (a.put o.dst v)/\Ext (aY ops) e e'/\k e' w:=by
 rcases jK he hi h with⟨hw,e1,cw,hx,h1⟩|⟨hw,e1,cw,hx,h1⟩
 ·have h1:=qu (wD hr) h1
  obtain⟨x,v,Iq,hk,hall⟩:=EZ hr h1;have hrun:∀w',XW w w'->(execOp a.eval o).run P w'=.ok (.value v) w':=by
   intro w' Sn;obtain⟨nx,w2,h2,h3⟩:=kI (wD hr) cw (hall (λy w''=>y=x/\w''=w') w' Sn ⟨rfl,rfl⟩);cases nx<;>simp only[NX]at h3<;>try exact h3.elim
   ·obtain⟨y,hg,rfl,rfl⟩:=h3
    rw[h2,hg v Iq]
   ·obtain⟨rfl,rfl⟩:=h3
    simp[EV.v?]at Iq
  exact⟨v,_,λw' Sn=>.inl ⟨hw,_,hrun w' Sn,rfl⟩,cw.put o.dst (λu hu=>by rw[Iq]at hu;simpa using hu.symm),Ext.tM hi hx,hk⟩
 ·exact⟨undef,_,λ_ _=>.inr ⟨hw,rfl⟩,cw.kH o.dst,Ext.tM hi hx,h1⟩
def qv(md:Region.Mode)(ops:Array Oper)(listed:Array Bool)(i:Nat):List Nat->List Nat->List Nat
 |[],acc=>acc
 |
  j::js,acc=>
  match ops[j]?with
  |
   some o=>match !listed.getD j true&&o.after.toList.any (λe=>Region.binds md e&&(e.on==i||acc.contains e.on))with
   |true=>qv md ops listed i js (j::acc)
   |false=>qv md ops listed i js acc
  |none=>qv md ops listed i js acc
def pq(P:Program)(ops:Array Oper)(listed:Array Bool)(i:Nat)(oi:Oper)(B:List Nat)(j:Nat):Bool:=
 j==i||listed.getD j true||B.contains j||
 match ops[j]?with
 |some oj=>oi.apart ops oj&&(eo P oi||aX P oj||(J8 P oi&&mO P oj))
 |none=>true
def iO(P:Program)(md:Region.Mode)(ops:Array Oper)(listed:Array Bool)(i:Nat):Bool:=
 match ops[i]?with
 |some oi=>aX P oi&&(List.range ops.size).all (pq P ops listed i oi (qv md ops listed i (List.range ops.size) []))
 |none=>false
def Wd:Pr:=λ_=>True
def LW:List Nat->(Nat->Pr)->Pr
 |[],_=>Wd
 |[i],f=>f i
 |i::j::l,f=>both (f i) (LW (j::l) f)
theorem lO{f:Nat->Pr}:∀{l:List Nat},LW l f w->∀i∈l,f i w
 |[],_,_,h=>by cases h
 |[_],h,i,hi=>by rw[jo]at hi;subst hi;exact h
 |
  _::_::_,h,i,hi=>by
  rcases List.mem_cons.1 hi with rfl|hi
  ·exact h.1
  ·exact lO h.2 i hi
def Is(rs:List Nat)(t:Option Nat)(z:Pr)(f:Nat->Pr):Pr:=
 match rs with
 |[]=>z
 |
  _::_=>match t with
  |some i=>f i
  |none=>LW rs f
abbrev qw:=Nat->Array Bool->Env->Option Pr
def nU(x:Option Pr)(y:Pr):Pr:=
 match x with
 |some p=>p
 |none=>y
def cD(P:Program)(kp:KP)(md:Region.Mode)(ops:Array Oper)(stop:qw):Nat->Array Bool->Env->(Env->Pr)->Pr
 |0,listed,e,k=>nU (stop 0 listed e) (Is (Region.ready md ops listed) none (k e) (λ_=>bK))
 |fuel+1,listed,e,k=>nU (stop (fuel+1) listed e) (Is (Region.ready md ops listed) ((Region.ready md ops listed).find? (iO P md ops listed)) (k e)
   (λi=>opt (ops[i]?) λo=>rD P kp false ops o e λe'=>cD P kp md ops stop fuel (listed.setIfInBounds i true) e' k))
def iP(e:Env):List Nat->Env->Env
 |[],e0=>e0
 |
  d::l,e0=>
  match Env.get e d with
  |.lit b=>iP e l (Env.set e0 d (.lit b))
  |
   x=>match eV x with
   |true=>iP e l (Env.set e0 d jV)
   |false=>iP e l e0
def mS(e e':Env):List Nat->Bool
 |[]=>true
 |
  d::l=>
  match Env.get e d with
  |.lit b=>(match Env.get e' d with|.lit c=>b==c&&mS e e' l|_=>false)
  |
   x=>match eV x with
   |true=>eV (Env.get e' d)&&mS e e' l
   |false=>mS e e' l
structure JA where
 sk:Bool
 rs:List Nat
 ix:List Nat
 l:Live
def JA.to(j:JA)(listed:Array Bool):Array Bool:=j.ix.foldl (λa i=>a.setIfInBounds i true) listed
def JA.ds(j:JA)(ops:Array Oper):List Nat:=j.ix.filterMap λi=>(ops[i]?).bind (·.dst)
def JA.kp(j:JA)(ops:Array Oper):List Nat:=(aY ops).filter λd=> !(j.ds ops).contains d
def JA.sl(j:JA)(ops:Array Oper):List Nat:=
 match j.sk with
 |true=>(j.ds ops).filter λd=>(aY ops).contains d
 |false=>[]
def J9(ops:Array Oper)(e:Env)(i:Nat):Bool:=
 match(ops[i]?).bind (·.guard)with
 |
  some (g,want)=>(match qo ops g with
  |some d=>(match Env.get e d with|.lit b=>b !=want|x=>eV x)
  |none=>false)
 |none=>false
def qx:List Nat->Env->Env
 |[],e=>e
 |d::l,e=>qx l (Env.set e d jV)
def E5(ops:Array Oper)(j:JA)(e:Env)(T:Array Bool)(f2:Nat)(R:b9 (j.l.map (·.2))->Pr):qw:=λfuel listed e'=>
 match listed==T&&Nat.ble f2 fuel with
 |true=>some (tf (mS e e' (j.kp ops)&&(j.sl ops).all λd=>eV (Env.get e' d)) (need e' j.l R) bK)
 |false=>none
def E6(P:Program)(kp:KP)(md:Region.Mode)(ops:Array Oper)(j:JA)(LX:Nat->Array Bool->Env->Pr)(fuel:Nat)(listed:Array Bool)(e:Env):Pr:=
 tf (!(aY ops).contains jU&& !(aY ops).contains mJ) (jn (λR=>cD P kp md ops (E5 ops j e (j.to listed) (fuel-j.ix.length) R) fuel listed e (λ_=>bK))
  (λs=>LX (fuel-j.ix.length) (j.to listed) (iM (qx (j.sl ops) (iP e (j.kp ops) (Env.forget e (aY ops)))) j.l s))) bK
def AG(P:Program)(kp:KP)(md:Region.Mode)(ops:Array Oper)(j:JA)(LX:Nat->Array Bool->Env->Pr)(alt:qw):qw:=λfuel listed e=>
 match Region.ready md ops listed==j.rs&&(j.sk==j.ix.all (J9 ops e))with
 |true=>some (E6 P kp md ops j LX fuel listed e)
 |false=>alt fuel listed e
def stops(P:Program)(kp:KP)(md:Region.Mode)(ops:Array Oper)(k:Env->Pr):List JA->qw
 |[]=>λ_ _ _=>none
 |j::js=>AG P kp md ops j (λf L e'=>cD P kp md ops (stops P kp md ops k js) f L e' k) (stops P kp md ops k js)
def Ka(P:Program)(kp:KP)(md:Region.Mode)(ops:Array Oper)(js:List JA)(fuel:Nat)(listed:Array Bool)(e:Env)(k:Env->Pr):Pr:=cD P kp md ops (stops P kp md ops k js) fuel listed e k
theorem k6{listed:Array Bool}{i:Nat}:∀(js acc:List Nat),(∀j∈acc,listed.getD j true=false/\∃oj,ops[j]? =some oj/\∃e∈oj.after,Region.binds md e=true/\(e.on=i\/e.on∈acc))->
 ∀j∈qv md ops listed i js acc,listed.getD j true=false/\∃oj,ops[j]? =some oj/\∃e∈oj.after,Region.binds md e=true/\(e.on=i\/e.on∈qv md ops listed i js acc)
 |[],acc,h=>h
 |
  j::js,acc,h=>by
  unfold qv;cases ho:ops[j]?with
  |none=>simpa using k6 js acc h
  |
   some o=>
   cases hc: !listed.getD j true&&o.after.toList.any (λe=>Region.binds md e&&(e.on==i||acc.contains e.on))with
   |false=>simp only[hc];exact k6 js acc h
   |
    true=>
    simp only[hc];refine k6 js (j::acc) ?_;intro m hm;rcases List.mem_cons.1 hm with rfl|hm
    ·simp only[jz,Bool.not_eq_true',List.any_eq_true,Bool.or_eq_true,ki,List.contains_iff_mem]at hc
     obtain⟨h1,ed,h2,h3,h4⟩:=hc;exact⟨h1,o,ho,ed,by simpa using h2,h3,h4.imp id (λh=>List.mem_cons_of_mem _ h)⟩
    ·obtain⟨h1,oj,h2,ed,h3,h4,h5⟩:=h m hm
     exact⟨h1,oj,h2,ed,h3,h4,h5.imp id (λh=>List.mem_cons_of_mem _ h)⟩
variable{n:Nat}{Q:Exit->Act->World->Prop}
theorem y5{j:Nat}{o:Oper}(h:ops[j]? =some o):j<ops.size:=by
 rcases Nat.lt_or_ge j ops.size with h'|h'
 ·exact h'
 ·simp[Array.getElem?_eq_none h']at h
theorem oD:∀(f:Nat) (L:Array Bool) (a:Act) (w:World),eW P md ops n Q f L a w->eW P md ops n Q (f+1) L a w
 |0,L,a,w,h=>⟨λ_=>h.2,λi hi=>by rw[h.1]at hi;cases hi⟩
 |f+1,L,a,w,h=>⟨h.1,λi hi=>lN (λa w h=>oD f _ a w h) (h.2 i hi)⟩
theorem CN{f g:Nat}{L:Array Bool}{a:Act}{w:World}(h:f<=g)(hh:eW P md ops n Q f L a w):eW P md ops n Q g L a w:=by
 obtain⟨d,rfl⟩:=Nat.exists_eq_add_of_le h;clear h
 induction d with
 |zero=>exact hh
 |succ d ih=>exact oD _ _ _ _ ih
theorem qy{kp:KP}{stop:qw}(hsel:Region.noSelect ops=true)(hQ:∀c a d v w,d∈aY ops->Q (.panic c) (a.put (some d) v) w->Q (.panic c) a w):∀(fuel:Nat) (listed:Array Bool) (e:Env) (a:Act) (w:World) (k:Env->Pr),Ag e a->cD P kp md ops stop fuel listed e k w->
 (∀e' a' w',Ag e' a'->Ext (aY ops) e e'->k e' w'->Q .normal a' w')->
 (∀e' a' ch w',Ag e' a'->Ext (aY ops) e e'->GY (kp.at e') ch w'->Q (.panic ch) a' w')->(∀f L e' a' w' p,Ag e' a'->Ext (aY ops) e e'->stop f L e'=some p->p w'->eW P md ops n Q f L a' w')->eW P md ops n Q fuel listed a w:=by
 have We:∀(i:Nat) (oi:Oper),ops[i]? =some oi->∀c a v w,Q (.panic c) (a.put oi.dst v) w->Q (.panic c) a w:=by
  intro i oi hi c a v w h;cases hd:oi.dst with
  |none=>rw[hd]at h;exact h
  |some d=>rw[hd]at h;exact hQ c a d v w (kZ hi hd) h
 intro fuel
 induction fuel with
 |
  zero=>
  intro listed e a w k he h hk hp hst;unfold cD at h;cases hs0:stop 0 listed e with
  |some p=>rw[hs0]at h;exact hst _ _ _ _ _ _ he (Ext.refl _ _) hs0 h
  |none=>
  rw[hs0]at h;unfold nU at h;dsimp only at h;cases hr:Region.ready md ops listed with
  |nil=>rw[hr]at h;exact⟨hr,hk _ _ _ he (Ext.refl _ _) h⟩
  |
   cons i l=>
   rw[hr]at h;exact(lO (f:=λ_=>bK) h i (by simp)).elim
 |
  succ fuel ih=>
  intro listed e a w k he h hk hp hst;have step:∀i o,ops[i]? =some o->rD P kp false ops o e (λe'=>cD P kp md ops stop fuel (listed.setIfInBounds i true) e' k) w->ef P ops n Q i (eW P md ops n Q fuel (listed.setIfInBounds i true)) a w:=by
   intro i o hi h;by_cases hr:aX P o=true
   ·obtain⟨v,e',hy,he',hx,h'⟩:=su hr he hi h
    exact hU hi hr hy (ih _ e' _ _ k he' h' (λe2 a2 w2 cu cK h2=>hk _ _ _ cu (hx.trans cK (λ_ h=>h) (λ_ h=>h)) h2) (λe2 a2 ch w2 cu cK h2=>hp _ _ _ _ cu (hx.trans cK (λ_ h=>h) (λ_ h=>h)) h2) (λf L e2 a2 w2 p cu cK=>hst f L e2 a2 w2 p cu (hx.trans cK (λ_ h=>h) (λ_ h=>h))))
   ·have h2:wpOpIn (wf none) n P ops Q i (eW P md ops n Q fuel (listed.setIfInBounds i true)) a w:=
     sr (λh=>by cases h) he hi h (λe' a' w' he' hx h'=>ih _ e' _ _ k he' h' (λe2 a2 w2 cu cK h2=>hk _ _ _ cu (hx.trans cK (λ_ h=>h) (λ_ h=>h)) h2) (λe2 a2 ch w2 cu cK h2=>hp _ _ _ _ cu (hx.trans cK (λ_ h=>h) (λ_ h=>h)) h2) (λf L e2 a2 w2 p cu cK=>hst f L e2 a2 w2 p cu (hx.trans cK (λ_ h=>h) (λ_ h=>h)))) hp
    unfold ef;rw[hi];dsimp only;rw[jc hr];exact h2
  unfold cD at h;cases hs0:stop (fuel+1) listed e with
  |some p=>rw[hs0]at h;exact hst _ _ _ _ _ _ he (Ext.refl _ _) hs0 h
  |none=>
  rw[hs0]at h;unfold nU at h;dsimp only at h;cases hr:Region.ready md ops listed with
  |
   nil=>
   rw[hr]at h;exact⟨λ_=>hk _ _ _ he (Ext.refl _ _) h,by simp[hr]⟩
  |
   cons i0 l0=>
   cases ht:(Region.ready md ops listed).find? (iO P md ops listed)with
   |
    none=>
    rw[ht,hr]at h;refine⟨λh0=>(by rw[hr]at h0;cases h0),λi hi=>?_⟩;rw[hr]at hi;obtain⟨o,ho,h1⟩:=ai (lO h i hi);exact step i o ho h1
   |
    some i=>
    rw[ht,hr]at h;have hmem:=List.mem_of_find?_eq_some ht;have q9:=List.find?_some ht;obtain⟨o,ho,h1⟩:=ai (show opt (ops[i]?) _ w from h);unfold iO at q9;rw[ho]at q9;simp only[jz,List.all_eq_true,List.mem_range]at q9;obtain⟨iD,hall⟩:=q9;have wE:=k6 (md:=md) (ops:=ops) (listed:=listed) (i:=i) (List.range ops.size) [] (by simp);generalize Zp:qv md ops listed i (List.range ops.size) []=BL at hall wE;have LY:∀j oj,ops[j]? =some oj->j≠i->listed.getD j true=false->¬(j∈BL)->o.apart ops oj=true/\((eo P o=true\/aX P oj=true)\/(J8 P o=true/\mO P oj=true)):=by
     intro j oj hj hji hun LZ;have:=hall j (y5 hj);unfold pq at this;rw[hj]at this;simp only[Bool.or_eq_true,ki,List.contains_iff_mem,jz]at this;rcases this with((h|h)|h)|h
     ·exact absurd h hji
     ·rw[hun]at h;cases h
     ·exact absurd h LZ
     ·exact h
    have hB:∀j oj,ops[j]? =some oj->j∈BL->∃e∈oj.after,Region.binds md e=true/\(e.on=i\/e.on∈BL):=by
     intro j oj hj hb;obtain⟨_,Zq,hj',h3⟩:=wE j hb;rw[hj]at hj';simp only[jg]at hj';exact hj'▸h3
    by_cases DF:eo P o=true
    ·obtain⟨v,e',hy,he',hx,h'⟩:=CL DF he ho h1
     refine nT (B:=λj=>j∈BL) (Y:=λa _=>YP P ops o v a) ho (λK a w hy hk=>hU ho iD (hy.at w) hk) hB fuel listed a w (λj hj=>(wE j hj).1) ?_ hmem hy ?_
     ·intro j oj hj hji hun LZ K a w hy h
      exact E2 hj (LY j oj hj hji hun LZ).1 DF hsel (λc a w=>We _ _ ho c a _ w) K a w hy h
     ·exact ih _ e' _ _ k he' h' (λe2 a2 w2 cu cK h2=>hk _ _ _ cu (hx.trans cK (λ_ h=>h) (λ_ h=>h)) h2) (λe2 a2 ch w2 cu cK h2=>hp _ _ _ _ cu (hx.trans cK (λ_ h=>h) (λ_ h=>h)) h2) (λf L e2 a2 w2 p cu cK=>hst f L e2 a2 w2 p cu (hx.trans cK (λ_ h=>h) (λ_ h=>h)))
    by_cases QI:J8 P o=true
    ·obtain⟨v,e',hy,he',hx,h'⟩:=CM QI he ho h1
     refine nT (B:=λj=>j∈BL) (Y:=λa w=>YG P ops o v a w) ho (λK a w hy hk=>hU ho iD (hy w (XW.refl w)) hk) hB fuel listed a w (λj hj=>(wE j hj).1) ?_ hmem hy ?_
     ·intro j oj hj hji hun LZ K a w hy h
      have hb:=LY j oj hj hji hun LZ;have Sk:mO P oj=true:=hb.2.elim (λh=>CK (h.resolve_left DF)) (λh=>h.2);exact E3 hj hb.1 iD Sk hsel (λc a w=>We _ _ ho c a _ w) K a w hy h
     ·exact ih _ e' _ _ k he' h' (λe2 a2 w2 cu cK h2=>hk _ _ _ cu (hx.trans cK (λ_ h=>h) (λ_ h=>h)) h2) (λe2 a2 ch w2 cu cK h2=>hp _ _ _ _ cu (hx.trans cK (λ_ h=>h) (λ_ h=>h)) h2) (λf L e2 a2 w2 p cu cK=>hst f L e2 a2 w2 p cu (hx.trans cK (λ_ h=>h) (λ_ h=>h)))
    ·obtain⟨v,e',hy,he',hx,h'⟩:=su iD he ho h1
     refine nT (B:=λj=>j∈BL) (Y:=λa w=>YR P ops o v a w) ho (λK a w hy hk=>hU ho iD hy hk) hB fuel listed a w (λj hj=>(wE j hj).1) ?_ hmem hy ?_
     ·intro j oj hj hji hun LZ K a w hy h
      have hb:=LY j oj hj hji hun LZ;have E1:=(hb.2.resolve_right (λh=>QI h.1)).resolve_left DF;exact qt (Y:=λa w=>YR P ops o v a w) hj hb.1 iD E1 (λa w u hy=>tO hb.1 iD hy u) K a w hy h
     ·exact ih _ e' _ _ k he' h' (λe2 a2 w2 cu cK h2=>hk _ _ _ cu (hx.trans cK (λ_ h=>h) (λ_ h=>h)) h2) (λe2 a2 ch w2 cu cK h2=>hp _ _ _ _ cu (hx.trans cK (λ_ h=>h) (λ_ h=>h)) h2) (λf L e2 a2 w2 p cu cK=>hst f L e2 a2 w2 p cu (hx.trans cK (λ_ h=>h) (λ_ h=>h)))
theorem mT{e e':Env}{a:Act}:∀{l:List Nat} {e0:Env},mS e e' l=true->Ag e' a->Ag e0 a->Ag (iP e l e0) a
 |[],_,_,_,h0=>h0
 |
  d::l,e0,hk,he,h0=>by
  have E7:∀(x:EV) (v:Value),x.v? =some v->(∀u,(Env.get e' d).v? =some u->u=v)->(∃u,(Env.get e' d).v? =some u)->Ag (Env.set e0 d x) a:=by
   intro x v hx hu ⟨u,Nf⟩;have hv:=he.get d u Nf;rw[hu u Nf]at hv;refine⟨by simpa using h0.size,λt y hy=>?_,by simpa using h0.defers⟩;rw[Env.fF]at hy;split at hy
   ·rename_i ht
    rw[hx]at hy;simp only[jg]at hy;rw[ht.1,hv,hy]
   ·exact h0.get t y hy
  have kJ:∀x:EV,(match eV x with|true=>eV (Env.get e' d)&&mS e e' l|false=>mS e e' l)=true->
   Ag (match eV x with|true=>iP e l (Env.set e0 d jV)|false=>iP e l e0) a:=by
   intro x hk;cases hs:eV x with
   |
    true=>
    rw[hs]at hk;dsimp only at hk⊢;simp only[jz]at hk;have h1:=qp hk.1;exact mT hk.2 he (E7 jV undef rfl (λu hu=>by rw[h1]at hu;simpa using hu.symm) ⟨_,h1⟩)
   |
    false=>
    rw[hs]at hk;exact mT hk he h0
  unfold mS at hk;unfold iP;cases hx:Env.get e d
  case lit b=>
   rw[hx]at hk;dsimp only at hk⊢;cases hc:Env.get e' d
   case lit c=>
    rw[hc]at hk;dsimp only at hk;simp only[jz,ki]at hk;obtain⟨rfl,hk⟩:=hk;exact mT hk he (E7 (.lit b) (.bool b) rfl (λu hu=>by rw[hc]at hu;simp[EV.v?]at hu;exact hu.symm) ⟨_,by rw[hc];rfl⟩)
   all_goals(rw[hc]at hk;cases hk)
  case no=>rw[hx]at hk;exact kJ .no hk
  case xB=>rw[hx]at hk;exact kJ .xB hk
  case xC k v=>rw[hx]at hk;exact kJ (.xC k v) hk
  case yP k v=>rw[hx]at hk;exact kJ (.yP k v) hk
  case val v=>rw[hx]at hk;exact kJ (.val v) hk
theorem k9{e:Env}{W:List Nat}:∀{l:List Nat} {e0:Env},(∀d∈l,d∈W)->Ext W e0 (iP e l e0)
 |[],_,_=>Ext.refl _ _
 |
  d::l,e0,h=>by
  have hd:=h d (List.mem_cons_self ..);have ht:∀x∈l,x∈W:=λx hx=>h x (List.mem_cons_of_mem _ hx);unfold iP;split
  ·exact(Ext.set _ _ _ _ hd).trans (k9 ht) (λ_ h=>h) (λ_ h=>h)
  ·split
   ·exact(Ext.set _ _ _ _ hd).trans (k9 ht) (λ_ h=>h) (λ_ h=>h)
   ·exact k9 ht
theorem AH{W:List Nat}:∀{l:Live} {e:Env} {p:b9 (l.map (·.2))},(∀x∈l,x.1∈W)->Ext W e (iM e l p)
 |[],_,_,_=>Ext.refl _ _
 |[x],e,p,h=>Ext.set _ _ _ _ (h x (by simp))
 |x::y::l,e,p,h=>(Ext.set _ _ _ _ (h x (by simp))).trans (AH (l:=y::l) λz hz=>h z (List.mem_cons_of_mem _ hz)) (λ_ h=>h) (λ_ h=>h)
theorem wF{e':Env}{a:Act}(he:Ag e' a):∀{l:List Nat} {e0:Env},(l.all λd=>eV (Env.get e' d))=true->Ag e0 a->Ag (qx l e0) a
 |[],_,_,h0=>h0
 |
  d::l,e0,hk,h0=>by
  rw[List.all_cons,jz]at hk;have hv:=he.get d _ (qp hk.1);have h1:Ag (Env.set e0 d jV) a:=by
   refine⟨by simpa using h0.size,λt y hy=>?_,by simpa using h0.defers⟩;rw[Env.fF]at hy;split at hy
   ·rename_i ht
    simp only[jV,EV.v?,jg]at hy;rw[ht.1,hv,<-hy];rfl
   ·exact h0.get t y hy
  exact wF (l:=l) he hk.2 h1
theorem sv{W:List Nat}:∀{l:List Nat} {e0:Env},(∀d∈l,d∈W)->Ext W e0 (qx l e0)
 |[],_,_=>Ext.refl _ _
 |d::l,e0,h=>(Ext.set _ _ _ _ (h d (List.mem_cons_self ..))).trans (sv λx hx=>h x (List.mem_cons_of_mem _ hx)) (λ_ h=>h) (λ_ h=>h)
theorem kK{kp:KP}(hsel:Region.noSelect ops=true)(hQ:∀c a d v w,d∈aY ops->Q (.panic c) (a.put (some d) v) w->Q (.panic c) a w){k:Env->Pr}{e:Env}
 (hk:∀e' a' w',Ag e' a'->Ext (aY ops) e e'->k e' w'->Q .normal a' w')
 (hp:∀e' a' ch w',Ag e' a'->Ext (aY ops) e e'->GY (kp.at e') ch w'->Q (.panic ch) a' w'):∀(js:List JA) (hj:∀j∈js,∀x∈j.l,x.1∈aY ops) (f:Nat) (L:Array Bool) (e1:Env) (a1:Act) (w1:World) (p:Pr),
 Ag e1 a1->Ext (aY ops) e e1->stops P kp md ops k js f L e1=some p->p w1->eW P md ops n Q f L a1 w1
 |[],_,_,_,_,_,_,_,_,_,h,_=>by cases h
 |
  j::js,hj,f,L,e1,a1,w1,p,cw,cW,hs,h1=>by
  have hj':∀j∈js,∀x∈j.l,x.1∈aY ops:=λi hi=>hj i (List.mem_cons_of_mem _ hi);unfold stops AG at hs;split at hs
  rotate_left
  ·exact kK hsel hQ hk hp js hj' f L e1 a1 w1 p cw cW hs h1
  simp only[jg]at hs;subst hs;rcases aI (show tf _ _ _ w1 from h1)with⟨hm,h1⟩|⟨_,h1⟩
  rotate_left
  ·exact h1.elim
  simp only[jz,Bool.not_eq_true']at hm;have hmk:jU∉aY ops:=by simpa using hm.1
  have hdf:mJ∉aY ops:=by simpa using hm.2
  obtain⟨R,h2,h3⟩:=h1;refine qy hsel hQ f L e1 a1 w1 _ cw h2 (λ_ _ _ _ _ h=>h.elim) (λe2 a2 ch w2 cu cK h=>hp e2 a2 ch w2 cu (cW.trans cK (λ_ h=>h) (λ_ h=>h)) h) ?_;intro f2 L2 e2 a2 w2 p cu cK hs h4;unfold E5 at hs;split at hs
  rotate_left
  ·cases hs
  rename_i hT;simp only[jg]at hs;subst hs;simp only[jz,ki]at hT;obtain⟨rfl,hle⟩:=hT;have hle:=Nat.le_of_ble_eq_true hle;rcases aI (show tf _ _ _ w2 from h4)with⟨hkp,h4⟩|⟨_,h4⟩
  rotate_left
  ·exact h4.elim
  rw[jz]at hkp;have hsub:∀d∈j.kp ops,d∈aY ops:=λd hd=>(List.mem_filter.1 hd).1;have jZ:∀d∈j.sl ops,d∈aY ops:=by
   unfold JA.sl;split
   ·intro d hd
    simpa using(List.mem_filter.1 hd).2
   ·intro d hd;cases hd
  obtain⟨s,hs,hR⟩:=dN (e0:=qx (j.sl ops) (iP e1 (j.kp ops) (Env.forget e1 (aY ops)))) cu (wF cu hkp.2 (mT hkp.1 cu (cu.forget cK hmk hdf))) h4;have So:Ext (aY ops) e (iM (qx (j.sl ops) (iP e1 (j.kp ops) (Env.forget e1 (aY ops)))) j.l s):=
   cW.trans ((Ext.forget e1 _).trans ((k9 hsub).trans ((sv jZ).trans (AH (hj j (List.mem_cons_self ..))) (λ_ h=>h) (λ_ h=>h)) (λ_ h=>h) (λ_ h=>h)) (λ_ h=>h) (λ_ h=>h)) (λ_ h=>h) (λ_ h=>h)
  refine CN hle (qy hsel hQ (f-j.ix.length) (j.to L) _ a2 w2 k hs (h3 s w2 hR) (λe3 a3 w3 On hx h=>hk e3 a3 w3 On (So.trans hx (λ_ h=>h) (λ_ h=>h)) h)
   (λe3 a3 ch w3 On hx h=>hp e3 a3 ch w3 On (So.trans hx (λ_ h=>h) (λ_ h=>h)) h) ?_)
  intro f3 L3 e3 a3 w3 p3 On hx h5 h6;exact kK hsel hQ hk hp js hj' f3 L3 e3 a3 w3 p3 On (So.trans hx (λ_ h=>h) (λ_ h=>h)) h5 h6
theorem oE{kp:KP}(hsel:Region.noSelect ops=true)(hQ:∀c a d v w,d∈aY ops->Q (.panic c) (a.put (some d) v) w->Q (.panic c) a w)(js:List JA)(hj:∀j∈js,∀x∈j.l,x.1∈aY ops)(fuel:Nat)(listed:Array Bool)(e:Env)(a:Act)(w:World)(k:Env->Pr)(he:Ag e a)(h:Ka P kp md ops js fuel listed e k w)
 (hk:∀e' a' w',Ag e' a'->Ext (aY ops) e e'->k e' w'->Q .normal a' w')
 (hp:∀e' a' ch w',Ag e' a'->Ext (aY ops) e e'->GY (kp.at e') ch w'->Q (.panic ch) a' w'):eW P md ops n Q fuel listed a w:=
 qy hsel hQ fuel listed e a w k he h hk hp (kK hsel hQ hk hp js hj)
end
def gl(n m:Nat):Array Bool:=((List.range n).map (Nat.testBit m)).toArray
theorem CR(n m:Nat):(gl n m).size=n:=by simp[gl]
theorem iQ(n m i:Nat):(gl n m)[i]? =if i<n then some (m.testBit i)else none:=by
 unfold gl;rw[List.getElem?_toArray,jf];by_cases h:i<n
 ·rw[List.getElem?_range h,jd h];rfl
 ·rw[List.getElem?_eq_none (by simp;omega),jc h];rfl
theorem iR(n m i:Nat)(d:Bool):(gl n m).getD i d=if i<n then m.testBit i else d:=by
 rw[Array.getD_eq_getD_getElem?,iQ];split<;>rfl
def It(m i:Nat):Nat:=Nat.lor m (Nat.shiftLeft 1 i)
theorem pB(m i j:Nat):(It m i).testBit j=(m.testBit j||i==j):=by
 show(m|||(1<<<i)).testBit j=_;rw[Nat.testBit_or,Nat.one_shiftLeft,Nat.testBit_two_pow]
 congr 1
theorem wO(n m i:Nat):(gl n m).setIfInBounds i true=gl n (It m i):=by
 refine Array.ext_getElem? λj=>?_;rw[Array.getElem?_setIfInBounds,iQ,iQ,CR,pB];by_cases h:i=j
 ·subst h
  rw[jd rfl];by_cases h2:i<n<;>simp[h2]
 ·rw[jc h]
  have:(i==j)=false:=by simpa using h
  rw[this,Bool.or_false]
theorem CT(n:Nat):Array.replicate n false=gl n 0:=by
 refine Array.ext_getElem? λj=>?_;rw[iQ,Array.getElem?_replicate];simp
theorem Iu{n m t:Nat}:(gl n m==gl n t)=Nat.beq (m%2^n) (t%2^n):=by
 rw[Bool.eq_iff_iff,ki,Nat.beq_eq];constructor
 ·intro h
  refine Nat.eq_of_testBit_eq λi=>?_;rw[Nat.testBit_mod_two_pow,Nat.testBit_mod_two_pow];by_cases hi:i<n
  ·have:=congrArg (λa=>a.getD i true) h
   simp only[iR,jd hi]at this;rw[this]
  ·simp[hi]
 ·intro h
  refine Array.ext_getElem? λi=>?_;rw[iQ,iQ];by_cases hi:i<n
  ·have:=congrArg (λa=>Nat.testBit a i) h
   simp only[Nat.testBit_mod_two_pow,hi,decide_true,Bool.true_and]at this;rw[this]
  ·rw[jc hi,jc hi]
def gU(md:Region.Mode):List Edge->Nat
 |[]=>0
 |e::l=>match Region.binds md e with|true=>It (gU md l) e.on|false=>gU md l
def Fc(md:Region.Mode)(o:Oper):Nat:=gU md o.after.toList
theorem kM{md:Region.Mode}{x:Nat}:∀{l:List Edge},(gU md l).testBit x=l.any (λe=>Region.binds md e&&e.on==x)
 |[]=>by simp[gU]
 |
  e::l=>by
  rw[List.any_cons,<-kM (l:=l),gU];cases Region.binds md e<;>simp[pB,Bool.or_comm]
theorem Iv{md:Region.Mode}{l:List Edge}{M:Nat}:Nat.beq (Nat.land (gU md l) M) (gU md l)=l.all λe=> !Region.binds md e||M.testBit e.on:=by
 rw[Bool.eq_iff_iff,Nat.beq_eq,List.all_eq_true];constructor
 ·intro h e he
  cases hb:Region.binds md e with
  |false=>rfl
  |
   true=>
   have h1:(gU md l).testBit e.on=true:=by rw[kM,List.any_eq_true];exact⟨e,he,by simp[hb]⟩
   rw[<-h]at h1;have h1:(gU md l&&&M).testBit e.on=true:=h1;rw[Nat.testBit_and,jz]at h1;simpa using h1.2
 ·intro h
  show gU md l&&&M=_;refine Nat.eq_of_testBit_eq λi=>?_;rw[Nat.testBit_and];cases h1:(gU md l).testBit i with
  |false=>rfl
  |
   true=>
   rw[kM,List.any_eq_true]at h1;obtain⟨e,he,hx⟩:=h1;simp only[jz,ki]at hx;have:=h e he;rw[hx.1]at this;rw[<-hx.2];simpa using this
theorem Iw{md:Region.Mode}{l:List Edge}{M:Nat}:(!Nat.beq (Nat.land (gU md l) M) 0)=l.any λe=>Region.binds md e&&M.testBit e.on:=by
 rw[Bool.eq_iff_iff,List.any_eq_true,Bool.not_eq_true'];constructor
 ·intro h
  refine Classical.byContradiction λhn=>?_;have h0:gU md l&&&M=0:=by
   refine Nat.eq_of_testBit_eq λi=>?_;rw[Nat.testBit_and,Nat.zero_testBit,Bool.and_eq_false_iff];refine Classical.byContradiction λhc=>hn ?_;have Di:(gU md l).testBit i=true:=by
    cases h1:(gU md l).testBit i with
    |true=>rfl
    |false=>exact absurd (.inl h1) hc
   have rL:M.testBit i=true:=by
    cases h1:M.testBit i with
    |true=>rfl
    |false=>exact absurd (.inr h1) hc
   rw[kM,List.any_eq_true]at Di;obtain⟨e,he,hx⟩:=Di;simp only[jz,ki]at hx;exact⟨e,he,by simp[hx.1,hx.2,rL]⟩
  have h0:Nat.land (gU md l) M=0:=h0;rw[h0]at h;cases h
 ·rintro⟨e,he,hx⟩
  simp only[jz]at hx;have h1:(gU md l).testBit e.on=true:=by rw[kM,List.any_eq_true];exact⟨e,he,by simp[hx.1]⟩
  cases hb:Nat.beq (Nat.land (gU md l) M) 0 with
  |false=>rfl
  |
   true=>
   have h0:gU md l&&&M=0:=Nat.eq_of_beq_eq_true hb;have:=congrArg (λa=>Nat.testBit a e.on) h0;simp only[Nat.testBit_and,h1,hx.2,Nat.zero_testBit]at this;cases this
section
variable(P:Program)(md:Region.Mode)(ops:Array Oper)
def nX(m:Nat):List Nat:=(List.range ops.size).filter λi=> !Nat.testBit m i&&(match ops[i]?with|some o=>Nat.beq (Nat.land (Fc md o) (m%2^ops.size)) (Fc md o)|none=>false)
theorem nY(m:Nat):nX md ops m=Region.ready md ops (gl ops.size m):=by
 unfold nX Region.ready;refine List.filter_congr λi hi=>?_;have hi:i<ops.size:=by simpa using hi
 rw[iR,jd hi,Array.getElem?_eq_getElem hi,Option.map_some,Option.getD_some]
 congr 1
 show Nat.beq (Nat.land (gU md ops[i].after.toList) _) (gU md ops[i].after.toList)=_;rw[Iv,<-Array.all_toList]
 congr 1
 funext e;rw[iR,Nat.testBit_mod_two_pow];by_cases h:e.on<ops.size<;>simp[h]
def ze(m i:Nat):List Nat->Nat->Nat
 |[],acc=>acc
 |
  j::js,acc=>
  match ops[j]?with
  |
   some o=>match !Nat.testBit m j&& !Nat.beq (Nat.land (Fc md o) (It acc i)) 0 with
   |true=>ze m i js (It acc j)
   |false=>ze m i js acc
  |none=>ze m i js acc
theorem AO(m i:Nat):∀(js:List Nat) (acc:List Nat) (A:Nat),(∀j∈js,j<ops.size)->(∀x,A.testBit x=acc.contains x)->∀x,(ze md ops m i js A).testBit x=(qv md ops (gl ops.size m) i js acc).contains x
 |[],_,_,_,h=>h
 |
  j::js,acc,A,hj,h=>by
  have hjl:=hj j (List.mem_cons_self ..);have ih:=λa b hh=>AO m i js a b (λx hx=>hj x (List.mem_cons_of_mem _ hx)) hh;unfold ze qv;rw[Array.getElem?_eq_getElem hjl,iR,jd hjl];have hc:(!Nat.beq (Nat.land (Fc md ops[j]) (It A i)) 0)=ops[j].after.toList.any (λe=>Region.binds md e&&(e.on==i||acc.contains e.on)):=by
   unfold Fc;rw[Iw]
   congr 1
   funext e;rw[pB,h,Bool.or_comm,Bool.beq_comm]
  dsimp only;rw[hc];cases !m.testBit j&&ops[j].after.toList.any (λe=>Region.binds md e&&(e.on==i||acc.contains e.on))with
  |true=>exact ih _ _ λx=>by rw[pB,h,List.contains_cons,Bool.or_comm,Bool.beq_comm]
  |false=>exact ih _ _ h
def Oz(oi:Oper)(j:Nat):Bool:=
 match ops[j]?with
 |some oj=>oi.apart ops oj&&(eo P oi||aX P oj||(J8 P oi&&mO P oj))
 |none=>true
def allM(oi:Oper)(m i B:Nat):List Nat->Bool
 |[]=>true
 |j::js=>(Nat.beq j i||(Nat.testBit m j||(Nat.testBit B j||Oz P ops oi j)))&&allM oi m i B js
def dj(m i:Nat):Bool:=
 match ops[i]?with
 |some oi=>aX P oi&&allM P ops oi m i (ze md ops m i (List.range ops.size) 0) (List.range ops.size)
 |none=>false
theorem Fe(m i:Nat):dj P md ops m i=iO P md ops (gl ops.size m) i:=by
 unfold dj iO;cases ops[i]?with
 |none=>rfl
 |
  some oi=>
  dsimp only
  congr 1
  have hB:=AO md ops m i (List.range ops.size) [] 0 (λj hj=>by simpa using hj) (λx=>by simp);have go:∀js:List Nat,(∀j∈js,j<ops.size)->allM P ops oi m i (ze md ops m i (List.range ops.size) 0) js=js.all (pq P ops (gl ops.size m) i oi (qv md ops (gl ops.size m) i (List.range ops.size) [])):=by
   intro js
   induction js with
   |nil=>intro _;rfl
   |
    cons j js ih=>
    intro hj;rw[allM,List.all_cons,ih λx hx=>hj x (List.mem_cons_of_mem _ hx)]
    congr 1
    unfold pq;rw[iR,jd (hj j (List.mem_cons_self ..)),<-hB,Bool.or_assoc,Bool.or_assoc];have:Nat.beq j i=(j==i):=by rw[Bool.eq_iff_iff,Nat.beq_eq,ki]
    rw[this];rfl
  exact go _ λj hj=>by simpa using hj
abbrev sB:=Nat->Nat->Env->Option Pr
def Iy(kp:KP)(stop:sB):Nat->Nat->Env->(Env->Pr)->Pr
 |0,m,e,k=>nU (stop 0 m e) (Is (nX md ops m) none (k e) (λ_=>bK))
 |fuel+1,m,e,k=>nU (stop (fuel+1) m e) (Is (nX md ops m) ((nX md ops m).find? (dj P md ops m)) (k e)
   (λi=>opt (ops[i]?) λo=>rD P kp false ops o e λe'=>Iy kp stop fuel (It m i) e' k))
theorem tW(kp:KP){sM:sB}{s:qw}(h:∀f m e,sM f m e=s f (gl ops.size m) e):∀(f m:Nat) (e:Env) (k:Env->Pr),Iy P md ops kp sM f m e k=cD P kp md ops s f (gl ops.size m) e k
 |0,m,e,k=>by rw[Iy,cD,h,nY]
 |
  f+1,m,e,k=>by
  rw[Iy,cD,h,nY];have ht:dj P md ops m=iO P md ops (gl ops.size m):=funext λi=>Fe P md ops m i;have hk:∀i e',Iy P md ops kp sM f (It m i) e' k=cD P kp md ops s f ((gl ops.size m).setIfInBounds i true) e' k:=λi e'=>by rw[tW kp h f,wO]
  rw[ht];simp only[hk]
def JA.QL(j:JA)(m:Nat):Nat:=j.ix.foldl It m
theorem Ff(j:JA)(n m:Nat):j.to (gl n m)=gl n (j.QL m):=by
 unfold JA.to JA.QL;generalize j.ix=l
 induction l generalizing m with
 |nil=>rfl
 |cons i l ih=>rw[List.foldl_cons,List.foldl_cons,wO,ih]
def Fg(j:JA)(e:Env)(T:Nat)(f2:Nat)(R:b9 (j.l.map (·.2))->Pr):sB:=λfuel m e'=>
 match Nat.beq (m%2^ops.size) (T%2^ops.size)&&Nat.ble f2 fuel with
 |true=>some (tf (mS e e' (j.kp ops)&&(j.sl ops).all λd=>eV (Env.get e' d)) (need e' j.l R) bK)
 |false=>none
def Fh(kp:KP)(j:JA)(LX:Nat->Nat->Env->Pr)(fuel:Nat)(m:Nat)(e:Env):Pr:=
 tf (!(aY ops).contains jU&& !(aY ops).contains mJ) (jn (λR=>Iy P md ops kp (Fg ops j e (j.QL m) (fuel-j.ix.length) R) fuel m e (λ_=>bK))
  (λs=>LX (fuel-j.ix.length) (j.QL m) (iM (qx (j.sl ops) (iP e (j.kp ops) (Env.forget e (aY ops)))) j.l s))) bK
def zf(kp:KP)(j:JA)(LX:Nat->Nat->Env->Pr)(alt:sB):sB:=λfuel m e=>
 match nX md ops m==j.rs&&(j.sk==j.ix.all (J9 ops e))with
 |true=>some (Fh P md ops kp j LX fuel m e)
 |false=>alt fuel m e
def qJ(kp:KP)(k:Env->Pr):List JA->sB
 |[]=>λ_ _ _=>none
 |j::js=>zf P md ops kp j (λf L e'=>Iy P md ops kp (qJ kp k js) f L e' k) (qJ kp k js)
theorem nZ(kp:KP)(k:Env->Pr):∀(js:List JA) (f m:Nat) (e:Env),qJ P md ops kp k js f m e=stops P kp md ops k js f (gl ops.size m) e
 |[],_,_,_=>rfl
 |
  j::js,f,m,e=>by
  show zf P md ops kp j _ _ f m e=AG P kp md ops j _ _ f (gl ops.size m) e;unfold zf AG;rw[nY,nZ kp k js];have:Fh P md ops kp j (λf L e'=>Iy P md ops kp (qJ P md ops kp k js) f L e' k) f m e=E6 P kp md ops j (λf L e'=>cD P kp md ops (stops P kp md ops k js) f L e' k) f (gl ops.size m) e:=by
   unfold Fh E6
   congr 1
   congr 1
   ·funext R
    rw[Ff];refine tW P md ops kp (λf' m' e'=>?_) ..;unfold Fg E5;rw[Iu]
    all_goals rfl
   ·funext s
    rw[Ff];exact tW P md ops kp (λf' m' e'=>nZ kp k js f' m' e') ..
  rw[this]
  all_goals rfl
def qz(kp:KP)(js:List JA)(e:Env)(k:Env->Pr):Pr:=Iy P md ops kp (qJ P md ops kp k js) ops.size 0 e k
theorem CO(kp:KP)(js:List JA)(e:Env)(k:Env->Pr):qz P md ops kp js e k=Ka P kp md ops js ops.size (Array.replicate ops.size false) e k:=by
 rw[CT];exact tW P md ops kp (nZ P md ops kp k js) ..
end
inductive An where
 |z
 |sq (x y:An)
 |br (x y:An)
 |bl (x:An)
 |sc (x:An)
 |lp (l:Live) (x:An)
 |jn (l:Live) (x:An)
 |rf (aU:List Sh) (x y:An)
 |jm (l:Live) (x:An)
 |lb
 |sj (lb:Nat) (l:Live) (x y:An)
 |rj (js:List JA)
structure Ks where
 n:Env->Pr
 r:Env->Pr
 x:List (Nat×(Env->Pr))
 rg:Bool
 g:List (Nat×(Env->Pr))
def j7:List (Nat×(Env->Pr))->Nat->Env->Pr
 |[],_,_=>bK
 |
  (j,k)::l,i,e=>
  match Nat.beq i j with
  |true=>k e
  |false=>j7 l i e
def bN:Code->List Nat
 |.region _ ops _=>aY ops
 |.seq a b=>bN a++bN b
 |.cond _ a b=>bN a++bN b
 |.block _ a=>bN a
 |.loop a=>bN a
 |.scope a=>bN a
 |.rangeFunc _ _ _ _=>[jU]
 |_=>[]
def tP(kp:KP)(dk:Bool):KP:=
 match dk with
 |true=>kp
 |false=>none
def y6(P:Program)(ops:Array Oper):Bool:=Region.noSelect ops&&jJ ops
def sw(P:Program)(ops:Array Oper):Bool:=P.follows .mixedOrders|| !Region.departs ops
def Sq(js:List JA)(ops:Array Oper):Bool:=js.all λj=>j.l.all λx=>(aY ops).contains x.1
def L0(P:Program)(kp:KP)(dk rg:Bool)(js:List JA)(ops:Array Oper)(draw:Bool)(e:Env)(k:Env->Pr):Pr:=
 match draw with
 |false=>LR P kp (!rg) ops (List.range ops.size) e k
 |true=>tf (y6 P ops) (jE (tf (sw P ops) (qz P .any ops (tP kp dk) js e k)
   (both (qz P .text ops (tP kp dk) js e k) (qz P .gc ops (tP kp dk) js e k)))) bK
def nV(l:Live)(W:List Nat):Bool:= !W.contains jU&& !W.contains mJ&&l.all λx=>W.contains x.1
def AI:Option Nat->Code
 |none=>.ret
 |some i=>.exit i
def xg:List (Nat×Pr)->Nat->Pr
 |[],_=>bK
 |
  (j,k)::l,i=>
  match Nat.beq i j with
  |true=>k
  |false=>xg l i
def jmp(r:Pr)(x:List (Nat×Pr)):Option Nat->Pr
 |none=>r
 |some i=>xg x i
def gM:Code->Bool
 |.ret=>true
 |.seq a b=>gM a||gM b
 |.cond _ a b=>gM a||gM b
 |.block _ a=>gM a
 |.loop a=>gM a
 |.scope a=>gM a
 |.rangeFunc _ _ a b=>gM a||gM b
 |_=>false
def dh(i:Nat):Code->Bool
 |.exit j=>Nat.beq i j
 |.seq a b=>dh i a||dh i b
 |.cond _ a b=>dh i a||dh i b
 |.block _ a=>dh i a
 |.loop a=>dh i a
 |.scope a=>dh i a
 |.rangeFunc _ _ a b=>dh i a||dh i b
 |_=>false
def Kb(c:Code)(e:Env):List (Nat×(Env->Pr))->List (Nat×Pr)
 |[]=>[]
 |
  (i,k)::l=>
  match dh i c with
  |true=>(i,k e)::Kb c e l
  |false=>Kb c e l
def Sr(P:Program)(v:Value)(aU:List Sh)(R:Nat->b9 aU->(Pr->Pr)->Pr->(Option Nat->Pr)->Pr)(K Jr:Nat->Pr)(Jx:Nat->List (Nat×Pr)):Pr:=λw=>
 ∃f caps,v=.func (.func f) #[] caps/\ey P f=true/\
 ∀
  L:LoopState->Option Code->Obj,(∀s p,∃r,L s p=.loop r)->
  (∀(W:World) (args:b9 aU) (k:Bool->Pr),W.heap[w.heap.size+1]? =some (L .ready none)->
    R
     (w.heap.size+1) args (λc W1=>W1.heap[w.heap.size+1]? =some (L .ready none)/\c (W1.putObj (w.heap.size+1) (L .busy none)))
     (λW1=>W1.heap[w.heap.size+1]? =some (L .busy none)/\k true (W1.putObj (w.heap.size+1) (L .ready none)))
     (λj W1=>W1.heap[w.heap.size+1]? =some (L .busy none)/\k false (W1.putObj (w.heap.size+1) (L .done (some (AI j))))) W->
    YieldAt Fence.wide 0 P (w.heap.size+1) (nM aU args).toArray W (aC [.c .bool] k))->
  Calls P f (#[.func (.yield (w.heap.size+1)) #[] #[]]++caps) ((w.alloc (.deferred (some []))).alloc (L .ready none)) λe W1=>
   (∃u,e=.returned u)/\
   (
    (W1.heap[w.heap.size+1]? =some (L .ready none)/\K w.heap.size (W1.putObj (w.heap.size+1) (L .exhausted none)))\/
    ∃j,W1.heap[w.heap.size+1]? =some (L .done (some (AI j)))/\jmp (Jr w.heap.size) (Jx w.heap.size) j (W1.putObj (w.heap.size+1) (L .exhausted (some (AI j)))))
def AJ:List Nat->LV->Env->Env
 |p::ps,v::vs,e=>AJ ps vs (Env.set e p (.val v))
 |_,_,e=>e
def QJ(lv:Option Nat->Pr):List (Nat×(Env->Pr))->List (Nat×(Env->Pr))
 |[]=>[]
 |(i,_)::l=>(i,λ_=>lv (some i))::QJ lv l
def takes:List Nat->Pr->Pr
 |[],k=>k
 |D::ds,k=>λw=>w.heap[D]? =some (.deferred (some []))/\takes ds k (w.putObj D (.deferred none))
def cH(l:Nat):Code->Bool
 |.seq a b=>cH l a||cH l b
 |.label l'=>Nat.beq l' l
 |_=>false
def jW:Code->Bool
 |.seq a b=>jW a&&jW b
 |.label _=>false
 |_=>true
def KX{S:Type}(G:(S->Pr)->S->Pr)(F:(S->Pr)->Pr):Pr:=λw=>
 ∃(I:S->Pr) (μ:S->World->Nat),F I w/\∀s w,I s w->G (λs' w'=>I s' w'/\μ s' w'<μ s w) s w
mutual
def cC(P:Program)(kp:KP)(dk:Bool):An->Code->Env->Ks->Pr
 |.z,.skip,e,K=>K.n e
 |.z,.label _,e,K=>K.n e
 |.z,.region _ ops draw,e,K=>L0 P kp dk K.rg [] ops draw e K.n
 |.rj js,.region _ ops draw,e,K=>tf (Sq js ops) (L0 P kp dk K.rg js ops draw e K.n) bK
 |.z,.exit i,e,K=>j7 K.x i e
 |.z,.ret,e,K=>K.r e
 |.z,.goto l,e,K=>j7 K.g l e
 |.lb,.label l,e,K=>j7 K.g l e
 |.sq x y,.seq a b,e,K=>cC P kp dk x a e {K with n:=λe'=>cC P kp dk y b e' K}
 |.br x y,.cond c a b,e,K=>tf (jW a&&jW b) (Dj (Env.ev e c) (cC P kp dk x a e K) (cC P kp dk y b e K)) bK
 |.bl x,.block id a,e,K=>tf (jW a) (cC P kp dk x a e {K with x:=(id,K.n)::K.x}) bK
 |.sc x,.scope a,e,K=>cC P kp dk x a e {K with g:=[]}
 |.sj lb l x y,.scope a,e,K=>tf (nV l (bN a)&&cH lb a) (KX
   (λX s=>cL P kp dk lb y a (iM (Env.forget e (bN a)) l s) {K with g:=[(lb,λe'=>need e' l X)]})
   (λX=>cC P kp dk x a e {K with g:=[(lb,λe'=>need e' l X)]})) bK
 |.lp l x,.loop a,e,K=>tf (nV l (bN a)&&jW a) (need e l λs=>aM (λX s=>cC P kp dk x a (iM (Env.forget e (bN a)) l s) {K with n:=λe'=>need e' l X}) s) bK
 |.jn l x,c,e,K=>tf (nV l (bN c)&&jW c) (jn (λR=>cC P kp dk x c e {K with n:=λe'=>need e' l R}) (λs=>K.n (iM (Env.forget e (bN c)) l s))) bK
 |.rf aU x y,.rangeFunc g ps assign body,e,K=>tf (!K.rg&&Nat.beq aU.length ps.size) (nd (Env.ev e g) λv=>
   Sr P v aU (λ_ args bg nx lv=>cC P none dk x assign (AJ ps.toList (nM aU args) ⟨e.l,[],[]⟩) ⟨λe1=>bg (cC P none dk y body e1 ⟨λ_=>nx,λ_=>lv none,QJ lv K.x,true,[]⟩),λ_=>bK,[],true,[]⟩)
    (λD=>K.n (Env.mark e D)) (λD=>tf (gM body) (K.r (Env.mark e D)) bK) (λD=>Kb body (Env.mark e D) K.x)) bK
 |.jm l x,c,e,K=>tf ((!(bN c).contains mJ&&l.all λz=>(bN c).contains z.1)&&jW c) (jn (λR=>cC P kp dk x c e {K with n:=λe'=>need e' l λs=>R (e'.ds,s)}) (λs=>K.n (iM ⟨(Env.forget e (bN c)).l,s.1,e.bs⟩ l s.2))) bK
 |_,_,_,_=>bK
def cL(P:Program)(kp:KP)(dk:Bool)(lb:Nat):An->Code->Env->Ks->Pr
 |.z,.label l,e,K=>tf (Nat.beq l lb) (K.n e) bK
 |.sq x y,.seq a b,e,K=>tf (cH lb a) (tf (cH lb b) bK (cL P kp dk lb x a e {K with n:=λe'=>cC P kp dk y b e' K})) (cL P kp dk lb y b e K)
 |_,_,_,_=>bK
end
theorem bq{P:Program}{b:Frame}{a:Act}{k:List Item}{cs:List Frame}{w:World}{c:Code}:
 step P (lone (b.atR a (.code (.scope c)::k)) cs w)=.next (lone (b.atR a (.code c::.inScope c::k)) cs w):=
 step_lone_go (by simp[stepG,stepG.exec,Frame.atR])
theorem gN{P:Program}{b:Frame}{a:Act}{k:List Item}{cs:List Frame}{w:World}{c:Code}:
 step P (lone (b.atR a (.inScope c::k)) cs w)=.next (lone (b.atR a k) cs w):=
 step_lone_go (by simp[stepG,stepG.exec,Frame.atR])
def Ss(Q:Exit->Act->World->Prop):Exit->Act->World->Prop
 |.goto _,_,_=>False
 |e,a,w=>Q e a w
theorem wG{F:Fence}{n:Nat}{P:Program}{Q:Exit->Act->World->Prop}{a:Act}{w:World}{c:Code}(h:c.wpIn F n P (Ss Q) a w):(Code.scope c).wpIn F n P Q a w:=by
 intro b k cs hro hb hr;have h0:(lone (b.atR a (.code (.scope c)::k)) cs w).fenced P F:=fenced_calm hb hr rfl;obtain⟨e,a₁,w₁,hq,gT⟩:=h b (.inScope c::k) cs hro hb hr;cases e with
 |normal=>exact⟨.normal,a₁,w₁,hq,.head h0 bq (StepsIn.trans gT (.one (fenced_calm hb hr rfl) gN))⟩
 |
  exit id=>
  have hx:exitTo id (.inScope c::k)=exitTo id k:=by simp[exitTo]
  exact⟨_,a₁,w₁,hq,λk' hk=>.head h0 bq (gT.1 k' (by rw[hx];exact hk)),
   λhr' hk=>let⟨k₁,h1,h2⟩:=gT.2 hr' (by rw[hx];exact hk);⟨k₁,h1,.head h0 bq h2⟩⟩
 |goto l=>exact hq.elim
 |ret=>exact⟨_,a₁,w₁,hq,.of_steps (.one h0 bq) gT⟩
 |panic ch=>exact⟨_,a₁,w₁,hq,.of_steps (.one h0 bq) gT⟩
 |outgrown=>exact⟨_,a₁,w₁,hq,.of_steps (.one h0 bq) gT⟩
theorem least{S:Type}(p:S->Prop)(f:S->Nat)(h:∃s,p s):∃s,p s/\∀s',p s'->f s<=f s':=by
 have key:∀m s,p s->f s=m->∃s,p s/\∀s',p s'->f s<=f s':=by
  intro m
  induction m using Nat.strongRecOn with
  |
   _ m ih=>
   intro s hs hm;rcases Classical.em (∃s',p s'/\f s'<m)with⟨s',h1,h2⟩|hno
   ·exact ih _ h2 s' h1 rfl
   ·refine⟨s,hs,λs' hs'=>?_⟩
    rw[hm];exact Nat.le_of_not_lt λhlt=>hno ⟨s',hs',hlt⟩
 obtain⟨s,hs⟩:=h;exact key _ s hs rfl
theorem y7{F:Fence}{n:Nat}{P:Program}{Q:Exit->Act->World->Prop}{c:Code}{S:Type}(I:S->Act->World->Prop)(μ:S->World->Nat){s:S}{a:Act}{w:World}(h₀:I s a w)
 (round:∀s a w,I s a w->c.wpIn F n P (Exit.then (λa' w'=>∃s',I s' a' w'/\μ s' w'<μ s w) Q) a w):(Code.loop c).wpIn F n P Q a w:=by
 classical
 let ν:Act->World->Nat:=λa w=>if h:∃s,I s a w then μ (Classical.choose (least (λs=>I s a w) (λs=>μ s w) h)) w else 0;refine wpIn_loop (λa w=>∃s,I s a w) ν ⟨s,h₀⟩ ?_;intro a w hex;obtain⟨RB,_⟩:=Classical.choose_spec (least (λs=>I s a w) (λs=>μ s w) hex);have hν:ν a w=μ (Classical.choose (least (λs=>I s a w) (λs=>μ s w) hex)) w:=by simp only[ν];rw[dif_pos hex]
 refine wpIn_mono (round _ a w RB) ?_;intro e a' w' h;cases e with
 |
  normal=>
  obtain⟨s',hs',hlt⟩:=h;refine⟨⟨s',hs'⟩,?_⟩;have L1:∃s,I s a' w':=⟨s',hs'⟩;have h2:=(Classical.choose_spec (least (λs=>I s a' w') (λs=>μ s w') L1)).2 s' hs';have Yx:ν a' w'=μ (Classical.choose (least (λs=>I s a' w') (λs=>μ s w') L1)) w':=by simp only[ν];rw[dif_pos L1]
  rw[hν,Yx];exact Nat.lt_of_le_of_lt h2 hlt
 |_=>exact h
section
variable{P:Program}{n:Nat}{r:Option Nat}
theorem y8{Q:Exit->Act->World->Prop}{ops:Array Oper}{id:Nat}{a:Act}{w:World}(hm:sw P ops=true)
 (h:wpAnyIn (wf r) n P .any ops Q ops.size (Array.replicate ops.size false) a w.drew):(Code.region id ops true).wpIn (wf r) n P Q a w:=
 wpIn_region_draw λt=>by
  unfold sw at hm;simp only[Region.schedule,hm,if_true];exact wpAnyIn_sound ops.size t _ a _ h
theorem y9{Q:Exit->Act->World->Prop}{ops:Array Oper}{id:Nat}{a:Act}{w:World}(hm:sw P ops=false)
 (h1:wpAnyIn (wf r) n P .text ops Q ops.size (Array.replicate ops.size false) a w.drew)(h2:wpAnyIn (wf r) n P .gc ops Q ops.size (Array.replicate ops.size false) a w.drew):(Code.region id ops true).wpIn (wf r) n P Q a w:=
 wpIn_region_draw λt=>by
  unfold sw at hm;simp only[Region.schedule,hm,Bool.false_eq_true,if_false];split
  ·exact wpAnyIn_sound ops.size _ _ a _ h1
  ·exact wpAnyIn_sound ops.size _ _ a _ h2
def E8(Q:Exit->Act->World->Prop):Exit->Act->World->Prop
 |.panic _,_,_=>False
 |e,a,w=>Q e a w
theorem wH{js:List JA}{ops:Array Oper}(h:Sq js ops=true):∀j∈js,∀x∈j.l,x.1∈aY ops:=λj hj x hx=>by
 simpa using List.all_eq_true.1 (List.all_eq_true.1 h j hj) x hx
theorem qA{kp:KP}{dk rg:Bool}{js:List JA}{ops:Array Oper}{id:Nat}{draw:Bool}{Q:Exit->Act->World->Prop}{e:Env}{a:Act}{w:World}{k:Env->Pr}(j8:rg=false->r=none)
 (hI:dk=true->∀c a d v w,d∈aY ops->Q (.panic c) (a.put (some d) v) w->Q (.panic c) a w)(Wf:Sq js ops=true)(he:Ag e a)(h:L0 P kp dk rg js ops draw e k w)
 (hk:∀e' a' w',Ag e' a'->Ext (aY ops) e e'->k e' w'->Q .normal a' w')
 (hp:∀e' a' ch w',Ag e' a'->Ext (aY ops) e e'->GY (kp.at e') ch w'->Q (.panic ch) a' w'):(Code.region id ops draw).wpIn (wf r) n P Q a w:=by
 cases draw with
 |false=>exact wpIn_region (qq (λh=>j8 (by simpa using h)) he h hk hp)
 |
  true=>
  rcases aI (show tf (y6 P ops) _ _ w from h)with⟨hd,h⟩|⟨_,h⟩
  ·simp only[y6,jz]at hd
   have one:∀(md:Region.Mode) (Q0:Exit->Act->World->Prop),(Q0=Q/\dk=true)\/(Q0=E8 Q/\dk=false)->qz P md ops (tP kp dk) js e k w.drew->
    wpAnyIn (wf r) n P md ops Q0 ops.size (Array.replicate ops.size false) a w.drew:=by
    intro md Q0 Oo h;rw[CO]at h;rcases Oo with⟨rfl,rfl⟩|⟨rfl,rfl⟩
    ·exact nS hd.2 _ _ _ _ (oE hd.1 (hI rfl) js (wH Wf) _ _ _ _ _ _ he h hk hp)
    ·exact nS hd.2 _ _ _ _ (oE (kp:=none) hd.1 (λc a d v w _ h=>h) js (wH Wf) _ _ _ _ _ _ he h hk (λe' a' ch w' _ _ h=>False.elim h))
   have Kc:∀Q0:Exit->Act->World->Prop,(Q0=Q/\dk=true)\/(Q0=E8 Q/\dk=false)->(Code.region id ops true).wpIn (wf r) n P Q0 a w:=by
    intro Q0 Oo;rcases aI (show tf (sw P ops) _ _ w.drew from h)with⟨hm,h⟩|⟨hm,h⟩
    ·exact y8 hm (one _ _ Oo h)
    ·exact y9 hm (one _ _ Oo h.1) (one _ _ Oo h.2)
   cases Wg:dk with
   |true=>exact Kc Q (.inl ⟨rfl,Wg⟩)
   |
    false=>
    refine wpIn_mono (Q:=E8 Q) (Kc _ (.inr ⟨rfl,Wg⟩)) ?_;intro ex a' w' h;cases ex<;>first|exact h|exact False.elim h
  ·exact h.elim
theorem kL{l:Live}{W:List Nat}(h:nV l W=true):(∀x∈l,x.1∈W)/\jU∉W/\mJ∉W:=by
 unfold nV at h;rw[jz,jz]at h;refine⟨λx hx=>?_,by simpa using h.1.1,by simpa using h.1.2⟩;have:=List.all_eq_true.1 h.2 x hx;simpa using this
theorem oF:∀(l:List Sh) (p:b9 l),(nM l p).length=l.length
 |[],_=>rfl
 |[_],_=>rfl
 |
  _::t::l,(p,q)=>by
  show(val _ p::nM (t::l) q).length=_;rw[List.length_cons,oF (t::l) q];rfl
theorem wI:∀(ps:List Nat) (vs:LV) (e:Env) (a:Act),Ag e a->Ag (AJ ps vs e) ((ps.zip vs).foldl (λa x=>a.put (some x.1) x.2) a)
 |[],vs,e,a,h=>by cases vs<;>exact h
 |_::_,[],e,a,h=>h
 |p::ps,v::vs,e,a,h=>wI ps vs _ _ (h.put (some p) (x:=.val v) (λu hu=>by simpa[EV.v?]using hu.symm))
theorem sx:∀(l:List (Nat×Value)) (a:Act),l.foldl (λa x=>a.put (some x.1) x.2) a={a with tmps:=l.foldl (λt x=>t.setIfInBounds x.1 x.2) a.tmps}
 |[],a=>rfl
 |
  x::l,a=>by
  rw[List.foldl_cons,List.foldl_cons,sx l];rfl
theorem tQ{c:Code}{e:Env}{i:Nat}{w:World}(hi:dh i c=false):∀{l:List (Nat×(Env->Pr))},xg (Kb c e l) i w->False
 |[],h=>h.elim
 |
  (j,k)::l,h=>by
  unfold Kb at h;cases hj:dh j c with
  |false=>rw[hj]at h;exact tQ hi (l:=l) h
  |
   true=>
   rw[hj]at h;unfold xg at h;cases hb:Nat.beq i j with
   |
    true=>
    have:i=j:=Nat.eq_of_beq_eq_true hb;subst this;rw[hi]at hj;cases hj
   |false=>rw[hb]at h;exact tQ hi (l:=l) h
theorem za{c:Code}{e:Env}{i:Nat}{w:World}(hi:dh i c=true):∀{l:List (Nat×(Env->Pr))},xg (Kb c e l) i w->j7 l i e w
 |[],h=>h.elim
 |
  (j,k)::l,h=>by
  unfold Kb at h;unfold j7;cases hb:Nat.beq i j with
  |
   true=>
   have:i=j:=Nat.eq_of_beq_eq_true hb;subst this;rw[hi]at h;unfold xg at h;rw[hb]at h;exact h
  |
   false=>
   cases hj:dh j c with
   |false=>rw[hj]at h;exact za hi (l:=l) h
   |
    true=>
    rw[hj]at h;unfold xg at h;rw[hb]at h;exact za hi (l:=l) h
theorem L4{c:Code}{e:Env}{i:Nat}{w:World}{l:List (Nat×(Env->Pr))}(h:xg (Kb c e l) i w):j7 l i e w:=by
 cases hi:dh i c with
 |true=>exact za hi h
 |false=>exact(tQ hi h).elim
theorem wJ{lv:Option Nat->Pr}{i:Nat}{e:Env}{w:World}:∀{l:List (Nat×(Env->Pr))},j7 (QJ lv l) i e w->lv (some i) w
 |[],h=>h.elim
 |
  (j,k)::l,h=>by
  unfold QJ j7 at h;cases hb:Nat.beq i j with
  |
   true=>
   rw[hb]at h;have:i=j:=Nat.eq_of_beq_eq_true hb;subst this;exact h
  |
   false=>
   rw[hb]at h;exact wJ (l:=l) h
theorem eL{l:Nat}:∀{c:Code},jW c=true->cH l c=false
 |
  .seq a b,h=>by
  simp only[jW,jz]at h;simp only[cH,eL (c:=a) h.1,eL (c:=b) h.2,Bool.or_self]
 |.label _,h=>by cases h
 |.skip,_|.region _ _ _,_|.cond _ _ _,_|.block _ _,_|.loop _,_|.scope _,_|.exit _,_|.goto _,_|.ret,_|.refuse _,_|.rangeFunc _ _ _ _,_=>rfl
def qB(P:Program)(n:Nat)(r:Option Nat):Code->Nat->(Exit->Act->World->Prop)->Act->World->Prop
 |.seq a b,l,Q,ac,w=>(cH l a=true->qB P n r a l (Exit.then (b.wpIn (wf r) n P Q) Q) ac w)/\(cH l b=true->qB P n r b l Q ac w)
 |.label _,_,Q,ac,w=>Q .normal ac w
 |_,_,_,_,_=>True
theorem fG{l:Nat}:∀{c rest:Code},findLabel c l=some rest->cH l c=true
 |
  .seq a b,rest,h=>by
  unfold findLabel at h;simp only[cH,Bool.or_eq_true];split at h
  ·rename_i ra ha;exact .inl (fG ha)
  ·exact .inr (fG h)
 |
  .label l',rest,h=>by
  unfold findLabel at h;split at h
  ·rename_i he
   have:l'=l:=by simpa using he
   subst this;exact Nat.beq_refl _
  ·cases h
 |.skip,_,h|.region _ _ _,_,h|.cond _ _ _,_,h|.block _ _,_,h|.loop _,_,h|.scope _,_,h|.exit _,_,h|.goto _,_,h|.ret,_,h|.refuse _,_,h|.rangeFunc _ _ _ _,_,h=>by simp[findLabel]at h
theorem iy{l:Nat}:∀{c:Code},cH l c=true->∃rest,findLabel c l=some rest
 |
  .seq a b,h=>by
  simp only[cH,Bool.or_eq_true]at h;unfold findLabel;cases ha:findLabel a l with
  |some ra=>exact⟨_,rfl⟩
  |
   none=>
   rcases h with h|h
   ·obtain⟨r,hr⟩:=iy h
    rw[ha]at hr;cases hr
   ·exact iy h
 |
  .label l',h=>by
  have:l'=l:=(Nat.eq_of_beq_eq_true (show Nat.beq l' l=true from h));subst this;exact⟨.skip,by simp[findLabel]⟩
 |.skip,h|.region _ _ _,h|.cond _ _ _,h|.block _ _,h|.loop _,h|.scope _,h|.exit _,h|.goto _,h|.ret,h|.refuse _,h|.rangeFunc _ _ _ _,h=>by cases h
theorem qC{P:Program}{n:Nat}{r:Option Nat}{l:Nat}:∀{c rest:Code} {Q:Exit->Act->World->Prop} {a:Act} {w:World},findLabel c l=some rest->qB P n r c l Q a w->rest.wpIn (wf r) n P Q a w
 |
  .seq c1 c2,rest,Q,a,w,h,hl=>by
  obtain⟨h1,h2⟩:=hl;unfold findLabel at h;split at h
  ·rename_i ra ha
   simp only[jg]at h;subst h;exact wpIn_seq (qC ha (h1 (fG ha)))
  ·exact qC h (h2 (fG h))
 |
  .label l',rest,Q,a,w,h,hl=>by
  unfold findLabel at h;split at h
  ·simp only[jg]at h
   subst h;exact wpIn_skip hl
  ·cases h
 |.skip,_,_,_,_,h,_|.region _ _ _,_,_,_,_,h,_|.cond _ _ _,_,_,_,_,h,_|.block _ _,_,_,_,_,h,_|.loop _,_,_,_,_,h,_|.scope _,_,_,_,_,h,_|.exit _,_,_,_,_,h,_
 |.goto _,_,_,_,_,h,_|.ret,_,_,_,_,h,_|.refuse _,_,_,_,_,h,_|.rangeFunc _ _ _ _,_,_,_,_,h,_=>by simp[findLabel]at h
def AK(l:Nat)(J:Act->World->Prop)(Q:Exit->Act->World->Prop):Exit->Act->World->Prop
 |.goto l',a,w=>l'=l/\J a w
 |e,a,w=>Q e a w
theorem mU{F:Fence}{n:Nat}{P:Program}{Q:Exit->Act->World->Prop}{a:Act}{w:World}{c rest:Code}{S:Type}(l:Nat)(J:S->Act->World->Prop)(μ:S->World->Nat)(hf:findLabel c l=some rest)
 (first:c.wpIn F n P (AK l (λa w=>∃s,J s a w) Q) a w)
 (pass:∀s a w,J s a w->rest.wpIn F n P (AK l (λa' w'=>∃s',J s' a' w'/\μ s' w'<μ s w) Q) a w):(Code.scope c).wpIn F n P Q a w:=by
 intro b k cs hro hb hr;have h0:(lone (b.atR a (.code (.scope c)::k)) cs w).fenced P F:=fenced_calm hb hr rfl;have hg:gotoIn l (.inScope c::k)=some (.code rest::.inScope c::k):=by simp[gotoIn,hf]
 have GX:∀id,exitTo id (.inScope c::k)=exitTo id k:=λid=>by simp[exitTo]
 have key:∀m s a w,μ s w=m->J s a w->∃e a' w',Q e a' w'/\ArrivesIn (Machine.fenced P F) P (lone (b.atR a (.code rest::.inScope c::k)) cs w) b k cs e a' w':=by
  intro m
  induction m using Nat.strongRecOn with
  |
   _ m ih=>
   intro s a w hn hJ;obtain⟨e,a₁,w₁,hq,gT⟩:=pass s a w hJ b (.inScope c::k) cs hro hb hr;cases e with
   |normal=>exact⟨.normal,a₁,w₁,hq,StepsIn.trans gT (.one (fenced_calm hb hr rfl) gN)⟩
   |exit id=>exact⟨.exit id,a₁,w₁,hq,λk' hk=>gT.1 k' (by rw[GX];exact hk),λhr' hk=>gT.2 hr' (by rw[GX];exact hk)⟩
   |
    goto l'=>
    obtain⟨rfl,s',Oq,hlt⟩:=hq;obtain⟨e₂,a₂,w₂,Su,E9⟩:=ih _ (hn▸hlt) s' a₁ w₁ rfl Oq;exact⟨e₂,a₂,w₂,Su,.of_steps (gT.1 _ hg) E9⟩
   |ret=>exact⟨_,a₁,w₁,hq,gT⟩
   |panic ch=>exact⟨_,a₁,w₁,hq,gT⟩
   |outgrown=>exact⟨_,a₁,w₁,hq,gT⟩
 obtain⟨e,a₁,w₁,hq,gT⟩:=first b (.inScope c::k) cs hro hb hr
 cases e with
 |normal=>exact⟨.normal,a₁,w₁,hq,.head h0 bq (StepsIn.trans gT (.one (fenced_calm hb hr rfl) gN))⟩
 |
  exit id=>
  exact⟨_,a₁,w₁,hq,λk' hk=>.head h0 bq (gT.1 k' (by rw[GX];exact hk)),
   λhr' hk=>let⟨k₁,h1,h2⟩:=gT.2 hr' (by rw[GX];exact hk);⟨k₁,h1,.head h0 bq h2⟩⟩
 |
  goto l'=>
  obtain⟨rfl,s',Oq⟩:=hq;obtain⟨e₂,a₂,w₂,Su,E9⟩:=key _ s' a₁ w₁ rfl Oq;exact⟨e₂,a₂,w₂,Su,.of_steps (.head h0 bq (gT.1 _ hg)) E9⟩
 |ret=>exact⟨_,a₁,w₁,hq,.of_steps (.one h0 bq) gT⟩
 |panic ch=>exact⟨_,a₁,w₁,hq,.of_steps (.one h0 bq) gT⟩
 |outgrown=>exact⟨_,a₁,w₁,hq,.of_steps (.one h0 bq) gT⟩
def
 zb(P:Program)(dk:Bool)(an:An):Prop:=∀(kp:KP) (n:Nat) (r:Option Nat) (c:Code) (Q:Exit->Act->World->Prop) (e:Env) (a:Act) (w:World) (K:Ks),(dk=true->∀ch a d v w,d∈bN c->Q (.panic ch) (a.put (some d) v) w->Q (.panic ch) a w)->
 (∀e' a' ch w',Ag e' a'->Ext (bN c) e e'->GY (kp.at e') ch w'->Q (.panic ch) a' w')->Ag e a->cC P kp dk an c e K w->(K.rg=false->r=none)->
 (∀e' a' w',Ag e' a'->Ext (bN c) e e'->K.n e' w'->Q .normal a' w')->(∀e' a' w',Ag e' a'->K.r e' w'->Q .ret a' w')->
 (∀i e' a' w',Ag e' a'->Ext (bN c) e e'->j7 K.x i e' w'->Q (.exit i) a' w')->
 (∀l e' a' w',Ag e' a'->Ext (bN c) e e'->j7 K.g l e' w'->Q (.goto l) a' w')->
 (∀l e' a' w',cH l c=true->Ag e' a'->Ext (bN c) e e'->j7 K.g l e' w'->qB P n r c l Q a' w')->c.wpIn (wf r) n P Q a w
def
 nW(P:Program)(dk:Bool)(an:An):Prop:=∀(kp:KP) (n:Nat) (r:Option Nat) (lb:Nat) (c:Code) (Q:Exit->Act->World->Prop) (e:Env) (a:Act) (w:World) (K:Ks),(dk=true->∀ch a d v w,d∈bN c->Q (.panic ch) (a.put (some d) v) w->Q (.panic ch) a w)->
 (∀e' a' ch w',Ag e' a'->Ext (bN c) e e'->GY (kp.at e') ch w'->Q (.panic ch) a' w')->Ag e a->cL P kp dk lb an c e K w->(K.rg=false->r=none)->
 (∀e' a' w',Ag e' a'->Ext (bN c) e e'->K.n e' w'->Q .normal a' w')->(∀e' a' w',Ag e' a'->K.r e' w'->Q .ret a' w')->
 (∀i e' a' w',Ag e' a'->Ext (bN c) e e'->j7 K.x i e' w'->Q (.exit i) a' w')->
 (∀l e' a' w',Ag e' a'->Ext (bN c) e e'->j7 K.g l e' w'->Q (.goto l) a' w')->
 (∀l e' a' w',l≠lb->cH l c=true->Ag e' a'->Ext (bN c) e e'->j7 K.g l e' w'->qB P n r c l Q a' w')->qB P n r c lb Q a w
theorem Sv{dk:Bool}:nW P dk .z:=by
 intro kp n r lb c Q e a w K hI hp he h j8 hn hr hx oS hla;cases c<;>simp only[cL]at h<;>try exact h.elim
 rcases aI h with⟨_,h⟩|⟨_,h⟩
 ·exact hn _ _ _ he (Ext.refl _ _) h
 ·exact h.elim
theorem Ot{dk:Bool}{x y:An}(jX:nW P dk x)(tR:nW P dk y)(Yy:zb P dk y):nW P dk (.sq x y):=by
 intro kp n r lb c Q e a w K hI hp he h j8 hn hr hx oS hla;cases c<;>simp only[cL]at h<;>try exact h.elim
 rename_i c1 c2;rcases aI h with⟨h1,h⟩|⟨h1,h⟩
 ·rcases aI h with⟨h2,h⟩|⟨h2,h⟩
  ·exact h.elim
  ·refine⟨λ_=>?_,λh3=>by rw[h2]at h3;cases h3⟩
   refine jX _ _ _ lb c1 _ e a w _ (λhd ch a d v w hm h=>hI hd ch a d v w (by simp[bN,hm]) h) (λe1 a1 ch w1 cw cW h1=>hp _ _ _ _ cw (cW.mono (λ_ h=>by simp[bN,h])) h1) he h j8 ?_ hr ?_ ?_ ?_
   ·intro e1 a1 w1 cw cW h1
    refine Yy _ _ _ c2 Q e1 a1 w1 K (λhd ch a d v w hm h=>hI hd ch a d v w (by simp[bN,hm]) h) (λe2 a2 ch w2 cu cK h2=>hp _ _ _ _ cu (cW.trans cK (λ_ h=>by simp[bN,h]) (λ_ h=>by simp[bN,h])) h2) cw h1 j8 ?_ hr ?_ ?_ ?_
    ·intro e2 a2 w2 cu cK h2
     exact hn _ _ _ cu (cW.trans cK (λ_ h=>by simp[bN,h]) (λ_ h=>by simp[bN,h])) h2
    ·intro i e2 a2 w2 cu cK h2
     exact hx _ _ _ _ cu (cW.trans cK (λ_ h=>by simp[bN,h]) (λ_ h=>by simp[bN,h])) h2
    ·intro i e2 a2 w2 cu cK h2
     exact oS _ _ _ _ cu (cW.trans cK (λ_ h=>by simp[bN,h]) (λ_ h=>by simp[bN,h])) h2
    ·intro l e2 a2 w2 hl cu cK h2
     exact(hla l e2 a2 w2 (λh3=>by rw[h3,‹cH lb c2=false›]at hl;cases hl) (by simp[cH,hl]) cu (cW.trans cK (λ_ h=>by simp[bN,h]) (λ_ h=>by simp[bN,h])) h2).2 hl
   ·intro i e1 a1 w1 cw cW h1
    exact hx _ _ _ _ cw (cW.mono (λ_ h=>by simp[bN,h])) h1
   ·intro i e1 a1 w1 cw cW h1
    exact oS _ _ _ _ cw (cW.mono (λ_ h=>by simp[bN,h])) h1
   ·intro l e1 a1 w1 hne hl cw cW h1
    exact(hla l e1 a1 w1 hne (by simp[cH,hl]) cw (cW.mono (λ_ h=>by simp[bN,h])) h1).1 hl
 ·refine⟨λh3=>absurd (h1.symm.trans h3) (by decide),λ_=>?_⟩
  exact tR _ _ _ lb c2 Q e a w K (λhd ch a d v w hm h=>hI hd ch a d v w (by simp[bN,hm]) h) (λe1 a1 ch w1 cw cW h1=>hp _ _ _ _ cw (cW.mono (λ_ h=>by simp[bN,h])) h1) he h j8
   (λe1 a1 w1 cw cW h1=>hn _ _ _ cw (cW.mono (λ_ h=>by simp[bN,h])) h1) hr (λi e1 a1 w1 cw cW h1=>hx _ _ _ _ cw (cW.mono (λ_ h=>by simp[bN,h])) h1)
   (λi e1 a1 w1 cw cW h1=>oS _ _ _ _ cw (cW.mono (λ_ h=>by simp[bN,h])) h1)
   (λl e1 a1 w1 hne hl cw cW h1=>(hla l e1 a1 w1 hne (by simp[cH,hl]) cw (cW.mono (λ_ h=>by simp[bN,h])) h1).2 hl)
theorem fH{dk:Bool}{an:An}(h:∀P kp dk lb c e K,cL P kp dk lb an c e K=bK):nW P dk an:=by
 intro kp n r lb c Q e a w K _ _ _ h1;rw[h]at h1;exact h1.elim
theorem CP{dk:Bool}:∀(an:An),zb P dk an/\nW P dk an:=by
 intro an
 induction an with
 |
  z=>
  refine⟨?_,Sv⟩;intro kp n r c Q e a w K hI hp he h j8 hn hr hx oS hla;cases c<;>simp only[cC]at h<;>try exact h.elim
  ·exact wpIn_skip (hn _ _ _ he (Ext.refl _ _) h)
  ·exact qA j8 hI rfl he h hn hp
  ·exact wpIn_exit (hx _ _ _ _ he (Ext.refl _ _) h)
  ·exact wpIn_label (hn _ _ _ he (Ext.refl _ _) h)
  ·exact wpIn_goto (oS _ _ _ _ he (Ext.refl _ _) h)
  ·exact wpIn_ret (hr _ _ _ he h)
 |
  sq x y jX tR=>
  refine⟨?_,Ot jX.2 tR.2 tR.1⟩;replace jX:=jX.1;replace tR:=tR.1;intro kp n r c Q e a w K hI hp he h j8 hn hr hx oS hla;cases c<;>simp only[cC]at h<;>try exact h.elim
  rename_i c1 c2;refine wpIn_seq (jX _ _ _ c1 _ e a w _ (λhd ch a d v w hm h=>hI hd ch a d v w (by simp[bN,hm]) h) (λe1 a1 ch w1 cw cW h1=>hp _ _ _ _ cw (cW.mono (λ_ h=>by simp[bN,h])) h1) he h j8 ?_ hr ?_ ?_ ?_)
  ·intro e1 a1 w1 cw cW h1
   refine tR _ _ _ c2 Q e1 a1 w1 K (λhd ch a d v w hm h=>hI hd ch a d v w (by simp[bN,hm]) h) (λe2 a2 ch w2 cu cK h2=>hp _ _ _ _ cu (cW.trans cK (λ_ h=>by simp[bN,h]) (λ_ h=>by simp[bN,h])) h2) cw h1 j8 ?_ hr ?_ ?_ ?_
   ·intro e2 a2 w2 cu cK h2
    exact hn _ _ _ cu (cW.trans cK (λ_ h=>by simp[bN,h]) (λ_ h=>by simp[bN,h])) h2
   ·intro i e2 a2 w2 cu cK h2
    exact hx _ _ _ _ cu (cW.trans cK (λ_ h=>by simp[bN,h]) (λ_ h=>by simp[bN,h])) h2
   ·intro i e2 a2 w2 cu cK h2
    exact oS _ _ _ _ cu (cW.trans cK (λ_ h=>by simp[bN,h]) (λ_ h=>by simp[bN,h])) h2
   ·intro l e2 a2 w2 hl cu cK h2
    exact(hla l e2 a2 w2 (by simp[cH,hl]) cu (cW.trans cK (λ_ h=>by simp[bN,h]) (λ_ h=>by simp[bN,h])) h2).2 hl
  ·intro i e1 a1 w1 cw cW h1
   exact hx _ _ _ _ cw (cW.mono (λ_ h=>by simp[bN,h])) h1
  ·intro i e1 a1 w1 cw cW h1
   exact oS _ _ _ _ cw (cW.mono (λ_ h=>by simp[bN,h])) h1
  ·intro l e1 a1 w1 hl cw cW h1
   exact(hla l e1 a1 w1 (by simp[cH,hl]) cw (cW.mono (λ_ h=>by simp[bN,h])) h1).1 hl
 |
  br x y jX tR=>
  refine⟨?_,fH λ_ _ _ _ c _ _=>by cases c<;>rfl⟩;replace jX:=jX.1;replace tR:=tR.1;intro kp n r c Q e a w K hI hp he h j8 hn hr hx oS hla;cases c<;>simp only[cC]at h<;>try exact h.elim
  rename_i o c1 c2;rcases aI h with⟨gy,h⟩|⟨_,h⟩
  rotate_left
  ·exact h.elim
  rw[jz]at gy;obtain⟨b,hb,h⟩:=nR h;have Wh:=he.eval (x:=o) hb;rcases h with⟨rfl,h⟩|⟨rfl,h⟩
  ·refine wpIn_cond_true Wh (jX _ _ _ c1 Q e a w K (λhd ch a d v w hm h=>hI hd ch a d v w (by simp[bN,hm]) h) (λe1 a1 ch w1 cw cW h1=>hp _ _ _ _ cw (cW.mono (λ_ h=>by simp[bN,h])) h1) he h j8 ?_ hr ?_ ?_ ?_)
   ·exact λe1 a1 w1 cw cW h1=>hn _ _ _ cw (cW.mono (λ_ h=>by simp[bN,h])) h1
   ·exact λi e1 a1 w1 cw cW h1=>hx _ _ _ _ cw (cW.mono (λ_ h=>by simp[bN,h])) h1
   ·exact λi e1 a1 w1 cw cW h1=>oS _ _ _ _ cw (cW.mono (λ_ h=>by simp[bN,h])) h1
   ·exact λl _ _ _ hl=>by rw[eL gy.1]at hl;cases hl
  ·refine wpIn_cond_false Wh (tR _ _ _ c2 Q e a w K (λhd ch a d v w hm h=>hI hd ch a d v w (by simp[bN,hm]) h) (λe1 a1 ch w1 cw cW h1=>hp _ _ _ _ cw (cW.mono (λ_ h=>by simp[bN,h])) h1) he h j8 ?_ hr ?_ ?_ ?_)
   ·exact λe1 a1 w1 cw cW h1=>hn _ _ _ cw (cW.mono (λ_ h=>by simp[bN,h])) h1
   ·exact λi e1 a1 w1 cw cW h1=>hx _ _ _ _ cw (cW.mono (λ_ h=>by simp[bN,h])) h1
   ·exact λi e1 a1 w1 cw cW h1=>oS _ _ _ _ cw (cW.mono (λ_ h=>by simp[bN,h])) h1
   ·exact λl _ _ _ hl=>by rw[eL gy.2]at hl;cases hl
 |
  bl x jX=>
  refine⟨?_,fH λ_ _ _ _ c _ _=>by cases c<;>rfl⟩;replace jX:=jX.1;intro kp n r c Q e a w K hI hp he h j8 hn hr hx oS hla;cases c<;>simp only[cC]at h<;>try exact h.elim
  rename_i id c1;rcases aI h with⟨gy,h⟩|⟨_,h⟩
  rotate_left
  ·exact h.elim
  refine wpIn_block (jX _ _ _ c1 _ e a w _ (λhd ch a d v w hm h=>hI hd ch a d v w hm h) (λe1 a1 ch w1 cw cW h1=>hp _ _ _ _ cw cW h1) he h j8 hn hr ?_ oS (λl _ _ _ hl=>by rw[eL gy]at hl;cases hl));intro i e1 a1 w1 cw cW h1;simp only[j7]at h1;by_cases hi:i=id
  ·subst hi
   rw[Nat.beq_refl]at h1;simp only[Exit.inBlock,if_true];exact hn _ _ _ cw cW h1
  ·have hb:Nat.beq i id=false:=by
    cases hb:Nat.beq i id with
    |false=>rfl
    |true=>exact absurd (Nat.eq_of_beq_eq_true hb) hi
   rw[hb]at h1;simp only[Exit.inBlock,hi,if_false];exact hx _ _ _ _ cw cW h1
 |
  sc x jX=>
  refine⟨?_,fH λ_ _ _ _ c _ _=>by cases c<;>rfl⟩;replace jX:=jX.1;intro kp n r c Q e a w K hI hp he h j8 hn hr hx oS hla;cases c<;>simp only[cC]at h<;>try exact h.elim
  rename_i c1;exact wG (jX _ _ _ c1 _ e a w _ (λhd ch a d v w hm h=>hI hd ch a d v w hm h) (λe1 a1 ch w1 cw cW h1=>hp _ _ _ _ cw cW h1) he h j8 hn hr hx (λ_ _ _ _ _ _ h=>h.elim) (λ_ _ _ _ _ _ _ h=>h.elim))
 |
  lp l x jX=>
  refine⟨?_,fH λ_ _ _ _ c _ _=>by cases c<;>rfl⟩;replace jX:=jX.1;intro kp n r c Q e a w K hI hp he h j8 hn hr hx oS hla;cases c<;>simp only[cC]at h<;>try exact h.elim
  rename_i c1;have QK:=hI;rcases aI h with⟨hl,h⟩|⟨_,h⟩
  ·rw[jz]at hl
   have gy:=hl.2;obtain⟨qD,hmk,hdf⟩:=kL hl.1;obtain⟨s,hs,I,μ,hI,hG⟩:=dN (e0:=Env.forget e (bN c1)) he (he.forget (Ext.refl _ _) hmk hdf) h;refine y7 (λs a w=>Ag (iM (Env.forget e (bN c1)) l s) a/\I s w) μ ⟨hs,hI⟩ ?_;rintro s1 a1 w1 ⟨Ou,Ov⟩;have tS:Ext (bN c1) e (iM (Env.forget e (bN c1)) l s1):=Ext.iM (Ext.forget _ _) qD;refine jX _ _ _ c1 _ _ a1 w1 _ (λhd ch a d v w hm h=>QK hd ch a d v w hm h) (λe2 a2 ch w2 cu cK h2=>hp _ _ _ _ cu (tS.trans cK (λ_ h=>h) (λ_ h=>h)) h2) Ou (hG s1 w1 Ov) j8 ?_ hr ?_ ?_ (λl _ _ _ hl=>by rw[eL gy]at hl;cases hl)
   ·intro e2 a2 w2 cu cK h2
    obtain⟨s2,B2,h3,h4⟩:=dN (e0:=Env.forget e (bN c1)) cu (cu.forget (tS.trans cK (λ_ h=>h) (λ_ h=>h)) hmk hdf) h2;exact⟨s2,⟨B2,h3⟩,h4⟩
   ·intro i e2 a2 w2 cu cK h2
    exact hx _ _ _ _ cu (tS.trans cK (λ_ h=>h) (λ_ h=>h)) h2
   ·intro i e2 a2 w2 cu cK h2
    exact oS _ _ _ _ cu (tS.trans cK (λ_ h=>h) (λ_ h=>h)) h2
  ·exact h.elim
 |
  jn l x jX=>
  refine⟨?_,fH λ_ _ _ _ c _ _=>by cases c<;>rfl⟩;replace jX:=jX.1;intro kp n r c Q e a w K hI hp he h j8 hn hr hx oS hla;have h':tf (nV l (bN c)&&jW c) (jn (λR=>cC P kp dk x c e {K with n:=λe'=>need e' l R}) (λs=>K.n (iM (Env.forget e (bN c)) l s))) bK w:=by cases c<;>exact h
  rcases aI h' with⟨hl,h⟩|⟨_,h⟩
  ·rw[jz]at hl
   have gy:=hl.2;obtain⟨qD,hmk,hdf⟩:=kL hl.1;obtain⟨R,h1,h2⟩:=h;let Q':Exit->Act->World->Prop:=λex a' w'=>match ex with
    |.normal=>∃s,Ag (iM (Env.forget e (bN c)) l s) a'/\R s w'
    |ex=>Q ex a' w'
   refine wpIn_mono (jX _ _ _ c Q' e a w _ (λhd ch a d v w hm h=>hI hd ch a d v w hm h) (λe1 a1 ch w1 cw cW h1=>hp _ _ _ _ cw cW h1) he h1 j8 ?_ hr hx oS (λl _ _ _ hl=>by rw[eL gy]at hl;cases hl)) ?_
   ·intro e1 a1 w1 cw cW h3
    exact dN (e0:=Env.forget e (bN c)) cw (cw.forget cW hmk hdf) h3
   ·intro ex a' w' h3
    cases ex with
    |
     normal=>
     obtain⟨s,hs,h4⟩:=h3;exact hn _ _ _ hs (Ext.iM (Ext.forget _ _) qD) (h2 _ _ h4)
    |_=>exact h3
  ·exact h.elim
 |
  rf aU x y jX tR=>
  refine⟨?_,fH λ_ _ _ _ c _ _=>by cases c<;>rfl⟩;replace jX:=jX.1;replace tR:=tR.1;intro kp n r c Q e a w K hI hp he h j8 hn hr hx oS hla;cases c<;>simp only[cC]at h<;>try exact h.elim
  rename_i g ps assign body;rcases aI h with⟨hb,h⟩|⟨_,h⟩
  rotate_left
  ·exact h.elim
  simp only[jz,Bool.not_eq_true']at hb;have Yz:=j8 hb.1;subst Yz;have hps:=Nat.eq_of_beq_eq_true hb.2;obtain⟨f,caps,hv,xu,h⟩:=dI he h;refine wpIn_rangeFunc ?_;intro fn hfn;obtain⟨L,hL⟩:∃L:LoopState->Option Code->Obj,L=λst pe=>.loop {state:=st,pending:=pe,fn,tmps:=a.tmps,params:=ps,assign,body,defers:=w.heap.size}:=⟨_,rfl⟩;have mV:=h L (λs p=>⟨_,by rw[hL]⟩) ?_
  rotate_left
  ·intro W args k hl hR
   have hl':W.heap[w.heap.size+1]? =some (.loop {state:=.ready,pending:=none,fn,tmps:=a.tmps,params:=ps,assign,body,defers:=w.heap.size}):=by rw[hl,hL]
   refine⟨_,_,_,_,run_yield hl' (by rw[<-hps];simp[oF]),roundIn_of_wpIn trivial ?_⟩;have nv:Ag (AJ ps.toList (nM aU args) ⟨e.l,[],[]⟩) {tmps:=(ps.zip (nM aU args).toArray).foldl (λt x=>t.setIfInBounds x.1 x.2) a.tmps,defers:=[]}:=by
    have h0:Ag ⟨e.l,[],[]⟩ {tmps:=a.tmps,defers:=[]}:=⟨he.size,he.get,rfl⟩;have h1:=wI ps.toList (nM aU args) _ _ h0;rw[sx]at h1;have h2:(ps.zip (nM aU args).toArray).foldl (λt x=>t.setIfInBounds x.1 x.2) a.tmps=(ps.toList.zip (nM aU args)).foldl (λt x=>t.setIfInBounds x.1 x.2) a.tmps:=by
     rw[<-Array.foldl_toList,Array.toList_zip]
    rw[h2];exact h1
   refine jX none 0 (some (w.heap.size+1)) assign _ _ _ W _ (λ_ c a d v w _ h=>h) (λ_ _ _ _ _ _ h=>False.elim h) nv hR (λh=>by cases h) ?_ (λ_ _ _ _ h=>h.elim) (λ_ _ _ _ _ _ h=>h.elim) (λ_ _ _ _ _ _ h=>h.elim) (λ_ _ _ _ _ _ _ h=>h.elim);rintro e1 a1 w1 cw _ ⟨h1,h2⟩;have GW:w1.heap[w.heap.size+1]? =some (.loop {state:=.ready,pending:=none,fn,tmps:=a.tmps,params:=ps,assign,body,defers:=w.heap.size}):=by rw[h1,hL]
   have YA:=run_beginRound (P:=P) GW rfl;refine⟨_,YA,?_⟩;have YB:(Obj.loop {state:=.busy,pending:=none,fn,tmps:=a.tmps,params:=ps,assign,body,defers:=w.heap.size})=L .busy none:=by rw[hL]
   rw[show({({state:=.ready,pending:=none,fn:=fn,tmps:=a.tmps,params:=ps,assign:=assign,body:=body,defers:=w.heap.size}:Loop)with state:=.busy}:Loop)={state:=.busy,pending:=none,fn,tmps:=a.tmps,params:=ps,assign,body,defers:=w.heap.size}from rfl,YB];have hend:∀(W3:World) (jump:Option Code),W3.heap[w.heap.size+1]? =some (L .busy none)->
    (Instr.endRound (w.heap.size+1) jump).run P W3=.ok (.bool jump.isNone) (W3.putObj (w.heap.size+1) (L (if jump.isNone then .ready else .done) jump)):=by
    intro W3 jump h3;have Ds:W3.heap[w.heap.size+1]? =some (.loop {state:=.busy,pending:=none,fn,tmps:=a.tmps,params:=ps,assign,body,defers:=w.heap.size}):=by rw[h3,hL]
    rw[run_endRound jump Ds,hL]
   refine tR none 0 (some (w.heap.size+1)) body _ e1 a1 _ _ (λ_ c a d v w _ h=>h) (λ_ _ _ _ _ _ h=>False.elim h) cw h2 (λh=>by cases h) ?_ ?_ ?_ (λ_ _ _ _ _ _ h=>h.elim) (λ_ _ _ _ _ _ _ h=>h.elim)
   ·rintro e2 a2 w2 _ _ ⟨h3,h4⟩
    exact⟨_,_,hend w2 none h3,true,rfl,h4⟩
   ·rintro e2 a2 w2 _ ⟨h3,h4⟩
    exact⟨_,_,hend w2 (some .ret) h3,false,rfl,h4⟩
   ·intro i e2 a2 w2 _ _ h5
    obtain⟨h3,h4⟩:=wJ h5;exact⟨_,_,hend w2 (some (.exit i)) h3,false,rfl,h4⟩
  have hmk:Ag (Env.mark e w.heap.size) {a with defers:=[{target:=.collected w.heap.size,args:= #[]}]++a.defers}:=⟨he.size,he.get,by rw[he.defers];rfl⟩;have l7:Ext [jU] e (Env.mark e w.heap.size):=⟨rfl,λ_ _=>rfl,λh=>absurd (jo.2 rfl) h,λ_=>rfl⟩;have hinv:∀{args:Array Value} {w:World},(callFunc f args).run P w=.ok (.enter f args) w:=dY xu;refine⟨w.heap.size+1,[{target:=.collected w.heap.size,args:= #[]}],(w.alloc (.deferred (some []))).alloc (L .ready none),{target:=.fn (.func f) caps,args:= #[.func (.yield (w.heap.size+1)) #[] #[]]},(w.alloc (.deferred (some []))).alloc (L .ready none),f,
   #[.func (.yield (w.heap.size+1)) #[] #[]]++caps,(w.alloc (.deferred (some []))).alloc (L .ready none),?_,?_,λ_ _=>trivial,?_,?_,?_⟩
  ·rw[hL];exact run_enterLoop_outer _ _ _ _ _
  ·simp only[resolve,hv]
   simp[go_sem]
  ·simp[invoke,go_sem,hinv]
  ·intro h;cases h
  ·refine lP.2 (Calls.mono mV ?_)
   rintro e1 W1 ⟨⟨u,rfl⟩,h1⟩;have hend:∀(st:LoopState) (pe:Option Code),st≠.busy->W1.heap[w.heap.size+1]? =some (L st pe)->(Instr.endLoop (w.heap.size+1)).run P W1=.ok pe (W1.putObj (w.heap.size+1) (L .exhausted pe)):=by
    intro st pe hst h3;have Ds:W1.heap[w.heap.size+1]? =some (.loop {state:=st,pending:=pe,fn,tmps:=a.tmps,params:=ps,assign,body,defers:=w.heap.size}):=by rw[h3,hL]
    rw[run_endLoop Ds hst,hL]
   rcases h1 with⟨h2,h3⟩|⟨j,h2,h3⟩
   ·exact⟨none,_,hend _ _ (by simp) h2,hn _ _ _ hmk l7 h3⟩
   ·refine⟨some (AI j),_,hend _ _ (by simp) h2,?_⟩
    cases j with
    |
     none=>
     rcases aI (show tf (gM body) _ _ _ from h3)with⟨_,h4⟩|⟨_,h4⟩
     ·exact wpIn_ret (hr _ _ _ hmk h4)
     ·exact h4.elim
    |some i=>exact wpIn_exit (hx _ _ _ _ hmk l7 (L4 h3))
 |
  jm l x jX=>
  refine⟨?_,fH λ_ _ _ _ c _ _=>by cases c<;>rfl⟩;replace jX:=jX.1;intro kp n r c Q e a w K hI hp he h j8 hn hr hx oS hla;have h':tf ((!(bN c).contains mJ&&l.all λz=>(bN c).contains z.1)&&jW c) (jn (λR=>cC P kp dk x c e {K with n:=λe'=>need e' l λs=>R (e'.ds,s)}) (λs=>K.n (iM ⟨(Env.forget e (bN c)).l,s.1,e.bs⟩ l s.2))) bK w:=by cases c<;>exact h
  rcases aI h' with⟨hl,h⟩|⟨_,h⟩
  ·rw[jz]at hl
   have gy:=hl.2;replace hl:=hl.1;rw[jz]at hl;have hdf:mJ∉bN c:=by simpa using hl.1
   have qD:∀z∈l,z.1∈bN c:=λz hz=>by simpa using List.all_eq_true.1 hl.2 z hz
   obtain⟨R,h1,h2⟩:=h;let Q':Exit->Act->World->Prop:=λex a' w'=>match ex with
    |.normal=>∃s,Ag (iM ⟨(Env.forget e (bN c)).l,s.1,e.bs⟩ l s.2) a'/\R s w'/\(jU∉bN c->s.1=e.ds)
    |ex=>Q ex a' w'
   refine wpIn_mono (jX _ _ _ c Q' e a w _ (λhd ch a d v w hm h=>hI hd ch a d v w hm h) (λe1 a1 ch w1 cw cW h1=>hp _ _ _ _ cw cW h1) he h1 j8 ?_ hr hx oS (λl _ _ _ hl=>by rw[eL gy]at hl;cases hl)) ?_
   ·intro e1 a1 w1 cw cW h3
    have hf:Ag ⟨(Env.forget e (bN c)).l,e1.ds,e.bs⟩ a1:=by
     refine⟨?_,λt v hv=>?_,by rw[cw.defers,cW.2.2.2 hdf]⟩
     ·have h1:(⟨(Env.forget e (bN c)).l,e1.ds,e.bs⟩:Env).length=(Env.forget e (bN c)).length:=rfl
      rw[h1,Env.rz,cW.1];exact cw.size
     ·have D8:(Env.get (Env.forget e (bN c)) t).v? =some v:=hv
      rw[Env.lG]at D8;split at D8
      ·simp[EV.v?]at D8
      ·rename_i ht
       by_cases hlt:t<e.length
       ·have Sf:t∉bN c:=λh=>ht ⟨h,hlt⟩
        rw[<-cW.2.1 t Sf]at D8;exact cw.get t v D8
       ·rw[Env.gL e t (by omega)]at D8
        simp[EV.v?]at D8
    obtain⟨p,hp,h4⟩:=dN cw hf h3;exact⟨(e1.ds,p),hp,h4,λhm=>cW.2.2.1 hm⟩
   ·intro ex a' w' h3
    cases ex with
    |
     normal=>
     obtain⟨s,hs,h4,h5⟩:=h3;refine hn _ _ _ hs (Ext.iM (e0:=⟨(Env.forget e (bN c)).l,s.1,e.bs⟩) ?_ qD) (h2 _ _ h4);have h6:=Ext.forget e (bN c);exact⟨h6.1,h6.2.1,h5,λ_=>rfl⟩
    |_=>exact h3
  ·exact h.elim
 |
  rj js=>
  refine⟨?_,fH λ_ _ _ _ c _ _=>by cases c<;>rfl⟩;intro kp n r c Q e a w K hI hp he h j8 hn hr hx oS hla;cases c<;>simp only[cC]at h<;>try exact h.elim
  rcases aI h with⟨hj,h⟩|⟨_,h⟩
  ·exact qA j8 hI hj he h hn hp
  ·exact h.elim
 |
  lb=>
  refine⟨?_,fH λ_ _ _ _ c _ _=>by cases c<;>rfl⟩;intro kp n r c Q e a w K hI hp he h j8 hn hr hx oS hla;cases c<;>simp only[cC]at h<;>try exact h.elim
  rename_i l;exact wpIn_label (hla l e a w (by simp[cH]) he (Ext.refl _ _) h)
 |
  sj lb l x y jX tR=>
  refine⟨?_,fH λ_ _ _ _ c _ _=>by cases c<;>rfl⟩;replace jX:=jX.1;replace tR:=tR.2;intro kp n r c Q e a w K hI hp he h j8 hn hr hx oS hla;cases c<;>simp only[cC]at h<;>try exact h.elim
  rename_i c1;have QK:=hI;rcases aI h with⟨hl,h⟩|⟨_,h⟩
  rotate_left
  ·exact h.elim
  rw[jz]at hl;obtain⟨qD,hmk,hdf⟩:=kL hl.1;obtain⟨rest,Ke⟩:=iy hl.2;obtain⟨I,μ,hF,hG⟩:=h;have AM:∀(J:Act->World->Prop) (l':Nat) (e':Env) (a':Act) (w':World) (k:Env->Pr),(k e' w'->J a' w')->j7 [(lb,k)] l' e' w'->l'=lb/\J a' w':=by
   intro J l' e' a' w' k hk hx;unfold j7 at hx;cases hb:Nat.beq l' lb with
   |true=>rw[hb]at hx;exact⟨Nat.eq_of_beq_eq_true hb,hk hx⟩
   |false=>rw[hb]at hx;exact hx.elim
  have Ow:∀s a w (J':Act->World->Prop),Ag (iM (Env.forget e (bN c1)) l s) a->I s w->(∀s' a' w',Ag (iM (Env.forget e (bN c1)) l s') a'->I s' w'->μ s' w'<μ s w->J' a' w')->qB P n r c1 lb (AK lb J' Q) a w:=by
   intro s1 a1 w1 J' Ou Ov Oq;have tS:Ext (bN c1) e (iM (Env.forget e (bN c1)) l s1):=Ext.iM (Ext.forget _ _) qD;refine tR _ _ _ lb c1 (AK lb J' Q) _ a1 w1 _ (λhd ch a d v w hm h=>QK hd ch a d v w hm h) (λe2 a2 ch w2 cu cK h2=>hp _ _ _ _ cu (tS.trans cK (λ_ h=>h) (λ_ h=>h)) h2) Ou (hG s1 w1 Ov) j8 ?_ hr ?_ ?_ ?_
   ·exact λe2 a2 w2 cu cK h2=>hn _ _ _ cu (tS.trans cK (λ_ h=>h) (λ_ h=>h)) h2
   ·exact λi e2 a2 w2 cu cK h2=>hx _ _ _ _ cu (tS.trans cK (λ_ h=>h) (λ_ h=>h)) h2
   ·intro l' e2 a2 w2 cu cK h2
    refine AM J' l' e2 a2 w2 _ (λh3=>?_) h2;obtain⟨s2,B2,h4,h5⟩:=dN (e0:=Env.forget e (bN c1)) cu (cu.forget (tS.trans cK (λ_ h=>h) (λ_ h=>h)) hmk hdf) h3;exact Oq s2 a2 w2 B2 h4 h5
   ·intro l' e2 a2 w2 hne _ cu cK h2
    exact absurd (AM (λ_ _=>True) l' e2 a2 w2 _ (λ_=>trivial) h2).1 hne
  have wK:∀{e2:Env} {a2:Act} {w2:World},Ag e2 a2->Ext (bN c1) e e2->need e2 l I w2->∃s,Ag (iM (Env.forget e (bN c1)) l s) a2/\I s w2:=λcu cK h=>dN (e0:=Env.forget e (bN c1)) cu (cu.forget cK hmk hdf) h;refine mU lb (λs a w=>Ag (iM (Env.forget e (bN c1)) l s) a/\I s w) μ Ke ?_ ?_
  ·refine jX _ _ _ c1 _ e a w _ (λhd ch a d v w hm h=>QK hd ch a d v w hm h) (λe2 a2 ch w2 cu cK h2=>hp _ _ _ _ cu cK h2) he hF j8 (λe2 a2 w2 cu cK h2=>hn _ _ _ cu cK h2) hr (λi e2 a2 w2 cu cK h2=>hx _ _ _ _ cu cK h2) ?_ ?_
   ·intro l' e2 a2 w2 cu cK h2
    exact AM (λa w=>∃s,Ag (iM (Env.forget e (bN c1)) l s) a/\I s w) l' e2 a2 w2 _ (λh3=>wK cu cK h3) h2
   ·intro l' e2 a2 w2 _ cu cK h2
    obtain⟨rfl,s2,B2,h3⟩:=AM (λa w=>∃s,Ag (iM (Env.forget e (bN c1)) l s) a/\I s w) l' e2 a2 w2 _ (λh3=>wK cu cK h3) h2;exact Ow s2 a2 w2 _ B2 h3 λs' a' w' h4 h5 _=>⟨s',h4,h5⟩
  ·rintro s1 a1 w1 ⟨Ou,Ov⟩
   exact qC Ke (Ow s1 a1 w1 _ Ou Ov λs' a' w' h4 h5 h6=>⟨s',⟨h4,h5⟩,h6⟩)
theorem mW{dk:Bool}(an:An):zb P dk an:=(CP an).1
def qE(P:Program):List ResultVar->Env->(LV->Pr)->Pr
 |[],_,f=>f []
 |.tmp t::l,e,f=>nd (Env.get e t) λv=>qE P l e λvs=>f (v::vs)
 |.cell t ty::l,e,f=>nd (Env.get e t) λp=>kE p λad=>LO P ty ad λv=>qE P l e λvs=>f (v::vs)
def fV:(l:List Sh)->LV->(b9 l->Pr)->Pr
 |[],[],f=>f ()
 |[s],[v],f=>wh s v f
 |s::t::l,v::vs,f=>wh s v λp=>fV (t::l) vs λq=>f (p,q)
 |_,_,_=>bK
theorem qF{w:World}:∀{l:List Sh} {vs:LV} {f:b9 l->Pr},fV l vs f w->∃p,vs=nM l p/\f p w
 |[],[],_,h=>⟨(),rfl,h⟩
 |[],_::_,_,h=>h.elim
 |[s],[v],_,h=>let⟨p,hp,hf⟩:=jF h;⟨p,by rw[hp];rfl,hf⟩
 |[_],[],_,h=>h.elim
 |[_],_::_::_,_,h=>h.elim
 |
  s::t::l,v::vs,_,h=>by
  obtain⟨p,hp,h⟩:=jF h;obtain⟨q,hq,h⟩:=qF h;exact⟨(p,q),by rw[hp,hq];rfl,h⟩
 |_::_::_,[],_,h=>h.elim
def tT(args:LV)(m:Nat):Env:=⟨args.map EV.val++List.replicate (m-args.length) EV.no,[],[]⟩
def gh(P:Program)(u:FrameMode)(f:FuncId)(args:LV)(k:Pr):Pr:=λw=>
 CallsDIn (wf none) 0 P f args.toArray u w (λe u' w'=>(∃v,e=.returned v)/\settle u'=.returning/\k w')
def AN:Deferred->Option (FuncId×LV)
 |⟨.fn (.func f) cap,args⟩=>some (f,args.toList++cap.toList)
 |_=>none
def L5(P:Program)(u:FrameMode)(d:Deferred)(k:Pr):Pr:=opt (AN d) λx=>tf (ey P x.1) (gh P u x.1 x.2 k) bK
def tU(P:Program):List Deferred->Pr->Pr
 |[],k=>k
 |d::l,k=>L5 P .returning d (tU P l k)
def tV(P:Program)(ch:List PanicEntry):List Deferred->Pr->Pr
 |[],_=>bK
 |d::l,k=>L5 P (.panicking ch) d (tU P l k)
def fin(P:Program)(fn:Func)(aU:List Sh)(Q:b9 aU->Pr)(e:Env):Pr:=takes e.ds (tU P e.bs (qE P fn.results.toList e λvs=>fV aU vs Q))
def sy(P:Program)(fn:Func)(an:An)(args:LV)(aU:List Sh)(Q:b9 aU->Pr):Pr:=
 opt fn.body λc=>cC P none false an c (tT args fn.ntmps) ⟨fin P fn aU Q,fin P fn aU Q,[],false,[]⟩
def sA{α:Type}(l:List α)(k:Pr):Pr:=
 match l with
 |[]=>k
 |_::_=>bK
theorem oG{α:Type}{l:List α}{k:Pr}{w:World}(h:sA l k w):l=[]/\k w:=by
 cases l with
 |nil=>exact⟨rfl,h⟩
 |cons _ _=>exact h.elim
def L6(P:Program)(fn:Func)(aU:List Sh)(Q:b9 aU->Pr)(e:Env):Pr:=sA e.ds (sA e.bs (qE P fn.results.toList e λvs=>fV aU vs Q))
def wL(P:Program)(fn:Func)(an:An)(args:LV)(aU:List Sh)(q:List PanicEntry->Pr)(Q:b9 aU->Pr):Pr:=
 opt fn.body λc=>tf (!(bN c).contains jU&& !(bN c).contains mJ) (cC P (some λ_=>q) true an c (tT args fn.ntmps) ⟨fin P fn aU Q,fin P fn aU Q,[],false,[]⟩) bK
def wM(P:Program)(fn:Func)(an:An)(args:LV)(aU:List Sh)(Q:b9 aU->Pr):Pr:=
 opt fn.body λc=>cC P (some λe ch=>sA e.ds (tV P ch e.bs (qE P fn.results.toList e λvs=>fV aU vs Q))) false an c (tT args fn.ntmps) ⟨fin P fn aU Q,fin P fn aU Q,[],false,[]⟩
theorem qG:∀(args:LV) (k:Nat) (t:Nat) (v:Value),(Env.fV (args.map EV.val++List.replicate k EV.no) t).v? =some v->(args++List.replicate k undef)[t]? =some v
 |[],0,t,v,h=>by simp[Env.fV,EV.v?]at h
 |[],k+1,0,v,h=>by simp[List.replicate_succ,Env.fV,EV.v?]at h
 |
  [],k+1,t+1,v,h=>by
  have:=qG [] k t v (by simpa[List.replicate_succ,Env.fV]using h);simpa[List.replicate_succ]using this
 |
  x::args,k,0,v,h=>by
  simp only[List.map_cons,List.cons_append,Env.fV,EV.v?,jg]at h;rw[h];rfl
 |x::args,k,t+1,v,h=>qG args k t v h
theorem pz(args:LV)(m:Nat):Ag (tT args m) {tmps:=args.toArray++Array.replicate (m-args.toArray.size) undef,defers:=[]}:=by
 have hE:args.toArray++Array.replicate (m-args.toArray.size) undef=(args++List.replicate (m-args.length) undef).toArray:=by simp
 refine⟨by simp[tT,Env.length],λt v h=>?_,by simp[tT,marks]⟩;simp only[hE];simpa using qG args (m-args.length) t v h
theorem lQ{e:Env}{a:Act}{w:World}(he:Ag e a):∀{l:List ResultVar} {f:LV->Pr} {Q:LV->World->Prop},qE P l e f w->(∀vs,f vs w->Q vs w)->
 RT P (l.mapM λ
  |.tmp t=>Pure.pure (a.tmps.getD t undef)
  |.cell x t=>do Go.loadVar t (<-asAddr (a.tmps.getD x undef))) w (λvs w'=>w'=w/\Q vs w)
 |[],_,_,h,hq=>by simp only[List.mapM_nil];exact .pure ⟨rfl,hq _ h⟩
 |
  .tmp t::l,f,Q,h,hq=>by
  have h1:=dI he (x:=.tmp t) h;simp only[List.mapM_cons];refine .bind (.pure (.bind ((lQ he h1 (Q:=λvs w=>Q (a.tmps.getD t undef::vs) w) (λvs h=>hq _ h)).mono ?_)));rintro vs w' ⟨rfl,h⟩;exact .pure ⟨rfl,h⟩
 |
  .cell t ty::l,f,Q,h,hq=>by
  have h1:=dI he (x:=.tmp t) h;obtain⟨ad,hv,h2⟩:=eM h1;simp only[List.mapM_cons];have D8:a.tmps.getD t undef=.pointer (some ad):=hv;rw[D8];have h3:LO P ty ad (λv w'=>qE P l e (λvs=>f (v::vs)) w'/\w'=w) w:=wk (λv h=>⟨h,rfl⟩) h2;refine .bind (.bind (.pure ((RT.Fa h3).mono ?_)));rintro v w1 ⟨h4,rfl⟩;refine .bind ((lQ he h4 (Q:=λvs w=>Q (v::vs) w) (λvs h=>hq _ h)).mono ?_);rintro vs w' ⟨rfl,h⟩;exact .pure ⟨rfl,h⟩
theorem qH{fn:Func}{tmps:Array Value}{R:Ending->World->Prop}{d:Deferred}{ds:List Deferred}{u:FrameMode}{k:Pr}{w:World}(hu:u≠.run)(hk:∀w,k w->LeavesInM (wf none) 0 P fn tmps R ds .returning w)(h:L5 P u d k w):
 LeavesInM (wf none) 0 P fn tmps R (d::ds) u w:=by
 obtain⟨⟨f,args⟩,hd,h⟩:=ai h;rcases aI h with⟨hc,h⟩|⟨_,h⟩
 ·obtain⟨cap,L7,rfl,rfl⟩:∃cap L7,d=⟨.fn (.func f) cap,L7⟩/\args=L7.toList++cap.toList:=by
   obtain⟨t,L7⟩:=d;unfold AN at hd;split at hd
   ·rename_i heq
    simp only[Deferred.mk.injEq]at heq;obtain⟨rfl,rfl⟩:=heq;simp only[jg,Prod.mk.injEq]at hd;obtain⟨rfl,rfl⟩:=hd;exact⟨_,_,rfl,rfl⟩
   ·cases hd
  have hA:(L7.toList++cap.toList).toArray=L7++cap:=by simp
  unfold gh at h;dsimp only at h;rw[hA]at h;refine⟨hu,.inr ⟨λh=>by simp[wf,Fence.wide]at h,_,cap,f,L7++cap,rfl,?_,λ_ _=>trivial,?_⟩⟩
  ·simp only[invoke]
   exact dY hc
  ·refine h.mono ?_
   rintro e u' w' ⟨⟨v,rfl⟩,h1,h2⟩;show LeavesInM (wf none) 0 P fn tmps R ds (settle u') w';rw[h1];exact hk _ h2
 ·exact h.elim
theorem jL{fn:Func}{tmps:Array Value}{R:Ending->World->Prop}{k:Pr}(hk:∀w,k w->LeavesInM (wf none) 0 P fn tmps R [] .returning w):∀{ds:List Deferred} {w:World},tU P ds k w->LeavesInM (wf none) 0 P fn tmps R ds .returning w
 |[],w,h=>hk w h
 |_::_,_,h=>qH (by simp) (λ_ h=>jL hk h) h
theorem oH{fn:Func}{tmps:Array Value}{R:Ending->World->Prop}{bs:List Deferred}{k:Pr}(hk:∀w,k w->LeavesInM (wf none) 0 P fn tmps R bs .returning w):∀{ds:List Nat} {w:World},takes ds k w->LeavesInM (wf none) 0 P fn tmps R (marks ds++bs) .returning w
 |[],w,h=>hk w h
 |D::ds,w,h=>⟨by simp,.inl ⟨D,_,rfl,run_takeDeferred h.1,oH hk h.2⟩⟩
theorem lR{fn:Func}{e:Env}{a:Act}{w:World}{aU:List Sh}{Q:b9 aU->Pr}{R:Ending->World->Prop}(hR:∀e w,aC aU Q e w->R e w)(he:Ag e a)
 (h:qE P fn.results.toList e (λvs=>fV aU vs Q) w):LeavesInM (wf none) 0 P fn a.tmps R [] .returning w:=by
 obtain⟨vs,w',h1,hw,p,hvs,hp⟩:=lQ he h (Q:=λvs w=>∃p,vs=nM aU p/\Q p w) (λvs h=>qF h);rw[hw]at h1;show∃v,(results fn a.tmps).run P w=.ok v w/\R (.returned v) w;refine⟨dM aU p,?_,hR _ _ ⟨p,rfl,hp⟩⟩;unfold results;rw[Sem.run_bind,show fn.results=fn.results.toList.toArray by simp,List.mapM_toArray,Sem.run_map]
 erw [h1]
 simp only[Result.andThen_ok,Sem.run_pure,Result.ok.injEq,and_true];unfold dM;rw[<-hvs]
 match vs with
 |[]=>rfl
 |[v]=>rfl
 |v::u::vs=>simp
theorem eN{fn:Func}{e:Env}{a:Act}{w:World}{aU:List Sh}{Q:b9 aU->Pr}{R:Ending->World->Prop}(hR:∀e w,aC aU Q e w->R e w)(he:Ag e a)(h:fin P fn aU Q e w):
 LeavesInM (wf none) 0 P fn a.tmps R a.defers .returning w:=by
 rw[he.defers];exact oH (λw h=>jL (λw h=>lR hR he h) h) h
theorem lS{f:FuncId}{fn:Func}{an:An}{args:LV}{aU:List Sh}{Q:b9 aU->Pr}{w:World}(hf:P.funcs[f]? =some fn)(h:sy P fn an args aU Q w):
 Calls P f args.toArray w (aC aU Q):=by
 obtain⟨c,hc,h⟩:=ai h;refine(callsIn_wide (n:=0)).1 ?_;refine callsIn_of_wp_marks (F:=wf none) hf hc trivial ?_;let Q':Exit->Act->World->Prop:=λex a w=>match ex with
  |.normal=>bodyPostM (wf none) 0 P fn (aC aU Q) .normal a w
  |.ret=>bodyPostM (wf none) 0 P fn (aC aU Q) .ret a w
  |_=>False
 refine wpIn_mono (mW (dk:=false) an none 0 none c Q' _ _ w _ (λh=>by cases h) (λ_ _ _ _ _ _ h=>False.elim h) (pz args fn.ntmps) h (λ_=>rfl) ?_ ?_ ?_ (λ_ _ _ _ _ _ h=>h.elim) (λ_ _ _ _ _ _ _ h=>h.elim)) ?_
 ·exact λe' a' w' he' _ h=>eN (λ_ _ h=>h) he' h
 ·exact λe' a' w' he' h=>eN (λ_ _ h=>h) he' h
 ·exact λi e' a' w' _ _ h=>h.elim
 ·intro ex a w h
  cases ex<;>first|exact h|exact h.elim
theorem mX{f:FuncId}{fn:Func}{an:An}{args:LV}{aU:List Sh}{q:List PanicEntry->Pr}{Q:b9 aU->Pr}{w:World}(hf:P.funcs[f]? =some fn)(h:wL P fn an args aU q Q w):
 Calls P f args.toArray w (iL q aU Q):=by
 obtain⟨c,hc,h⟩:=ai h;rcases aI h with⟨hm,h⟩|⟨_,h⟩
 rotate_left
 ·exact h.elim
 simp only[jz,Bool.not_eq_true']at hm;have hmk:jU∉bN c:=by simpa using hm.1
 have hdf:mJ∉bN c:=by simpa using hm.2
 refine(callsIn_wide (n:=0)).1 ?_;refine callsIn_of_wp_marks (F:=wf none) hf hc trivial ?_;let Q':Exit->Act->World->Prop:=λex a w=>match ex with
  |.normal=>bodyPostM (wf none) 0 P fn (iL q aU Q) .normal a w
  |.ret=>bodyPostM (wf none) 0 P fn (iL q aU Q) .ret a w
  |.panic ch=>a.defers=[]/\q ch w
  |_=>False
 refine wpIn_mono (mW (dk:=true) an (some λ_=>q) 0 none c Q' _ _ w _ (λ_ ch a d v w _ h=>h) (λe' a' ch w' he' hx h=>⟨?_,h⟩) (pz args fn.ntmps) h (λ_=>rfl) ?_ ?_ ?_ (λ_ _ _ _ _ _ h=>h.elim) (λ_ _ _ _ _ _ _ h=>h.elim)) ?_
 ·rw[he'.defers,hx.2.2.1 hmk,hx.2.2.2 hdf];rfl
 ·exact λe' a' w' he' _ h=>eN (λ_ _ h=>.inl h) he' h
 ·exact λe' a' w' he' h=>eN (λ_ _ h=>.inl h) he' h
 ·exact λi e' a' w' _ _ h=>h.elim
 ·intro ex a w h
  cases ex<;>first|exact h|exact h.elim|skip
  rename_i ch;obtain⟨h1,h2⟩:=h;show LeavesInM (wf none) 0 P fn a.tmps (iL q aU Q) a.defers (.panicking ch) w;rw[h1];exact .inr ⟨ch,rfl,h2⟩
theorem mY{f:FuncId}{fn:Func}{an:An}{args:LV}{aU:List Sh}{Q:b9 aU->Pr}{w:World}(hf:P.funcs[f]? =some fn)(h:wM P fn an args aU Q w):
 Calls P f args.toArray w (aC aU Q):=by
 obtain⟨c,hc,h⟩:=ai h;refine(callsIn_wide (n:=0)).1 ?_;refine callsIn_of_wp_marks (F:=wf none) hf hc trivial ?_;let Q':Exit->Act->World->Prop:=λex a w=>match ex with
  |.normal=>bodyPostM (wf none) 0 P fn (aC aU Q) .normal a w
  |.ret=>bodyPostM (wf none) 0 P fn (aC aU Q) .ret a w
  |.panic ch=>LeavesInM (wf none) 0 P fn a.tmps (aC aU Q) a.defers (.panicking ch) w
  |_=>False
 refine wpIn_mono (mW (dk:=false) an (some λe ch=>sA e.ds (tV P ch e.bs (qE P fn.results.toList e λvs=>fV aU vs Q))) 0 none c Q' _ _ w _ (λh=>by cases h) (λe' a' ch w' he' _ h=>?_) (pz args fn.ntmps) h (λ_=>rfl) ?_ ?_ ?_ (λ_ _ _ _ _ _ h=>h.elim) (λ_ _ _ _ _ _ _ h=>h.elim)) ?_
 ·show LeavesInM (wf none) 0 P fn a'.tmps (aC aU Q) a'.defers (.panicking ch) w'
  rw[he'.defers];have h':sA e'.ds (tV P ch e'.bs (qE P fn.results.toList e' λvs=>fV aU vs Q)) w':=h;cases hds:e'.ds with
  |cons _ _=>rw[hds]at h';exact h'.elim
  |
   nil=>
   rw[hds]at h';have h2:tV P ch e'.bs (qE P fn.results.toList e' λvs=>fV aU vs Q) w':=h';show LeavesInM (wf none) 0 P fn a'.tmps (aC aU Q) e'.bs (.panicking ch) w';cases Ae:e'.bs with
   |nil=>rw[Ae]at h2;exact h2.elim
   |
    cons d l=>
    rw[Ae]at h2;exact qH (by simp) (λw h=>jL (λw h=>lR (λ_ _ h=>h) he' h) h) h2
 ·exact λe' a' w' he' _ h=>eN (λ_ _ h=>h) he' h
 ·exact λe' a' w' he' h=>eN (λ_ _ h=>h) he' h
 ·exact λi e' a' w' _ _ h=>h.elim
 ·intro ex a w h
  cases ex<;>first|exact h|exact h.elim
end
end Go.Eng
