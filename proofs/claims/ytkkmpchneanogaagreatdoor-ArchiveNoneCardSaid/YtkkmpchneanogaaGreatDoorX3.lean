import Derived.Test.YtkkmpchneanogaaGreatDoorX1
import Derived.Test.YtkkmpchneanogaaGreatDoorX2
set_option linter.unusedVariables false
set_option linter.unusedSimpArgs false
set_option linter.unusedSectionVars false
set_option maxRecDepth 100000
namespace Go.Proofs
open Go.Eng
def Ti:An:=(.sq .z (.sj 0 [(3,.c .ptr),(4,.c .ptr),(5,.c .map),(6,.c (.int .i64)),(7,.c .any)] (.sq .z (.sq .z (.sq .z (.sq .z (.sq .z (.sq (.sq .z (.bl (.lp [(23,.c (.int .i64))] (.sq .z (.sq (.br .z .z) (.sq (.bl (.sq .z .z)) .z)))))) (.sq .lb .z))))))) (.sq .z (.sq .z (.sq .z (.sq .z (.sq .z (.sq .z (.sq .z (.sq (.sq .z (.br (.sq .z (.sq .z (.sq .z (.sq (.jn [] (.bl (.sq .z (.br .z (.sq (.jn [(56,.c .bool)] .z) (.br .z (.sq (.jn [(80,.c .bool)] .z) (.br .z .z)))))))) (.sq (.sq .z (.bl (.lp [(109,.c (.int .i64))] (.sq .z (.sq (.br .z .z) (.sq (.bl (.sq .z .z)) .z)))))) .z))))) .z)) (.sq .z .z)))))))))))
def U4(aD:Sl)(az:Sl)(Q:Sl->Pr):Pr:=
 nw (.cells #[(.slice aD.a aD.len aD.cap),(.slice az.a az.len az.cap)] 32) λr=>
 KX (S:=(OA)×(OA)×(Option Nat)×Int×Value) (λX s=>
 deref s.2.1 λa=>
 au .slice a λ(t34:Sl)=>
 br (decide (s.2.2.2.1<(t34.len:Int))) (
 deref s.2.1 λa_1=>
 au .slice a_1 λ(t37:Sl)=>
 aP ((0:Int)<=s.2.2.2.1/\s.2.2.2.1<(t37.len:Int))<|
 deref t37.a λa_2=>
 deref (some (a_2.add (Int.toNat s.2.2.2.1*1))) λbX=>
 au (.int .i64) bX λ(t40:Int)=>
 deref (some ⟨r,0,none⟩) λc6=>
 deref (some (c6.add 0)) λc7=>
 au .slice c7 λ(t42:Sl)=>
 aP ((0:Int)<=t40/\t40<(t42.len:Int))<|
 deref t42.a λcV=>
 deref (some (cV.add (Int.toNat t40*3))) λdy=>
 aQ [(.int .i64),.slice,.slice] dy λ(t45:Int×Sl×Sl)=>
 nw (.cells #[(.int .i64 0),(.slice none 0 0),(.slice none 0 0)] 62) λr_1=>
 deref (some ⟨r_1,0,none⟩) λdO=>
 st (dO.add 0) (.int .i64 t45.1)<|
 st (dO.add 1) (.slice t45.2.1.a t45.2.1.len t45.2.1.cap)<|
 st (dO.add 2) (.slice t45.2.2.a t45.2.2.len t45.2.2.cap)<|
 jn (S:=Unit) (λR=>
 deref (some ⟨r_1,0,none⟩) λdP=>
 deref (some (dP.add 0)) λbu=>
 au (.int .i64) bu λ(t50:Int)=>
 br (t50==1) (
 deref (some ⟨r_1,0,none⟩) λbF=>
 deref (some (bF.add 1)) λbw=>
 au .slice bw λ(t54:Sl)=>
 cE Pq s.2.2.2.2 [(.slice t54.a t54.len t54.cap)] [] λ(t55:Unit)=>
 R ()) (
 jn (S:=Bool) (λbG=>
 jE<|
 deref (some ⟨r_1,0,none⟩) λbJ=>
 deref (some (bJ.add 0)) λbW=>
 au (.int .i64) bW λ(t58:Int)=>
 br (t58==3) (
 deref (some ⟨r_1,0,none⟩) λbS=>
 deref (some (bS.add 1)) λcm=>
 au .slice cm λ(t62:Sl)=>
 aP ((0:Int)<=0/\0<(t62.len:Int))<|
 deref t62.a λcx=>
 deref (some (cx.add (Int.toNat 0*1))) λcy=>
 au (.int .i64) cy λ(t64:Int)=>
 br (decide (t64>=0)) (
 deref s.1 λcz=>
 au .slice cz λ(t68:Sl)=>
 deref (some ⟨r_1,0,none⟩) λdz=>
 deref (some (dz.add 1)) λdQ=>
 au .slice dQ λ(t70:Sl)=>
 aP ((0:Int)<=0/\0<(t70.len:Int))<|
 deref t70.a λdR=>
 deref (some (dR.add (Int.toNat 0*1))) λep=>
 au (.int .i64) ep λ(t72:Int)=>
 aP ((0:Int)<=t72/\t72<(t68.len:Int))<|
 deref t68.a λe8=>
 deref (some (e8.add (Int.toNat t72*1))) λfu=>
 au .bool fu λ(t74:Bool)=>
 bG t74) (
 bG false)) (
 bG false)) λs_2=>
 br s_2 (
 deref (some ⟨r_1,0,none⟩) λfy=>
 deref (some (fy.add 1)) λfZ=>
 au .slice fZ λ(t78:Sl)=>
 cE Pq s.2.2.2.2 [(.slice t78.a t78.len t78.cap)] [] λ(t79:Unit)=>
 R ()) (
 jn (S:=Bool) (λjN=>
 deref (some ⟨r_1,0,none⟩) λfA=>
 deref (some (fA.add 0)) λgq=>
 au (.int .i64) gq λ(t82:Int)=>
 br (t82==3) (
 deref (some ⟨r_1,0,none⟩) λiA=>
 deref (some (iA.add 1)) λjO=>
 au .slice jO λ(t86:Sl)=>
 aP ((0:Int)<=0/\0<(t86.len:Int))<|
 deref t86.a λkO=>
 deref (some (kO.add (Int.toNat 0*1))) λlT=>
 au (.int .i64) lT λ(t88:Int)=>
 jN ((decide (t88>=0)))) (
 jN false)) λdB=>
 br dB (
 jE<|
 deref (some ⟨r_1,0,none⟩) λkP=>
 deref (some ⟨r_1,0,none⟩) λlg=>
 deref (some (lg.add 1)) λlU=>
 au .slice lU λ(t98:Sl)=>
 aP ((0:Int)<=0/\0<(t98.len:Int))<|
 deref t98.a λlV=>
 deref (some (lV.add (Int.toNat 0*1))) λlW=>
 au (.int .i64) lW λ(t100:Int)=>
 gd (.int .i64) s.2.2.1 (.int .i64 t100) .slice (.slice none 0 0) λ(t101:Sl) (Tj:Bool)=>
 both (
 deref (some (kP.add 1)) λlX=>
 au .slice lX λ(t93:Sl)=>
 aP ((0:Int)<=0/\0<(t93.len:Int))<|
 deref t93.a λlY=>
 both (
 deref (some (lY.add (Int.toNat 0*1))) λm9=>
 au (.int .i64) m9 λ(t95:Int)=>
 nw (.cells #[(.int .i64 t40)] 3) λr_2=>
 app 3 1 8 [(.int .i64 0)] t101 ⟨(some ⟨r_2,0,none⟩),1,1⟩ λt104=>
 ej (.int .i64) s.2.2.1 (.int .i64 t95) (.slice t104.a t104.len t104.cap)<|
 R ()) (
 nw (.cells #[(.int .i64 t40)] 3) λr_3=>
 both (
 deref (some (lY.add (Int.toNat 0*1))) λn6=>
 au (.int .i64) n6 λ(Pc:Int)=>
 app 3 1 8 [(.int .i64 0)] t101 ⟨(some ⟨r_3,0,none⟩),1,1⟩ λiB=>
 ej (.int .i64) s.2.2.1 (.int .i64 Pc) (.slice iB.a iB.len iB.cap)<|
 R ()) (
 app 3 1 8 [(.int .i64 0)] t101 ⟨(some ⟨r_3,0,none⟩),1,1⟩ λlZ=>
 deref (some (lY.add (Int.toNat 0*1))) λn7=>
 au (.int .i64) n7 λ(Pd:Int)=>
 ej (.int .i64) s.2.2.1 (.int .i64 Pd) (.slice lZ.a lZ.len lZ.cap)<|
 R ()))) (
 nw (.cells #[(.int .i64 t40)] 3) λnc=>
 both (
 deref (some (kP.add 1)) λgb=>
 au .slice gb λ(Kl:Sl)=>
 aP ((0:Int)<=0/\0<(Kl.len:Int))<|
 deref Kl.a λgV=>
 both (
 deref (some (gV.add (Int.toNat 0*1))) λoT=>
 au (.int .i64) oT λ(Pe:Int)=>
 app 3 1 8 [(.int .i64 0)] t101 ⟨(some ⟨nc,0,none⟩),1,1⟩ λzB=>
 ej (.int .i64) s.2.2.1 (.int .i64 Pe) (.slice zB.a zB.len zB.cap)<|
 R ()) (
 app 3 1 8 [(.int .i64 0)] t101 ⟨(some ⟨nc,0,none⟩),1,1⟩ λzC=>
 deref (some (gV.add (Int.toNat 0*1))) λqQ=>
 au (.int .i64) qQ λ(Pf:Int)=>
 ej (.int .i64) s.2.2.1 (.int .i64 Pf) (.slice zC.a zC.len zC.cap)<|
 R ())) (
 app 3 1 8 [(.int .i64 0)] t101 ⟨(some ⟨nc,0,none⟩),1,1⟩ λzD=>
 deref (some (kP.add 1)) λug=>
 au .slice ug λ(Km:Sl)=>
 aP ((0:Int)<=0/\0<(Km.len:Int))<|
 deref Km.a λrE=>
 deref (some (rE.add (Int.toNat 0*1))) λuh=>
 au (.int .i64) uh λ(Pg:Int)=>
 ej (.int .i64) s.2.2.1 (.int .i64 Pg) (.slice zD.a zD.len zD.cap)<|
 R ()))) (
 R ())))) λs_1=>
 gd (.int .i64) s.2.2.1 (.int .i64 t40) .slice (.slice none 0 0) λ(t107:Sl) (Tk:Bool)=>
 aM (S:=Int) (λxh bB=>
 br (decide (bB<(t107.len:Int))) (
 aP ((0:Int)<=bB/\bB<(t107.len:Int))<|
 deref t107.a λuj=>
 deref (some (uj.add (Int.toNat bB*1))) λuk=>
 au (.int .i64) uk λ(t112:Int)=>
 deref (some ⟨r,0,none⟩) λum=>
 deref (some (um.add 0)) λqR=>
 au .slice qR λ(t115:Sl)=>
 aP ((0:Int)<=t112/\t112<(t115.len:Int))<|
 deref t115.a λrF=>
 deref (some (rF.add (Int.toNat t112*3))) λuo=>
 deref (some (uo.add 1)) λzE=>
 au .slice zE λ(t119:Sl)=>
 cE Pq s.2.2.2.2 [(.slice t119.a t119.len t119.cap)] [] λ(t120:Unit)=>
 xh ((IntKind.wrap .i64 (bB+1)))) (
 X (s.1,s.2.1,s.2.2.1,(IntKind.wrap .i64 (s.2.2.2.1+1)),s.2.2.2.2))) 0) (
 deref s.1 λFD=>
 au .slice FD λ(t122:Sl)=>
 Q t122)) (λjM=>
 deref (some ⟨r,0,none⟩) λFE=>
 deref (some (FE.add 0)) λFF=>
 au .slice FF λ(t15:Sl)=>
 AQ 4 1 [(.bool false)] (t15.len:Int) (t15.len:Int) λt17=>
 aP (aK (.slice none 0 0))<|nw (.cells #[(.slice none 0 0)] 108) λsK=>
 deref (some ⟨sK,0,none⟩) λFG=>
 st FG (.slice t17.a t17.len t17.cap)<|
 aP (aK (.slice none 0 0))<|nw (.cells #[(.slice none 0 0)] 60) λC3=>
 nw (.map #[] 0) λTl=>
 deref (some ⟨r,0,none⟩) λFH=>
 deref (some (FH.add 1)) λC4=>
 au .slice C4 λ(t21:Sl)=>
 aM (S:=Int) (λFI fB=>
 br (decide (fB<(t21.len:Int))) (
 aP ((0:Int)<=fB/\fB<(t21.len:Int))<|
 deref t21.a λFJ=>
 deref (some (FJ.add (Int.toNat fB*2))) λMg=>
 aQ [.str,(.int .i64)] Mg λ(t26:ByteArray×Int)=>
 nw (.cells #[(.string (⟨#[]⟩:ByteArray)),(.int .i64 0)] 64) λQO=>
 deref (some ⟨QO,0,none⟩) λII=>
 st (II.add 0) (.string t26.1)<|
 st (II.add 1) (.int .i64 t26.2)<|
 deref (some ⟨QO,0,none⟩) λMh=>
 deref (some (Mh.add 1)) λMi=>
 au (.int .i64) Mi λ(t29:Int)=>
 nw (.cells #[(.int .i64 t29)] 3) λTm=>
 cE Pq (.func (.func 136) #[] #[(.pointer (some ⟨sK,0,none⟩)),(.pointer (some ⟨C3,0,none⟩))]) [(.slice (some ⟨Tm,0,none⟩) 1 1)] [] λ(t31:Unit)=>
 FI ((IntKind.wrap .i64 (fB+1)))) (
 jM ((some ⟨sK,0,none⟩),(some ⟨C3,0,none⟩),(some Tl),0,(.func (.func 136) #[] #[(.pointer (some ⟨sK,0,none⟩)),(.pointer (some ⟨C3,0,none⟩))])))) 0)
theorem Bp(aD:Sl)(az:Sl)(Q:Sl->Pr)(w:World)(h:U4 aD az Q w):Calls Pq 86 #[(.agg #[(slV aD),(slV az)])] w (aC [.c .slice] Q):=cF (an:=Ti) Tryz.func86 (by kernel_rfl) h
set_option maxRecDepth 20000
section
variable{w0 w:World}{L:List HA}{bs bl:Nat}{st:gQ}{g:GS}
theorem rO{x:NS}{k:Unit->Pr}(h:St aA w0 w (de bs bl st::L))(hg:RG w0 aA g)(hx:x∈g.xs)(hp:∀p∈x.p,p<st.1.length)(hl:st.2.length<=20000)
 (hk:∀w',St aA w0 w' (de bs bl (bM st x.p)::L)->k () w'):
 cE Pq (.func (.func 136) #[] #[.pointer (some ⟨bs,0,none⟩),.pointer (some ⟨bl,0,none⟩)]) [.slice x.ps.a x.ps.len x.ps.cap] [] k w:=by
 obtain⟨F,H,_,h1,h2,h3,h4,h5⟩:=h.ee;have GM:RG w F g:=hg.go h h4;have nq:=hg.sm.pl x hx;refine fL rfl (by kernel_rfl) (U1 x.ps x.p bs bl st w F h1 (GM.ip x hx) (GM.M3 x hx) hp (by omega)) ?_;rintro⟨⟩ w' s;exact hk w' (h5 w' _ s)
theorem Dz{r:Nat}{p:Int}{k:Unit->Pr}(h:St aA w0 w (de bs bl st::aa r [.int .i64 p]::L))(hp:p<st.1.length)(hl:st.2.length<=20000)
 (hk:∀w',St aA w0 w' (de bs bl (cT st p)::aa r [.int .i64 p]::L)->k () w'):
 cE Pq (.func (.func 136) #[] #[.pointer (some ⟨bs,0,none⟩),.pointer (some ⟨bl,0,none⟩)]) [.slice (some ⟨r,0,none⟩) 1 1] [] k w:=by
 have hb:=(h.af 1).box;obtain⟨F,H,_,h1,h2,h3,h4,h5⟩:=h.ee;refine fL rfl (by kernel_rfl) (U1 ⟨some ⟨r,0,none⟩,1,1⟩ [p] bs bl st w F h1 ⟨rfl,aF.2 hb.row⟩ (λ_ b hb hF=>?_) (by simpa using hp) (by simp;omega)) ?_
 ·obtain⟨ad,ha,rfl⟩:=hb
  cases ha;obtain⟨G,K,⟨_,k1⟩,_,_,k4⟩:=h2;exact h3 _ hF ((k4 _).2 (.inl ((k1 _).2 rfl)))
 ·rintro⟨⟩ w' s
  exact hk w' (h5 w' _ s)
end
structure xR(G:GG)(st:gQ)(aw:Int->List Int)(a:Nat):Prop where
 met:pP G.n.length st
 sd:eC G st.1
 rt:∀r∈G.r,st.1[r.2.toNat]? =some true
 le:a<=st.2.length
 al:∀k,(aw k).length<=a
 p1:∀(i:Nat) (x:Int) n,i<a->st.2[i]? =some x->G.n[x.toNat]? =some n->n.k=1->∀p∈n.p,0<=p->st.1[p.toNat]? =some true
 p2:∀(i:Nat) (x:Int) n q,i<a->st.2[i]? =some x->G.n[x.toNat]? =some n->n.k=3->n.p.head? =some q->0<=q->(∀p∈n.p,0<=p->st.1[p.toNat]? =some true)\/(x∈aw q/\q∉st.2.take a)
 p3:∀q x,x∈aw q->0<=x/\st.1[x.toNat]? =some true/\∃n,G.n[x.toNat]? =some n/\n.k=3/\n.p.head? =some q
theorem xR.done{G:GG}{st:gQ}{aw:Int->List Int}{a:Nat}(h:xR G st aw a)(ha:st.2.length<=a):st.1=av G:=by
 have WT:a=st.2.length:=Nat.le_antisymm h.le ha;refine mh h.met.len h.sd h.rt λi n p hi hn hl hp h0=>?_;obtain⟨k,hk⟩:=List.getElem?_of_mem (h.met.all i hi);have nt:=(bt hk).2;unfold fM at hl;rw[Bool.or_eq_true]at hl;rcases hl with hl|hl
 ·exact h.p1 k i n (by omega) hk (by simpa using hn) (by simpa using hl) p hp h0
 ·rw[jz]at hl
  obtain⟨h3,hl⟩:=hl;cases hq:n.p.head? with
  |none=>rw[hq]at hl;cases hl
  |
   some q=>
   rw[hq]at hl;simp only[jz,jb]at hl h3;rcases h.p2 k i n q (by omega) hk (by simpa using hn) h3 hq hl.1 with h4|⟨_,h4⟩
   ·exact h4 p hp h0
   ·exfalso
    apply h4;rw[WT,List.take_length];have hs:st.1[q.toNat]? =some true:=by
     cases hc:st.1[q.toNat]?with
     |none=>rw[hc]at hl;cases hl.2
     |some b=>rw[hc]at hl;simp at hl;rw[hl.2]
    have:=h.met.all q.toNat hs;rwa[show((q.toNat:Nat):Int)=q by omega]at this
theorem Hg{α:Type}{l m:List α}(h:l<+:m){i:Nat}(hi:i<l.length):m[i]? =l[i]? :=by
 obtain⟨t,rfl⟩:=h;rw[List.getElem?_append_left hi]
theorem DA{α:Type}{l m:List α}(h:l<+:m){a:Nat}(ha:a<=l.length):m.take a=l.take a:=by
 obtain⟨t,rfl⟩:=h;rw[List.take_append_of_le_length ha]
def dS(G:GG)(st:gQ)(l:List Int):gQ:=l.foldl (λst x=>bM st (((G.n[x.toNat]?).map (·.p)).getD [])) st
theorem mm{G:GG}(l:List Int):∀{st:gQ},pP G.n.length st->pP G.n.length (dS G st l)/\pM st.1 (dS G st l).1/\st.2<+:(dS G st l).2/\
 (∀x∈l,∀n,G.n[x.toNat]? =some n->∀p∈n.p,0<=p->p<G.n.length->(dS G st l).1[p.toNat]? =some true)/\
 (∀i:Nat,(dS G st l).1[i]? =some true->st.1[i]? =some true\/∃x∈l,∃n,G.n[x.toNat]? =some n/\(i:Int)∈n.p):=by
 induction l with
 |nil=>intro st h;exact⟨h,pM.refl _,List.prefix_refl _,λx hx=>(by cases hx),λi hi=>.inl hi⟩
 |
  cons x l ih=>
  intro st h;obtain⟨h1,h2,h3,h4,h5⟩:=h.steps (((G.n[x.toNat]?).map (·.p)).getD []);obtain⟨k1,k2,k3,k4,k5⟩:=ih h1;refine⟨k1,h2.trans k2,h3.trans k3,λy hy n hn p hp h0 KS=>?_,λi hi=>?_⟩
  ·rcases List.mem_cons.1 hy with rfl|hy
   ·have h6:p∈((G.n[y.toNat]?).map (·.p)).getD []:=by rw[hn];exact hp
    exact k2.2 _ (h4 p h6 h0 KS)
   ·exact k4 y hy n hn p hp h0 KS
  ·rcases k5 i hi with h6|⟨y,hy,n,hn,h6⟩
   ·rcases h5 i h6 with h7|h7
    ·exact .inl h7
    ·cases hn:G.n[x.toNat]?with
     |none=>rw[hn]at h7;cases h7
     |some n=>rw[hn]at h7;exact .inr ⟨x,by simp,n,hn,h7⟩
   ·exact .inr ⟨y,List.mem_cons_of_mem _ hy,n,hn,h6⟩
inductive cq(G:GG)(st:gQ)(aw:Int->List Int)(x:Int)(n:GN):gQ->(Int->List Int)->Prop
 |plain:n.k=1->cq G st aw x n (bM st n.p) aw
 |pair {q:Int}:n.k=3->n.p.head? =some q->0<=q->st.1[q.toNat]? =some true->cq G st aw x n (bM st n.p) aw
 |wait {q:Int}:n.k=3->n.p.head? =some q->0<=q->st.1[q.toNat]? =some false->cq G st aw x n st (iJ aw q (aw q++[x]))
 |none:n.k≠1->(n.k=3->∀q,n.p.head? =some q->q<0)->cq G st aw x n st aw
theorem cq.p3{G:GG}{st nu:gQ}{aw iV:Int->List Int}{a:Nat}{x:Int}{n:GN}(h:xR G st aw a)(JM:0<=x)(hxs:st.1[x.toNat]? =some true)(hn:G.n[x.toNat]? =some n)(hs:cq G st aw x n nu iV):
 ∀q y,y∈iV q->0<=y/\st.1[y.toNat]? =some true/\∃n,G.n[y.toNat]? =some n/\n.k=3/\n.p.head? =some q:=by
 intro q y hy;cases hs with
 |plain _=>exact h.p3 q y hy
 |pair _ _ _ _=>exact h.p3 q y hy
 |none _ _=>exact h.p3 q y hy
 |
  wait hk hq xy vh=>
  rename_i q';unfold iJ at hy;split at hy
  ·rename_i he
   subst he;rcases jy.1 hy with hy|hy
   ·exact h.p3 q y hy
   ·rw[jo]at hy
    subst hy;exact⟨JM,hxs,n,hn,hk,hq⟩
  ·exact h.p3 q y hy
theorem cq.met{G:GG}{st nu:gQ}{aw iV:Int->List Int}{x:Int}{n:GN}(h:pP G.n.length st)(hs:cq G st aw x n nu iV):pP G.n.length nu:=by
 cases hs with
 |plain _=>exact(h.steps n.p).1
 |pair _ _ _ _=>exact(h.steps n.p).1
 |none _ _=>exact h
 |wait _ _ _ _=>exact h
theorem xR.step{G:GG}{st nu:gQ}{aw iV:Int->List Int}{a:Nat}{x:Int}{n:GN}(hok:e7 G=true)(h:xR G st aw a)(hx:st.2[a]? =some x)(hn:G.n[x.toNat]? =some n)(hs:cq G st aw x n nu iV):
 xR G (dS G nu (iV x)) iV (a+1):=by
 have xz:=(bt hx).2;have l7:x∈st.2:=ji hx;obtain⟨JM,hxs⟩:=h.met.mem x l7;have j8:∀{m:GN} {i:Nat},G.n[i]? =some m->∀p∈m.p,p<G.n.length:=λhm p hp=>((dJ hok (ji hm)).2 p hp).2;have h1:pP G.n.length nu/\pM st.1 nu.1/\st.2<+:nu.2/\eC G nu.1:=by
  have ms:=h.met.steps n.p;cases hs with
  |
   plain hk=>
   refine⟨ms.1,ms.2.1,ms.2.2.1,λi hi=>?_⟩;rcases ms.2.2.2.2 i hi with h2|h2
   ·exact h.sd i h2
   ·exact nr.plain (h.sd _ hxs) hn hk h2 (by omega)
  |
   pair hk hq xy vh=>
   refine⟨ms.1,ms.2.1,ms.2.2.1,λi hi=>?_⟩;rcases ms.2.2.2.2 i hi with h2|h2
   ·exact h.sd i h2
   ·exact nr.pair (h.sd _ hxs) hn hk hq xy (h.sd _ vh) h2 (by omega)
  |wait _ _ _ _=>exact⟨h.met,pM.refl _,List.prefix_refl _,h.sd⟩
  |none _ _=>exact⟨h.met,pM.refl _,List.prefix_refl _,h.sd⟩
 obtain⟨m1,l1,WU,WV⟩:=h1;have Nu:∀q y,y∈iV q->0<=y/\st.1[y.toNat]? =some true/\∃n,G.n[y.toNat]? =some n/\n.k=3/\n.p.head? =some q:=by
  intro q y hy;cases hs with
  |plain _=>exact h.p3 q y hy
  |pair _ _ _ _=>exact h.p3 q y hy
  |none _ _=>exact h.p3 q y hy
  |
   wait hk hq xy vh=>
   rename_i q';unfold iJ at hy;split at hy
   ·rename_i he
    subst he;rcases jy.1 hy with hy|hy
    ·exact h.p3 q y hy
    ·rw[jo]at hy
     subst hy;exact⟨JM,hxs,n,hn,hk,hq⟩
   ·exact h.p3 q y hy
 obtain⟨m2,l2,WW,a2,b2⟩:=mm (G:=G) (iV x) m1;have Qs:=l1.trans l2;have KU:=WU.trans WW;have WX:eC G (dS G nu (iV x)).1:=by
  intro i hi;rcases b2 i hi with h2|⟨y,hy,n',hn',h2⟩
  ·exact WV i h2
  ·obtain⟨_,hys,Ze,KV,j9,Nv⟩:=Nu x y hy
   rw[hn']at KV;simp only[jg]at KV;subst KV;exact nr.pair (h.sd _ hys) hn' j9 Nv JM (h.sd _ hxs) h2 (by omega)
 have DB:∀q y,y∈aw q->y∈iV q:=by
  intro q y hy;cases hs with
  |plain _=>exact hy
  |pair _ _ _ _=>exact hy
  |none _ _=>exact hy
  |
   wait _ _ _ _=>
   unfold iJ;split
   ·rename_i he;subst he;exact List.mem_append_left _ hy
   ·exact hy
 have tk:(dS G nu (iV x)).2.take (a+1)=st.2.take (a+1):=DA KU xz;have gt:∀i,i<a+1->(dS G nu (iV x)).2[i]? =st.2[i]? :=λi hi=>Hg KU (by omega);refine⟨m2,WX,λr hr=>Qs.2 _ (h.rt r hr),?_,?_,?_,?_,?_⟩
 ·obtain⟨t,ht⟩:=KU
  rw[<-ht,jh];omega
 ·intro k
  have:=h.al k;cases hs with
  |plain _=>omega
  |pair _ _ _ _=>omega
  |none _ _=>omega
  |
   wait _ _ _ _=>
   unfold iJ;split
   ·rename_i he;subst he;simp;omega
   ·omega
 ·intro i y m hi hy hm hk p hp h0
  rw[gt i hi]at hy;rcases Nat.lt_or_ge i a with Nw|Nw
  ·exact Qs.2 _ (h.p1 i y m Nw hy hm hk p hp h0)
  ·have:i=a:=by omega
   subst this;rw[hx]at hy;simp only[jg]at hy;subst hy;rw[hn]at hm;simp only[jg]at hm;subst hm;have ms:=h.met.steps n.p;cases hs with
   |plain _=>exact l2.2 _ (ms.2.2.2.1 p hp h0 (j8 hn p hp))
   |pair j9 _ _ _=>omega
   |wait j9 _ _ _=>omega
   |none U2 _=>exact absurd hk U2
 ·intro i y m q hi hy hm hk hq xy
  rw[gt i hi]at hy;rw[tk];rcases Nat.lt_or_ge i a with Nw|Nw
  ·rcases h.p2 i y m q Nw hy hm hk hq xy with h2|⟨h2,h3⟩
   ·exact .inl λp hp h0=>Qs.2 _ (h2 p hp h0)
   ·by_cases U3:q=x
    ·subst U3
     exact .inl λp hp h0=>a2 y (DB _ _ h2) m hm p hp h0 (j8 hm p hp)
    ·refine .inr ⟨DB _ _ h2,λh4=>?_⟩
     rw[List.take_add_one,hx,jy]at h4;rcases h4 with h4|h4
     ·exact h3 h4
     ·simp at h4;exact U3 h4
  ·have:i=a:=by omega
   subst this;rw[hx]at hy;simp only[jg]at hy;subst hy;rw[hn]at hm;simp only[jg]at hm;subst hm;have ms:=h.met.steps n.p;cases hs with
   |plain U2=>omega
   |pair j9 KL Ra vh=>exact .inl λp hp h0=>l2.2 _ (ms.2.2.2.1 p hp h0 (j8 hn p hp))
   |none _ h4=>have:=h4 hk q hq;omega
   |
    wait j9 KL Ra vh=>
    rw[hq]at KL;simp only[jg]at KL;subst KL;refine .inr ⟨?_,λh4=>?_⟩
    ·unfold iJ;rw[jd rfl];simp
    ·have:=(h.met.mem q (List.mem_of_mem_take h4)).2
     rw[vh]at this;cases this
 ·intro q y hy
  obtain⟨h2,h3,h4⟩:=Nu q y hy;exact⟨h2,Qs.2 _ h3,h4⟩
theorem KW{S:Type}{G:(S->Pr)->S->Pr}{F:(S->Pr)->Pr}{w:World}(I:S->Pr)(μ:S->World->Nat)(h1:F I w)(h2:∀s w,I s w->G (λs' w'=>I s' w'/\μ s' w'<μ s w) s w):KX G F w:=⟨I,μ,h1,h2⟩
theorem de.rd{F0:Nat->Prop}{w0 w:World}{L:List HA}{bs bl:Nat}{st:gQ}(h:St F0 w0 w (de bs bl st::L)):∃sn ls,bY w bs [slV sn]/\BL w sn st.1/\bY w bl [slV ls]/\IS w ls st.2:=by
 obtain⟨⟨sn,ls⟩,s⟩:=h.ex;have s:St F0 w0 w (aq 1 sn (st.1.map bv)::aa bs [slV sn]::aq 1 ls (st.2.map iv)::aa bl [slV ls]::L):=s;exact⟨sn,ls,(s.af 1).box,St.bl s,(s.af 3).box,bz.ms (s.af 2).sl⟩
theorem gE{F0:Nat->Prop}{w0 w:World}{L:List HA}{r:Nat}{x:Int}{t:Sl}{l:List Int}{k:Sl->Pr}(h:St F0 w0 w (aa r [.int .i64 x]::aq 1 t (l.map iv)::L))(hl:l.length<=1000000)
 (hk:∀t' w',St F0 w0 w' (aq 1 t' ((l++[x]).map iv)::aa r [.int .i64 x]::L)->k t' w'):app 3 1 8 [.int .i64 0] t ⟨some ⟨r,0,none⟩,1,1⟩ k w:=by
 have kq:=aT (h.af 1).sl;rw[je]at kq;refine(h.af 1).app (new:=[.int .i64 x]) (λ_=>rfl) (λh=>by cases h) (aF.2 h.box.row) (by simp[aK]) rfl (by decide) (by dsimp only;omega) λt' w' s' _=>hk t' w' ?_;rw[jj];exact s'
abbrev JN(bs bl:Nat):Value:=.func (.func 136) #[] #[.pointer (some ⟨bs,0,none⟩),.pointer (some ⟨bl,0,none⟩)]
theorem WY(g:GS)(w:World)(hg:RG w aA g)(hok:e7 g.m=true):Calls Pq 86 #[g.v] w (aC [.c .slice] λr w'=>St aA w w' [aq 1 r ((av g.m).map bv)]):=by
 refine Bp g.gn g.gr _ _ ?_;unfold U4;have gy:=hg.nl;have hrl:=hg.rl;have hn2:=hg.sm.nl;have xK:=hg.sm.rl;have hml:g.m.n.length=g.xs.length:=by simp[GS.m]
 have hmn:∀j (h:j<g.xs.length),g.m.n[j]? =some g.xs[j].m:=λj h=>by simp[GS.m,h]
 refine St.nw (St.bp w) λr w1 s1 _ _=>?_;refine KW (λs W=>∃(bs bl m a:Nat) (st:gQ) (aw:Int->List Int),s=(some ⟨bs,0,none⟩,some ⟨bl,0,none⟩,some m,(a:Int),JN bs bl)/\xR g.m st aw a/\St aA w W [de bs bl st,xw m aw,aa r [slV g.gn,slV g.gr]])
  (λs _=>g.xs.length-s.2.2.2.1.toNat) ?_ ?_
 ·
  simp only[ag];refine s1.ld (i:=0) (s:=.slice) (p:=g.gn) rfl ?_;refine s1.vp g.xs.length (by omega) rfl (by omega) (by omega) λt w2 s2 kq=>?_;rw[lB]at s2;refine⟨trivial,St.nw s2 λbs w3 s3 _ _=>s3.KR trivial λw4 s4=>⟨trivial,St.nw s4 λbl w5 s5 _ _=>?_⟩⟩;have s6:St aA w w5 [de bs bl (List.replicate g.xs.length false,[]),aa r [slV g.gn,slV g.gr]]:=by
   refine St.iI (t,⟨none,0,0⟩) ?_;have s7:=(s5.fe 1);have e:(List.replicate g.xs.length false).map bv=List.replicate g.xs.length (.bool false):=by rw[List.map_replicate]
   show St aA w w5 [aq 1 t ((List.replicate g.xs.length false).map bv),aa bs [slV t],aq 1 ⟨none,0,0⟩ [],aa bl [slV ⟨none,0,0⟩],aa r [slV g.gn,slV g.gr]];rw[e];exact s7.bE [3,2,0,1] 4
  refine KQ s6 λm w7 s7=>?_;have s7:St aA w w7 [de bs bl (List.replicate g.xs.length false,[]),xw m (λ_=>[]),aa r [slV g.gn,slV g.gr]]:=s7.af 1;refine(s7.af 2).ld (i:=1) (s:=.slice) (p:=g.gr) rfl ?_;refine aB (λz W=>∃(j:Nat) (st:gQ),z=j/\j<=g.rs.length/\pP g.xs.length st/\eC g.m st.1/\(∀r∈g.rs.take j,st.1[r.2.toNat]? =some true)/\St aA w W [de bs bl st,xw m (λ_=>[]),aa r [slV g.gn,slV g.gr]])
   (λz _=>g.rs.length-z.toNat) ⟨0,_,rfl,by omega,⟨by simp,by simp,λi hi=>?_,by simp⟩,λi hi=>?_,by simp,s7⟩ ?_
  ·dsimp only at hi
   rw[List.getElem?_replicate]at hi;split at hi<;>cases hi
  ·dsimp only at hi
   rw[List.getElem?_replicate]at hi;split at hi<;>cases hi
  rintro _ W ⟨j,st,rfl,hj,Hh,Bk,GL,sW⟩;refine ah (λhlt=>?_) λhge=>?_
  ·simp only[jb]at hlt
   have hjl:j<g.rs.length:=by omega
   refine⟨⟨by omega,by omega⟩,?_⟩;rw[jk];refine(hg.grow sW.bh).root (x:=g.rs[j]) (by simp[hjl]) ?_;have hro:=iG hok (r:=g.rs[j]) (List.getElem_mem hjl);have hmem:g.rs[j]∈g.m.r:=List.getElem_mem hjl;have q9:∀q∈g.rs.take (j+1),q∈g.rs.take j\/q=g.rs[j]:=by
    intro p hp;rw[List.take_add_one,jl hjl,jy]at hp;simpa using hp
   generalize g.rs[j]=q at hro hmem q9⊢;refine St.nw sW λr2 w8 s8 _ _=>s8.st (i:=0) (by simp) trivial λw9 s9=>s9.st (i:=1) (by simp) trivial λiF bH=>?_;refine bH.ld (i:=1) (s:=.int .i64) (p:=q.2) rfl ?_;refine St.nw bH λr3 oW cR _ _=>?_;have cR:St aA w oW [aa r3 [.int .i64 q.2],aa r2 [.string (bytesOf q.1),.int .i64 q.2],de bs bl st,xw m (λ_=>[]),aa r [slV g.gn,slV g.gr]]:=cR;have hle:=Hh.le;refine Dz (cR.bE [2,0,1] 3) (by rw[Hh.len];omega) (by omega) λrK eH=>?_;obtain⟨m1,m2,m3,m4,m5⟩:=Hh.step q.2;rw[ax (by omega)];refine⟨⟨j+1,cT st q.2,rfl,by omega,m1,λi hi=>?_,λx hx=>?_,eH.bE [0,3,4] 5⟩,by omega⟩
   ·rcases m5 i hi with h2|h2
    ·exact Bk i h2
    ·have:=nr.root hmem
     rwa[show q.2.toNat=i by omega]at this
   ·rcases q9 x hx with h2|rfl
    ·exact m2.2 _ (GL x h2)
    ·exact m4 hro.2.1 (by omega)
  ·simp only[ja]at hge
   rw[List.take_of_length_le (by omega)]at GL;refine⟨bs,bl,m,0,st,λ_=>[],rfl,⟨by rw[hml];exact Hh,Bk,GL,by omega,by simp,λ_ _ _ h=>by omega,λ_ _ _ _ h=>by omega,λ_ _ h=>by cases h⟩,sW⟩
 ·rintro _ W ⟨bs,bl,m,a,st,aw,rfl,hR,sW⟩
  simp only[ag];obtain⟨sn,ls,b1,b2,b3,b4⟩:=de.rd sW;have hls:=b4.len;have hle:=hR.met.le;rw[hml]at hle;refine dD (s:=.slice) (p:=ls) b3.fK ?_;refine ah (λhlt=>?_) λhge=>?_
  rotate_left
  ·
   simp only[ja]at hge;have hdone:=hR.done (by omega);obtain⟨⟨Rb,ls'⟩,s⟩:=sW.ex;have s:St aA w W [aq 1 Rb (st.1.map bv),aa bs [slV Rb],aq 1 ls' (st.2.map iv),aa bl [slV ls'],xw m aw,aa r [slV g.gn,slV g.gr]]:=s;refine(s.af 1).Ab (s:=.slice) (p:=Rb) rfl ?_;rw[<-hdone];exact s.bE [0] 6
  simp only[jb]at hlt;have xz:a<st.2.length:=by omega
  refine dD (s:=.slice) (p:=ls) b3.fK ⟨⟨by omega,by omega⟩,?_⟩;rw[jk];refine IS.at b4 xz ?_;have KY:st.2[a]? =some st.2[a]:=by simp[xz]
  have l7:=ji KY;have Dh:=hR.met.pQ l7;rw[hml]at Dh;generalize st.2[a]=x at KY l7 Dh⊢;refine(sW.af 2).ld (i:=0) (s:=.slice) (p:=g.gn) rfl ⟨⟨by omega,by omega⟩,?_⟩;have ko:x.toNat<g.xs.length:=by omega
  refine(hg.grow sW.bh).node (x:=g.xs[x.toNat]) (by simp[ko]) ?_;have GO:=hmn x.toNat ko;have fD:g.xs[x.toNat]∈g.xs:=List.getElem_mem ko;have Rc:=(dJ hok (ji GO));generalize g.xs[x.toNat]=y at GO fD Rc⊢;have hyp:=hg.sm.pl y fD;have Hi:∀p∈y.p,p<st.1.length:=λp hp=>by rw[hR.met.len];exact(Rc.2 p hp).2
  have j9:y.k=3->0<y.p.length:=by
   intro h3;have hs:=Rc.1;unfold b8 at hs;simp only[jz,Bool.not_eq_true',Bool.and_eq_false_iff,jb,ja]at hs;have h4:y.m.k=3:=h3;have h5:y.m.p=y.p:=rfl;rw[h5]at hs;rcases hs.2 with h|h
   ·exact absurd h4 h
   ·omega
  refine St.nw sW λr1 w2 s2 _ _=>s2.st (i:=0) (by simp) trivial λw3 s3=>s3.st (i:=1) (by simp) trivial λw4 s4=>s4.st (i:=2) (by simp) trivial λw5 s5=>?_;have s5:St aA w w5 [aa r1 (aj y),de bs bl st,xw m aw,aa r [slV g.gn,slV g.gr]]:=s5;refine aL (λ_ W'=>∃nu iV,cq g.m st aw x y.m nu iV/\St aA w W' [de bs bl nu,xw m iV,aa r1 (aj y),aa r [slV g.gn,slV g.gr]]) ?_ ?_
  ·have hall:∀{W'} (_:St aA w W' [aa r1 (aj y),de bs bl st,xw m aw,aa r [slV g.gn,slV g.gr]]) (k:Unit->Pr),(∀W'',St aA w W'' [de bs bl (bM st y.p),xw m aw,aa r1 (aj y),aa r [slV g.gn,slV g.gr]]->k () W'')->
    cE Pq (JN bs bl) [.slice y.ps.a y.ps.len y.ps.cap] [] k W':=by
    intro W' s k hk;refine rO (s.bE [1,2,0] 3) hg fD Hi (by omega) λW'' s''=>hk W'' s''
   refine s5.ld (i:=0) (s:=.int .i64) (p:=y.k) rfl ?_;refine ah (λh1=>?_) λh1=>?_
   ·refine s5.ld (i:=1) (s:=.slice) (p:=y.ps) rfl ?_
    refine hall s5 _ λW'' s''=>⟨_,aw,cq.plain (show y.k=1 by simpa using h1),s''⟩
   have h1:y.k≠1:=by simpa using h1
   have GP:∀{W' L} (_:St aA w W' (aa r1 (aj y)::L)) (h3:y.k=3) (k:Int->Pr),k (y.p[0]'(j9 h3)) W'->
    (au .slice (Addr.add ⟨r1,0,none⟩ 1) λ(t:Sl)=>aP ((0:Int)<=0/\0<(t.len:Int))<|deref t.a λa=>au (.int .i64) (a.add (Int.toNat 0*1)) k) W':=by
    intro W' L s h3 k hk;have h0:=j9 h3;have nq:=((hg.grow s.bh).ip y fD).len;exact s.ld (i:=1) (s:=.slice) (p:=y.ps) rfl ⟨⟨by omega,by omega⟩,IS.at ((hg.grow s.bh).ip y fD) (i:=0) h0 hk⟩
   have Nv:∀(h3:y.k=3),y.m.p.head? =some (y.p[0]'(j9 h3)):=λh3=>by
    show y.p.head? =_;rw[List.head?_eq_getElem?,jl (j9 h3)]
   refine aL (λb W'=>(b=true↔∃h3:y.k=3,0<=y.p[0]'(j9 h3)/\st.1[(y.p[0]'(j9 h3)).toNat]? =some true)/\St aA w W' [aa r1 (aj y),de bs bl st,xw m aw,aa r [slV g.gn,slV g.gr]]) ?_ ?_
   ·rw[aR]
    have s6:=s5.drew;refine s6.ld (i:=0) (s:=.int .i64) (p:=y.k) rfl ?_;refine ah (λh3=>?_) λh3=>⟨?_,s6⟩
    ·have h3:y.k=3:=by simpa using h3
     refine GP s6 h3 _ ?_;have hq:=Hi _ (List.getElem_mem (j9 h3));refine ah (λh4=>?_) λh4=>⟨?_,s6⟩
     ·have h4:(0:Int)<=y.p[0]'(j9 h3):=by simpa using h4
      obtain⟨WZ,Zf,c1,c2,c3,c4⟩:=de.rd (s6.af 1);have W0:=c2.len;refine dD (s:=.slice) (p:=WZ) c1.fK ?_;refine GP s6 h3 _ ⟨⟨h4,by omega⟩,BL.at c2 (i:=(y.p[0]'(j9 h3)).toNat) (by omega) ⟨?_,s6⟩⟩;have KZ:st.1[(y.p[0]'(j9 h3)).toNat]? =some (st.1[(y.p[0]'(j9 h3)).toNat]'(by omega)):=by rw[jl]
      constructor
      ·intro h;exact⟨h3,h4,by rw[KZ,h]⟩
      ·rintro⟨_,_,h⟩
       rw[KZ]at h;simpa using h
     ·have h4:¬(0:Int)<=y.p[0]'(j9 h3):=by simpa using h4
      constructor
      ·intro h;cases h
      ·rintro⟨_,h,_⟩;exact absurd h h4
    ·have h3:y.k≠3:=by simpa using h3
     constructor
     ·intro h;cases h
     ·rintro⟨h,_⟩;exact absurd h h3
   rintro b W' ⟨hb,s6⟩;refine ah (λHj=>?_) λHj=>?_
   ·obtain⟨h3,h4,h5⟩:=hb.1 Hj
    refine s6.ld (i:=1) (s:=.slice) (p:=y.ps) rfl ?_;refine hall s6 _ λW'' s''=>⟨_,aw,cq.pair h3 (Nv h3) h4 h5,s''⟩
   have hno:∀h3:y.k=3,0<=y.p[0]'(j9 h3)->st.1[(y.p[0]'(j9 h3)).toNat]? =some false:=by
    intro h3 h4;have hq:=Hi _ (List.getElem_mem (j9 h3));have KZ:st.1[(y.p[0]'(j9 h3)).toNat]? =some (st.1[(y.p[0]'(j9 h3)).toNat]'(by omega)):=by rw[jl]
    rw[KZ];cases hc:st.1[(y.p[0]'(j9 h3)).toNat]'(by omega)with
    |false=>rfl
    |
     true=>
     have:=hb.2 ⟨h3,h4,by rw[KZ,hc]⟩;rw[Hj]at this;cases this
   refine aL (λc W''=>(c=true↔∃h3:y.k=3,0<=y.p[0]'(j9 h3))/\W'=W'') ?_ ?_
   ·refine s6.ld (i:=0) (s:=.int .i64) (p:=y.k) rfl ?_
    refine ah (λh3=>?_) λh3=>⟨?_,rfl⟩
    ·have h3:y.k=3:=by simpa using h3
     refine GP s6 h3 _ ⟨?_,rfl⟩;constructor
     ·intro h;exact⟨h3,by simpa using h⟩
     ·rintro⟨_,h⟩;simpa using h
    ·have h3:y.k≠3:=by simpa using h3
     constructor
     ·intro h;cases h
     ·rintro⟨h,_⟩;exact absurd h h3
   rintro c _ ⟨hc,rfl⟩;refine ah (λDi=>?_) λDi=>⟨st,aw,cq.none h1 (λh3 q hq=>?_),s6.bE [1,2,0] 3⟩
   rotate_left
   ·rw[Nv h3]at hq
    simp only[jg]at hq;subst hq;refine Int.not_le.1 λh=>?_;have:=hc.2 ⟨h3,h⟩;rw[Di]at this;cases this
   obtain⟨h3,h4⟩:=hc.1 Di;have JO:=cq.wait (G:=g.m) (st:=st) (aw:=aw) (x:=x) (n:=y.m) h3 (Nv h3) h4 (hno h3 h4);have xy:=Hi _ (List.getElem_mem (j9 h3));generalize xS:y.p[0]'(j9 h3)=q at JO GP h4 xy;have Nq:∀{W' L} (_:St aA w W' (aa r1 (aj y)::L)) (k:Int->Pr),k q W'->
    (au .slice (Addr.add ⟨r1,0,none⟩ 1) λ(t:Sl)=>aP ((0:Int)<=0/\0<(t.len:Int))<|deref t.a λa=>au (.int .i64) (a.add (Int.toNat 0*1)) k) W':=by
    intro W' L s k hk;have h0:=j9 h3;have nq:=((hg.grow s.bh).ip y fD).len;exact s.ld (i:=1) (s:=.slice) (p:=y.ps) rfl ⟨⟨by omega,by omega⟩,IS.at ((hg.grow s.bh).ip y fD) (i:=0) h0 (by rw[xS];exact hk)⟩
   rw[aR];have Re:=hR.al q;have W7:∃ad,y.ps.a=some ad/\∀{W' L},St aA w W' L->W'.cell? (ad.add (0*1))=some (.int .i64 q):=by
    have h0:=j9 h3;have W8:=hg.ip y fD;have hrow:=W8.row;cases U5:y.ps.a with
    |none=>rw[U5]at hrow;have:y.p.map iv=[]:=hrow;simp at this;rw[this]at h0;simp at h0
    |
     some ad=>
     refine⟨ad,rfl,λ{W' L} s=>?_⟩;have h6:=((hg.grow s.bh).ip y fD).row;rw[U5]at h6;have:=(aF.1 h6).get (j:=0) (v:=.int .i64 q) (by simp[h0,xS]);exact this
   obtain⟨ad,had,hcell⟩:=W7;have s7:St aA w _ [xw m aw,aa r1 (aj y),de bs bl st,aa r [slV g.gn,slV g.gr]]:=(s6.drew.af 2);refine Nq (s6.drew) _ ?_;refine JL s7 λt101 _ s8=>?_;have Rf:∀{W' L} (_:St aA w W' (aa r1 (aj y)::L)) (k:Addr->Pr),k ad W'->(au .slice (Addr.add ⟨r1,0,none⟩ 1) λ(t:Sl)=>aP ((0:Int)<=0/\0<(t.len:Int))<|deref t.a k) W':=by
    intro W' L s k hk;have h0:=j9 h3;have nq:=((hg.grow s.bh).ip y fD).len;refine s.ld (i:=1) (s:=.slice) (p:=y.ps) rfl ⟨⟨by omega,by omega⟩,?_⟩;rw[had,ag];exact hk
   have M4:∀{W' L} (_:St aA w W' L) (k:Int->Pr),k q W'->au (.int .i64) (ad.add (Int.toNat 0*1)) k W':=λs k hk=>dD (s:=.int .i64) (p:=q) (hcell s) hk;have fin:∀{W' t' r2},St aA w W' [aq 1 t' ((aw q++[x]).map iv),aa r2 [.int .i64 x],JK m aw q t101,aa r1 (aj y),de bs bl st,aa r [slV g.gn,slV g.gr]]->
    ej (.int .i64) (some m) (.int .i64 q) (.slice t'.a t'.len t'.cap) (λW'=>∃nu iV,cq g.m st aw x y.m nu iV/\St aA w W' [de bs bl nu,xw m iV,aa r1 (aj y),aa r [slV g.gn,slV g.gr]]) W':=by
    intro W' t' r2 s;exact KO (s.bE [0,2,3,4] 5) λW'' s'=>⟨st,_,JO,s'.bE [2,0,1] 3⟩
   refine⟨?_,?_⟩
   ·refine Rf (s8.af 2) _ ⟨?_,?_⟩
    ·refine M4 s8 _ (St.nw s8 λr2 w9 s9 _ _=>gE s9 (by omega) λt' iF bH=>fin bH)
    ·refine St.nw s8 λr2 w9 s9 _ _=>⟨?_,?_⟩
     ·exact M4 s9 _ (gE s9 (by omega) λt' iF bH=>fin bH)
     ·exact gE s9 (by omega) λt' iF bH=>M4 bH _ (fin bH)
   ·refine St.nw s8 λr2 w9 s9 _ _=>⟨?_,?_⟩
    ·refine Rf (s9.af 3) _ ⟨?_,?_⟩
     ·exact M4 s9 _ (gE s9 (by omega) λt' iF bH=>fin bH)
     ·exact gE s9 (by omega) λt' iF bH=>M4 bH _ (fin bH)
    ·exact gE s9 (by omega) λt' iF bH=>Rf (bH.af 3) _ (M4 bH _ (fin bH))
  ·rintro⟨⟩ W' ⟨nu,iV,JP,s6⟩
   have hxs:=hR.met.mem x l7;have Nu:=JP.p3 hR Dh.1 hxs.2 GO;have W9:=JP.met hR.met;have hstep:=hR.step hok KY GO JP;have Re:=hstep.al x;refine JL (s6.af 1) λt107 _ s7=>?_;have s7:St aA w W' [aq 1 t107 ((iV x).map iv),JK m iV x t107,de bs bl nu,aa r1 (aj y),aa r [slV g.gn,slV g.gr]]:=s7;refine aB (λz W2=>∃j:Nat,z=j/\j<=(iV x).length/\St aA w W2 [aq 1 t107 ((iV x).map iv),JK m iV x t107,de bs bl (dS g.m nu ((iV x).take j)),aa r1 (aj y),aa r [slV g.gn,slV g.gr]])
    (λz _=>(iV x).length-z.toNat) ⟨0,rfl,by omega,s7⟩ ?_
   rintro _ W2 ⟨j,rfl,hj,s8⟩;have kq:=aT s8.sl;rw[je]at kq;refine ah (λig=>?_) λij=>?_
   ·simp only[jb]at ig
    have hjl:j<(iV x).length:=by omega
    refine⟨⟨by omega,by omega⟩,?_⟩;rw[jk];refine IS.at (bz.ms s8.sl) hjl ?_;have vo:(iV x)[j]∈iV x:=List.getElem_mem hjl;have gz:(iV x).take (j+1)=(iV x).take j++[(iV x)[j]]:=by rw[List.take_add_one,jl hjl];rfl
    generalize(iV x)[j]=pr at vo gz⊢;obtain⟨p0,ps,pn,KS,_,_⟩:=Nu x pr vo;have K0:pr.toNat<g.xs.length:=by
     have:=(bt KS).2;omega
    have M5:=hmn pr.toNat K0;rw[KS]at M5;simp only[jg]at M5;refine(s8.af 4).ld (i:=0) (s:=.slice) (p:=g.gn) rfl ⟨⟨by omega,by omega⟩,?_⟩;refine(hg.grow s8.bh).od (x:=g.xs[pr.toNat]) (j:=1) (c:=.slice) (p:=g.xs[pr.toNat].ps) (by simp[K0]) rfl ?_;have hma:=(mm (G:=g.m) ((iV x).take j) W9).1;have Xa:=hma.le;refine rO (s8.bE [2,0,1] 3) hg (List.getElem_mem K0) (λp hp=>?_) (by omega) λW3 s9=>?_
    ·rw[hma.len]
     exact((dJ hok (ji KS)).2 p (by rw[M5];exact hp)).2
    ·rw[ax (by omega)]
     refine⟨⟨j+1,rfl,by omega,?_⟩,by omega⟩;have e:dS g.m nu ((iV x).take (j+1))=bM (dS g.m nu ((iV x).take j)) g.xs[pr.toNat].p:=by
      rw[gz];unfold dS;rw[List.foldl_append];simp only[List.foldl_cons,List.foldl_nil,KS,Option.map_some,Option.getD_some];rw[M5];rfl
     rw[e];exact s9.bE [1,2,0] 3
   ·simp only[ja]at ij
    rw[List.take_of_length_le (by omega)]at s8;have s9:=He s8;refine⟨⟨bs,bl,m,a+1,_,iV,?_,hstep,s9.bE [1,0,3] 4⟩,?_⟩
    ·rw[ax (by omega)]
    ·show g.xs.length-(IntKind.wrap .i64 ((a:Int)+1)).toNat<g.xs.length-(a:Int).toNat
     rw[ax (by omega)];omega
def dK(l:List Int)(p:Int):Nat:=l.findIdx (·==p)
theorem iW{l:List Int}{p:Int}(h:p∈l):dK l p<l.length:=by
 unfold dK;exact List.findIdx_lt_length_of_exists ⟨p,h,by simp⟩
theorem pR{l:List Int}{p:Int}(h:p∈l):l[dK l p]? =some p:=by
 have hl:=iW h;rw[jl hl];have h2:(l[l.findIdx (·==p)]'hl==p)=true:=List.findIdx_getElem (w:=hl)
 congr 1
 exact eq_of_beq h2
theorem mo{l:List Int}(hn:l.Nodup){i:Nat}{p:Int}(h:l[i]? =some p):dK l p=i:=by
 have hm:p∈l:=ji h;have h1:=pR hm;have hi:=(bt h).2;have hj:=iW hm;rw[jl hi]at h;rw[jl hj]at h1;simp only[jg]at h h1;exact(List.getElem_inj hn).1 (h1.trans h.symm)
def gR(l:List Int)(p:Int):Int:=if 0<=p then(dK l p:Int)else p
def ri(l:List Int)(n:GN):GN:=⟨n.k,n.p.map (gR l),n.d⟩
def nodeAt(G:GG)(x:Int):GN:=(G.n[x.toNat]?).getD ⟨0,[],[]⟩
def eO(G:GG)(l:List Int):GG:=⟨l.map λx=>ri l (nodeAt G x),G.r.map λr=>(r.1,(dK l r.2:Int))⟩
structure gF(G:GG)(l:List Int):Prop where
 xx:l.Nodup
 pQ:∀x∈l,0<=x/\x<G.n.length
 cl:∀x∈l,∀p∈(nodeAt G x).p,0<=p->p∈l
 rt:∀r∈G.r,r.2∈l
theorem gF.le{G:GG}{l:List Int}(h:gF G l):l.length<=G.n.length:=vr h.xx h.pQ
theorem pU{G H:GG}{l:List Int}(hn:∀x∈l,nodeAt G x=nodeAt H x)(hr:G.r=H.r):eO G l=eO H l:=by
 unfold eO;rw[hr]
 congr 1
 apply List.map_congr_left;intro x hx;rw[hn x hx]
theorem lD{α:Type}{f:α->LV}{ys:List α}{k:Nat}{y:α}(h:ys[k]? =some y):ys.flatMap f=(ys.take k).flatMap f++(f y++(ys.drop (k+1)).flatMap f):=by
 conv=>lhs;rw[(bt h).1]
 rw[List.flatMap_append,List.flatMap_cons]
theorem ni{α:Type}{f:α->LV}{n:Nat}(hf:∀r,(f r).length=n){ys:List α}{k j:Nat}{y:α}{c:LV}{v:Value}(h:ys[k]? =some y)(hc:c.length=n)(hj:j<n):
 ((ys.take k).flatMap f++(c++(ys.drop (k+1)).flatMap f)).set (k*n+j) v=(ys.take k).flatMap f++(c.set j v++(ys.drop (k+1)).flatMap f):=by
 have hk:=(bt h).2;have hl:((ys.take k).flatMap f).length=k*n:=by rw[c9 hf,jr];congr 1;omega
 rw[List.set_append_right _ _ (by omega),hl,show k*n+j-k*n=j by omega,List.set_append_left _ _ (by omega)]
theorem nE{α:Type}{f:α->LV}{ys:List α}{k:Nat}{y z:α}(h:ys[k]? =some y):(ys.take k).flatMap f++(f z++(ys.drop (k+1)).flatMap f)=(ys.set k z).flatMap f:=by
 have hk:=(bt h).2;rw[List.set_eq_take_append_cons_drop,jd hk,List.flatMap_append,List.flatMap_cons]
theorem vt{F0:Nat->Prop}{w0 w:World}{L:List HA}{t:Sl}{ys:List NS}{k:Nat}{y z:NS}{f:Pr}(h:St F0 w0 w (aq 3 t (ys.flatMap aj)::L))(hk:ys[k]? =some y)
 (hf:∀w',St F0 w0 w' (aq 3 t ((ys.set k z).flatMap aj)::L)->f w'):
 (deref t.a λa=>Eng.st ((a.add (k*3)).add 0) (.int .i64 z.k)<|Eng.st ((a.add (k*3)).add 1) (.slice z.ps.a z.ps.len z.ps.cap)<|Eng.st ((a.add (k*3)).add 2) (.slice z.ds.a z.ds.len z.ds.cap) f) w:=by
 have nt:=(bt hk).2;have hlen:(ys.flatMap aj).length=ys.length*3:=M0 ys;rw[lD (f:=aj) hk]at h;have hlen':∀c:LV,c.length=3->((ys.take k).flatMap aj++(c++(ys.drop (k+1)).flatMap aj)).length=ys.length*3:=by
  intro c hc;rw[jh,jh,M0,M0,hc,jr,kf];omega
 obtain⟨ad,had,h1⟩:=h.put (i:=k*3+0) (v:=.int .i64 z.k) (by rw[hlen' _ (b7 y)];omega) trivial (k:=Eng.st ((t.a.getD ⟨0,0,none⟩).add (k*3+1)) (slV z.ps)<|Eng.st ((t.a.getD ⟨0,0,none⟩).add (k*3+2)) (slV z.ds) f) λw1 s1=>by
  rw[ni b7 hk (b7 y) (by decide)]at s1;obtain⟨Zr,UD,h2⟩:=s1.put (i:=k*3+1) (v:=slV z.ps) (by rw[hlen' _ (by simp)];omega) trivial (k:=Eng.st ((t.a.getD ⟨0,0,none⟩).add (k*3+2)) (slV z.ds) f) λw2 s2=>by
   rw[ni b7 hk (by simp) (by decide)]at s2;obtain⟨Zs,UE,h3⟩:=s2.put (i:=k*3+2) (v:=slV z.ds) (by rw[hlen' _ (by simp)];omega) trivial (k:=f) λw3 s3=>by
    rw[ni b7 hk (by simp) (by decide)]at s3;refine hf w3 ?_;rw[<-nE (f:=aj) (z:=z) hk];exact s3
   rw[UE];exact h3
  rw[UD]at h2⊢;exact h2
 rw[had,ag,add_add,add_add,add_add];rw[had]at h1;exact h1
theorem DC(ys:List RM):(ys.flatMap ay).length=ys.length*2:=c9 bT ys
theorem Br{F0:Nat->Prop}{w0 w:World}{L:List HA}{t:Sl}{ys:List RM}{k:Nat}{y:RM}{n:Int}{f:Pr}(h:St F0 w0 w (aq 2 t (ys.flatMap ay)::L))(hk:ys[k]? =some y)
 (hf:∀w',St F0 w0 w' (aq 2 t ((ys.set k (y.1,n)).flatMap ay)::L)->f w'):
 (deref t.a λa=>Eng.st ((a.add (k*2)).add 1) (.int .i64 n) f) w:=by
 have nt:=(bt hk).2;rw[lD (f:=ay) hk]at h;have hlen':((ys.take k).flatMap ay++(ay y++(ys.drop (k+1)).flatMap ay)).length=ys.length*2:=by
  rw[jh,jh,DC,DC,bT,jr,kf];omega
 obtain⟨ad,had,h1⟩:=h.put (i:=k*2+1) (v:=.int .i64 n) (k:=f) (by rw[hlen'];omega) trivial λw1 s1=>by
  rw[ni bT hk (bT y) (by decide)]at s1;refine hf w1 ?_;rw[<-nE (f:=ay) (z:=(y.1,n)) hk];exact s1
 rw[had,ag,add_add];exact h1
set_option maxRecDepth 100000
def Tn:An:=(.sq .z (.sq .z (.sq (.sq .z (.bl (.lp [(22,.c (.int .i64))] (.sq .z (.sq (.br .z .z) (.sq (.bl (.sq .z .z)) .z)))))) (.sq .z (.sq (.sq .z (.bl (.lp [(38,.c (.int .i64))] (.sq .z (.sq (.br .z .z) (.sq (.bl (.sq .z (.sq .z (.sq (.sq .z (.bl (.lp [(51,.c (.int .i64))] (.sq .z (.sq (.br .z .z) (.sq (.jn [] (.bl (.sq .z (.sq .z (.br .z .z))))) .z)))))) .z)))) .z)))))) (.sq (.sq .z (.bl (.lp [(77,.c (.int .i64))] (.sq .z (.sq (.br .z .z) (.sq (.bl (.sq .z .z)) .z)))))) (.sq .z .z)))))))
def U7(aD:Sl)(az:Sl)(p1:Sl)(Q:Sl×Sl->Pr):Pr:=
 nw (.cells #[(.slice aD.a aD.len aD.cap),(.slice az.a az.len az.cap)] 32) λr=>
 nw (.cells #[(.slice none 0 0),(.slice none 0 0)] 32) λr_1=>
 deref (some ⟨r,0,none⟩) λa=>
 deref (some (a.add 0)) λa_1=>
 au .slice a_1 λ(t17:Sl)=>
 AQ 3 8 [(.int .i64 0)] (t17.len:Int) (t17.len:Int) λt19=>
 aM (S:=Int) (λX s=>
 br (decide (s<(p1.len:Int))) (
 aP ((0:Int)<=s/\s<(p1.len:Int))<|
 deref p1.a λa_2=>
 deref (some (a_2.add (Int.toNat s*1))) λbX=>
 au (.int .i64) bX λ(t26:Int)=>
 aP ((0:Int)<=t26/\t26<(t19.len:Int))<|
 deref t19.a λc6=>
 deref (some (c6.add (Int.toNat t26*1))) λc7=>
 st c7 (.int .i64 s)<|
 X ((IntKind.wrap .i64 (s+1)))) (
 deref (some ⟨r,0,none⟩) λcV=>
 deref (some (cV.add 1)) λdy=>
 au .slice dy λ(t33:Sl)=>
 cS 109 [(.slice t33.a t33.len t33.cap)] λt34=>
 nw (.cells #[(.slice none 0 0),(.slice none 0 0)] 32) λr_2=>
 deref (some ⟨r_2,0,none⟩) λdO=>
 st (dO.add 0) (.slice none 0 0)<|
 st (dO.add 1) (.slice t34.a t34.len t34.cap)<|
 aM (S:=Int) (λjM s_1=>
 br (decide (s_1<(p1.len:Int))) (
 aP ((0:Int)<=s_1/\s_1<(p1.len:Int))<|
 deref p1.a λdP=>
 deref (some (dP.add (Int.toNat s_1*1))) λbu=>
 au (.int .i64) bu λ(t41:Int)=>
 deref (some ⟨r,0,none⟩) λbF=>
 deref (some (bF.add 0)) λbw=>
 au .slice bw λ(t43:Sl)=>
 aP ((0:Int)<=t41/\t41<(t43.len:Int))<|
 deref t43.a λbJ=>
 deref (some (bJ.add (Int.toNat t41*3))) λbW=>
 aQ [(.int .i64),.slice,.slice] bW λ(t46:Int×Sl×Sl)=>
 aH Pq 110 [(.agg #[(.int .i64 t46.1),(.slice t46.2.1.a t46.2.1.len t46.2.1.cap),(.slice t46.2.2.a t46.2.2.len t46.2.2.cap)])] [.agg [(.int .i64),.slice,.slice]] λ(t47:Int×Sl×Sl)=>
 nw (.cells #[(.int .i64 0),(.slice none 0 0),(.slice none 0 0)] 62) λr_3=>
 deref (some ⟨r_3,0,none⟩) λbS=>
 st (bS.add 0) (.int .i64 t47.1)<|
 st (bS.add 1) (.slice t47.2.1.a t47.2.1.len t47.2.1.cap)<|
 st (bS.add 2) (.slice t47.2.2.a t47.2.2.len t47.2.2.cap)<|
 deref (some ⟨r_3,0,none⟩) λcm=>
 deref (some (cm.add 1)) λcx=>
 au .slice cx λ(t49:Sl)=>
 aM (S:=Int) (λxh s_2=>
 br (decide (s_2<(t49.len:Int))) (
 jn (S:=Unit) (λR=>
 aP ((0:Int)<=s_2/\s_2<(t49.len:Int))<|
 deref t49.a λcy=>
 deref (some (cy.add (Int.toNat s_2*1))) λcz=>
 au (.int .i64) cz λ(t55:Int)=>
 br (decide (t55>=0)) (
 jE<|
 deref (some ⟨r_3,0,none⟩) λdz=>
 deref (some (dz.add 1)) λdQ=>
 au .slice dQ λ(t59:Sl)=>
 aP ((0:Int)<=t55/\t55<(t19.len:Int))<|
 deref t19.a λdR=>
 deref (some (dR.add (Int.toNat t55*1))) λep=>
 au (.int .i64) ep λ(t64:Int)=>
 aP ((0:Int)<=s_2/\s_2<(t59.len:Int))<|
 deref t59.a λe8=>
 deref (some (e8.add (Int.toNat s_2*1))) λfu=>
 st fu (.int .i64 t64)<|
 R ()) (
 R ())) λdB=>
 xh ((IntKind.wrap .i64 (s_2+1)))) (
 deref (some ⟨r_2,0,none⟩) λfy=>
 deref (some (fy.add 0)) λfZ=>
 au .slice fZ λ(t68:Sl)=>
 deref (some ⟨r_3,0,none⟩) λfA=>
 aQ [(.int .i64),.slice,.slice] fA λ(t69:Int×Sl×Sl)=>
 nw (.cells #[(.int .i64 t69.1),(.slice t69.2.1.a t69.2.1.len t69.2.1.cap),(.slice t69.2.2.a t69.2.2.len t69.2.2.cap)] 62) λnc=>
 app 62 3 56 [(.int .i64 0),(.slice none 0 0),(.slice none 0 0)] t68 ⟨(some ⟨nc,0,none⟩),1,1⟩ λt71=>
 deref (some ⟨r_2,0,none⟩) λgq=>
 deref (some (gq.add 0)) λiA=>
 st iA (.slice t71.a t71.len t71.cap)<|
 jM ((IntKind.wrap .i64 (s_1+1))))) 0) (
 deref (some ⟨r_2,0,none⟩) λjO=>
 deref (some (jO.add 1)) λkO=>
 au .slice kO λ(t75:Sl)=>
 aM (S:=Int) (λFI bB=>
 br (decide (bB<(t75.len:Int))) (
 aP ((0:Int)<=bB/\bB<(t75.len:Int))<|
 deref t75.a λlT=>
 deref (some (lT.add (Int.toNat bB*2))) λkP=>
 aQ [.str,(.int .i64)] kP λ(t81:ByteArray×Int)=>
 nw (.cells #[(.string (⟨#[]⟩:ByteArray)),(.int .i64 0)] 64) λsK=>
 deref (some ⟨sK,0,none⟩) λlg=>
 st (lg.add 0) (.string t81.1)<|
 st (lg.add 1) (.int .i64 t81.2)<|
 jE<|
 deref (some ⟨r_2,0,none⟩) λlU=>
 deref (some (lU.add 1)) λlV=>
 au .slice lV λ(t83:Sl)=>
 deref (some ⟨sK,0,none⟩) λlW=>
 deref (some (lW.add 1)) λlX=>
 au (.int .i64) lX λ(t87:Int)=>
 aP ((0:Int)<=t87/\t87<(t19.len:Int))<|
 deref t19.a λlY=>
 deref (some (lY.add (Int.toNat t87*1))) λm9=>
 au (.int .i64) m9 λ(t89:Int)=>
 aP ((0:Int)<=bB/\bB<(t83.len:Int))<|
 deref t83.a λn6=>
 deref (some (n6.add (Int.toNat bB*2))) λn7=>
 deref (some (n7.add 1)) λgb=>
 st gb (.int .i64 t89)<|
 FI ((IntKind.wrap .i64 (bB+1)))) (
 deref (some ⟨r_2,0,none⟩) λgV=>
 aQ [.slice,.slice] gV λ(t93:Sl×Sl)=>
 deref (some ⟨r_1,0,none⟩) λoT=>
 st (oT.add 0) (.slice t93.1.a t93.1.len t93.1.cap)<|
 st (oT.add 1) (.slice t93.2.a t93.2.len t93.2.cap)<|
 deref (some ⟨r_1,0,none⟩) λqQ=>
 aQ [.slice,.slice] qQ λ(res:Sl×Sl)=>
 Q ((res.1,res.2)))) 0)) 0)) 0
theorem Bq(aD:Sl)(az:Sl)(p1:Sl)(Q:Sl×Sl->Pr)(w:World)(h:U7 aD az p1 Q w):Calls Pq 56 #[(.agg #[(slV aD),(slV az)]),(slV p1)] w (aC [.agg [.slice,.slice]] Q):=cF (an:=Tn) Tryz.func56 (by kernel_rfl) h
def To:An:=(.sq .z (.sq .z (.sq (.sq .z (.bl (.lp [(5,.c (.int .i64)),(6,.c (.int .i64))] (.sq (.sq .z (.br .z .z)) (.sq (.bl .z) .z))))) (.sq .z (.sq (.sq .z (.bl (.lp [(8,.c (.int .i64))] (.sq (.sq (.jn [(39,.c .bool)] .z) (.br .z .z)) (.sq (.jn [] (.bl (.sq (.sq .z (.br .z .z)) (.sq (.jn [(9,.c .ptr)] .z) (.sq (.sq .z (.bl (.lp [(10,.c (.int .i64))] (.sq (.sq .z (.br .z .z)) (.sq (.bl (.sq .z (.sq (.jn [(11,.c (.int .i64))] (.sq .z (.br .z .z))) .z))) .z))))) .z))))) .z))))) (.sq (.sq .z (.bl (.lp [(12,.c (.int .i64))] (.sq (.sq .z (.br .z .z)) (.sq (.bl .z) .z))))) (.sq .z .z)))))))
def Va(aD:Sl)(az:Sl)(p1:Sl)(Q:Sl×Sl->Pr):Pr:=
 nw (.cells #[(.slice aD.a aD.len aD.cap),(.slice az.a az.len az.cap)] 32) λr=>
 nw (.cells #[(.slice none 0 0),(.slice none 0 0)] 32) λr_1=>
 aM (S:=Int×Int) (λX s=>
 br (decide (s.2<(p1.len:Int))) (
 aP ((0:Int)<=s.2/\s.2<(p1.len:Int))<|
 deref p1.a λa=>
 deref (some (a.add (Int.toNat s.2*1))) λa_1=>
 au (.int .i64) a_1 λ(t23:Int)=>
 X ((imax s.1 (IntKind.wrap .i64 (t23+1))),(IntKind.wrap .i64 (s.2+1)))) (
 AQ 62 56 [(.int .i64 0),(.slice none 0 0),(.slice none 0 0)] s.1 s.1 λt27=>
 nw (.cells #[(.slice none 0 0),(.slice none 0 0)] 32) λr_2=>
 deref (some ⟨r_2,0,none⟩) λa_2=>
 st (a_2.add 0) (.slice t27.a t27.len t27.cap)<|
 st (a_2.add 1) (.slice none 0 0)<|
 aM (S:=Int) (λjM s_1=>
 jn (S:=Bool) (λR=>
 deref (some ⟨r,0,none⟩) λbX=>
 deref (some (bX.add 0)) λc6=>
 au .slice c6 λ(t31:Sl)=>
 br (decide (s_1<(t31.len:Int))) (
 R ((decide (s_1<(p1.len:Int))))) (
 R false)) λs_2=>
 br s_2 (
 jn (S:=Unit) (λbG=>
 aP ((0:Int)<=s_1/\s_1<(p1.len:Int))<|
 deref p1.a λc7=>
 deref (some (c7.add (Int.toNat s_1*1))) λcV=>
 au (.int .i64) cV λ(t45:Int)=>
 br (decide (t45<0)) (
 bG ()) (
 jn (S:=OA) (λjN=>
 jE<|
 deref (some ⟨r,0,none⟩) λdy=>
 deref (some (dy.add 0)) λdO=>
 au .slice dO λ(t48:Sl)=>
 aP ((0:Int)<=s_1/\s_1<(t48.len:Int))<|
 deref t48.a λdP=>
 deref (some (dP.add (Int.toNat s_1*3))) λbu=>
 deref (some (bu.add 0)) λbF=>
 au (.int .i64) bF λ(t52:Int)=>
 deref (some ⟨r,0,none⟩) λbw=>
 deref (some (bw.add 0)) λbJ=>
 au .slice bJ λ(t54:Sl)=>
 aP ((0:Int)<=s_1/\s_1<(t54.len:Int))<|
 deref t54.a λbW=>
 deref (some (bW.add (Int.toNat s_1*3))) λbS=>
 deref (some (bS.add 2)) λcm=>
 au .slice cm λ(t58:Sl)=>
 both (
 app 5 1 1 [(.int .u8 0)] ⟨none,0,0⟩ t58 λt59=>
 nw (.cells #[(.int .i64 0),(.slice none 0 0),(.slice none 0 0)] 62) λr_3=>
 deref (some ⟨r_3,0,none⟩) λcx=>
 st (cx.add 0) (.int .i64 t52)<|
 st (cx.add 1) (.slice none 0 0)<|
 st (cx.add 2) (.slice t59.a t59.len t59.cap)<|
 jN ((some ⟨r_3,0,none⟩))) (
 nw (.cells #[(.int .i64 0),(.slice none 0 0),(.slice none 0 0)] 62) λnc=>
 app 5 1 1 [(.int .u8 0)] ⟨none,0,0⟩ t58 λwZ=>
 deref (some ⟨nc,0,none⟩) λcy=>
 st (cy.add 0) (.int .i64 t52)<|
 st (cy.add 1) (.slice none 0 0)<|
 st (cy.add 2) (.slice wZ.a wZ.len wZ.cap)<|
 jN ((some ⟨nc,0,none⟩)))) λbB=>
 aM (S:=Int) (λxh fB=>
 deref (some ⟨r,0,none⟩) λcz=>
 deref (some (cz.add 0)) λdz=>
 au .slice dz λ(t63:Sl)=>
 aP ((0:Int)<=s_1/\s_1<(t63.len:Int))<|
 deref t63.a λdQ=>
 deref (some (dQ.add (Int.toNat s_1*3))) λdR=>
 deref (some (dR.add 1)) λep=>
 au .slice ep λ(t67:Sl)=>
 br (decide (fB<(t67.len:Int))) (
 deref (some ⟨r,0,none⟩) λe8=>
 deref (some (e8.add 0)) λfu=>
 au .slice fu λ(t73:Sl)=>
 aP ((0:Int)<=s_1/\s_1<(t73.len:Int))<|
 deref t73.a λfy=>
 deref (some (fy.add (Int.toNat s_1*3))) λfZ=>
 deref (some (fZ.add 1)) λfA=>
 au .slice fA λ(t77:Sl)=>
 aP ((0:Int)<=fB/\fB<(t77.len:Int))<|
 deref t77.a λgq=>
 deref (some (gq.add (Int.toNat fB*1))) λiA=>
 au (.int .i64) iA λ(t80:Int)=>
 jn (S:=Int) (λvk=>
 br (decide (t80>=0)) (
 aP ((0:Int)<=t80/\t80<(p1.len:Int))<|
 deref p1.a λjO=>
 deref (some (jO.add (Int.toNat t80*1))) λkO=>
 au (.int .i64) kO λ(t86:Int)=>
 vk t86) (
 vk t80)) λPa=>
 deref bB λlT=>
 deref (some (lT.add 1)) λkP=>
 au .slice kP λ(t88:Sl)=>
 nw (.cells #[(.int .i64 Pa)] 3) λsK=>
 app 3 1 8 [(.int .i64 0)] t88 ⟨(some ⟨sK,0,none⟩),1,1⟩ λt91=>
 deref bB λlg=>
 deref (some (lg.add 1)) λlU=>
 st lU (.slice t91.a t91.len t91.cap)<|
 xh ((IntKind.wrap .i64 (fB+1)))) (
 jE<|
 deref (some ⟨r_2,0,none⟩) λlV=>
 deref (some (lV.add 0)) λlW=>
 au .slice lW λ(t94:Sl)=>
 aP ((0:Int)<=s_1/\s_1<(p1.len:Int))<|
 deref p1.a λlX=>
 deref (some (lX.add (Int.toNat s_1*1))) λlY=>
 au (.int .i64) lY λ(t98:Int)=>
 deref bB λm9=>
 aQ [(.int .i64),.slice,.slice] m9 λ(t99:Int×Sl×Sl)=>
 aP ((0:Int)<=t98/\t98<(t94.len:Int))<|
 deref t94.a λn6=>
 deref (some (n6.add (Int.toNat t98*3))) λn7=>
 st (n7.add 0) (.int .i64 t99.1)<|
 st (n7.add 1) (.slice t99.2.1.a t99.2.1.len t99.2.1.cap)<|
 st (n7.add 2) (.slice t99.2.2.a t99.2.2.len t99.2.2.cap)<|
 bG ())) 0)) λdB=>
 jM ((IntKind.wrap .i64 (s_1+1)))) (
 aM (S:=Int) (λFI Kn=>
 deref (some ⟨r,0,none⟩) λgb=>
 deref (some (gb.add 1)) λgV=>
 au .slice gV λ(t103:Sl)=>
 br (decide (Kn<(t103.len:Int))) (
 jE<|
 deref (some ⟨r_2,0,none⟩) λoT=>
 deref (some (oT.add 1)) λqQ=>
 au .slice qQ λ(t109:Sl)=>
 deref (some ⟨r,0,none⟩) λug=>
 deref (some (ug.add 1)) λrE=>
 au .slice rE λ(t111:Sl)=>
 aP ((0:Int)<=Kn/\Kn<(t111.len:Int))<|
 deref t111.a λuh=>
 deref (some (uh.add (Int.toNat Kn*2))) λuj=>
 deref (some (uj.add 0)) λuk=>
 au .str uk λ(t115:ByteArray)=>
 deref (some ⟨r,0,none⟩) λum=>
 deref (some (um.add 1)) λqR=>
 au .slice qR λ(t118:Sl)=>
 aP ((0:Int)<=Kn/\Kn<(t118.len:Int))<|
 deref t118.a λrF=>
 deref (some (rF.add (Int.toNat Kn*2))) λuo=>
 deref (some (uo.add 1)) λzE=>
 au (.int .i64) zE λ(t122:Int)=>
 aP ((0:Int)<=t122/\t122<(p1.len:Int))<|
 deref p1.a λFD=>
 deref (some (FD.add (Int.toNat t122*1))) λFE=>
 au (.int .i64) FE λ(t124:Int)=>
 nw (.cells #[(.string t115),(.int .i64 t124)] 64) λC3=>
 app 64 2 24 [(.string (⟨#[]⟩:ByteArray)),(.int .i64 0)] t109 ⟨(some ⟨C3,0,none⟩),1,1⟩ λt127=>
 deref (some ⟨r_2,0,none⟩) λFF=>
 deref (some (FF.add 1)) λFG=>
 st FG (.slice t127.a t127.len t127.cap)<|
 FI ((IntKind.wrap .i64 (Kn+1)))) (
 deref (some ⟨r_2,0,none⟩) λFH=>
 aQ [.slice,.slice] FH λ(t129:Sl×Sl)=>
 deref (some ⟨r_1,0,none⟩) λC4=>
 st (C4.add 0) (.slice t129.1.a t129.1.len t129.1.cap)<|
 st (C4.add 1) (.slice t129.2.a t129.2.len t129.2.cap)<|
 deref (some ⟨r_1,0,none⟩) λFJ=>
 aQ [.slice,.slice] FJ λ(res:Sl×Sl)=>
 Q ((res.1,res.2)))) 0)) 0)) (0,0)
theorem Bs(aD:Sl)(az:Sl)(p1:Sl)(Q:Sl×Sl->Pr)(w:World)(h:Va aD az p1 Q w):Calls Pq 35 #[(.agg #[(slV aD),(slV az)]),(slV p1)] w (aC [.agg [.slice,.slice]] Q):=cF (an:=To) Tryz.func35 (by kernel_rfl) h
def Tp:An:=(.sq .z (.sq (.sq .z (.sq .z (.br (.sq .z .z) .z))) (.sq .z (.sq .z (.sq .z (.sq (.sq .z (.bl (.lp [(7,.c .slice),(22,.c (.int .i64))] (.sq .z (.sq (.br .z .z) (.sq (.jn [(7,.c .slice)] (.bl (.sq .z (.sq .z (.br (.sq (.jn [] .z) .z) .z))))) .z)))))) (.sq .z .z)))))))
def Vi(aD:Sl)(az:Sl)(Q:(Sl×Sl)×Int->Pr):Pr:=
 nw (.cells #[(.slice aD.a aD.len aD.cap),(.slice az.a az.len az.cap)] 32) λr=>
 nw (.cells #[(.slice none 0 0),(.slice none 0 0)] 32) λr_1=>
 deref (some ⟨r,0,none⟩) λa=>
 aQ [.slice,.slice] a λ(t10:Sl×Sl)=>
 aH Pq 85 [(.agg #[(.slice t10.1.a t10.1.len t10.1.cap),(.slice t10.2.a t10.2.len t10.2.cap)])] [.c (.int .i64)] λ(t11:Int)=>
 br (t11 !=0) (
 deref (some ⟨r_1,0,none⟩) λa_1=>
 st (a_1.add 0) (.slice none 0 0)<|
 st (a_1.add 1) (.slice none 0 0)<|
 deref (some ⟨r_1,0,none⟩) λa_2=>
 aQ [.slice,.slice] a_2 λ(res:Sl×Sl)=>
 Q ((res.1,res.2),t11)) (
 deref (some ⟨r,0,none⟩) λbX=>
 aQ [.slice,.slice] bX λ(t16:Sl×Sl)=>
 cS 86 [(.agg #[(.slice t16.1.a t16.1.len t16.1.cap),(.slice t16.2.a t16.2.len t16.2.cap)])] λt17=>
 deref (some ⟨r,0,none⟩) λc6=>
 aQ [.slice,.slice] c6 λ(t18:Sl×Sl)=>
 aH Pq 87 [(.agg #[(.slice t18.1.a t18.1.len t18.1.cap),(.slice t18.2.a t18.2.len t18.2.cap)])] [.agg [.slice,.slice]] λ(t19:Sl×Sl)=>
 nw (.cells #[(.slice none 0 0),(.slice none 0 0)] 32) λr_2=>
 deref (some ⟨r_2,0,none⟩) λc7=>
 st (c7.add 0) (.slice t19.1.a t19.1.len t19.1.cap)<|
 st (c7.add 1) (.slice t19.2.a t19.2.len t19.2.cap)<|
 aM (S:=Sl×Int) (λX s=>
 br (decide (s.2<(t17.len:Int))) (
 jn (S:=Sl) (λR=>
 aP ((0:Int)<=s.2/\s.2<(t17.len:Int))<|
 deref t17.a λcV=>
 deref (some (cV.add (Int.toNat s.2*1))) λdy=>
 au .bool dy λ(t26:Bool)=>
 br t26 (
 jn (S:=Unit) (λbG=>
 jE<|
 deref (some ⟨r_2,0,none⟩) λdO=>
 deref (some ⟨r,0,none⟩) λdP=>
 deref (some (dP.add 0)) λbu=>
 au .slice bu λ(t32:Sl)=>
 aP ((0:Int)<=s.2/\s.2<(t32.len:Int))<|
 deref t32.a λbF=>
 deref (some (bF.add (Int.toNat s.2*3))) λbw=>
 aQ [(.int .i64),.slice,.slice] bw λ(t35:Int×Sl×Sl)=>
 both (
 deref (some (dO.add 0)) λbJ=>
 au .slice bJ λ(t29:Sl)=>
 aH Pq 88 [(.agg #[(.int .i64 t35.1),(.slice t35.2.1.a t35.2.1.len t35.2.1.cap),(.slice t35.2.2.a t35.2.2.len t35.2.2.cap)]),(.slice t17.a t17.len t17.cap)] [.agg [(.int .i64),.slice,.slice]] λ(t37:Int×Sl×Sl)=>
 aP ((0:Int)<=s.2/\s.2<(t29.len:Int))<|
 deref t29.a λbW=>
 deref (some (bW.add (Int.toNat s.2*3))) λbS=>
 st (bS.add 0) (.int .i64 t37.1)<|
 st (bS.add 1) (.slice t37.2.1.a t37.2.1.len t37.2.1.cap)<|
 st (bS.add 2) (.slice t37.2.2.a t37.2.2.len t37.2.2.cap)<|
 bG ()) (
 aH Pq 88 [(.agg #[(.int .i64 t35.1),(.slice t35.2.1.a t35.2.1.len t35.2.1.cap),(.slice t35.2.2.a t35.2.2.len t35.2.2.cap)]),(.slice t17.a t17.len t17.cap)] [.agg [(.int .i64),.slice,.slice]] λ(qS:Int×Sl×Sl)=>
 deref (some (dO.add 0)) λcm=>
 au .slice cm λ(Ko:Sl)=>
 aP ((0:Int)<=s.2/\s.2<(Ko.len:Int))<|
 deref Ko.a λcx=>
 deref (some (cx.add (Int.toNat s.2*3))) λcy=>
 st (cy.add 0) (.int .i64 qS.1)<|
 st (cy.add 1) (.slice qS.2.1.a qS.2.1.len qS.2.1.cap)<|
 st (cy.add 2) (.slice qS.2.2.a qS.2.2.len qS.2.2.cap)<|
 bG ())) λs_2=>
 nw (.cells #[(.int .i64 s.2)] 3) λr_3=>
 app 3 1 8 [(.int .i64 0)] s.1 ⟨(some ⟨r_3,0,none⟩),1,1⟩ λt42=>
 R t42) (
 R s.1)) λs_1=>
 X (s_1,(IntKind.wrap .i64 (s.2+1)))) (
 deref (some ⟨r_2,0,none⟩) λcz=>
 aQ [.slice,.slice] cz λ(t44:Sl×Sl)=>
 aH Pq 56 [(.agg #[(.slice t44.1.a t44.1.len t44.1.cap),(.slice t44.2.a t44.2.len t44.2.cap)]),(.slice s.1.a s.1.len s.1.cap)] [.agg [.slice,.slice]] λ(t46:Sl×Sl)=>
 deref (some ⟨r_1,0,none⟩) λdz=>
 st (dz.add 0) (.slice t46.1.a t46.1.len t46.1.cap)<|
 st (dz.add 1) (.slice t46.2.a t46.2.len t46.2.cap)<|
 deref (some ⟨r_1,0,none⟩) λdQ=>
 aQ [.slice,.slice] dQ λ(cX:Sl×Sl)=>
 Q ((cX.1,cX.2),0))) (⟨none,0,0⟩,0))
theorem BB(aD:Sl)(az:Sl)(Q:(Sl×Sl)×Int->Pr)(w:World)(h:Vi aD az Q w):Calls Pq 43 #[(.agg #[(slV aD),(slV az)])] w (aC [.agg [.slice,.slice],.c (.int .i64)] Q):=cF (an:=Tp) Tryz.func43 (by kernel_rfl) h
def Tq:An:=(.sq .z (.sq .z (.sq (.sq .z (.br (.sq .z .z) .z)) (.sq .z (.sq .z (.sq .z (.sq (.sq .z (.bl (.lp [(8,.c (.int .i64)),(9,.c (.int .i64))] (.sq (.sq (.jn [(42,.c .bool)] .z) (.br .z .z)) (.sq (.bl (.sq .z (.sq (.jn [(8,.c (.int .i64))] (.sq .z (.br (.sq .z .z) .z))) (.sq .z (.sq .z (.bl (.lp [(11,.c (.int .i64))] (.sq (.sq .z (.br .z .z)) (.sq (.jn [] (.bl (.sq (.jn [(106,.c .bool)] .z) (.br .z .z)))) .z))))))))) .z))))) (.sq .z .z))))))))
def Vk(aD:Sl)(az:Sl)(Q:(Sl×Sl)×Int->Pr):Pr:=
 nw (.cells #[(.slice aD.a aD.len aD.cap),(.slice az.a az.len az.cap)] 32) λr=>
 nw (.cells #[(.slice none 0 0),(.slice none 0 0)] 32) λr_1=>
 deref (some ⟨r,0,none⟩) λa=>
 aQ [.slice,.slice] a λ(t13:Sl×Sl)=>
 aH Pq 70 [(.agg #[(.slice t13.1.a t13.1.len t13.1.cap),(.slice t13.2.a t13.2.len t13.2.cap)])] [.c .slice,.c (.int .i64)] λ(t14:Sl×Int)=>
 br (t14.2 !=0) (
 deref (some ⟨r_1,0,none⟩) λa_1=>
 st (a_1.add 0) (.slice none 0 0)<|
 st (a_1.add 1) (.slice none 0 0)<|
 deref (some ⟨r_1,0,none⟩) λa_2=>
 aQ [.slice,.slice] a_2 λ(res:Sl×Sl)=>
 Q ((res.1,res.2),t14.2)) (
 deref (some ⟨r,0,none⟩) λbX=>
 aQ [.slice,.slice] bX λ(t21:Sl×Sl)=>
 aH Pq 71 [(.agg #[(.slice t21.1.a t21.1.len t21.1.cap),(.slice t21.2.a t21.2.len t21.2.cap)])] [.agg [.slice,.slice]] λ(t22:Sl×Sl)=>
 nw (.cells #[(.slice none 0 0),(.slice none 0 0)] 32) λr_2=>
 deref (some ⟨r_2,0,none⟩) λc6=>
 st (c6.add 0) (.slice t22.1.a t22.1.len t22.1.cap)<|
 st (c6.add 1) (.slice t22.2.a t22.2.len t22.2.cap)<|
 AQ 3 8 [(.int .i64 0)] (t14.1.len:Int) (t14.1.len:Int) λt25=>
 aM (S:=Int×Int) (λX s=>
 jn (S:=Bool) (λR=>
 br (decide (s.2<(t14.1.len:Int))) (
 deref (some ⟨r_2,0,none⟩) λc7=>
 deref (some (c7.add 0)) λcV=>
 au .slice cV λ(t33:Sl)=>
 br (decide (s.2<(t33.len:Int))) (
 R ((decide (s.2<(t25.len:Int))))) (
 R false)) (
 R false)) λs_1=>
 br s_1 (
 aP ((0:Int)<=s.2/\s.2<(t25.len:Int))<|
 deref t25.a λdy=>
 deref (some (dy.add (Int.toNat s.2*1))) λdO=>
 st dO (.int .i64 (-1))<|
 jn (S:=Int) (λbG=>
 aP ((0:Int)<=s.2/\s.2<(t14.1.len:Int))<|
 deref t14.1.a λdP=>
 deref (some (dP.add (Int.toNat s.2*1))) λbu=>
 au .bool bu λ(t51:Bool)=>
 br t51 (
 aP ((0:Int)<=s.2/\s.2<(t25.len:Int))<|
 deref t25.a λbF=>
 deref (some (bF.add (Int.toNat s.2*1))) λbw=>
 st bw (.int .i64 s.1)<|
 bG ((IntKind.wrap .i64 (s.1+1)))) (
 bG s.1)) λs_2=>
 deref (some ⟨r_2,0,none⟩) λbJ=>
 deref (some (bJ.add 0)) λbW=>
 au .slice bW λ(t59:Sl)=>
 aP ((0:Int)<=s.2/\s.2<(t59.len:Int))<|
 deref t59.a λbS=>
 deref (some (bS.add (Int.toNat s.2*3))) λcm=>
 aQ [(.int .i64),.slice,.slice] cm λ(t62:Int×Sl×Sl)=>
 nw (.cells #[(.int .i64 0),(.slice none 0 0),(.slice none 0 0)] 62) λr_3=>
 deref (some ⟨r_3,0,none⟩) λcx=>
 st (cx.add 0) (.int .i64 t62.1)<|
 st (cx.add 1) (.slice t62.2.1.a t62.2.1.len t62.2.1.cap)<|
 st (cx.add 2) (.slice t62.2.2.a t62.2.2.len t62.2.2.cap)<|
 aM (S:=Int) (λjM dB=>
 deref (some ⟨r_3,0,none⟩) λcy=>
 deref (some (cy.add 1)) λcz=>
 au .slice cz λ(t65:Sl)=>
 br (decide (dB<(t65.len:Int))) (
 jn (S:=Unit) (λjN=>
 jn (S:=Bool) (λvk=>
 deref (some ⟨r_3,0,none⟩) λdz=>
 deref (some (dz.add 0)) λdQ=>
 au (.int .i64) dQ λ(t71:Int)=>
 br (t71==3) (
 deref (some ⟨r,0,none⟩) λdR=>
 deref (some (dR.add 0)) λep=>
 au .slice ep λ(t75:Sl)=>
 aP ((0:Int)<=s.2/\s.2<(t75.len:Int))<|
 deref t75.a λe8=>
 deref (some (e8.add (Int.toNat s.2*3))) λfu=>
 aQ [(.int .i64),.slice,.slice] fu λ(t78:Int×Sl×Sl)=>
 cB 72 [(.agg #[(.int .i64 t78.1),(.slice t78.2.1.a t78.2.1.len t78.2.1.cap),(.slice t78.2.2.a t78.2.2.len t78.2.2.cap)]),(.slice t14.1.a t14.1.len t14.1.cap)] λt80=>
 br (!t80) (
 vk true) (
 deref (some ⟨r_3,0,none⟩) λfy=>
 deref (some (fy.add 0)) λfZ=>
 au (.int .i64) fZ λ(t85:Int)=>
 br (t85==2) (
 deref (some ⟨r_3,0,none⟩) λfA=>
 deref (some (fA.add 1)) λgq=>
 au .slice gq λ(t89:Sl)=>
 aP ((0:Int)<=dB/\dB<(t89.len:Int))<|
 deref t89.a λiA=>
 deref (some (iA.add (Int.toNat dB*1))) λjO=>
 au (.int .i64) jO λ(t92:Int)=>
 br (decide (t92>=0)) (
 deref (some ⟨r_3,0,none⟩) λkO=>
 deref (some (kO.add 1)) λlT=>
 au .slice lT λ(t98:Sl)=>
 aP ((0:Int)<=dB/\dB<(t98.len:Int))<|
 deref t98.a λkP=>
 deref (some (kP.add (Int.toNat dB*1))) λlg=>
 au (.int .i64) lg λ(t101:Int)=>
 aP ((0:Int)<=t101/\t101<(t14.1.len:Int))<|
 deref t14.1.a λlU=>
 deref (some (lU.add (Int.toNat t101*1))) λlV=>
 au .bool lV λ(t103:Bool)=>
 vk (!t103)) (
 vk false)) (
 vk false))) (
 deref (some ⟨r_3,0,none⟩) λlW=>
 deref (some (lW.add 0)) λlX=>
 au (.int .i64) lX λ(Ph:Int)=>
 br (Ph==2) (
 deref (some ⟨r_3,0,none⟩) λlY=>
 deref (some (lY.add 1)) λm9=>
 au .slice m9 λ(Kq:Sl)=>
 aP ((0:Int)<=dB/\dB<(Kq.len:Int))<|
 deref Kq.a λn6=>
 deref (some (n6.add (Int.toNat dB*1))) λn7=>
 au (.int .i64) n7 λ(Pj:Int)=>
 br (decide (Pj>=0)) (
 deref (some ⟨r_3,0,none⟩) λgb=>
 deref (some (gb.add 1)) λgV=>
 au .slice gV λ(Kr:Sl)=>
 aP ((0:Int)<=dB/\dB<(Kr.len:Int))<|
 deref Kr.a λoT=>
 deref (some (oT.add (Int.toNat dB*1))) λqQ=>
 au (.int .i64) qQ λ(zF:Int)=>
 aP ((0:Int)<=zF/\zF<(t14.1.len:Int))<|
 deref t14.1.a λug=>
 deref (some (ug.add (Int.toNat zF*1))) λrE=>
 au .bool rE λ(Mj:Bool)=>
 vk (!Mj)) (
 vk false)) (
 vk false))) λfB=>
 br fB (
 deref (some ⟨r_3,0,none⟩) λuh=>
 deref (some (uh.add 1)) λuj=>
 au .slice uj λ(t108:Sl)=>
 aP ((0:Int)<=dB/\dB<(t108.len:Int))<|
 deref t108.a λuk=>
 deref (some (uk.add (Int.toNat dB*1))) λum=>
 st um (.int .i64 (-1))<|
 jN ()) (
 jN ())) λbB=>
 jM ((IntKind.wrap .i64 (dB+1)))) (
 X (s_2,(IntKind.wrap .i64 (s.2+1))))) 0) (
 deref (some ⟨r_2,0,none⟩) λqR=>
 aQ [.slice,.slice] qR λ(t111:Sl×Sl)=>
 aH Pq 35 [(.agg #[(.slice t111.1.a t111.1.len t111.1.cap),(.slice t111.2.a t111.2.len t111.2.cap)]),(.slice t25.a t25.len t25.cap)] [.agg [.slice,.slice]] λ(t113:Sl×Sl)=>
 deref (some ⟨r_1,0,none⟩) λrF=>
 st (rF.add 0) (.slice t113.1.a t113.1.len t113.1.cap)<|
 st (rF.add 1) (.slice t113.2.a t113.2.len t113.2.cap)<|
 deref (some ⟨r_1,0,none⟩) λuo=>
 aQ [.slice,.slice] uo λ(cX:Sl×Sl)=>
 Q ((cX.1,cX.2),0))) (0,0))
theorem BE(aD:Sl)(az:Sl)(Q:(Sl×Sl)×Int->Pr)(w:World)(h:Vk aD az Q w):Calls Pq 33 #[(.agg #[(slV aD),(slV az)])] w (aC [.agg [.slice,.slice],.c (.int .i64)] Q):=cF (an:=Tq) Tryz.func33 (by kernel_rfl) h
def Tr:An:=(.sq .z (.sq .z (.sq (.sq .z (.br (.sq .z .z) .z)) (.sq .z (.sq .z (.sq .z (.sq (.sq .z (.bl (.lp [(31,.c (.int .i64))] (.sq .z (.sq (.br .z .z) (.sq (.bl (.sq .z .z)) .z)))))) (.sq (.sq .z (.bl (.lp [(11,.c (.int .i64))] (.sq (.sq .z (.br .z .z)) (.sq (.bl (.sq .z (.bl (.lp [(56,.c (.int .i64))] (.sq .z (.sq (.br .z .z) (.sq (.bl (.sq .z .z)) .z))))))) .z))))) (.sq .z .z)))))))))
def Vo(aD:Sl)(az:Sl)(Q:(Sl×Sl)×Int->Pr):Pr:=
 nw (.cells #[(.slice aD.a aD.len aD.cap),(.slice az.a az.len az.cap)] 32) λr=>
 nw (.cells #[(.slice none 0 0),(.slice none 0 0)] 32) λr_1=>
 deref (some ⟨r,0,none⟩) λa=>
 aQ [.slice,.slice] a λ(t15:Sl×Sl)=>
 aH Pq 43 [(.agg #[(.slice t15.1.a t15.1.len t15.1.cap),(.slice t15.2.a t15.2.len t15.2.cap)])] [.agg [.slice,.slice],.c (.int .i64)] λ(t16:(Sl×Sl)×Int)=>
 nw (.cells #[(.slice none 0 0),(.slice none 0 0)] 32) λr_2=>
 deref (some ⟨r_2,0,none⟩) λa_1=>
 st (a_1.add 0) (.slice t16.1.1.a t16.1.1.len t16.1.1.cap)<|
 st (a_1.add 1) (.slice t16.1.2.a t16.1.2.len t16.1.2.cap)<|
 br (t16.2 !=0) (
 deref (some ⟨r_2,0,none⟩) λa_2=>
 aQ [.slice,.slice] a_2 λ(t21:Sl×Sl)=>
 deref (some ⟨r_1,0,none⟩) λbX=>
 st (bX.add 0) (.slice t21.1.a t21.1.len t21.1.cap)<|
 st (bX.add 1) (.slice t21.2.a t21.2.len t21.2.cap)<|
 deref (some ⟨r_1,0,none⟩) λc6=>
 aQ [.slice,.slice] c6 λ(res:Sl×Sl)=>
 Q ((res.1,res.2),t16.2)) (
 deref (some ⟨r_2,0,none⟩) λc7=>
 deref (some (c7.add 0)) λcV=>
 au .slice cV λ(t24:Sl)=>
 AQ 4 1 [(.bool false)] (t24.len:Int) (t24.len:Int) λt26=>
 aP (aK (.slice none 0 0))<|nw (.cells #[(.slice none 0 0)] 108) λr_3=>
 deref (some ⟨r_3,0,none⟩) λdy=>
 st dy (.slice t26.a t26.len t26.cap)<|
 aP (aK (.slice none 0 0))<|nw (.cells #[(.slice none 0 0)] 60) λnc=>
 deref (some ⟨r_2,0,none⟩) λdO=>
 deref (some (dO.add 1)) λdP=>
 au .slice dP λ(t29:Sl)=>
 aM (S:=Int) (λX s=>
 br (decide (s<(t29.len:Int))) (
 aP ((0:Int)<=s/\s<(t29.len:Int))<|
 deref t29.a λbu=>
 deref (some (bu.add (Int.toNat s*2))) λbF=>
 aQ [.str,(.int .i64)] bF λ(t34:ByteArray×Int)=>
 nw (.cells #[(.string (⟨#[]⟩:ByteArray)),(.int .i64 0)] 64) λsK=>
 deref (some ⟨sK,0,none⟩) λbw=>
 st (bw.add 0) (.string t34.1)<|
 st (bw.add 1) (.int .i64 t34.2)<|
 deref (some ⟨sK,0,none⟩) λbJ=>
 deref (some (bJ.add 1)) λbW=>
 au (.int .i64) bW λ(t37:Int)=>
 cE Pq (.func (.func 55) #[] #[(.pointer (some ⟨r_3,0,none⟩)),(.pointer (some ⟨nc,0,none⟩))]) [(.int .i64 t37)] [] λ(t38:Unit)=>
 X ((IntKind.wrap .i64 (s+1)))) (
 aM (S:=Int) (λjM s_1=>
 deref (some ⟨nc,0,none⟩) λbS=>
 au .slice bS λ(t41:Sl)=>
 br (decide (s_1<(t41.len:Int))) (
 jE<|
 deref (some ⟨r_2,0,none⟩) λcm=>
 deref (some (cm.add 0)) λcx=>
 au .slice cx λ(t47:Sl)=>
 deref (some ⟨nc,0,none⟩) λcy=>
 au .slice cy λ(t48:Sl)=>
 aP ((0:Int)<=s_1/\s_1<(t48.len:Int))<|
 deref t48.a λcz=>
 deref (some (cz.add (Int.toNat s_1*1))) λdz=>
 au (.int .i64) dz λ(t51:Int)=>
 aP ((0:Int)<=t51/\t51<(t47.len:Int))<|
 deref t47.a λdQ=>
 deref (some (dQ.add (Int.toNat t51*3))) λdR=>
 deref (some (dR.add 1)) λep=>
 au .slice ep λ(t54:Sl)=>
 aM (S:=Int) (λxh s_2=>
 br (decide (s_2<(t54.len:Int))) (
 aP ((0:Int)<=s_2/\s_2<(t54.len:Int))<|
 deref t54.a λe8=>
 deref (some (e8.add (Int.toNat s_2*1))) λfu=>
 au (.int .i64) fu λ(t59:Int)=>
 cE Pq (.func (.func 55) #[] #[(.pointer (some ⟨r_3,0,none⟩)),(.pointer (some ⟨nc,0,none⟩))]) [(.int .i64 t59)] [] λ(t62:Unit)=>
 xh ((IntKind.wrap .i64 (s_2+1)))) (
 jM ((IntKind.wrap .i64 (s_1+1))))) 0) (
 deref (some ⟨r_2,0,none⟩) λfy=>
 aQ [.slice,.slice] fy λ(t64:Sl×Sl)=>
 deref (some ⟨nc,0,none⟩) λfZ=>
 au .slice fZ λ(t65:Sl)=>
 aH Pq 56 [(.agg #[(.slice t64.1.a t64.1.len t64.1.cap),(.slice t64.2.a t64.2.len t64.2.cap)]),(.slice t65.a t65.len t65.cap)] [.agg [.slice,.slice]] λ(t66:Sl×Sl)=>
 deref (some ⟨r_1,0,none⟩) λfA=>
 st (fA.add 0) (.slice t66.1.a t66.1.len t66.1.cap)<|
 st (fA.add 1) (.slice t66.2.a t66.2.len t66.2.cap)<|
 deref (some ⟨r_1,0,none⟩) λgq=>
 aQ [.slice,.slice] gq λ(cX:Sl×Sl)=>
 Q ((cX.1,cX.2),0))) 0)) 0)
theorem BF(aD:Sl)(az:Sl)(Q:(Sl×Sl)×Int->Pr)(w:World)(h:Vo aD az Q w):Calls Pq 21 #[(.agg #[(slV aD),(slV az)])] w (aC [.agg [.slice,.slice],.c (.int .i64)] Q):=cF (an:=Tr) Tryz.func21 (by kernel_rfl) h
def Ts:An:=(.sq .z (.sq .z (.sq (.sq .z (.br (.sq .z .z) .z)) (.sq .z (.sq (.sq .z (.bl (.lp [(7,.c (.int .i64))] (.sq (.sq .z (.br .z .z)) (.sq (.bl .z) .z))))) (.sq .z (.sq (.sq .z (.bl (.lp [(8,.c .slice),(9,.c (.int .i64))] (.sq (.sq .z (.br .z .z)) (.sq (.bl .z) .z))))) (.sq (.sq .z (.bl (.lp [(8,.c .slice),(10,.c (.int .i64))] (.sq (.sq .z (.br .z .z)) (.sq (.bl (.sq .z (.sq .z (.bl (.lp [(8,.c .slice),(12,.c (.int .i64))] (.sq (.sq .z (.br .z .z)) (.sq (.bl .z) .z))))))) .z))))) (.sq .z .z)))))))))
def Vq(aD:Sl)(az:Sl)(Q:(Sl×Sl)×Int->Pr):Pr:=
 nw (.cells #[(.slice aD.a aD.len aD.cap),(.slice az.a az.len az.cap)] 32) λr=>
 nw (.cells #[(.slice none 0 0),(.slice none 0 0)] 32) λr_1=>
 deref (some ⟨r,0,none⟩) λa=>
 aQ [.slice,.slice] a λ(t14:Sl×Sl)=>
 aH Pq 33 [(.agg #[(.slice t14.1.a t14.1.len t14.1.cap),(.slice t14.2.a t14.2.len t14.2.cap)])] [.agg [.slice,.slice],.c (.int .i64)] λ(t15:(Sl×Sl)×Int)=>
 nw (.cells #[(.slice none 0 0),(.slice none 0 0)] 32) λr_2=>
 deref (some ⟨r_2,0,none⟩) λa_1=>
 st (a_1.add 0) (.slice t15.1.1.a t15.1.1.len t15.1.1.cap)<|
 st (a_1.add 1) (.slice t15.1.2.a t15.1.2.len t15.1.2.cap)<|
 br (t15.2 !=0) (
 deref (some ⟨r_1,0,none⟩) λa_2=>
 st (a_2.add 0) (.slice none 0 0)<|
 st (a_2.add 1) (.slice none 0 0)<|
 deref (some ⟨r_1,0,none⟩) λbX=>
 aQ [.slice,.slice] bX λ(res:Sl×Sl)=>
 Q ((res.1,res.2),t15.2)) (
 deref (some ⟨r_2,0,none⟩) λc6=>
 deref (some (c6.add 0)) λc7=>
 au .slice c7 λ(t23:Sl)=>
 AQ 3 8 [(.int .i64 0)] (t23.len:Int) (t23.len:Int) λt25=>
 aM (S:=Int) (λX s=>
 br (decide (s<(t25.len:Int))) (
 aP ((0:Int)<=s/\s<(t25.len:Int))<|
 deref t25.a λcV=>
 deref (some (cV.add (Int.toNat s*1))) λdy=>
 st dy (.int .i64 (-1))<|
 X ((IntKind.wrap .i64 (s+1)))) (
 aM (S:=Sl×Int) (λjM s_1=>
 deref (some ⟨r_2,0,none⟩) λdO=>
 deref (some (dO.add 1)) λdP=>
 au .slice dP λ(t37:Sl)=>
 br (decide (s_1.2<(t37.len:Int))) (
 deref (some ⟨r_2,0,none⟩) λbu=>
 deref (some (bu.add 1)) λbF=>
 au .slice bF λ(t45:Sl)=>
 aP ((0:Int)<=s_1.2/\s_1.2<(t45.len:Int))<|
 deref t45.a λbw=>
 deref (some (bw.add (Int.toNat s_1.2*2))) λbJ=>
 deref (some (bJ.add 1)) λbW=>
 au (.int .i64) bW λ(t49:Int)=>
 cS 34 [(.slice t25.a t25.len t25.cap),(.slice s_1.1.a s_1.1.len s_1.1.cap),(.int .i64 t49)] λt50=>
 jM (t50,(IntKind.wrap .i64 (s_1.2+1)))) (
 aM (S:=Sl×Int) (λxh s_2=>
 br (decide (s_2.2<(s_2.1.len:Int))) (
 jE<|
 deref (some ⟨r_2,0,none⟩) λbS=>
 deref (some (bS.add 0)) λcm=>
 au .slice cm λ(t58:Sl)=>
 aP ((0:Int)<=s_2.2/\s_2.2<(s_2.1.len:Int))<|
 deref s_2.1.a λcx=>
 deref (some (cx.add (Int.toNat s_2.2*1))) λcy=>
 au (.int .i64) cy λ(t62:Int)=>
 aP ((0:Int)<=t62/\t62<(t58.len:Int))<|
 deref t58.a λcz=>
 deref (some (cz.add (Int.toNat t62*3))) λdz=>
 aQ [(.int .i64),.slice,.slice] dz λ(t64:Int×Sl×Sl)=>
 nw (.cells #[(.int .i64 0),(.slice none 0 0),(.slice none 0 0)] 62) λr_3=>
 deref (some ⟨r_3,0,none⟩) λdQ=>
 st (dQ.add 0) (.int .i64 t64.1)<|
 st (dQ.add 1) (.slice t64.2.1.a t64.2.1.len t64.2.1.cap)<|
 st (dQ.add 2) (.slice t64.2.2.a t64.2.2.len t64.2.2.cap)<|
 aM (S:=Sl×Int) (λFI dB=>
 deref (some ⟨r_3,0,none⟩) λdR=>
 deref (some (dR.add 1)) λep=>
 au .slice ep λ(t67:Sl)=>
 br (decide (dB.2<(t67.len:Int))) (
 deref (some ⟨r_3,0,none⟩) λe8=>
 deref (some (e8.add 1)) λfu=>
 au .slice fu λ(t75:Sl)=>
 aP ((0:Int)<=dB.2/\dB.2<(t75.len:Int))<|
 deref t75.a λfy=>
 deref (some (fy.add (Int.toNat dB.2*1))) λfZ=>
 au (.int .i64) fZ λ(t78:Int)=>
 cS 34 [(.slice t25.a t25.len t25.cap),(.slice dB.1.a dB.1.len dB.1.cap),(.int .i64 t78)] λt79=>
 FI (t79,(IntKind.wrap .i64 (dB.2+1)))) (
 xh (dB.1,(IntKind.wrap .i64 (s_2.2+1))))) (s_2.1,0)) (
 deref (some ⟨r_2,0,none⟩) λfA=>
 aQ [.slice,.slice] fA λ(t80:Sl×Sl)=>
 aH Pq 35 [(.agg #[(.slice t80.1.a t80.1.len t80.1.cap),(.slice t80.2.a t80.2.len t80.2.cap)]),(.slice t25.a t25.len t25.cap)] [.agg [.slice,.slice]] λ(t82:Sl×Sl)=>
 deref (some ⟨r_1,0,none⟩) λgq=>
 st (gq.add 0) (.slice t82.1.a t82.1.len t82.1.cap)<|
 st (gq.add 1) (.slice t82.2.a t82.2.len t82.2.cap)<|
 deref (some ⟨r_1,0,none⟩) λiA=>
 aQ [.slice,.slice] iA λ(cX:Sl×Sl)=>
 Q ((cX.1,cX.2),0))) (s_1.1,0))) (⟨none,0,0⟩,0))) 0)
theorem BH(aD:Sl)(az:Sl)(Q:(Sl×Sl)×Int->Pr)(w:World)(h:Vq aD az Q w):Calls Pq 14 #[(.agg #[(slV aD),(slV az)])] w (aC [.agg [.slice,.slice],.c (.int .i64)] Q):=cF (an:=Ts) Tryz.func14 (by kernel_rfl) h
set_option maxRecDepth 20000
theorem Xb.at{F0:Nat->Prop}{w0 w:World}{L:List HA}{q:Sl}{ys:List RM}{i:Nat}{y:RM}{k:ByteArray×Int->Pr}(h:St F0 w0 w (aq 2 q (ys.flatMap ay)::L))(hi:ys[i]? =some y)(hk:k (bytesOf y.1,y.2) w):
 (deref q.a λa=>aQ [.str,.int .i64] (a.add (i*2)) k) w:=by
 have hs:SS ay w q ys:=bz.ss bT (by decide) (St.sl h);obtain⟨ad,ha,hr⟩:=hs.get (n:=2) bT hi (by decide);rw[ha,ag];exact nC (p:=(bytesOf y.1,y.2)) (show cc w _ 0 (j0 [.str,.int .i64] (bytesOf y.1,y.2))from aF.2 hr) hk
theorem fN{g:GS}{x:Int}(h:x.toNat<g.xs.length):nodeAt g.m x=g.xs[x.toNat].m:=by
 unfold nodeAt;simp[GS.m,h]
def Xc(T:List Int)(l:List Int):Prop:=∀p∈l,T[p.toNat]? =some (dK l p:Int)
theorem U6(g:GS)(ls:Sl)(list:List Int)(w:World)(hg:RG w aA g)(hl:IS w ls list)(hn:gF g.m list):
 Calls Pq 56 #[g.v,slV ls] w (aC [.agg [.slice,.slice]] λr w'=>Be (eO g.m list) w r w'):=by
 refine Bq g.gn g.gr ls _ _ ?_;unfold U7;simp only[ag];have gy:=hg.nl;have hrl:=hg.rl;have hn2:=hg.sm.nl;have xK:=hg.sm.rl;have hml:g.m.n.length=g.xs.length:=by simp[GS.m]
 have xq:=hl.len;have hle:=hn.le;rw[hml]at hle;refine St.nw (St.bp w) λr w1 s1 _ _=>St.nw s1 λr1 w2 s2 _ _=>?_;refine(s2.af 1).ld (i:=0) (s:=.slice) (p:=g.gn) rfl ?_;refine s2.vp g.xs.length (by omega) rfl (by omega) (by omega) λto w3 s3 kq=>?_;rw[lB]at s3;have s3:St aA w w3 [aq 1 to ((List.replicate g.xs.length (0:Int)).map iv),aa r1 [.slice none 0 0,.slice none 0 0],aa r [slV g.gn,slV g.gr]]:=by
  rw[List.map_replicate];exact s3
 refine aB (λz W=>∃(i:Nat) (T:List Int),z=i/\i<=list.length/\T.length=g.xs.length/\(∀(j:Nat) p,j<i->list[j]? =some p->T[p.toNat]? =some (j:Int))/\St aA w W [aq 1 to (T.map iv),aa r1 [.slice none 0 0,.slice none 0 0],aa r [slV g.gn,slV g.gr]])
  (λz _=>list.length-z.toNat) ⟨0,_,rfl,by omega,by simp,λ_ _ h=>by omega,s3⟩ ?_
 rintro _ W ⟨i,T,rfl,hi,hT,Rg,sW⟩;refine ah (λhlt=>?_) λhge=>?_
 ·simp only[jb]at hlt
  have hil:i<list.length:=by omega
  refine⟨⟨by omega,by omega⟩,?_⟩;rw[jk];refine IS.at (hl.grow sW.bh) hil ?_;have hx:list[i]? =some list[i]:=by simp[hil]
  have hr:=hn.pQ _ (List.getElem_mem hil);rw[hml]at hr;refine⟨⟨hr.1,by omega⟩,?_⟩;refine ez sW (i:=list[i].toNat) (by simp;omega) trivial λW2 s4=>?_;rw[ax (by omega)];refine⟨⟨i+1,T.set list[i].toNat (i:Int),rfl,by omega,by simpa using hT,λj p hj hp=>?_,by rw[List.map_set];exact s4⟩,by omega⟩;rcases Nat.lt_or_ge j i with h|h
  ·rw[List.getElem?_set_ne]
   ·exact Rg j p h hp
   ·intro he
    have qY:=hn.pQ p (ji hp);have M5:list[i]=p:=by omega
    have h1:=mo hn.xx hp;have h2:=mo hn.xx hx;rw[M5]at h2;omega
  ·have:j=i:=by omega
   subst this;rw[hx]at hp;simp only[jg]at hp;rw[<-hp,List.getElem?_set_self (by omega)]
 simp only[ja]at hge;have Nx:Xc T list:=by
  intro p hp;have h1:=pR hp;have h2:=iW hp;exact Rg _ p (by omega) h1
 clear Rg;refine(sW.af 2).ld (i:=1) (s:=.slice) (p:=g.gr) rfl ?_;refine ak (Nn g W (hg.grow sW.bh)) λq w4 k4=>?_;have s4:=sW.aZ k4;refine St.nw s4 λr2 w5 s5 _ _=>s5.st (i:=0) (by simp) trivial λw6 s6=>s6.st (i:=1) (by simp) trivial λw7 s7=>?_;have s7:St aA w w7 [aa r2 [.slice none 0 0,slV q],aq 2 q (g.rs.flatMap ay),aq 1 to (T.map iv),aa r1 [.slice none 0 0,.slice none 0 0],aa r [slV g.gn,slV g.gr]]:=s7;refine aB (λz W=>∃(j:Nat) (t:Sl) (ys:List NS),z=j/\j<=list.length/\ys.map NS.m=(list.take j).map (λx=>ri list (nodeAt g.m x))/\ys.length=j/\
  St aA w W [aq 3 t (ys.flatMap aj),aN (ys.map aG),aa r2 [slV t,slV q],aq 2 q (g.rs.flatMap ay),aq 1 to (T.map iv),aa r1 [.slice none 0 0,.slice none 0 0],aa r [slV g.gn,slV g.gr]])
  (λz _=>list.length-z.toNat) ⟨0,⟨none,0,0⟩,[],rfl,by omega,rfl,rfl,s7.rJ.fe 3⟩ ?_
 rintro _ W ⟨j,t,ys,rfl,hj,hys,mg,sW⟩;refine ah (λhlt=>?_) λhge=>?_
 ·simp only[jb]at hlt
  have hjl:j<list.length:=by omega
  refine⟨⟨by omega,by omega⟩,?_⟩;rw[jk];refine IS.at (hl.grow sW.bh) hjl ?_;have l7:list[j]∈list:=List.getElem_mem hjl;have gz:list.take (j+1)=list.take j++[list[j]]:=by rw[List.take_add_one,jl hjl];rfl
  generalize list[j]=x at l7 gz⊢;have hr:=hn.pQ x l7;rw[hml]at hr;refine(sW.af 6).ld (i:=0) (s:=.slice) (p:=g.gn) rfl ⟨⟨hr.1,by omega⟩,?_⟩;have ko:x.toNat<g.xs.length:=by omega
  have hna:=fN ko;refine(hg.grow sW.bh).node (x:=g.xs[x.toNat]) (by simp[ko]) ?_;have xu:=hn.cl x l7;rw[hna]at xu;have fD:g.xs[x.toNat]∈g.xs:=List.getElem_mem ko;generalize g.xs[x.toNat]=y at hna xu fD⊢;have hyp:=hg.sm.pl y fD;refine ak (QY y W ((hg.grow sW.bh).rn fD)) ?_;rintro⟨k',u,v⟩ w8 ⟨hk',k8⟩;dsimp only at hk' k8;subst hk';have s8:=(sW.aZ k8).Bd;have s8:St aA w w8 [aq 1 u (y.p.map iv),aq 1 v (y.d.map ub),aq 3 t (ys.flatMap aj),aN (ys.map aG),aa r2 [slV t,slV q],aq 2 q (g.rs.flatMap ay),aq 1 to (T.map iv),aa r1 [.slice none 0 0,.slice none 0 0],aa r [slV g.gn,slV g.gr]]:=s8;refine St.nw s8 λr3 w9 s9 _ _=>s9.st (i:=0) (by simp) trivial λiF bH=>bH.st (i:=1) (by simp) trivial λoW cR=>cR.st (i:=2) (by simp) trivial λrK eH=>?_;have eH:St aA w rK [aa r3 [.int .i64 y.k,slV u,slV v],aq 1 u (y.p.map iv),aq 1 v (y.d.map ub),aq 3 t (ys.flatMap aj),aN (ys.map aG),aa r2 [slV t,slV q],aq 2 q (g.rs.flatMap ay),aq 1 to (T.map iv),aa r1 [.slice none 0 0,.slice none 0 0],aa r [slV g.gn,slV g.gr]]:=eH;refine eH.ld (i:=1) (s:=.slice) (p:=u) rfl ?_;refine aB (λz W2=>∃(k:Nat) (qs:List Int),z=k/\k<=y.p.length/\qs=(y.p.take k).map (gR list)++y.p.drop k/\
   St aA w W2 [aq 1 u (qs.map iv),aa r3 [.int .i64 y.k,slV u,slV v],aq 1 v (y.d.map ub),aq 3 t (ys.flatMap aj),aN (ys.map aG),aa r2 [slV t,slV q],aq 2 q (g.rs.flatMap ay),aq 1 to (T.map iv),aa r1 [.slice none 0 0,.slice none 0 0],aa r [slV g.gn,slV g.gr]])
   (λz _=>y.p.length-z.toNat) ⟨0,_,rfl,by omega,rfl,(show St aA w rK (aq 1 u ((([].map (gR list))++y.p).map iv)::_)from eH.af 1)⟩ ?_
  rintro _ W2 ⟨k,qs,rfl,hk,vh,iU⟩;have q8:qs.length=y.p.length:=by rw[vh];simp;omega
  have Ac:=aT iU.sl;rw[je]at Ac;refine ah (λig=>?_) λij=>?_
  ·simp only[jb]at ig
   have nt:k<y.p.length:=by omega
   have U8:qs[k]'(by omega)=y.p[k]:=by
    have h1:((y.p.take k).map (gR list)).length=k:=by simp;omega
    have h2:qs[k]? =some y.p[k]:=by
     rw[vh,List.getElem?_append_right (by omega),h1,Nat.sub_self,List.getElem?_drop,jl (by omega)];rfl
    rw[jl (by omega)]at h2;simpa using h2
   have next:(qs.set k (gR list y.p[k]))=(y.p.take (k+1)).map (gR list)++y.p.drop (k+1):=by
    have K1:((y.p.take k).map (gR list)).length=k:=by simp;omega
    rw[List.take_add_one,jl nt,jj,vh,List.drop_eq_getElem_cons nt,List.set_append_right _ _ (by omega),K1,Nat.sub_self,List.set_cons_zero];simp
   refine aL (λ_ W'=>∃Hl,Hl=(y.p.take (k+1)).map (gR list)++y.p.drop (k+1)/\
    St aA w W' [aq 1 u (Hl.map iv),aa r3 [.int .i64 y.k,slV u,slV v],aq 1 v (y.d.map ub),aq 3 t (ys.flatMap aj),aN (ys.map aG),aa r2 [slV t,slV q],aq 2 q (g.rs.flatMap ay),aq 1 to (T.map iv),aa r1 [.slice none 0 0,.slice none 0 0],aa r [slV g.gn,slV g.gr]]) ?_ ?_
   ·refine⟨⟨by omega,by omega⟩,?_⟩
    rw[jk];refine IS.at (bz.ms iU.sl) (i:=k) (by omega) ?_;rw[U8];have vo:y.p[k]∈y.p:=List.getElem_mem nt;have Ny:qs[k]? =some y.p[k]:=by rw[jl (by omega),U8]
    generalize y.p[k]=p at vo next Ny⊢
    refine ah (λh0=>?_) λh0=>⟨qs,?_,iU⟩
    ·have h0:0<=p:=by simpa using h0
     have nq:=xu p vo h0;have Nz:=Nx p nq;have qY:=hn.pQ p nq;rw[hml]at qY;rw[aR];have fJ:=iU.drew;refine(fJ.af 1).ld (i:=1) (s:=.slice) (p:=u) rfl ⟨⟨h0,by omega⟩,?_⟩;refine IS.at (l:=T) (bz.ms (fJ.af 7).sl) (i:=p.toNat) (by omega) ⟨⟨by omega,by omega⟩,?_⟩;have Ho:T[p.toNat]'(by omega)=(dK list p:Int):=by
      rw[jl (by omega)]at Nz;simpa using Nz
     rw[Ho];refine ez fJ (i:=k) (by simp;omega) trivial λW3 l6=>⟨qs.set k (dK list p:Int),?_,by rw[List.map_set];exact l6⟩;rw[<-next];unfold gR;rw[jd h0]
    ·have h0:¬0<=p:=by simpa using h0
     rw[<-next];unfold gR;rw[jc h0];exact(List.ext_getElem? λm=>by
      rw[List.getElem?_set];split
      ·rename_i he;subst he;rw[jd (by omega),Ny]
      ·rfl)
   ·rintro⟨⟩ W' ⟨Hl,Rh,s'⟩
    rw[ax (by omega)];exact⟨⟨k+1,Hl,rfl,by omega,Rh,s'⟩,by omega⟩
  ·simp only[ja]at ij
   rw[List.take_of_length_le (by omega),List.drop_of_length_le (by omega),List.append_nil]at vh;refine(iU.af 5).ld (i:=0) (s:=.slice) (p:=t) rfl ?_;refine bY.aQ (l:=[.int .i64,.slice,.slice]) (p:=(y.k,u,v)) (iU.af 1).box ?_;have fJ:St aA w W2 (aG ⟨y.k,u,qs,v,y.d⟩::_):=St.eG (xs:=[aq 1 u (qs.map iv),aq 1 v (y.d.map ub)]) (iU.bE [0,2,3,4,5] 6);refine gX (y:=⟨y.k,u,qs,v,y.d⟩) fJ (by omega) λt2 K2 l6=>?_;refine(l6.af 2).st (i:=0) (by simp) trivial λJJ vn=>?_;rw[ax (by omega)];refine⟨⟨j+1,t2,ys++[NS.mk y.k u qs v y.d],rfl,by omega,?_,by simp[mg],vn.bE [1,2,0] 3⟩,by omega⟩;rw[gz,jj,jj,hys]
   congr 1
   simp only[List.map_cons,List.map_nil]
   congr 1
   rw[hna,vh];rfl
 simp only[ja]at hge;rw[List.take_of_length_le (by omega)]at hys;refine(sW.af 2).ld (i:=1) (s:=.slice) (p:=q) rfl ?_;have xy:=(sW.af 3).sl.len;rw[DC]at xy;refine aB (λz W=>∃(i:Nat) (rs:List RM),z=i/\i<=g.rs.length/\rs=(g.rs.take i).map (λr=>(r.1,(dK list r.2:Int)))++g.rs.drop i/\
  St aA w W [aq 2 q (rs.flatMap ay),aq 3 t (ys.flatMap aj),aN (ys.map aG),aa r2 [slV t,slV q],aq 1 to (T.map iv),aa r1 [.slice none 0 0,.slice none 0 0],aa r [slV g.gn,slV g.gr]])
  (λz _=>g.rs.length-z.toNat) ⟨0,g.rs,rfl,by omega,by simp,sW.af 3⟩ ?_
 rintro _ W3 ⟨i,rs,rfl,hi,Hp,s9⟩;have Xd:rs.length=g.rs.length:=by rw[Hp];simp;omega
 refine ah (λhlt=>?_) λhge=>?_
 ·simp only[jb]at hlt
  have hil:i<g.rs.length:=by omega
  have K1:((g.rs.take i).map (λr=>(r.1,(dK list r.2:Int)))).length=i:=by simp;omega
  have iD:rs[i]? =some g.rs[i]:=by
   rw[Hp,List.getElem?_append_right (by omega),K1,Nat.sub_self,List.getElem?_drop,jl (by omega)];rfl
  have next:rs.set i (g.rs[i].1,(dK list g.rs[i].2:Int))=(g.rs.take (i+1)).map (λr=>(r.1,(dK list r.2:Int)))++g.rs.drop (i+1):=by
   rw[List.take_add_one,jl hil,jj,Hp,List.drop_eq_getElem_cons hil,List.set_append_right _ _ (by omega),K1,Nat.sub_self,List.set_cons_zero];simp
  refine⟨⟨by omega,by omega⟩,?_⟩;rw[jk];refine Xb.at s9 iD ?_;have hmem:g.rs[i]∈g.m.r:=List.getElem_mem hil;generalize g.rs[i]=rr at iD next hmem⊢
  have NA:=hn.rt rr hmem;have Nz:=Nx rr.2 NA;have qY:=hn.pQ rr.2 NA;rw[hml]at qY;refine St.nw s9 λr5 iF bH _ _=>bH.st (i:=0) (by simp) trivial λoW cR=>cR.st (i:=1) (by simp) trivial λrK eH=>?_;rw[aR];have fJ:=eH.drew;refine(fJ.af 4).ld (i:=1) (s:=.slice) (p:=q) rfl ?_;refine fJ.ld (i:=1) (s:=.int .i64) (p:=rr.2) rfl ⟨⟨qY.1,by omega⟩,?_⟩;refine IS.at (l:=T) (bz.ms (fJ.af 5).sl) (i:=rr.2.toNat) (by omega) ⟨⟨by omega,by omega⟩,?_⟩;have Ho:T[rr.2.toNat]'(by omega)=(dK list rr.2:Int):=by
   rw[jl (by omega)]at Nz;simpa using Nz
  rw[Ho];refine Br (fJ.af 1) iD λK2 l6=>?_;rw[ax (by omega)];exact⟨⟨i+1,rs.set i (rr.1,(dK list rr.2:Int)),rfl,by omega,next,l6.bE [0,2,3,4,5,6,7] 8⟩,by omega⟩
 ·simp only[ja]at hge
  rw[List.take_of_length_le (by omega),List.drop_of_length_le (by omega),List.append_nil]at Hp;refine bY.aQ (l:=[.slice,.slice]) (p:=(t,q)) (s9.af 3).box ?_;refine(s9.af 5).st (i:=0) (by simp) trivial λw3 s3=>s3.st (i:=1) (by simp) trivial λw4 s4=>?_;refine bY.aQ (l:=[.slice,.slice]) (p:=(t,q)) s4.box ?_;refine⟨⟨t,q,ys,rs⟩,rfl,rfl,?_,dG.mk ?_⟩
  ·show GG.mk (ys.map NS.m) rs=_
   rw[hys,Hp];rfl
  ·exact s4.bE [2,3,1] 7
theorem pS{α:Type}:∀{ys:List α} {k:Nat} {y:α} (z:α),ys[k]? =some y->(z::ys).Perm (y::ys.set k z)
 |[],k,y,z,h=>by simp at h
 |
  x::ys,0,y,z,h=>by
  simp only[List.getElem?_cons_zero,jg]at h;subst h;exact List.Perm.swap _ _ _
 |
  x::ys,k+1,y,z,h=>by
  rw[List.set_cons_succ];have h1:=pS z (by simpa using h:ys[k]? =some y);exact(List.Perm.swap _ _ _).trans ((h1.cons x).trans (List.Perm.swap _ _ _))
theorem rP{F0:Nat->Prop}{w0 w:World}{L:List HA}{ys:List NS}{k:Nat}{y z:NS}(h:St F0 w0 w (aG z::aN (ys.map aG)::L))(hk:ys[k]? =some y):St F0 w0 w (aN ((ys.set k z).map aG)::L):=by
 have h1:St F0 w0 w ((ys.map aG)++(aG z::L)):=(h.af 1).Bd;have h2:=h1.perm List.perm_middle;have h3:((aG z::ys.map aG)++L).Perm ((aG y::(ys.set k z).map aG)++L):=by
  refine List.Perm.append_right _ ?_;have:=(pS z hk).map aG;simpa using this
 exact St.eG (h2.perm h3).drop
abbrev NB:NS:=NS.mk 0 ⟨none,0,0⟩ [] ⟨none,0,0⟩ []
theorem xU{F0:Nat->Prop}{w0 w:World}{L:List HA}(h:St F0 w0 w L)(m:Nat):St F0 w0 w (aN ((List.replicate m NB).map aG)::L):=by
 refine St.eG ?_
 induction m with
 |zero=>exact h
 |succ m ih=>exact St.eG (xs:=[aq 1 ⟨none,0,0⟩ [],aq 1 ⟨none,0,0⟩ []]) ((ih.fe 1).fe 1)
theorem Hq(m:Nat):zc [.int .i64 0,.slice none 0 0,.slice none 0 0] m=(List.replicate m NB).flatMap aj:=by
 induction m with
 |zero=>rfl
 |succ m ih=>rw[List.replicate_succ,List.flatMap_cons,<-ih];rfl
def sY(l:List Int)(i:Nat):Int:=if(i:Int)∈l then(dK l i:Int)else-1
theorem DE{l:List Int}{p:Int}(h0:0<=p)(h:p∈l):sY l p.toNat=(dK l p:Int):=by
 unfold sY;rw[show((p.toNat:Nat):Int)=p by omega,jd h]
theorem U9(g:GS)(ts:Sl)(list T:List Int)(w:World)(hg:RG w aA g)(hl:IS w ts T)(hT:T.length=g.xs.length)(Ri:∀i (h:i<T.length),T[i]=sY list i)(hn:gF g.m list):
 Calls Pq 35 #[g.v,slV ts] w (aC [.agg [.slice,.slice]] λr w'=>Be (eO g.m list) w r w'):=by
 refine Bs g.gn g.gr ts _ _ ?_;unfold Va;simp only[ag];have gy:=hg.nl;have hrl:=hg.rl;have hn2:=hg.sm.nl;have xK:=hg.sm.rl;have hml:g.m.n.length=g.xs.length:=by simp[GS.m]
 have xq:=hl.len;have hle:=hn.le;rw[hml]at hle;have Xe:∀i (h:i<T.length),-1<=T[i]/\T[i]<list.length:=by
  intro i h;rw[Ri i h];unfold sY;split
  ·rename_i hm
   have:=iW hm;omega
  ·omega
 have Rj:∀p∈list,∃h:p.toNat<T.length,T[p.toNat]=(dK list p:Int):=by
  intro p hp;have hr:=hn.pQ p hp;rw[hml]at hr;refine⟨by omega,?_⟩;rw[Ri,DE hr.1 hp]
 refine St.nw (St.bp w) λr w1 s1 _ _=>St.nw s1 λr1 w2 s2 _ _=>?_;have s2:St aA w w2 [aa r1 [.slice none 0 0,.slice none 0 0],aa r [slV g.gn,slV g.gr]]:=s2;refine aB (λz W=>∃(i m:Nat),z=((m:Int),(i:Int))/\i<=T.length/\m<=list.length/\(∀(j:Nat) (h:j<T.length),j<i->T[j]<m)/\St aA w W [aa r1 [.slice none 0 0,.slice none 0 0],aa r [slV g.gn,slV g.gr]])
  (λz _=>T.length-z.2.toNat) ⟨0,0,rfl,by omega,by omega,λ_ _ h=>by omega,s2⟩ ?_
 rintro _ W ⟨i,m,rfl,hi,hm,Rk,sW⟩;dsimp only;refine ah (λhlt=>?_) λhge=>?_
 ·simp only[jb]at hlt
  have hil:i<T.length:=by omega
  refine⟨⟨by omega,by omega⟩,?_⟩;rw[jk];refine IS.at (hl.grow sW.bh) hil ?_;have hb:=Xe i hil;rw[wrap_i64 ⟨by omega,by omega⟩,ax (by omega)];unfold imax;refine⟨⟨i+1,(if T[i]+1>m then T[i]+1 else m:Int).toNat,?_,by omega,?_,λj hj hji=>?_,sW⟩,by omega⟩
  ·congr 1
   split<;>omega
  ·split<;>omega
  ·rcases Nat.lt_or_ge j i with h|h
   ·have:=Rk j hj h
    split<;>omega
   ·have:j=i:=by omega
    subst this;split<;>omega
 simp only[ja]at hge;have Xf:m=list.length:=by
  rcases Nat.eq_zero_or_pos list.length with h0|h0
  ·omega
  ·have hx:list[list.length-1]? =some list[list.length-1]:=jl (by omega)
   obtain⟨h1,h2⟩:=Rj list[list.length-1] (List.getElem_mem _);have h3:=Rk _ h1 (by omega);rw[h2,mo hn.xx hx]at h3;omega
 subst Xf;clear Rk;refine sW.vp list.length rfl rfl (by omega) (by omega) λq w3 s3 q8=>?_;rw[Hq]at s3;refine St.nw s3 λr2 w4 s4 _ _=>s4.st (i:=0) (by simp) trivial λw5 s5=>s5.st (i:=1) (by simp) trivial λw6 s6=>?_;have s6:St aA w w6 [aa r2 [slV q,.slice none 0 0],aq 3 q ((List.replicate list.length NB).flatMap aj),aa r1 [.slice none 0 0,.slice none 0 0],aa r [slV g.gn,slV g.gr]]:=s6;have s7:=(xU s6 list.length).af 2;have s7:St aA w w6 [aq 3 q ((List.replicate list.length NB).flatMap aj),aN ((List.replicate list.length NB).map aG),aa r2 [slV q,.slice none 0 0],aa r1 [.slice none 0 0,.slice none 0 0],aa r [slV g.gn,slV g.gr]]:=s7;refine aB (λz W=>∃(i:Nat) (ys:List NS),z=i/\i<=g.xs.length/\ys.length=list.length/\(∀(k:Nat) x,list[k]? =some x->x<i->∃y,ys[k]? =some y/\y.m=ri list (nodeAt g.m x))/\
  St aA w W [aq 3 q (ys.flatMap aj),aN (ys.map aG),aa r2 [slV q,.slice none 0 0],aa r1 [.slice none 0 0,.slice none 0 0],aa r [slV g.gn,slV g.gr]])
  (λz _=>g.xs.length-z.toNat) ⟨0,_,rfl,by omega,by simp,λk x hk hx=>?_,s7⟩ ?_
 ·have:=hn.pQ x (ji hk)
  omega
 rintro _ W ⟨i,ys,rfl,hi,mg,hys,sW⟩;refine aL (λs' W'=>s'=decide (i<g.xs.length)/\St aA w W' [aq 3 q (ys.flatMap aj),aN (ys.map aG),aa r2 [slV q,.slice none 0 0],aa r1 [.slice none 0 0,.slice none 0 0],aa r [slV g.gn,slV g.gr]]) ?_ ?_
 ·refine(sW.af 4).ld (i:=0) (s:=.slice) (p:=g.gn) rfl ?_
  refine ah (λhlt=>?_) λhge=>?_
  ·simp only[jb]at hlt
   exact⟨by rw[xq,hT,decide_eq_true (show i<g.xs.length by omega),decide_eq_true (by omega)],sW⟩
  ·simp only[ja]at hge
   exact⟨by rw[decide_eq_false (show¬i<g.xs.length by omega)],sW⟩
 rintro _ W' ⟨rfl,sW⟩;refine ah (λhlt=>?_) λhge=>?_
 ·simp only[jb]at hlt
  have Rl:i<T.length:=by omega
  refine aL (λ_ W2=>∃ys':List NS,ys'.length=list.length/\(∀(k:Nat) x,list[k]? =some x->x<i+1->∃y,ys'[k]? =some y/\y.m=ri list (nodeAt g.m x))/\
   St aA w W2 [aq 3 q (ys'.flatMap aj),aN (ys'.map aG),aa r2 [slV q,.slice none 0 0],aa r1 [.slice none 0 0,.slice none 0 0],aa r [slV g.gn,slV g.gr]]) ?_ ?_
  rotate_left
  ·rintro⟨⟩ W2 ⟨ys',h1,h2,s'⟩
   rw[ax (by omega)];exact⟨⟨i+1,ys',rfl,by omega,h1,λk x hk hx=>h2 k x hk (by omega),s'⟩,by omega⟩
  refine⟨⟨by omega,by omega⟩,?_⟩;rw[jk];refine IS.at (hl.grow sW.bh) Rl ?_;have Ho:=Ri i Rl;refine ah (λhneg=>?_) λhpos=>?_
  ·simp only[jb]at hneg
   refine⟨ys,mg,λk x hk hx=>?_,sW⟩;rcases Int.lt_or_le x i with h|h
   ·exact hys k x hk h
   ·have kT:x=i:=by omega
    exfalso;have hm:=ji hk;rw[Ho]at hneg;unfold sY at hneg;rw[jd (kT▸hm)]at hneg;omega
  simp only[ja]at hpos;have hmem:(i:Int)∈list:=by
   rw[Ho]at hpos;unfold sY at hpos;by_cases h:(i:Int)∈list
   ·exact h
   ·rw[jc h]at hpos;omega
  have Ho:T[i]=(dK list i:Int):=by rw[Ho];unfold sY;rw[jd hmem]
  have hidx:=iW hmem;have Vb:=pR hmem;have xu:=hn.cl _ hmem;have hna:nodeAt g.m (i:Int)=g.xs[i].m:=fN (x:=(i:Int)) (by simpa using hlt);rw[hna]at xu;have kT:g.xs[i]? =some g.xs[i]:=by simp[hlt]
  have fD:g.xs[i]∈g.xs:=List.getElem_mem hlt;generalize g.xs[i]=y at hna xu fD kT;have hyp:=hg.sm.pl y fD;have M6:=hg.sm.dl y fD;have Qt:∀{W2 L},St aA w W2 L->RG W2 aA g:=λs=>hg.grow s.bh;refine aL (λs' W2=>∃r3 v,s'=some ⟨r3,0,none⟩/\St aA w W2 [aa r3 [.int .i64 y.k,.slice none 0 0,slV v],aq 1 v (y.d.map ub),aq 3 q (ys.flatMap aj),aN (ys.map aG),aa r2 [slV q,.slice none 0 0],aa r1 [.slice none 0 0,.slice none 0 0],aa r [slV g.gn,slV g.gr]]) ?_ ?_
  ·rw[aR]
   have s8:=sW.drew;refine(s8.af 4).ld (i:=0) (s:=.slice) (p:=g.gn) rfl ⟨⟨by omega,by omega⟩,?_⟩;refine(Qt s8).od (j:=0) (c:=.int .i64) (p:=y.k) kT rfl ?_;refine(s8.af 4).ld (i:=0) (s:=.slice) (p:=g.gn) rfl ⟨⟨by omega,by omega⟩,?_⟩;refine(Qt s8).od (j:=2) (c:=.slice) (p:=y.ds) kT rfl ⟨?_,?_⟩
   ·refine iE s8 (((hg.bd y fD).grow s8.bh).ms.vs) (by intro v hv;obtain⟨_,_,rfl⟩:=kg.1 hv;trivial) rfl (by decide) (by decide) (by decide) (by have:=(hg.bd y fD).len;omega) λv w9 s9=>?_
    exact St.nw s9 λr3 iF bH _ _=>bH.st (i:=0) (by simp) trivial λoW cR=>cR.st (i:=1) (by simp) trivial λrK eH=>eH.st (i:=2) (by simp) trivial λq7 fJ=>⟨r3,v,rfl,fJ⟩
   ·refine St.nw s8 λr3 w9 s9 _ _=>?_
    refine iE s9 (((hg.bd y fD).grow s9.bh).ms.vs) (by intro v hv;obtain⟨_,_,rfl⟩:=kg.1 hv;trivial) rfl (by decide) (by decide) (by decide) (by have:=(hg.bd y fD).len;omega) λv iF bH=>?_;exact(bH.af 1).st (i:=0) (by simp) trivial λoW cR=>cR.st (i:=1) (by simp) trivial λrK eH=>eH.st (i:=2) (by simp) trivial λq7 fJ=>⟨r3,v,rfl,fJ⟩
  rintro _ W2 ⟨r3,v,rfl,iU⟩;simp only[ag];refine aB (λz W3=>∃(j:Nat) (u:Sl),z=j/\j<=y.p.length/\St aA w W3 [aq 1 u (((y.p.take j).map (gR list)).map iv),aa r3 [.int .i64 y.k,slV u,slV v],aq 1 v (y.d.map ub),aq 3 q (ys.flatMap aj),aN (ys.map aG),aa r2 [slV q,.slice none 0 0],aa r1 [.slice none 0 0,.slice none 0 0],aa r [slV g.gn,slV g.gr]])
   (λz _=>y.p.length-z.toNat) ⟨0,_,rfl,by omega,iU.fe 1⟩ ?_
  rintro _ W3 ⟨j,u,rfl,hj,fE⟩;refine(fE.af 7).ld (i:=0) (s:=.slice) (p:=g.gn) rfl ⟨⟨by omega,by omega⟩,?_⟩;rw[jk];refine(Qt fE).od (j:=1) (c:=.slice) (p:=y.ps) kT rfl ?_;have nq:=(hg.ip y fD).len;refine ah (λig=>?_) λij=>?_
  ·simp only[jb]at ig
   have hjl:j<y.p.length:=by omega
   refine(fE.af 7).ld (i:=0) (s:=.slice) (p:=g.gn) rfl ⟨⟨by omega,by omega⟩,?_⟩;refine(Qt fE).od (j:=1) (c:=.slice) (p:=y.ps) kT rfl ⟨⟨by omega,by omega⟩,?_⟩;refine IS.at ((hg.ip y fD).grow fE.bh) hjl ?_;have vo:y.p[j]∈y.p:=List.getElem_mem hjl;have gz:y.p.take (j+1)=y.p.take j++[y.p[j]]:=by rw[List.take_add_one,jl hjl];rfl
   generalize y.p[j]=p at vo gz⊢;refine aL (λs' W4=>s'=gR list p/\St aA w W4 [aq 1 u (((y.p.take j).map (gR list)).map iv),aa r3 [.int .i64 y.k,slV u,slV v],aq 1 v (y.d.map ub),aq 3 q (ys.flatMap aj),aN (ys.map aG),aa r2 [slV q,.slice none 0 0],aa r1 [.slice none 0 0,.slice none 0 0],aa r [slV g.gn,slV g.gr]]) ?_ ?_
   ·refine ah (λh0=>?_) λh0=>⟨?_,fE⟩
    ·have h0:0<=p:=by simpa using h0
     have DF:=xu p vo h0;obtain⟨h1,h2⟩:=Rj p DF;refine⟨⟨h0,by omega⟩,?_⟩;refine IS.at (hl.grow fE.bh) h1 ⟨?_,fE⟩;rw[h2];unfold gR;rw[jd h0]
    ·have h0:¬0<=p:=by simpa using h0
     unfold gR;rw[jc h0]
   rintro _ W4 ⟨rfl,GQ⟩;refine(GQ.af 1).ld (i:=1) (s:=.slice) (p:=u) rfl ?_;refine St.nw GQ λr5 w9 s9 _ _=>?_;refine gE s9 (by simp;omega) λu2 iF bH=>?_;refine(bH.af 2).st (i:=1) (by simp) trivial λoW cR=>?_;rw[ax (by omega)];refine⟨⟨j+1,u2,rfl,by omega,?_⟩,by omega⟩;rw[gz,jj];exact cR.bE [1,0,3,4,5,6,7,8] 9
  ·simp only[ja]at ij
   rw[List.take_of_length_le (by omega)]at fE;rw[aR];have s9:=fE.drew;refine(s9.af 5).ld (i:=0) (s:=.slice) (p:=q) rfl ⟨⟨by omega,by omega⟩,?_⟩;refine IS.at (hl.grow s9.bh) Rl ?_;refine bY.aQ (l:=[.int .i64,.slice,.slice]) (p:=(y.k,u,v)) (s9.af 1).box ?_;have Xg:(q.len:Int)=list.length:=by omega
   have bH:St aA w W3.drew [aq 1 u ((y.p.map (gR list)).map iv),aa r3 [.int .i64 y.k,slV u,slV v],aq 1 v (y.d.map ub),aq 3 q (ys.flatMap aj),aN (ys.map aG),aa r2 [slV q,.slice none 0 0],aa r1 [.slice none 0 0,.slice none 0 0],aa r [slV g.gn,slV g.gr]]:=s9;have cR:St aA w W3.drew [aG (NS.mk y.k u (y.p.map (gR list)) v y.d),aq 3 q (ys.flatMap aj),aN (ys.map aG),aa r2 [slV q,.slice none 0 0],aa r1 [.slice none 0 0,.slice none 0 0],aa r [slV g.gn,slV g.gr]]:=
    St.eG (xs:=[aq 1 u ((y.p.map (gR list)).map iv),aq 1 v (y.d.map ub)]) (bH.bE [0,2,3,4,5,6,7] 8)
   rw[Ho];refine⟨⟨by omega,by omega⟩,?_⟩;rw[jk];have M7:ys[dK list i]? =some (ys[dK list i]'(by omega)):=jl (by omega);refine vt (z:=NS.mk y.k u (y.p.map (gR list)) v y.d) (cR.af 1) M7 λrK eH=>?_;have fJ:=rP (eH.bE [1,2,0,3,4,5] 6) M7;refine⟨ys.set (dK list i) (NS.mk y.k u (y.p.map (gR list)) v y.d),by simpa using mg,λk x hk hx=>?_,fJ.af 1⟩;rcases Int.lt_or_le x i with h|h
   ·have hki:dK list i≠k:=by
     intro he;rw[he,hk]at Vb;simp only[jg]at Vb;omega
    rw[List.getElem?_set_ne hki];exact hys k x hk h
   ·have kT:x=i:=by omega
    subst kT;have:=mo hn.xx hk;rw[this,List.getElem?_set_self (by omega)];exact⟨_,rfl,by rw[hna];rfl⟩
 simp only[ja]at hge;have Rm:ys.map NS.m=list.map (λx=>ri list (nodeAt g.m x)):=by
  refine List.ext_getElem? λk=>?_;rw[jf,jf];cases hk:list[k]?with
  |
   none=>
   rw[List.getElem?_eq_none_iff]at hk;rw[List.getElem?_eq_none (by omega)];rfl
  |
   some x=>
   have hr:=hn.pQ x (ji hk);obtain⟨y,h1,h2⟩:=hys k x hk (by omega);rw[h1,Option.map_some,Option.map_some,h2]
 refine aB (λz W=>∃(j:Nat) (u:Sl),z=j/\j<=g.rs.length/\St aA w W [aq 2 u (((g.rs.take j).map (λr=>(r.1,(dK list r.2:Int)))).flatMap ay),aa r2 [slV q,slV u],aq 3 q (ys.flatMap aj),aN (ys.map aG),aa r1 [.slice none 0 0,.slice none 0 0],aa r [slV g.gn,slV g.gr]])
  (λz _=>g.rs.length-z.toNat) ⟨0,⟨none,0,0⟩,rfl,by omega,(sW.fe 2).bE [0,3,1,2,4,5] 6⟩ ?_
 rintro _ W3 ⟨j,u,rfl,hj,fE⟩;refine(fE.af 5).ld (i:=1) (s:=.slice) (p:=g.gr) rfl ?_;refine ah (λhlt=>?_) λhge=>?_
 ·simp only[jb]at hlt
  have hjl:j<g.rs.length:=by omega
  rw[aR];have s8:=fE.drew;refine(s8.af 1).ld (i:=1) (s:=.slice) (p:=u) rfl ?_;refine(s8.af 5).ld (i:=1) (s:=.slice) (p:=g.gr) rfl ⟨⟨by omega,by omega⟩,?_⟩;rw[jk];have iD:g.rs[j]? =some g.rs[j]:=by simp[hjl]
  have hmem:g.rs[j]∈g.m.r:=List.getElem_mem hjl;have gz:g.rs.take (j+1)=g.rs.take j++[g.rs[j]]:=by rw[List.take_add_one,jl hjl];rfl
  generalize g.rs[j]=rr at iD hmem gz;obtain⟨h1,h2⟩:=Rj rr.2 (hn.rt rr hmem);have Xh:=hn.pQ rr.2 (hn.rt rr hmem);refine(hg.grow s8.bh).oc (j:=0) (c:=.str) (p:=bytesOf rr.1) iD rfl ?_;refine(s8.af 5).ld (i:=1) (s:=.slice) (p:=g.gr) rfl ⟨⟨by omega,by omega⟩,?_⟩;refine(hg.grow s8.bh).oc (j:=1) (c:=.int .i64) (p:=rr.2) iD rfl ?_;refine⟨⟨by omega,by omega⟩,?_⟩;refine IS.at (hl.grow s8.bh) h1 ?_;rw[h2];refine St.nw s8 λr6 w9 s9 _ _=>?_;have Ac:=(s9.af 1).sl.len;rw[DC,je,jr]at Ac;refine(s9.af 1).app (new:=ay (rr.1,(dK list rr.2:Int))) (λ_=>rfl) (λh=>by cases h) (aF.2 s9.box.row) (by simp[aK]) rfl (by decide) (by dsimp only;omega) λu2 iF bH _=>?_;have bH:St aA w iF [aq 2 u2 (((g.rs.take j).map (λr=>(r.1,(dK list r.2:Int)))).flatMap ay++ay (rr.1,(dK list rr.2:Int))),aa r6 [.string (bytesOf rr.1),.int .i64 (dK list rr.2)],aa r2 [slV q,slV u],aq 3 q (ys.flatMap aj),aN (ys.map aG),aa r1 [.slice none 0 0,.slice none 0 0],aa r [slV g.gn,slV g.gr]]:=bH;refine(bH.af 2).st (i:=1) (by simp) trivial λoW cR=>?_;rw[ax (by omega)];refine⟨⟨j+1,u2,rfl,by omega,?_⟩,by omega⟩;rw[gz,jj,List.flatMap_append]
  have eH:St aA w oW [aq 2 u2 (((g.rs.take j).map (λr=>(r.1,(dK list r.2:Int)))).flatMap ay++ay (rr.1,(dK list rr.2:Int))),aa r2 [slV q,slV u2],aq 3 q (ys.flatMap aj),aN (ys.map aG),aa r1 [.slice none 0 0,.slice none 0 0],aa r [slV g.gn,slV g.gr]]:=cR.bE [1,0,3,4,5,6] 7;simpa using eH
 ·simp only[ja]at hge
  rw[List.take_of_length_le (by omega)]at fE;refine bY.aQ (l:=[.slice,.slice]) (p:=(q,u)) (fE.af 1).box ?_;refine(fE.af 4).st (i:=0) (by simp) trivial λw3 s3=>s3.st (i:=1) (by simp) trivial λw4 s4=>?_;refine bY.aQ (l:=[.slice,.slice]) (p:=(q,u)) s4.box ?_;refine⟨⟨q,u,ys,g.rs.map (λr=>(r.1,(dK list r.2:Int)))⟩,rfl,rfl,?_,dG.mk ?_⟩
  ·show GG.mk (ys.map NS.m) _=_
   rw[Rm];rfl
  ·exact s4.bE [3,4,1] 6
def dL(seen:List Bool):List Int:=((List.range seen.length).filter λi=>(seen[i]?).getD false).map Int.ofNat
noncomputable def dr(G:GG):GG:=⟨G.n.map (jQ (av G)),G.r⟩
noncomputable def eP(G:GG):GG:=eO (dr G) (dL (av G))
theorem fh{seen:List Bool}{x:Int}:x∈dL seen↔0<=x/\seen[x.toNat]? =some true:=by
 unfold dL;rw[kg];constructor
 ·rintro⟨i,hi,rfl⟩
  rw[List.mem_filter,List.mem_range]at hi;refine⟨Int.natCast_nonneg _,?_⟩;show seen[i]? =some true;cases h:seen[i]?with
  |none=>rw[h]at hi;simp at hi
  |some b=>rw[h]at hi;simpa using hi.2
 ·rintro⟨h0,h1⟩
  refine⟨x.toNat,?_,by show((x.toNat:Nat):Int)=x;omega⟩;rw[List.mem_filter,List.mem_range,h1];exact⟨(List.getElem?_eq_some_iff.1 h1).1,rfl⟩
theorem rS(seen:List Bool):(dL seen).Nodup:=by
 unfold dL;unfold List.Nodup;rw[List.pairwise_map];refine((List.nodup_range).filter _).imp λ{a b} h he=>h (Int.ofNat.inj he)
def eI(seen:List Bool)(i:Nat):List Int:=((List.range i).filter λi=>(seen[i]?).getD false).map Int.ofNat
theorem iY(seen:List Bool)(i:Nat)(h:i<seen.length):eI seen (i+1)=eI seen i++(if seen[i]then[(i:Int)]else[]):=by
 unfold eI;rw[List.range_succ,List.filter_append,jj]
 congr 1
 simp only[List.filter_cons,List.filter_nil,jl h,Option.getD_some];split<;>rfl
theorem rQ(seen:List Bool)(i:Nat):(eI seen i).length<=i:=by
 unfold eI;rw[je];exact Nat.le_trans (List.length_filter_le _ _) (by simp)
structure Hz(G:GG):Prop where
 p:∀n∈G.n,∀p∈n.p,p<G.n.length
 r:∀r∈G.r,0<=r.2/\r.2<G.n.length
theorem MY{G:GG}(h:e7 G=true):Hz G:=⟨λ_ hn p hp=>((dJ h hn).2 p hp).2,λ_ hr=>(iG h hr).2⟩
theorem eD{G:GG}{x:Int}(h:x.toNat<G.n.length):nodeAt G x∈G.n:=by
 unfold nodeAt;rw[jl h];exact List.getElem_mem h
theorem z7{G:GG}{x:Int}(h:x.toNat<G.n.length):G.n[x.toNat]? =some (nodeAt G x):=by
 unfold nodeAt;rw[jl h];rfl
theorem Ap{G:GG}{l:List Int}(h:gF G l):Hz (eO G l):=by
 refine⟨λn hn p hp=>?_,λr hr=>?_⟩
 ·simp only[eO,kg]at hn
  obtain⟨x,hx,rfl⟩:=hn;simp only[ri,kg]at hp;obtain⟨q,hq,rfl⟩:=hp;simp only[eO,je];unfold gR;split
  ·rename_i h0
   have:=iW (h.cl x hx q hq h0);omega
  ·omega
 ·simp only[eO,kg]at hr
  obtain⟨q,hq,rfl⟩:=hr;simp only[eO,je];have:=iW (h.rt q hq);omega
theorem pX{G:GG}{l:List Int}(h:gF G l)(hs:G.small):(eO G l).small:=by
 have hle:=h.le;refine⟨by simp only[eO,je];have:=hs.nl;omega,by simpa[eO]using hs.rl,λn hn=>?_,λn hn=>?_,λr hr=>?_⟩
 ·simp only[eO,kg]at hn
  obtain⟨x,hx,rfl⟩:=hn;have hr:=h.pQ x hx;simpa[ri]using hs.pl _ (eD (G:=G) (x:=x) (by omega))
 ·simp only[eO,kg]at hn
  obtain⟨x,hx,rfl⟩:=hn;have hr:=h.pQ x hx;simpa[ri]using hs.dl _ (eD (G:=G) (x:=x) (by omega))
 ·simp only[eO,kg]at hr
  obtain⟨q,hq,rfl⟩:=hr;exact hs.sl q hq
theorem u9(G:GG):eC G (av G):=λi hi=>by
 have h:i<G.n.length:=by rw[<-fj G];exact(List.getElem?_eq_some_iff.1 hi).1
 exact(lf G i h).1 hi
theorem xo{G:GG}{i:Nat}{n:GN}(hn:G.n[i]? =some n){p:Int}(hi:(av G)[i]? =some true)(hl:fM (av G) n=true)(hp:p∈n.p)(h0:0<=p)(nq:p<G.n.length):(av G)[p.toNat]? =some true:=
 (lf G p.toNat (by omega)).2 (nr.live (u9 G) hi hn hl hp h0)
theorem gG{G:GG}(hok:e7 G=true):gF (dr G) (dL (av G)):=by
 have h:=MY hok;have Bl:∀x∈dL (av G),0<=x/\x<G.n.length:=by
  intro x hx;obtain⟨h0,h1⟩:=fh.1 hx;have:=(List.getElem?_eq_some_iff.1 h1).1;rw[fj]at this;omega
 refine⟨rS _,λx hx=>?_,λx hx p hp h0=>?_,λr hr=>?_⟩
 ·simpa[dr]using Bl x hx
 ·have hr:=Bl x hx
  have hxs:=(fh.1 hx).2;have e:nodeAt (dr G) x=jQ (av G) (nodeAt G x):=by
   unfold nodeAt dr;simp only[jf];rw[jl (show x.toNat<G.n.length by omega)];rfl
  rw[e]at hp;have Wz:=z7 (G:=G) (x:=x) (by omega);have hnm:=eD (G:=G) (x:=x) (by omega);generalize nodeAt G x=n at hp Wz hnm;simp only[jQ,kg]at hp;obtain⟨q,hq,xS⟩:=hp;have Nc:=h.p n hnm q hq;by_cases hc:(allM (av G) n||decide (n.k=2)&&dZ (av G) q)=true
  ·rw[jd hc]at xS;omega
  ·rw[jc hc]at xS
   subst xS;refine fh.2 ⟨h0,?_⟩;rw[Bool.or_eq_true,jz]at hc;have Qh:dZ (av G) q=false->(av G)[q.toNat]? =some true:=by
    intro hg;unfold dZ at hg;simp only[Bool.or_eq_false_iff,Bool.not_eq_false']at hg;cases hs:(av G)[q.toNat]?with
    |none=>rw[hs]at hg;simp at hg
    |some b=>rw[hs]at hg;simpa using hg.2
   by_cases hk2:n.k=2
   ·refine Qh ?_
    cases hg:dZ (av G) q with
    |false=>rfl
    |true=>exact absurd (.inr ⟨by simp[hk2],hg⟩) hc
   by_cases hl:fM (av G) n=true
   ·exact xo Wz hxs hl hq h0 Nc
   ·exfalso
    have hsh:=(dJ hok hnm).1;unfold b8 at hsh;simp only[jz,jb]at hsh;have hk:n.k=1\/n.k=3:=by omega
    unfold fM at hl;rcases hk with hk|hk
    ·simp[hk]at hl
    ·refine hc (.inl ?_)
     unfold allM dZ;simp only[hk,decide_true,Bool.true_and,show decide ((3:Int)=1)=false by decide,Bool.false_or]at hl⊢;cases hp:n.p with
     |nil=>simp
     |
      cons q' t=>
      rw[hp]at hl;simp only[List.head?_cons,List.headD_cons]at hl⊢;rcases Int.lt_or_le q' 0 with h1|h1
      ·simp[h1]
      ·rw[decide_eq_true h1,Bool.true_and]at hl
       rw[show((av G)[q'.toNat]?).getD false=false by simpa using hl];simp
 ·have xK:=h.r r hr
  exact fh.2 ⟨xK.1,(lf G _ (by omega)).2 (nr.root hr)⟩
def mq(G:GG):Nat->Nat->gQ->gQ
 |0,_,st=>st
 |f+1,a,st=>if h:a<st.2.length then mq G f (a+1) (bM st (nodeAt G st.2[a]).p)else st
def sZ(G:GG):gQ:=bM (List.replicate G.n.length false,[]) (G.r.map (·.2))
def ir(G:GG):List Int:=(mq G G.n.length 0 (sZ G)).2
def x5(G:GG):GG:=eO G (ir G)
theorem NK(n:Nat):pP n (List.replicate n false,[]):=by
 refine⟨by simp,λp hp=>(by cases hp),λi hi=>?_,by simp⟩;dsimp only at hi;rw[List.getElem?_replicate]at hi;split at hi<;>cases hi
structure pW(G:GG)(a:Nat)(st:gQ):Prop where
 met:pP G.n.length st
 le:a<=st.2.length
 rt:∀r∈G.r,r.2∈st.2
 cl:∀(k:Nat) x,k<a->st.2[k]? =some x->∀p∈(nodeAt G x).p,0<=p->p∈st.2
theorem pP.in{n:Nat}{st:gQ}(h:pP n st){p:Int}(h0:0<=p)(hp:st.1[p.toNat]? =some true):p∈st.2:=by
 have:=h.all _ hp;rwa[show((p.toNat:Nat):Int)=p by omega]at this
theorem DO{G:GG}(h:Hz G):pW G 0 (sZ G):=by
 obtain⟨m1,m2,m3,m4,m5⟩:=(NK G.n.length).steps (G.r.map (·.2));refine⟨m1,Nat.zero_le _,λr hr=>?_,λk x hk=>by omega⟩;have:=h.r r hr;exact m1.in this.1 (m4 r.2 (kg.2 ⟨r,hr,rfl⟩) this.1 this.2)
theorem pV{α:Type}{l m:List α}(h:l<+:m){k:Nat}(hk:k<l.length):m[k]? =l[k]? :=by
 obtain⟨t,rfl⟩:=h;rw[List.getElem?_append_left hk]
theorem pW.step{G:GG}{a:Nat}{st:gQ}(h:pW G a st)(hw:Hz G)(ha:a<st.2.length):pW G (a+1) (bM st (nodeAt G st.2[a]).p):=by
 obtain⟨m1,m2,m3,m4,m5⟩:=h.met.steps (nodeAt G st.2[a]).p;have hr:=h.met.pQ (List.getElem_mem ha);have hsub:∀x∈st.2,x∈(bM st (nodeAt G st.2[a]).p).2:=λx hx=>m3.subset hx;have hle:=m3.length_le;refine⟨m1,by omega,λr hr=>hsub _ (h.rt r hr),λk x hk hx p hp h0=>?_⟩;rw[pV m3 (by omega)]at hx;rcases Nat.lt_or_ge k a with hlt|hge
 ·exact hsub _ (h.cl k x hlt hx p hp h0)
 ·have:k=a:=by omega
  subst this;rw[jl ha]at hx;simp only[jg]at hx;subst hx;exact m1.in h0 (m4 p hp h0 (hw.p _ (eD (by omega)) p hp))
theorem pW.ok{G:GG}{a:Nat}{st:gQ}(h:pW G a st)(ha:st.2.length<=a):gF G st.2:=by
 refine⟨h.met.xx,λx hx=>h.met.pQ hx,λx hx p hp h0=>?_,h.rt⟩;obtain⟨k,hk,rfl⟩:=List.mem_iff_getElem.1 hx;exact h.cl k _ (by omega) (jl hk) p hp h0
theorem A3{G:GG}(hw:Hz G):∀(f a:Nat) (st:gQ),pW G a st->G.n.length<=f+a->∃a',pW G a' (mq G f a st)/\(mq G f a st).2.length<=a'
 |0,a,st,h,hf=>⟨a,h,by have:=h.met.le;show st.2.length<=a;omega⟩
 |
  f+1,a,st,h,hf=>by
  rw[mq];split
  ·rename_i hlt
   exact A3 hw f (a+1) _ (h.step hw hlt) (by omega)
  ·exact⟨a,h,by omega⟩
theorem gY{G:GG}(hw:Hz G):gF G (ir G):=by
 obtain⟨a,h1,h2⟩:=A3 hw G.n.length 0 _ (DO hw) (by omega);exact h1.ok h2
theorem vA{G:GG}{a:Nat}{st:gQ}(f:Nat)(ha:st.2.length<=a):mq G f a st=st:=by
 cases f with
 |zero=>rfl
 |succ f=>rw[mq,dif_neg (by omega)]
theorem vz{G:GG}{a:Nat}{st:gQ}(h:pW G a st)(ha:a<st.2.length):mq G (G.n.length-a) a st=mq G (G.n.length-(a+1)) (a+1) (bM st (nodeAt G st.2[a]).p):=by
 have hle:=h.met.le;rw[show G.n.length-a=(G.n.length-(a+1))+1 by omega,mq,dif_pos ha]
noncomputable def kz(G:GG):GG:=x5 (eP G)
theorem jA{G:GG}(h:e7 G=true):Hz (eP G):=Ap (gG h)
theorem Dc{G:GG}(h:e7 G=true):G.small:=by
 have h':=h;unfold e7 at h';simp only[jz,jb]at h';refine⟨by omega,by omega,λx hx=>?_,λx hx=>?_,λr hr=>?_⟩
 ·have hs:=(dJ h hx).1
  unfold b8 at hs;simp only[jz,jb]at hs;omega
 ·have hs:=(dJ h hx).1
  unfold b8 at hs;simp only[jz,jb]at hs;omega
 ·have hs:=(iG h hr).1
  unfold e9 at hs;simp only[jz,jb]at hs;omega
theorem xp{G:GG}(h:G.small):(dr G).small:=by
 refine⟨by simpa[dr]using h.nl,h.rl,λx hx=>?_,λx hx=>?_,h.sl⟩
 ·simp only[dr,kg]at hx
  obtain⟨y,hy,rfl⟩:=hx;simpa[jQ]using h.pl y hy
 ·simp only[dr,kg]at hx
  obtain⟨y,hy,rfl⟩:=hx;exact h.dl y hy
theorem iq{G:GG}(h:e7 G=true):(eP G).small:=pX (gG h) (xp (Dc h))
theorem gF.congr{G H:GG}{l:List Int}(h:gF G l)(hl:H.n.length=G.n.length)(hn:∀x∈l,nodeAt H x=nodeAt G x)(hr:H.r=G.r):gF H l:=
 ⟨h.xx,λx hx=>by rw[hl];exact h.pQ x hx,λx hx p hp h0=>h.cl x hx p (by rwa[hn x hx]at hp) h0,λr hr'=>h.rt r (by rwa[hr]at hr')⟩
theorem St.rg{F0:Nat->Prop}{w0 w:World}{g:GS}{L:List HA}(h:St F0 w0 w (dG g::L))(hs:g.small):RG w aA g:=by
 obtain⟨_,F,hh,_⟩:=h;obtain⟨G,hG,_⟩:=Has.mem hh (List.mem_cons_self ..);exact dG.rg hG hs λ_ _ h=>h
def Hu(M:GG->GG)(G:GG)(w:World)(r:(Sl×Sl)×Int)(w':World):Prop:=
 (e7 G=true/\r.2=0/\Be (M G) w r.1 w')\/(e7 G=false/\r.2=180/\r.1=(⟨none,0,0⟩,⟨none,0,0⟩)/\Grow w w')
def xY(G:GG)(seen:List Bool)(i:Nat)(ys:List NS):Prop:=
 ys.length=G.n.length/\∀(j:Nat) y,ys[j]? =some y->y.m=if j<i/\seen[j]? =some true then jQ seen (nodeAt G j)else nodeAt G j
theorem BA{G:GG}{seen:List Bool}{i:Nat}{ys:List NS}{q u:Sl}(h:xY G seen i ys)(hs:G.small):(GS.mk q u ys G.r).small:=by
 have key:∀x∈ys,x.p.length<=20000/\x.d.length<=20000:=by
  intro x hx;obtain⟨j,hj,rfl⟩:=List.mem_iff_getElem.1 hx;have h1:=h.2 j _ (jl hj);have hm:nodeAt G j∈G.n:=eD (x:=(j:Int)) (by have:=h.1;simp;omega);generalize nodeAt G j=n at h1 hm;have hp:=hs.pl n hm;have hd:=hs.dl n hm;have e1:ys[j].p=ys[j].m.p:=rfl;have e2:ys[j].d=ys[j].m.d:=rfl;rw[e1,e2,h1];split
  ·exact⟨by simpa[jQ]using hp,hd⟩
  ·exact⟨hp,hd⟩
 exact⟨by have:=hs.nl;have:=h.1;show ys.length<=_;omega,hs.rl,λx hx=>(key x hx).1,λx hx=>(key x hx).2,hs.sl⟩
theorem Hv{G:GG}{ys:List NS}{q u:Sl}(h:xY G (av G) G.n.length ys)(hok:e7 G=true):
 gF (GS.mk q u ys G.r).m (dL (av G))/\eO (GS.mk q u ys G.r).m (dL (av G))=eP G:=by
 have hk:=gG hok;have hl:(GS.mk q u ys G.r).m.n.length=(dr G).n.length:=by simp[GS.m,dr,h.1]
 have hn:∀x∈dL (av G),nodeAt (GS.mk q u ys G.r).m x=nodeAt (dr G) x:=by
  intro x hx;have hr:=hk.pQ x hx;have hs:=(fh.1 hx).2;have ko:x.toNat<ys.length:=by have:=h.1;simp[dr]at hr;omega
  have K5:x.toNat<G.n.length:=by have:=h.1;omega
  have h1:=h.2 x.toNat _ (jl ko);rw[jd ⟨K5,hs⟩]at h1;rw[fN (g:=GS.mk q u ys G.r) ko,h1];unfold nodeAt dr;simp only[jf,jk];rw[jl K5];rfl
 refine⟨hk.congr hl hn rfl,?_⟩;exact pU hn rfl
theorem Xo(g:GS)(w:World)(hg:RG w aA g):Calls Pq 43 #[g.v] w (aC [.agg [.slice,.slice],.c (.int .i64)] λr w'=>Hu eP g.m w r w'):=by
 refine BB g.gn g.gr _ _ ?_;unfold Vi;simp only[ag];have gy:=hg.nl;have hrl:=hg.rl;have hn2:=hg.sm.nl;have xK:=hg.sm.rl;have hml:g.m.n.length=g.xs.length:=by simp[GS.m]
 refine St.nw (St.bp w) λr w1 s1 _ _=>St.nw s1 λr1 w2 s2 _ _=>?_;refine bY.aQ (l:=[.slice,.slice]) (p:=(g.gn,g.gr)) (s2.af 1).box ?_;refine ak (Xp g _ (hg.grow s2.bh)) ?_;rintro _ w3 ⟨rfl,g3⟩;have s3:=s2.grow g3;refine ah (λhne=>?_) λheq=>?_
 ·have iX:e7 g.m=false:=by
   cases h:e7 g.m with
   |false=>rfl
   |true=>simp[ei,h]at hne
  refine s3.st (i:=0) (by simp) trivial λw4 s4=>s4.st (i:=1) (by simp) trivial λw5 s5=>?_;refine bY.aQ (l:=[.slice,.slice]) (p:=(⟨none,0,0⟩,⟨none,0,0⟩)) s5.box ?_;exact .inr ⟨iX,by simp[ei,iX],rfl,s5.bh⟩
 have hok:e7 g.m=true:=by
  cases h:e7 g.m with
  |true=>rfl
  |false=>simp[ei,h]at heq
 refine bY.aQ (l:=[.slice,.slice]) (p:=(g.gn,g.gr)) (s3.af 1).box ?_;refine ak (WY g _ (hg.grow s3.bh) hok) λsn w4 k4=>?_;have s4:=s3.aZ k4;refine bY.aQ (l:=[.slice,.slice]) (p:=(g.gn,g.gr)) (s4.af 2).box ?_;refine ak (WH g _ (hg.grow s4.bh)) ?_;rintro⟨q0,u0⟩ w5 ⟨⟨q,u,ys,rs⟩,rfl,rfl,kU,k5⟩;have Hp:rs=g.rs:=congrArg GG.r kU;have hys:ys.map NS.m=g.xs.map NS.m:=congrArg GG.n kU;subst Hp;have s5:=dG.un (s4.aZ k5);dsimp only at s5;have s5:St aA w w5 [aq 3 q (ys.flatMap aj),aN (ys.map aG),aq 2 u (g.rs.flatMap ay),aq 1 sn ((av g.m).map bv),aa r1 [.slice none 0 0,.slice none 0 0],aa r [slV g.gn,slV g.gr]]:=s5;refine St.nw s5 λr2 w6 s6 _ _=>s6.st (i:=0) (by simp) trivial λw7 s7=>s7.st (i:=1) (by simp) trivial λw8 s8=>?_;have s8:St aA w w8 [aa r2 [slV q,slV u],aq 3 q (ys.flatMap aj),aN (ys.map aG),aq 2 u (g.rs.flatMap ay),aq 1 sn ((av g.m).map bv),aa r1 [.slice none 0 0,.slice none 0 0],aa r [slV g.gn,slV g.gr]]:=s8;have jZ:(av g.m).length=g.xs.length:=by rw[fj,hml]
 have mg:ys.length=g.xs.length:=by have:=congrArg List.length hys;simpa using this
 have gS:xY g.m (av g.m) 0 ys:=by
  refine⟨by rw[hml,mg],λj y hj=>?_⟩;rw[jc (by omega)];have h1:(ys.map NS.m)[j]? =some y.m:=by rw[jf,hj];rfl
  rw[hys]at h1;unfold nodeAt;rw[jk];show y.m=(((g.xs.map NS.m)[j]?).getD _);rw[h1];rfl
 clear hys kU s5 s6 s7;refine aB (λz W=>∃(i:Nat) (t:Sl) (ys:List NS),z=(t,(i:Int))/\i<=g.xs.length/\xY g.m (av g.m) i ys/\
  St aA w W [aq 1 t ((eI (av g.m) i).map iv),aa r2 [slV q,slV u],aq 3 q (ys.flatMap aj),aN (ys.map aG),aq 2 u (g.rs.flatMap ay),aq 1 sn ((av g.m).map bv),aa r1 [.slice none 0 0,.slice none 0 0],aa r [slV g.gn,slV g.gr]])
  (λz _=>g.xs.length-z.2.toNat) ⟨0,_,ys,rfl,by omega,gS,s8.fe 1⟩ ?_
 clear gS mg s8;rintro _ W ⟨i,t,ys,rfl,hi,gS,sW⟩;have mg:=gS.1;rw[hml]at mg;have K6:=aT (sW.af 5).sl;rw[je,jZ]at K6;dsimp only;refine ah (λhlt=>?_) λhge=>?_
 ·simp only[jb]at hlt
  have hil:i<g.xs.length:=by omega
  have vc:BL W sn (av g.m):=St.bl (sW.af 5);refine aL (λs' W'=>∃ys':List NS,xY g.m (av g.m) (i+1) ys'/\
   St aA w W' [aq 1 s' ((eI (av g.m) (i+1)).map iv),aa r2 [slV q,slV u],aq 3 q (ys'.flatMap aj),aN (ys'.map aG),aq 2 u (g.rs.flatMap ay),aq 1 sn ((av g.m).map bv),aa r1 [.slice none 0 0,.slice none 0 0],aa r [slV g.gn,slV g.gr]]) ?_ ?_
  rotate_left
  ·rintro t' W' ⟨ys',h1,s'⟩
   rw[ax (by omega)];exact⟨⟨i+1,t',ys',rfl,by omega,h1,s'⟩,by omega⟩
  refine⟨⟨by omega,by omega⟩,?_⟩;rw[jk];refine BL.at vc (i:=i) (by omega) ?_;have JQ:=iY (av g.m) i (by omega);have JR:(av g.m)[i]? =some ((av g.m)[i]'(by omega)):=jl (by omega);generalize hb:(av g.m)[i]'(by omega)=b at JQ JR⊢;refine ah (λQu=>?_) λQv=>?_
  ·subst Qu
   have kT:g.xs[i]? =some g.xs[i]:=by simp[hil]
   have fD:g.xs[i]∈g.xs:=List.getElem_mem hil;have hna:nodeAt g.m (i:Int)=g.xs[i].m:=fN (x:=(i:Int)) (by simpa using hil);have DG:g.xs[i].m∈g.m.n:=kg.2 ⟨_,fD,rfl⟩;generalize g.xs[i]=x at kT fD hna DG;have DH:=dJ hok DG;have j9:x.k=3->1<=x.p.length:=by
    intro h3;have hs:=DH.1;unfold b8 at hs;simp only[jz,Bool.not_eq_true',Bool.and_eq_false_iff,jb,ja]at hs;have h4:x.m.k=3:=h3;have h5:x.m.p=x.p:=rfl;rw[h5]at hs;rcases hs.2 with h|h
    ·exact absurd h4 h
    ·omega
   have qY:∀p∈x.p,p<(av g.m).length:=λp hp=>by rw[fj];exact(DH.2 p hp).2
   have Hw:ys[i]? =some (ys[i]'(by omega)):=jl (by omega);refine aL (λ_ W'=>∃ys':List NS,xY g.m (av g.m) (i+1) ys'/\
    St aA w W' [aq 1 t ((eI (av g.m) i).map iv),aa r2 [slV q,slV u],aq 3 q (ys'.flatMap aj),aN (ys'.map aG),aq 2 u (g.rs.flatMap ay),aq 1 sn ((av g.m).map bv),aa r1 [.slice none 0 0,.slice none 0 0],aa r [slV g.gn,slV g.gr]]) ?_ ?_
   rotate_left
   ·rintro⟨⟩ W' ⟨ys',h1,s'⟩
    refine St.nw s' λr3 w9 s9 _ _=>?_;have nt:=rQ (av g.m) i;refine gE s9 (by omega) λt2 iF bH=>⟨ys',h1,?_⟩;rw[JQ,jd rfl];exact bH.bE [0,2,3,4,5,6,7,8] 9
   rw[aR];have s9:=sW.drew;have q8:=(s9.af 2).sl.len;rw[M0]at q8;refine(s9.af 7).ld (i:=0) (s:=.slice) (p:=g.gn) rfl ⟨⟨by omega,by omega⟩,?_⟩;refine(hg.grow s9.bh).node kT ?_;have fin:∀(y:NS) W',y.m=jQ (av g.m) x.m->St aA w W' (aG y::[aq 1 t ((eI (av g.m) i).map iv),aa r2 [slV q,slV u],aq 3 q (ys.flatMap aj),aN (ys.map aG),aq 2 u (g.rs.flatMap ay),aq 1 sn ((av g.m).map bv),aa r1 [.slice none 0 0,.slice none 0 0],aa r [slV g.gn,slV g.gr]])->
    (deref q.a λa=>Eng.st ((a.add (i*3)).add 0) (.int .i64 y.k)<|Eng.st ((a.add (i*3)).add 1) (.slice y.ps.a y.ps.len y.ps.cap)<|Eng.st ((a.add (i*3)).add 2) (.slice y.ds.a y.ds.len y.ds.cap) λW'=>∃ys':List NS,xY g.m (av g.m) (i+1) ys'/\
    St aA w W' [aq 1 t ((eI (av g.m) i).map iv),aa r2 [slV q,slV u],aq 3 q (ys'.flatMap aj),aN (ys'.map aG),aq 2 u (g.rs.flatMap ay),aq 1 sn ((av g.m).map bv),aa r1 [.slice none 0 0,.slice none 0 0],aa r [slV g.gn,slV g.gr]]) W':=by
    intro y W' hy s';refine vt (z:=y) (s'.af 3) Hw λrK eH=>?_;have fJ:=rP (eH.bE [1,4,0,2,3,5,6,7,8] 9) Hw;refine⟨ys.set i y,⟨by rw[List.length_set,hml,mg],λj z hz=>?_⟩,fJ.bE [2,3,1,0,4,5,6,7] 8⟩;rcases Nat.lt_trichotomy j i with h|h|h
    ·rw[List.getElem?_set_ne (by omega)]at hz
     have:=gS.2 j z hz;rw[this];have e:(j<i/\(av g.m)[j]? =some true)↔(j<i+1/\(av g.m)[j]? =some true):=⟨λh=>⟨by omega,h.2⟩,λh2=>⟨h,h2.2⟩⟩;by_cases hc:j<i/\(av g.m)[j]? =some true
     ·rw[jd hc,jd (e.1 hc)]
     ·rw[jc hc,jc (λh=>hc (e.2 h))]
    ·subst h
     rw[List.getElem?_set_self (by omega)]at hz;simp only[jg]at hz;subst hz;rw[jd ⟨by omega,JR⟩,hy,hna]
    ·rw[List.getElem?_set_ne (by omega)]at hz
     have:=gS.2 j z hz;rw[this,jc (λh2=>by omega),jc (λh2=>by omega)]
   have Vj:=λW2 (s':St aA w W2 [aq 1 t ((eI (av g.m) i).map iv),aa r2 [slV q,slV u],aq 3 q (ys.flatMap aj),aN (ys.map aG),aq 2 u (g.rs.flatMap ay),aq 1 sn ((av g.m).map bv),aa r1 [.slice none 0 0,.slice none 0 0],aa r [slV g.gn,slV g.gr]])=>
    WJ x sn (av g.m) W2 ((hg.grow s'.bh).rn fD) (St.bl (s'.af 5)) qY j9
   refine⟨?_,?_⟩
   ·refine(s9.af 1).ld (i:=0) (s:=.slice) (p:=q) rfl ?_
    refine ak (Vj _ s9) ?_;rintro _ iF ⟨y,rfl,hy,DI⟩;exact⟨⟨by omega,by omega⟩,fin y _ hy (s9.aZ DI)⟩
   ·refine ak (Vj _ s9) ?_
    rintro _ iF ⟨y,rfl,hy,DI⟩;have bH:=s9.aZ DI;refine(bH.af 2).ld (i:=0) (s:=.slice) (p:=q) rfl ?_;exact⟨⟨by omega,by omega⟩,fin y _ hy bH⟩
  ·subst Qv
   refine⟨ys,⟨gS.1,λj z hz=>?_⟩,?_⟩
   ·have:=gS.2 j z hz
    rw[this];have e:(j<i/\(av g.m)[j]? =some true)↔(j<i+1/\(av g.m)[j]? =some true):=by
     refine⟨λh=>⟨by omega,h.2⟩,λh2=>⟨?_,h2.2⟩⟩;rcases Nat.lt_or_ge j i with h|h
     ·exact h
     ·have:j=i:=by omega
      subst this;rw[JR]at h2;simp at h2
    by_cases hc:j<i/\(av g.m)[j]? =some true
    ·rw[jd hc,jd (e.1 hc)]
    ·rw[jc hc,jc (λh=>hc (e.2 h))]
   ·rw[JQ]
    simpa using sW
 ·simp only[ja]at hge
  have Rq:i=g.xs.length:=by omega
  subst Rq;have Xq:eI (av g.m) g.xs.length=dL (av g.m):=by unfold eI dL;rw[jZ]
  rw[Xq]at sW;rw[<-hml]at gS;obtain⟨m1,m2⟩:=Hv (q:=q) (u:=u) gS hok;have j4:(GS.mk q u ys g.rs).small:=BA (q:=q) (u:=u) gS (GS.cJ.1 hg.sm);refine bY.aQ (l:=[.slice,.slice]) (p:=(q,u)) (sW.af 1).box ?_;have s9:St aA w W (dG (GS.mk q u ys g.rs)::_):=dG.mk (sW.bE [2,3,4,0,6] 8);refine ak (U6 (GS.mk q u ys g.rs) t (dL (av g.m)) W (St.rg s9 j4) (bz.ms sW.sl) m1) ?_;rintro⟨a,b⟩ iF ⟨c,rfl,rfl,hc,DI⟩;have bH:=s9.aZ DI;refine(bH.af 3).st (i:=0) (by simp) trivial λoW cR=>cR.st (i:=1) (by simp) trivial λrK eH=>?_;refine bY.aQ (l:=[.slice,.slice]) (p:=(c.gn,c.gr)) eH.box ?_;refine .inl ⟨hok,rfl,c,rfl,rfl,by rw[hc];exact m2,eH.bE [1] 4⟩
theorem rR(seen:List Bool)(i:Nat):∀d,i+d<=seen.length->eI seen i<+:eI seen (i+d)
 |0,_=>List.prefix_refl _
 |
  d+1,h=>by
  refine(rR seen i d (by omega)).trans ?_;rw[<-Nat.add_assoc,iY seen (i+d) (by omega)];exact List.prefix_append _ _
theorem BC(seen:List Bool):eI seen seen.length=dL seen:=rfl
theorem DJ{seen:List Bool}{i:Nat}(h:seen[i]? =some true):sY (dL seen) i=((eI seen i).length:Int):=by
 have hl:=(List.getElem?_eq_some_iff.1 h).1;have hm:(i:Int)∈dL seen:=fh.2 ⟨by omega,by simpa using h⟩;unfold sY;rw[jd hm]
 congr 1
 refine mo (rS _) ?_;have hp:=rR seen (i+1) (seen.length-(i+1)) (by omega);rw[show i+1+(seen.length-(i+1))=seen.length by omega,BC]at hp;have he:=iY seen i hl;rw[show seen[i]=true by rw[jl hl]at h;simpa using h,jd rfl]at he;rw[pV hp (by rw[he];simp),he,List.getElem?_append_right (by omega),Nat.sub_self];rfl
theorem DK{seen:List Bool}{i:Nat}(h:seen[i]?≠some true):sY (dL seen) i= -1:=by
 unfold sY;rw[jc];intro hm;exact h (by simpa using(fh.1 hm).2)
theorem xZ{F0:Nat->Prop}{w0 w:World}{L:List HA}{ys:List NS}{k:Nat}{y:NS}(h:St F0 w0 w (aN (ys.map aG)::L))(hk:ys[k]? =some y):St F0 w0 w (aG y::aN ((ys.eraseIdx k).map aG)::L):=by
 have hp:ys.Perm (y::ys.eraseIdx k):=by
  have hl:=(bt hk).2;rw[List.eraseIdx_eq_take_drop_succ]
  conv=>lhs;rw[(bt hk).1]
  exact List.perm_middle
 have h1:St F0 w0 w ((aG y::(ys.eraseIdx k).map aG)++L):=h.Bd.perm (List.Perm.append_right _ (by simpa using hp.map aG));have h2:St F0 w0 w ((ys.eraseIdx k).map aG++(aG y::L)):=h1.perm (List.perm_middle.symm);exact(St.eG h2).af 1
theorem x3{F0:Nat->Prop}{w0 w:World}{L:List HA}{ys:List NS}{k:Nat}{y z:NS}(h:St F0 w0 w (aG z::aN ((ys.eraseIdx k).map aG)::L))(hk:ys[k]? =some y):St F0 w0 w (aN ((ys.set k z).map aG)::L):=by
 have hl:=(bt hk).2;have hp:(z::ys.eraseIdx k).Perm (ys.set k z):=by
  rw[List.eraseIdx_eq_take_drop_succ,List.set_eq_take_append_cons_drop,jd hl];exact List.perm_middle.symm
 have h1:St F0 w0 w ((ys.eraseIdx k).map aG++(aG z::L)):=(h.af 1).Bd;have h2:=h1.perm List.perm_middle;exact St.eG (h2.perm (List.Perm.append_right L (by have:=hp.map aG;rwa[List.map_cons]at this:(aG z::(ys.eraseIdx k).map aG).Perm ((ys.set k z).map aG))))
theorem K7{ys:List NS}{k:Nat}{y z:NS}(hk:ys[k]? =some y)(he:aj z=aj y):(ys.set k z).flatMap aj=ys.flatMap aj:=by
 rw[<-nE (f:=aj) (z:=z) hk,he,<-lD hk]
def ku(seen:List Bool)(n:GN)(p:Int):Bool:=(decide (n.k=3)&& !fM seen n)||(decide (n.k=2)&&(decide (0<=p)&& !(seen[p.toNat]?).getD false))
theorem BD{seen:List Bool}{n:GN}:allM seen n=(decide (n.k=3)&& !fM seen n):=by
 unfold allM;by_cases hk:n.k=3
 ·rw[decide_eq_true hk,Bool.true_and,Bool.true_and]
  unfold fM dZ;simp only[hk,decide_true,Bool.true_and,show decide ((3:Int)=1)=false by decide,Bool.false_or];cases hp:n.p with
  |nil=>simp
  |
   cons q' t=>
   simp only[List.head?_cons,List.headD_cons];rcases Int.lt_or_le q' 0 with h1|h1
   ·simp[h1]
   ·show(decide (q'<0)||_)=_
    rw[decide_eq_true h1,decide_eq_false (show¬q'<0 by omega)];simp
 ·rw[decide_eq_false hk];rfl
theorem DL{seen:List Bool}{n:GN}{p:Int}(hp: -1<=p):(if ku seen n p=true then-1 else p)=if(allM seen n||decide (n.k=2)&&dZ seen p)=true then-1 else p:=by
 unfold ku;rw[<-BD];unfold dZ;by_cases h0:0<=p
 ·rw[decide_eq_true h0,Bool.true_and,decide_eq_false (show¬p<0 by omega),Bool.false_or]
 ·have:p= -1:=by omega
  subst this;split<;>split<;>rfl
def Hx(G:GG)(seen:List Bool)(i:Nat)(ys:List NS):Prop:=
 ys.length=G.n.length/\∀(j:Nat) y,ys[j]? =some y->y.m=if j<i then jQ seen (nodeAt G j)else nodeAt G j
theorem x4{G:GG}{seen:List Bool}{i:Nat}{ys:List NS}{q u:Sl}(h:Hx G seen i ys)(hs:G.small):(GS.mk q u ys G.r).small:=by
 have key:∀x∈ys,x.p.length<=20000/\x.d.length<=20000:=by
  intro x hx;obtain⟨j,hj,rfl⟩:=List.mem_iff_getElem.1 hx;have h1:=h.2 j _ (jl hj);have hm:nodeAt G j∈G.n:=eD (x:=(j:Int)) (by have:=h.1;simp;omega);generalize nodeAt G j=n at h1 hm;have hp:=hs.pl n hm;have hd:=hs.dl n hm;have e1:ys[j].p=ys[j].m.p:=rfl;have e2:ys[j].d=ys[j].m.d:=rfl;rw[e1,e2,h1];split
  ·exact⟨by simpa[jQ]using hp,hd⟩
  ·exact⟨hp,hd⟩
 exact⟨by have:=hs.nl;have:=h.1;show ys.length<=_;omega,hs.rl,λx hx=>(key x hx).1,λx hx=>(key x hx).2,hs.sl⟩
theorem DM{G:GG}{ys:List NS}{q u:Sl}(h:Hx G (av G) G.n.length ys)(hok:e7 G=true):
 gF (GS.mk q u ys G.r).m (dL (av G))/\eO (GS.mk q u ys G.r).m (dL (av G))=eP G:=by
 have hk:=gG hok;have hl:(GS.mk q u ys G.r).m.n.length=(dr G).n.length:=by simp[GS.m,dr,h.1]
 have hn:∀x∈dL (av G),nodeAt (GS.mk q u ys G.r).m x=nodeAt (dr G) x:=by
  intro x hx;have hr:=hk.pQ x hx;have ko:x.toNat<ys.length:=by have:=h.1;simp[dr]at hr;omega
  have K5:x.toNat<G.n.length:=by have:=h.1;omega
  have h1:=h.2 x.toNat _ (jl ko);rw[jd K5]at h1;rw[fN (g:=GS.mk q u ys G.r) ko,h1];unfold nodeAt dr;simp only[jf,jk];rw[jl K5];rfl
 exact⟨hk.congr hl hn rfl,pU hn rfl⟩
theorem Xr(g:GS)(w:World)(hg:RG w aA g):Calls Pq 33 #[g.v] w (aC [.agg [.slice,.slice],.c (.int .i64)] λr w'=>Hu eP g.m w r w'):=by
 refine BE g.gn g.gr _ _ ?_;unfold Vk;simp only[ag];have gy:=hg.nl;have hrl:=hg.rl;have hn2:=hg.sm.nl;have xK:=hg.sm.rl;have hml:g.m.n.length=g.xs.length:=by simp[GS.m]
 refine St.nw (St.bp w) λr w1 s1 _ _=>St.nw s1 λr1 w2 s2 _ _=>?_;refine bY.aQ (l:=[.slice,.slice]) (p:=(g.gn,g.gr)) (s2.af 1).box ?_;refine ak (WO g _ (hg.grow s2.bh)) ?_;rintro⟨sn,ce⟩ w3 ⟨rfl,sl,k3,xO⟩;have s3:=s2.aZ k3;dsimp only at s3;refine ah (λhne=>?_) λheq=>?_
 ·have iX:e7 g.m=false:=by
   cases h:e7 g.m with
   |false=>rfl
   |true=>simp[ei,h]at hne
  refine(s3.af 1).st (i:=0) (by simp) trivial λw4 s4=>s4.st (i:=1) (by simp) trivial λw5 s5=>?_;refine bY.aQ (l:=[.slice,.slice]) (p:=(⟨none,0,0⟩,⟨none,0,0⟩)) s5.box ?_;exact .inr ⟨iX,by simp[ei,iX],rfl,s5.bh⟩
 have hok:e7 g.m=true:=by
  cases h:e7 g.m with
  |true=>rfl
  |false=>simp[ei,h]at heq
 rw[xO hok]at s3;have s3:St aA w w3 [aq 1 sn ((av g.m).map bv),aa r1 [.slice none 0 0,.slice none 0 0],aa r [slV g.gn,slV g.gr]]:=s3;refine bY.aQ (l:=[.slice,.slice]) (p:=(g.gn,g.gr)) (s3.af 2).box ?_;refine ak (Y9 g _ (hg.grow s3.bh)) ?_;rintro⟨q0,u0⟩ w5 ⟨⟨q,u,ys,rs⟩,rfl,rfl,kU,k5⟩;have Hp:rs=g.rs:=congrArg GG.r kU;have hys:ys.map NS.m=g.xs.map NS.m:=congrArg GG.n kU;subst Hp;have s5:=dG.un (s3.aZ k5);dsimp only at s5;have s5:St aA w w5 [aq 3 q (ys.flatMap aj),aN (ys.map aG),aq 2 u (g.rs.flatMap ay),aq 1 sn ((av g.m).map bv),aa r1 [.slice none 0 0,.slice none 0 0],aa r [slV g.gn,slV g.gr]]:=s5;have jZ:(av g.m).length=g.xs.length:=by rw[fj,hml]
 have mg:ys.length=g.xs.length:=by have:=congrArg List.length hys;simpa using this
 have K6:=aT (s5.af 3).sl;rw[je,jZ]at K6;refine St.nw s5 λr2 w6 s6 _ _=>s6.st (i:=0) (by simp) trivial λw7 s7=>s7.st (i:=1) (by simp) trivial λw8 s8=>?_;have s8:St aA w w8 [aa r2 [slV q,slV u],aq 3 q (ys.flatMap aj),aN (ys.map aG),aq 2 u (g.rs.flatMap ay),aq 1 sn ((av g.m).map bv),aa r1 [.slice none 0 0,.slice none 0 0],aa r [slV g.gn,slV g.gr]]:=s8;refine s8.vp g.xs.length (show(sn.len:Int)=_ by omega) rfl (by omega) (by omega) λto w9 s9 kq=>?_;rw[lB]at s9;have s9:St aA w w9 [aq 1 to ((List.replicate g.xs.length (0:Int)).map iv),aa r2 [slV q,slV u],aq 3 q (ys.flatMap aj),aN (ys.map aG),aq 2 u (g.rs.flatMap ay),aq 1 sn ((av g.m).map bv),aa r1 [.slice none 0 0,.slice none 0 0],aa r [slV g.gn,slV g.gr]]:=by
  rw[List.map_replicate];exact s9
 have gS:Hx g.m (av g.m) 0 ys:=by
  refine⟨by rw[hml,mg],λj y hj=>?_⟩;rw[jc (by omega)];have h1:(ys.map NS.m)[j]? =some y.m:=by rw[jf,hj];rfl
  rw[hys]at h1;unfold nodeAt;rw[jk];show y.m=(((g.xs.map NS.m)[j]?).getD _);rw[h1];rfl
 clear hys kU s5 s6 s7 s8;refine aB (λz W=>∃(i:Nat) (T:List Int) (ys:List NS),z=(((eI (av g.m) i).length:Int),(i:Int))/\i<=g.xs.length/\T.length=g.xs.length/\(∀j (h:j<T.length),j<i->T[j]=sY (dL (av g.m)) j)/\Hx g.m (av g.m) i ys/\
  St aA w W [aq 1 to (T.map iv),aa r2 [slV q,slV u],aq 3 q (ys.flatMap aj),aN (ys.map aG),aq 2 u (g.rs.flatMap ay),aq 1 sn ((av g.m).map bv),aa r1 [.slice none 0 0,.slice none 0 0],aa r [slV g.gn,slV g.gr]])
  (λz _=>g.xs.length-z.2.toNat) ⟨0,_,ys,rfl,by omega,by simp,λ_ _ h=>by omega,gS,s9⟩ ?_
 clear gS mg s9;rintro _ W ⟨i,T,ys,rfl,hi,K8,hT,gS,sW⟩;have mg:=gS.1;rw[hml]at mg;have q8:=(sW.af 2).sl.len;rw[M0]at q8;dsimp only;refine aL (λs' W'=>s'=decide (i<g.xs.length)/\W'=W) ?_ ?_
 ·refine ah (λhlt=>?_) λhge=>?_
  ·simp only[jb]at hlt
   refine(sW.af 1).ld (i:=0) (s:=.slice) (p:=q) rfl ?_;refine ah (λig=>?_) λij=>?_
   ·exact⟨by rw[kq,decide_eq_true (show i<g.xs.length by omega),decide_eq_true (by omega)],rfl⟩
   ·simp only[ja]at ij;omega
  ·simp only[ja]at hge
   exact⟨by rw[decide_eq_false (show¬i<g.xs.length by omega)],rfl⟩
 rintro _ W' ⟨rfl,rfl⟩;refine ah (λhlt=>?_) λhge=>?_
 ·simp only[jb]at hlt
  refine⟨⟨by omega,by omega⟩,?_⟩;rw[jk];refine ez sW (i:=i) (by simp;omega) trivial λiF bH=>?_;have JR:(av g.m)[i]? =some ((av g.m)[i]'(by omega)):=jl (by omega);have JQ:=iY (av g.m) i (by omega);have nt:=rQ (av g.m) i;refine aL (λs' W2=>s'=((eI (av g.m) (i+1)).length:Int)/\∃T':List Int,T'.length=g.xs.length/\(∀j (h:j<T'.length),j<i+1->T'[j]=sY (dL (av g.m)) j)/\
   St aA w W2 [aq 1 to (T'.map iv),aa r2 [slV q,slV u],aq 3 q (ys.flatMap aj),aN (ys.map aG),aq 2 u (g.rs.flatMap ay),aq 1 sn ((av g.m).map bv),aa r1 [.slice none 0 0,.slice none 0 0],aa r [slV g.gn,slV g.gr]]) ?_ ?_
  ·refine⟨⟨by omega,by omega⟩,?_⟩
   refine BL.at (St.bl (bH.af 5)) (i:=i) (by omega) ?_;refine ah (λQu=>?_) λQv=>?_
   ·refine⟨⟨by omega,by omega⟩,?_⟩
    refine ez bH (i:=i) (by simp;omega) trivial λoW cR=>?_;rw[Qu]at JR;rw[Qu,jd rfl]at JQ;rw[ax (by omega)];refine⟨by rw[JQ,jh];rfl,(T.set i (-1)).set i ((eI (av g.m) i).length:Int),by simpa using K8,λj hj hji=>?_,by rw[List.map_set,List.map_set];exact cR⟩;rw[List.getElem_set];split
    ·rename_i he;subst he;exact(DJ JR).symm
    ·rename_i hne
     rw[List.getElem_set_ne hne];exact hT j _ (by omega)
   ·rw[Qv]at JR
    rw[Qv]at JQ;refine⟨by rw[JQ];simp,T.set i (-1),by simpa using K8,λj hj hji=>?_,by rw[List.map_set];exact bH⟩;rw[List.getElem_set];split
    ·rename_i he;subst he;exact(DK (by rw[JR];simp)).symm
    ·exact hT j _ (by omega)
  rintro _ W2 ⟨rfl,T',Rr,Xs,iU⟩;clear bH sW hT;have kT:g.xs[i]? =some g.xs[i]:=by simp[hlt]
  have fD:g.xs[i]∈g.xs:=List.getElem_mem hlt;have hna:nodeAt g.m (i:Int)=g.xs[i].m:=fN (x:=(i:Int)) (by simpa using hlt);have DG:g.xs[i].m∈g.m.n:=kg.2 ⟨_,fD,rfl⟩;generalize g.xs[i]=x at kT fD hna DG;have DH:=dJ hok DG;have qY:∀p∈x.p,p<(av g.m).length:=λp hp=>by rw[fj];exact(DH.2 p hp).2
  have Hw:ys[i]? =some (ys[i]'(by omega)):=jl (by omega);have DN:=gS.2 i _ Hw;rw[jc (by omega),hna]at DN;generalize Rn:ys[i]'(by omega)=y at Hw DN;have M7:y.k=x.k:=congrArg GN.k DN;have hyp:y.p=x.p:=congrArg GN.p DN;have M6:y.d=x.d:=congrArg GN.d DN;refine(iU.af 1).ld (i:=0) (s:=.slice) (p:=q) rfl ⟨⟨by omega,by omega⟩,?_⟩;have Xt:bn W2 q.a (ys.flatMap aj):=(iU.af 2).sl.reads;obtain⟨ad,Xu,hcells⟩:=(SS.get (n:=3) b7 (show SS aj W2 q ys from bz.ss b7 (by decide) (iU.af 2).sl) Hw (by decide));rw[Xu,ag];refine nC (p:=(y.k,y.ps,y.ds)) (show cc W2 _ 0 (j0 [.int .i64,.slice,.slice] (y.k,y.ps,y.ds))from aF.2 hcells) ?_;have cR:=(xZ (iU.af 3) Hw).Bd;have cR:St aA w W2 [aq 1 y.ps (y.p.map iv),aq 1 y.ds (y.d.map ub),aN ((ys.eraseIdx i).map aG),aq 1 to (T'.map iv),aa r2 [slV q,slV u],aq 3 q (ys.flatMap aj),aq 2 u (g.rs.flatMap ay),aq 1 sn ((av g.m).map bv),aa r1 [.slice none 0 0,.slice none 0 0],aa r [slV g.gn,slV g.gr]]:=cR;have Ac:=aT cR.sl;rw[je]at Ac;refine St.nw cR λr3 rK eH _ _=>eH.st (i:=0) (by simp) trivial λq7 fJ=>fJ.st (i:=1) (by simp) trivial λK2 l6=>l6.st (i:=2) (by simp) trivial λJJ vn=>?_
  have vn:St aA w JJ [aa r3 (aj y),aq 1 y.ps (y.p.map iv),aq 1 y.ds (y.d.map ub),aN ((ys.eraseIdx i).map aG),aq 1 to (T'.map iv),aa r2 [slV q,slV u],aq 3 q (ys.flatMap aj),aq 2 u (g.rs.flatMap ay),aq 1 sn ((av g.m).map bv),aa r1 [.slice none 0 0,.slice none 0 0],aa r [slV g.gn,slV g.gr]]:=vn;have nq:=hg.sm.pl x fD;refine aB (λz W3=>∃(j:Nat) (qs:List Int),z=(j:Int)/\j<=x.p.length/\qs=(x.p.take j).map (λp=>if ku (av g.m) x.m p=true then-1 else p)++x.p.drop j/\
   St aA w W3 [aq 1 y.ps (qs.map iv),aa r3 (aj y),aq 1 y.ds (y.d.map ub),aN ((ys.eraseIdx i).map aG),aq 1 to (T'.map iv),aa r2 [slV q,slV u],aq 3 q (ys.flatMap aj),aq 2 u (g.rs.flatMap ay),aq 1 sn ((av g.m).map bv),aa r1 [.slice none 0 0,.slice none 0 0],aa r [slV g.gn,slV g.gr]])
   (λz _=>x.p.length-z.toNat) ⟨0,x.p,rfl,by omega,by simp,by rw[<-hyp];exact vn.af 1⟩ ?_
  rintro _ W3 ⟨j,qs,rfl,hj,vh,fE⟩;have Xv:qs.length=x.p.length:=by rw[vh];simp;omega
  refine(fE.af 1).ld (i:=1) (s:=.slice) (p:=y.ps) rfl ?_;rw[hyp]at Ac;refine ah (λig=>?_) λij=>?_
  ·simp only[jb]at ig
   have hjl:j<x.p.length:=by omega
   have K1:((x.p.take j).map (λp=>if ku (av g.m) x.m p=true then-1 else p)).length=j:=by simp;omega
   have Qw:qs[j]? =some x.p[j]:=by
    rw[vh,List.getElem?_append_right (by omega),K1,Nat.sub_self,List.getElem?_drop,jl (by omega)];rfl
   have next:qs.set j (if ku (av g.m) x.m x.p[j]=true then-1 else x.p[j])=(x.p.take (j+1)).map (λp=>if ku (av g.m) x.m p=true then-1 else p)++x.p.drop (j+1):=by
    rw[List.take_add_one,jl hjl,jj,vh,List.drop_eq_getElem_cons hjl,List.set_append_right _ _ (by omega),K1,Nat.sub_self,List.set_cons_zero];simp
   have vo:x.p[j]∈x.p:=List.getElem_mem hjl;generalize x.p[j]=p at Qw next vo
   have Vl:qs[j]'(by omega)=p:=by
    rw[jl (by omega)]at Qw;simpa using Qw
   have JS:=qY p vo;refine aL (λ_ W4=>∃Hl,Hl=(x.p.take (j+1)).map (λp=>if ku (av g.m) x.m p=true then-1 else p)++x.p.drop (j+1)/\
    St aA w W4 [aq 1 y.ps (Hl.map iv),aa r3 (aj y),aq 1 y.ds (y.d.map ub),aN ((ys.eraseIdx i).map aG),aq 1 to (T'.map iv),aa r2 [slV q,slV u],aq 3 q (ys.flatMap aj),aq 2 u (g.rs.flatMap ay),aq 1 sn ((av g.m).map bv),aa r1 [.slice none 0 0,.slice none 0 0],aa r [slV g.gn,slV g.gr]]) ?_ ?_
   rotate_left
   ·rintro⟨⟩ W4 ⟨Hl,h1,s'⟩
    rw[ax (by omega)];exact⟨⟨j+1,Hl,rfl,by omega,h1,s'⟩,by omega⟩
   obtain⟨RR,vw⟩:∃RR:Bool->Pr,RR=(λs' W4=>s'=ku (av g.m) x.m p/\St aA w W4 [aq 1 y.ps (qs.map iv),aa r3 (aj y),aq 1 y.ds (y.d.map ub),aN ((ys.eraseIdx i).map aG),aq 1 to (T'.map iv),aa r2 [slV q,slV u],aq 3 q (ys.flatMap aj),aq 2 u (g.rs.flatMap ay),aq 1 sn ((av g.m).map bv),aa r1 [.slice none 0 0,.slice none 0 0],aa r [slV g.gn,slV g.gr]]):=⟨_,rfl⟩;refine aL RR ?_ ?_
   rotate_left
   ·intro s' W4 Vm
    rw[vw]at Vm;obtain⟨rfl,GQ⟩:=Vm;refine ah (λhc=>?_) λhc=>?_
    ·rw[hc,jd rfl]at next
     refine(GQ.af 1).ld (i:=1) (s:=.slice) (p:=y.ps) rfl ⟨⟨by omega,by omega⟩,?_⟩;rw[jk];exact ez GQ (i:=j) (by simp;omega) trivial λQq G8=>⟨qs.set j (-1),next,by rw[List.map_set];exact G8⟩
    ·rw[hc,jc (by simp)]at next
     refine⟨qs,?_,GQ⟩;rw[<-next];exact List.ext_getElem? λm=>by
      rw[List.getElem?_set];split
      ·rename_i he;subst he;rw[jd (by omega),Qw]
      ·rfl
   have tail:∀W4,St aA w W4 [aq 1 y.ps (qs.map iv),aa r3 (aj y),aq 1 y.ds (y.d.map ub),aN ((ys.eraseIdx i).map aG),aq 1 to (T'.map iv),aa r2 [slV q,slV u],aq 3 q (ys.flatMap aj),aq 2 u (g.rs.flatMap ay),aq 1 sn ((av g.m).map bv),aa r1 [.slice none 0 0,.slice none 0 0],aa r [slV g.gn,slV g.gr]]->
    ∀R:Bool->Pr,R (decide (x.k=2)&&(decide (0<=p)&& !((av g.m)[p.toNat]?).getD false)) W4->
    (au (.int .i64) (Addr.add ⟨r3,0,none⟩ 0) λ(t85:Int)=>br (t85==2) (au .slice (Addr.add ⟨r3,0,none⟩ 1) λ(t89:Sl)=>aP ((0:Int)<=(j:Int)/\(j:Int)<(t89.len:Int))<|deref t89.a λa=>au (.int .i64) (a.add (Int.toNat (j:Int)*1)) λ(t92:Int)=>
      br (decide (t92>=0)) (au .slice (Addr.add ⟨r3,0,none⟩ 1) λ(t98:Sl)=>aP ((0:Int)<=(j:Int)/\(j:Int)<(t98.len:Int))<|deref t98.a λa=>au (.int .i64) (a.add (Int.toNat (j:Int)*1)) λ(t101:Int)=>
       aP ((0:Int)<=t101/\t101<(sn.len:Int))<|deref sn.a λa=>au .bool (a.add (Int.toNat t101*1)) λ(t103:Bool)=>R (!t103)) (R false)) (R false)) W4:=by
    intro W4 s4 R hR;refine(s4.af 1).ld (i:=0) (s:=.int .i64) (p:=y.k) rfl ?_;rw[M7];refine ah (λh2=>?_) λh2=>?_
    ·rw[decide_eq_true (by simpa using h2),Bool.true_and]at hR
     refine(s4.af 1).ld (i:=1) (s:=.slice) (p:=y.ps) rfl ⟨⟨by omega,by omega⟩,?_⟩;rw[jk];refine IS.at (bz.ms s4.sl) (i:=j) (by omega) ?_;rw[Vl];refine ah (λh0=>?_) λh0=>?_
     ·have h0:0<=p:=by simpa using h0
      rw[decide_eq_true h0,Bool.true_and]at hR;refine(s4.af 1).ld (i:=1) (s:=.slice) (p:=y.ps) rfl ⟨⟨by omega,by omega⟩,?_⟩;refine IS.at (bz.ms s4.sl) (i:=j) (by omega) ?_;rw[Vl];refine⟨⟨h0,by omega⟩,?_⟩;refine BL.at (St.bl (s4.af 8)) (i:=p.toNat) (by omega) ?_;rw[jl (by omega)]at hR;exact hR
     ·have h0:¬0<=p:=by simpa using h0
      rw[decide_eq_false h0,Bool.false_and]at hR;exact hR
    ·rw[decide_eq_false (by simpa using h2),Bool.false_and]at hR
     exact hR
   refine(fE.af 1).ld (i:=0) (s:=.int .i64) (p:=y.k) rfl ?_;rw[M7];refine ah (λh3=>?_) λh3=>?_
   ·have h3:x.k=3:=by simpa using h3
    refine(fE.af 10).ld (i:=0) (s:=.slice) (p:=g.gn) rfl ⟨⟨by omega,by omega⟩,?_⟩;rw[jk];refine(hg.grow fE.bh).node kT ?_;refine ak (UU x sn (av g.m) W3 ((hg.grow fE.bh).rn fD) (St.bl (fE.af 8)) qY) ?_;rintro _ W4 ⟨rfl,g4⟩;have GQ:=fE.grow g4;refine ah (λhl=>?_) λhl=>?_
    ·rw[vw]
     refine⟨?_,GQ⟩;unfold ku;rw[decide_eq_true (show x.m.k=3 from h3),Bool.true_and,hl];rfl
    ·refine tail W4 GQ RR ?_
     rw[vw];refine⟨?_,GQ⟩;unfold ku;rw[hl,Bool.and_false,Bool.false_or];rfl
   ·refine tail W3 fE RR ?_
    rw[vw];refine⟨?_,fE⟩;unfold ku;rw[decide_eq_false (show¬x.m.k=3 from(by simpa using h3:¬x.k=3)),Bool.false_and,Bool.false_or];rfl
  ·simp only[ja]at ij
   rw[List.take_of_length_le (by omega),List.drop_of_length_le (by omega),List.append_nil]at vh;have G8:St aA w W3 (aG (NS.mk y.k y.ps qs y.ds y.d)::_):=St.eG (xs:=[aq 1 y.ps (qs.map iv),aq 1 y.ds (y.d.map ub)]) (fE.bE [0,2,3,4,5,6,7,8,9,10] 11);have Hy:=x3 G8 Hw;have Hy:St aA w W3 [aN ((ys.set i (NS.mk y.k y.ps qs y.ds y.d)).map aG),aq 1 to (T'.map iv),aa r2 [slV q,slV u],aq 3 q (ys.flatMap aj),aq 2 u (g.rs.flatMap ay),aq 1 sn ((av g.m).map bv),aa r1 [.slice none 0 0,.slice none 0 0],aa r [slV g.gn,slV g.gr]]:=Hy;rw[<-K7 (z:=NS.mk y.k y.ps qs y.ds y.d) Hw rfl]at Hy;rw[ax (by omega)];refine⟨⟨i+1,T',_,rfl,by omega,Rr,Xs,⟨by rw[List.length_set,hml,mg],λj' z hz=>?_⟩,Hy.bE [1,2,3,0,4,5,6,7] 8⟩,by omega⟩;rcases Nat.lt_trichotomy j' i with h|h|h
   ·rw[List.getElem?_set_ne (by omega)]at hz
    rw[gS.2 j' z hz,jd h,jd (by omega)]
   ·subst h
    rw[List.getElem?_set_self (by omega)]at hz;simp only[jg]at hz;subst hz;rw[jd (by omega),hna];show GN.mk y.k qs y.d=GN.mk x.k _ x.d;rw[M7,M6,vh]
    congr 1
    apply List.map_congr_left;intro p hp;exact DL (DH.2 p hp).1
   ·rw[List.getElem?_set_ne (by omega)]at hz
    rw[gS.2 j' z hz,jc (by omega),jc (by omega)]
 ·simp only[ja]at hge
  have Rq:i=g.xs.length:=by omega
  subst Rq;rw[<-hml]at gS;obtain⟨m1,m2⟩:=DM (q:=q) (u:=u) gS hok;have j4:(GS.mk q u ys g.rs).small:=x4 (q:=q) (u:=u) gS (GS.cJ.1 hg.sm);refine bY.aQ (l:=[.slice,.slice]) (p:=(q,u)) (sW.af 1).box ?_;have s9:St aA w W' (dG (GS.mk q u ys g.rs)::_):=dG.mk (sW.bE [2,3,4,0,6] 8);refine ak (U9 (GS.mk q u ys g.rs) to (dL (av g.m)) T W' (St.rg s9 j4) (bz.ms sW.sl) (by rw[K8,<-mg]) (λj hj=>hT j hj (by omega)) m1) ?_;rintro⟨a,b⟩ iF ⟨c,rfl,rfl,hc,DI⟩;have bH:=s9.aZ DI;refine(bH.af 3).st (i:=0) (by simp) trivial λoW cR=>cR.st (i:=1) (by simp) trivial λrK eH=>?_;refine bY.aQ (l:=[.slice,.slice]) (p:=(c.gn,c.gr)) eH.box ?_;refine .inl ⟨hok,rfl,c,rfl,rfl,by rw[hc];exact m2,eH.bE [1] 4⟩
theorem Ad{w0 w:World}{L:List HA}{bs bl:Nat}{st:gQ}{p:Int}{k:Unit->Pr}(h:St aA w0 w (de bs bl st::L))(hp:p<st.1.length)(hl:st.2.length<=20000)
 (hk:∀w',St aA w0 w' (de bs bl (cT st p)::L)->k () w'):
 cE Pq (.func (.func 55) #[] #[.pointer (some ⟨bs,0,none⟩),.pointer (some ⟨bl,0,none⟩)]) [.int .i64 p] [] k w:=by
 obtain⟨F,H,_,h1,h2,h3,h4,h5⟩:=h.ee;refine fL rfl (by kernel_rfl) (WS p bs bl st w F h1 hp (by omega)) ?_;rintro⟨⟩ w' s;exact hk w' (h5 w' _ s)
theorem iZ{st:gQ}{l:List Int}{j:Nat}(h:j<l.length):bM st (l.take (j+1))=cT (bM st (l.take j)) l[j]:=by
 rw[List.take_add_one,jl h,mj];rfl
theorem Vn(g:GS)(w:World)(hg:RG w aA g):Calls Pq 21 #[g.v] w (aC [.agg [.slice,.slice],.c (.int .i64)] λr w'=>Hu kz g.m w r w'):=by
 refine BF g.gn g.gr _ _ ?_;unfold Vo;simp only[ag];refine St.nw (St.bp w) λr w1 s1 _ _=>St.nw s1 λr1 w2 s2 _ _=>?_;refine bY.aQ (l:=[.slice,.slice]) (p:=(g.gn,g.gr)) (s2.af 1).box ?_;refine ak (Xo g _ (hg.grow s2.bh)) ?_;rintro⟨⟨cn,cr⟩,e⟩ w3 (⟨hok,rfl,c,rfl,rfl,kU,k3⟩|⟨iX,rfl,hr,g3⟩)
 rotate_left
 ·have s3:=s2.grow g3
  simp only[Prod.mk.injEq]at hr;obtain⟨rfl,rfl⟩:=hr;refine St.nw s3 λr2 w4 s4 _ _=>s4.st (i:=0) (by simp) trivial λw5 s5=>s5.st (i:=1) (by simp) trivial λw6 s6=>?_;refine ah (λ_=>?_) λh=>by simp at h
  refine bY.aQ (l:=[.slice,.slice]) (p:=(⟨none,0,0⟩,⟨none,0,0⟩)) s6.box ?_;refine(s6.af 1).st (i:=0) (by simp) trivial λw7 s7=>s7.st (i:=1) (by simp) trivial λw8 s8=>?_;refine bY.aQ (l:=[.slice,.slice]) (p:=(⟨none,0,0⟩,⟨none,0,0⟩)) s8.box ?_;exact .inr ⟨iX,rfl,rfl,s8.bh⟩
 have s3:=s2.aZ k3;dsimp only at kU s3⊢;have hwf:Hz c.m:=by rw[kU];exact jA hok
 have j4:c.small:=GS.cJ.2 (by rw[kU];exact iq hok);have hn2:=j4.nl;have xK:=j4.rl;have hml:c.m.n.length=c.xs.length:=by simp[GS.m]
 have K9:kz g.m=eO c.m (ir c.m):=by unfold kz x5;rw[kU]
 clear kU;refine St.nw s3 λr2 w4 s4 _ _=>s4.st (i:=0) (by simp) trivial λw5 s5=>s5.st (i:=1) (by simp) trivial λw6 s6=>?_;have s6:St aA w w6 [aa r2 [slV c.gn,slV c.gr],dG c,aa r1 [.slice none 0 0,.slice none 0 0],aa r [slV g.gn,slV g.gr]]:=s6;refine ah (λh=>by simp at h) λ_=>?_;refine s6.ld (i:=0) (s:=.slice) (p:=c.gn) rfl ?_;have gy:=(St.rg (s6.af 1) j4).nl;have hrl:=(St.rg (s6.af 1) j4).rl;refine s6.vp c.xs.length (by omega) rfl (by omega) (by omega) λt w7 s7 kq=>?_;rw[lB]at s7;refine⟨trivial,St.nw s7 λr3 w8 s8 _ _=>s8.KR trivial λw9 s9=>⟨trivial,St.nw s9 λr4 iF bH _ _=>?_⟩⟩;have cR:St aA w iF [de r3 r4 (List.replicate c.m.n.length false,[]),aa r2 [slV c.gn,slV c.gr],dG c,aa r1 [.slice none 0 0,.slice none 0 0],aa r [slV g.gn,slV g.gr]]:=by
  refine St.iI (t,⟨none,0,0⟩) ?_;have s7:=(bH.fe 1);have e:(List.replicate c.m.n.length false).map bv=List.replicate c.xs.length (.bool false):=by rw[List.map_replicate,hml]
  show St aA w iF [aq 1 t ((List.replicate c.m.n.length false).map bv),aa r3 [slV t],aq 1 ⟨none,0,0⟩ [],aa r4 [slV ⟨none,0,0⟩],aa r2 [slV c.gn,slV c.gr],dG c,aa r1 [.slice none 0 0,.slice none 0 0],aa r [slV g.gn,slV g.gr]];rw[e];exact s7.bE [3,2,0,1,4,5,6,7] 8
 clear s7 s8 s9 bH;refine(cR.af 1).ld (i:=1) (s:=.slice) (p:=c.gr) rfl ?_;refine aB (λz W=>∃j:Nat,z=j/\j<=c.rs.length/\St aA w W [de r3 r4 (bM (List.replicate c.m.n.length false,[]) ((c.rs.map (·.2)).take j)),aa r2 [slV c.gn,slV c.gr],dG c,aa r1 [.slice none 0 0,.slice none 0 0],aa r [slV g.gn,slV g.gr]])
  (λz _=>c.rs.length-z.toNat) ⟨0,rfl,by omega,cR⟩ ?_
 rintro _ W ⟨j,rfl,hj,sW⟩;have hlen:=rN ((c.rs.map (·.2)).take j) (List.replicate c.m.n.length false,[]);simp only[kh,List.length_nil,Nat.zero_add,jr,je]at hlen;refine ah (λhlt=>?_) λhge=>?_
 ·simp only[jb]at hlt
  have hjl:j<c.rs.length:=by omega
  refine⟨⟨by omega,by omega⟩,?_⟩;rw[jk];have iD:c.rs[j]? =some c.rs[j]:=by simp[hjl]
  have hmem:c.rs[j]∈c.m.r:=List.getElem_mem hjl;refine(St.rg (sW.af 2) j4).root iD ?_;have hrb:=hwf.r _ hmem;have gz:=iZ (st:=(List.replicate c.m.n.length false,[])) (l:=c.rs.map (·.2)) (j:=j) (by simpa using hjl);rw[List.getElem_map]at gz;generalize c.rs[j]=rr at iD hmem hrb gz⊢;refine St.nw sW λr5 w8 s8 _ _=>s8.st (i:=0) (by simp) trivial λw9 s9=>s9.st (i:=1) (by simp) trivial λiF bH=>?_;refine bH.ld (i:=1) (s:=.int .i64) (p:=rr.2) rfl ?_;refine Ad (bH.af 1) (by rw[hlen.1];exact hrb.2) (by omega) λoW cR=>?_;rw[ax (by omega),<-gz]at *;exact⟨⟨j+1,rfl,by omega,cR.bE [0,2,3,4,5] 6⟩,by omega⟩
 simp only[ja]at hge;rw[List.take_of_length_le (by rw[je];omega)]at sW;clear hlen;refine aB (λz W=>∃(a:Nat) (st:gQ),z=a/\pW c.m a st/\mq c.m (c.m.n.length-a) a st=mq c.m c.m.n.length 0 (sZ c.m)/\St aA w W [de r3 r4 st,aa r2 [slV c.gn,slV c.gr],dG c,aa r1 [.slice none 0 0,.slice none 0 0],aa r [slV g.gn,slV g.gr]])
  (λz _=>c.xs.length-z.toNat) ⟨0,_,rfl,DO hwf,rfl,sW⟩ ?_
 rintro _ W2 ⟨a,st,rfl,hB,x6,iU⟩;obtain⟨sn,ls,b1,b2,b3,b4⟩:=de.rd iU;have hls:=b4.len;have hle:=hB.met.le;rw[hml]at hle;refine dD (s:=.slice) (p:=ls) b3.fK ?_;refine ah (λhlt=>?_) λhge=>?_
 ·simp only[jb]at hlt
  have xz:a<st.2.length:=by omega
  rw[aR];have s8:=iU.drew;obtain⟨sn,ls,b1,b2,b3,b4⟩:=de.rd s8;have hls:=b4.len;refine(s8.af 1).ld (i:=0) (s:=.slice) (p:=c.gn) rfl ?_;refine dD (s:=.slice) (p:=ls) b3.fK ⟨⟨by omega,by omega⟩,?_⟩;rw[jk];refine IS.at b4 xz ?_;have Dh:=hB.met.pQ (List.getElem_mem xz);rw[hml]at Dh;have hst:=hB.step hwf xz;have Ae:=vz hB xz;rw[x6]at Ae;generalize st.2[a]=x at Dh hst Ae⊢;refine⟨⟨Dh.1,by omega⟩,?_⟩;have ko:x.toNat<c.xs.length:=by omega
  have kT:c.xs[x.toNat]? =some c.xs[x.toNat]:=by simp[ko]
  have fD:c.xs[x.toNat]∈c.xs:=List.getElem_mem ko;have GO:c.xs[x.toNat].m∈c.m.n:=kg.2 ⟨_,fD,rfl⟩;rw[fN ko]at hst Ae;generalize c.xs[x.toNat]=y at kT fD GO hst Ae;refine(St.rg (s8.af 2) j4).od (j:=1) (c:=.slice) (p:=y.ps) kT rfl ?_;have hyp:=j4.pl y fD;have mg:=((St.rg (s8.af 2) j4).ip y fD).len;have JS:=hwf.p _ GO;refine aB (λz W3=>∃k:Nat,z=k/\k<=y.p.length/\St aA w W3 [de r3 r4 (bM st (y.p.take k)),aa r2 [slV c.gn,slV c.gr],dG c,aa r1 [.slice none 0 0,.slice none 0 0],aa r [slV g.gn,slV g.gr]])
   (λz _=>y.p.length-z.toNat) ⟨0,rfl,by omega,s8⟩ ?_
  rintro _ W3 ⟨k,rfl,hk,fE⟩;refine ah (λig=>?_) λij=>?_
  ·simp only[jb]at ig
   have nt:k<y.p.length:=by omega
   refine⟨⟨by omega,by omega⟩,?_⟩;rw[jk];refine IS.at ((St.rg (fE.af 2) j4).ip y fD) nt ?_;obtain⟨m1,_⟩:=hB.met.steps (y.p.take k);have Rs:=m1.le;rw[hml]at Rs;refine Ad fE (by rw[m1.len];exact JS _ (List.getElem_mem nt)) (by omega) λoW cR=>?_;rw[<-iZ nt]at cR;rw[ax (by omega)];exact⟨⟨k+1,rfl,by omega,cR⟩,by omega⟩
  ·simp only[ja]at ij
   rw[List.take_of_length_le (by omega)]at fE;rw[ax (by omega)];exact⟨⟨a+1,_,rfl,hst,Ae.symm,fE⟩,by omega⟩
 ·simp only[ja]at hge
  rw[vA _ (by omega)]at x6;have DP:st.2=ir c.m:=by unfold ir;rw[x6]
  rw[DP]at b4;refine bY.aQ (l:=[.slice,.slice]) (p:=(c.gn,c.gr)) (iU.af 1).box ?_;refine dD (s:=.slice) (p:=ls) b3.fK ?_;refine ak (U6 c ls (ir c.m) W2 (St.rg (iU.af 2) j4) b4 (gY hwf)) ?_;rintro⟨a',b'⟩ iF ⟨d,rfl,rfl,hd,DI⟩;have bH:=iU.aZ DI;refine(bH.af 4).st (i:=0) (by simp) trivial λoW cR=>cR.st (i:=1) (by simp) trivial λrK eH=>?_;refine bY.aQ (l:=[.slice,.slice]) (p:=(d.gn,d.gr)) eH.box ?_;exact .inl ⟨hok,rfl,d,rfl,rfl,by rw[hd,K9],eH.bE [1] 6⟩
def tc(n:Nat)(l:List Int):List Int:=(List.range n).map (sY l)
@[simp]theorem Af(n:Nat)(l:List Int):(tc n l).length=n:=by simp[tc]
theorem td{n:Nat}{l:List Int}{i:Nat}(h:i<(tc n l).length):(tc n l)[i]=sY l i:=by simp[tc]
theorem HB(n:Nat):tc n []=List.replicate n (-1):=by
 unfold tc;refine List.ext_getElem (by simp) λi h1 h2=>?_;simp[sY]
theorem La{l:List Int}{i:Nat}:decide (sY l i>=0)=decide ((i:Int)∈l):=by
 unfold sY;by_cases h:(i:Int)∈l
 ·rw[jd h,decide_eq_true h,decide_eq_true (by omega)]
 ·rw[jc h,decide_eq_false h];rfl
theorem DQ{l:List Int}{x p:Int}(h:x∈l):dK (l++[p]) x=dK l x:=by
 unfold dK;rw[List.findIdx_append,jd (List.findIdx_lt_length_of_exists ⟨x,h,by simp⟩)]
theorem DR{n:Nat}{l:List Int}{p:Int}(h0:0<=p)(hp:p∉l):tc n (l++[p])=(tc n l).set p.toNat (l.length:Int):=by
 refine List.ext_getElem (by simp) λi h1 h2=>?_;rw[td,List.getElem_set];split
 ·rename_i he
  subst he;have hm:p∈l++[p]:=by simp
  rw[DE h0 hm]
  congr 1
  unfold dK;rw[List.findIdx_append,jc]
  ·simp
  ·intro hlt
   have:=List.findIdx_getElem (w:=hlt);exact hp (by have h2:=eq_of_beq this;rw[<-h2];exact List.getElem_mem _)
 ·rename_i hne
  rw[td];unfold sY;have e:((i:Int)∈l++[p])↔(i:Int)∈l:=by
   rw[jy,jo];exact⟨λh=>h.elim id λh=>absurd h (by omega),.inl⟩
  by_cases hm:(i:Int)∈l
  ·rw[jd hm,jd (e.2 hm),DQ hm]
  ·rw[jc hm,jc (λh=>hm (e.1 h))]
theorem Xw(n:Nat)(ts ls:Sl)(p:Int)(st:gQ)(w:World)(F:Nat->Prop)(h:Has [aq 1 ts ((tc n st.2).map iv),aq 1 ls (st.2.map iv)] w F)(hm:pP n st)(hp:p<n)(hl:n<=1000000):
 Calls Pq 34 #[slV ts,slV ls,.int .i64 p] w (aC [.c .slice] λr w'=>St F w w' [aq 1 ts ((tc n (cT st p).2).map iv),aq 1 r ((cT st p).2.map iv)]):=by
 refine BG ts ls p _ _ ?_;unfold Vp;simp only[ag];have s:=St.init h;have kq:=aT s.sl;have xq:=aT (s.af 1).sl;rw[je,Af]at kq;rw[je]at xq;have hle:=hm.le;have JT:(cT st p).2=if 0<=p/\p∉st.2 then st.2++[p]else st.2:=by
  unfold cT;have e:(0<=p/\st.1[p.toNat]? =some false)↔(0<=p/\p∉st.2):=by
   constructor
   ·rintro⟨h0,h1⟩
    refine⟨h0,λhin=>?_⟩;have:=(hm.mem p hin).2;rw[h1]at this;cases this
   ·rintro⟨h0,h1⟩
    refine⟨h0,?_⟩;have hlt:p.toNat<st.1.length:=by rw[hm.len];omega
    rw[jl hlt];cases hb:st.1[p.toNat]with
    |false=>rfl
    |true=>exact absurd (hm.in h0 (by rw[jl hlt,hb])) h1
  by_cases hc:0<=p/\p∉st.2
  ·rw[jd (e.2 hc),jd hc]
  ·rw[jc (λh=>hc (e.1 h)),jc hc]
 refine aL (λs' W'=>s'= !decide (0<=p/\p∉st.2)/\W'=w) ?_ ?_
 ·refine ah (λh0=>?_) λh0=>?_
  ·have h0:p<0:=by simpa using h0
   exact⟨by rw[decide_eq_false (by omega)];rfl,rfl⟩
  ·have h0:0<=p:=by simpa using h0
   refine⟨⟨h0,by omega⟩,?_⟩;refine IS.at (l:=tc n st.2) (bz.ms s.sl) (i:=p.toNat) (by simp;omega) ⟨?_,rfl⟩;rw[td,La,show((p.toNat:Nat):Int)=p by omega];by_cases hc:p∈st.2
   ·simp[hc]
   ·simp[hc,h0]
 rintro _ W' ⟨rfl,rfl⟩;refine ah (λhb=>?_) λhb=>?_
 ·simp only[Bool.not_eq_true',ja]at hb
  rw[JT,jc hb];exact s
 ·simp only[Bool.not_eq_false',jb]at hb
  rw[JT,jd hb,DR hb.1 hb.2];refine⟨⟨hb.1,by omega⟩,?_⟩;rw[xq];refine ez s (i:=p.toNat) (by simp;omega) trivial λw2 s2=>St.nw s2 λr w3 s3 _ _=>?_;refine gE (s3.bE [0,2,1] 3) (by omega) λt w4 s4=>?_;rw[List.map_set];exact s4.bE [2,0] 3
theorem Ah{w0 w:World}{L:List HA}{n:Nat}{ts ls:Sl}{st:gQ}{p:Int}{k:Sl->Pr}(h:St aA w0 w (aq 1 ts ((tc n st.2).map iv)::aq 1 ls (st.2.map iv)::L))(hm:pP n st)(hp:p<n)(hl:n<=1000000)
 (hk:∀r w',St aA w0 w' (aq 1 ts ((tc n (cT st p).2).map iv)::aq 1 r ((cT st p).2.map iv)::L)->k r w'):
 aH Pq 34 [.slice ts.a ts.len ts.cap,.slice ls.a ls.len ls.cap,.int .i64 p] [.c .slice] k w:=by
 obtain⟨F,H,h1,h2,h3,h4,h5⟩:=St.call [aq 1 ts ((tc n st.2).map iv),aq 1 ls (st.2.map iv)] h;exact ak (Xw n ts ls p st w F h1 hm hp hl) λr w' s'=>hk r w' (h5 w' _ s')
theorem Xx(g:GS)(w:World)(hg:RG w aA g):Calls Pq 14 #[g.v] w (aC [.agg [.slice,.slice],.c (.int .i64)] λr w'=>Hu kz g.m w r w'):=by
 refine BH g.gn g.gr _ _ ?_;unfold Vq;simp only[ag];refine St.nw (St.bp w) λr w1 s1 _ _=>St.nw s1 λr1 w2 s2 _ _=>?_;refine bY.aQ (l:=[.slice,.slice]) (p:=(g.gn,g.gr)) (s2.af 1).box ?_;refine ak (Xr g _ (hg.grow s2.bh)) ?_;rintro⟨⟨cn,cr⟩,e⟩ w3 (⟨hok,rfl,c,rfl,rfl,kU,k3⟩|⟨iX,rfl,hr,g3⟩)
 rotate_left
 ·have s3:=s2.grow g3
  simp only[Prod.mk.injEq]at hr;obtain⟨rfl,rfl⟩:=hr;refine St.nw s3 λr2 w4 s4 _ _=>s4.st (i:=0) (by simp) trivial λw5 s5=>s5.st (i:=1) (by simp) trivial λw6 s6=>?_;refine ah (λ_=>?_) λh=>by simp at h
  refine(s6.af 1).st (i:=0) (by simp) trivial λw7 s7=>s7.st (i:=1) (by simp) trivial λw8 s8=>?_;refine bY.aQ (l:=[.slice,.slice]) (p:=(⟨none,0,0⟩,⟨none,0,0⟩)) s8.box ?_;exact .inr ⟨iX,rfl,rfl,s8.bh⟩
 have s3:=s2.aZ k3;dsimp only at kU s3⊢;have hwf:Hz c.m:=by rw[kU];exact jA hok
 have j4:c.small:=GS.cJ.2 (by rw[kU];exact iq hok);have hn2:=j4.nl;have xK:=j4.rl;have hml:c.m.n.length=c.xs.length:=by simp[GS.m]
 have K9:kz g.m=eO c.m (ir c.m):=by unfold kz x5;rw[kU]
 clear kU;refine St.nw s3 λr2 w4 s4 _ _=>s4.st (i:=0) (by simp) trivial λw5 s5=>s5.st (i:=1) (by simp) trivial λw6 s6=>?_;have s6:St aA w w6 [aa r2 [slV c.gn,slV c.gr],dG c,aa r1 [.slice none 0 0,.slice none 0 0],aa r [slV g.gn,slV g.gr]]:=s6;refine ah (λh=>by simp at h) λ_=>?_;refine s6.ld (i:=0) (s:=.slice) (p:=c.gn) rfl ?_;have gy:=(St.rg (s6.af 1) j4).nl;have hrl:=(St.rg (s6.af 1) j4).rl;refine s6.vp c.xs.length (by omega) rfl (by omega) (by omega) λts w7 s7 kq=>?_;rw[lB]at s7;have s7:St aA w w7 [aq 1 ts ((List.replicate c.xs.length (0:Int)).map iv),aa r2 [slV c.gn,slV c.gr],dG c,aa r1 [.slice none 0 0,.slice none 0 0],aa r [slV g.gn,slV g.gr]]:=by
  rw[List.map_replicate];exact s7
 refine aB (λz W=>∃(j:Nat) (T:List Int),z=j/\j<=c.xs.length/\T.length=c.xs.length/\(∀i (h:i<T.length),i<j->T[i]= -1)/\St aA w W [aq 1 ts (T.map iv),aa r2 [slV c.gn,slV c.gr],dG c,aa r1 [.slice none 0 0,.slice none 0 0],aa r [slV g.gn,slV g.gr]])
  (λz _=>c.xs.length-z.toNat) ⟨0,_,rfl,by omega,by simp,λ_ _ h=>by omega,s7⟩ ?_
 rintro _ W ⟨j,T,rfl,hj,K8,hT,sW⟩;refine ah (λhlt=>?_) λhge=>?_
 ·simp only[jb]at hlt
  refine⟨⟨by omega,by omega⟩,?_⟩;rw[jk];refine ez sW (i:=j) (by simp;omega) trivial λw8 s8=>?_;rw[ax (by omega)];refine⟨⟨j+1,T.set j (-1),rfl,by omega,by simpa using K8,λi hi hij=>?_,by rw[List.map_set];exact s8⟩,by omega⟩;rw[List.getElem_set];split
  ·rfl
  ·exact hT i _ (by omega)
 simp only[ja]at hge;have Vr:T=tc c.m.n.length []:=by
  rw[HB];refine List.ext_getElem (by simp[K8,hml]) λi h1 h2=>?_;rw[hT i h1 (by omega),List.getElem_replicate]
 rw[Vr]at sW;clear hT Vr K8 s7;refine aB (λz W=>∃(j:Nat) (ls:Sl),z=(ls,(j:Int))/\j<=c.rs.length/\
  St aA w W [aq 1 ts ((tc c.m.n.length (bM (List.replicate c.m.n.length false,[]) ((c.rs.map (·.2)).take j)).2).map iv),aq 1 ls ((bM (List.replicate c.m.n.length false,[]) ((c.rs.map (·.2)).take j)).2.map iv),aa r2 [slV c.gn,slV c.gr],dG c,aa r1 [.slice none 0 0,.slice none 0 0],aa r [slV g.gn,slV g.gr]])
  (λz _=>c.rs.length-z.2.toNat) ⟨0,_,rfl,by omega,(sW.fe 1).af 1⟩ ?_
 rintro _ W ⟨j,ls,rfl,hj,sW⟩;dsimp only;refine(sW.af 2).ld (i:=1) (s:=.slice) (p:=c.gr) rfl ?_;refine ah (λhlt=>?_) λhge=>?_
 ·simp only[jb]at hlt
  have hjl:j<c.rs.length:=by omega
  refine(sW.af 2).ld (i:=1) (s:=.slice) (p:=c.gr) rfl ⟨⟨by omega,by omega⟩,?_⟩;rw[jk];have iD:c.rs[j]? =some c.rs[j]:=by simp[hjl]
  have hmem:c.rs[j]∈c.m.r:=List.getElem_mem hjl;have hrb:=hwf.r _ hmem;have gz:=iZ (st:=(List.replicate c.m.n.length false,[])) (l:=c.rs.map (·.2)) (j:=j) (by simpa using hjl);rw[List.getElem_map]at gz;refine(St.rg (sW.af 3) j4).oc (j:=1) (c:=.int .i64) (p:=c.rs[j].2) iD rfl ?_;generalize c.rs[j]=rr at iD hmem hrb gz⊢;obtain⟨m1,_⟩:=(NK c.m.n.length).steps ((c.rs.map (·.2)).take j);refine Ah sW m1 hrb.2 (by omega) λls' oW cR=>?_;rw[<-gz]at cR;rw[ax (by omega)];exact⟨⟨j+1,ls',rfl,by omega,cR⟩,by omega⟩
 simp only[ja]at hge;rw[List.take_of_length_le (by rw[je];omega)]at sW;refine aB (λz W=>∃(a:Nat) (ls:Sl) (st:gQ),z=(ls,(a:Int))/\pW c.m a st/\mq c.m (c.m.n.length-a) a st=mq c.m c.m.n.length 0 (sZ c.m)/\St aA w W [aq 1 ts ((tc c.m.n.length st.2).map iv),aq 1 ls (st.2.map iv),aa r2 [slV c.gn,slV c.gr],dG c,aa r1 [.slice none 0 0,.slice none 0 0],aa r [slV g.gn,slV g.gr]])
  (λz _=>c.xs.length-z.2.toNat) ⟨0,_,_,rfl,DO hwf,rfl,sW⟩ ?_
 rintro _ W2 ⟨a,ls,st,rfl,hB,x6,iU⟩;dsimp only;have hls:=aT (iU.af 1).sl;rw[je]at hls;have hle:=hB.met.le;rw[hml]at hle;refine ah (λhlt=>?_) λhge=>?_
 ·simp only[jb]at hlt
  have xz:a<st.2.length:=by omega
  rw[aR];have s8:=iU.drew;refine(s8.af 2).ld (i:=0) (s:=.slice) (p:=c.gn) rfl ⟨⟨by omega,by omega⟩,?_⟩;rw[jk];refine IS.at (l:=st.2) (bz.ms (s8.af 1).sl) xz ?_;have Dh:=hB.met.pQ (List.getElem_mem xz);rw[hml]at Dh;have hst:=hB.step hwf xz;have Ae:=vz hB xz;rw[x6]at Ae;generalize st.2[a]=x at Dh hst Ae⊢;refine⟨⟨Dh.1,by omega⟩,?_⟩;have ko:x.toNat<c.xs.length:=by omega
  have kT:c.xs[x.toNat]? =some c.xs[x.toNat]:=by simp[ko]
  have fD:c.xs[x.toNat]∈c.xs:=List.getElem_mem ko;have GO:c.xs[x.toNat].m∈c.m.n:=kg.2 ⟨_,fD,rfl⟩;rw[fN ko]at hst Ae;generalize c.xs[x.toNat]=y at kT fD GO hst Ae;refine(St.rg (s8.af 3) j4).node kT ?_;have hyp:=j4.pl y fD;have mg:=((St.rg (s8.af 3) j4).ip y fD).len;have JS:=hwf.p _ GO;refine St.nw s8 λr3 w9 s9 _ _=>s9.st (i:=0) (by simp) trivial λiF bH=>bH.st (i:=1) (by simp) trivial λoW cR=>cR.st (i:=2) (by simp) trivial λrK eH=>?_;refine aB (λz W3=>∃(k:Nat) (ls:Sl),z=(ls,(k:Int))/\k<=y.p.length/\St aA w W3 [aq 1 ts ((tc c.m.n.length (bM st (y.p.take k)).2).map iv),aq 1 ls ((bM st (y.p.take k)).2.map iv),aa r3 (aj y),aa r2 [slV c.gn,slV c.gr],dG c,aa r1 [.slice none 0 0,.slice none 0 0],aa r [slV g.gn,slV g.gr]])
   (λz _=>y.p.length-z.2.toNat) ⟨0,_,rfl,by omega,eH.bE [1,2,0,3,4,5,6] 7⟩ ?_
  rintro _ W3 ⟨k,ls,rfl,hk,fE⟩;dsimp only;refine(fE.af 2).ld (i:=1) (s:=.slice) (p:=y.ps) rfl ?_;refine ah (λig=>?_) λij=>?_
  ·simp only[jb]at ig
   have nt:k<y.p.length:=by omega
   refine(fE.af 2).ld (i:=1) (s:=.slice) (p:=y.ps) rfl ⟨⟨by omega,by omega⟩,?_⟩;rw[jk];refine IS.at ((St.rg (fE.af 4) j4).ip y fD) nt ?_;obtain⟨m1,_⟩:=hB.met.steps (y.p.take k);refine Ah fE m1 (JS _ (List.getElem_mem nt)) (by omega) λls' oW cR=>?_;rw[<-iZ nt]at cR;rw[ax (by omega)];exact⟨⟨k+1,ls',rfl,by omega,cR⟩,by omega⟩
  ·simp only[ja]at ij
   rw[List.take_of_length_le (by omega)]at fE;rw[ax (by omega)];exact⟨⟨a+1,ls,_,rfl,hst,Ae.symm,fE.bE [0,1,3,4,5,6] 7⟩,by omega⟩
 ·simp only[ja]at hge
  rw[vA _ (by omega)]at x6;have DP:st.2=ir c.m:=by unfold ir;rw[x6]
  rw[DP]at iU;refine bY.aQ (l:=[.slice,.slice]) (p:=(c.gn,c.gr)) (iU.af 2).box ?_;refine ak (U9 c ts (ir c.m) _ W2 (St.rg (iU.af 3) j4) (bz.ms iU.sl) (by rw[Af,hml]) (λi hi=>td hi) (gY hwf)) ?_;rintro⟨a',b'⟩ iF ⟨d,rfl,rfl,hd,DI⟩;have bH:=iU.aZ DI;refine(bH.af 5).st (i:=0) (by simp) trivial λoW cR=>cR.st (i:=1) (by simp) trivial λrK eH=>?_;refine bY.aQ (l:=[.slice,.slice]) (p:=(d.gn,d.gr)) eH.box ?_;exact .inl ⟨hok,rfl,d,rfl,rfl,by rw[hd,K9],eH.bE [1] 7⟩
theorem nF{G:GG}(h:e7 G=true):(kz G).small:=pX (gY (jA h)) (iq h)
set_option maxRecDepth 100000
def Tt:An:=(.sq .z (.sq .z (.sq (.sq .z (.br (.sq .z (.sq .z .z)) .z)) (.sq .z .z))))
def Vt(p0:OA)(p1:Sl)(Q:Int->Pr):Pr:=
 jE<|
 deref p0 λa=>
 deref (some a) λa_1=>
 deref (some (a_1.add 1)) λa_2=>
 au .map a_2 λ(t11:Option Nat)=>
 yS p1 λt13=>
 gd .string t11 (.string t13) (.int .i64) (.int .i64 0) λ(t14:Int) (Pk:Bool)=>
 br (!Pk) (
 deref p0 λbX=>
 deref (some bX) λc6=>
 deref (some (c6.add 0)) λc7=>
 au .slice c7 λ(t22:Sl)=>
 jE<|
 deref p0 λcV=>
 deref (some cV) λdy=>
 deref (some (dy.add 1)) λdO=>
 au .map dO λ(t27:Option Nat)=>
 yS p1 λt29=>
 ej .string t27 (.string t29) (.int .i64 (t22.len:Int))<|
 deref p0 λdP=>
 deref (some dP) λbu=>
 deref (some (bu.add 0)) λbF=>
 au .slice bF λ(t35:Sl)=>
 nw (.cells #[(.slice p1.a p1.len p1.cap)] 22) λr=>
 app 22 1 24 [(.slice none 0 0)] t35 ⟨(some ⟨r,0,none⟩),1,1⟩ λt38=>
 deref p0 λbw=>
 deref (some bw) λbJ=>
 deref (some (bJ.add 0)) λbW=>
 st bW (.slice t38.a t38.len t38.cap)<|
 Q ((t22.len:Int))) (
 Q t14)
theorem BI(p0:OA)(p1:Sl)(Q:Int->Pr)(w:World)(h:Vt p0 p1 Q w):Calls Pq 24 #[(.pointer p0),(slV p1)] w (aC [.c (.int .i64)] Q):=cF (an:=Tt) Tryz.func24 (by kernel_rfl) h
def Tu:An:=(.sq .z (.sq .z (.sq (.sq .z (.bl (.lp [(12,.c (.int .i64))] (.sq .z (.sq (.br .z .z) (.sq (.bl (.sq .z .z)) .z)))))) (.sq .z .z))))
def Vv(aD:Sl)(az:Sl)(Q:OA->Pr):Pr:=
 nw (.cells #[(.slice aD.a aD.len aD.cap),(.slice az.a az.len az.cap)] 32) λr=>
 nw (.map #[] 0) λr_1=>
 nw (.cells #[(.slice none 0 0),(.map (some r_1))] 81) λr_2=>
 deref (some ⟨r,0,none⟩) λa=>
 deref (some (a.add 0)) λa_1=>
 au .slice a_1 λ(t10:Sl)=>
 aM (S:=Int) (λX s=>
 br (decide (s<(t10.len:Int))) (
 aP ((0:Int)<=s/\s<(t10.len:Int))<|
 deref t10.a λa_2=>
 deref (some (a_2.add (Int.toNat s*3))) λbX=>
 aQ [(.int .i64),.slice,.slice] bX λ(t15:Int×Sl×Sl)=>
 nw (.cells #[(.int .i64 0),(.slice none 0 0),(.slice none 0 0)] 62) λr_3=>
 deref (some ⟨r_3,0,none⟩) λc6=>
 st (c6.add 0) (.int .i64 t15.1)<|
 st (c6.add 1) (.slice t15.2.1.a t15.2.1.len t15.2.1.cap)<|
 st (c6.add 2) (.slice t15.2.2.a t15.2.2.len t15.2.2.cap)<|
 deref (some ⟨r_3,0,none⟩) λc7=>
 deref (some (c7.add 2)) λcV=>
 au .slice cV λ(t18:Sl)=>
 aH Pq 24 [(.pointer (some ⟨r_2,0,none⟩)),(.slice t18.a t18.len t18.cap)] [.c (.int .i64)] λ(t19:Int)=>
 X ((IntKind.wrap .i64 (s+1)))) (
 Q ((some ⟨r_2,0,none⟩)))) 0
theorem BJ(aD:Sl)(az:Sl)(Q:OA->Pr)(w:World)(h:Vv aD az Q w):Calls Pq 22 #[(.agg #[(slV aD),(slV az)])] w (aC [.c .ptr] Q):=cF (an:=Tu) Tryz.func22 (by kernel_rfl) h
def Tv:An:=(.sq .z (.sq .z .z))
def Vx(p0:Int)(p1:Value)(Q:Value->Pr):Pr:=
 na p1<|
 nw (.cells #[(.int .i64 p0),p1] 113) λr=>
 Q ((.iface 111 (.pointer (some ⟨r,0,none⟩))))
theorem BK(p0:Int)(p1:Value)(Q:Value->Pr)(w:World)(h:Vx p0 p1 Q w):Calls Pq 17 #[(.int .i64 p0),p1] w (aC [.c .any] Q):=cF (an:=Tv) Tryz.func17 (by kernel_rfl) h
def Tw:An:=(.sq .z (.sq .z (.sq .z (.sq (.sq .z (.bl (.lp [(4,.c .slice),(5,.c .slice),(6,.c (.int .i64))] (.sq (.sq .z (.br .z .z)) (.sq (.bl (.sq .z (.sq (.bl (.lp [(7,.c (.int .i64))] (.sq (.sq (.jn [(33,.c .bool)] .z) (.br .z .z)) (.bl .z)))) (.sq (.jn [(4,.c .slice)] (.sq .z (.br .z .z))) .z)))) .z))))) (.sq .z .z)))))
def Vy(aD:Sl)(az:Sl)(Q:Sl×Sl->Pr):Pr:=
 nw (.cells #[(.slice aD.a aD.len aD.cap),(.slice az.a az.len az.cap)] 32) λr=>
 aM (S:=Sl×Sl×Int) (λX s=>
 deref (some ⟨r,0,none⟩) λa=>
 deref (some (a.add 0)) λa_1=>
 au .slice a_1 λ(t10:Sl)=>
 br (decide (s.2.2<(t10.len:Int))) (
 aM (S:=Int) (λjM s_1=>
 jn (S:=Bool) (λR=>
 jE<|
 br (decide (s_1<(s.1.len:Int))) (
 aP ((0:Int)<=s_1/\s_1<(s.1.len:Int))<|
 deref s.1.a λa_2=>
 deref (some (a_2.add (Int.toNat s_1*1))) λbX=>
 au .slice bX λ(t23:Sl)=>
 yS t23 λt24=>
 deref (some ⟨r,0,none⟩) λc6=>
 deref (some (c6.add 0)) λc7=>
 au .slice c7 λ(t26:Sl)=>
 aP ((0:Int)<=s.2.2/\s.2.2<(t26.len:Int))<|
 deref t26.a λcV=>
 deref (some (cV.add (Int.toNat s.2.2*3))) λdy=>
 deref (some (dy.add 2)) λdO=>
 au .slice dO λ(t30:Sl)=>
 yS t30 λt31=>
 R ((!(t24.toList==t31.toList)))) (
 R false)) λs_2=>
 br s_2 (
 jM ((IntKind.wrap .i64 (s_1+1)))) (
 jn (S:=Sl) (λbG=>
 br (s_1==(s.1.len:Int)) (
 deref (some ⟨r,0,none⟩) λdP=>
 deref (some (dP.add 0)) λbu=>
 au .slice bu λ(t42:Sl)=>
 aP ((0:Int)<=s.2.2/\s.2.2<(t42.len:Int))<|
 deref t42.a λbF=>
 deref (some (bF.add (Int.toNat s.2.2*3))) λbw=>
 deref (some (bw.add 2)) λbJ=>
 au .slice bJ λ(t46:Sl)=>
 nw (.cells #[(.slice t46.a t46.len t46.cap)] 22) λr_1=>
 app 22 1 24 [(.slice none 0 0)] s.1 ⟨(some ⟨r_1,0,none⟩),1,1⟩ λt48=>
 bG t48) (
 bG s.1)) λdB=>
 nw (.cells #[(.int .i64 s_1)] 3) λr_2=>
 app 3 1 8 [(.int .i64 0)] s.2.1 ⟨(some ⟨r_2,0,none⟩),1,1⟩ λt52=>
 X (dB,t52,(IntKind.wrap .i64 (s.2.2+1))))) 0) (
 Q (s.1,s.2.1))) (⟨none,0,0⟩,⟨none,0,0⟩,0)
theorem BM(aD:Sl)(az:Sl)(Q:Sl×Sl->Pr)(w:World)(h:Vy aD az Q w):Calls Pq 36 #[(.agg #[(slV aD),(slV az)])] w (aC [.c .slice,.c .slice] Q):=cF (an:=Tw) Tryz.func36 (by kernel_rfl) h
def YO:An:=(.sq .z (.sq .z (.sq (.sq .z (.br (.sq .z .z) .z)) (.sq .z .z))))
def F5(aD:Sl)(az:Sl)(Q:Sl×Int×Int->Pr):Pr:=
 nw (.cells #[(.slice aD.a aD.len aD.cap),(.slice az.a az.len az.cap)] 32) λr=>
 nw (.cells #[(.int .i64 0),(.int .i64 0)] 26) λr_1=>
 deref (some ⟨r,0,none⟩) λa=>
 aQ [.slice,.slice] a λ(t7:Sl×Sl)=>
 aH Pq 14 [(.agg #[(.slice t7.1.a t7.1.len t7.1.cap),(.slice t7.2.a t7.2.len t7.2.cap)])] [.agg [.slice,.slice],.c (.int .i64)] λ(t8:(Sl×Sl)×Int)=>
 nw (.cells #[(.slice none 0 0),(.slice none 0 0)] 32) λr_2=>
 deref (some ⟨r_2,0,none⟩) λa_1=>
 st (a_1.add 0) (.slice t8.1.1.a t8.1.1.len t8.1.1.cap)<|
 st (a_1.add 1) (.slice t8.1.2.a t8.1.2.len t8.1.2.cap)<|
 br (t8.2 !=0) (
 deref (some ⟨r_1,0,none⟩) λa_2=>
 st (a_2.add 0) (.int .i64 0)<|
 st (a_2.add 1) (.int .i64 t8.2)<|
 deref (some ⟨r_1,0,none⟩) λbX=>
 aQ [(.int .i64),(.int .i64)] bX λ(res:Int×Int)=>
 Q (⟨none,0,0⟩,(res.1,res.2))) (
 deref (some ⟨r_2,0,none⟩) λc6=>
 aQ [.slice,.slice] c6 λ(t15:Sl×Sl)=>
 cS 15 [(.agg #[(.slice t15.1.a t15.1.len t15.1.cap),(.slice t15.2.a t15.2.len t15.2.cap)])] λt16=>
 deref (some ⟨r_1,0,none⟩) λc7=>
 st (c7.add 0) (.int .i64 0)<|
 st (c7.add 1) (.int .i64 0)<|
 deref (some ⟨r_1,0,none⟩) λcV=>
 aQ [(.int .i64),(.int .i64)] cV λ(cX:Int×Int)=>
 Q (t16,(cX.1,cX.2)))
theorem D3(aD:Sl)(az:Sl)(Q:Sl×Int×Int->Pr)(w:World)(h:F5 aD az Q w):Calls Pq 5 #[(.agg #[(slV aD),(slV az)])] w (aC [.c .slice,.agg [(.int .i64),(.int .i64)]] Q):=cF (an:=YO) Tryz.func5 (by kernel_rfl) h
def Tx:An:=(.sq .z (.sq (.sq .z (.br (.sq .z .z) .z)) (.sq (.sq .z (.bl (.lp [(17,.c (.int .i64))] (.sq .z (.sq (.br .z .z) (.sq (.bl (.sq .z (.sq .z (.sq .z (.br (.sq .z .z) .z))))) .z)))))) (.sq .z .z))))
def VR(p0:Sl)(p1:Sl)(p2:Value)(Q:Bool->Pr):Pr:=
 br ((p0.len:Int)!=(p1.len:Int)) (
 Q false) (
 aM (S:=Int) (λX s=>
 br (decide (s<(p0.len:Int))) (
 aP ((0:Int)<=s/\s<(p0.len:Int))<|
 deref p0.a λa=>
 deref (some (a.add (Int.toNat s*1))) λa_1=>
 au .slice a_1 λ(t21:Sl)=>
 aP ((0:Int)<=s/\s<(p1.len:Int))<|
 deref p1.a λa_2=>
 deref (some (a_2.add (Int.toNat s*1))) λbX=>
 au .slice bX λ(t25:Sl)=>
 cE Pq p2 [(.slice t21.a t21.len t21.cap),(.slice t25.a t25.len t25.cap)] [.c .bool] λ(t29:Bool)=>
 br (!t29) (
 Q false) (
 X ((IntKind.wrap .i64 (s+1))))) (
 Q true)) 0)
theorem B4(p0:Sl)(p1:Sl)(p2:Value)(Q:Bool->Pr)(w:World)(h:VR p0 p1 p2 Q w):Calls Pq 31 #[(slV p0),(slV p1),p2] w (aC [.c .bool] Q):=cF (an:=Tx) Tryz.func31 (by kernel_rfl) h
set_option maxRecDepth 20000
theorem oe(a b:LB):(bytesOf a==bytesOf b)=decide (a=b):=by
 show(a.toArray==b.toArray)=_;rw[Bool.eq_iff_iff];simp
def jS:KT (LB)where
 kd:=.string
 enc l:=.string (bytesOf l)
 same a b:=by
  simp only[Instr.sameNow,jg];exact oe a b
 bits a:=by simp[Instr.sameBits,oe]
def xA(ds:List (LB)):List (LB×Value):=ds.zipIdx.map λx=>(x.1,iv x.2)
theorem DS(ds:List (LB)):(xA ds).map (·.1)=ds:=by
 unfold xA;rw[List.map_map];refine List.ext_getElem (by simp) λi h1 h2=>by simp
theorem HC(ds:List (LB))(d:LB):xA (ds++[d])=xA ds++[(d,iv ds.length)]:=by
 unfold xA;rw[List.zipIdx_append,jj];simp
def bD(ds:List (LB))(d:LB):Nat:=ds.findIdx (·==d)
theorem Ai(k:LB):∀(ds:List (LB)) (n:Nat),vg k ((ds.zipIdx n).map λx=>(x.1,iv x.2))=if k∈ds then some (iv (n+bD ds k:Nat))else none
 |[],n=>rfl
 |
  d::ds,n=>by
  rw[List.zipIdx_cons,List.map_cons];unfold vg;dsimp only;by_cases h:k=d
  ·subst h
   rw[jd rfl,jd (List.mem_cons_self ..)];simp[bD,List.findIdx_cons]
  ·rw[jc h,Ai k ds (n+1)]
   have e:(k∈d::ds)↔k∈ds:=by rw[List.mem_cons];exact⟨λh'=>h'.resolve_left h,.inr⟩
   by_cases hm:k∈ds
   ·rw[jd hm,jd (e.2 hm)]
    congr 2
    unfold bD;rw[List.findIdx_cons,show(d==k)=false by simpa using λh'=>h h'.symm];simp only[cond_false];omega
   ·rw[jc hm,jc λh'=>hm (e.1 h')]
theorem Aj(k:LB)(ds:List (LB)):vg k (xA ds)=if k∈ds then some (iv (bD ds k))else none:=by
 unfold xA;rw[Ai,Nat.zero_add]
def jT(ys:List NS)(y:NS):List NS:=if y.d∈ys.map (·.d)then ys else ys++[y]
def fk(l:List NS):List NS:=l.foldl jT []
def rT(ds:List (LB))(d:LB):List (LB):=if d∈ds then ds else ds++[d]
def aE(G:GG):List (LB):=(G.n.map (·.d)).foldl rT []
theorem DT(l:List NS):∀ys:List NS,(l.foldl jT ys).map (·.d)=(l.map (·.d)).foldl rT (ys.map (·.d)):=by
 induction l with
 |nil=>intro ys;rfl
 |
  cons y l ih=>
  intro ys;rw[List.foldl_cons,ih,List.map_cons,List.foldl_cons]
  congr 1
  unfold jT rT;split
  ·rfl
  ·rw[jj];rfl
theorem oX(g:GS):(fk g.xs).map (·.d)=aE g.m:=by
 unfold fk aE;rw[DT]
 congr 1
 simp[GS.m,NS.m]
theorem oY(l:List NS):∀ys:List NS,∀y∈l.foldl jT ys,y∈ys\/y∈l:=by
 induction l with
 |nil=>intro ys y h;exact .inl h
 |
  cons x l ih=>
  intro ys y h;rcases ih _ y h with h|h
  ·unfold jT at h
   split at h
   ·exact .inl h
   ·rcases jy.1 h with h|h
    ·exact .inl h
    ·exact .inr (List.mem_cons.2 (.inl (by simpa using h)))
  ·exact .inr (List.mem_cons_of_mem _ h)
theorem x7(l:List NS):∀ys:List NS,(l.foldl jT ys).length<=ys.length+l.length:=by
 induction l with
 |nil=>intro ys;simp
 |
  cons x l ih=>
  intro ys;have:=ih (jT ys x);have h2:(jT ys x).length<=ys.length+1:=by
   unfold jT;split<;>simp
  rw[List.foldl_cons,List.length_cons];omega
def oP(b:Nat)(ys:List NS):HA:=G9 λx:Sl×Nat=>[aa b [slV x.1,.map (some x.2)],aq 1 x.1 (ys.map λy=>slV y.ds),er jS x.2 (xA (ys.map (·.d)))]
theorem Vs(b:Nat)(ys:List NS)(y:NS)(w:World)(F:Nat->Prop)(h:Has [oP b ys] w F)(hy:BS w y.ds y.d)(hno:y.d≠[]->∀b,y.ds.lq b->¬F b)(hl:ys.length<=1000000):
 Calls Pq 24 #[.pointer (some ⟨b,0,none⟩),slV y.ds] w (aC [.c (.int .i64)] λr w'=>r=bD ((jT ys y).map (·.d)) y.d/\St F w w' [oP b (jT ys y)]):=by
 refine BI (some ⟨b,0,none⟩) y.ds _ _ ?_;unfold Vt;simp only[ag];rw[aR];have s0:=(St.init h).drew;obtain⟨⟨t,m⟩,s⟩:=s0.ex;have s:St F w w.drew [aa b [slV t,.map (some m)],aq 1 t (ys.map λy=>slV y.ds),er jS m (xA (ys.map (·.d)))]:=s;have NL:∀{W L},St F w W L->BS W y.ds y.d:=λs=>hy.mod s.G7 λad ha hl=>hno hl _ ⟨ad,ha,rfl⟩;refine s.ld (i:=1) (s:=.map) (p:=some m) rfl ?_;refine ic (NL s) ?_;refine St.gd (T:=jS) (k:=y.d) (s.af 2) ?_ ?_
 ·intro v hv
  rw[Aj]at hv;split at hv
  ·rename_i hm
   simp only[jg]at hv;refine⟨((bD (ys.map λz:NS=>z.d) y.d:Nat):Int),hv.symm,?_⟩;refine ah (λh=>by simp at h) λ_=>?_;unfold jT;rw[jd hm];exact⟨rfl,St.iI (t,m) s⟩
  ·cases hv
 ·intro hv
  rw[Aj]at hv;have hm:y.d∉ys.map (·.d):=by
   intro hm;rw[jd hm]at hv;cases hv
  refine⟨0,rfl,?_⟩;refine ah (λ_=>?_) λh=>by simp at h
  have kq:=aT (s.af 1).sl;rw[je]at kq;refine s.ld (i:=0) (s:=.slice) (p:=t) rfl ?_;rw[aR];have s1:=s.drew;refine s1.ld (i:=1) (s:=.map) (p:=some m) rfl ?_;refine ic (NL s1) ?_;refine St.ej (T:=jS) (k:=y.d) (s1.af 2) ?_ ?_
  ·intro j u w' hj
   exfalso;have:=List.mem_map_of_mem (f:=λx:LB×Value=>x.1) (ji hj);rw[DS]at this;exact hm this
  ·intro _ w2 s2
   rw[kq,show ys.length=(ys.map (·.d)).length by simp]at s2;rw[<-HC]at s2;have s2:St F w w2 [er jS m (xA (ys.map (·.d)++[y.d])),aa b [slV t,.map (some m)],aq 1 t (ys.map λy=>slV y.ds)]:=s2;refine(s2.af 1).ld (i:=0) (s:=.slice) (p:=t) rfl ?_;refine St.nw s2 λr w3 s3 _ _=>?_;refine(s3.af 3).app (new:=[slV y.ds]) (λ_=>rfl) (λh=>by cases h) (aF.2 s3.box.row) (by simp[aK]) rfl (by decide) (by dsimp only;omega) λt2 w4 s4 _=>?_;have s4:St F w w4 [aq 1 t2 ((ys.map λy=>slV y.ds)++[slV y.ds]),aa r [slV y.ds],er jS m (xA (ys.map (·.d)++[y.d])),aa b [slV t,.map (some m)]]:=s4;refine(s4.af 3).st (i:=0) (by simp) trivial λw5 s5=>?_;have e:jT ys y=ys++[y]:=by unfold jT;rw[jc hm]
   rw[e];refine⟨?_,St.iI (t2,m) ?_⟩
   ·unfold bD
    rw[jj,List.findIdx_append,jc]
    ·rw[show(List.map (λz:NS=>z.d) [y]).findIdx (λx=>x==y.d)=0 by simp[List.findIdx_cons],je,Nat.zero_add,kq]
    ·intro hlt
     have:=List.findIdx_getElem (w:=hlt);exact hm (by have h2:=eq_of_beq this;rw[<-h2];exact List.getElem_mem _)
   ·have s6:=s5.bE [0,1,3] 4
    show St F w w5 [aa b [slV t2,.map (some m)],aq 1 t2 ((ys++[y]).map λy=>slV y.ds),er jS m (xA ((ys++[y]).map (·.d)))];rw[jj,jj];exact s6
theorem Vu(g:GS)(w:World)(hg:RG w aA g):Calls Pq 22 #[g.v] w (aC [.c .ptr] λr w'=>∃b:Nat,r=some ⟨b,0,none⟩/\St aA w w' [oP b (fk g.xs)]):=by
 refine BJ g.gn g.gr _ _ ?_;unfold Vv;simp only[ag];have gy:=hg.nl;have hn2:=hg.sm.nl;refine St.nw (St.bp w) λr w1 s1 _ _=>s1.Dy (T:=jS) λm w2 s2=>St.nw s2 λb w3 s3 _ _=>?_;have s4:St aA w w3 [oP b [],aa r [slV g.gn,slV g.gr]]:=by
  refine St.iI (⟨none,0,0⟩,m) ?_;exact(s3.fe 1).bE [1,0,2,3] 4
 refine(s4.af 1).ld (i:=0) (s:=.slice) (p:=g.gn) rfl ?_;refine aB (λz W=>∃j:Nat,z=j/\j<=g.xs.length/\St aA w W [oP b ((g.xs.take j).foldl jT []),aa r [slV g.gn,slV g.gr]])
  (λz _=>g.xs.length-z.toNat) ⟨0,rfl,by omega,s4⟩ ?_
 rintro _ W ⟨j,rfl,hj,s⟩;refine ah (λhlt=>?_) λhge=>?_
 ·simp only[jb]at hlt
  have hjl:j<g.xs.length:=by omega
  refine⟨⟨by omega,by omega⟩,?_⟩;rw[jk];have kT:g.xs[j]? =some g.xs[j]:=by simp[hjl]
  have l7:g.xs[j]∈g.xs:=List.getElem_mem hjl;have gz:(g.xs.take (j+1)).foldl jT []=jT ((g.xs.take j).foldl jT []) g.xs[j]:=by
   rw[List.take_add_one,jl hjl,List.foldl_append];rfl
  refine(hg.grow s.bh).node kT ?_;generalize g.xs[j]=x at kT l7 gz⊢;refine St.nw s λr3 w4 s4 _ _=>s4.st (i:=0) (by simp) trivial λw5 s5=>s5.st (i:=1) (by simp) trivial λw6 s6=>s6.st (i:=2) (by simp) trivial λw7 s7=>?_;have s7:St aA w w7 [aa r3 (aj x),oP b ((g.xs.take j).foldl jT []),aa r [slV g.gn,slV g.gr]]:=s7;refine s7.ld (i:=2) (s:=.slice) (p:=x.ds) rfl ?_;have Zg:=hg.grow s7.bh;obtain⟨F,H,_,h1,h2,h3,h4,h5⟩:=(s7.af 1).ee;have GM:RG w7 F g:=hg.go (s7.af 1) h4;have ve:=x7 (g.xs.take j) [];rw[List.length_nil,jr]at ve;refine ak (Vs b _ x w7 F h1 (GM.bd x l7) (GM.Lb x l7) (by omega)) ?_;rintro _ w8 ⟨rfl,s8⟩;have s9:=h5 w8 _ s8;rw[<-gz]at s9;rw[ax (by omega)];exact⟨⟨j+1,rfl,by omega,s9.bE [0,2] 3⟩,by omega⟩
 ·simp only[ja]at hge
  rw[List.take_of_length_le (by omega)]at s;exact⟨b,rfl,s.bE [0] 2⟩
theorem JU{v:Value}{k:Pr}{w:World}(h:aK v)(hk:k w):na v k w:=by
 cases v<;>first|exact hk|exact h.elim
theorem Vw(dH:Int)(e:Value)(w:World)(he:aK e):Calls Pq 17 #[.int .i64 dH,e] w (aC [.c .any] λr w'=>∃b:Nat,r=.iface 111 (.pointer (some ⟨b,0,none⟩))/\St aA w w' [aa b [.int .i64 dH,e]]):=by
 refine BK dH e _ _ ?_;unfold Vx;refine JU he ?_;exact St.nw (St.bp w) λb w1 s1 _ _=>⟨b,rfl,s1⟩
theorem DU{ds:List (LB)}{d x:LB}(h:d∈ds):bD (ds++[x]) d=bD ds d:=by
 unfold bD;rw[List.findIdx_append,jd (List.findIdx_lt_length_of_exists ⟨d,h,by simp⟩)]
theorem vB{ds:List (LB)}{d x:LB}(h:d∈ds):bD (rT ds x) d=bD ds d:=by
 unfold rT;split
 ·rfl
 ·exact DU h
theorem HD{ds:List (LB)}{d x:LB}(h:d∈ds):d∈rT ds x:=by
 unfold rT;split
 ·exact h
 ·exact List.mem_append_left _ h
theorem Lc(ds:List (LB))(d:LB):d∈rT ds d:=by
 unfold rT;split
 ·assumption
 ·simp
theorem HE{d:LB}(l:List (LB)):∀ds,d∈ds->d∈l.foldl rT ds:=by
 induction l with
 |nil=>exact λ_ h=>h
 |cons x l ih=>exact λds h=>ih _ (HD h)
theorem DV{d:LB}(l:List (LB)):∀ds,d∈l->d∈l.foldl rT ds:=by
 induction l with
 |nil=>intro ds h;cases h
 |
  cons x l ih=>
  intro ds h;rcases List.mem_cons.1 h with rfl|h
  ·exact HE l _ (Lc ds _)
  ·exact ih _ h
theorem Ak(ys:List NS)(y:NS):(jT ys y).map (·.d)=rT (ys.map (·.d)) y.d:=by
 unfold jT rT;split
 ·rfl
 ·rw[jj];rfl
theorem Al{ds:List (LB)}{d:LB}{k:Nat}(h1:k<ds.length)(h2:ds[k]=d)(h3:∀j (h:j<ds.length),j<k->ds[j]≠d):bD ds d=k:=by
 unfold bD;rw[List.findIdx_eq h1];refine⟨by simp[h2],λj hj=>by simpa using h3 j (by omega) hj⟩
theorem Xy(g:GS)(w:World)(hg:RG w aA g):Calls Pq 36 #[g.v] w (aC [.c .slice,.c .slice] λr w'=>
 St aA w w' [aq 1 r.1 ((fk g.xs).map λy=>slV y.ds),aq 1 r.2 ((g.xs.map λx=>(bD (aE g.m) x.d:Int)).map iv)]):=by
 refine BM g.gn g.gr _ _ ?_;unfold Vy;simp only[ag];have gy:=hg.nl;have hn2:=hg.sm.nl;refine St.nw (St.bp w) λr w1 s1 _ _=>?_;refine aB (λz W=>∃(i:Nat) (t u:Sl),z=(t,u,(i:Int))/\i<=g.xs.length/\
  St aA w W [aq 1 t (((g.xs.take i).foldl jT []).map λy=>slV y.ds),aq 1 u (((g.xs.take i).map λx=>(bD (((g.xs.take i).foldl jT []).map (·.d)) x.d:Int)).map iv),aa r [slV g.gn,slV g.gr]])
  (λz _=>g.xs.length-z.2.2.toNat) ⟨0,⟨none,0,0⟩,⟨none,0,0⟩,rfl,by omega,(s1.fe 1).fe 1⟩ ?_
 rintro _ W ⟨i,t,u,rfl,hi,s⟩;dsimp only;refine(s.af 2).ld (i:=0) (s:=.slice) (p:=g.gn) rfl ?_;refine ah (λhlt=>?_) λhge=>?_
 ·simp only[jb]at hlt
  have hil:i<g.xs.length:=by omega
  have kT:g.xs[i]? =some g.xs[i]:=by simp[hil]
  have l7:g.xs[i]∈g.xs:=List.getElem_mem hil;have gz:(g.xs.take (i+1)).foldl jT []=jT ((g.xs.take i).foldl jT []) g.xs[i]:=by
   rw[List.take_add_one,jl hil,List.foldl_append];rfl
  have mu:g.xs.take (i+1)=g.xs.take i++[g.xs[i]]:=by rw[List.take_add_one,jl hil];rfl
  have hin:∀x∈g.xs.take i,x.d∈((g.xs.take i).foldl jT []).map (·.d):=by
   intro x hx;rw[DT];exact DV _ _ (kg.2 ⟨x,hx,rfl⟩)
  have hsub:∀y∈(g.xs.take i).foldl jT [],y∈g.xs:=by
   intro y hy;rcases oY _ _ y hy with h|h
   ·cases h
   ·exact List.mem_of_mem_take h
  have ve:=x7 (g.xs.take i) [];rw[List.length_nil,jr]at ve;generalize g.xs[i]=x at kT l7 gz mu⊢;generalize hys:(g.xs.take i).foldl jT []=ys at s gz hin hsub ve⊢;have kq:=aT s.sl;have Ac:=aT (s.af 1).sl;simp only[je,jr]at kq Ac;refine aB (λz W=>∃k:Nat,z=(k:Int)/\k<=ys.length/\(∀j (h:j<(ys.map (·.d)).length),j<k->(ys.map (·.d))[j]≠x.d)/\
   St aA w W [aq 1 t (ys.map λy=>slV y.ds),aq 1 u (((g.xs.take i).map λx=>(bD (ys.map (·.d)) x.d:Int)).map iv),aa r [slV g.gn,slV g.gr]])
   (λz _=>ys.length-z.toNat) ⟨0,rfl,by omega,λ_ _ h=>by omega,s⟩ ?_
  rintro _ W ⟨k,rfl,hk,hne,s⟩;refine aL (λs' W'=>s'=(decide (k<ys.length)&& !decide ((ys.map (·.d))[k]? =some x.d))/\
   St aA w W' [aq 1 t (ys.map λy=>slV y.ds),aq 1 u (((g.xs.take i).map λx=>(bD (ys.map (·.d)) x.d:Int)).map iv),aa r [slV g.gn,slV g.gr]]) ?_ ?_
  ·rw[aR]
   have s2:=s.drew;refine ah (λhlt=>?_) λhge=>?_
   ·simp only[jb]at hlt
    have nt:k<ys.length:=by omega
    refine⟨⟨by omega,by omega⟩,?_⟩;rw[jk];refine MS.at (g:=λy:NS=>slV y.ds) (c:=.slice) (p:=ys[k].ds) (x:=ys[k]) (bz.ms s2.sl) (by simp[nt]) rfl ?_;refine ic (hg.bd _ (hsub _ (List.getElem_mem nt))|>.grow s2.bh) ?_;refine(s2.af 2).ld (i:=0) (s:=.slice) (p:=g.gn) rfl ⟨⟨by omega,by omega⟩,?_⟩;refine(hg.grow s2.bh).od (i:=i) (j:=2) (c:=.slice) (p:=x.ds) kT rfl ?_;refine ic ((hg.bd _ l7).grow s2.bh) ⟨?_,s2⟩;rw[aS,aS,decide_eq_true nt,Bool.true_and]
    congr 1
    rw[jf,jl nt,Option.map_some];rw[Bool.eq_iff_iff];simp
   ·simp only[ja]at hge
    exact⟨by rw[decide_eq_false (by omega)];rfl,s2⟩
  rintro _ W' ⟨rfl,s2⟩;refine ah (λhc=>?_) λhc=>?_
  ·simp only[jz,jb,Bool.not_eq_true',ja]at hc
   rw[ax (by omega)];refine⟨⟨k+1,rfl,by omega,λj hj Vz=>?_,s2⟩,by omega⟩;rcases Nat.lt_or_ge j k with h|h
   ·exact hne j hj h
   ·have:j=k:=by omega
    subst this;intro he;exact hc.2 (by rw[jl hj,he])
  ·have HF:bD ((jT ys x).map (·.d)) x.d=k:=by
    rw[Ak];rcases Nat.lt_or_ge k ys.length with h|h
    ·rw[decide_eq_true h,Bool.true_and]at hc
     simp only[Bool.not_eq_false',jb]at hc;have hm:x.d∈ys.map (·.d):=ji hc;rw[vB hm];have nt:k<(ys.map (·.d)).length:=by simpa using h
     rw[jl nt]at hc;simp only[jg]at hc;exact Al nt hc hne
    ·have hnm:x.d∉ys.map (·.d):=by
      intro hm;obtain⟨j,hj,he⟩:=List.mem_iff_getElem.1 hm;exact hne j hj (by simp at hj;omega) he
     unfold rT;rw[jc hnm];refine Al (by simp;omega) ?_ λj hj Vz=>?_
     ·rw[List.getElem_append_right (by simp;omega)]
      simp
     ·have:j<(ys.map (·.d)).length:=by simp;omega
      rw[List.getElem_append_left this];exact hne j this Vz
   refine aL (λs' W'=>St aA w W' [aq 1 s' ((jT ys x).map λy=>slV y.ds),aq 1 u (((g.xs.take i).map λx=>(bD (ys.map (·.d)) x.d:Int)).map iv),aa r [slV g.gn,slV g.gr]]) ?_ ?_
   ·refine ah (λvC=>?_) λvC=>?_
    ·have vC:k=ys.length:=by simp at vC;omega
     have hnm:x.d∉ys.map (·.d):=by
      intro hm;obtain⟨j,hj,he⟩:=List.mem_iff_getElem.1 hm;exact hne j hj (by simp at hj;omega) he
     refine(s2.af 2).ld (i:=0) (s:=.slice) (p:=g.gn) rfl ⟨⟨by omega,by omega⟩,?_⟩;rw[jk];refine(hg.grow s2.bh).od (i:=i) (j:=2) (c:=.slice) (p:=x.ds) kT rfl ?_;refine St.nw s2 λr3 w3 s3 _ _=>?_;refine(s3.af 1).app (new:=[slV x.ds]) (λ_=>rfl) (λh=>by cases h) (aF.2 s3.box.row) (by simp[aK]) rfl (by decide) (by dsimp only;omega) λt2 w4 s4 _=>?_;have e:jT ys x=ys++[x]:=by unfold jT;rw[jc hnm]
     rw[e,jj];exact s4.bE [0,2,3] 4
    ·have vC:k≠ys.length:=by simp at vC;omega
     have hm:x.d∈ys.map (·.d):=by
      rw[decide_eq_true (by omega),Bool.true_and]at hc;simp only[Bool.not_eq_false',jb]at hc;exact ji hc
     have e:jT ys x=ys:=by unfold jT;rw[jd hm]
     rw[e];exact s2
   intro t2 W2 s3;refine St.nw s3 λr3 w3 s4 _ _=>?_;refine gE (s4.bE [0,2,1,3] 4) (by simp;omega) λu2 w5 s5=>?_;rw[ax (by omega)];refine⟨⟨i+1,t2,u2,rfl,by omega,?_⟩,by omega⟩;rw[gz,mu,jj];have s6:=s5.bE [2,0,3] 4;have e:((g.xs.take i).map λx=>(bD (ys.map (·.d)) x.d:Int))=(g.xs.take i).map λz=>(bD ((jT ys x).map (·.d)) z.d:Int):=by
    apply List.map_congr_left;intro z hz;rw[Ak,vB (hin z hz)]
   rw[e,<-HF]at s6;exact s6
 ·simp only[ja]at hge
  rw[List.take_of_length_le (by omega)]at s;have e:=oX g;unfold fk at e;rw[e]at s;exact s.bE [0,1] 3
theorem BN(w:World)(cs:Array Value)(E:TypeId)(n:Nat):(w.alloc (.cells cs E)).freeze ⟨w.heap.size,n,none⟩ 1=w.alloc (.cells cs E (n,n+1)):=by
 unfold World.freeze World.alloc;rw[jc (by decide)]
 congr 1
 apply Array.ext_getElem?;intro i;rw[Array.getElem?_modify];rcases Nat.lt_trichotomy w.heap.size i with h|h|h
 ·rw[jc (by dsimp only;omega),Array.getElem?_eq_none (by simp;omega),Array.getElem?_eq_none (by simp;omega)]
 ·subst h
  rw[jd rfl];simp
 ·rw[jc (by dsimp only;omega),Array.getElem?_push_lt h,Array.getElem?_push_lt h]
theorem vD(w:World)(cs:Array Value)(E:TypeId)(n o:Nat):(w.alloc (.cells cs E (n,n+1))).cell? ⟨w.heap.size,o,none⟩=cs[o]? :=by
 unfold World.cell? World.alloc;simp
theorem x8(w:World)(cs:Array Value)(E:TypeId)(n o:Nat):(w.alloc (.cells cs E (n,n+1))).frozen? ⟨w.heap.size,o,none⟩=(decide (n<=o)&&decide (o<n+1)):=by
 unfold World.frozen? World.alloc;simp
theorem Am{F0:Nat->Prop}{w0 w:World}{L:List HA}{cs:Array Value}{E:TypeId}{vs spare:LV}{n:Nat}(h:St F0 w0 w L)(hc:cs.toList=vs++spare)(hn:n=vs.length):
 St F0 w0 ((w.alloc (.cells cs E)).freeze ⟨w.heap.size,cs.size,none⟩ 1) (aq 1 ⟨some ⟨w.heap.size,0,none⟩,n,cs.size⟩ vs::L):=by
 rw[BN];have hsz:cs.size=(vs++spare).length:=by rw[<-hc];simp
 refine h.HG ((Mod.refl _ w).alloc _) ⟨by simp[hn],by rw[hn,hsz];simp,.inr ⟨w.heap.size,0,spare,rfl,Nat.le_refl _,by simp,λo v hv=>?_,?_,by rw[<-hsz];simp⟩⟩
 ·rw[vD]at hv
  rw[x8];have:o<cs.size:=(Array.getElem?_eq_some_iff.1 hv).1;rw[decide_eq_false (by omega)];rfl
 ·intro j v hj
  rw[jB,Nat.zero_add,vD,<-hj,<-hc];simp
theorem St.DW{F0:Nat->Prop}{w0 w:World}{L:List HA}{cs:Array Value}{E:TypeId}{k:Nat->Pr}(h:St F0 w0 w L)
 (hk:∀r w',St F0 w0 w' (aq 1 ⟨some ⟨r,0,none⟩,cs.size,cs.size⟩ cs.toList::L)->k r w'):nw (.cells cs E) (λr=>Ao ⟨r,0,none⟩ (k r)) w:=by
 rw[x9];refine⟨E,cs.size,by unfold World.shape? World.alloc;simp,?_⟩;exact hk _ _ (Am h (vs:=cs.toList) (spare:=[]) (by simp) (by simp))
theorem St.JV{F0:Nat->Prop}{w0 w:World}{L:List HA}{l:LB}{k:Sl->Pr}(h:St F0 w0 w L)(hl:l.length<2^63)
 (hk:∀r w',St F0 w0 w' (aq 1 r (l.map ub)::L)->k r w'):Eng.JV 5 (bytesOf l) k w:=by
 refine⟨hl,λcap h1 h2=>?_⟩;rw[show w.heap.size=w.drew.heap.size from rfl];have hb:(pY (bytesOf l) cap).toList=l.map ub++List.replicate (cap-l.length) (.int .u8 0):=by
  unfold pY bytesOf;simp[ByteArray.size];intro a _;rfl
 have hsz:(pY (bytesOf l) cap).size=cap:=by
  rw[<-Array.length_toList,hb];have:l.length<=cap:=h1;simp;omega
 have h3:=Am (E:=5) h.drew hb (n:=l.length) (by simp);rw[hsz]at h3⊢;exact hk _ _ h3
theorem DX{F0:Nat->Prop}{w0 w:World}{L:List HA}{s x:Sl}{pre l:LB}{k:Sl->Pr}(h:St F0 w0 w (aq 1 s (pre.map ub)::L))(hx:BS w x l)(hl:pre.length<=100000000)(xq:l.length<=100000000)
 (hk:∀r w',St F0 w0 w' (aq 1 r ((pre++l).map ub)::L)->k r w'):app 5 1 1 [.int .u8 0] s x k w:=by
 have jZ:=aT h.sl;have ko:=hx.len;rw[je]at jZ;refine h.app (new:=l.map ub) (λ_=>by simp[ko]) hx.ms.dm hx.row (by intro v hv;obtain⟨_,_,rfl⟩:=kg.1 hv;trivial) rfl (by decide) (by omega) λr w' s' _=>hk r w' ?_;rw[jj];exact s'
def bU:LB:=[97,116,116,105,99,32,97,10]
def fm(x:LB):LB:=cA x.length++x
def eE(ds:List (LB))(n:GN):LB:=ie [n.k,(bD ds n.d:Int),(n.p.length:Int)]++n.p.flatMap λp=>cA (p+1).toNat
def cG(r:RM):LB:=fm r.1++cA r.2.toNat
def gZ(G:GG)(ds:List (LB)):LB:=bU++cA ds.length++ds.flatMap fm++cA G.n.length++G.n.flatMap (eE ds)++cA G.r.length++G.r.flatMap cG
def bZ(G:GG):LB:=pZ (gZ G (aE G))
structure GG.nG(G:GG):Prop where
 nl:G.n.length<=8192
 rl:G.r.length<=512
 kk:∀n∈G.n,0<=n.k/\n.k<=3
 pl:∀n∈G.n,n.p.length<=126
 pr:∀n∈G.n,∀p∈n.p,-1<=p/\p<G.n.length
 dl:∀n∈G.n,n.d.length<=1008
 sl:∀r∈G.r,r.1.length<=16
 rr:∀r∈G.r,0<=r.2/\r.2<G.n.length
theorem lE{α:Type}{f:α->LB}{K:Nat}:∀{l:List α},(∀x∈l,(f x).length<=K)->(l.flatMap f).length<=K*l.length
 |[],_=>by simp
 |
  x::l,h=>by
  have h1:=h x (List.mem_cons_self ..);have h2:=lE (l:=l) λy hy=>h y (List.mem_cons_of_mem _ hy);rw[List.flatMap_cons,jh,List.length_cons,Nat.mul_add];omega
theorem cU{α:Type}{f:α->LB}{K:Nat}{l:List α}(h:∀x∈l,(f x).length<=K)(i:Nat):((l.take i).flatMap f).length<=K*l.length:=by
 have h1:=lE (l:=l.take i) λx hx=>h x (List.mem_of_mem_take hx);have h2:(l.take i).length<=l.length:=by rw[jr];omega
 exact Nat.le_trans h1 (Nat.mul_le_mul_left _ h2)
theorem p5{x:LB}(h:x.length<=1008):(fm x).length<=1018:=by
 unfold fm;rw[jh];have:=bP x.length;omega
theorem vE{ds:List (LB)}{n:GN}(h:n.p.length<=126):(eE ds n).length<=1290:=by
 unfold eE;rw[jh];have h1:=me [n.k,(bD ds n.d:Int),(n.p.length:Int)];have h2:=lE (f:=λp:Int=>cA (p+1).toNat) (K:=10) (l:=n.p) λp _=>bP _;simp only[List.length_cons,List.length_nil]at h1;omega
theorem rU{r:RM}(h:r.1.length<=16):(cG r).length<=36:=by
 unfold cG fm;rw[jh,jh];have:=bP r.1.length;have:=bP r.2.toNat;omega
theorem p6(G:GG):∀d∈aE G,∃n∈G.n,n.d=d:=by
 have key:∀(l:List (LB)) ds,∀d∈l.foldl rT ds,d∈ds\/d∈l:=by
  intro l
  induction l with
  |nil=>intro ds d h;exact .inl h
  |
   cons x l ih=>
   intro ds d h;rcases ih _ d h with h|h
   ·unfold rT at h
    split at h
    ·exact .inl h
    ·rcases jy.1 h with h|h
     ·exact .inl h
     ·exact .inr (List.mem_cons.2 (.inl (by simpa using h)))
   ·exact .inr (List.mem_cons_of_mem _ h)
 intro d hd;rcases key _ _ d hd with h|h
 ·cases h
 ·exact kg.1 h
theorem p7{G:GG}{n:GN}(h:n∈G.n):n.d∈aE G:=DV _ _ (kg.2 ⟨n,h,rfl⟩)
theorem nH(G:GG):(aE G).length<=G.n.length:=by
 have key:∀(l ds:List (LB)),(l.foldl rT ds).length<=ds.length+l.length:=by
  intro l
  induction l with
  |nil=>intro ds;simp
  |
   cons x l ih=>
   intro ds;have:=ih (rT ds x);have h2:(rT ds x).length<=ds.length+1:=by unfold rT;split<;>simp
   rw[List.foldl_cons,List.length_cons];omega
 have:=key (G.n.map (·.d)) [];simpa[aE]using this
theorem tg{ds:List (LB)}{d:LB}(h:d∈ds):bD ds d<ds.length:=List.findIdx_lt_length_of_exists ⟨d,h,by simp⟩
theorem vF{G:GG}(h:e7 G=true):G.nG:=by
 have h':=h;unfold e7 at h';simp only[jz,jb]at h';have hs:∀n∈G.n,_:=λn hn=>dJ h hn;refine⟨by omega,by omega,λn hn=>?_,λn hn=>?_,λn hn=>(hs n hn).2,λn hn=>?_,λr hr=>?_,λr hr=>(iG h hr).2⟩
 ·have h1:=(hs n hn).1
  unfold b8 at h1;simp only[jz,jb]at h1;omega
 ·have h1:=(hs n hn).1
  unfold b8 at h1;simp only[jz,jb]at h1;omega
 ·have h1:=(hs n hn).1
  unfold b8 at h1;simp only[jz,jb]at h1;omega
 ·have h1:=(iG h hr).1
  unfold e9 at h1;simp only[jz,jb]at h1;omega
theorem ya{G:GG}(h:G.nG):(dr G).nG:=by
 refine⟨by simpa[dr]using h.nl,h.rl,λx hx=>?_,λx hx=>?_,λx hx p hp=>?_,λx hx=>?_,h.sl,by simpa[dr]using h.rr⟩
 all_goals
  simp only[dr,kg]at hx;obtain⟨y,hy,rfl⟩:=hx
 ·exact h.kk y hy
 ·simpa[jQ]using h.pl y hy
 ·simp only[jQ,kg]at hp
  obtain⟨q,hq,rfl⟩:=hp;have:=h.pr y hy q hq;simp only[dr,je];split<;>omega
 ·exact h.dl y hy
theorem rV{G:GG}{l:List Int}(h:gF G l)(hs:G.nG):(eO G l).nG:=by
 have hle:=h.le;have hw:=Ap h;have Qx:∀x∈l,nodeAt G x∈G.n:=λx hx=>eD (by have:=h.pQ x hx;omega);refine⟨by simp only[eO,je];have:=hs.nl;omega,by simpa[eO]using hs.rl,λn hn=>?_,λn hn=>?_,λn hn p hp=>⟨?_,hw.p n hn p hp⟩,λn hn=>?_,λr hr=>?_,hw.r⟩
 ·simp only[eO,kg]at hn
  obtain⟨x,hx,rfl⟩:=hn;exact hs.kk (nodeAt G x) (Qx x hx)
 ·simp only[eO,kg]at hn
  obtain⟨x,hx,rfl⟩:=hn;simpa[ri]using hs.pl _ (Qx x hx)
 ·simp only[eO,kg]at hn
  obtain⟨x,hx,rfl⟩:=hn;simp only[ri,kg]at hp;obtain⟨q,hq,rfl⟩:=hp;have:=(hs.pr _ (Qx x hx) q hq).1;unfold gR;split<;>omega
 ·simp only[eO,kg]at hn
  obtain⟨x,hx,rfl⟩:=hn;exact hs.dl (nodeAt G x) (Qx x hx)
 ·simp only[eO,kg]at hr
  obtain⟨q,hq,rfl⟩:=hr;exact hs.sl q hq
theorem vG{G:GG}(h:e7 G=true):(kz G).nG:=
 rV (gY (jA h)) (rV (gG h) (ya (vF h)))
set_option maxRecDepth 100000
def Ui:An:=(.sq .z (.sq .z (.sq .z (.sq .z (.sq (.sq .z (.bl (.lp [(3,.c .slice),(6,.c (.int .i64))] (.sq (.sq .z (.br .z .z)) (.sq (.bl .z) .z))))) (.sq .z (.sq (.sq .z (.bl (.lp [(3,.c .slice),(7,.c (.int .i64))] (.sq (.sq (.jn [(49,.c .bool)] .z) (.br .z .z)) (.sq (.bl (.sq .z (.sq (.jn [(3,.c .slice)] .z) (.sq .z (.bl (.lp [(3,.c .slice),(9,.c (.int .i64))] (.sq (.sq .z (.br .z .z)) (.sq (.bl .z) .z)))))))) .z))))) (.sq .z (.sq (.sq .z (.bl (.lp [(3,.c .slice),(10,.c (.int .i64))] (.sq (.sq .z (.br .z .z)) (.sq (.jn [(3,.c .slice)] (.bl .z)) .z))))) (.sq .z .z))))))))))
def VA(aD:Sl)(az:Sl)(Q:Sl->Pr):Pr:=
 nw (.cells #[(.slice aD.a aD.len aD.cap),(.slice az.a az.len az.cap)] 32) λr=>
 nw (.cells #[(.int .u8 97),(.int .u8 116),(.int .u8 116),(.int .u8 105),(.int .u8 99),(.int .u8 32),(.int .u8 97),(.int .u8 10)] 5) λr_1=>
 deref (some ⟨r_1,0,none⟩) λa=>
 Ao a<|
 deref (some ⟨r,0,none⟩) λa_1=>
 aQ [.slice,.slice] a_1 λ(t14:Sl×Sl)=>
 aH Pq 36 [(.agg #[(.slice t14.1.a t14.1.len t14.1.cap),(.slice t14.2.a t14.2.len t14.2.cap)])] [.c .slice,.c .slice] λ(t15:Sl×Sl)=>
 cS 37 [(.slice (some a) 8 8),(.int .i64 (t15.1.len:Int))] λt21=>
 aM (S:=Sl×Int) (λX s=>
 br (decide (s.2<(t15.1.len:Int))) (
 aP ((0:Int)<=s.2/\s.2<(t15.1.len:Int))<|
 deref t15.1.a λa_2=>
 deref (some (a_2.add (Int.toNat s.2*1))) λbX=>
 au .slice bX λ(t32:Sl)=>
 cS 38 [(.slice s.1.a s.1.len s.1.cap),(.slice t32.a t32.len t32.cap)] λt33=>
 X (t33,(IntKind.wrap .i64 (s.2+1)))) (
 deref (some ⟨r,0,none⟩) λc6=>
 deref (some (c6.add 0)) λc7=>
 au .slice c7 λ(t36:Sl)=>
 cS 37 [(.slice s.1.a s.1.len s.1.cap),(.int .i64 (t36.len:Int))] λt38=>
 aM (S:=Sl×Int) (λjM s_1=>
 jn (S:=Bool) (λR=>
 deref (some ⟨r,0,none⟩) λcV=>
 deref (some (cV.add 0)) λdy=>
 au .slice dy λ(t41:Sl)=>
 br (decide (s_1.2<(t41.len:Int))) (
 R ((decide (s_1.2<(t15.2.len:Int))))) (
 R false)) λs_2=>
 br s_2 (
 deref (some ⟨r,0,none⟩) λdO=>
 deref (some (dO.add 0)) λdP=>
 au .slice dP λ(t53:Sl)=>
 aP ((0:Int)<=s_1.2/\s_1.2<(t53.len:Int))<|
 deref t53.a λbu=>
 deref (some (bu.add (Int.toNat s_1.2*3))) λbF=>
 aQ [(.int .i64),.slice,.slice] bF λ(t56:Int×Sl×Sl)=>
 nw (.cells #[(.int .i64 0),(.slice none 0 0),(.slice none 0 0)] 62) λr_2=>
 deref (some ⟨r_2,0,none⟩) λbw=>
 st (bw.add 0) (.int .i64 t56.1)<|
 st (bw.add 1) (.slice t56.2.1.a t56.2.1.len t56.2.1.cap)<|
 st (bw.add 2) (.slice t56.2.2.a t56.2.2.len t56.2.2.cap)<|
 jn (S:=Sl) (λbG=>
 jE<|
 deref (some ⟨r_2,0,none⟩) λbJ=>
 deref (some (bJ.add 0)) λbW=>
 au (.int .i64) bW λ(t59:Int)=>
 aP ((0:Int)<=s_1.2/\s_1.2<(t15.2.len:Int))<|
 deref t15.2.a λbS=>
 deref (some ⟨r_2,0,none⟩) λcm=>
 both (
 cS 37 [(.slice s_1.1.a s_1.1.len s_1.1.cap),(.int .i64 t59)] λt60=>
 deref (some (bS.add (Int.toNat s_1.2*1))) λcx=>
 au (.int .i64) cx λ(t64:Int)=>
 both (
 cS 37 [(.slice t60.a t60.len t60.cap),(.int .i64 t64)] λt65=>
 deref (some (cm.add 1)) λcy=>
 au .slice cy λ(t67:Sl)=>
 cS 37 [(.slice t65.a t65.len t65.cap),(.int .i64 (t67.len:Int))] λt69=>
 bG t69) (
 deref (some (cm.add 1)) λcz=>
 au .slice cz λ(Fw:Sl)=>
 cS 37 [(.slice t60.a t60.len t60.cap),(.int .i64 t64)] λFU=>
 cS 37 [(.slice FU.a FU.len FU.cap),(.int .i64 (Fw.len:Int))] λFK=>
 bG FK)) (
 both (
 deref (some (bS.add (Int.toNat s_1.2*1))) λdz=>
 au (.int .i64) dz λ(FV:Int)=>
 both (
 cS 37 [(.slice s_1.1.a s_1.1.len s_1.1.cap),(.int .i64 t59)] λsL=>
 both (
 cS 37 [(.slice sL.a sL.len sL.cap),(.int .i64 FV)] λFW=>
 deref (some (cm.add 1)) λdQ=>
 au .slice dQ λ(PE:Sl)=>
 cS 37 [(.slice FW.a FW.len FW.cap),(.int .i64 (PE.len:Int))] λFL=>
 bG FL) (
 deref (some (cm.add 1)) λdR=>
 au .slice dR λ(PF:Sl)=>
 cS 37 [(.slice sL.a sL.len sL.cap),(.int .i64 FV)] λFX=>
 cS 37 [(.slice FX.a FX.len FX.cap),(.int .i64 (PF.len:Int))] λFM=>
 bG FM)) (
 deref (some (cm.add 1)) λep=>
 au .slice ep λ(PG:Sl)=>
 cS 37 [(.slice s_1.1.a s_1.1.len s_1.1.cap),(.int .i64 t59)] λFY=>
 cS 37 [(.slice FY.a FY.len FY.cap),(.int .i64 FV)] λFZ=>
 cS 37 [(.slice FZ.a FZ.len FZ.cap),(.int .i64 (PG.len:Int))] λPI=>
 bG PI)) (
 deref (some (cm.add 1)) λe8=>
 au .slice e8 λ(Ku:Sl)=>
 both (
 cS 37 [(.slice s_1.1.a s_1.1.len s_1.1.cap),(.int .i64 t59)] λF1=>
 deref (some (bS.add (Int.toNat s_1.2*1))) λfu=>
 au (.int .i64) fu λ(PJ:Int)=>
 cS 37 [(.slice F1.a F1.len F1.cap),(.int .i64 PJ)] λGa=>
 cS 37 [(.slice Ga.a Ga.len Ga.cap),(.int .i64 (Ku.len:Int))] λPK=>
 bG PK) (
 deref (some (bS.add (Int.toNat s_1.2*1))) λfy=>
 au (.int .i64) fy λ(PL:Int)=>
 cS 37 [(.slice s_1.1.a s_1.1.len s_1.1.cap),(.int .i64 t59)] λGb=>
 cS 37 [(.slice Gb.a Gb.len Gb.cap),(.int .i64 PL)] λGc=>
 cS 37 [(.slice Gc.a Gc.len Gc.cap),(.int .i64 (Ku.len:Int))] λPM=>
 bG PM)))) λdB=>
 aM (S:=Sl×Int) (λxh bB=>
 deref (some ⟨r_2,0,none⟩) λfZ=>
 deref (some (fZ.add 1)) λfA=>
 au .slice fA λ(t72:Sl)=>
 br (decide (bB.2<(t72.len:Int))) (
 deref (some ⟨r_2,0,none⟩) λgq=>
 deref (some (gq.add 1)) λiA=>
 au .slice iA λ(t79:Sl)=>
 aP ((0:Int)<=bB.2/\bB.2<(t79.len:Int))<|
 deref t79.a λjO=>
 deref (some (jO.add (Int.toNat bB.2*1))) λkO=>
 au (.int .i64) kO λ(t82:Int)=>
 cS 37 [(.slice bB.1.a bB.1.len bB.1.cap),(.int .i64 (IntKind.wrap .i64 (t82+1)))] λt84=>
 xh (t84,(IntKind.wrap .i64 (bB.2+1)))) (
 jM (bB.1,(IntKind.wrap .i64 (s_1.2+1))))) (dB,0)) (
 deref (some ⟨r,0,none⟩) λlT=>
 deref (some (lT.add 1)) λkP=>
 au .slice kP λ(t87:Sl)=>
 cS 37 [(.slice s_1.1.a s_1.1.len s_1.1.cap),(.int .i64 (t87.len:Int))] λt89=>
 aM (S:=Sl×Int) (λFI fB=>
 deref (some ⟨r,0,none⟩) λlg=>
 deref (some (lg.add 1)) λlU=>
 au .slice lU λ(t92:Sl)=>
 br (decide (fB.2<(t92.len:Int))) (
 jn (S:=Sl) (λjN=>
 jE<|
 deref (some ⟨r,0,none⟩) λlV=>
 deref (some (lV.add 1)) λlW=>
 au .slice lW λ(t99:Sl)=>
 aP ((0:Int)<=fB.2/\fB.2<(t99.len:Int))<|
 deref t99.a λlX=>
 deref (some (lX.add (Int.toNat fB.2*2))) λlY=>
 deref (some (lY.add 0)) λm9=>
 au .str m9 λ(t103:ByteArray)=>
 deref (some ⟨r,0,none⟩) λn6=>
 both (
 JV 5 t103 λt104=>
 both (
 cS 38 [(.slice fB.1.a fB.1.len fB.1.cap),(.slice t104.a t104.len t104.cap)] λt105=>
 deref (some (n6.add 1)) λn7=>
 au .slice n7 λ(t107:Sl)=>
 aP ((0:Int)<=fB.2/\fB.2<(t107.len:Int))<|
 deref t107.a λgb=>
 deref (some (gb.add (Int.toNat fB.2*2))) λgV=>
 deref (some (gV.add 1)) λoT=>
 au (.int .i64) oT λ(t111:Int)=>
 cS 37 [(.slice t105.a t105.len t105.cap),(.int .i64 t111)] λt112=>
 jN t112) (
 deref (some (n6.add 1)) λqQ=>
 au .slice qQ λ(Gd:Sl)=>
 aP ((0:Int)<=fB.2/\fB.2<(Gd.len:Int))<|
 deref Gd.a λug=>
 deref (some (ug.add (Int.toNat fB.2*2))) λrE=>
 both (
 cS 38 [(.slice fB.1.a fB.1.len fB.1.cap),(.slice t104.a t104.len t104.cap)] λzV=>
 deref (some (rE.add 1)) λuh=>
 au (.int .i64) uh λ(qT:Int)=>
 cS 37 [(.slice zV.a zV.len zV.cap),(.int .i64 qT)] λMD=>
 jN MD) (
 deref (some (rE.add 1)) λuj=>
 au (.int .i64) uj λ(ur:Int)=>
 cS 38 [(.slice fB.1.a fB.1.len fB.1.cap),(.slice t104.a t104.len t104.cap)] λzW=>
 cS 37 [(.slice zW.a zW.len zW.cap),(.int .i64 ur)] λME=>
 jN ME))) (
 deref (some (n6.add 1)) λuk=>
 au .slice uk λ(Ge:Sl)=>
 aP ((0:Int)<=fB.2/\fB.2<(Ge.len:Int))<|
 deref Ge.a λum=>
 deref (some (um.add (Int.toNat fB.2*2))) λqR=>
 both (
 JV 5 t103 λiB=>
 both (
 cS 38 [(.slice fB.1.a fB.1.len fB.1.cap),(.slice iB.a iB.len iB.cap)] λzX=>
 deref (some (qR.add 1)) λrF=>
 au (.int .i64) rF λ(zO:Int)=>
 cS 37 [(.slice zX.a zX.len zX.cap),(.int .i64 zO)] λMF=>
 jN MF) (
 deref (some (qR.add 1)) λuo=>
 au (.int .i64) uo λ(uu:Int)=>
 cS 38 [(.slice fB.1.a fB.1.len fB.1.cap),(.slice iB.a iB.len iB.cap)] λzY=>
 cS 37 [(.slice zY.a zY.len zY.cap),(.int .i64 uu)] λMG=>
 jN MG)) (
 deref (some (qR.add 1)) λzE=>
 au (.int .i64) zE λ(ux:Int)=>
 JV 5 t103 λlZ=>
 cS 38 [(.slice fB.1.a fB.1.len fB.1.cap),(.slice lZ.a lZ.len lZ.cap)] λzZ=>
 cS 37 [(.slice zZ.a zZ.len zZ.cap),(.int .i64 ux)] λMH=>
 jN MH))) λPa=>
 FI (Pa,(IntKind.wrap .i64 (fB.2+1)))) (
 aH Pq 40 [(.slice fB.1.a fB.1.len fB.1.cap)] [.c (.int .u32)] λ(t115:Int)=>
 cS 39 [(.int .i64 4),(.int .u64 (IntKind.wrap .u64 t115))] λt117=>
 app 5 1 1 [(.int .u8 0)] fB.1 t117 λt118=>
 Q t118)) (t89,0))) (t38,0))) (t21,0)
theorem BO(aD:Sl)(az:Sl)(Q:Sl->Pr)(w:World)(h:VA aD az Q w):Calls Pq 15 #[(.agg #[(slV aD),(slV az)])] w (aC [.c .slice] Q):=cF (an:=Ui) Tryz.func15 (by kernel_rfl) h
set_option maxRecDepth 20000
theorem kA{w0 w:World}{L:List HA}{s:Sl}{pre:LB}{n:Int}{k:Sl->Pr}(h:St aA w0 w (aq 1 s (pre.map ub)::L))(h0:0<=n)(hn:n<1000000)(hl:pre.length<=1000000000)
 (hk:∀r w',St aA w0 w' (aq 1 r ((pre++cA n.toNat).map ub)::L)->k r w'):aH Pq 37 [.slice s.a s.len s.cap,.int .i64 n] [.c .slice] k w:=by
 obtain⟨F,H,_,h1,h2,h3,h4,h5⟩:=h.ee;obtain⟨m,rfl⟩:∃m:Nat,n=m:=⟨n.toNat,by omega⟩;exact ak (UL s pre m w F h1 (by omega) hl) λr w' s'=>hk r w' (h5 w' _ s')
theorem Ld{w0 w:World}{L:List HA}{s x:Sl}{pre l:LB}{k:Sl->Pr}(h:St aA w0 w (aq 1 s (pre.map ub)::L))(hx:BS w0 x l)(hl:pre.length<=100000000)(xq:l.length<=100000000)
 (hk:∀r w',St aA w0 w' (aq 1 r ((pre++fm l).map ub)::L)->k r w'):aH Pq 38 [.slice s.a s.len s.cap,.slice x.a x.len x.cap] [.c .slice] k w:=by
 obtain⟨F,H,_,h1,h2,h3,h4,h5⟩:=h.ee;refine ak (UN s x pre l w F h1 ((Rd.aA hx).go h h4) hl xq) λr w' s'=>hk r w' ?_;rw[jt]at s';exact h5 w' _ s'
theorem HH{w0 w:World}{L:List HA}{s x:Sl}{pre l:LB}{k:Sl->Pr}(h:St aA w0 w (aq 1 s (pre.map ub)::aq 1 x (l.map ub)::L))(hl:pre.length<=100000000)(xq:l.length<=100000000)
 (hk:∀r w',St aA w0 w' (aq 1 r ((pre++fm l).map ub)::aq 1 x (l.map ub)::L)->k r w'):aH Pq 38 [.slice s.a s.len s.cap,.slice x.a x.len x.cap] [.c .slice] k w:=by
 obtain⟨F,H,_,h1,h2,h3,h4,h5⟩:=h.ee;refine ak (UN s x pre l w F h1 (Rd.own h2 h3) hl xq) λr w' s'=>hk r w' ?_;rw[jt]at s';exact h5 w' _ s'
theorem oZ{x y:Pr}{w:World}(hx:x w)(hy:y w):both x y w:=⟨hx,hy⟩
theorem Le{p:Prop}{x:Pr}{w:World}(hp:p)(hx:x w):aP p x w:=⟨hp,hx⟩
theorem eJ{α:Type}{f:α->LB}{l:List α}{i:Nat}(h:i<l.length):(l.take (i+1)).flatMap f=(l.take i).flatMap f++f l[i]:=by
 rw[List.take_add_one,jl h,List.flatMap_append];simp
theorem Xz(g:GS)(w:World)(hg:RG w aA g)(ht:g.m.nG):Calls Pq 15 #[g.v] w (aC [.c .slice] λr w'=>St aA w w' [aq 1 r ((bZ g.m).map ub)]):=by
 refine BO g.gn g.gr _ _ ?_;unfold VA;simp only[ag];have gy:=hg.nl;have hrl:=hg.rl;have hml:g.m.n.length=g.xs.length:=by simp[GS.m]
 have hn2:=ht.nl;rw[hml]at hn2;have xK:g.rs.length<=512:=ht.rl;have DG:∀x∈g.xs,x.m∈g.m.n:=λx hx=>kg.2 ⟨x,hx,rfl⟩;have Lf:=nH g.m;rw[hml]at Lf;have yb:=oX g;have BP:(fk g.xs).length=(aE g.m).length:=by rw[<-yb];simp
 have BQ:∀y∈fk g.xs,y∈g.xs:=λy hy=>(oY _ _ y hy).elim (λh=>by cases h) id;refine St.nw (St.bp w) λr w1 s1 _ _=>St.DW s1 λr1 w2 s2=>?_;have s2:St aA w w2 [aq 1 ⟨some ⟨r1,0,none⟩,8,8⟩ (bU.map ub),aa r [slV g.gn,slV g.gr]]:=s2;refine bY.aQ (l:=[.slice,.slice]) (p:=(g.gn,g.gr)) (s2.af 1).box ?_;refine ak (Xy g _ (hg.grow s2.bh)) ?_;rintro⟨t,u⟩ w3 k3;have s3:=s2.aZ k3;have s3:St aA w w3 [aq 1 t ((fk g.xs).map λy=>slV y.ds),aq 1 u ((g.xs.map λx=>(bD (aE g.m) x.d:Int)).map iv),aq 1 ⟨some ⟨r1,0,none⟩,8,8⟩ (bU.map ub),aa r [slV g.gn,slV g.gr]]:=s3;have kq:=aT s3.sl;have Ac:=aT (s3.af 1).sl;rw[je]at kq Ac;rw[je]at Ac;dsimp only;refine kA (s:=⟨some ⟨r1,0,none⟩,8,8⟩) (n:=t.len) (s3.af 2) (by omega) (by omega) (by decide) λb w4 s4=>?_;rw[jk,kq,BP]at s4;refine aB (λz W=>∃(i:Nat) (b:Sl),z=(b,(i:Int))/\i<=(aE g.m).length/\
  St aA w W [aq 1 b ((bU++cA (aE g.m).length++((aE g.m).take i).flatMap fm).map ub),aq 1 t ((fk g.xs).map λy=>slV y.ds),aq 1 u ((g.xs.map λx=>(bD (aE g.m) x.d:Int)).map iv),aa r [slV g.gn,slV g.gr]])
  (λz _=>(aE g.m).length-z.2.toNat) ⟨0,b,rfl,by omega,by rw[List.take_zero,List.flatMap_nil,List.append_nil];exact s4⟩ ?_
 have hA:∀i,(bU++cA (aE g.m).length++((aE g.m).take i).flatMap fm).length<=9000000:=by
  intro i;have h1:=cU (f:=fm) (K:=1018) (l:=aE g.m) (λx hx=>by
   obtain⟨n,hn,rfl⟩:=p6 g.m x hx;exact p5 (ht.dl n hn)) i
  have h2:=bP (aE g.m).length;rw[jh,jh];have h3:bU.length=8:=rfl;omega
 rintro _ W ⟨i,b,rfl,hi,sW⟩;dsimp only;refine ah (λhlt=>?_) λhge=>?_
 ·simp only[jb]at hlt
  have hil:i<(fk g.xs).length:=by omega
  refine⟨⟨by omega,by omega⟩,?_⟩;rw[jk];refine MS.at (g:=λy:NS=>slV y.ds) (c:=.slice) (p:=(fk g.xs)[i].ds) (x:=(fk g.xs)[i]) (bz.ms (sW.af 1).sl) (by simp[hil]) rfl ?_;have fD:=BQ _ (List.getElem_mem hil);have M6:(aE g.m)[i]'(by omega)=(fk g.xs)[i].d:=by simp only[<-yb,List.getElem_map]
  have gz:=eJ (f:=fm) (l:=aE g.m) (i:=i) (by omega);rw[M6]at gz;generalize(fk g.xs)[i]=y at fD gz⊢;have h1:=hA i;have h2:=ht.dl _ (DG y fD);refine Ld sW (hg.bd y fD) (by omega) (by show y.m.d.length<=_;omega) λb2 w5 s5=>?_;rw[ax (by omega)];refine⟨⟨i+1,b2,rfl,by omega,?_⟩,by omega⟩;rw[gz,<-jt];exact s5
 simp only[ja]at hge;rw[List.take_of_length_le (by omega)]at sW;have hA:=hA (aE g.m).length;rw[List.take_length]at hA;generalize hpre:bU++cA (aE g.m).length++(aE g.m).flatMap fm=pre at sW hA;refine(sW.af 3).ld (i:=0) (s:=.slice) (p:=g.gn) rfl ?_;refine kA (n:=g.gn.len) sW (by omega) (by omega) (by omega) λb w5 s5=>?_;rw[jk,gy,<-hml]at s5;refine aB (λz W=>∃(i:Nat) (b:Sl),z=(b,(i:Int))/\i<=g.xs.length/\
  St aA w W [aq 1 b ((pre++cA g.m.n.length++(g.m.n.take i).flatMap (eE (aE g.m))).map ub),aq 1 t ((fk g.xs).map λy=>slV y.ds),aq 1 u ((g.xs.map λx=>(bD (aE g.m) x.d:Int)).map iv),aa r [slV g.gn,slV g.gr]])
  (λz _=>g.xs.length-z.2.toNat) ⟨0,b,rfl,by omega,by rw[List.take_zero,List.flatMap_nil,List.append_nil];exact s5⟩ ?_
 have hB:∀i,(pre++cA g.m.n.length++(g.m.n.take i).flatMap (eE (aE g.m))).length<=20000000:=by
  intro i;have h1:=cU (f:=eE (aE g.m)) (K:=1290) (l:=g.m.n) (λx hx=>vE (ht.pl x hx)) i;have h2:=bP g.m.n.length;rw[jh,jh];omega
 rintro _ W ⟨i,b,rfl,hi,sW⟩;dsimp only;refine aL (λs' W'=>s'=decide (i<g.xs.length)/\W'=W) ?_ ?_
 ·refine(sW.af 3).ld (i:=0) (s:=.slice) (p:=g.gn) rfl ?_
  refine ah (λhlt=>?_) λhge=>?_
  ·simp only[jb]at hlt
   exact⟨by rw[Ac,decide_eq_true (show i<g.xs.length by omega),decide_eq_true (by omega)],rfl⟩
  ·simp only[ja]at hge
   exact⟨by rw[decide_eq_false (show¬i<g.xs.length by omega)],rfl⟩
 rintro _ W' ⟨rfl,rfl⟩;refine ah (λhlt=>?_) λhge=>?_
 ·simp only[jb]at hlt
  refine(sW.af 3).ld (i:=0) (s:=.slice) (p:=g.gn) rfl ⟨⟨by omega,by omega⟩,?_⟩;rw[jk];have kT:g.xs[i]? =some g.xs[i]:=by simp[hlt]
  have l7:g.xs[i]∈g.xs:=List.getElem_mem hlt;have gz:=eJ (f:=eE (aE g.m)) (l:=g.m.n) (i:=i) (by omega);have NM:g.m.n[i]'(by omega)=g.xs[i].m:=by simp[GS.m]
  rw[NM]at gz;refine(hg.grow sW.bh).node kT ?_;have NN:(g.xs.map λx=>(bD (aE g.m) x.d:Int))[i]'(by simp;omega)=(bD (aE g.m) g.xs[i].d:Int):=by simp
  generalize g.xs[i]=x at kT l7 gz NM NN⊢;have GR:=DG x l7;have j9:=ht.kk _ GR;have nq:=ht.pl _ GR;have qY:=ht.pr _ GR;have hdn:=tg (p7 GR);rw[hml]at qY;have j9:0<=x.k/\x.k<=3:=j9;have nq:x.p.length<=126:=nq;have qY:∀p∈x.p,-1<=p/\p<g.xs.length:=qY;have hdn:bD (aE g.m) x.d<(aE g.m).length:=hdn;have Lg:=(hg.ip x l7).len;refine St.nw sW λr2 w6 s6 _ _=>s6.st (i:=0) (by simp) trivial λw7 s7=>s7.st (i:=1) (by simp) trivial λw8 s8=>s8.st (i:=2) (by simp) trivial λw9 s9=>?_;have Rt:=hB i;have mu:pre++cA g.m.n.length++(g.m.n.take (i+1)).flatMap (eE (aE g.m))=(pre++cA g.m.n.length++(g.m.n.take i).flatMap (eE (aE g.m)))++eE (aE g.m) x.m:=by rw[gz,jt,jt,jt]
  generalize pre++cA g.m.n.length++(g.m.n.take i).flatMap (eE (aE g.m))=dV at s9 Rt mu;have s9:St aA w w9 [aq 1 b (dV.map ub),aa r2 (aj x),aq 1 t ((fk g.xs).map λy=>slV y.ds),aq 1 u ((g.xs.map λx=>(bD (aE g.m) x.d:Int)).map iv),aa r [slV g.gn,slV g.gr]]:=s9.af 1;obtain⟨RR,vw⟩:∃RR:Sl->Pr,RR=λs' W'=>St aA w W' [aq 1 s' ((dV++ie [x.k,(bD (aE g.m) x.d:Int),(x.p.length:Int)]).map ub),aa r2 (aj x),aq 1 t ((fk g.xs).map λy=>slV y.ds),aq 1 u ((g.xs.map λx=>(bD (aE g.m) x.d:Int)).map iv),aa r [slV g.gn,slV g.gr]]:=⟨_,rfl⟩;refine aL RR ?_ ?_
  ·rw[aR]
   have st:=s9.drew;refine(st.af 1).ld (i:=0) (s:=.int .i64) (p:=x.k) rfl ⟨⟨by omega,by omega⟩,?_⟩;have XA:∀{A W} (k:Int->Pr),St aA w W (A::[aa r2 (aj x),aq 1 t ((fk g.xs).map λy=>slV y.ds),aq 1 u ((g.xs.map λx=>(bD (aE g.m) x.d:Int)).map iv),aa r [slV g.gn,slV g.gr]])->k (bD (aE g.m) x.d:Int) W->∀ad,u.a=some ad->au (.int .i64) (ad.add (i*1)) k W:=by
    intro A W k s hk ad had;have:=IS.at (l:=g.xs.map λx=>(bD (aE g.m) x.d:Int)) (i:=i) (k:=k) (bz.ms (s.af 3).sl) (by simp;omega) (by rw[NN];exact hk);rw[had,ag]at this;exact this
   have GP:∀{A W} (k:Sl->Pr),St aA w W (A::[aa r2 (aj x),aq 1 t ((fk g.xs).map λy=>slV y.ds),aq 1 u ((g.xs.map λx=>(bD (aE g.m) x.d:Int)).map iv),aa r [slV g.gn,slV g.gr]])->k x.ps W->au .slice (Addr.add ⟨r2,0,none⟩ 1) k W:=
    λk s hk=>(s.af 1).ld (i:=1) (s:=.slice) (p:=x.ps) rfl hk
   have c1:∀{W} (k:Sl->Pr),St aA w W [aq 1 b (dV.map ub),aa r2 (aj x),aq 1 t ((fk g.xs).map λy=>slV y.ds),aq 1 u ((g.xs.map λx=>(bD (aE g.m) x.d:Int)).map iv),aa r [slV g.gn,slV g.gr]]->
    (∀r' W',St aA w W' [aq 1 r' ((dV++cA x.k.toNat).map ub),aa r2 (aj x),aq 1 t ((fk g.xs).map λy=>slV y.ds),aq 1 u ((g.xs.map λx=>(bD (aE g.m) x.d:Int)).map iv),aa r [slV g.gn,slV g.gr]]->k r' W')->
    aH Pq 37 [.slice b.a b.len b.cap,.int .i64 x.k] [.c .slice] k W:=λk s hk=>kA s (by omega) (by omega) (by omega) hk
   have c2:∀{W} (b':Sl) (k:Sl->Pr),St aA w W [aq 1 b' ((dV++cA x.k.toNat).map ub),aa r2 (aj x),aq 1 t ((fk g.xs).map λy=>slV y.ds),aq 1 u ((g.xs.map λx=>(bD (aE g.m) x.d:Int)).map iv),aa r [slV g.gn,slV g.gr]]->
    (∀r' W',St aA w W' [aq 1 r' ((dV++cA x.k.toNat++cA (bD (aE g.m) x.d)).map ub),aa r2 (aj x),aq 1 t ((fk g.xs).map λy=>slV y.ds),aq 1 u ((g.xs.map λx=>(bD (aE g.m) x.d:Int)).map iv),aa r [slV g.gn,slV g.gr]]->k r' W')->
    aH Pq 37 [.slice b'.a b'.len b'.cap,.int .i64 (bD (aE g.m) x.d:Int)] [.c .slice] k W:=λb' k s hk=>kA s (by omega) (by omega) (by have:=bP x.k.toNat;rw[jh];omega) hk
   have c3:∀{W} (b':Sl),St aA w W [aq 1 b' ((dV++cA x.k.toNat++cA (bD (aE g.m) x.d)).map ub),aa r2 (aj x),aq 1 t ((fk g.xs).map λy=>slV y.ds),aq 1 u ((g.xs.map λx=>(bD (aE g.m) x.d:Int)).map iv),aa r [slV g.gn,slV g.gr]]->
    aH Pq 37 [.slice b'.a b'.len b'.cap,.int .i64 (x.ps.len:Int)] [.c .slice] RR W:=λb' s=>kA s (by omega) (by omega) (by have:=bP x.k.toNat;have:=bP (bD (aE g.m) x.d);rw[jh,jh];omega) λr' W' s'=>by
     rw[vw,Lg]at *;simpa[ie,jt]using s'
   obtain⟨ad,had⟩:∃ad,u.a=some ad:=by
    have hs:=(s9.af 3).sl;cases hu:u.a with
    |some ad=>exact⟨ad,rfl⟩
    |
     none=>
     have:=(bz.ms hs:IS w9 u (g.xs.map λx=>(bD (aE g.m) x.d:Int))).dm hu;omega
   rw[had,ag]
   repeat' first
    |with_reducible refine oZ ?_ ?_
    |with_reducible exact c3 _ st
    |with_reducible refine c1 _ st λ_ _ st=>?_
    |with_reducible refine c2 _ _ st λ_ _ st=>?_
    |with_reducible refine GP _ st ?_
    |with_reducible refine XA _ st ?_ ad had
  intro b2 iF bH;rw[vw]at bH;refine aB (λz W=>∃(j:Nat) (b:Sl),z=(b,(j:Int))/\j<=x.p.length/\
   St aA w W [aq 1 b ((dV++ie [x.k,(bD (aE g.m) x.d:Int),(x.p.length:Int)]++(x.p.take j).flatMap λp=>cA (p+1).toNat).map ub),aa r2 (aj x),aq 1 t ((fk g.xs).map λy=>slV y.ds),aq 1 u ((g.xs.map λx=>(bD (aE g.m) x.d:Int)).map iv),aa r [slV g.gn,slV g.gr]])
   (λz _=>x.p.length-z.2.toNat) ⟨0,b2,rfl,by omega,by rw[List.take_zero,List.flatMap_nil,List.append_nil];exact bH⟩ ?_
  rintro _ W3 ⟨j,b3,rfl,hj,fE⟩;dsimp only;refine(fE.af 1).ld (i:=1) (s:=.slice) (p:=x.ps) rfl ?_;refine ah (λig=>?_) λij=>?_
  ·simp only[jb]at ig
   have hjl:j<x.p.length:=by omega
   refine(fE.af 1).ld (i:=1) (s:=.slice) (p:=x.ps) rfl ⟨⟨by omega,by omega⟩,?_⟩;rw[jk];refine IS.at ((hg.ip x l7).grow fE.bh) hjl ?_;have NO:=eJ (f:=λp:Int=>cA (p+1).toNat) (l:=x.p) hjl;have JS:=qY _ (List.getElem_mem hjl);generalize x.p[j]=p at NO JS⊢;rw[wrap_i64 ⟨by omega,by omega⟩];have XB:(dV++ie [x.k,(bD (aE g.m) x.d:Int),(x.p.length:Int)]++(x.p.take j).flatMap λp=>cA (p+1).toNat).length<=21000000:=by
    have h1:=me [x.k,(bD (aE g.m) x.d:Int),(x.p.length:Int)];have h2:=cU (f:=λp:Int=>cA (p+1).toNat) (K:=10) (l:=x.p) (λp _=>bP _) j;simp only[List.length_cons,List.length_nil]at h1;rw[jh,jh];omega
   refine kA fE (by omega) (by omega) (by omega) λb4 W4 s4=>?_;rw[ax (by omega)];refine⟨⟨j+1,b4,rfl,by omega,?_⟩,by omega⟩;rw[NO,<-jt];exact s4
  ·simp only[ja]at ij
   rw[List.take_of_length_le (by omega)]at fE;rw[ax (by omega)];refine⟨⟨i+1,b3,rfl,by omega,?_⟩,by omega⟩;rw[mu];unfold eE;rw[<-jt];exact fE.bE [0,2,3,4] 5
 simp only[ja]at hge;rw[List.take_of_length_le (by omega)]at sW;have hB:=hB g.m.n.length;rw[List.take_length]at hB;generalize DY:pre++cA g.m.n.length++g.m.n.flatMap (eE (aE g.m))=dV at sW hB;refine(sW.af 3).ld (i:=1) (s:=.slice) (p:=g.gr) rfl ?_;refine kA (n:=g.gr.len) sW (by omega) (by omega) (by omega) λb w5 s5=>?_;rw[jk,hrl]at s5;have hC:∀i,(dV++cA g.rs.length++(g.rs.take i).flatMap cG).length<=20100000:=by
  intro i;have h1:=cU (f:=cG) (K:=36) (l:=g.rs) (λx hx=>rU (ht.sl x hx)) i;have h2:=bP g.rs.length;rw[jh,jh];omega
 refine aB (λz W=>∃(i:Nat) (b:Sl),z=(b,(i:Int))/\i<=g.rs.length/\
  St aA w W [aq 1 b ((dV++cA g.rs.length++(g.rs.take i).flatMap cG).map ub),aa r [slV g.gn,slV g.gr]])
  (λz _=>g.rs.length-z.2.toNat) ⟨0,b,rfl,by omega,by rw[List.take_zero,List.flatMap_nil,List.append_nil];exact s5.bE [0,3] 4⟩ ?_
 rintro _ W ⟨j,b,rfl,hj,sW⟩;dsimp only;refine(sW.af 1).ld (i:=1) (s:=.slice) (p:=g.gr) rfl ?_;refine ah (λhlt=>?_) λhge=>?_
 ·simp only[jb]at hlt
  have hjl:j<g.rs.length:=by omega
  have iD:g.rs[j]? =some g.rs[j]:=by simp[hjl]
  have hmem:g.rs[j]∈g.m.r:=List.getElem_mem hjl;have gz:=eJ (f:=cG) (l:=g.rs) hjl;generalize g.rs[j]=rr at iD hmem gz;have hrb:=ht.rr rr hmem;rw[hml]at hrb;have jZ:=ht.sl rr hmem;have Ru:=hC j;have mu:dV++cA g.rs.length++(g.rs.take (j+1)).flatMap cG=(dV++cA g.rs.length++(g.rs.take j).flatMap cG)++cG rr:=by rw[gz,jt,jt,jt]
  generalize dV++cA g.rs.length++(g.rs.take j).flatMap cG=mw at sW Ru mu;obtain⟨RR,vw⟩:∃RR:Sl->Pr,RR=λs' W'=>St aA w W' [aq 1 s' ((mw++cG rr).map ub),aa r [slV g.gn,slV g.gr]]:=⟨_,rfl⟩;refine aL RR ?_ ?_
  ·rw[aR]
   have st:=sW.drew;refine(st.af 1).ld (i:=1) (s:=.slice) (p:=g.gr) rfl ⟨⟨by omega,by omega⟩,?_⟩;rw[jk];refine(hg.grow st.bh).oc (j:=0) (c:=.str) (p:=bytesOf rr.1) iD rfl ?_;obtain⟨ad,had⟩:∃ad,g.gr.a=some ad:=by
    cases hu:g.gr.a with
    |some ad=>exact⟨ad,rfl⟩
    |
     none=>
     have hv:=(xI hg).dm (by decide) hu;omega
   have XC:∀{A W L} (k:Sl->Pr),St aA w W (A::aa r [slV g.gn,slV g.gr]::L)->k g.gr W->au .slice (Addr.add ⟨r,0,none⟩ 1) k W:=
    λk s hk=>(s.af 1).ld (i:=1) (s:=.slice) (p:=g.gr) rfl hk
   have Rv:∀{W L} (k:Int->Pr),St aA w W L->k rr.2 W->au (.int .i64) ((ad.add (j*2)).add 1) k W:=by
    intro W L k s hk;have:=(hg.grow s.bh).oc (j:=1) (c:=.int .i64) (p:=rr.2) iD rfl hk;rw[had,ag]at this;exact this
   have cs:∀{W} (k:Sl->Pr),St aA w W [aq 1 b (mw.map ub),aa r [slV g.gn,slV g.gr]]->
    (∀x W',St aA w W' [aq 1 b (mw.map ub),aa r [slV g.gn,slV g.gr],aq 1 x (rr.1.map ub)]->k x W')->Eng.JV 5 (bytesOf rr.1) k W:=
    λk s hk=>St.JV s (by omega) λx W' s'=>hk x W' (s'.bE [1,2,0] 3)
   have c1:∀{W} (x:Sl) (k:Sl->Pr),St aA w W [aq 1 b (mw.map ub),aa r [slV g.gn,slV g.gr],aq 1 x (rr.1.map ub)]->
    (∀r' W',St aA w W' [aq 1 r' ((mw++fm rr.1).map ub),aa r [slV g.gn,slV g.gr],aq 1 x (rr.1.map ub)]->k r' W')->
    aH Pq 38 [.slice b.a b.len b.cap,.slice x.a x.len x.cap] [.c .slice] k W:=
    λx k s hk=>HH (s.bE [0,2,1] 3) (by omega) (by omega) λr' W' s'=>hk r' W' (s'.bE [0,2,1] 3)
   have c2:∀{W} (x b':Sl),St aA w W [aq 1 b' ((mw++fm rr.1).map ub),aa r [slV g.gn,slV g.gr],aq 1 x (rr.1.map ub)]->
    aH Pq 37 [.slice b'.a b'.len b'.cap,.int .i64 rr.2] [.c .slice] RR W:=λx b' s=>kA s (by omega) (by omega) (by have:=p5 (x:=rr.1) (by omega);rw[jh];omega) λr' W' s'=>by
     rw[vw];unfold cG;rw[<-jt];exact s'.bE [0,1] 3
   repeat' first
    |with_reducible refine oZ ?_ ?_
    |with_reducible refine Le (by omega) ?_
    |with_reducible exact c2 _ _ st
    |with_reducible refine c1 _ _ st λ_ _ st=>?_
    |with_reducible refine cs _ st λ_ _ st=>?_
    |with_reducible refine XC _ st ?_
    |with_reducible refine Rv _ st ?_
    |rw[had,ag,jk]
    |rw[had,ag]
  intro b2 iF bH;rw[vw,<-mu]at bH;rw[ax (by omega)];exact⟨⟨j+1,b2,rfl,by omega,bH⟩,by omega⟩
 ·simp only[ja]at hge
  rw[List.take_of_length_le (by omega)]at sW;have hC:=hC g.rs.length;rw[List.take_length]at hC;have hbody:dV++cA g.rs.length++g.rs.flatMap cG=gZ g.m (aE g.m):=by
   rw[<-DY,<-hpre];rfl
  rw[hbody]at sW hC;unfold bZ pZ;generalize gZ g.m (aE g.m)=body at sW hC⊢;refine ak (Xk b body W sW.sl.bs (by omega)) ?_;rintro _ W2 ⟨rfl,rfl⟩;have hlt:=sX body;rw[bO,show(((iT body:Nat):Int)%18446744073709551616)=((iT body:Nat):Int) by omega];refine ak (Xi 4 (iT body) _ (by decide) (by decide)) λx W3 k3=>?_;have s3:=sW.aZ k3;refine DX (s3.af 1) s3.sl.bs (by omega) (by simp) λb2 W4 s4=>?_;exact s4.bE [0] 3
set_option maxRecDepth 100000
def Ty:An:=(.sq .z (.sq .z (.sq (.sq .z (.br (.sq .z .z) .z)) (.sq .z (.sq .z (.sq (.sq .z (.bl (.lp [(7,.c .slice),(42,.c (.int .i64))] (.sq .z (.sq (.br .z .z) (.sq (.bl (.sq .z .z)) .z)))))) (.sq .z (.sq (.sq .z (.bl (.lp [(7,.c .slice),(63,.c (.int .i64))] (.sq .z (.sq (.br .z .z) (.sq (.bl (.sq .z (.sq (.jn [(7,.c .slice)] .z) (.sq .z (.bl (.lp [(7,.c .slice),(82,.c (.int .i64))] (.sq .z (.sq (.br .z .z) (.sq (.bl (.sq .z .z)) .z))))))))) .z)))))) (.sq .z (.sq (.sq .z (.bl (.lp [(7,.c .slice),(102,.c (.int .i64))] (.sq .z (.sq (.br .z .z) (.sq (.jn [(7,.c .slice)] (.bl (.sq .z .z))) .z)))))) (.sq .z .z)))))))))))
def VB(aD:Sl)(az:Sl)(Q:Sl×Value->Pr):Pr:=
 nw (.cells #[(.slice aD.a aD.len aD.cap),(.slice az.a az.len az.cap)] 32) λr=>
 deref (some ⟨r,0,none⟩) λa=>
 aQ [.slice,.slice] a λ(t17:Sl×Sl)=>
 aH Pq 21 [(.agg #[(.slice t17.1.a t17.1.len t17.1.cap),(.slice t17.2.a t17.2.len t17.2.cap)])] [.agg [.slice,.slice],.c (.int .i64)] λ(t18:(Sl×Sl)×Int)=>
 nw (.cells #[(.slice none 0 0),(.slice none 0 0)] 32) λr_1=>
 deref (some ⟨r_1,0,none⟩) λa_1=>
 st (a_1.add 0) (.slice t18.1.1.a t18.1.1.len t18.1.1.cap)<|
 st (a_1.add 1) (.slice t18.1.2.a t18.1.2.len t18.1.2.cap)<|
 br (t18.2 !=0) (
 aH Pq 17 [(.int .i64 0),(.iface 24 (.int .i64 t18.2))] [.c .any] λ(t25:Value)=>
 Q (⟨none,0,0⟩,t25)) (
 deref (some ⟨r_1,0,none⟩) λa_2=>
 aQ [.slice,.slice] a_2 λ(t26:Sl×Sl)=>
 aH Pq 22 [(.agg #[(.slice t26.1.a t26.1.len t26.1.cap),(.slice t26.2.a t26.2.len t26.2.cap)])] [.c .ptr] λ(t27:OA)=>
 nw (.cells #[(.int .u8 97),(.int .u8 116),(.int .u8 116),(.int .u8 105),(.int .u8 99),(.int .u8 32),(.int .u8 97),(.int .u8 10)] 5) λr_2=>
 deref (some ⟨r_2,0,none⟩) λbX=>
 Ao bX<|
 deref t27 λc6=>
 deref (some c6) λc7=>
 deref (some (c7.add 0)) λcV=>
 au .slice cV λ(t33:Sl)=>
 nw (.cells #[(.int .i64 (t33.len:Int))] 3) λr_3=>
 cS 23 [(.slice (some bX) 8 8),(.slice (some ⟨r_3,0,none⟩) 1 1)] λt36=>
 deref t27 λdy=>
 deref (some dy) λdO=>
 deref (some (dO.add 0)) λdP=>
 au .slice dP λ(t40:Sl)=>
 aM (S:=Sl×Int) (λX s=>
 br (decide (s.2<(t40.len:Int))) (
 aP ((0:Int)<=s.2/\s.2<(t40.len:Int))<|
 deref t40.a λbu=>
 deref (some (bu.add (Int.toNat s.2*1))) λbF=>
 au .slice bF λ(t45:Sl)=>
 nw (.cells #[(.int .i64 (t45.len:Int))] 3) λnc=>
 cS 23 [(.slice s.1.a s.1.len s.1.cap),(.slice (some ⟨nc,0,none⟩) 1 1)] λt50=>
 app 5 1 1 [(.int .u8 0)] t50 t45 λt52=>
 X (t52,(IntKind.wrap .i64 (s.2+1)))) (
 deref (some ⟨r_1,0,none⟩) λbw=>
 deref (some (bw.add 0)) λbJ=>
 au .slice bJ λ(t56:Sl)=>
 nw (.cells #[(.int .i64 (t56.len:Int))] 3) λsK=>
 cS 23 [(.slice s.1.a s.1.len s.1.cap),(.slice (some ⟨sK,0,none⟩) 1 1)] λt59=>
 deref (some ⟨r_1,0,none⟩) λbW=>
 deref (some (bW.add 0)) λbS=>
 au .slice bS λ(t61:Sl)=>
 aM (S:=Sl×Int) (λjM s_1=>
 br (decide (s_1.2<(t61.len:Int))) (
 aP ((0:Int)<=s_1.2/\s_1.2<(t61.len:Int))<|
 deref t61.a λcm=>
 deref (some (cm.add (Int.toNat s_1.2*3))) λcx=>
 aQ [(.int .i64),.slice,.slice] cx λ(t66:Int×Sl×Sl)=>
 nw (.cells #[(.int .i64 0),(.slice none 0 0),(.slice none 0 0)] 62) λC3=>
 deref (some ⟨C3,0,none⟩) λcy=>
 st (cy.add 0) (.int .i64 t66.1)<|
 st (cy.add 1) (.slice t66.2.1.a t66.2.1.len t66.2.1.cap)<|
 st (cy.add 2) (.slice t66.2.2.a t66.2.2.len t66.2.2.cap)<|
 jn (S:=Sl) (λR=>
 jE<|
 deref (some ⟨C3,0,none⟩) λcz=>
 deref (some ⟨C3,0,none⟩) λdz=>
 deref (some (dz.add 2)) λdQ=>
 au .slice dQ λ(t72:Sl)=>
 deref (some ⟨C3,0,none⟩) λdR=>
 both (
 deref (some (cz.add 0)) λep=>
 au (.int .i64) ep λ(t69:Int)=>
 both (
 aH Pq 24 [(.pointer t27),(.slice t72.a t72.len t72.cap)] [.c (.int .i64)] λ(t73:Int)=>
 deref (some (dR.add 1)) λe8=>
 au .slice e8 λ(t75:Sl)=>
 nw (.cells #[(.int .i64 t69),(.int .i64 t73),(.int .i64 (t75.len:Int))] 3) λTl=>
 cS 23 [(.slice s_1.1.a s_1.1.len s_1.1.cap),(.slice (some ⟨Tl,0,none⟩) 3 3)] λt78=>
 R t78) (
 deref (some (dR.add 1)) λfu=>
 au .slice fu λ(Pm:Sl)=>
 aH Pq 24 [(.pointer t27),(.slice t72.a t72.len t72.cap)] [.c (.int .i64)] λ(Pn:Int)=>
 nw (.cells #[(.int .i64 t69),(.int .i64 Pn),(.int .i64 (Pm.len:Int))] 3) λQO=>
 cS 23 [(.slice s_1.1.a s_1.1.len s_1.1.cap),(.slice (some ⟨QO,0,none⟩) 3 3)] λPo=>
 R Po)) (
 both (
 aH Pq 24 [(.pointer t27),(.slice t72.a t72.len t72.cap)] [.c (.int .i64)] λ(Pp:Int)=>
 deref (some (cz.add 0)) λfy=>
 au (.int .i64) fy λ(FK:Int)=>
 deref (some (dR.add 1)) λfZ=>
 au .slice fZ λ(Pt:Sl)=>
 nw (.cells #[(.int .i64 FK),(.int .i64 Pp),(.int .i64 (Pt.len:Int))] 3) λTm=>
 cS 23 [(.slice s_1.1.a s_1.1.len s_1.1.cap),(.slice (some ⟨Tm,0,none⟩) 3 3)] λPu=>
 R Pu) (
 deref (some (dR.add 1)) λfA=>
 au .slice fA λ(Kt:Sl)=>
 both (
 deref (some (cz.add 0)) λgq=>
 au (.int .i64) gq λ(FL:Int)=>
 aH Pq 24 [(.pointer t27),(.slice t72.a t72.len t72.cap)] [.c (.int .i64)] λ(Pv:Int)=>
 nw (.cells #[(.int .i64 FL),(.int .i64 Pv),(.int .i64 (Kt.len:Int))] 3) λTz=>
 cS 23 [(.slice s_1.1.a s_1.1.len s_1.1.cap),(.slice (some ⟨Tz,0,none⟩) 3 3)] λPw=>
 R Pw) (
 aH Pq 24 [(.pointer t27),(.slice t72.a t72.len t72.cap)] [.c (.int .i64)] λ(Px:Int)=>
 deref (some (cz.add 0)) λiA=>
 au (.int .i64) iA λ(FM:Int)=>
 nw (.cells #[(.int .i64 FM),(.int .i64 Px),(.int .i64 (Kt.len:Int))] 3) λTA=>
 cS 23 [(.slice s_1.1.a s_1.1.len s_1.1.cap),(.slice (some ⟨TA,0,none⟩) 3 3)] λPy=>
 R Py)))) λs_2=>
 deref (some ⟨C3,0,none⟩) λjO=>
 deref (some (jO.add 1)) λkO=>
 au .slice kO λ(t80:Sl)=>
 aM (S:=Sl×Int) (λxh dB=>
 br (decide (dB.2<(t80.len:Int))) (
 aP ((0:Int)<=dB.2/\dB.2<(t80.len:Int))<|
 deref t80.a λlT=>
 deref (some (lT.add (Int.toNat dB.2*1))) λkP=>
 au (.int .i64) kP λ(t85:Int)=>
 nw (.cells #[(.int .i64 (IntKind.wrap .i64 (t85+1)))] 3) λTB=>
 cS 23 [(.slice dB.1.a dB.1.len dB.1.cap),(.slice (some ⟨TB,0,none⟩) 1 1)] λt90=>
 xh (t90,(IntKind.wrap .i64 (dB.2+1)))) (
 jM (dB.1,(IntKind.wrap .i64 (s_1.2+1))))) (s_2,0)) (
 deref (some ⟨r_1,0,none⟩) λlg=>
 deref (some (lg.add 1)) λlU=>
 au .slice lU λ(t95:Sl)=>
 nw (.cells #[(.int .i64 (t95.len:Int))] 3) λTC=>
 cS 23 [(.slice s_1.1.a s_1.1.len s_1.1.cap),(.slice (some ⟨TC,0,none⟩) 1 1)] λt98=>
 deref (some ⟨r_1,0,none⟩) λlV=>
 deref (some (lV.add 1)) λlW=>
 au .slice lW λ(t100:Sl)=>
 aM (S:=Sl×Int) (λFI bB=>
 br (decide (bB.2<(t100.len:Int))) (
 jn (S:=Sl) (λbG=>
 aP ((0:Int)<=bB.2/\bB.2<(t100.len:Int))<|
 deref t100.a λlX=>
 deref (some (lX.add (Int.toNat bB.2*2))) λlY=>
 aQ [.str,(.int .i64)] lY λ(t105:ByteArray×Int)=>
 nw (.cells #[(.string (⟨#[]⟩:ByteArray)),(.int .i64 0)] 64) λIJ=>
 deref (some ⟨IJ,0,none⟩) λm9=>
 st (m9.add 0) (.string t105.1)<|
 st (m9.add 1) (.int .i64 t105.2)<|
 jE<|
 deref (some ⟨IJ,0,none⟩) λn6=>
 deref (some (n6.add 0)) λn7=>
 au .str n7 λ(t108:ByteArray)=>
 deref (some ⟨IJ,0,none⟩) λgb=>
 deref (some ⟨IJ,0,none⟩) λgV=>
 both (
 nw (.cells #[(.int .i64 (t108.size:Int))] 3) λuq=>
 both (
 cS 23 [(.slice bB.1.a bB.1.len bB.1.cap),(.slice (some ⟨uq,0,none⟩) 1 1)] λt111=>
 deref (some (gb.add 0)) λoT=>
 au .str oT λ(t113:ByteArray)=>
 both (
 ct 5 1 1 [(.int .u8 0)] t111 t113 λt114=>
 deref (some (gV.add 1)) λqQ=>
 au (.int .i64) qQ λ(t116:Int)=>
 nw (.cells #[(.int .i64 t116)] 3) λTD=>
 cS 23 [(.slice t114.a t114.len t114.cap),(.slice (some ⟨TD,0,none⟩) 1 1)] λt118=>
 bG t118) (
 deref (some (gV.add 1)) λug=>
 au (.int .i64) ug λ(FN:Int)=>
 both (
 ct 5 1 1 [(.int .u8 0)] t111 t113 λzG=>
 nw (.cells #[(.int .i64 FN)] 3) λTE=>
 cS 23 [(.slice zG.a zG.len zG.cap),(.slice (some ⟨TE,0,none⟩) 1 1)] λMk=>
 bG Mk) (
 nw (.cells #[(.int .i64 FN)] 3) λTF=>
 ct 5 1 1 [(.int .u8 0)] t111 t113 λzH=>
 cS 23 [(.slice zH.a zH.len zH.cap),(.slice (some ⟨TF,0,none⟩) 1 1)] λMl=>
 bG Ml))) (
 both (
 deref (some (gb.add 0)) λrE=>
 au .str rE λ(n8:ByteArray)=>
 both (
 cS 23 [(.slice bB.1.a bB.1.len bB.1.cap),(.slice (some ⟨uq,0,none⟩) 1 1)] λqT=>
 both (
 ct 5 1 1 [(.int .u8 0)] qT n8 λzI=>
 deref (some (gV.add 1)) λuh=>
 au (.int .i64) uh λ(Mm:Int)=>
 nw (.cells #[(.int .i64 Mm)] 3) λTG=>
 cS 23 [(.slice zI.a zI.len zI.cap),(.slice (some ⟨TG,0,none⟩) 1 1)] λMn=>
 bG Mn) (
 deref (some (gV.add 1)) λuj=>
 au (.int .i64) uj λ(FO:Int)=>
 both (
 ct 5 1 1 [(.int .u8 0)] qT n8 λzJ=>
 nw (.cells #[(.int .i64 FO)] 3) λTH=>
 cS 23 [(.slice zJ.a zJ.len zJ.cap),(.slice (some ⟨TH,0,none⟩) 1 1)] λMo=>
 bG Mo) (
 nw (.cells #[(.int .i64 FO)] 3) λTI=>
 ct 5 1 1 [(.int .u8 0)] qT n8 λzK=>
 cS 23 [(.slice zK.a zK.len zK.cap),(.slice (some ⟨TI,0,none⟩) 1 1)] λMp=>
 bG Mp))) (
 deref (some (gV.add 1)) λuk=>
 au (.int .i64) uk λ(zL:Int)=>
 both (
 cS 23 [(.slice bB.1.a bB.1.len bB.1.cap),(.slice (some ⟨uq,0,none⟩) 1 1)] λur=>
 both (
 ct 5 1 1 [(.int .u8 0)] ur n8 λzM=>
 nw (.cells #[(.int .i64 zL)] 3) λTJ=>
 cS 23 [(.slice zM.a zM.len zM.cap),(.slice (some ⟨TJ,0,none⟩) 1 1)] λMq=>
 bG Mq) (
 nw (.cells #[(.int .i64 zL)] 3) λTK=>
 ct 5 1 1 [(.int .u8 0)] ur n8 λzN=>
 cS 23 [(.slice zN.a zN.len zN.cap),(.slice (some ⟨TK,0,none⟩) 1 1)] λMr=>
 bG Mr)) (
 nw (.cells #[(.int .i64 zL)] 3) λTL=>
 cS 23 [(.slice bB.1.a bB.1.len bB.1.cap),(.slice (some ⟨uq,0,none⟩) 1 1)] λzO=>
 ct 5 1 1 [(.int .u8 0)] zO n8 λzP=>
 cS 23 [(.slice zP.a zP.len zP.cap),(.slice (some ⟨TL,0,none⟩) 1 1)] λMs=>
 bG Ms))) (
 deref (some (gV.add 1)) λum=>
 au (.int .i64) um λ(n9:Int)=>
 both (
 cS 23 [(.slice bB.1.a bB.1.len bB.1.cap),(.slice (some ⟨uq,0,none⟩) 1 1)] λuu=>
 deref (some (gb.add 0)) λqR=>
 au .str qR λ(FP:ByteArray)=>
 both (
 ct 5 1 1 [(.int .u8 0)] uu FP λzQ=>
 nw (.cells #[(.int .i64 n9)] 3) λTM=>
 cS 23 [(.slice zQ.a zQ.len zQ.cap),(.slice (some ⟨TM,0,none⟩) 1 1)] λMt=>
 bG Mt) (
 nw (.cells #[(.int .i64 n9)] 3) λTN=>
 ct 5 1 1 [(.int .u8 0)] uu FP λuw=>
 cS 23 [(.slice uw.a uw.len uw.cap),(.slice (some ⟨TN,0,none⟩) 1 1)] λIK=>
 bG IK)) (
 both (
 deref (some (gb.add 0)) λrF=>
 au .str rF λ(zR:ByteArray)=>
 both (
 cS 23 [(.slice bB.1.a bB.1.len bB.1.cap),(.slice (some ⟨uq,0,none⟩) 1 1)] λux=>
 both (
 ct 5 1 1 [(.int .u8 0)] ux zR λuy=>
 nw (.cells #[(.int .i64 n9)] 3) λTO=>
 cS 23 [(.slice uy.a uy.len uy.cap),(.slice (some ⟨TO,0,none⟩) 1 1)] λIL=>
 bG IL) (
 nw (.cells #[(.int .i64 n9)] 3) λTP=>
 ct 5 1 1 [(.int .u8 0)] ux zR λuz=>
 cS 23 [(.slice uz.a uz.len uz.cap),(.slice (some ⟨TP,0,none⟩) 1 1)] λIM=>
 bG IM)) (
 nw (.cells #[(.int .i64 n9)] 3) λTQ=>
 cS 23 [(.slice bB.1.a bB.1.len bB.1.cap),(.slice (some ⟨uq,0,none⟩) 1 1)] λMu=>
 ct 5 1 1 [(.int .u8 0)] Mu zR λuA=>
 cS 23 [(.slice uA.a uA.len uA.cap),(.slice (some ⟨TQ,0,none⟩) 1 1)] λIN=>
 bG IN)) (
 nw (.cells #[(.int .i64 n9)] 3) λPz=>
 both (
 cS 23 [(.slice bB.1.a bB.1.len bB.1.cap),(.slice (some ⟨uq,0,none⟩) 1 1)] λMv=>
 deref (some (gb.add 0)) λuo=>
 au .str uo λ(Mw:ByteArray)=>
 ct 5 1 1 [(.int .u8 0)] Mv Mw λuB=>
 cS 23 [(.slice uB.a uB.len uB.cap),(.slice (some ⟨Pz,0,none⟩) 1 1)] λIP=>
 bG IP) (
 deref (some (gb.add 0)) λzE=>
 au .str zE λ(Mx:ByteArray)=>
 cS 23 [(.slice bB.1.a bB.1.len bB.1.cap),(.slice (some ⟨uq,0,none⟩) 1 1)] λMy=>
 ct 5 1 1 [(.int .u8 0)] My Mx λuC=>
 cS 23 [(.slice uC.a uC.len uC.cap),(.slice (some ⟨Pz,0,none⟩) 1 1)] λIQ=>
 bG IQ)))))) (
 both (
 deref (some (gb.add 0)) λFD=>
 au .str FD λ(iC:ByteArray)=>
 both (
 nw (.cells #[(.int .i64 (t108.size:Int))] 3) λMz=>
 both (
 cS 23 [(.slice bB.1.a bB.1.len bB.1.cap),(.slice (some ⟨Mz,0,none⟩) 1 1)] λzS=>
 both (
 ct 5 1 1 [(.int .u8 0)] zS iC λuD=>
 deref (some (gV.add 1)) λFE=>
 au (.int .i64) FE λ(MA:Int)=>
 nw (.cells #[(.int .i64 MA)] 3) λTR=>
 cS 23 [(.slice uD.a uD.len uD.cap),(.slice (some ⟨TR,0,none⟩) 1 1)] λIT=>
 bG IT) (
 deref (some (gV.add 1)) λFF=>
 au (.int .i64) FF λ(FQ:Int)=>
 both (
 ct 5 1 1 [(.int .u8 0)] zS iC λuE=>
 nw (.cells #[(.int .i64 FQ)] 3) λTS=>
 cS 23 [(.slice uE.a uE.len uE.cap),(.slice (some ⟨TS,0,none⟩) 1 1)] λIU=>
 bG IU) (
 nw (.cells #[(.int .i64 FQ)] 3) λTT=>
 ct 5 1 1 [(.int .u8 0)] zS iC λuF=>
 cS 23 [(.slice uF.a uF.len uF.cap),(.slice (some ⟨TT,0,none⟩) 1 1)] λIV=>
 bG IV))) (
 deref (some (gV.add 1)) λFG=>
 au (.int .i64) FG λ(zT:Int)=>
 both (
 cS 23 [(.slice bB.1.a bB.1.len bB.1.cap),(.slice (some ⟨Mz,0,none⟩) 1 1)] λAX=>
 both (
 ct 5 1 1 [(.int .u8 0)] AX iC λuG=>
 nw (.cells #[(.int .i64 zT)] 3) λTU=>
 cS 23 [(.slice uG.a uG.len uG.cap),(.slice (some ⟨TU,0,none⟩) 1 1)] λIW=>
 bG IW) (
 nw (.cells #[(.int .i64 zT)] 3) λTV=>
 ct 5 1 1 [(.int .u8 0)] AX iC λuH=>
 cS 23 [(.slice uH.a uH.len uH.cap),(.slice (some ⟨TV,0,none⟩) 1 1)] λIX=>
 bG IX)) (
 nw (.cells #[(.int .i64 zT)] 3) λTW=>
 cS 23 [(.slice bB.1.a bB.1.len bB.1.cap),(.slice (some ⟨Mz,0,none⟩) 1 1)] λIY=>
 ct 5 1 1 [(.int .u8 0)] IY iC λuI=>
 cS 23 [(.slice uI.a uI.len uI.cap),(.slice (some ⟨TW,0,none⟩) 1 1)] λIZ=>
 bG IZ))) (
 deref (some (gV.add 1)) λFH=>
 au (.int .i64) FH λ(uJ:Int)=>
 both (
 nw (.cells #[(.int .i64 (t108.size:Int))] 3) λPA=>
 both (
 cS 23 [(.slice bB.1.a bB.1.len bB.1.cap),(.slice (some ⟨PA,0,none⟩) 1 1)] λAY=>
 both (
 ct 5 1 1 [(.int .u8 0)] AY iC λuK=>
 nw (.cells #[(.int .i64 uJ)] 3) λTX=>
 cS 23 [(.slice uK.a uK.len uK.cap),(.slice (some ⟨TX,0,none⟩) 1 1)] λI0=>
 bG I0) (
 nw (.cells #[(.int .i64 uJ)] 3) λTY=>
 ct 5 1 1 [(.int .u8 0)] AY iC λuL=>
 cS 23 [(.slice uL.a uL.len uL.cap),(.slice (some ⟨TY,0,none⟩) 1 1)] λI1=>
 bG I1)) (
 nw (.cells #[(.int .i64 uJ)] 3) λTZ=>
 cS 23 [(.slice bB.1.a bB.1.len bB.1.cap),(.slice (some ⟨PA,0,none⟩) 1 1)] λI2=>
 ct 5 1 1 [(.int .u8 0)] I2 iC λuM=>
 cS 23 [(.slice uM.a uM.len uM.cap),(.slice (some ⟨TZ,0,none⟩) 1 1)] λI3=>
 bG I3)) (
 nw (.cells #[(.int .i64 uJ)] 3) λT0=>
 nw (.cells #[(.int .i64 (t108.size:Int))] 3) λT1=>
 cS 23 [(.slice bB.1.a bB.1.len bB.1.cap),(.slice (some ⟨T1,0,none⟩) 1 1)] λI5=>
 ct 5 1 1 [(.int .u8 0)] I5 iC λuN=>
 cS 23 [(.slice uN.a uN.len uN.cap),(.slice (some ⟨T0,0,none⟩) 1 1)] λI7=>
 bG I7))) (
 deref (some (gV.add 1)) λC4=>
 au (.int .i64) C4 λ(eZ:Int)=>
 both (
 nw (.cells #[(.int .i64 (t108.size:Int))] 3) λFR=>
 both (
 cS 23 [(.slice bB.1.a bB.1.len bB.1.cap),(.slice (some ⟨FR,0,none⟩) 1 1)] λAZ=>
 deref (some (gb.add 0)) λFJ=>
 au .str FJ λ(FT:ByteArray)=>
 both (
 ct 5 1 1 [(.int .u8 0)] AZ FT λuO=>
 nw (.cells #[(.int .i64 eZ)] 3) λT4=>
 cS 23 [(.slice uO.a uO.len uO.cap),(.slice (some ⟨T4,0,none⟩) 1 1)] λI8=>
 bG I8) (
 nw (.cells #[(.int .i64 eZ)] 3) λT5=>
 ct 5 1 1 [(.int .u8 0)] AZ FT λuP=>
 cS 23 [(.slice uP.a uP.len uP.cap),(.slice (some ⟨T5,0,none⟩) 1 1)] λI9=>
 bG I9)) (
 both (
 deref (some (gb.add 0)) λMg=>
 au .str Mg λ(zU:ByteArray)=>
 both (
 cS 23 [(.slice bB.1.a bB.1.len bB.1.cap),(.slice (some ⟨FR,0,none⟩) 1 1)] λA0=>
 both (
 ct 5 1 1 [(.int .u8 0)] A0 zU λuQ=>
 nw (.cells #[(.int .i64 eZ)] 3) λT6=>
 cS 23 [(.slice uQ.a uQ.len uQ.cap),(.slice (some ⟨T6,0,none⟩) 1 1)] λJa=>
 bG Ja) (
 nw (.cells #[(.int .i64 eZ)] 3) λT7=>
 ct 5 1 1 [(.int .u8 0)] A0 zU λuR=>
 cS 23 [(.slice uR.a uR.len uR.cap),(.slice (some ⟨T7,0,none⟩) 1 1)] λJb=>
 bG Jb)) (
 nw (.cells #[(.int .i64 eZ)] 3) λT8=>
 cS 23 [(.slice bB.1.a bB.1.len bB.1.cap),(.slice (some ⟨FR,0,none⟩) 1 1)] λJc=>
 ct 5 1 1 [(.int .u8 0)] Jc zU λuS=>
 cS 23 [(.slice uS.a uS.len uS.cap),(.slice (some ⟨T8,0,none⟩) 1 1)] λJd=>
 bG Jd)) (
 nw (.cells #[(.int .i64 eZ)] 3) λPB=>
 both (
 cS 23 [(.slice bB.1.a bB.1.len bB.1.cap),(.slice (some ⟨FR,0,none⟩) 1 1)] λJe=>
 deref (some (gb.add 0)) λII=>
 au .str II λ(MB:ByteArray)=>
 ct 5 1 1 [(.int .u8 0)] Je MB λuT=>
 cS 23 [(.slice uT.a uT.len uT.cap),(.slice (some ⟨PB,0,none⟩) 1 1)] λJf=>
 bG Jf) (
 deref (some (gb.add 0)) λMh=>
 au .str Mh λ(Jg:ByteArray)=>
 cS 23 [(.slice bB.1.a bB.1.len bB.1.cap),(.slice (some ⟨FR,0,none⟩) 1 1)] λJh=>
 ct 5 1 1 [(.int .u8 0)] Jh Jg λuU=>
 cS 23 [(.slice uU.a uU.len uU.cap),(.slice (some ⟨PB,0,none⟩) 1 1)] λJi=>
 bG Ji)))) (
 both (
 deref (some (gb.add 0)) λMi=>
 au .str Mi λ(pE:ByteArray)=>
 both (
 nw (.cells #[(.int .i64 (t108.size:Int))] 3) λPC=>
 both (
 cS 23 [(.slice bB.1.a bB.1.len bB.1.cap),(.slice (some ⟨PC,0,none⟩) 1 1)] λA1=>
 both (
 ct 5 1 1 [(.int .u8 0)] A1 pE λuV=>
 nw (.cells #[(.int .i64 eZ)] 3) λT9=>
 cS 23 [(.slice uV.a uV.len uV.cap),(.slice (some ⟨T9,0,none⟩) 1 1)] λJj=>
 bG Jj) (
 nw (.cells #[(.int .i64 eZ)] 3) λUa=>
 ct 5 1 1 [(.int .u8 0)] A1 pE λuW=>
 cS 23 [(.slice uW.a uW.len uW.cap),(.slice (some ⟨Ua,0,none⟩) 1 1)] λJk=>
 bG Jk)) (
 nw (.cells #[(.int .i64 eZ)] 3) λUb=>
 cS 23 [(.slice bB.1.a bB.1.len bB.1.cap),(.slice (some ⟨PC,0,none⟩) 1 1)] λJl=>
 ct 5 1 1 [(.int .u8 0)] Jl pE λuX=>
 cS 23 [(.slice uX.a uX.len uX.cap),(.slice (some ⟨Ub,0,none⟩) 1 1)] λJm=>
 bG Jm)) (
 nw (.cells #[(.int .i64 eZ)] 3) λUc=>
 nw (.cells #[(.int .i64 (t108.size:Int))] 3) λUd=>
 cS 23 [(.slice bB.1.a bB.1.len bB.1.cap),(.slice (some ⟨Ud,0,none⟩) 1 1)] λJn=>
 ct 5 1 1 [(.int .u8 0)] Jn pE λuY=>
 cS 23 [(.slice uY.a uY.len uY.cap),(.slice (some ⟨Uc,0,none⟩) 1 1)] λJo=>
 bG Jo)) (
 nw (.cells #[(.int .i64 eZ)] 3) λMC=>
 both (
 nw (.cells #[(.int .i64 (t108.size:Int))] 3) λPD=>
 both (
 cS 23 [(.slice bB.1.a bB.1.len bB.1.cap),(.slice (some ⟨PD,0,none⟩) 1 1)] λJp=>
 deref (some (gb.add 0)) λUe=>
 au .str Ue λ(Jq:ByteArray)=>
 ct 5 1 1 [(.int .u8 0)] Jp Jq λuZ=>
 cS 23 [(.slice uZ.a uZ.len uZ.cap),(.slice (some ⟨MC,0,none⟩) 1 1)] λJs=>
 bG Js) (
 deref (some (gb.add 0)) λUf=>
 au .str Uf λ(Jt:ByteArray)=>
 cS 23 [(.slice bB.1.a bB.1.len bB.1.cap),(.slice (some ⟨PD,0,none⟩) 1 1)] λJu=>
 ct 5 1 1 [(.int .u8 0)] Ju Jt λu5=>
 cS 23 [(.slice u5.a u5.len u5.cap),(.slice (some ⟨MC,0,none⟩) 1 1)] λJv=>
 bG Jv)) (
 deref (some (gb.add 0)) λUg=>
 au .str Ug λ(Jw:ByteArray)=>
 nw (.cells #[(.int .i64 (t108.size:Int))] 3) λUh=>
 cS 23 [(.slice bB.1.a bB.1.len bB.1.cap),(.slice (some ⟨Uh,0,none⟩) 1 1)] λJy=>
 ct 5 1 1 [(.int .u8 0)] Jy Jw λu6=>
 cS 23 [(.slice u6.a u6.len u6.cap),(.slice (some ⟨MC,0,none⟩) 1 1)] λJz=>
 bG Jz)))))) λfB=>
 FI (fB,(IntKind.wrap .i64 (bB.2+1)))) (
 cS 25 [(.slice bB.1.a bB.1.len bB.1.cap)] λt121=>
 Q (t121,.nilIface))) (t98,0))) (t59,0))) (t36,0))
theorem BR(aD:Sl)(az:Sl)(Q:Sl×Value->Pr)(w:World)(h:VB aD az Q w):Calls Pq 10 #[(.agg #[(slV aD),(slV az)])] w (aC [.c .slice,.c .any] Q):=cF (an:=Ty) Tryz.func10 (by kernel_rfl) h
set_option maxRecDepth 20000
theorem DZ{w:World}{s:Sl}{E n b n0 m:Nat}{z:LV}{vs new:LV}{k:Sl->Pr}(h:bz w n0 n s vs)(hn0:n0<=w.heap.size)(gy:new.length=m*n)
 (hna:∀v∈new,aK v)(hz:z.length=n)(hb:b≠0)(hbd:(2*(s.len+m)+192)*b<=2^48)
 (hk:∀r w',bz w' n0 n r (vs++new)->Mod s.lq w w'->(∀b,r.lq b->s.lq b\/w.heap.size<=b)->k r w'):
 (s.len+m<=s.cap->HI s.a (s.len*n) new (k ⟨s.a,s.len+m,s.cap⟩) w)/\
 (s.cap<s.len+m->∃old:LV,(s.a.isSome=true->old.length=s.len*n)/\bn w s.a old/\(b≠0)/\
   (Builtin.nextslicecap (s.len+m) s.cap*b<=2^48)/\(s.len+m<2^63)/\
   ∀
    cap,s.len+m<=cap->cap<2^63->
    k ⟨some ⟨w.heap.size,0,none⟩,s.len+m,cap⟩ (w.drew.alloc (.cells (old++new++zc z (cap-(s.len+m))).toArray E))):=by
 constructor
 ·intro hroom
  rcases h.row with⟨h1,h2,h3⟩|⟨bb,off,spare,h1,h2,h3,h4,h5,h6⟩
  ·rw[h1]
   have D0:m=0:=by omega
   have hnew:new=[]:=by
    apply jx;rw[gy,D0];simp
   refine hk _ _ ?_ (Mod.refl _ _) ?_
   ·rw[hnew,List.append_nil]
    exact⟨by simp[h.len,D0],by simp;omega,.inl ⟨by simp,by simp;omega,h3⟩⟩
   ·rintro b ⟨ad,hh,_⟩;cases hh
  ·rw[h1]
   have hlen:=h.len;have Rw:(vs++spare).length=vs.length+spare.length:=jh;have hle:s.len*n+new.length<=(vs++spare).length:=by
    rw[gy,h6,<-Nat.add_mul];exact Nat.mul_le_mul_right n hroom
   show D1 _ 0 new _ w;rw[nI,Nat.add_zero,<-hlen];refine yc rfl h5 (by rw[hlen];exact hle) hna h4 ?_;intro w' g1 g2 g3 g4;have e1:(vs++spare).take vs.length=vs:=by simp
   have e2:(vs++spare).drop (vs.length+new.length)=spare.drop new.length:=by
    rw[List.drop_append,List.drop_eq_nil_of_le (by omega),List.nil_append]
    congr 1;omega
   rw[e1,e2]at g1;refine hk _ _ ⟨?_,hroom,.inr ⟨bb,off,spare.drop new.length,rfl,h2,by rw[g3];exact h3,g4 _ h4,g1,?_⟩⟩ ?_ ?_
   ·rw[jh,hlen,gy,Nat.add_mul]
   ·simp only[jh,kf]at *
    omega
   ·exact g2.mono λc _ hc=>⟨_,h1,hc.symm⟩
   ·rintro c ⟨ad,hh,hc⟩
    simp only[jg]at hh;exact .inl ⟨_,h1,by rw[<-hc,<-hh]⟩
 ·intro hgrow
  have hold:=h.reads;refine⟨vs,λ_=>h.len,hold,hb,?_,?_,?_⟩
  ·exact Nat.le_trans (Nat.mul_le_mul_right b (nextslicecap_le hgrow)) (Nat.le_trans (Nat.mul_le_mul_right b (by omega)) hbd)
  ·have:(2*(s.len+m)+192)*1<=(2*(s.len+m)+192)*b:=Nat.mul_le_mul_left _ (by omega)
   omega
  ·intro cap Di rL
   have hl:(vs++new++zc z (cap-(s.len+m))).length=cap*n:=by
    simp only[jh,gA,h.len,gy,hz];rw[<-Nat.add_mul,<-Nat.add_mul]
    congr 1;omega
   refine hk _ _ ⟨?_,Di,.inr ⟨w.heap.size,0,zc z (cap-(s.len+m)),rfl,hn0,?_,?_,?_,hl⟩⟩ ((Mod.refl _ w).drew.alloc _) ?_
   ·simp only[jh,h.len,gy,Nat.add_mul]
   ·simp
   ·intro o _ _
    exact World.frozen?_alloc_new w.drew _ E o
   ·intro j v hj
    rw[jB,Nat.zero_add];have:=World.cell?_alloc_new w.drew (vs++new++zc z (cap-(s.len+m))).toArray E j;rw[World.size_drew]at this;rw[this];simpa using hj
   ·rintro c ⟨ad,hh,hc⟩
    simp only[jg]at hh;refine .inr ?_;rw[<-hc,<-hh];exact Nat.le_refl _
theorem HJ{F0:Nat->Prop}{w0 w:World}{L:List HA}{s:Sl}{pre l:LB}{k:Sl->Pr}(h:St F0 w0 w (aq 1 s (pre.map ub)::L))(hl:pre.length<=100000000)(xq:l.length<=100000000)
 (hk:∀r w',St F0 w0 w' (aq 1 r ((pre++l).map ub)::L)->k r w'):ct 5 1 1 [.int .u8 0] s (bytesOf l) k w:=by
 have jZ:=aT h.sl;rw[je]at jZ;have hsz:(bytesOf l).size=l.length:=rfl;have e:GU (bytesOf l)=l.map ub:=by simp[GU,bytesOf];intro a _;rfl
 unfold ct;rw[e,hsz];refine DZ h.sl (Nat.zero_le _) (by simp) (by intro v hv;obtain⟨_,_,rfl⟩:=kg.1 hv;trivial) rfl (by decide) (by omega) λr w' h1 h2 h3=>hk r w' ?_;rw[jj];exact h.NP h2 h1 h3
theorem St.Lh{F0:Nat->Prop}{w0 w:World}{A:HA}{T:List HA}{cs:Array Value}{E:TypeId}{f:Nat->Pr}(h:St F0 w0 w (A::T))(hk:∀r w',St F0 w0 w' (A::aa r cs.toList::T)->f r w'):nw (.cells cs E) f w:=
 St.nw h λr w' s _ _=>hk r w' (s.af 1)
theorem St.D2{F0:Nat->Prop}{w0 w:World}{A B:HA}{T:List HA}{cs:Array Value}{E:TypeId}{f:Nat->Pr}(h:St F0 w0 w (A::B::T))(hk:∀r w',St F0 w0 w' (A::B::aa r cs.toList::T)->f r w'):nw (.cells cs E) f w:=
 St.nw h λr w' s _ _=>hk r w' ((s.af 2).af 2|>.af 1|>λs=>(s.bE [1,0,2] 3))
theorem Aq{w0 w:World}{T:List HA}{s:Sl}{pre:LB}{r m:Nat}{l:List Int}{k:Sl->Pr}(h:St aA w0 w (aq 1 s (pre.map ub)::T))(hm:aa r (l.map iv)∈T)(hml:m=l.length)
 (h0:∀n∈l,0<=n/\n<1000000)(hl:pre.length<=100000000)(xq:l.length<=1000)
 (hk:∀r w',St aA w0 w' (aq 1 r ((pre++ie l).map ub)::T)->k r w'):aH Pq 23 [.slice s.a s.len s.cap,.slice (some ⟨r,0,none⟩) m m] [.c .slice] k w:=by
 subst hml;obtain⟨F,H,_,h1,h2,h3,h4,h5⟩:=h.ee;obtain⟨G,⟨M8,Rx⟩,M9⟩:=Has.mem h2 hm;refine ak (WG s ⟨some ⟨r,0,none⟩,l.length,l.length⟩ pre l w F h1 ⟨rfl,aF.2 M8.row⟩ ?_ (λn hn=>⟨(h0 n hn).1,by have:=(h0 n hn).2;omega⟩) hl xq) λr' w' s'=>hk r' w' (h5 w' _ s');rintro b ⟨ad,ha,rfl⟩ hF;cases ha;exact h3 _ hF (M9 _ ((Rx _).2 rfl))
theorem Li{w0 w:World}{A:HA}{T:List HA}{db:Nat}{ys:List NS}{g:GS}{y:NS}{k:Int->Pr}(h:St aA w0 w (A::oP db ys::T))(hg:RG w0 aA g)(hy:y∈g.xs)(hin:y.d∈ys.map (·.d))(hl:ys.length<=1000000)
 (hk:∀w',St aA w0 w' (A::oP db ys::T)->k (bD (ys.map (·.d)) y.d) w'):aH Pq 24 [.pointer (some ⟨db,0,none⟩),.slice y.ds.a y.ds.len y.ds.cap] [.c (.int .i64)] k w:=by
 obtain⟨F,H,_,h1,h2,h3,h4,h5⟩:=(h.af 1).ee;have GM:RG w F g:=hg.go h h4;refine ak (Vs db ys y w F h1 (GM.bd y hy) (GM.Lb y hy) hl) ?_;rintro _ w' ⟨rfl,s'⟩;have e:jT ys y=ys:=by unfold jT;rw[jd hin]
 rw[e]at s'⊢;exact hk w' ((h5 w' _ s').af 1)
theorem jC{w0 w:World}{T:List HA}{s:Sl}{pre:LB}{r:Nat}{n:Int}{k:Sl->Pr}(h:St aA w0 w (aq 1 s (pre.map ub)::T))(hm:aa r [.int .i64 n]∈T)
 (h0:0<=n)(hn:n<1000000)(hl:pre.length<=100000000)
 (hk:∀r w',St aA w0 w' (aq 1 r ((pre++cA n.toNat).map ub)::T)->k r w'):aH Pq 23 [.slice s.a s.len s.cap,.slice (some ⟨r,0,none⟩) 1 1] [.c .slice] k w:=by
 refine Aq (l:=[n]) h hm rfl (λm hm=>?_) hl (by simp) λr' w' s'=>hk r' w' ?_
 ·rw[jo]at hm;omega
 ·simpa[ie]using s'
theorem oP.rd{F0:Nat->Prop}{w0 w:World}{L:List HA}{db:Nat}{ys:List NS}(h:St F0 w0 w (oP db ys::L)):
 ∃t m,St F0 w0 w (aa db [slV t,.map (some m)]::aq 1 t (ys.map λy=>slV y.ds)::er jS m (xA (ys.map (·.d)))::L):=by
 obtain⟨⟨t,m⟩,s⟩:=h.ex;exact⟨t,m,s⟩
def vH(G:GG)(w:World)(r:Sl×Value)(w':World):Prop:=
 (e7 G=true/\r.2=.nilIface/\St aA w w' [aq 1 r.1 ((bZ (kz G)).map ub)])\/
 (e7 G=false/\r.1=⟨none,0,0⟩/\∃b:Nat,r.2=.iface 111 (.pointer (some ⟨b,0,none⟩))/\St aA w w' [aa b [.int .i64 0,.iface 24 (.int .i64 180)]])
theorem XD(g:GS)(w:World)(hg:RG w aA g):Calls Pq 10 #[g.v] w (aC [.c .slice,.c .any] λr w'=>vH g.m w r w'):=by
 refine BR g.gn g.gr _ _ ?_;unfold VB;simp only[ag];refine St.nw (St.bp w) λr w1 s1 _ _=>?_;refine bY.aQ (l:=[.slice,.slice]) (p:=(g.gn,g.gr)) s1.box ?_;refine ak (Vn g _ (hg.grow s1.bh)) ?_;rintro⟨⟨cn,cr⟩,e⟩ w3 (⟨hok,rfl,c,rfl,rfl,kU,k3⟩|⟨iX,rfl,hr,g3⟩)
 rotate_left
 ·have s3:=s1.grow g3
  simp only[Prod.mk.injEq]at hr;obtain⟨rfl,rfl⟩:=hr;refine St.nw s3 λr2 w4 s4 _ _=>s4.st (i:=0) (by simp) trivial λw5 s5=>s5.st (i:=1) (by simp) trivial λw6 s6=>?_;refine ah (λ_=>?_) λh=>by simp at h
  refine ak (Vw 0 (.iface 24 (.int .i64 180)) _ trivial) ?_;rintro _ w7 ⟨b,rfl,k7⟩;exact .inr ⟨iX,rfl,b,rfl,(s6.aZ k7).bE [0] 3⟩
 have s3:=s1.aZ k3;dsimp only at kU s3⊢;have ht:c.m.nG:=by rw[kU];exact vG hok
 have j4:c.small:=GS.cJ.2 (by rw[kU];exact nF hok);refine St.nw s3 λr1 w4 s4 _ _=>s4.st (i:=0) (by simp) trivial λw5 s5=>s5.st (i:=1) (by simp) trivial λw6 s6=>?_;have s6:St aA w w6 [aa r1 [slV c.gn,slV c.gr],dG c,aa r [slV g.gn,slV g.gr]]:=s6;refine ah (λh=>by simp at h) λ_=>?_;have GV:=St.rg (s6.af 1) j4;have Hj:=s6.box;have fin:∀(b:Sl) W,St aA w6 W [aq 1 b ((bZ c.m).map ub)]->vH g.m w (b,.nilIface) W:=by
  intro b W s;rw[kU]at s;exact .inl ⟨hok,rfl,(s6.aZ s).bE [0] 4⟩
 clear s1 s3 s4 s5 s6 hg k3 kU;have gy:=GV.nl;have hrl:=GV.rl;have hml:c.m.n.length=c.xs.length:=by simp[GS.m]
 have hn2:=ht.nl;rw[hml]at hn2;have xK:c.rs.length<=512:=ht.rl;have DG:∀x∈c.xs,x.m∈c.m.n:=λx hx=>kg.2 ⟨x,hx,rfl⟩;have Lf:=nH c.m;rw[hml]at Lf;have yb:=oX c;have BP:(fk c.xs).length=(aE c.m).length:=by rw[<-yb];simp
 have BQ:∀y∈fk c.xs,y∈c.xs:=λy hy=>(oY _ _ y hy).elim (λh=>by cases h) id;refine bY.aQ (l:=[.slice,.slice]) (p:=(c.gn,c.gr)) Hj ?_;refine ak (Vu c _ GV) ?_;rintro _ w7 ⟨db,rfl,s7⟩;simp only[ag];refine St.DW s7 λrm w8 s8=>?_;have s8:St aA w6 w8 [aq 1 ⟨some ⟨rm,0,none⟩,8,8⟩ (bU.map ub),oP db (fk c.xs)]:=s8;obtain⟨t,m,s9⟩:=oP.rd (s8.af 1);have s9:St aA w6 w8 [aq 1 ⟨some ⟨rm,0,none⟩,8,8⟩ (bU.map ub),aa db [slV t,.map (some m)],aq 1 t ((fk c.xs).map λy=>slV y.ds),er jS m (xA ((fk c.xs).map (·.d)))]:=s9.af 3;have kq:=aT (s9.af 2).sl;rw[je]at kq;refine(s9.af 1).ld (i:=0) (s:=.slice) (p:=t) rfl ?_;refine St.Lh s9 λr3 iF bH=>?_;refine jC (s:=⟨some ⟨rm,0,none⟩,8,8⟩) (n:=t.len) bH (.head _) (by omega) (by omega) (by decide) λb oW cR=>?_;rw[jk,kq,BP]at cR;refine(cR.af 2).ld (i:=0) (s:=.slice) (p:=t) rfl ?_;have hA:∀i,(bU++cA (aE c.m).length++((aE c.m).take i).flatMap fm).length<=9000000:=by
  intro i;have h1:=cU (f:=fm) (K:=1018) (l:=aE c.m) (λx hx=>by
   obtain⟨n,hn,rfl⟩:=p6 c.m x hx;exact p5 (ht.dl n hn)) i
  have h2:=bP (aE c.m).length;rw[jh,jh];have h3:bU.length=8:=rfl;omega
 refine aB (λz W=>∃(i:Nat) (b:Sl),z=(b,(i:Int))/\i<=(aE c.m).length/\
  St aA w6 W [aq 1 b ((bU++cA (aE c.m).length++((aE c.m).take i).flatMap fm).map ub),aa db [slV t,.map (some m)],aq 1 t ((fk c.xs).map λy=>slV y.ds),er jS m (xA ((fk c.xs).map (·.d)))])
  (λz _=>(aE c.m).length-z.2.toNat) ⟨0,b,rfl,by omega,by rw[List.take_zero,List.flatMap_nil,List.append_nil];exact cR.bE [0,2,3,4] 5⟩ ?_
 rintro _ W ⟨i,b,rfl,hi,sW⟩;dsimp only;refine ah (λhlt=>?_) λhge=>?_
 ·simp only[jb]at hlt
  have hil:i<(fk c.xs).length:=by omega
  refine⟨⟨by omega,by omega⟩,?_⟩;rw[jk];refine MS.at (g:=λy:NS=>slV y.ds) (c:=.slice) (p:=(fk c.xs)[i].ds) (x:=(fk c.xs)[i]) (bz.ms (sW.af 2).sl) (by simp[hil]) rfl ?_;have fD:=BQ _ (List.getElem_mem hil);have M6:(aE c.m)[i]'(by omega)=(fk c.xs)[i].d:=by simp only[<-yb,List.getElem_map]
  have gz:=eJ (f:=fm) (l:=aE c.m) (i:=i) (by omega);rw[M6]at gz;generalize(fk c.xs)[i]=y at fD gz⊢;have h1:=hA i;have h2:y.d.length<=1008:=ht.dl _ (DG y fD);have mg:=(GV.bd y fD).len;refine St.Lh sW λr4 rK eH=>?_;refine jC (n:=y.ds.len) eH (.head _) (by omega) (by omega) (by omega) λb2 q7 fJ=>?_;rw[jk,mg]at fJ;have h3:=bP y.d.length;refine DX fJ ((GV.bd y fD).grow fJ.bh) (by rw[jh];omega) (by omega) λb3 K2 l6=>?_;rw[ax (by omega)];refine⟨⟨i+1,b3,rfl,by omega,?_⟩,by omega⟩;rw[gz];unfold fm at l6⊢;simp only[jt]at l6⊢;exact l6.bE [0,2,3,4] 5
 simp only[ja]at hge;rw[List.take_of_length_le (by omega)]at sW;have hA:=hA (aE c.m).length;rw[List.take_length]at hA;generalize hpre:bU++cA (aE c.m).length++(aE c.m).flatMap fm=pre at sW hA;have sW:St aA w6 W [aq 1 b (pre.map ub),oP db (fk c.xs)]:=(show St aA w6 W (oP db (fk c.xs)::_)from St.iI (t,m) (sW.af 3|>.af 3|>.af 3)).af 1;refine(Hj.grow sW.bh).ld (i:=0) (s:=.slice) (p:=c.gn) rfl ?_;refine St.D2 sW λr5 rK eH=>?_;refine jC (n:=c.gn.len) eH (.tail _ (.head _)) (by omega) (by omega) (by omega) λb q7 fJ=>?_;rw[jk,gy,<-hml]at fJ;refine(Hj.grow fJ.bh).ld (i:=0) (s:=.slice) (p:=c.gn) rfl ?_;have hB:∀i,(pre++cA c.m.n.length++(c.m.n.take i).flatMap (eE (aE c.m))).length<=20000000:=by
  intro i;have h1:=cU (f:=eE (aE c.m)) (K:=1290) (l:=c.m.n) (λx hx=>vE (ht.pl x hx)) i;have h2:=bP c.m.n.length;rw[jh,jh];omega
 refine aB (λz W=>∃(i:Nat) (b:Sl),z=(b,(i:Int))/\i<=c.xs.length/\
  St aA w6 W [aq 1 b ((pre++cA c.m.n.length++(c.m.n.take i).flatMap (eE (aE c.m))).map ub),oP db (fk c.xs)])
  (λz _=>c.xs.length-z.2.toNat) ⟨0,b,rfl,by omega,by rw[List.take_zero,List.flatMap_nil,List.append_nil];exact fJ.bE [0,1] 3⟩ ?_
 rintro _ W ⟨i,b,rfl,hi,sW⟩;dsimp only;refine ah (λhlt=>?_) λhge=>?_
 ·simp only[jb]at hlt
  have hil:i<c.xs.length:=by omega
  refine⟨⟨by omega,by omega⟩,?_⟩;rw[jk];have kT:c.xs[i]? =some c.xs[i]:=by simp[hil]
  have l7:c.xs[i]∈c.xs:=List.getElem_mem hil;have gz:=eJ (f:=eE (aE c.m)) (l:=c.m.n) (i:=i) (by omega);have NM:c.m.n[i]'(by omega)=c.xs[i].m:=by simp[GS.m]
  rw[NM]at gz;refine(GV.grow sW.bh).node kT ?_;generalize c.xs[i]=x at kT l7 gz NM⊢;have GR:=DG x l7;have j9:0<=x.k/\x.k<=3:=ht.kk _ GR;have nq:x.p.length<=126:=ht.pl _ GR;have qY:=ht.pr _ GR;rw[hml]at qY;have qY:∀p∈x.p,-1<=p/\p<c.xs.length:=qY;have NQ:x.d∈aE c.m:=p7 GR;have hdn:=tg NQ;have Lg:=(GV.ip x l7).len;refine St.D2 sW λr6 K2 l6=>(l6.af 2).st (i:=0) (by simp) trivial λJJ vn=>vn.st (i:=1) (by simp) trivial λQq G8=>G8.st (i:=2) (by simp) trivial λXE Hy=>?_;have Rt:=hB i;have mu:pre++cA c.m.n.length++(c.m.n.take (i+1)).flatMap (eE (aE c.m))=(pre++cA c.m.n.length++(c.m.n.take i).flatMap (eE (aE c.m)))++eE (aE c.m) x.m:=by rw[gz,jt,jt,jt]
  generalize pre++cA c.m.n.length++(c.m.n.take i).flatMap (eE (aE c.m))=dV at Hy Rt mu;have Hy:St aA w6 XE [aq 1 b (dV.map ub),oP db (fk c.xs),aa r6 (aj x)]:=Hy.bE [1,2,0] 3;obtain⟨RR,vw⟩:∃RR:Sl->Pr,RR=λs' W'=>∃T,St aA w6 W' (aq 1 s' ((dV++ie [x.k,(bD (aE c.m) x.d:Int),(x.p.length:Int)]).map ub)::oP db (fk c.xs)::aa r6 (aj x)::T):=⟨_,rfl⟩;refine aL RR ?_ ?_
  ·rw[aR]
   have st:=Hy.drew;refine(st.af 2).ld (i:=2) (s:=.slice) (p:=x.ds) rfl ?_;obtain⟨dn,yd⟩:∃dn,dn=bD (aE c.m) x.d:=⟨_,rfl⟩;rw[<-yd]at hdn vw;have JW:∀{W} (k:Int->Pr),St aA w6 W [aq 1 b (dV.map ub),oP db (fk c.xs),aa r6 (aj x)]->k x.k W->au (.int .i64) (Addr.add ⟨r6,0,none⟩ 0) k W:=
    λk s hk=>(s.af 2).ld (i:=0) (s:=.int .i64) (p:=x.k) rfl hk
   have GP:∀{W} (k:Sl->Pr),St aA w6 W [aq 1 b (dV.map ub),oP db (fk c.xs),aa r6 (aj x)]->k x.ps W->au .slice (Addr.add ⟨r6,0,none⟩ 1) k W:=
    λk s hk=>(s.af 2).ld (i:=1) (s:=.slice) (p:=x.ps) rfl hk
   have XF:∀{W} (k:Int->Pr),St aA w6 W [aq 1 b (dV.map ub),oP db (fk c.xs),aa r6 (aj x)]->
    (∀W',St aA w6 W' [aq 1 b (dV.map ub),oP db (fk c.xs),aa r6 (aj x)]->k (dn:Int) W')->
    aH Pq 24 [.pointer (some ⟨db,0,none⟩),.slice x.ds.a x.ds.len x.ds.cap] [.c (.int .i64)] k W:=λk s hk=>by
     refine Li s GV l7 (by rw[yb];exact NQ) (by omega) λW' s'=>?_;rw[yb,<-yd];exact hk W' s'
   have XG:∀{W},St aA w6 W [aq 1 b (dV.map ub),oP db (fk c.xs),aa r6 (aj x)]->
    (nw (.cells #[.int .i64 x.k,.int .i64 (dn:Int),.int .i64 (x.ps.len:Int)] 3) λr7=>aH Pq 23 [.slice b.a b.len b.cap,.slice (some ⟨r7,0,none⟩) 3 3] [.c .slice] RR) W:=λs=>by
      refine St.nw s λr7 VC HK _ _=>?_;refine Aq (l:=[x.k,(dn:Int),(x.ps.len:Int)]) (HK.bE [1,2,3,0] 4) (.tail _ (.tail _ (.head _))) rfl ?_ (by omega) (by simp) λb2 Zh XH=>?_
      ·intro n hn
       simp only[List.mem_cons,List.not_mem_nil,or_false]at hn;omega
      ·rw[vw,<-Lg]
       exact⟨_,XH⟩
   repeat' first
    |with_reducible refine oZ ?_ ?_
    |with_reducible exact XG st
    |with_reducible refine XF _ st λ_ st=>?_
    |with_reducible refine JW _ st ?_
    |with_reducible refine GP _ st ?_
  intro b2 VC HK;rw[vw]at HK;obtain⟨T,HK⟩:=HK;have HK:St aA w6 VC [aq 1 b2 ((dV++ie [x.k,(bD (aE c.m) x.d:Int),(x.p.length:Int)]).map ub),oP db (fk c.xs),aa r6 (aj x)]:=St.jR (l:=[_,_,_]) HK;refine(HK.af 2).ld (i:=1) (s:=.slice) (p:=x.ps) rfl ?_;refine aB (λz W=>∃(j:Nat) (b:Sl),z=(b,(j:Int))/\j<=x.p.length/\
   St aA w6 W [aq 1 b ((dV++ie [x.k,(bD (aE c.m) x.d:Int),(x.p.length:Int)]++(x.p.take j).flatMap λp=>cA (p+1).toNat).map ub),oP db (fk c.xs)])
   (λz _=>x.p.length-z.2.toNat) ⟨0,b2,rfl,by omega,by rw[List.take_zero,List.flatMap_nil,List.append_nil];exact HK.bE [0,1] 3⟩ ?_
  rintro _ W3 ⟨j,b3,rfl,hj,fE⟩;dsimp only;refine ah (λig=>?_) λij=>?_
  ·simp only[jb]at ig
   have hjl:j<x.p.length:=by omega
   refine⟨⟨by omega,by omega⟩,?_⟩;rw[jk];refine IS.at ((GV.ip x l7).grow fE.bh) hjl ?_;have NO:=eJ (f:=λp:Int=>cA (p+1).toNat) (l:=x.p) hjl;have JS:=qY _ (List.getElem_mem hjl);generalize x.p[j]=p at NO JS⊢;rw[wrap_i64 ⟨by omega,by omega⟩];have XB:(dV++ie [x.k,(bD (aE c.m) x.d:Int),(x.p.length:Int)]++(x.p.take j).flatMap λp=>cA (p+1).toNat).length<=21000000:=by
    have h1:=me [x.k,(bD (aE c.m) x.d:Int),(x.p.length:Int)];have h2:=cU (f:=λp:Int=>cA (p+1).toNat) (K:=10) (l:=x.p) (λp _=>bP _) j;simp only[List.length_cons,List.length_nil]at h1;rw[jh,jh];omega
   refine St.D2 fE λZi Zj XI=>?_;refine jC XI (.tail _ (.head _)) (by omega) (by omega) (by omega) λb4 W4 s4=>?_;rw[ax (by omega)];refine⟨⟨j+1,b4,rfl,by omega,?_⟩,by omega⟩;rw[NO,<-jt];exact s4.bE [0,1] 3
  ·simp only[ja]at ij
   rw[List.take_of_length_le (by omega)]at fE;rw[ax (by omega)];refine⟨⟨i+1,b3,rfl,by omega,?_⟩,by omega⟩;rw[mu];unfold eE;rw[<-jt];exact fE
 simp only[ja]at hge;rw[List.take_of_length_le (by omega)]at sW;have hB:=hB c.m.n.length;rw[List.take_length]at hB;generalize DY:pre++cA c.m.n.length++c.m.n.flatMap (eE (aE c.m))=dV at sW hB;refine(Hj.grow sW.bh).ld (i:=1) (s:=.slice) (p:=c.gr) rfl ?_;refine St.D2 sW λZk rK eH=>?_;refine jC (n:=c.gr.len) eH (.tail _ (.head _)) (by omega) (by omega) (by omega) λb q7 fJ=>?_;rw[jk,hrl]at fJ;refine(Hj.grow fJ.bh).ld (i:=1) (s:=.slice) (p:=c.gr) rfl ?_;have hC:∀i,(dV++cA c.rs.length++(c.rs.take i).flatMap cG).length<=20100000:=by
  intro i;have h1:=cU (f:=cG) (K:=36) (l:=c.rs) (λx hx=>rU (ht.sl x hx)) i;have h2:=bP c.rs.length;rw[jh,jh];omega
 refine aB (λz W=>∃(i:Nat) (b:Sl),z=(b,(i:Int))/\i<=c.rs.length/\
  St aA w6 W [aq 1 b ((dV++cA c.rs.length++(c.rs.take i).flatMap cG).map ub)])
  (λz _=>c.rs.length-z.2.toNat) ⟨0,b,rfl,by omega,by rw[List.take_zero,List.flatMap_nil,List.append_nil];exact fJ.bE [0] 3⟩ ?_
 rintro _ W ⟨j,b,rfl,hj,sW⟩;dsimp only;refine ah (λhlt=>?_) λhge=>?_
 ·simp only[jb]at hlt
  have hjl:j<c.rs.length:=by omega
  have iD:c.rs[j]? =some c.rs[j]:=by simp[hjl]
  have hmem:c.rs[j]∈c.m.r:=List.getElem_mem hjl;have gz:=eJ (f:=cG) (l:=c.rs) hjl;generalize c.rs[j]=rr at iD hmem gz;have hrb:=ht.rr rr hmem;rw[hml]at hrb;have jZ:=ht.sl rr hmem;have Ru:=hC j;have mu:dV++cA c.rs.length++(c.rs.take (j+1)).flatMap cG=(dV++cA c.rs.length++(c.rs.take j).flatMap cG)++cG rr:=by rw[gz,jt,jt,jt]
  generalize dV++cA c.rs.length++(c.rs.take j).flatMap cG=mw at sW Ru mu;obtain⟨RR,vw⟩:∃RR:Sl->Pr,RR=λs' W'=>∃T,St aA w6 W' (aq 1 s' ((mw++cG rr).map ub)::T):=⟨_,rfl⟩;refine aL RR ?_ ?_
  ·refine⟨⟨by omega,by omega⟩,?_⟩
   rw[jk];refine(GV.grow sW.bh).root iD ?_;refine St.Lh sW λLj K2 l6=>(l6.af 1).st (i:=0) (by simp) trivial λJJ vn=>vn.st (i:=1) (by simp) trivial λQq G8=>?_;rw[aR];have st:=G8.drew.af 1;have st:St aA w6 Qq.drew [aq 1 b (mw.map ub),aa Lj (ay rr)]:=st;refine(st.af 1).ld (i:=0) (s:=.str) (p:=bytesOf rr.1) rfl ?_;simp only[eR];have h4:=bP rr.1.length;have XJ:∀{W A T} (k:ByteArray->Pr),St aA w6 W (A::aa Lj (ay rr)::T)->k (bytesOf rr.1) W->au .str (Addr.add ⟨Lj,0,none⟩ 0) k W:=
    λk s hk=>(s.af 1).ld (i:=0) (s:=.str) (p:=bytesOf rr.1) rfl hk
   have Rv:∀{W A T} (k:Int->Pr),St aA w6 W (A::aa Lj (ay rr)::T)->k rr.2 W->au (.int .i64) (Addr.add ⟨Lj,0,none⟩ 1) k W:=
    λk s hk=>(s.af 1).ld (i:=1) (s:=.int .i64) (p:=rr.2) rfl hk
   have XK:∀{W A T} {n:Int} (k:Nat->Pr),St aA w6 W (A::aa Lj (ay rr)::T)->(∀r' W',St aA w6 W' (A::aa Lj (ay rr)::aa r' [.int .i64 n]::T)->k r' W')->nw (.cells #[.int .i64 n] 3) k W:=
    λk s hk=>St.D2 s λr' W' s'=>hk r' W' s'
   have c1:∀{W T} {r':Nat} (k:Sl->Pr),St aA w6 W (aq 1 b (mw.map ub)::T)->aa r' [.int .i64 (rr.1.length:Int)]∈T->
    (∀b' W',St aA w6 W' (aq 1 b' ((mw++cA rr.1.length).map ub)::T)->k b' W')->
    aH Pq 23 [.slice b.a b.len b.cap,.slice (some ⟨r',0,none⟩) 1 1] [.c .slice] k W:=λk s hm hk=>jC s hm (by omega) (by omega) (by omega) hk
   have c2:∀{W T} (b':Sl) (k:Sl->Pr),St aA w6 W (aq 1 b' ((mw++cA rr.1.length).map ub)::T)->
    (∀b' W',St aA w6 W' (aq 1 b' ((mw++cA rr.1.length++rr.1).map ub)::T)->k b' W')->
    ct 5 1 1 [.int .u8 0] b' (bytesOf rr.1) k W:=λb' k s hk=>HJ s (by rw[jh];omega) (by omega) hk
   have c3:∀{W T} {r':Nat} (b':Sl),St aA w6 W (aq 1 b' ((mw++cA rr.1.length++rr.1).map ub)::T)->aa r' [.int .i64 rr.2]∈T->
    aH Pq 23 [.slice b'.a b'.len b'.cap,.slice (some ⟨r',0,none⟩) 1 1] [.c .slice] RR W:=λb' s hm=>jC s hm (by omega) (by omega) (by rw[jh,jh];omega) λb2 W' s'=>by
     rw[vw];unfold cG fm;simp only[jt]at s'⊢;exact⟨_,s'⟩
   repeat' first
    |with_reducible refine oZ ?_ ?_
    |with_reducible refine c3 _ st ?_
    |with_reducible refine c1 _ st ?_ λ_ _ st=>?_
    |exact List.mem_cons_of_mem _ (List.mem_cons_self ..)
    |exact List.mem_cons_of_mem _ (List.mem_cons_of_mem _ (List.mem_cons_self ..))
    |with_reducible refine c2 _ _ st λ_ _ st=>?_
    |with_reducible refine XK _ st λ_ _ st=>?_
    |with_reducible refine XJ _ st ?_
    |with_reducible refine Rv _ st ?_
  intro b2 iF bH;rw[vw,<-mu]at bH;obtain⟨T,bH⟩:=bH;rw[ax (by omega)];exact⟨⟨j+1,b2,rfl,by omega,St.jR (l:=[_]) bH⟩,by omega⟩
 ·simp only[ja]at hge
  rw[List.take_of_length_le (by omega)]at sW;have hC:=hC c.rs.length;rw[List.take_length]at hC;have hbody:dV++cA c.rs.length++c.rs.flatMap cG=gZ c.m (aE c.m):=by
   rw[<-DY,<-hpre];rfl
  rw[hbody]at sW hC;unfold bZ at fin;generalize gZ c.m (aE c.m)=body at sW hC fin;refine ak (XL b body W sW.sl.bs (by omega)) λq W3 k3=>?_;exact fin q W3 ((sW.aZ k3).bE [0] 2)
def BW(G:GG)(w:World)(r:Sl×Int×Int)(w':World):Prop:=
 (e7 G=true/\r.2=(0,0)/\St aA w w' [aq 1 r.1 ((bZ (kz G)).map ub)])\/
 (e7 G=false/\r.1=⟨none,0,0⟩/\r.2=(0,180)/\Grow w w')
theorem XR(g:GS)(w:World)(hg:RG w aA g):Calls Pq 5 #[g.v] w (aC [.c .slice,.agg [.int .i64,.int .i64]] λr w'=>BW g.m w r w'):=by
 refine D3 g.gn g.gr _ _ ?_;unfold F5;simp only[ag];refine St.nw (St.bp w) λr w1 s1 _ _=>St.nw s1 λr1 w2 s2 _ _=>?_;refine bY.aQ (l:=[.slice,.slice]) (p:=(g.gn,g.gr)) (s2.af 1).box ?_;refine ak (Xx g _ (hg.grow s2.bh)) ?_;rintro⟨⟨cn,cr⟩,e⟩ w3 (⟨hok,rfl,c,rfl,rfl,kU,k3⟩|⟨iX,rfl,hr,g3⟩)
 rotate_left
 ·have s3:=s2.grow g3
  simp only[Prod.mk.injEq]at hr;obtain⟨rfl,rfl⟩:=hr;refine St.nw s3 λr2 w4 s4 _ _=>s4.st (i:=0) (by simp) trivial λw5 s5=>s5.st (i:=1) (by simp) trivial λw6 s6=>?_;refine ah (λ_=>?_) λh=>by simp at h
  refine(s6.af 1).st (i:=0) (by simp) trivial λw7 s7=>s7.st (i:=1) (by simp) trivial λw8 s8=>?_;refine bY.aQ (l:=[.int .i64,.int .i64]) (p:=(0,180)) s8.box ?_;exact .inr ⟨iX,rfl,rfl,s8.bh⟩
 have s3:=s2.aZ k3;dsimp only at kU s3⊢;have ht:c.m.nG:=by rw[kU];exact vG hok
 have j4:c.small:=GS.cJ.2 (by rw[kU];exact nF hok);refine St.nw s3 λr2 w4 s4 _ _=>s4.st (i:=0) (by simp) trivial λw5 s5=>s5.st (i:=1) (by simp) trivial λw6 s6=>?_;have s6:St aA w w6 [aa r2 [slV c.gn,slV c.gr],dG c,aa r1 [.int .i64 0,.int .i64 0],aa r [slV g.gn,slV g.gr]]:=s6;refine ah (λh=>by simp at h) λ_=>?_;refine bY.aQ (l:=[.slice,.slice]) (p:=(c.gn,c.gr)) s6.box ?_;refine ak (Xz c _ (St.rg (s6.af 1) j4) ht) λq w7 k7=>?_;have s7:=s6.aZ k7;refine(s7.af 3).st (i:=0) (by simp) trivial λw8 s8=>s8.st (i:=1) (by simp) trivial λw9 s9=>?_;refine bY.aQ (l:=[.int .i64,.int .i64]) (p:=(0,0)) s9.box ?_;rw[kU]at s9;exact .inl ⟨hok,rfl,s9.bE [1] 5⟩
set_option maxRecDepth 100000
def Uj:An:=.z
def VG(p0:Int)(p1:Value)(q:List PanicEntry->Pr)(Q:Unit->Pr):Pr:=
 na p1<|
 nw (.cells #[(.int .i64 p0),p1] 113) λr=>
 q [⟨(.iface 131 (.agg #[(.pointer (some ⟨r,0,none⟩))])),false,false⟩]
theorem BX(p0:Int)(p1:Value)(q:List PanicEntry->Pr)(Q:Unit->Pr)(w:World)(h:VG p0 p1 q Q w):Calls Pq 27 #[(.int .i64 p0),p1] w (iL q [] Q):=cP (an:=Uj) Tryz.func27 (by kernel_rfl) h
def Uk:An:=(.sq .z (.sq .z (.sq (.jn [] (.sq (.jn [(29,.c .bool)] .z) (.br .z .z))) (.sq .z (.sq .z .z)))))
def VI(p0:OA)(p1:Int)(q:List PanicEntry->Pr)(Q:Int->Pr):Pr:=
 jE<|
 deref p0 λa=>
 deref (some a) λa_1=>
 deref (some (a_1.add 0)) λa_2=>
 au .slice a_2 λ(t12:Sl)=>
 deref p0 λbX=>
 deref (some bX) λc6=>
 deref (some (c6.add 1)) λc7=>
 au (.int .i64) c7 λ(t16:Int)=>
 slc 1 t12 (some t16) none none λt17=>
 bf Pq (λch=>q ch) 112 [(.slice t17.a t17.len t17.cap)] [.c (.int .u64),.c (.int .i64),.c (.int .i64)] λ(t18:Int×Int×Int)=>
 jn (S:=Unit) (λR=>
 jn (S:=Bool) (λbG=>
 br (t18.2.2 !=0) (
 bG true) (
 bG ((decide (t18.1>=(IntKind.wrap .u64 p1)))))) λs_1=>
 br s_1 (
 deref p0 λcV=>
 deref (some cV) λdy=>
 deref (some (dy.add 1)) λdO=>
 au (.int .i64) dO λ(t33:Int)=>
 bf Pq (λu7=>q u7) 27 [(.int .i64 t33),(.iface 24 (.int .i64 260))] [] λ(t35:Unit)=>
 R ()) (
 R ())) λs=>
 deref p0 λdP=>
 deref (some dP) λbu=>
 deref (some (bu.add 1)) λbF=>
 au (.int .i64) bF λ(t39:Int)=>
 deref p0 λbw=>
 deref (some bw) λbJ=>
 deref (some (bJ.add 1)) λbW=>
 st bW (.int .i64 (IntKind.wrap .i64 (t39+t18.2.1)))<|
 Q ((IntKind.wrap .i64 t18.1))
theorem BY(p0:OA)(p1:Int)(q:List PanicEntry->Pr)(Q:Int->Pr)(w:World)(h:VI p0 p1 q Q w):Calls Pq 66 #[(.pointer p0),(.int .i64 p1)] w (iL q [.c (.int .i64)] Q):=cP (an:=Uk) Tryz.func66 (by kernel_rfl) h
def Ul:An:=(.sq .z (.sq .z .z))
def VK(p0:OA)(q:List PanicEntry->Pr)(Q:Int->Pr):Pr:=
 bf Pq (λch=>q ch) 66 [(.pointer p0),(.int .i64 8193)] [.c (.int .i64)] λ(t4:Int)=>
 Q t4
theorem BZ(p0:OA)(q:List PanicEntry->Pr)(Q:Int->Pr)(w:World)(h:VK p0 q Q w):Calls Pq 63 #[(.pointer p0)] w (iL q [.c (.int .i64)] Q):=cP (an:=Ul) Tryz.func63 (by kernel_rfl) h
def Um:An:=(.sq .z (.sq .z (.sq .z (.sq (.jn [] (.sq .z (.br .z .z))) (.sq .z (.sq .z .z))))))
def VL(p0:OA)(q:List PanicEntry->Pr)(Q:Sl->Pr):Pr:=
 deref p0 λa=>
 deref (some a) λa_1=>
 deref (some (a_1.add 1)) λa_2=>
 au (.int .i64) a_2 λ(t8:Int)=>
 bf Pq (λch=>q ch) 63 [(.pointer p0)] [.c (.int .i64)] λ(t10:Int)=>
 jn (S:=Unit) (λR=>
 jE<|
 deref p0 λbX=>
 deref (some bX) λc6=>
 deref (some (c6.add 0)) λc7=>
 au .slice c7 λ(t15:Sl)=>
 deref p0 λcV=>
 deref (some cV) λdy=>
 deref (some (dy.add 1)) λdO=>
 au (.int .i64) dO λ(t20:Int)=>
 br (decide (t10>(IntKind.wrap .i64 ((t15.len:Int)-t20)))) (
 bf Pq (λu7=>q u7) 27 [(.int .i64 t8),(.iface 24 (.int .i64 260))] [] λ(t25:Unit)=>
 R ()) (
 R ())) λs=>
 deref p0 λdP=>
 deref (some dP) λbu=>
 deref (some (bu.add 1)) λbF=>
 au (.int .i64) bF λ(t29:Int)=>
 deref p0 λbw=>
 deref (some bw) λbJ=>
 deref (some (bJ.add 1)) λbW=>
 st bW (.int .i64 (IntKind.wrap .i64 (t29+t10)))<|
 jE<|
 deref p0 λbS=>
 deref (some bS) λcm=>
 deref (some (cm.add 0)) λcx=>
 au .slice cx λ(t37:Sl)=>
 deref p0 λcy=>
 deref (some cy) λcz=>
 deref (some (cz.add 1)) λdz=>
 au (.int .i64) dz λ(t41:Int)=>
 deref p0 λdQ=>
 deref (some dQ) λdR=>
 deref (some (dR.add 1)) λep=>
 au (.int .i64) ep λ(t47:Int)=>
 slc 1 t37 (some (IntKind.wrap .i64 (t41-t10))) (some t47) none λt48=>
 bf Pq (λz3=>q z3) 62 [(.slice t48.a t48.len t48.cap)] [.c .slice] λ(t49:Sl)=>
 Q t49
theorem B0(p0:OA)(q:List PanicEntry->Pr)(Q:Sl->Pr)(w:World)(h:VL p0 q Q w):Calls Pq 64 #[(.pointer p0)] w (iL q [.c .slice] Q):=cP (an:=Um) Tryz.func64 (by kernel_rfl) h
def Un:An:=(.sq .z (.sq .z (.sq .z (.sq (.sq .z (.bl (.lp [(20,.c (.int .i64))] (.sq .z (.sq (.br .z .z) (.sq (.jn [] (.bl .z)) .z)))))) (.sq .z .z)))))
def VM(p0:OA)(p1:Sl)(q:List PanicEntry->Pr)(Q:Int×Sl×Sl->Pr):Pr:=
 nw (.cells #[(.int .i64 0),(.slice none 0 0),(.slice none 0 0)] 62) λr=>
 bf Pq (λch=>q ch) 66 [(.pointer p0),(.int .i64 4)] [.c (.int .i64)] λ(t7:Int)=>
 nw (.cells #[(.int .i64 0),(.slice none 0 0),(.slice none 0 0)] 62) λr_1=>
 deref (some ⟨r_1,0,none⟩) λa=>
 st (a.add 0) (.int .i64 t7)<|
 st (a.add 1) (.slice none 0 0)<|
 st (a.add 2) (.slice none 0 0)<|
 bf Pq (λu7=>q u7) 66 [(.pointer p0),(.int .i64 (p1.len:Int))] [.c (.int .i64)] λ(t13:Int)=>
 aP ((0:Int)<=t13/\t13<(p1.len:Int))<|
 deref p1.a λa_1=>
 deref (some (a_1.add (Int.toNat t13*1))) λa_2=>
 au .slice a_2 λ(t15:Sl)=>
 bf Pq (λz3=>q z3) 62 [(.slice t15.a t15.len t15.cap)] [.c .slice] λ(t16:Sl)=>
 deref (some ⟨r_1,0,none⟩) λbX=>
 deref (some (bX.add 2)) λc6=>
 st c6 (.slice t16.a t16.len t16.cap)<|
 bf Pq (λGf=>q Gf) 63 [(.pointer p0)] [.c (.int .i64)] λ(t19:Int)=>
 aM (S:=Int) (λX s=>
 br (decide (s<t19)) (
 jn (S:=Unit) (λR=>
 jE<|
 deref (some ⟨r_1,0,none⟩) λc7=>
 both (
 deref (some (c7.add 1)) λcV=>
 au .slice cV λ(t23:Sl)=>
 bf Pq (λGg=>q Gg) 63 [(.pointer p0)] [.c (.int .i64)] λ(t25:Int)=>
 nw (.cells #[(.int .i64 (IntKind.wrap .i64 (t25-1)))] 3) λr_2=>
 app 3 1 8 [(.int .i64 0)] t23 ⟨(some ⟨r_2,0,none⟩),1,1⟩ λt28=>
 deref (some ⟨r_1,0,none⟩) λdy=>
 deref (some (dy.add 1)) λdO=>
 st dO (.slice t28.a t28.len t28.cap)<|
 R ()) (
 bf Pq (λGh=>q Gh) 63 [(.pointer p0)] [.c (.int .i64)] λ(ng:Int)=>
 deref (some (c7.add 1)) λdP=>
 au .slice dP λ(PN:Sl)=>
 nw (.cells #[(.int .i64 (IntKind.wrap .i64 (ng-1)))] 3) λr_3=>
 app 3 1 8 [(.int .i64 0)] PN ⟨(some ⟨r_3,0,none⟩),1,1⟩ λGi=>
 deref (some ⟨r_1,0,none⟩) λbu=>
 deref (some (bu.add 1)) λbF=>
 st bF (.slice Gi.a Gi.len Gi.cap)<|
 R ())) λs_1=>
 X ((IntKind.wrap .i64 (s+1)))) (
 deref (some ⟨r_1,0,none⟩) λbw=>
 aQ [(.int .i64),.slice,.slice] bw λ(t31:Int×Sl×Sl)=>
 deref (some ⟨r,0,none⟩) λbJ=>
 st (bJ.add 0) (.int .i64 t31.1)<|
 st (bJ.add 1) (.slice t31.2.1.a t31.2.1.len t31.2.1.cap)<|
 st (bJ.add 2) (.slice t31.2.2.a t31.2.2.len t31.2.2.cap)<|
 deref (some ⟨r,0,none⟩) λbW=>
 aQ [(.int .i64),.slice,.slice] bW λ(res:Int×Sl×Sl)=>
 Q ((res.1,res.2.1,res.2.2)))) 0
theorem B1(p0:OA)(p1:Sl)(q:List PanicEntry->Pr)(Q:Int×Sl×Sl->Pr)(w:World)(h:VM p0 p1 q Q w):Calls Pq 65 #[(.pointer p0),(slV p1)] w (iL q [.agg [(.int .i64),.slice,.slice]] Q):=cP (an:=Un) Tryz.func65 (by kernel_rfl) h
def Uo:An:=(.sq .z (.sq .z (.sq .z (.sq (.sq .z (.bl (.lp [(5,.c .slice),(9,.c (.int .i64))] (.sq .z (.sq (.br .z .z) (.sq (.bl .z) .z)))))) (.sq (.sq .z (.bl (.lp [(19,.c (.int .i64))] (.sq .z (.sq (.br .z .z) (.sq (.jn [] (.bl .z)) .z)))))) (.sq (.sq .z (.bl (.lp [(32,.c (.int .i64))] (.sq .z (.sq (.br .z .z) (.sq (.jn [] (.bl (.sq .z .z))) .z)))))) (.sq (.jn [] (.sq .z (.br .z .z))) (.sq .z .z))))))))
def VO(p0:OA)(q:List PanicEntry->Pr)(Q:(Sl×Sl)×Sl->Pr):Pr:=
 nw (.cells #[(.slice none 0 0),(.slice none 0 0)] 32) λr=>
 nw (.cells #[(.slice none 0 0),(.slice none 0 0)] 32) λr_1=>
 bf Pq (λch=>q ch) 63 [(.pointer p0)] [.c (.int .i64)] λ(t8:Int)=>
 aM (S:=Sl×Int) (λX s=>
 br (decide (s.2<t8)) (
 bf Pq (λu7=>q u7) 64 [(.pointer p0)] [.c .slice] λ(t13:Sl)=>
 nw (.cells #[(.slice t13.a t13.len t13.cap)] 22) λr_2=>
 app 22 1 24 [(.slice none 0 0)] s.1 ⟨(some ⟨r_2,0,none⟩),1,1⟩ λt15=>
 X (t15,(IntKind.wrap .i64 (s.2+1)))) (
 bf Pq (λz3=>q z3) 63 [(.pointer p0)] [.c (.int .i64)] λ(t18:Int)=>
 aM (S:=Int) (λjM s_1=>
 br (decide (s_1<t18)) (
 jn (S:=Unit) (λR=>
 jE<|
 deref (some ⟨r_1,0,none⟩) λa=>
 both (
 deref (some (a.add 0)) λa_1=>
 au .slice a_1 λ(t22:Sl)=>
 bf Pq (λGf=>q Gf) 65 [(.pointer p0),(.slice s.1.a s.1.len s.1.cap)] [.agg [(.int .i64),.slice,.slice]] λ(t25:Int×Sl×Sl)=>
 nw (.cells #[(.int .i64 t25.1),(.slice t25.2.1.a t25.2.1.len t25.2.1.cap),(.slice t25.2.2.a t25.2.2.len t25.2.2.cap)] 62) λr_3=>
 app 62 3 56 [(.int .i64 0),(.slice none 0 0),(.slice none 0 0)] t22 ⟨(some ⟨r_3,0,none⟩),1,1⟩ λt27=>
 deref (some ⟨r_1,0,none⟩) λa_2=>
 deref (some (a_2.add 0)) λbX=>
 st bX (.slice t27.a t27.len t27.cap)<|
 R ()) (
 bf Pq (λGg=>q Gg) 65 [(.pointer p0),(.slice s.1.a s.1.len s.1.cap)] [.agg [(.int .i64),.slice,.slice]] λ(ng:Int×Sl×Sl)=>
 deref (some (a.add 0)) λc6=>
 au .slice c6 λ(xe:Sl)=>
 nw (.cells #[(.int .i64 ng.1),(.slice ng.2.1.a ng.2.1.len ng.2.1.cap),(.slice ng.2.2.a ng.2.2.len ng.2.2.cap)] 62) λnc=>
 app 62 3 56 [(.int .i64 0),(.slice none 0 0),(.slice none 0 0)] xe ⟨(some ⟨nc,0,none⟩),1,1⟩ λGj=>
 deref (some ⟨r_1,0,none⟩) λc7=>
 deref (some (c7.add 0)) λcV=>
 st cV (.slice Gj.a Gj.len Gj.cap)<|
 R ())) λs_2=>
 jM ((IntKind.wrap .i64 (s_1+1)))) (
 bf Pq (λGh=>q Gh) 63 [(.pointer p0)] [.c (.int .i64)] λ(t31:Int)=>
 aM (S:=Int) (λxh dB=>
 br (decide (dB<t31)) (
 jn (S:=Unit) (λbG=>
 bf Pq (λMI=>q MI) 64 [(.pointer p0)] [.c .slice] λ(t35:Sl)=>
 yS t35 λt36=>
 jE<|
 deref (some ⟨r_1,0,none⟩) λdy=>
 both (
 deref (some (dy.add 1)) λdO=>
 au .slice dO λ(t38:Sl)=>
 bf Pq (λMJ=>q MJ) 66 [(.pointer p0),(.int .i64 8192)] [.c (.int .i64)] λ(t41:Int)=>
 nw (.cells #[(.string t36),(.int .i64 t41)] 64) λsK=>
 app 64 2 24 [(.string (⟨#[]⟩:ByteArray)),(.int .i64 0)] t38 ⟨(some ⟨sK,0,none⟩),1,1⟩ λt44=>
 deref (some ⟨r_1,0,none⟩) λdP=>
 deref (some (dP.add 1)) λbu=>
 st bu (.slice t44.a t44.len t44.cap)<|
 bG ()) (
 bf Pq (λMK=>q MK) 66 [(.pointer p0),(.int .i64 8192)] [.c (.int .i64)] λ(Gk:Int)=>
 deref (some (dy.add 1)) λbF=>
 au .slice bF λ(PO:Sl)=>
 nw (.cells #[(.string t36),(.int .i64 Gk)] 64) λC3=>
 app 64 2 24 [(.string (⟨#[]⟩:ByteArray)),(.int .i64 0)] PO ⟨(some ⟨C3,0,none⟩),1,1⟩ λGl=>
 deref (some ⟨r_1,0,none⟩) λbw=>
 deref (some (bw.add 1)) λbJ=>
 st bJ (.slice Gl.a Gl.len Gl.cap)<|
 bG ())) λbB=>
 xh ((IntKind.wrap .i64 (dB+1)))) (
 jn (S:=Unit) (λjN=>
 jE<|
 deref p0 λbW=>
 deref (some bW) λbS=>
 deref (some (bS.add 1)) λcm=>
 au (.int .i64) cm λ(t50:Int)=>
 deref p0 λcx=>
 deref (some cx) λcy=>
 deref (some (cy.add 0)) λcz=>
 au .slice cz λ(t54:Sl)=>
 br (decide (t50<(t54.len:Int))) (
 deref p0 λdz=>
 deref (some dz) λdQ=>
 deref (some (dQ.add 1)) λdR=>
 au (.int .i64) dR λ(t60:Int)=>
 bf Pq (λUp=>q Up) 27 [(.int .i64 t60),(.iface 24 (.int .i64 260))] [] λ(t62:Unit)=>
 jN ()) (
 jN ())) λfB=>
 deref (some ⟨r_1,0,none⟩) λep=>
 aQ [.slice,.slice] ep λ(t63:Sl×Sl)=>
 deref (some ⟨r,0,none⟩) λe8=>
 st (e8.add 0) (.slice t63.1.a t63.1.len t63.1.cap)<|
 st (e8.add 1) (.slice t63.2.a t63.2.len t63.2.cap)<|
 deref (some ⟨r,0,none⟩) λfu=>
 aQ [.slice,.slice] fu λ(res:Sl×Sl)=>
 Q ((res.1,res.2),s.1))) 0)) 0)) (⟨none,0,0⟩,0)
theorem B3(p0:OA)(q:List PanicEntry->Pr)(Q:(Sl×Sl)×Sl->Pr)(w:World)(h:VO p0 q Q w):Calls Pq 29 #[(.pointer p0)] w (iL q [.agg [.slice,.slice],.c .slice] Q):=cP (an:=Uo) Tryz.func29 (by kernel_rfl) h
def Uq:An:=(.sq .z (.sq .z (.sq .z (.sq (.jn [] (.sq (.jn [(24,.c .bool)] .z) (.br .z .z))) (.sq .z (.sq (.jn [] (.sq .z (.sq .z (.br .z .z)))) (.sq .z (.sq .z (.sq .z (.sq (.jn [] (.sq (.jn [(74,.c .bool)] .z) (.br .z .z))) (.sq .z .z)))))))))))
def VT(p0:Sl)(Q:(Sl×Sl)×Value->Pr):Pr:=
 nw (.cells #[(.slice none 0 0),(.slice none 0 0)] 32) λr=>
 aP (aK .nilIface)<|nw (.cells #[.nilIface] 45) λr_1=>
 jn (S:=Unit) (λR=>
 jn (S:=Bool) (λbG=>
 br (decide ((p0.len:Int)<(IntKind.wrap .i64 (8+4)))) (
 bG true) (
 slc 1 p0 none (some 8) none λt21=>
 yS t21 λt22=>
 bG ((!(t22.toList==(⟨#[97,116,116,105,99,32,97,10]⟩:ByteArray).toList))))) λs_1=>
 br s_1 (
 bf Pq (λch=>gh Pq (.panicking ch) 26 [(.pointer (some ⟨r,0,none⟩)),(.pointer (some ⟨r_1,0,none⟩))]<|
 deref (some ⟨r,0,none⟩) λa=>
 aQ [.slice,.slice] a λ(res:Sl×Sl)=>
 deref (some ⟨r_1,0,none⟩) λa_1=>
 au .any a_1 λ(cX:Value)=>
 Q ((res.1,res.2),cX)) 27 [(.int .i64 0),(.iface 24 (.int .i64 260))] [] λ(t26:Unit)=>
 R ()) (
 R ())) λs=>
 jn (S:=Unit) (λjN=>
 bf Pq (λu7=>gh Pq (.panicking u7) 26 [(.pointer (some ⟨r,0,none⟩)),(.pointer (some ⟨r_1,0,none⟩))]<|
 deref (some ⟨r,0,none⟩) λa_2=>
 aQ [.slice,.slice] a_2 λ(kQ:Sl×Sl)=>
 deref (some ⟨r_1,0,none⟩) λbX=>
 au .any bX λ(xb:Value)=>
 Q ((kQ.1,kQ.2),xb)) 28 [(.slice p0.a p0.len p0.cap)] [.c .slice,.c (.int .i64)] λ(t32:Sl×Int)=>
 br (t32.2 !=0) (
 bf Pq (λz3=>gh Pq (.panicking z3) 26 [(.pointer (some ⟨r,0,none⟩)),(.pointer (some ⟨r_1,0,none⟩))]<|
 deref (some ⟨r,0,none⟩) λc6=>
 aQ [.slice,.slice] c6 λ(sI:Sl×Sl)=>
 deref (some ⟨r_1,0,none⟩) λc7=>
 au .any c7 λ(xd:Value)=>
 Q ((sI.1,sI.2),xd)) 27 [(.int .i64 (IntKind.wrap .i64 ((p0.len:Int)-4))),(.iface 24 (.int .i64 t32.2))] [] λ(t40:Unit)=>
 jN ()) (
 jN ())) λs_2=>
 slc 1 p0 none (some (IntKind.wrap .i64 ((p0.len:Int)-4))) none λt43=>
 nw (.cells #[(.slice t43.a t43.len t43.cap),(.int .i64 8)] 92) λr_2=>
 bf Pq (λGf=>gh Pq (.panicking Gf) 26 [(.pointer (some ⟨r,0,none⟩)),(.pointer (some ⟨r_1,0,none⟩))]<|
 deref (some ⟨r,0,none⟩) λcV=>
 aQ [.slice,.slice] cV λ(sJ:Sl×Sl)=>
 deref (some ⟨r_1,0,none⟩) λdy=>
 au .any dy λ(PR:Value)=>
 Q ((sJ.1,sJ.2),PR)) 29 [(.pointer (some ⟨r_2,0,none⟩))] [.agg [.slice,.slice],.c .slice] λ(t49:(Sl×Sl)×Sl)=>
 nw (.cells #[(.slice none 0 0),(.slice none 0 0)] 32) λr_3=>
 deref (some ⟨r_3,0,none⟩) λdO=>
 st (dO.add 0) (.slice t49.1.1.a t49.1.1.len t49.1.1.cap)<|
 st (dO.add 1) (.slice t49.1.2.a t49.1.2.len t49.1.2.cap)<|
 deref (some ⟨r_3,0,none⟩) λdP=>
 aQ [.slice,.slice] dP λ(t53:Sl×Sl)=>
 bf Pq (λGg=>gh Pq (.panicking Gg) 26 [(.pointer (some ⟨r,0,none⟩)),(.pointer (some ⟨r_1,0,none⟩))]<|
 deref (some ⟨r,0,none⟩) λbu=>
 aQ [.slice,.slice] bu λ(Kv:Sl×Sl)=>
 deref (some ⟨r_1,0,none⟩) λbF=>
 au .any bF λ(PS:Value)=>
 Q ((Kv.1,Kv.2),PS)) 21 [(.agg #[(.slice t53.1.a t53.1.len t53.1.cap),(.slice t53.2.a t53.2.len t53.2.cap)])] [.agg [.slice,.slice],.c (.int .i64)] λ(t54:(Sl×Sl)×Int)=>
 nw (.cells #[(.slice none 0 0),(.slice none 0 0)] 32) λnc=>
 deref (some ⟨nc,0,none⟩) λbw=>
 st (bw.add 0) (.slice t54.1.1.a t54.1.1.len t54.1.1.cap)<|
 st (bw.add 1) (.slice t54.1.2.a t54.1.2.len t54.1.2.cap)<|
 jn (S:=Unit) (λvk=>
 jn (S:=Bool) (λGZ=>
 br (t54.2 !=0) (
 GZ true) (
 deref (some ⟨nc,0,none⟩) λbJ=>
 aQ [.slice,.slice] bJ λ(t60:Sl×Sl)=>
 deref (some ⟨r_3,0,none⟩) λbW=>
 aQ [.slice,.slice] bW λ(t61:Sl×Sl)=>
 bf Pq (λGh=>gh Pq (.panicking Gh) 26 [(.pointer (some ⟨r,0,none⟩)),(.pointer (some ⟨r_1,0,none⟩))]<|
 deref (some ⟨r,0,none⟩) λbS=>
 aQ [.slice,.slice] bS λ(Gm:Sl×Sl)=>
 deref (some ⟨r_1,0,none⟩) λcm=>
 au .any cm λ(ML:Value)=>
 Q ((Gm.1,Gm.2),ML)) 30 [(.agg #[(.slice t60.1.a t60.1.len t60.1.cap),(.slice t60.2.a t60.2.len t60.2.cap)]),(.agg #[(.slice t61.1.a t61.1.len t61.1.cap),(.slice t61.2.a t61.2.len t61.2.cap)])] [.c .bool] λ(t62:Bool)=>
 br (!t62) (
 GZ true) (
 deref (some ⟨r_3,0,none⟩) λcx=>
 aQ [.slice,.slice] cx λ(t66:Sl×Sl)=>
 bf Pq (λMI=>gh Pq (.panicking MI) 26 [(.pointer (some ⟨r,0,none⟩)),(.pointer (some ⟨r_1,0,none⟩))]<|
 deref (some ⟨r,0,none⟩) λcy=>
 aQ [.slice,.slice] cy λ(Gn:Sl×Sl)=>
 deref (some ⟨r_1,0,none⟩) λcz=>
 au .any cz λ(MM:Value)=>
 Q ((Gn.1,Gn.2),MM)) 22 [(.agg #[(.slice t66.1.a t66.1.len t66.1.cap),(.slice t66.2.a t66.2.len t66.2.cap)])] [.c .ptr] λ(t67:OA)=>
 deref t67 λdz=>
 deref (some dz) λdQ=>
 deref (some (dQ.add 0)) λdR=>
 au .slice dR λ(t70:Sl)=>
 bf Pq (λMJ=>gh Pq (.panicking MJ) 26 [(.pointer (some ⟨r,0,none⟩)),(.pointer (some ⟨r_1,0,none⟩))]<|
 deref (some ⟨r,0,none⟩) λep=>
 aQ [.slice,.slice] ep λ(Gp:Sl×Sl)=>
 deref (some ⟨r_1,0,none⟩) λe8=>
 au .any e8 λ(MN:Value)=>
 Q ((Gp.1,Gp.2),MN)) 31 [(.slice t70.a t70.len t70.cap),(.slice t49.2.a t49.2.len t49.2.cap),(.func (.func 11) #[] #[])] [.c .bool] λ(t72:Bool)=>
 GZ (!t72)))) λbB=>
 br bB (
 bf Pq (λMK=>gh Pq (.panicking MK) 26 [(.pointer (some ⟨r,0,none⟩)),(.pointer (some ⟨r_1,0,none⟩))]<|
 deref (some ⟨r,0,none⟩) λfu=>
 aQ [.slice,.slice] fu λ(Gq:Sl×Sl)=>
 deref (some ⟨r_1,0,none⟩) λfy=>
 au .any fy λ(MO:Value)=>
 Q ((Gq.1,Gq.2),MO)) 27 [(.int .i64 (IntKind.wrap .i64 ((p0.len:Int)-4))),(.iface 24 (.int .i64 180))] [] λ(t77:Unit)=>
 vk ()) (
 vk ())) λdB=>
 deref (some ⟨r_3,0,none⟩) λfZ=>
 aQ [.slice,.slice] fZ λ(t78:Sl×Sl)=>
 deref (some ⟨r,0,none⟩) λfA=>
 st (fA.add 0) (.slice t78.1.a t78.1.len t78.1.cap)<|
 st (fA.add 1) (.slice t78.2.a t78.2.len t78.2.cap)<|
 deref (some ⟨r_1,0,none⟩) λgq=>
 st gq .nilIface<|
 gh Pq .returning 26 [(.pointer (some ⟨r,0,none⟩)),(.pointer (some ⟨r_1,0,none⟩))]<|
 deref (some ⟨r,0,none⟩) λiA=>
 aQ [.slice,.slice] iA λ(Gr:Sl×Sl)=>
 deref (some ⟨r_1,0,none⟩) λjO=>
 au .any jO λ(MP:Value)=>
 Q ((Gr.1,Gr.2),MP)
theorem B6(p0:Sl)(Q:(Sl×Sl)×Value->Pr)(w:World)(h:VT p0 Q w):Calls Pq 12 #[(slV p0)] w (aC [.agg [.slice,.slice],.c .any] Q):=cQ (an:=Uq) Tryz.func12 (by kernel_rfl) h
set_option maxRecDepth 20000
abbrev rW(α:Type):=Except Nat (α×Nat)
def eu(l:LB)(most p:Nat):rW Nat:=if(dj (l.drop p)).2.2≠0\/most<=(dj (l.drop p)).1 then .error p else .ok ((dj (l.drop p)).1,p+(dj (l.drop p)).2.1)
def jD(l:LB)(p:Nat):rW (LB):=
 match eu l 8193 p with
 |.error e=>.error e
 |.ok (n,q)=>if l.length-q<n then .error p else .ok ((l.drop q).take n,q+n)
def pre{α:Type}(acc:List α):rW (List α)->rW (List α)
 |.error e=>.error e
 |.ok (xs,p)=>.ok (acc++xs,p)
def c8{α:Type}(f:Nat->rW α):Nat->Nat->rW (List α)
 |0,p=>.ok ([],p)
 |
  n+1,p=>match f p with
  |.error e=>.error e
  |.ok (x,q)=>pre [x] (c8 f n q)
def j5(l:LB)(p:Nat):rW Int:=
 match eu l 8193 p with
 |.error e=>.error e
 |.ok (v,q)=>.ok ((v:Int)-1,q)
def ew(l:LB)(ds:List (LB))(p:Nat):rW GN:=
 match eu l 4 p with
 |.error e=>.error e
 |
  .ok (k,p1)=>match eu l ds.length p1 with
  |.error e=>.error e
  |
   .ok (d,p2)=>match eu l 8193 p2 with
   |.error e=>.error e
   |
    .ok (m,p3)=>match c8 (j5 l) m p3 with
    |.error e=>.error e
    |.ok (ps,p4)=>.ok (⟨(k:Int),ps,(ds[d]?).getD []⟩,p4)
def gH(l:LB)(p:Nat):rW RM:=
 match jD l p with
 |.error e=>.error e
 |
  .ok (name,q)=>match eu l 8192 q with
  |.error e=>.error e
  |.ok (v,r)=>.ok ((name,(v:Int)),r)
def fo(l:LB)(p:Nat):rW (List (LB)):=
 match eu l 8193 p with
 |.error e=>.error e
 |.ok (m,q)=>c8 (jD l) m q
def eF(l:LB)(ds:List (LB))(p:Nat):rW (List GN):=
 match eu l 8193 p with
 |.error e=>.error e
 |.ok (m,q)=>c8 (ew l ds) m q
def eS(l:LB)(p:Nat):rW (List RM):=
 match eu l 8193 p with
 |.error e=>.error e
 |.ok (m,q)=>c8 (gH l) m q
def dg(l:LB)(p:Nat):Except Nat (GG×List (LB)):=
 match fo l p with
 |.error e=>.error e
 |
  .ok (ds,p1)=>match eF l ds p1 with
  |.error e=>.error e
  |
   .ok (ns,p2)=>match eS l p2 with
   |.error e=>.error e
   |.ok (rs,p3)=>if p3<l.length then .error p3 else .ok (⟨ns,rs⟩,ds)
theorem o0{α:Type}(x:rW (List α)):pre [] x=x:=by cases x<;>rfl
theorem HL{α:Type}(a b:List α)(x:rW (List α)):pre a (pre b x)=pre (a++b) x:=by
 cases x with
 |error e=>rfl
 |ok y=>simp[pre]
theorem kV{α:Type}{f:Nat->rW α}{n i p q:Nat}{acc:List α}{x:α}(hi:i<n)(hf:f p=.ok (x,q)):pre acc (c8 f (n-i) p)=pre (acc++[x]) (c8 f (n-(i+1)) q):=by
 rw[show n-i=(n-(i+1))+1 by omega,c8,hf,<-HL]
theorem kB{α:Type}{f:Nat->rW α}{n i p e:Nat}{acc:List α}(hi:i<n)(hf:f p=.error e):pre acc (c8 f (n-i) p)=.error e:=by
 rw[show n-i=(n-(i+1))+1 by omega,c8,hf];rfl
theorem mA{α:Type}{f:Nat->rW α}{n i p:Nat}{acc:List α}(hi:n<=i):pre acc (c8 f (n-i) p)=.ok (acc,p):=by
 rw[show n-i=0 by omega,c8,pre,List.append_nil]
theorem NT(l:LB):∀(v i:Nat),(pJ l v i).2.2=0->(pJ l v i).2.1<=i+l.length:=by
 induction l with
 |nil=>intro v i h;simp[pJ]at h
 |
  cons c l ih=>
  intro v i h;rw[ff]at h⊢;split at h
  ·simp at h
  ·rename_i h1
   rw[jc h1];split at h
   ·rename_i h2
    rw[jd h2];simp
   ·rename_i h2
    rw[jc h2];have:=ih _ _ h;rw[List.length_cons];omega
theorem bQ{l:LB}{most p v q:Nat}(h:eu l most p=.ok (v,q))(hp:p<=l.length):v<most/\q<=l.length:=by
 unfold eu at h;split at h
 ·cases h
 ·rename_i hc
  simp only[not_or,Decidable.not_not,Nat.not_le]at hc;simp only[Except.ok.injEq,Prod.mk.injEq]at h;have:=NT (l.drop p) 0 0 hc.1;rw[kf]at this;have h2:(dj (l.drop p)).2.1<=0+(l.length-p):=this;omega
theorem ck{P:Program}{f:FuncId}{args:LV}{aU:List Sh}{q q0:List PanicEntry->Pr}{k post:b9 aU->Pr}{w:World}(h:Calls P f args.toArray w (iL q0 aU post))(hq:∀ch w',q0 ch w'->q ch w')(hk:∀r w',post r w'->k r w'):bf P q f args aU k w:=
 h.mono λ_ _ h=>h.imp (λ⟨p,he,hp⟩=>⟨p,he,hk _ _ hp⟩) λ⟨ch,he,hp⟩=>⟨ch,he,hq _ _ hp⟩
theorem fO{P:Program}{f:FuncId}{args:LV}{aU:List Sh}{q:List PanicEntry->Pr}{k post:b9 aU->Pr}{w:World}(h:Calls P f args.toArray w (aC aU post))(hk:∀r w',post r w'->k r w'):bf P q f args aU k w:=
 h.mono λ_ _ ⟨p,he,hp⟩=>.inl ⟨p,he,hk _ _ hp⟩
abbrev HM(r:Nat):List PanicEntry:=[⟨.iface 131 (.agg #[.pointer (some ⟨r,0,none⟩)]),false,false⟩]
abbrev iu(rd:Nat)(bs:Sl)(p:Nat):HA:=aa rd [slV bs,.int .i64 p]
abbrev bR(r:Nat)(e:Int)(n:Int):HA:=aa r [.int .i64 e,.iface 24 (.int .i64 n)]
theorem Nb(dH:Int)(e:Value)(w:World)(he:aK e):Calls Pq 27 #[.int .i64 dH,e] w (iL (λch w'=>∃r,ch=HM r/\St aA w w' [aa r [.int .i64 dH,e]]) [] λ_ _=>False):=by
 refine BX dH e _ _ _ ?_;unfold VG;refine JU he ?_;exact St.nw (St.bp w) λb w1 s1 _ _=>⟨b,rfl,s1⟩
def rX{α:Type}(F:Nat->Prop)(w:World)(rd:Nat)(bs:Sl)(m:Except Nat α):List PanicEntry->Pr:=λch w'=>∃e r p,m=.error e/\ch=HM r/\St F w w' [bR r e 260,iu rd bs p]
theorem vI{w:World}{s:Sl}{l:LB}{p:Nat}{k:Sl->Pr}(h:BS w s l)(hc:s.len<=s.cap)(hp:p<=l.length)(hk:∀r,BS w r (l.drop p)->r.len<=r.cap->k r w):slc 1 s (some (p:Int)) none none k w:=by
 have hl:=h.len;refine D4 (by omega) (by omega) ?_;simp only[jk];refine hk _ ?_ (by dsimp only;omega);have e:l.drop p=(l.drop p).take (l.length-p):=by rw[List.take_of_length_le];simp
 have:=MS.sub (o:=p) (n:=l.length-p) (a:=if s.cap=p then s.a else s.a.map (·.add (p*1))) (c:=s.cap-p) h.ms (by omega) ?_ ?_
 ·rw[e,hl]
  exact this.bs
 ·by_cases XS:s.cap=p
  ·exact .inr (by omega)
  ·rw[jc XS];exact .inl rfl
 ·intro _
  cases s.a with
  |none=>left;split<;>rfl
  |some ad=>right;split<;>rfl
theorem VH(rd:Nat)(bs:Sl)(l:LB)(p:Nat)(most:Int)(w:World)(F:Nat->Prop)(h:Has [iu rd bs p] w F)(hb:Rd w F bs l)(hc:bs.len<=bs.cap)(hp:p<=l.length)(hl:l.length<=1000000)(hm:0<=most/\most<=10000):
 Calls Pq 66 #[.pointer (some ⟨rd,0,none⟩),.int .i64 most] w (iL (rX F w rd bs (eu l most.toNat p)) [.c (.int .i64)] λr w'=>∃v q,eu l most.toNat p=.ok (v,q)/\r=(v:Int)/\St F w w' [iu rd bs q]):=by
 refine BY (some ⟨rd,0,none⟩) most _ _ _ ?_;unfold VI;simp only[ag];rw[aR];have s:=(St.init h).drew;refine s.ld (i:=0) (s:=.slice) (p:=bs) rfl ?_;refine s.ld (i:=1) (s:=.int .i64) (p:=(p:Int)) rfl ?_;refine vI (hb.at s) hc hp λt ht XT=>?_;refine fO (Xn t (l.drop p) _ ht XT (by simp;omega)) ?_;rintro _ _ ⟨rfl,rfl⟩;dsimp only;have XU:IntKind.wrap .u64 most=most:=by rw[bO];omega
 refine aL (λ_ W=>¬((dj (l.drop p)).2.2≠0\/most.toNat<=(dj (l.drop p)).1)/\St F w W [iu rd bs p]) ?_ ?_
 ·refine aL (λs' W=>s'=decide ((dj (l.drop p)).2.2≠0\/most.toNat<=(dj (l.drop p)).1)/\St F w W [iu rd bs p]) ?_ ?_
  ·refine ah (λh1=>⟨?_,s⟩) λh1=>⟨?_,s⟩
   ·rw[decide_eq_true (.inl (by simpa using h1))]
   ·have h1:(dj (l.drop p)).2.2=0:=by simpa using h1
    rw[XU,Bool.eq_iff_iff];simp only[jb,h1,ne_eq,not_true_eq_false,false_or,ge_iff_le];omega
  ·rintro _ W ⟨rfl,s⟩
   refine ah (λiX=>?_) λhok=>?_
   ·rw[jb]at iX
    refine s.ld (i:=1) (s:=.int .i64) (p:=(p:Int)) rfl ?_;refine ck (Nb p (.iface 24 (.int .i64 260)) W trivial) ?_ λ_ _ h=>h.elim;rintro ch w' ⟨r,rfl,k⟩;exact⟨p,r,p,by unfold eu;rw[jd iX],rfl,s.aZ k⟩
   ·exact⟨by simpa using hok,s⟩
 ·rintro⟨⟩ W ⟨hok,s⟩
  have HF:eu l most.toNat p=.ok ((dj (l.drop p)).1,p+(dj (l.drop p)).2.1):=by unfold eu;rw[jc hok]
  obtain⟨hv,hq⟩:=bQ HF hp;refine s.ld (i:=1) (s:=.int .i64) (p:=(p:Int)) rfl ?_;refine s.st (i:=1) (by simp) trivial λw2 s2=>?_;rw[wrap_i64 ⟨by omega,by omega⟩]at s2;refine⟨_,_,HF,?_,s2⟩;rw[wrap_i64 ⟨by omega,by omega⟩]
theorem VJ(rd:Nat)(bs:Sl)(l:LB)(p:Nat)(w:World)(F:Nat->Prop)(h:Has [iu rd bs p] w F)(hb:Rd w F bs l)(hc:bs.len<=bs.cap)(hp:p<=l.length)(hl:l.length<=1000000):
 Calls Pq 63 #[.pointer (some ⟨rd,0,none⟩)] w (iL (rX F w rd bs (eu l 8193 p)) [.c (.int .i64)] λr w'=>∃v q,eu l 8193 p=.ok (v,q)/\r=(v:Int)/\St F w w' [iu rd bs q]):=by
 refine BZ (some ⟨rd,0,none⟩) _ _ _ ?_;unfold VK;exact ck (VH rd bs l p 8193 w F h hb hc hp hl (by omega)) (λ_ _ h=>h) λ_ _ h=>h
theorem rX.Ll{α β:Type}{F:Nat->Prop}{w:World}{rd:Nat}{bs:Sl}{m:Except Nat α}{m':Except Nat β}(hm:∀e,m=.error e->m'=.error e){ch:List PanicEntry}{w':World}(h:rX F w rd bs m ch w'):rX F w rd bs m' ch w':=by
 obtain⟨e,r,p,h1,h2,h3⟩:=h;exact⟨e,r,p,hm e h1,h2,h3⟩
theorem XV(rd:Nat)(bs:Sl)(l:LB)(p:Nat)(w:World)(F:Nat->Prop)(h:Has [iu rd bs p] w F)(hb:Rd w F bs l)(hc:bs.len<=bs.cap)(hp:p<=l.length)(hl:l.length<=1000000):
 Calls Pq 64 #[.pointer (some ⟨rd,0,none⟩)] w (iL (rX F w rd bs (jD l p)) [.c .slice] λr w'=>∃x q,jD l p=.ok (x,q)/\St F w w' [aq 1 r (x.map ub),iu rd bs q]):=by
 refine B0 (some ⟨rd,0,none⟩) _ _ _ ?_;unfold VL;simp only[ag];have s:=St.init h;have vc:=hb.bs.len;refine s.ld (i:=1) (s:=.int .i64) (p:=(p:Int)) rfl ?_;refine ck (VJ rd bs l p w F h hb hc hp hl) (λ_ _ h=>rX.Ll (λe he=>by unfold jD;rw[he]) h) ?_;rintro _ w1 ⟨n,q,hn,rfl,s1⟩;obtain⟨XX,hq⟩:=bQ hn hp;refine aL (λ_ W=>n<=l.length-q/\St F w W [iu rd bs q]) ?_ ?_
 ·rw[aR]
  have s2:=s1.drew;refine s2.ld (i:=0) (s:=.slice) (p:=bs) rfl ?_;refine s2.ld (i:=1) (s:=.int .i64) (p:=(q:Int)) rfl ?_;rw[wrap_i64 ⟨by omega,by omega⟩];refine ah (λhlt=>?_) λhge=>?_
  ·simp only[jb]at hlt
   refine ck (Nb p (.iface 24 (.int .i64 260)) _ trivial) ?_ λ_ _ h=>h.elim;rintro ch w' ⟨r,rfl,k⟩;refine⟨p,r,q,?_,rfl,s2.aZ k⟩;unfold jD;rw[hn];dsimp only;rw[jd (by omega)]
  ·simp only[ja]at hge
   exact⟨by omega,s2⟩
 ·rintro⟨⟩ W ⟨hn2,s2⟩
  have Rz:jD l p=.ok ((l.drop q).take n,q+n):=by
   unfold jD;rw[hn];dsimp only;rw[jc (by omega)]
  refine s2.ld (i:=1) (s:=.int .i64) (p:=(q:Int)) rfl ?_;refine s2.st (i:=1) (by simp) trivial λw3 s3=>?_;rw[wrap_i64 ⟨by omega,by omega⟩]at s3;have s3:St F w w3 [iu rd bs (q+n)]:=s3;rw[aR];have s4:=s3.drew;refine s4.ld (i:=0) (s:=.slice) (p:=bs) rfl ?_;refine s4.ld (i:=1) (s:=.int .i64) (p:=((q+n:Nat):Int)) rfl ?_;refine s4.ld (i:=1) (s:=.int .i64) (p:=((q+n:Nat):Int)) rfl ?_;rw[wrap_i64 ⟨by omega,by omega⟩];refine D5 (hb.at s4) hc (by omega) (by omega) (by omega) λt ht kq=>?_;have ex:(l.take ((q+n:Nat):Int).toNat).drop (((q+n:Nat):Int)-(n:Int)).toNat=(l.drop q).take n:=by
   rw[show(((q+n:Nat):Int)).toNat=q+n by omega,show(((q+n:Nat):Int)-(n:Int)).toNat=q by omega,List.drop_take]
   congr 1
   omega
  rw[ex]at ht;refine fO (Qo t _ _ ht (by simp;omega)) λu w5 k5=>?_;exact⟨_,_,Rz,s4.aZ k5⟩
section
variable{F:Nat->Prop}{w W:World}{L:List HA}{rd:Nat}{bs:Sl}{l:LB}{p:Nat}{α:Type}{M:Except Nat α}
theorem rX.up{β:Type}{F':Nat->Prop}{m:Except Nat β}(h5:∀w' l',St F' W w' l'->St F w w' (l'++L))(hm:∀e,m=.error e->M=.error e){ch:List PanicEntry}{w':World}(h:rX F' W rd bs m ch w'):rX F w rd bs M ch w':=by
 obtain⟨e,r,p,h1,h2,h3⟩:=h;exact⟨e,r,p,hm e h1,h2,St.jR (h5 w' _ h3)⟩
theorem Ar{most:Int}{k:Int->Pr}(st:St F w W (iu rd bs p::L))(hb:Rd w F bs l)(hc:bs.len<=bs.cap)(hp:p<=l.length)(hl:l.length<=1000000)(hm:0<=most/\most<=10000)
 (hq:∀e,eu l most.toNat p=.error e->M=.error e)(hk:∀(v q:Nat) W',eu l most.toNat p=.ok (v,q)->St F w W' (iu rd bs q::L)->k v W'):
 bf Pq (λch=>rX F w rd bs M ch) 66 [.pointer (some ⟨rd,0,none⟩),.int .i64 most] [.c (.int .i64)] k W:=by
 obtain⟨F',H,_,h1,h2,h3,h4,h5⟩:=st.ee;refine ck (VH rd bs l p most W F' h1 (hb.go st h4) hc hp hl hm) (λ_ _ h=>rX.up h5 hq h) ?_;rintro _ W' ⟨v,q,hv,rfl,s'⟩;exact hk v q W' hv (h5 W' _ s')
theorem rY{k:Int->Pr}(st:St F w W (iu rd bs p::L))(hb:Rd w F bs l)(hc:bs.len<=bs.cap)(hp:p<=l.length)(hl:l.length<=1000000)
 (hq:∀e,eu l 8193 p=.error e->M=.error e)(hk:∀(v q:Nat) W',eu l 8193 p=.ok (v,q)->St F w W' (iu rd bs q::L)->k v W'):
 bf Pq (λch=>rX F w rd bs M ch) 63 [.pointer (some ⟨rd,0,none⟩)] [.c (.int .i64)] k W:=by
 obtain⟨F',H,_,h1,h2,h3,h4,h5⟩:=st.ee;refine ck (VJ rd bs l p W F' h1 (hb.go st h4) hc hp hl) (λ_ _ h=>rX.up h5 hq h) ?_;rintro _ W' ⟨v,q,hv,rfl,s'⟩;exact hk v q W' hv (h5 W' _ s')
theorem JY{k:Sl->Pr}(st:St F w W (iu rd bs p::L))(hb:Rd w F bs l)(hc:bs.len<=bs.cap)(hp:p<=l.length)(hl:l.length<=1000000)
 (hq:∀e,jD l p=.error e->M=.error e)(hk:∀x (q:Nat) (r:Sl) W',jD l p=.ok (x,q)->St F w W' (iu rd bs q::aq 1 r (x.map ub)::L)->k r W'):
 bf Pq (λch=>rX F w rd bs M ch) 64 [.pointer (some ⟨rd,0,none⟩)] [.c .slice] k W:=by
 obtain⟨F',H,_,h1,h2,h3,h4,h5⟩:=st.ee;refine ck (XV rd bs l p W F' h1 (hb.go st h4) hc hp hl) (λ_ _ h=>rX.up h5 hq h) ?_;rintro r W' ⟨x,q,hv,s'⟩;exact hk x q r W' hv ((h5 W' _ s').af 1)
end
theorem mB{l:LB}{p q:Nat}{x:LB}(h:jD l p=.ok (x,q))(hp:p<=l.length):q<=l.length/\x.length<=8192:=by
 unfold jD at h;split at h
 ·cases h
 ·rename_i n q' hn
  have:=bQ hn hp;split at h
  ·cases h
  ·simp only[Except.ok.injEq,Prod.mk.injEq]at h
   obtain⟨rfl,rfl⟩:=h;refine⟨by omega,?_⟩;rw[jr];omega
theorem th{l:LB}{p q:Nat}{x:Int}(h:j5 l p=.ok (x,q))(hp:p<=l.length):q<=l.length∧-1<=x/\x<=8191:=by
 unfold j5 at h;split at h
 ·cases h
 ·rename_i n q' hn
  have:=bQ hn hp;simp only[Except.ok.injEq,Prod.mk.injEq]at h;omega
structure DD(w:World)(F:Nat->Prop)(t:Sl)(dd:List (Sl×LB)):Prop where
 ms:MS (λx:Sl×LB=>slV x.1) w t dd
 no:dd≠[]->∀b,t.lq b->¬F b
 rd:∀x∈dd,Rd w F x.1 x.2
 len:∀x∈dd,x.2.length<=8192
theorem XY(rd:Nat)(bs:Sl)(l:LB)(p:Nat)(t:Sl)(dd:List (Sl×LB))(w:World)(F:Nat->Prop)(h:Has [iu rd bs p] w F)(hb:Rd w F bs l)(hc:bs.len<=bs.cap)(hp:p<=l.length)(hl:l.length<=1000000)(hd:DD w F t dd)(ve:dd.length<=8192):
 Calls Pq 65 #[.pointer (some ⟨rd,0,none⟩),slV t] w (iL (rX F w rd bs (ew l (dd.map (·.2)) p)) [.agg [.int .i64,.slice,.slice]] λr w'=>∃(y:NS) (q:Nat),ew l (dd.map (·.2)) p=.ok (y.m,q)/\q<=l.length/\(y.k,y.ps,y.ds)=r/\St F w w' [aG y,iu rd bs q]):=by
 refine B1 (some ⟨rd,0,none⟩) t _ _ _ ?_;unfold VM;simp only[ag];have kq:=hd.ms.len;refine St.nw (St.init h) λr w1 s1 _ _=>?_;refine Ar (s1.af 1) hb hc hp hl (by omega) (λe he=>by have he:eu l 4 p=_:=he;unfold ew;rw[he]) λk p1 w2 hk s2=>?_;have hk:eu l 4 p=.ok (k,p1):=hk;have hk':=bQ hk hp;refine St.nw s2 λr1 w3 s3 _ _=>s3.st (i:=0) (by simp) trivial λw4 s4=>s4.st (i:=1) (by simp) trivial λw5 s5=>s5.st (i:=2) (by simp) trivial λw6 s6=>?_;have s6:St F w w6 [aa r1 [.int .i64 k,.slice none 0 0,.slice none 0 0],iu rd bs p1,aa r [.int .i64 0,.slice none 0 0,.slice none 0 0]]:=s6;refine Ar (most:=t.len) (s6.af 1) hb hc hk'.2 hl (by omega) (λe he=>by rw[kq,jk]at he;unfold ew;rw[hk];dsimp only;rw[je,he]) λd p2 w7 hdn s7=>?_;rw[kq,jk]at hdn;have yd:=bQ hdn hk'.2;refine⟨⟨by omega,by omega⟩,?_⟩;rw[jk];have NU:dd[d]? =some dd[d]:=by simp[yd.1]
 have RA:dd[d]∈dd:=List.getElem_mem yd.1;have VN:((dd.map (·.2))[d]?).getD []=dd[d].2:=by rw[jf,NU];rfl
 generalize dd[d]=x at NU RA VN;refine MS.at (g:=λx:Sl×LB=>slV x.1) (c:=.slice) (p:=x.1) (x:=x) (hd.ms.mod s7.G7 λad ha hne=>hd.no hne _ ⟨ad,ha,rfl⟩) NU rfl ?_;refine fO (Qo x.1 x.2 _ ((hd.rd x RA).at s7) (by have:=hd.len x RA;omega)) λv w8 k8=>?_;have s8:=s7.aZ k8;refine(s8.af 2).st (i:=2) (by simp) trivial λw9 s9=>?_;have s9:St F w w9 [aa r1 [.int .i64 k,.slice none 0 0,slV v],aq 1 v (x.2.map ub),iu rd bs p2,aa r [.int .i64 0,.slice none 0 0,.slice none 0 0]]:=s9;refine rY (s9.af 2) hb hc yd.2 hl (λe he=>by unfold ew;rw[hk];dsimp only;rw[je,hdn];dsimp only;rw[he]) λm p3 iF hm bH=>?_;have hm':=bQ hm yd.2;have D6:ew l (dd.map (·.2)) p=match c8 (j5 l) m p3 with
  |.error e=>.error e
  |.ok (ps,p4)=>.ok (⟨(k:Int),ps,x.2⟩,p4):=by
  unfold ew;rw[hk];dsimp only;rw[je,hdn];dsimp only;rw[hm];dsimp only;rw[VN]
  all_goals cases c8 (j5 l) m p3<;>rfl
 refine aB (λz W=>∃(i q:Nat) (u:Sl) (acc:List Int),z=(i:Int)/\i<=m/\q<=l.length/\acc.length=i/\c8 (j5 l) m p3=pre acc (c8 (j5 l) (m-i) q)/\
  St F w W [iu rd bs q,aq 1 u (acc.map iv),aa r1 [.int .i64 k,slV u,slV v],aq 1 v (x.2.map ub),aa r [.int .i64 0,.slice none 0 0,.slice none 0 0]])
  (λz _=>m-z.toNat) ⟨0,p3,⟨none,0,0⟩,[],rfl,by omega,hm'.2,rfl,(o0 _).symm,(bH.fe 1).af 1⟩ ?_
 rintro _ W ⟨i,q,u,acc,rfl,hi,q8,xz,mC,sW⟩;refine ah (λhlt=>?_) λhge=>?_
 ·simp only[jb]at hlt
  have K4:i<m:=by omega
  have xS:∀e,eu l 8193 q=.error e->ew l (dd.map (·.2)) p=.error e:=by
   intro e he;have h2:j5 l q=.error e:=by unfold j5;rw[he]
   rw[D6,mC,kB K4 h2]
  refine aL (λ_ W'=>∃(q':Nat) (u':Sl) (acc':List Int),q'<=l.length/\acc'.length=i+1/\c8 (j5 l) m p3=pre acc' (c8 (j5 l) (m-(i+1)) q')/\
   St F w W' [iu rd bs q',aq 1 u' (acc'.map iv),aa r1 [.int .i64 k,slV u',slV v],aq 1 v (x.2.map ub),aa r [.int .i64 0,.slice none 0 0,.slice none 0 0]]) ?_ ?_
  ·rw[aR]
   have cR:=sW.drew;have fin:∀(z q':Nat) W',eu l 8193 q=.ok (z,q')->St F w W' [iu rd bs q',aq 1 u (acc.map iv),aa r1 [.int .i64 k,slV u,slV v],aq 1 v (x.2.map ub),aa r [.int .i64 0,.slice none 0 0,.slice none 0 0]]->
    (nw (.cells #[.int .i64 (IntKind.wrap .i64 ((z:Int)-1))] 3) λr2=>app 3 1 8 [.int .i64 0] u ⟨some ⟨r2,0,none⟩,1,1⟩ λt28=>Eng.st (Addr.add ⟨r1,0,none⟩ 1) (.slice t28.a t28.len t28.cap) λW'=>∃(q':Nat) (u':Sl) (acc':List Int),q'<=l.length/\acc'.length=i+1/\c8 (j5 l) m p3=pre acc' (c8 (j5 l) (m-(i+1)) q')/\
   St F w W' [iu rd bs q',aq 1 u' (acc'.map iv),aa r1 [.int .i64 k,slV u',slV v],aq 1 v (x.2.map ub),aa r [.int .i64 0,.slice none 0 0,.slice none 0 0]]) W':=by
    intro z q' W' hz s';have Qy:=bQ hz q8;have XZ:j5 l q=.ok ((z:Int)-1,q'):=by unfold j5;rw[hz]
    rw[wrap_i64 ⟨by omega,by omega⟩];refine St.nw s' λr2 rK eH _ _=>?_;refine gE (eH.bE [0,2,1,3,4,5] 6) (by omega) λu2 q7 fJ=>?_;refine(fJ.af 3).st (i:=1) (by simp) trivial λK2 l6=>?_;refine⟨q',u2,acc++[(z:Int)-1],Qy.2,by simp[xz],?_,l6.bE [3,1,0,4,5] 6⟩;rw[mC,kV K4 XZ]
   refine⟨?_,?_⟩
   ·refine(cR.af 2).ld (i:=1) (s:=.slice) (p:=u) rfl ?_
    exact rY cR hb hc q8 hl xS λz q' W' hz s'=>fin z q' W' hz s'
   ·refine rY cR hb hc q8 hl xS λz q' W' hz s'=>?_
    refine(s'.af 2).ld (i:=1) (s:=.slice) (p:=u) rfl ?_;exact fin z q' W' hz s'
  ·rintro⟨⟩ W' ⟨q',u',acc',h1,h2,h3,s'⟩
   rw[ax (by omega)];exact⟨⟨i+1,q',u',acc',rfl,by omega,h1,h2,h3,s'⟩,by omega⟩
 ·simp only[ja]at hge
  rw[mA (by omega)]at mC;rw[mC]at D6;refine bY.aQ (l:=[.int .i64,.slice,.slice]) (p:=((k:Int),u,v)) (sW.af 2).box ?_;refine(sW.af 4).st (i:=0) (by simp) trivial λw3 s3=>s3.st (i:=1) (by simp) trivial λw4 s4=>s4.st (i:=2) (by simp) trivial λw5 s5=>?_;refine bY.aQ (l:=[.int .i64,.slice,.slice]) (p:=((k:Int),u,v)) s5.box ?_;refine⟨NS.mk k u acc v x.2,q,D6,q8,rfl,?_⟩;exact St.eG (xs:=[aq 1 u (acc.map iv),aq 1 v (x.2.map ub)]) (s5.bE [2,4,1] 5)
end Go.Proofs
