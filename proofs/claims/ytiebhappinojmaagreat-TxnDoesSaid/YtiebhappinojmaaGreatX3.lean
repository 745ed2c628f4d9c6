import Derived.Test.YtiebhappinojmaaGreatX1
import Derived.Test.YtiebhappinojmaaGreatX2
import Derived.Shelf.Sort.Plain
import Derived.Ground.Names2Prog
import Derived.Shelf.Slices.In.SortNone
import Derived.Test.YtiebhappinojmaaGreatProg
set_option linter.unusedVariables false
set_option linter.unusedSimpArgs false
set_option linter.unusedSectionVars false
namespace Go.Proofs
open Go.Eng
def jH(v:Rv):Bool:=cA v.1 v.2.1 v.2.2.1 v.2.2.2.1 v.2.2.2.2.length
def gB:List Rv->List Rv->List Rv->Nat->Nat->List Rv×Nat
 |[],out,_,n,_=>(out,n)
 |
  x::xs,out,wait,n,i=>
  if jH x=false then(out,n)else if x.1=1 then gB xs out (wait++[x]) n (i+1)
  else if x.2.2.2.1≠(wait.length:Int)then(out,n)else gB xs (out++wait) [] (i+1) (i+1)
def nS(xs:List Rv):List Rv×Nat:=gB xs [] [] 0 0
structure zZ(w:World)(n0:Nat)(a b:Sl)(xo xw:List Rc):Prop where
 o:dm w n0 a xo
 p:dm w n0 b xw
 pw:(xo++xw).Pairwise λx y=>j4 x.1.s y.1.s
 ow:∀x∈xw,j4 a x.1.s
 wo:∀x∈xo,j4 b x.1.s
 ab:j4 a b
theorem j4.nil(s:Sl):j4 s ⟨none,0,0⟩:=λb _ ⟨ad,h,_⟩=>by cases h
theorem zZ.nil(w:World)(n0:Nat):zZ w n0 ⟨none,0,0⟩ ⟨none,0,0⟩ [] []:=⟨dm.nil _ _,dm.nil _ _,.nil,by simp,by simp,j4.nil _⟩
theorem zZ.grow{w w':World}{n0:Nat}{a b:Sl}{xo xw:List Rc}(h:zZ w n0 a b xo xw)(hg:Grow w w'):zZ w' n0 a b xo xw:=⟨h.o.grow hg,h.p.grow hg,h.pw,h.ow,h.wo,h.ab⟩
theorem zZ.push{w0 w:World}{n0:Nat}{a b:Sl}{xo xw:List Rc}{x:Rc}{k:Sl->Pr}(h:zZ w0 n0 a b xo xw)(hn0:n0<=w0.heap.size)(hg:Grow w0 w)
 (hd:aN w w0.heap.size 1 x.1.s (x.2.map ub))(hb:xw.length<100000000000)(hk:∀r w',zZ w' n0 a r xo (xw++[x])->Mod b.blk w w'->k r w'):
 app 109 5 56 LN b ⟨some ⟨w.heap.size,0,none⟩,1,1⟩ k (w.alloc (.cells x.1.cells.toArray 109)):=by
 refine dm.push h.p hn0 hg hd hb ?_;intro r w' h1 h2 h3;have hsz:=hg.size;have hlt:∀{b},x.1.s.blk b->w0.heap.size<=b:=λh=>aN.gF hd h;refine hk r w' ⟨(h.o.grow hg).mod h2 (λc hc1 lY=>h.ab c lY hc1) (λy hy c hc1 lY=>h.wo y hy c hc1 lY),h1,?_,?_,?_,?_⟩ h2
 ·rw[<-ju,List.pairwise_append]
  refine⟨h.pw,List.pairwise_singleton _ _,λy hy c hc b' oH jF=>?_⟩;rw[jq]at hc;subst hc;have h4:=hlt jF;rcases jz.1 hy with hy|hy
  ·have h5:=aN.mq (h.o.dat y hy) oH;omega
  ·have h5:=aN.mq (h.p.dat y hy) oH;omega
 ·intro y hy c hc1 lY
  rcases jz.1 hy with hy|hy
  ·exact h.ow y hy c hc1 lY
  ·rw[jq]at hy
   subst hy;have h4:=hlt lY;have h5:=aN.mq h.o.own hc1;omega
 ·intro y hy c hc1 lY
  rcases h3 c hc1 with h4|h4
  ·exact h.wo y hy c h4 lY
  ·have h5:=aN.mq (h.o.dat y hy) lY;omega
 ·intro c hc1 lY
  rcases h3 c lY with h4|h4
  ·exact h.ab c hc1 h4
  ·have h5:=aN.mq h.o.own hc1;omega
theorem zZ.join{w:World}{n0:Nat}{a b:Sl}{xo xw:List Rc}{k:Sl->Pr}(h:zZ w n0 a b xo xw)(hn0:n0<=w.heap.size)(hb:xo.length+xw.length<=100000000000)
 (hk:∀r w',zZ w' n0 r ⟨none,0,0⟩ (xo++xw) []->Mod a.blk w w'->k r w'):app 109 5 56 LN a b k w:=by
 refine dm.more h.o hn0 h.p.own.reads h.p.len h.p.dat h.ow h.pw hb ?_;intro r w' h1 h2 h3;exact hk r w' ⟨h1,dm.nil _ _,by simpa using h1.pw,by simp,λx _=>(j4.nil _).symm,j4.nil _⟩ h2
theorem z6{w:World}{x:Rc}(h:BS w x.1.s x.2):jH (rv x)=x.1.ok:=by
 unfold jH Rw.ok rv;rw[h.len]
theorem Bs{xs:List Rc}{j:Nat}(hj:j<xs.length)(out wait:List Rv)(n:Nat):gB ((xs.drop j).map rv) out wait n j=
 if jH (rv xs[j])=false then(out,n)else if xs[j].1.k=1 then gB ((xs.drop (j+1)).map rv) out (wait++[rv xs[j]]) n (j+1)
 else if xs[j].1.m≠(wait.length:Int)then(out,n)else gB ((xs.drop (j+1)).map rv) (out++wait) [] (j+1) (j+1):=by
 rw[List.drop_eq_getElem_cons hj,List.map_cons,gB];rfl
def PB(w:World)(xs:List Rc)(a b:Sl)(n i:Int)(w':World):Prop:=
 ∃(j m:Nat),i=j/\j<=xs.length/\n=m/\Grow w w'/\∃xo xw,zZ w' w.heap.size a b xo xw/\xo.length+xw.length<=j/\gB ((xs.drop j).map rv) (xo.map rv) (xw.map rv) m j=nS (xs.map rv)
def PA(w:World)(xs:List Rc)(a:Sl)(n:Int)(w':World):Prop:=
 n=(nS (xs.map rv)).2/\(∃ys,dm w' w.heap.size a ys/\ys.map rv=(nS (xs.map rv)).1)/\Grow w w'
theorem Br{w w':World}{xs:List Rc}{a b:Sl}{m j:Nat}{xo xw:List Rc}(h:zZ w' w.heap.size a b xo xw)(hg:Grow w w')(he:gB ((xs.drop j).map rv) (xo.map rv) (xw.map rv) m j=nS (xs.map rv))
 (hs:gB ((xs.drop j).map rv) (xo.map rv) (xw.map rv) m j=(xo.map rv,m)):PA w xs a m w':=by
 rw[hs]at he;exact⟨by rw[<-he],⟨xo,h.o,by rw[<-he]⟩,hg⟩
theorem C24(s:Sl)(xs:List Rc)(w:World)(h:RL w s xs)(hl:s.len<=1000000):Calls Pq 73 #[.slice s.a s.len s.cap] w (au [.c .slice,.c aa] λr w'=>PA w xs r.1 r.2 w'):=by
 refine IU s _ _ ?_;unfold F73;have fP:=h.len;refine aB (λr w'=>PA w xs r.1 r.2 w') ?_ (λr w' h=>h);refine aC (λt w'=>PB w xs t.1 t.2.1 t.2.2.1 t.2.2.2 w') (λt _=>xs.length-t.2.2.2.toNat)
  ⟨0,0,rfl,by omega,rfl,Mod.refl _ _,[],[],zZ.nil _ _,by simp,rfl⟩ ?_
 rintro⟨a,b,_,_⟩ w1 ⟨j,m,rfl,hj,rfl,hg,xo,xw,ht,kJ,he⟩;dsimp only;refine aj (λhlt=>?_) (λhge=>?_)
 rotate_left
 ·simp only[ja]at hge
  have:j=xs.length:=by omega
  subst this;refine Br ht hg he ?_;simp[gB]
 simp only[jb]at hlt;have hjl:j<xs.length:=by omega
 have GX:=h.2 xs[j] (by simp);refine aB (λt w'=>PB w xs t.1 t.2.1 t.2.2 ((j+1:Nat):Int) w') ?_ ?_
 rotate_left
 ·rintro t w' g1
  rw[bO (by omega)];refine⟨g1,?_⟩;omega
 rw[Bs hjl]at he;refine wm (⟨h.1.grow hg,λx hx=>(h.2 x hx).grow hg⟩:RL _ s xs) hjl ?_;refine mM λr w2 g2 e2 s2 bx=>?_;simp only[ah];have rK:=Grow.trans hg g2;have wz:∀{w4 w5:World},Grow w1 w4->Mod (·=r) w4 w5->Grow w1 w5:=λh4 h5=>Mod.trans h4 h5 λc hc1 lY=>by omega
 refine bx.st (by simp) trivial λw3 k3 m3 s3=>?_;refine k3.st (by simp) trivial λw4 k4 m4 s4=>?_;refine k4.st (by simp) trivial λw5 k5 m5 s5=>?_;refine k5.st (by simp) trivial λw6 k6 m6 s6=>?_;refine k6.st (by simp) trivial λw7 k7 m7 s7=>?_;have g7:Grow w1 w7:=wz (wz (wz (wz (wz g2 m3) m4) m5) m6) m7;have Xf:iw w7 r xs[j].1.cells:=k7;refine iw.bf (l:=lR) (p:=xs[j].1.p) Xf ?_;refine af (C59 _ _ _ _ _ _) ?_;rintro c w8 ⟨rfl,g8⟩;have g18:=Grow.trans g7 g8;have Bt:=Grow.trans hg g18;have LQ:=Xf.grow g8;have hok:cA xs[j].1.p.1 xs[j].1.p.2.1 xs[j].1.p.2.2.1 xs[j].1.p.2.2.2.2 xs[j].1.p.2.2.2.1.len=xs[j].1.ok:=rfl;rw[hok];have DN:=z6 GX;refine aj (λhc=>?_) (λhc=>?_)
 ·have:xs[j].1.ok=false:=by
   cases hh:xs[j].1.ok
   ·rfl
   ·rw[hh]at hc;simp at hc
  rw[DN,jd this]at he;exact⟨by rw[<-he],⟨xo,ht.o.grow g18,by rw[<-he]⟩,Bt⟩
 have LK:xs[j].1.ok=true:=by
  cases hh:xs[j].1.ok
  ·rw[hh]at hc;simp at hc
  ·rfl
 rw[DN,jc (by simp[LK])]at he;refine LQ.ld (i:=0) (s:=aa) (p:=xs[j].1.k) rfl ?_;refine aj (λqu=>?_) (λqu=>?_)
 ·simp only[kn]at qu
  rw[jd qu]at he;refine iw.bf (l:=lR) (p:=xs[j].1.p) LQ ?_;have hb8:=GX.grow Bt;have hbd:=mL LK;refine af (C61 xs[j] _ hb8 (by omega)) ?_;rintro q w9 ⟨⟨d,rfl,hd⟩,g9⟩;rw[oJ];refine zZ.push (w0:=w8) (x:=(({xs[j].1 with s:=d}:Rw),xs[j].2)) (ht.grow g18) Bt.size g9 hd (by omega) ?_;intro r' IP Pb Ta;refine⟨j+1,m,rfl,hjl,rfl,?_,xo,_,Pb,by simp only[jh,List.length_singleton];omega,?_⟩
  ·exact Mod.trans (Grow.trans Bt g9) Ta λc hc1 lY=>absurd (aN.gF ht.p.own lY) (by omega)
  ·rw[jk,<-he]
   rfl
 ·simp only[beq_eq_false_iff_ne]at qu
  rw[jc qu]at he;refine LQ.ld (i:=4) (s:=aa) (p:=xs[j].1.m) rfl ?_;have jU:=ht.p.len;refine aj (λhm=>?_) (λhm=>?_)
  ·simp only[bne_iff_ne,ne_eq]at hm
   have hm':¬xs[j].1.m=(b.len:Int):=hm;have hm2:xs[j].1.m≠((xw.map rv).length:Int):=by rw[je,<-jU];exact hm'
   rw[jd hm2]at he;exact⟨by rw[<-he],⟨xo,ht.o.grow g18,by rw[<-he]⟩,Bt⟩
  ·simp only[bne_eq_false_iff_eq]at hm
   have hm':xs[j].1.m=(b.len:Int):=hm;have hm2:¬xs[j].1.m≠((xw.map rv).length:Int):=by rw[je,<-jU];exact λh=>h hm'
   rw[jc hm2]at he;refine zZ.join (ht.grow g18) Bt.size (by omega) ?_;intro r' IP Pb Ta;rw[bO (by omega)];refine⟨j+1,j+1,rfl,hjl,rfl,?_,_,_,Pb,by simp only[jh,List.length_nil];omega,?_⟩
   ·exact Mod.trans Bt Ta λc hc1 lY=>absurd (aN.gF ht.o.own lY) (by omega)
   ·rw[jk,<-he]
    rfl
def cH(blk:Int)(p:LB)(vs:List Rv):LB:=vs.foldl (λp v=>if v.2.1=blk then lay p v.2.2.1.toNat v.2.2.2.2 else p) p
def iS(p:LB)(vs:List Rv):Int:=if p.length≠256 then 1 else if vs.any (λv=> !jH v)then 60 else 0
theorem wB(blk:Int):∀(xs:List Rc) (p:LB),fT blk p xs=cH blk p (xs.map rv)
 |[],p=>rfl
 |
  x::xs,p=>by
  unfold fT cH;rw[List.foldl_cons,List.map_cons,List.foldl_cons];exact wB blk xs _
theorem Bx{w:World}{s:Sl}{xs:List Rc}(h:RL w s xs)(p:LB):jI p xs=iS p (xs.map rv):=by
 unfold jI iS;rw[List.any_map];have:xs.any (λx=> !x.1.ok)=xs.any ((λv=> !jH v)∘rv):=by
  rw[Bool.eq_iff_iff,List.any_eq_true,List.any_eq_true];constructor
  ·rintro⟨x,hx,h2⟩
   exact⟨x,hx,by simpa[z6 (h.2 x hx)]using h2⟩
  ·rintro⟨x,hx,h2⟩
   exact⟨x,hx,by simpa[z6 (h.2 x hx)]using h2⟩
 rw[this]
theorem oz{w:World}{s:Sl}{xs:List Rc}{j i:Nat}{c:CS}{p:dZ c}{k:dZ c->Pr}(h:RL w s xs)(hj:j<xs.length)(hi:xs[j].1.cells[i]? =some (dH c p))(hk:k p w):
 (cq ((0:Int)<=(j:Int)/\(j:Int)<(s.len:Int))<|deref s.a λa=>deref (some (a.add (Int.toNat j*5))) λa1=>deref (some (a1.add i)) λa2=>bI c a2 k) w:=by
 have hl:=h.len;obtain⟨ad,ha,hrow⟩:=h.1.get (n:=5) Rw.bw (i:=j) (r:=xs[j].1) (by simp[hj]) (by omega);refine⟨by omega,?_⟩;rw[ha];simp only[ah,jl];exact fe (hrow.get hi) hk
theorem C56(s:Sl)(xs:List Rc)(w:World)(h:RL w s xs)(hl:s.len<=1000000):Calls Pq 65 #[.slice s.a s.len s.cap] w (au [.c .slice] λr w'=>aN w' w.heap.size 5 r (rcs xs)/\Grow w w'):=by
 refine IV s _ _ ?_;unfold F65;have hlen:(rcs xs).length=xs.length*5:=by rw[jT,cX Rw.bw];simp
 have fP:=h.len;refine⟨trivial,aj (λhn=>?_) (λhn=>?_)⟩
 ·have ha:s.a=none:=by simpa using hn
  have h0:=h.1.bY Rw.bw (by decide) ha;have hl0:xs=[]:=jy (by omega);subst hl0;exact⟨aN.nil _ _ _,Mod.refl _ _⟩
 ·have ha:s.a≠none:=λh=>by simp[h]at hn
  have hrow:=h.1.row;rw[<-jT]at hrow;refine vO (n0:=w.heap.size) (vs:=[]) (new:=rcs xs) ⟨by simp,by simp,.inr ⟨w.heap.size,0,[],rfl,Nat.le_refl _,by simp,λo=>by simp,Row.nil _ _,rfl⟩⟩ (by simp) (λ_=>by omega) (λhx=>absurd hx ha)
   (hrow.grow ((Mod.refl _ w).alloc _)) (ni _) rfl (by decide) (by simp;omega) ?_
  intro r w' h1 h2 h3 h4 h5;refine⟨by simpa using h1,Mod.trans ((Mod.refl _ w).alloc _) h5 ?_⟩;rintro b hb ⟨ad,had,rfl⟩;simp only[jg]at had;subst had;exact absurd hb (Nat.lt_irrefl _)
theorem S4{w:World}{n0:Nat}{s:Sl}{l:LB}{k:Pr}{i:Int}{b:UInt8}(h:aN w n0 1 s (l.map ub))(h0:0<=i)(hi:i.toNat<l.length)
 (hk:∀w',aN w' n0 1 s ((l.set i.toNat b).map ub)->Mod s.blk w w'->w'.heap.size=w.heap.size->k w'):
 (cq ((0:Int)<=i/\i<(s.len:Int))<|deref s.a λa=>deref (some (a.add (Int.toNat i*1))) λa1=>st a1 (.int .u8 (b.toNat:Int)) k) w:=by
 have hl:=h.bs.len;refine⟨⟨h0,by omega⟩,?_⟩;obtain⟨ad,h1,h2⟩:=aN.put (k:=k) (v:=.int .u8 (b.toNat:Int)) h (by simpa using hi) trivial (λw' g1 g2 g3=>hk w' (by rw[List.map_set];exact g1) g2 g3);rw[h1];simp only[ah,Nat.mul_one];exact h2
theorem IB{o n:LB}{lo hi:Nat}:(yD o n lo hi=none/\∀j,lo<=j->j<hi->o[j]? =n[j]?)\/
 ∃f,yD o n lo hi=some f/\lo<=f/\f<hi/\o[f]?≠n[f]?∧∀j,lo<=j->j<f->o[j]? =n[j]? :=by
 cases h:yD o n lo hi with
 |
  none=>
  refine .inl ⟨rfl,λj h1 h2=>?_⟩;unfold yD at h;rw[List.find?_eq_none]at h;simpa using h j (by rw[List.mem_range'_1];omega)
 |
  some f=>
  refine .inr ⟨f,rfl,?_⟩;unfold yD at h;rw[List.find?_range'_eq_some]at h;obtain⟨h1,h2,h3⟩:=h;rw[List.mem_range'_1]at h2;refine⟨by omega,by omega,by simpa using h1,λj h4 h5=>?_⟩;simpa using h3 j h4 h5
theorem IC{o n:LB}{lo hi:Nat}:(ID o n lo hi=none/\∀j,lo<=j->j<hi->o[j]? =n[j]?)\/
 ∃l,ID o n lo hi=some l/\lo<=l/\l<hi/\o[l]?≠n[l]?∧∀j,l<j->j<hi->o[j]? =n[j]? :=by
 unfold ID;cases h:(List.range' 0 (hi-lo)).find? λt=>o[hi-1-t]? !=n[hi-1-t]?with
 |
  none=>
  refine .inl ⟨rfl,λj h1 h2=>?_⟩;rw[List.find?_eq_none]at h;have:=h (hi-1-j) (by rw[List.mem_range'_1];omega);rw[show hi-1-(hi-1-j)=j by omega]at this;simpa using this
 |
  some t=>
  refine .inr ⟨hi-1-t,rfl,?_⟩;rw[List.find?_range'_eq_some]at h;obtain⟨h1,h2,h3⟩:=h;rw[List.mem_range'_1]at h2;refine⟨by omega,by omega,by simpa using h1,λj h4 h5=>?_⟩;have:=h3 (hi-1-j) (by omega) (by omega);rw[show hi-1-(hi-1-j)=j by omega]at this;simpa using this
theorem wk(blk:Int)(o n:LB)(k:Nat):(fB blk o n k=[]/\∀j,44*k<=j->j<ng k->o[j]? =n[j]?)\/
 ∃f l:Nat,fB blk o n k=[(1,blk,(f:Int),0,(n.take (l+1)).drop f)]/\44*k<=f/\f<=l/\l<ng k/\o[f]?≠n[f]?∧(∀j,44*k<=j->j<f->o[j]? =n[j]?)/\∀j,l<j->j<ng k->o[j]? =n[j]? :=by
 unfold fB;rcases IB (o:=o) (n:=n) (lo:=44*k) (hi:=ng k)with⟨h1,h2⟩|⟨f,h1,h2,h3,h4,h5⟩
 ·rw[h1]
  exact .inl ⟨rfl,h2⟩
 ·rcases IC (o:=o) (n:=n) (lo:=44*k) (hi:=ng k)with⟨g1,g2⟩|⟨l,g1,g2,g3,g4,g5⟩
  ·exact absurd (g2 f h2 h3) h4
  ·rw[h1,g1]
   refine .inr ⟨f,l,rfl,h2,?_,g3,h4,h5,g5⟩;rcases Nat.lt_or_ge l f with h'|h'
   ·exact absurd (g5 f h' h3) h4
   ·exact h'
theorem iN{p d:LB}{o i:Nat}(h:o+d.length<=p.length):(lay p o d)[i]? =if o<=i/\i<o+d.length then d[i-o]?else p[i]? :=by
 unfold lay;rw[ju,List.getElem?_append];have hl:(p.take o).length=o:=by simp;omega
 rw[hl];split
 ·rename_i h1
  rw[jc (by omega),List.getElem?_take,jd h1]
 ·rw[List.getElem?_append]
  split
  ·rw[jd (by omega)]
  ·rw[jc (by omega),List.getElem?_drop]
   congr 1;omega
theorem nh(blk:Int)(p:LB)(a b:List Rv):cH blk p (a++b)=cH blk (cH blk p a) b:=by simp[cH,List.foldl_append]
theorem uV(blk:Int){o n t:LB}(ho:o.length=256)(hn:n.length=256)(ht:t.length=256)(h:∀i:Nat,t[i]? =o[i]?∨t[i]? =n[i]?):∀j,j<=6->
 (cH blk t ((List.range j).flatMap (fB blk o n))).length=256/\∀i:Nat,(cH blk t ((List.range j).flatMap (fB blk o n)))[i]? =if i<44*j then n[i]?else t[i]?
 |
  0,_=>by
  refine⟨by simpa[cH]using ht,λi=>?_⟩;rw[jc (by omega)];simp[cH]
 |
  j+1,hj=>by
  obtain⟨h1,h2⟩:=uV blk ho hn ht h j (by omega);rw[ir,nh];generalize cH blk t ((List.range j).flatMap (fB blk o n))=p at h1 h2;have hhi:ng j<=256/\44*j<ng j/\ng j<=44*(j+1)/\(ng j=256\/ng j=44*(j+1)):=by unfold ng;omega
  have hout:∀i,256<=i->n[i]? =none/\t[i]? =none:=λi hi=>⟨List.getElem?_eq_none (by omega),List.getElem?_eq_none (by omega)⟩;have hsame:∀i,o[i]? =n[i]?→t[i]? =n[i]? :=λi hi=>by
   rcases h i with h'|h'
   ·rw[h',hi]
   ·exact h'
  rcases wk blk o n j with⟨g1,g2⟩|⟨f,l,g1,g2,g3,g4,g5,g6,g7⟩
  ·rw[g1]
   refine⟨h1,λi=>?_⟩;show p[i]? =_;rw[h2 i];by_cases ha:i<44*j
   ·rw[jd ha,jd (by omega)]
   ·rw[jc ha]
    by_cases hb:i<44*(j+1)
    ·rw[jd hb]
     by_cases hc:i<ng j
     ·exact hsame i (g2 i (by omega) hc)
     ·rw[(hout i (by omega)).1,(hout i (by omega)).2]
    ·rw[jc hb]
  ·rw[g1]
   have hd:((n.take (l+1)).drop f).length=l+1-f:=by simp;omega
   have hr:cH blk p [(1,blk,(f:Int),0,(n.take (l+1)).drop f)]=lay p f ((n.take (l+1)).drop f):=by simp[cH]
   rw[hr];refine⟨by rw[eB];exact h1;omega,λi=>?_⟩;rw[iN (by omega),hd];by_cases hin:f<=i/\i<f+(l+1-f)
   ·rw[jd hin,jd (by omega),List.getElem?_drop,List.getElem?_take,jd (by omega)]
    congr 1;omega
   ·rw[jc hin,h2 i]
    by_cases ha:i<44*j
    ·rw[jd ha,jd (by omega)]
    ·rw[jc ha]
     by_cases hb:i<44*(j+1)
     ·rw[jd hb]
      by_cases hc:i<ng j
      ·refine hsame i ?_
       by_cases A8:i<f
       ·exact g6 i (by omega) A8
       ·exact g7 i (by omega) hc
      ·rw[(hout i (by omega)).1,(hout i (by omega)).2]
     ·rw[jc hb]
theorem Ls(blk:Int){o n t:LB}(ho:o.length=256)(hn:n.length=256)(ht:t.length=256)(h:∀i:Nat,t[i]? =o[i]?∨t[i]? =n[i]?):cH blk t (qe blk o n)=n:=by
 obtain⟨h1,h2⟩:=uV blk ho hn ht h 6 (by omega);refine List.ext_getElem? λi=>?_;unfold qe;rw[h2 i];by_cases hi:i<264
 ·rw[jd hi]
 ·rw[jc hi,List.getElem?_eq_none (by omega),List.getElem?_eq_none (by omega)]
theorem Dr{blk:Int}{o n:LB}(hn:n.length=256)(hb:0<=blk/\blk<2048):∀v∈qe blk o n,jH v=true/\v.1=1/\v.2.1=blk:=by
 intro v hv;simp only[qe,List.mem_flatMap,List.mem_range]at hv;obtain⟨k,hk,hv⟩:=hv;have hhi:ng k<=256/\ng k<=44*k+44:=by unfold ng;omega
 rcases wk blk o n k with⟨g1,g2⟩|⟨f,l,g1,g2,g3,g4,g5,g6,g7⟩
 ·rw[g1]at hv;cases hv
 ·rw[g1,jq]at hv
  subst hv;refine⟨?_,rfl,rfl⟩;have hd:((n.take (l+1)).drop f).length=l+1-f:=by simp;omega
  have:jH (1,blk,(f:Int),0,(n.take (l+1)).drop f)=(kr blk f 0 (l+1-f)||false):=by
   unfold jH cA;simp only[hd];rfl
  rw[this,Bool.or_false];unfold kr;rw[jb];omega
theorem dw(xs:List Rc):(rcs xs).length=xs.length*5:=by rw[jT,cX Rw.bw];simp
theorem RL.take{w:World}{s:Sl}{xs:List Rc}(h:RL w s xs){e:Nat}(he:e<=s.len)(c:Nat):RL w ⟨s.a,e,c⟩ (xs.take e):=by
 have hl:=h.len;refine⟨⟨by simp;omega,?_⟩,λx hx=>h.2 x (List.mem_of_mem_take hx)⟩;have hrow:=h.1.row;rw[<-jT]at hrow⊢;have:rcs (xs.take e)=(rcs xs).take (e*5):=by
  have h1:=congrArg (λl=>(rcs l).take (e*5)) (List.take_append_drop e xs);rw[dY,List.take_left' (by rw[dw,jt];congr 1;omega)]at h1;exact h1
 rw[this];show cE w s.a _;cases ha:s.a with
 |
  none=>
  rw[ha]at hrow;have h0:rcs xs=[]:=hrow;rw[h0];simp[cE]
 |
  some ad=>
  rw[ha]at hrow;exact az.2 ((az.1 hrow).take _)
theorem S0{w:World}{s:Sl}{xs:List Rc}{e:Int}{k:Sl->Pr}(h:RL w s xs)(hle:s.len<=s.cap)(h0:0<=e)(h1:e<=(s.len:Int))(hk:RL w ⟨s.a,e.toNat,s.cap⟩ (xs.take e.toNat)->k ⟨s.a,e.toNat,s.cap⟩ w):slc 5 s none (some e) none k w:=by
 refine qt h0 (by omega) ?_;have:(if s.cap=0 then s.a else s.a.map (·.add 0))=s.a:=by rw[iO,ite_self]
 rw[this];exact hk (h.take (by omega) _)
theorem Lt{p d:LB}{o k:Nat}(h:o+d.length<=p.length)(hk:k<d.length):(lay p o (d.take k)).set (o+k) d[k]=lay p o (d.take (k+1)):=by
 refine List.ext_getElem? λi=>?_;have h1:(d.take k).length=k:=by simp;omega
 have h2:(d.take (k+1)).length=k+1:=by simp;omega
 have hl:(lay p o (d.take k)).length=p.length:=eB (by omega);rw[List.getElem?_set,iN (by omega),iN (by omega),h1,h2,hl];by_cases ha:o+k=i
 ·subst ha
  rw[jd rfl,jd (by omega),jd (by omega),List.getElem?_take,jd (by omega)];rw[show o+k-o=k by omega];simp
 ·rw[jc ha]
  by_cases hb:o<=i/\i<o+k
  ·rw[jd hb,jd (by omega),List.getElem?_take,jd (by omega),List.getElem?_take,jd (by omega)]
  ·rw[jc hb,jc (by omega)]
theorem C17(pg s:Sl)(blk:Int)(l:LB)(xs:List Rc)(w:World)(hp:BS w pg l)(hs:RL w s xs)(hl:s.len<=1000000):
 Calls Pq 149 #[.slice pg.a pg.len pg.cap,.int .i64 blk,.slice s.a s.len s.cap] w (au [.c .slice,.c aa] λr w'=>
  r.2=jI l xs/\aN w' w.heap.size 1 r.1 ((if jI l xs=0 then fT blk l xs else[]).map ub)/\Grow w w'):=by
 refine Ds pg blk s _ _ ?_;unfold Wz;refine aj (λh1=>?_) (λh1=>?_)
 ·have hne:jI l xs=1:=by
   unfold jI;rw[jd];have:=hp.len;simp at h1;omega
  rw[hne];exact⟨rfl,aN.nil _ _ _,Mod.refl _ _⟩
 have iP:l.length=256:=by
  have:=hp.len;simp at h1;omega
 have fP:=hs.len;refine aC (λi w'=>∃j:Nat,i=j/\j<=xs.length/\Grow w w'/\∀k (h:k<xs.length),k<j->xs[k].1.ok=true) (λi _=>xs.length-i.toNat)
  ⟨0,rfl,by omega,Mod.refl _ _,λk _ hk=>by omega⟩ ?_
 rintro _ w1 ⟨j,rfl,hj,hg1,hall⟩;refine aj (λhlt=>?_) (λhge=>?_)
 ·simp only[jb]at hlt
  have hjl:j<xs.length:=by omega
  refine wm (⟨hs.1.grow hg1,λx hx=>(hs.2 x hx).grow hg1⟩:RL _ s xs) hjl ?_;refine af (C23 _ _ _ _ _ _) ?_;rintro c w2 ⟨rfl,g2⟩;have rK:=Grow.trans hg1 g2;have hok:cA xs[j].1.p.1 xs[j].1.p.2.1 xs[j].1.p.2.2.1 xs[j].1.p.2.2.2.2 xs[j].1.p.2.2.2.1.len=xs[j].1.ok:=rfl;rw[hok];cases hh:xs[j].1.ok with
  |
   false=>
   refine cj rfl ?_;have hne:jI l xs=60:=by
    unfold jI;rw[jc (by simp[iP]),jd];rw[List.any_eq_true];exact⟨xs[j],by simp,by simp[hh]⟩
   rw[hne];exact⟨rfl,aN.nil _ _ _,rK⟩
  |
   true=>
   refine aK rfl ?_;rw[bO (by omega)];refine⟨⟨j+1,rfl,hjl,rK,λk qu hk2=>?_⟩,by omega⟩;rcases Nat.lt_or_ge k j with h'|h'
   ·exact hall k qu h'
   ·have:k=j:=by omega
    subst this;exact hh
 simp only[ja]at hge;have Lu:∀x∈xs,x.1.ok=true/\x.1.s.len=x.2.length:=by
  intro x hx;refine⟨?_,(hs.2 x hx).len⟩;obtain⟨k,hk,rfl⟩:=List.getElem_of_mem hx;exact hall k hk (by omega)
 have hne:jI l xs=0:=by
  unfold jI;rw[jc (by simp[iP]),jc];rw[List.any_eq_true];rintro⟨x,hx,hb⟩;rw[(Lu x hx).1]at hb;cases hb
 rw[hne,jd rfl];refine jL (hp.grow hg1) (by rw[hp.len,iP];decide) ?_;intro t w2 ht rK;have S1:=Grow.trans hg1 rK;refine aC (λi w'=>∃j:Nat,i=j/\j<=xs.length/\Grow w w'/\aN w' w.heap.size 1 t ((fT blk l (xs.take j)).map ub)) (λi _=>xs.length-i.toNat)
  ⟨0,rfl,by omega,S1,by simpa[fT]using ht.weaken hg1.size⟩ ?_
 rintro _ w3 ⟨j,rfl,hj,zW,ho⟩;refine aj (λhlt=>?_) (λhge=>?_)
 rotate_left
 ·simp only[ja]at hge
  refine⟨rfl,?_,zW⟩;rwa[List.take_of_length_le (by omega)]at ho
 simp only[jb]at hlt;have hjl:j<xs.length:=by omega
 have zX:=Lu xs[j] (by simp);have hb:=mL zX.1;have hF:fT blk l (xs.take (j+1))=if xs[j].1.b=blk then lay (fT blk l (xs.take j)) xs[j].1.o.toNat xs[j].2 else fT blk l (xs.take j):=by
  rw[lf hjl,wq]
 have Bn:(fT blk l (xs.take j)).length=256:=tP iP λx hx=>Lu x (List.mem_of_mem_take hx);generalize fT blk l (xs.take j)=p at hF Bn ho;refine aC (λi w'=>∃k:Nat,i=k/\k<=xs[j].2.length/\Grow w w'/\(k=0\/xs[j].1.b=blk)/\aN w' w.heap.size 1 t ((lay p xs[j].1.o.toNat (xs[j].2.take k)).map ub)) (λi _=>xs[j].2.length-i.toNat)
  ⟨0,rfl,by omega,zW,.inl rfl,by simpa[rL]using ho⟩ ?_
 rintro _ w4 ⟨k,rfl,hk,IE,hkb,Pa⟩;have WA:RL w4 s xs:=⟨hs.1.grow IE,λx hx=>(hs.2 x hx).grow IE⟩;refine aB (λb w'=>b=decide (k<xs[j].2.length/\xs[j].1.b=blk)/\w4=w') ?_ ?_
 ·refine oz (j:=j) (i:=3) (c:=.slice) (p:=xs[j].1.s) WA hjl rfl ?_
  refine aj (λh=>?_) (λh=>⟨?_,rfl⟩)
  ·simp only[jb]at h
   refine oz (j:=j) (i:=1) (c:=aa) (p:=xs[j].1.b) WA hjl rfl ?_;refine⟨?_,rfl⟩;rw[Bool.eq_iff_iff,kn,jb];constructor
   ·intro h2;exact⟨by omega,h2⟩
   ·rintro⟨_,h2⟩;exact h2
  ·simp only[ja]at h
   symm
   rw[ja];rintro⟨h2,_⟩;omega
 rintro _ _ ⟨rfl,rfl⟩;refine aj (λhin=>?_) (λhout=>?_)
 ·simp only[jb]at hin
  have hgd:=Mod.drew IE;have S2:RL w4.drew s xs:=⟨hs.1.grow hgd,λx hx=>(hs.2 x hx).grow hgd⟩;have hod:=Pa.grow (Mod.drew (Mod.refl _ w4));refine oz (j:=j) (i:=2) (c:=aa) (p:=xs[j].1.o) S2 hjl rfl ?_;refine oz (j:=j) (i:=3) (c:=.slice) (p:=xs[j].1.s) S2 hjl rfl ?_;refine wu (b:=xs[j].2[k]) (S2.2 xs[j] (by simp)) (by omega) (by simp) ?_;have hw:IntKind.wrap .i64 (xs[j].1.o+(k:Int))=((xs[j].1.o.toNat+k:Nat):Int):=by rw[wrap_i64 (by omega)];omega
  have hw':(show Int from IntKind.wrap .i64 (xs[j].1.o+(k:Int)))=((xs[j].1.o.toNat+k:Nat):Int):=hw;have S3:(lay p xs[j].1.o.toNat (xs[j].2.take k)).length=256:=by rw[eB];exact Bn;simp;omega
  refine S4 hod (by rw[hw];omega) (by rw[hw,S3];omega) λw5 h5 m5 _=>?_;rw[bO (by omega)];refine⟨⟨k+1,rfl,by omega,Mod.trans hgd m5 λb hb jF=>absurd (aN.gF hod jF) (by omega),.inr hin.2,?_⟩,by omega⟩;rw[hw,jl,Lt (by omega) hin.1]at h5;exact h5
 ·simp only[ja]at hout
  rw[bO (by omega)];refine⟨⟨j+1,rfl,hjl,IE,?_⟩,by omega⟩;rw[hF];by_cases Dt:xs[j].1.b=blk
  ·rw[jd Dt]
   have:k=xs[j].2.length:=by
    have:¬k<xs[j].2.length:=λh=>hout ⟨h,Dt⟩;omega
   rw[this,List.take_length]at Pa;exact Pa
  ·rw[jc Dt]
   have:k=0:=hkb.resolve_right Dt;subst this;simpa[rL]using Pa
theorem qv:∀(xs out wait:List Rv) (n i:Nat),(gB xs out wait n i).1.length<=out.length+wait.length+xs.length
 |
  [],out,wait,n,i=>by
  show out.length<=_;omega
 |
  x::xs,out,wait,n,i=>by
  unfold gB;simp only[List.length_cons];split
  ·dsimp only;omega
  ·split
   ·have:=qv xs out (wait++[x]) n (i+1)
    simp only[jh,List.length_singleton]at this;omega
   ·split
    ·dsimp only;omega
    ·have:=qv xs (out++wait) [] (i+1) (i+1)
     simp only[jh,List.length_nil]at this;omega
theorem oC(xs:List Rv):(nS xs).1.length<=xs.length:=by
 have:=qv xs [] [] 0 0;simpa[nS]using this
open Go.Shelf
def Tryz.Cs:Go.Shelf.Ren:=⟨λ|189=>162|125=>202|257=>201|128=>226|129=>227|294=>217|295=>218|296=>219|297=>220|298=>221|299=>222|216=>223|300=>224|301=>225|328=>235|329=>236|330=>237|331=>238|332=>239|215=>240|343=>242|n=>n,λ|28=>46|3=>3|46=>231|0=>0|51=>222|53=>220|4=>4|183=>245|182=>244|131=>250|5=>5|9=>9|218=>262|222=>236|228=>268|229=>167|n=>n,λ|n=>n⟩
theorem Tryz.HJ:Go.Proofs.Lays.n189 Tryz.prog Tryz.Cs:={
 mixed:=by kernel_rfl
 f125:=Tryz.func202.trans (congrArg some (by kernel_rfl))
 f128:=Tryz.func226.trans (congrArg some (by kernel_rfl))
 f129:=Tryz.func227.trans (congrArg some (by kernel_rfl))
 f189:=Tryz.func162.trans (congrArg some (by kernel_rfl))
 f215:=Tryz.func240.trans (congrArg some (by kernel_rfl))
 f216:=Tryz.func223.trans (congrArg some (by kernel_rfl))
 f257:=Tryz.func201.trans (congrArg some (by kernel_rfl))
 f294:=Tryz.func217.trans (congrArg some (by kernel_rfl))
 f295:=Tryz.func218.trans (congrArg some (by kernel_rfl))
 f296:=Tryz.func219.trans (congrArg some (by kernel_rfl))
 f297:=Tryz.func220.trans (congrArg some (by kernel_rfl))
 f298:=Tryz.func221.trans (congrArg some (by kernel_rfl))
 f299:=Tryz.func222.trans (congrArg some (by kernel_rfl))
 f300:=Tryz.func224.trans (congrArg some (by kernel_rfl))
 f301:=Tryz.func225.trans (congrArg some (by kernel_rfl))
 f328:=Tryz.func235.trans (congrArg some (by kernel_rfl))
 f329:=Tryz.func236.trans (congrArg some (by kernel_rfl))
 f330:=Tryz.func237.trans (congrArg some (by kernel_rfl))
 f331:=Tryz.func238.trans (congrArg some (by kernel_rfl))
 f332:=Tryz.func239.trans (congrArg some (by kernel_rfl))
 f343:=Tryz.func242.trans (congrArg some (by kernel_rfl))
 t0:=Tryz.underlying0
 a0:=Tryz.isAgg0
 z0:=Tryz.sizeOf0
 v0:=Tryz.zeroValue0
 t3:=Tryz.underlying3
 a3:=Tryz.isAgg3
 z3:=Tryz.sizeOf3
 v3:=Tryz.zeroValue3
 t4:=Tryz.underlying4
 a4:=Tryz.isAgg4
 z4:=Tryz.sizeOf4
 v4:=Tryz.zeroValue4
 t5:=Tryz.underlying5
 a5:=Tryz.isAgg5
 z5:=Tryz.sizeOf5
 v5:=Tryz.zeroValue5
 t9:=Tryz.underlying9
 a9:=Tryz.isAgg9
 z9:=Tryz.sizeOf9
 v9:=Tryz.zeroValue9
 t28:=Tryz.underlying46
 a28:=Tryz.isAgg46
 z28:=Tryz.sizeOf46
 v28:=Tryz.zeroValue46
 t46:=Tryz.underlying231
 a46:=Tryz.isAgg231
 z46:=Tryz.sizeOf231
 v46:=Tryz.zeroValue231
 t51:=Tryz.underlying222
 a51:=Tryz.isAgg222
 z51:=Tryz.sizeOf222
 v51:=Tryz.zeroValue222
 t53:=Tryz.underlying220
 a53:=Tryz.isAgg220
 z53:=Tryz.sizeOf220
 v53:=Tryz.zeroValue220
 t131:=Tryz.underlying250
 a131:=Tryz.isAgg250
 z131:=Tryz.sizeOf250
 v131:=Tryz.zeroValue250
 t182:=Tryz.underlying244
 a182:=Tryz.isAgg244
 z182:=Tryz.sizeOf244
 v182:=Tryz.zeroValue244
 t183:=Tryz.underlying245
 a183:=Tryz.isAgg245
 z183:=Tryz.sizeOf245
 v183:=Tryz.zeroValue245
 t218:=Tryz.underlying262
 a218:=Tryz.isAgg262
 z218:=Tryz.sizeOf262
 v218:=Tryz.zeroValue262
 t222:=Tryz.underlying236
 a222:=Tryz.isAgg236
 z222:=Tryz.sizeOf236
 v222:=Tryz.zeroValue236
 t228:=Tryz.underlying268
 a228:=Tryz.isAgg268
 z228:=Tryz.sizeOf268
 v228:=Tryz.zeroValue268
 t229:=Tryz.underlying167
 a229:=Tryz.isAgg167
 z229:=Tryz.sizeOf167
 v229:=Tryz.zeroValue167}
open Go.Sort Go.RowKit in
theorem Tryz.slices_Sort_int(blk off cap:Nat)(zs:List Int)(w:World)(hH:Holds (Value.int .i64) w blk off zs.toArray)(hblk:blk<w.heap.size)(hsz:zs.length<4611686018427387904):
 Calls Tryz.prog 162 #[.slice (some ⟨blk,off,none⟩) zs.length cap] w λe w'=>
  e=.returned (.tuple #[])/\∃n os,w'=grow (putRow (Value.int .i64) (Sort.ahead w n) blk off (zs.mergeSort λx y=>decide (x<=y)).toArray) os:=Any.slices_Sort_int Tryz.HJ blk off cap zs w hH hblk hsz
open Go.RowKit Go.Sort in
theorem Tryz.slices_Sort_int_none(p:Option Addr)(cap:Nat)(w:World):
 Calls Tryz.prog 162 #[.slice p 0 cap] w λe w'=>e=.returned (.tuple #[])/\w'=w:=Any.slices_Sort_int_none Tryz.HJ p cap w
def ints(l:List Int):LV:=l.map (Value.int .i64)
@[simp]theorem oD(l:List Int):(ints l).length=l.length:=by simp[ints]
theorem j3(a b:List Int):ints (a++b)=ints a++ints b:=by simp[ints]
structure IS(w:World)(s:Sl)(l:List Int):Prop where
 len:s.len=l.length
 row:cE w s.a (ints l)
theorem IS.grow{w w':World}{s:Sl}{l:List Int}(h:IS w s l)(hm:Grow w w'):IS w' s l:=⟨h.len,h.row.grow hm⟩
theorem IS.mod{S:Nat->Prop}{w w':World}{s:Sl}{l:List Int}(h:IS w s l)(hm:Mod S w w')(hs:∀ad,s.a=some ad->¬S ad.block):IS w' s l:=⟨h.len,h.row.mod hm λad ha _=>hs ad ha⟩
theorem gr{w:World}{n0:Nat}{s:Sl}{l:List Int}(h:aN w n0 1 s (ints l)):IS w s l:=⟨by have:=h.len;simp at this;exact this.symm,h.reads⟩
theorem IS.bY{w:World}{s:Sl}{l:List Int}(h:IS w s l)(ha:s.a=none):s.len=0:=by
 have h2:=h.row;rw[ha]at h2;have:ints l=[]:=h2;have h3:=congrArg List.length this;simp at h3;rw[h.len,h3];rfl
theorem tQ{w:World}{s:Sl}{l:List Int}{i:Int}{b:Int}{k:Int->Pr}(h:IS w s l)(h0:0<=i)(hb:l[i.toNat]? =some b)(hk:k b w):
 (cq ((0:Int)<=i/\i<(s.len:Int))<|deref s.a λa=>deref (some (a.add (Int.toNat i*1))) λa1=>bI (.int .i64) a1 k) w:=by
 have hl:=h.len;have hlt:i.toNat<l.length:=by
  rcases Nat.lt_or_ge i.toNat l.length with h'|h'
  ·exact h'
  ·rw[List.getElem?_eq_none h']at hb;cases hb
 refine⟨⟨h0,by omega⟩,?_⟩;have hr:=h.row;cases ha:s.a with
 |
  none=>
  have:=h.bY ha;omega
 |
  some ad=>
  rw[ha]at hr;simp only[fZ,Nat.mul_one];exact fe (s:=aa) (p:=b) ((az.1 hr).get (by simp[ints,hb])) hk
def jJ(l:List Int):List Int:=l.mergeSort λx y=>decide (x<=y)
theorem C91(s:Sl)(zs:List Int)(n0:Nat)(w:World)(h:aN w n0 1 s (ints zs))(hb:s.len<=1000000000):Calls Pq 162 #[.slice s.a s.len s.cap] w
 (au [] λ_ w'=>aN w' n0 1 s (ints (jJ zs))/\Mod s.blk w w'):=by
 have hl:=(gr h).len;by_cases h0:s.len=0
 ·have hz:zs=[]:=jy (by omega)
  subst hz;have:=Tryz.slices_Sort_int_none s.a s.cap w;rw[h0];refine this.mono ?_;rintro e w' ⟨rfl,rfl⟩;refine⟨(),rfl,?_,Mod.refl _ _⟩;simpa[jJ]using h
 ·rcases h.row with⟨_,h2,_⟩|⟨b,off,spare,h1,h2,h3,h4,h5,h6⟩
  ·exact absurd h2 h0
  have hH:Sort.Holds (Value.int .i64) w b off zs.toArray:=by
   intro j hj;have hj':j<zs.length:=by simpa using hj
   have:=h5 j (.int .i64 zs[j]) (by rw[List.getElem?_append_left (by simpa using hj')];simp[ints,hj']);rw[iQ]at this;refine⟨?_,h4 _ _ this⟩;rw[this];simp[hj']
  have hc:=Tryz.slices_Sort_int b off s.cap zs w hH h3 (by omega);rw[h1,hl];refine hc.mono ?_;rintro e w' ⟨rfl,n,os,rfl⟩;have hsz:(jJ zs).length=zs.length:=List.length_mergeSort zs;have hH':=Sort.holds_grow (Value.int .i64) _ os b off (jJ zs).toArray (by simpa using h3) (Sort.holds_putRow (Value.int .i64) (Sort.ahead w n) b off zs.toArray (jJ zs).toArray hH (by simpa using hsz));refine⟨(),rfl,⟨by simp[hsz,hl],h.le,.inr ⟨b,off,spare,h1,h2,by simp;omega,?_,?_,?_⟩⟩,?_⟩
  ·intro o v hv
   rw[Sort.frozen?_grow _ _ _ (by simpa using h3),Sort.frozen?_putRow];by_cases hin:off<=o/\o<off+zs.length
   ·have:=(hH (o-off) (by simp;omega)).2
    rwa[show off+(o-off)=o by omega]at this
   ·rw[Sort.cell?_grow _ _ _ (by simpa using h3),Sort.cell?_putRow_other _ _ _ _ _ _ (by simp[hsz];omega)]at hv
    exact h4 o v hv
  ·intro j v hj
   rw[iQ];by_cases hlt:j<zs.length
   ·have h7:=(hH' j (by simpa[hsz]using hlt)).1
    rw[List.getElem?_append_left (by simpa[hsz]using hlt)]at hj;refine h7.trans ?_;rw[<-hj];have vG:j<(jJ zs).length:=by omega
    simp[ints,vG]
   ·rw[Sort.cell?_grow _ _ _ (by simpa using h3),Sort.cell?_putRow_other _ _ _ _ _ _ (.inr (.inr (by simp[hsz];omega)))]
    have h8:=h5 j v (by
     rw[List.getElem?_append_right (by simp[hsz];omega)]at hj;rw[List.getElem?_append_right (by simp;omega)];simpa[hsz]using hj)
    rwa[iQ]at h8
  ·rw[jh]at h6⊢
   simpa[hsz]using h6
  ·refine⟨by simp,λc hc hS=>?_,rfl,rfl,rfl⟩
   rw[Sort.heap_grow_old _ _ (by simpa using hc)];show(w.heap.modify b _)[c]? =_;rw[Array.getElem?_modify,jc];intro hbc;exact hS ⟨_,h1,hbc⟩
structure Bf where
 key:Int
 ptr:Nat
 s:Sl
 b:LB
 bU:Bool
 asked:Int
structure Bm where
 key:Int
 b:LB
 bU:Bool
 asked:Int
structure CM where
 room:Int
 asked:Int
 l:List Bm
def Bf.m(x:Bf):Bm:=⟨x.key,x.b,x.bU,x.asked⟩
def gK(x:Bf):HA:=bt [ai x.ptr [slV x.s,.bool x.bU,.int .i64 x.asked],aA 1 x.s (x.b.map ub)]
def uo(x:Bf):Int×Value:=(x.key,P0 x.ptr)
def M4(c dp:Nat)(C:CM)(m:Nat)(bs:List Bf):List HA:=
 [ai c [P0 dp,.int .i64 C.room,.map (some m),.int .i64 C.asked],ep cz m (bs.map uo),bt (bs.map gK)]
def bB(c dp:Nat)(C:CM):HA:=LR λi:Nat×List Bf=>pA (C.l=i.2.map Bf.m)::M4 c dp C i.1 i.2
structure CM.ok(C:CM)(n:Nat):Prop where
 iI:(C.l.map (·.key)).Nodup
 len:∀x∈C.l,x.b.length=256
 key:∀x∈C.l,0<=x.key/\x.key<n
 room:2<=C.room/\C.room<=256
 le:(C.l.length:Int)<=C.room
 Pe:∀x∈C.l,x.asked<=C.asked
 JK:(C.l.map (·.asked)).Nodup
 small:0<=C.asked
section
variable{F0:Nat->Prop}{w0 w:World}{L:List HA}{c dp:Nat}{C:CM}
theorem _root_.Go.Eng.St.xK(h:St F0 w0 w (bB c dp C::L)):∃(m:Nat) (bs:List Bf),C.l=bs.map Bf.m/\St F0 w0 w (ai c [P0 dp,.int .i64 C.room,.map (some m),.int .i64 C.asked]::ep cz m (bs.map uo)::bt (bs.map gK)::L):=by
 obtain⟨i,h⟩:=h.ex;obtain⟨h1,h⟩:=h.p;exact⟨i.1,i.2,h1,h⟩
theorem _root_.Go.Eng.St.mE{m:Nat}{bs:List Bf}(h:St F0 w0 w (ai c [P0 dp,.int .i64 C.room,.map (some m),.int .i64 C.asked]::ep cz m (bs.map uo)::bt (bs.map gK)::L))(hl:C.l=bs.map Bf.m):St F0 w0 w (bB c dp C::L):=
 St.wH (f:=λi:Nat×List Bf=>pA (C.l=i.2.map Bf.m)::M4 c dp C i.1 i.2) (m,bs) (h.LW hl)
theorem _root_.Go.Eng.St.buf{bs:List Bf}{j:Nat}{x:Bf}(h:St F0 w0 w (bt (bs.map gK)::L))(hj:bs[j]? =some x):iw w x.ptr [slV x.s,.bool x.bU,.int .i64 x.asked]/\aN w 0 1 x.s (x.b.map ub):=by
 have h1:=(h.pick (i:=j) (A:=gK x) (by simp[hj])).M5;exact⟨h1.box,(h1.ak 1).sl⟩
end
theorem pU(k:Int):∀(bs:List Bf),(zj k (bs.map uo)=none/\∀x∈bs,x.key≠k)\/∃(j:Nat) (x:Bf),bs[j]? =some x/\x.key=k/\zj k (bs.map uo)=some (P0 x.ptr)
 |[]=>.inl ⟨rfl,by simp⟩
 |
  x::bs=>by
  by_cases h:k=x.key
  ·exact .inr ⟨0,x,rfl,h.symm,by simp[zj,uo,h]⟩
  ·rcases pU k bs with⟨h1,h2⟩|⟨j,y,h1,h2,h3⟩
   ·refine .inl ⟨by simp[zj,uo,h];exact h1,λy hy=>?_⟩
    rcases List.mem_cons.1 hy with rfl|hy
    ·exact λh'=>h h'.symm
    ·exact h2 y hy
   ·exact .inr ⟨j+1,y,by simpa using h1,h2,by simp[zj,uo,h];exact h3⟩
theorem C72(c dp:Nat)(vs:LV)(w:World)(h:iw w c (P0 dp::vs)):Calls Pq 170 #[P0 c] w (au [.c .bool] λr w'=>r=false/\w=w'):=by
 refine ER _ _ _ ?_;unfold Yo;refine⟨trivial,aK rfl ?_⟩;simp only[ah];exact h.ld (i:=0) (s:=.ptr) (p:=some ⟨dp,0,none⟩) rfl ⟨trivial,rfl,rfl⟩
theorem YT{c dp:Nat}{C:CM}{w:World}{F:Nat->Prop}(h:Has [bB c dp C] w F):∃m,iw w c [P0 dp,.int .i64 C.room,.map (some m),.int .i64 C.asked]:=by
 obtain⟨m,bs,_,st⟩:=(St.init h).xK;exact⟨m,st.box⟩
theorem C68(c dp:Nat)(C:CM)(D:DM)(i:Int)(w:World)(F G:Nat->Prop)(h:Has [bB c dp C] w F)(hd:Has [ag dp D] w G):
 Calls Pq 164 #[P0 c,.int .i64 i] w (au [.c aa] λr w'=>r=(if 0<=i/\i<D.blocks.length then 0 else 30)/\w=w'):=by
 refine ES _ _ _ _ ?_;unfold Yq;obtain⟨m,hb⟩:=YT h;refine af (C72 c dp _ w hb) ?_;rintro _ _ ⟨rfl,rfl⟩;refine aK rfl (aB (λb w'=>b=decide (i<0\/i>=D.blocks.length)/\w=w') ?_ ?_)
 ·refine aj (λh0=>⟨?_,rfl⟩) (λh0=>?_)
  ·simp only[jb]at h0
   symm;rw[jb];exact .inl h0
  ·simp only[ja]at h0
   simp only[ah];refine hb.ld (i:=0) (s:=.ptr) (p:=some ⟨dp,0,none⟩) rfl ?_;refine af (V5 dp D w G hd) ?_;rintro _ _ ⟨rfl,rfl⟩;refine⟨?_,rfl⟩;rw[decide_eq_decide];omega
 ·rintro _ _ ⟨rfl,rfl⟩
  by_cases hc:i<0\/i>=D.blocks.length
  ·refine cj (by simp[hc]) ⟨?_,rfl⟩
   rw[jc (by omega)]
  ·refine aK (by simp[hc]) ⟨?_,rfl⟩
   rw[jd (by omega)]
theorem C32(dp:Nat)(D:DM)(room:Int)(w:World)(F:Nat->Prop)(h:Has [ag dp D] w F)(hok:D.ok):
 Calls Pq 78 #[P0 dp,.int .i64 room] w (au [.c .ptr,.c aa] λr w'=>
  if 2<=room/\room<=256 then r.2=0/\∃c,r.1=some ⟨c,0,none⟩/\St aI w w' [bB c dp ⟨room,0,[]⟩]else r=(none,1)/\w=w'):=by
 refine JD _ _ _ _ ?_;unfold F78;refine af (V5 dp D w F h) ?_;rintro _ _ ⟨rfl,rfl⟩;have hp:=hok.pos;refine aK (by rw[beq_eq_false_iff_ne];omega) (aB (λb w'=>b=decide (room<2\/room>256)/\w=w') ?_ ?_)
 ·refine aj (λh0=>⟨?_,rfl⟩) (λh0=>⟨?_,rfl⟩)
  ·simp only[jb]at h0
   symm;rw[jb];exact .inl h0
  ·simp only[ja]at h0
   rw[decide_eq_decide];omega
 ·rintro _ _ ⟨rfl,rfl⟩
  by_cases hc:room<2\/room>256
  ·refine cj (by simp[hc]) ?_
   dsimp only;rw[jc (by omega)];exact⟨rfl,rfl⟩
  ·refine aK (by simp[hc]) ?_
   refine St.M6 (T:=cz) (St.bC w) λm w1 s1=>?_;refine St.nw s1 λc w2 s2 _ _=>?_;dsimp only;rw[jd (by omega)];refine⟨rfl,c,rfl,?_⟩;exact St.mE (C:=⟨room,0,[]⟩) (bs:=[]) (s2.iT.aG [1,2,0] 3) rfl
theorem Hu{α:Type}:∀{l1 l2:List α},l1.Nodup->(∀x∈l1,x∈l2)->l1.length<=l2.length
 |[],_,_,_=>by simp
 |
  x::l1,l2,h,hs=>by
  rw[List.nodup_cons]at h;obtain⟨a,b,rfl⟩:=List.append_of_mem (hs x (by simp));have:=Hu (l1:=l1) (l2:=a++b) h.2 λy hy=>by
   have h2:=hs y (by simp[hy]);rcases jz.1 h2 with h3|h3
   ·exact List.mem_append_left _ h3
   ·rcases List.mem_cons.1 h3 with h4|h4
    ·exact absurd (h4▸hy) h.1
    ·exact List.mem_append_right _ h4
  simp only[jh,List.length_cons]at this⊢;omega
theorem oX{n:Nat}{l:List Nat}(h1:l.Nodup)(h2:∀j∈l,j<n):l.length<=n:=by
 have:=Hu h1 (l2:=List.range n) λj hj=>List.mem_range.2 (h2 j hj);simpa using this
def afw(C:CM)(r:Int):Prop:=(r= -1/\∀x∈C.l,x.bU=true)\/∃x∈C.l,r=x.key/\x.bU=false/\∀y∈C.l,y.bU=false->x.asked<=y.asked
theorem C93(c dp:Nat)(C:CM)(n:Nat)(w:World)(F:Nat->Prop)(h:Has [bB c dp C] w F)(hok:C.ok n):
 Calls Pq 203 #[P0 c] w (au [.c aa] λr w'=>afw C r/\St F w w' [bB c dp C]):=by
 refine ET _ _ _ ?_;unfold Ys;obtain⟨m,bs,hl,st⟩:=(St.init h).xK;simp only[ah];refine st.ld (i:=2) (s:=.map) (p:=some m) rfl ?_;refine St.jN (T:=cz) (st.ak 1) λit w1 s1=>?_;have uW:(bs.map uo).length=bs.length:=by simp
 have M7:∀x∈bs,0<=x.key:=λx hx=>(hok.key x.m (by rw[hl];exact ki.2 ⟨x,hx,rfl⟩)).1;refine aC (λr W=>∃done,St F w W [lF cz m it (bs.map uo) done,ai c [P0 dp,.int .i64 C.room,.map (some m),.int .i64 C.asked],bt (bs.map gK)]/\
  ((r= -1/\∀(j:Nat) x,j∈done->bs[j]? =some x->x.bU=true)\/∃(k:Nat) (x:Bf),k∈done/\bs[k]? =some x/\r=x.key/\x.bU=false/\∀(j:Nat) y,j∈done->bs[j]? =some y->y.bU=false->x.asked<=y.asked))
  (λ_ W=>bs.length-lG it W) ⟨[],s1,.inl ⟨rfl,by simp⟩⟩ ?_
 rintro r W ⟨done,s,hr⟩;have hds:=s.lG;have hdl:done.length<=bs.length:=by
  obtain⟨_,_,_,_,_,h3,h4,_⟩:=s.oY;rw[uW]at h3;have:=oX h4 h3;exact this
 refine St.nY s (λhp W' s'=>?_) (λi en W' hi hnd s'=>?_)
 ·refine⟨?_,St.mE (C:=C) ((s'.M8).aG [1,0,2] 3) hl⟩
  have hall:∀j,j<bs.length->j∈done:=λj hj=>hp.symm.subset (by rw[uW];exact List.mem_range.2 hj);rcases hr with⟨h1,h2⟩|⟨k,x,_,h2,h3,h4,h5⟩
  ·refine .inl ⟨h1,λy hy=>?_⟩
   rw[hl]at hy;obtain⟨x,hx,rfl⟩:=ki.1 hy;obtain⟨j,hj,rfl⟩:=List.getElem_of_mem hx;exact h2 j _ (hall j hj) (by simp)
  ·refine .inr ⟨x.m,by rw[hl];exact ki.2 ⟨x,ji h2,rfl⟩,h3,h4,λy hy hd=>?_⟩
   rw[hl]at hy;obtain⟨z,hz,rfl⟩:=ki.1 hy;obtain⟨j,hj,rfl⟩:=List.getElem_of_mem hz;exact h5 j _ (hall j hj) (by simp) hd
 ·rw[uW]at hi
  refine s'.kF λen2 kvx hkv hk hv=>?_;have Pf:bs[i]? =some bs[i]:=by simp
  rw[jf,Pf,Option.map_some,jg]at hkv;subst hkv;refine⟨bs[i].key,hk,some ⟨bs[i].ptr,0,none⟩,hv,?_⟩;have TN:=s'.lG;simp only[jh,List.length_singleton]at TN;have afx:done.length+1<=bs.length:=by
   obtain⟨_,_,_,_,_,h3,h4,_⟩:=s'.oY;rw[uW]at h3;have:=oX h4 h3;simpa using this
  refine aB (λb W2=>St F w W2 [lF cz m it (bs.map uo) (done++[i]),ai c [P0 dp,.int .i64 C.room,.map (some m),.int .i64 C.asked],bt (bs.map gK)]/\
   (b=true->bs[i].bU=false/\(r= -1\/∀(k:Nat) x,bs[k]? =some x->r=x.key->bs[i].asked<=x.asked))/\(b=false->bs[i].bU=true\/(∀(k:Nat) x,bs[k]? =some x->r=x.key->x.asked<=bs[i].asked)/\r≠-1)) ?_ ?_
  ·rw[aL]
   simp only[ah];have sd:=s'.drew;have Qh:=(sd.ak 2).buf Pf;refine Qh.1.ld (i:=1) (s:=.bool) (p:=bs[i].bU) rfl ?_;refine aj (λtS=>?_) (λhdt=>⟨sd,⟨λh=>(by cases h),λ_=>.inl (by simpa using hdt)⟩⟩);have tS:bs[i].bU=false:=by simpa using tS
   refine aj (λhneg=>?_) (λhpos=>?_)
   ·simp only[jb]at hneg
    refine⟨sd,λ_=>⟨tS,.inl ?_⟩,λh=>(by cases h)⟩;rcases hr with⟨h1,_⟩|⟨k,x,_,h2,h3,_⟩
    ·exact h1
    ·have:=M7 x (ji h2);omega
   ·simp only[ja]at hpos
    rcases hr with⟨h1,_⟩|⟨k,x,_,h2,h3,h4,h5⟩
    ·rw[h1]at hpos;exact absurd (by decide) hpos
    refine Qh.1.ld (i:=2) (s:=aa) (p:=bs[i].asked) rfl ?_;refine(sd.ak 1).ld (i:=2) (s:=.map) (p:=some m) rfl ?_;have M9:∀(k':Nat) x',bs[k']? =some x'->r=x'.key->x'=x:=by
     intro k' x' hk' hrk;have hn:=hok.iI;rw[hl,List.map_map]at hn;have e1:(bs.map ((λx=>x.key)∘Bf.m))[k']? =some r:=by rw[jf,hk',hrk];rfl
     have e2:(bs.map ((λx=>x.key)∘Bf.m))[k]? =some r:=by rw[jf,h2,h3];rfl
     have:=(List.getElem?_inj (aE e1).2 hn).1 (e1.trans e2.symm);subst this;rw[h2]at hk';exact(Option.some.inj hk').symm
    refine St.gP (T:=cz) (sd.M8) (k:=r) (λv hv=>?_) (λhv=>?_)
    ·rcases pU r bs with⟨g1,_⟩|⟨k',x',g1,g2,g3⟩
     ·rw[g1]at hv;cases hv
     ·rw[g3,jg]at hv
      have hx':=M9 k' x' g1 g2.symm;refine⟨some ⟨x'.ptr,0,none⟩,hv.symm,?_⟩;simp only[ah];refine((sd.ak 2).buf g1).1.ld (i:=2) (s:=aa) (p:=x'.asked) rfl ?_;refine⟨sd,λhb=>⟨tS,.inr λk2 x2 hk2 RW=>?_⟩,λhb=>.inr ⟨λk2 x2 hk2 RW=>?_,?_⟩⟩
      ·rw[M9 k2 x2 hk2 RW,<-hx']
       simp only[jb]at hb;omega
      ·rw[M9 k2 x2 hk2 RW,<-hx']
       simp only[ja]at hb;omega
      ·have:=M7 x (ji h2);omega
    ·rcases pU r bs with⟨_,g1⟩|⟨k',x',g1,g2,g3⟩
     ·exact absurd h3.symm (g1 x (ji h2))
     ·rw[g3]at hv;cases hv
  ·rintro b W2 ⟨s2,oH,jF⟩
   have afy:=s2.lG;simp only[jh,List.length_singleton]at afy;have TO:∀(j:Nat) y,j∈done++[i]->bs[j]? =some y->j∈done\/y=bs[i]:=by
    intro j y hj hy;rcases jz.1 hj with h|h
    ·exact .inl h
    ·rw[jq]at h;subst h;rw[Pf]at hy;exact .inr (Option.some.inj hy).symm
   refine aj (λhb=>?_) (λhb=>?_)
   ·obtain⟨g1,g2⟩:=oH hb
    refine⟨⟨done++[i],s2,.inr ⟨i,bs[i],by simp,Pf,rfl,g1,λj y hj hy Wd=>?_⟩⟩,by omega⟩;rcases TO j y hj hy with h|h
    ·rcases hr with⟨_,h2⟩|⟨k,x,_,h2,h3,h4,h5⟩
     ·have:=h2 j y h hy;rw[this]at Wd;cases Wd
     ·rcases g2 with g2|g2
      ·have:=M7 x (ji h2);omega
      ·have:=g2 k x h2 h3
       have:=h5 j y h hy Wd;omega
    ·rw[h];exact Int.le_refl _
   ·refine⟨⟨done++[i],s2,?_⟩,by omega⟩
    rcases hr with⟨h1,h2⟩|⟨k,x,h0,h2,h3,h4,h5⟩
    ·refine .inl ⟨h1,λj y hj hy=>?_⟩
     rcases TO j y hj hy with h|h
     ·exact h2 j y h hy
     ·rcases jF hb with g|⟨_,g⟩
      ·rw[h];exact g
      ·exact absurd h1 g
    ·refine .inr ⟨k,x,by simp[h0],h2,h3,h4,λj y hj hy Wd=>?_⟩
     rcases TO j y hj hy with h|h
     ·exact h5 j y h hy Wd
     ·rcases jF hb with g|⟨g,_⟩
      ·rw[<-h,Wd]at g;cases g
      ·rw[h];exact g k x h2 h3
def CM.tick(C:CM):CM:={C with asked:=C.asked+1}
def qL(C:CM)(D:DM)(i:Int):Bm:=⟨i,bu D i,false,C.asked+1⟩
inductive eW(C:CM)(D:DM)(i:Int):Int->CM->Nat->Prop
 |hit (k:Nat) (x:Bm) (h1:C.l[k]? =some x) (h2:x.key=i):eW C D i 0 {C.tick with l:=C.l.set k {x with asked:=C.asked+1}} k
 |full (no:∀x∈C.l,x.key≠i) (hf:C.room<=(C.l.length:Int)) (hd:∀x∈C.l,x.bU=true):eW C D i 6 C.tick 0
 |err (no:∀x∈C.l,x.key≠i) (he:aM D i≠0) (hc:C.room<=(C.l.length:Int)->∃x∈C.l,x.bU=false):eW C D i (aM D i) C.tick 0
 |more (no:∀x∈C.l,x.key≠i) (hp:aM D i=0) (hf:¬C.room<=(C.l.length:Int)):eW C D i 0 {C.tick with l:=C.l++[qL C D i]} C.l.length
 |
  swap (no:∀x∈C.l,x.key≠i) (hp:aM D i=0) (hf:C.room<=(C.l.length:Int)) (k:Nat) (y:Bm) (h1:C.l[k]? =some y) (h2:y.bU=false) (h3:∀z∈C.l,z.bU=false->y.asked<=z.asked):
  eW C D i 0 {C.tick with l:=C.l.eraseIdx k++[qL C D i]} (C.l.length-1)
theorem CM.AK{C:CM}{n:Nat}(h:C.ok n):C.tick.ok n:=
 ⟨h.iI,h.len,h.key,h.room,h.le,λx hx=>by have:=h.Pe x hx;show x.asked<=C.asked+1;omega,h.JK,by have:=h.small;show 0<=C.asked+1;omega⟩
theorem key_inj{C:CM}{n:Nat}(h:C.ok n){j k:Nat}{x y:Bm}(hx:C.l[j]? =some x)(hy:C.l[k]? =some y)(hk:x.key=y.key):j=k:=by
 have e1:(C.l.map (·.key))[j]? =some x.key:=by rw[jf,hx];rfl
 have e2:(C.l.map (·.key))[k]? =some x.key:=by rw[jf,hy,hk];rfl
 exact(List.getElem?_inj (aE e1).2 h.iI).1 (e1.trans e2.symm)
theorem C69(c dp:Nat)(C:CM)(D:DM)(i:Int)(n:Nat)(w:World)(F:Nat->Prop)(h:Has [bB c dp C,ag dp D] w F)(hok:C.ok n)(hD:D.ok)(jU:D.wait.length<=1000000000)(ha:C.asked<=1000000000000000):
 Calls Pq 165 #[P0 c,.int .i64 i] w (au [.c .ptr,.c aa] λr w'=>∃C' j,eW C D i r.2 C' j/\∃(m:Nat) (bs:List Bf),C'.l=bs.map Bf.m/\(r.2=0->∃x:Bf,bs[j]? =some x/\r.1=some ⟨x.ptr,0,none⟩)/\
  St F w w' [ai c [P0 dp,.int .i64 C'.room,.map (some m),.int .i64 C'.asked],ep cz m (bs.map uo),bt (bs.map gK),ag dp D]):=by
 refine EU _ _ _ _ ?_;unfold Yu;obtain⟨m,bs,hl,st⟩:=(St.init h).xK;have hsm:=hok.small;simp only[ah];refine st.ld (i:=3) (s:=aa) (p:=C.asked) rfl ?_;rw[show IntKind.wrap .i64 (C.asked+1)=C.asked+1 from wrap_i64 (by omega)];refine st.st (i:=3) (by simp) trivial λw1 s1=>?_;replace s1:St F w w1 [ai c [P0 dp,.int .i64 C.tick.room,.map (some m),.int .i64 C.tick.asked],ep cz m (bs.map uo),bt (bs.map gK),ag dp D]:=s1;refine s1.ld (i:=2) (s:=.map) (p:=some m) rfl ?_;refine St.gP (T:=cz) (s1.ak 1) (k:=i) (λv hv=>?_) (λhv=>?_)
 ·
  rcases pU i bs with⟨h1,_⟩|⟨j,x,h1,h2,h3⟩
  ·rw[h1]at hv;cases hv
  rw[h3,jg]at hv;refine⟨some ⟨x.ptr,0,none⟩,hv.symm,trivial,cj rfl ?_⟩;refine s1.ld (i:=3) (s:=aa) (p:=C.tick.asked) rfl ?_;simp only[ah];have s2:=((s1.ak 2).pick (i:=j) (A:=gK x) (by simp[h1])).M5;refine s2.st (i:=2) (by simp) trivial λw2 s3=>?_;have hjl:j<(bs.map gK).length:=(aE (show(bs.map gK)[j]? =some (gK x) by simp[h1])).2;have s4:=(St.n6 (xs:=[_,_]) s3).nk hjl;refine⟨{C.tick with l:=C.l.set j {x.m with asked:=C.asked+1}},j,.hit j x.m (by rw[hl];simp[h1]) h2,m,bs.set j {x with asked:=C.asked+1},by rw[hl,List.map_set];rfl,λ_=>⟨{x with asked:=C.asked+1},?_,rfl⟩,?_⟩
  ·rw[List.getElem?_set_self (by simpa using hjl)]
  ·have e1:(bs.set j {x with asked:=C.asked+1}).map uo=bs.map uo:=by
    rw[List.map_set];refine List.ext_getElem? λk=>?_;rw[List.getElem?_set];split
    ·rename_i hjk
     subst hjk;rw[jf,h1];simp[uo,(aE h1).2]
    ·rfl
   rw[e1,List.map_set];exact s4.aG [1,2,0,3] 4
 have hno:∀x∈C.l,x.key≠i:=by
  rcases pU i bs with⟨_,h1⟩|⟨j,x,h1,h2,h3⟩
  ·intro y hy
   rw[hl]at hy;obtain⟨x,hx,rfl⟩:=ki.1 hy;exact h1 x hx
  ·rw[h3]at hv;cases hv
 refine⟨none,rfl,trivial,aK rfl ?_⟩;have s2:=s1.drew;rw[aL];refine s2.ld (i:=2) (s:=.map) (p:=some m) rfl ?_;refine St.oN (T:=cz) (s2.ak 1) ?_;refine s2.ld (i:=1) (s:=aa) (p:=C.room) rfl ?_;have hlen:((bs.map uo).length:Int)=(C.l.length:Int):=by rw[hl];simp
 rw[hlen];refine aB (λs W=>St F w W [bB c dp C.tick,ag dp D]/\(C.room<=(C.l.length:Int)->∃(k:Nat) (y:Bm),C.l[k]? =some y/\s=y.key/\y.bU=false/\∀z∈C.l,z.bU=false->y.asked<=z.asked)) ?_ ?_
 ·have s3:=s2.mE (C:=C.tick) hl
  refine aj (λhf=>?_) (λhf=>⟨s3,λh=>?_⟩)
  ·simp only[ge_iff_le,jb]at hf
   obtain⟨G,H,_,g1,_,_,_,gc⟩:=s3.fu;refine af (C93 c dp C.tick n _ G g1 (CM.AK hok)) ?_;rintro r w3 ⟨hr,s4⟩;have s5:=gc w3 _ s4;refine aj (λhneg=>?_) (λhpos=>?_)
   ·simp only[jb]at hneg
    obtain⟨m',bs',hl',s6⟩:=St.xK s5;refine⟨C.tick,0,.full hno hf ?_,m',bs',hl',λh=>(by cases h),s6⟩;rcases hr with⟨_,h2⟩|⟨x,hx,h2,_⟩
    ·exact h2
    ·have:=(hok.key x hx).1;omega
   ·simp only[ja]at hpos
    refine⟨s5,λ_=>?_⟩;rcases hr with⟨h1,_⟩|⟨x,hx,h2,h3,h4⟩
    ·rw[h1]at hpos;exact absurd (by decide) hpos
    ·obtain⟨k,hk⟩:=List.getElem?_of_mem hx
     exact⟨k,x,hk,h2,h3,h4⟩
  ·simp only[ge_iff_le,ja]at hf
   exact absurd h hf
 rintro s W ⟨sW,hs⟩;obtain⟨m1,RX,C9,s3⟩:=St.xK sW;refine s3.ld (i:=0) (s:=.ptr) (p:=some ⟨dp,0,none⟩) rfl ?_;obtain⟨G,H,_,g1,_,_,_,_⟩:=(s3.ak 3).fu;refine af (V7 dp D i W G g1 hD jU) ?_;rintro⟨t,e⟩ w4 ⟨rfl,PE⟩;have s4:=s3.bP PE;dsimp only at s4⊢;refine aj (λhne=>?_) (λheq=>?_)
 ·have hne:aM D i≠0:=by simpa using hne
  refine⟨C.tick,0,.err hno hne λhf=>?_,m1,RX,C9,λh=>absurd h hne,s4.drop⟩;obtain⟨k,y,h1,_,h3,_⟩:=hs hf;exact⟨y,ji h1,h3⟩
 have Bz:aM D i=0:=by simpa using heq
 rw[jd Bz]at s4;have hmem:∀x∈RX,x.key≠i:=λx hx=>hno x.m (by show x.m∈C.tick.l;rw[C9];exact ki.2 ⟨x,hx,rfl⟩);refine aB (λ_ W2=>∃Na:List Bf,(∀x∈Na,x.key≠i)/\(C.room<=(C.l.length:Int)->∃(k:Nat) (y:Bm),C.l[k]? =some y/\y.bU=false/\(∀z∈C.l,z.bU=false->y.asked<=z.asked)/\Na.map Bf.m=C.l.eraseIdx k)/\
  (¬C.room<=(C.l.length:Int)->Na.map Bf.m=C.l)/\
  St F w W2 [ai c [P0 dp,.int .i64 C.tick.room,.map (some m1),.int .i64 C.tick.asked],ep cz m1 (Na.map uo),bt (Na.map gK),aA 1 t ((bu D i).map ub),ag dp D]) ?_ ?_
 ·refine aj (λhf=>?_) (λhf=>?_)
  ·simp only[ge_iff_le,jb]at hf
   obtain⟨k,y,h1,rfl,h3,h4⟩:=hs hf;refine(s4.ak 1).ld (i:=2) (s:=.map) (p:=some m1) rfl ?_;have hkb:∃x:Bf,RX[k]? =some x/\x.m=y:=by
    have h5:(RX.map Bf.m)[k]? =some y:=by rw[<-C9];exact h1
    rw[jf]at h5;cases hb:RX[k]?with
    |none=>rw[hb]at h5;cases h5
    |some x=>rw[hb]at h5;exact⟨x,rfl,Option.some.inj h5⟩
   obtain⟨x,hx,rfl⟩:=hkb;refine St.oW (T:=cz) (k:=x.m.key) (s4.ak 2) (λk' v W2 hk' _ s5=>?_) (λhnk=>?_)
   ·have hkk:k'=k:=by
     rw[jf]at hk';cases hb:RX[k']?with
     |none=>rw[hb]at hk';cases hk'
     |
      some x'=>
      rw[hb]at hk';simp only[Option.map_some,jg,uo,Prod.mk.injEq]at hk';refine key_inj (CM.AK hok) (x:=x'.m) (y:=x.m) ?_ ?_ hk'.1
      ·rw[C9,jf,hb];rfl
      ·rw[C9,jf,hx];rfl
    subst hkk;refine⟨RX.eraseIdx k',λz hz=>hmem z (List.mem_of_mem_eraseIdx hz),λ_=>⟨k',x.m,h1,h3,h4,?_⟩,λh=>absurd hf h,?_⟩
    ·rw[c6,<-C9];rfl
    ·rw[c6,c6]
     have s6:=(s5.ak 3).pick (i:=k') (A:=gK x) (by simp[hx]);exact s6.aG [4,2,1,3,5] 6
   ·exfalso
    refine hnk ?_;rw[List.map_map];exact ki.2 ⟨x,ji hx,rfl⟩
  ·simp only[ge_iff_le,ja]at hf
   exact⟨RX,hmem,λh=>absurd h hf,λ_=>C9.symm,s4.aG [1,2,3,0,4] 5⟩
 rintro⟨⟩ W2 ⟨Na,hn2,hf1,WV,s5⟩;refine s5.ld (i:=3) (s:=aa) (p:=C.tick.asked) rfl ?_;refine St.nw s5 λr W3 s6 _ _=>?_;refine(s6.ak 1).ld (i:=2) (s:=.map) (p:=some m1) rfl ?_;refine St.mo (T:=cz) (k:=i) (s6.ak 2) (λk' u W4 hk' _ _=>?_) (λ_ W4 s7=>?_)
 ·exfalso
  rw[jf]at hk';cases hb:Na[k']?with
  |none=>rw[hb]at hk';cases hk'
  |
   some x'=>
   rw[hb]at hk';simp only[Option.map_some,jg,uo,Prod.mk.injEq]at hk';exact hn2 x' (ji hb) hk'.1
 have s8:=(St.n6 (xs:=[_,_]) (s7.aG [1,4,3,2,0,5] 6)).push;obtain⟨nb,uW⟩:∃nb:Bf,nb=⟨i,r,t,bu D i,false,C.tick.asked⟩:=⟨_,rfl⟩;have hl9:(Na++[nb]).map Bf.m=Na.map Bf.m++[qL C D i]:=by rw[jk,uW];rfl
 by_cases hf:C.room<=(C.l.length:Int)
 ·obtain⟨k,y,h1,h2,h3,h4⟩:=hf1 hf
  refine⟨{C.tick with l:=C.l.eraseIdx k++[qL C D i]},C.l.length-1,.swap hno Bz hf k y h1 h2 h3,m1,Na++[nb],?_,λ_=>⟨nb,?_,by rw[uW]⟩,?_⟩
  ·rw[hl9,h4]
  ·have h5:=congrArg List.length h4
   rw[je,List.length_eraseIdx_of_lt (aE h1).2]at h5;rw[List.getElem?_append_right (by omega),h5,Nat.sub_self];rfl
  ·rw[jk,jk,uW]
   exact s8.aG [1,2,0,3] 4
 ·have h4:=WV hf
  refine⟨{C.tick with l:=C.l++[qL C D i]},C.l.length,.more hno Bz hf,m1,Na++[nb],?_,λ_=>⟨nb,?_,by rw[uW]⟩,?_⟩
  ·rw[hl9,h4]
  ·have h5:=congrArg List.length h4
   rw[je]at h5;rw[List.getElem?_append_right (by omega),h5,Nat.sub_self];rfl
  ·rw[jk,jk,uW]
   exact s8.aG [1,2,0,3] 4
theorem _root_.Go.Eng.St.TP{F0:Nat->Prop}{w0 w:World}{L:List HA}{t src:Sl}{vs l:LB}{o:Int}{k:Pr}(h:St F0 w0 w (aA 1 t (vs.map ub)::L))(hs:BS w src l)(h0:0<=o)(h1:o+l.length<=vs.length)
 (hk:∀w',St F0 w0 w' (aA 1 t ((lay vs o.toNat l).map ub)::L)->k w'):(slc 1 t (some o) none none λs'=>y3 1 s' src k) w:=by
 have hl:=aT h.sl;rw[je]at hl;have fP:=hs.len;have hle:=h.sl.le;refine tT h0 (by omega) ?_;refine zY h.sl (o:=o.toNat) (by omega) ?_ rfl hs.row (λ_=>by simp[fP]) hs.bY (by dsimp only;omega) fc ?_
 ·dsimp only
  by_cases hc:t.cap=o.toNat
  ·exact .inr (by omega)
  ·rw[jc hc];exact .inl rfl
 ·intro w' g1 g2 g3
  refine hk w' (h.Rt g2 ?_ λ_ h=>.inl h);have e:(vs.map ub).take (o.toNat*1)++l.map ub++(vs.map ub).drop (o.toNat*1+(l.map ub).length)=(lay vs o.toNat l).map ub:=by
   unfold lay;simp only[Nat.mul_one,jk,List.map_take,List.map_drop,je]
  rw[<-e];exact g1
theorem dB{D:DM}(hD:D.ok){i:Int}(h0:0<=i)(h1:i<D.blocks.length):(bu D i).length=256:=by
 unfold bu;cases hf:D.wait.reverse.find? (·.1==i)with
 |
  none=>
  simp only[Option.map_none,Option.getD_none];have hi:i.toNat<D.blocks.length:=by omega
  rw[jo hi];exact hD.len _ (List.getElem_mem hi)
 |
  some x=>
  have:=List.mem_of_find?_eq_some hf;exact(hD.kM x (List.mem_reverse.1 this)).2.2
theorem xL{D:DM}{i:Int}(h:aM D i=0):D.off=false/\0<=i/\i<D.blocks.length:=by
 unfold aM at h;split at h
 ·cases h
 ·split at h
  ·cases h
  ·rename_i h1 h2
   exact⟨by simpa using h1,by omega⟩
theorem dn{α:Type}{l:List α}{k:Nat}{a b:α}(h:b∈l.set k a):b∈l\/b=a:=List.mem_or_eq_of_mem_set h
theorem i4{α β:Type}(f:α->β){l:List α}{k:Nat}{a x:α}(hx:l[k]? =some x)(hf:f a=f x):(l.set k a).map f=l.map f:=by
 rw[List.map_set,hf];refine List.ext_getElem? λj=>?_;rw[List.getElem?_set];split
 ·rename_i h;subst h
  rw[jf,hx];simp[(aE hx).2]
 ·rfl
theorem oZ{α:Type}{l:List α}(h:l.Nodup)(k:Nat):(l.eraseIdx k).Nodup:=h.sublist (List.eraseIdx_sublist _ _)
theorem nD{α:Type}{l:List α}{a:α}(h:l.Nodup)(ha:a∉l):(l++[a]).Nodup:=by
 rw[List.nodup_append];refine⟨h,by simp,λx hx y hy=>?_⟩;rw[jq]at hy;subst hy;exact λe=>ha (e▸hx)
theorem zk{α:Type}{a:α}:∀{l:List α},l.Nodup->a∉l->∀k,(l.set k a).Nodup
 |[],h,_,_=>h
 |
  x::l,h,ha,0=>by
  rw[List.nodup_cons]at h;exact List.nodup_cons.2 ⟨λhm=>ha (by simp[hm]),h.2⟩
 |
  x::l,h,ha,k+1=>by
  rw[List.nodup_cons]at h;refine List.nodup_cons.2 ⟨λhm=>?_,zk h.2 (λhm=>ha (by simp[hm])) k⟩;rcases List.mem_or_eq_of_mem_set hm with h1|h1
  ·exact h.1 h1
  ·exact ha (by simp[h1])
theorem eW.asked{C C':CM}{D:DM}{i e:Int}{j:Nat}(h:eW C D i e C' j):C'.asked=C.asked+1/\C'.room=C.room:=by
 cases h<;>exact⟨rfl,rfl⟩
theorem eW.ok{C C':CM}{D:DM}{i e:Int}{j:Nat}(h:eW C D i e C' j)(hok:C.ok D.blocks.length)(hD:D.ok):C'.ok D.blocks.length:=by
 have ht:=CM.AK hok;cases h with
 |
  hit _ x h1 h2=>
  have hmem:=ji h1;refine⟨?_,?_,?_,hok.room,?_,?_,?_,ht.small⟩
  ·show((C.l.set j _).map (·.key)).Nodup
   rw[i4 (·.key) (a:={x with asked:=C.asked+1}) h1 rfl];exact hok.iI
  ·intro y hy
   rcases dn hy with h|rfl
   ·exact hok.len y h
   ·exact hok.len x hmem
  ·intro y hy
   rcases dn hy with h|rfl
   ·exact hok.key y h
   ·exact hok.key x hmem
  ·show(((C.l.set j _).length:Nat):Int)<=C.room
   rw[List.length_set];exact hok.le
  ·intro y hy
   rcases dn hy with h|rfl
   ·exact ht.Pe y h
   ·exact Int.le_refl _
  ·show((C.l.set j _).map (·.asked)).Nodup
   rw[List.map_set];refine zk hok.JK (λhm=>?_) j;obtain⟨y,hy,hk⟩:=ki.1 hm;have:=hok.Pe y hy;have hk':y.asked=C.asked+1:=hk;omega
 |full no hf hd=>exact ht
 |err no he hc=>exact ht
 |
  more no hp hf=>
  obtain⟨_,p1,p2⟩:=xL hp;refine⟨?_,?_,?_,hok.room,?_,?_,?_,ht.small⟩
  ·show((C.l++[qL C D i]).map (·.key)).Nodup
   rw[jk];refine nD hok.iI λhm=>?_;obtain⟨x,hx,hk⟩:=ki.1 hm;exact no x hx hk
  ·intro y hy
   rcases jz.1 hy with h|h
   ·exact hok.len y h
   ·rw[jq]at h;subst h;exact dB hD p1 p2
  ·intro y hy
   rcases jz.1 hy with h|h
   ·exact hok.key y h
   ·rw[jq]at h;subst h;exact⟨p1,p2⟩
  ·show(((C.l++[qL C D i]).length:Nat):Int)<=C.room
   rw[jh,List.length_singleton];omega
  ·intro y hy
   rcases jz.1 hy with h|h
   ·exact ht.Pe y h
   ·rw[jq]at h;subst h;exact Int.le_refl _
  ·show((C.l++[qL C D i]).map (·.asked)).Nodup
   rw[jk];refine nD hok.JK λhm=>?_;obtain⟨x,hx,hk⟩:=ki.1 hm;have:=hok.Pe x hx;have hk':x.asked=C.asked+1:=hk;omega
 |
  swap no hp hf k y h1 h2 h3=>
  obtain⟨_,p1,p2⟩:=xL hp;refine⟨?_,?_,?_,hok.room,?_,?_,?_,ht.small⟩
  ·show((C.l.eraseIdx k++[qL C D i]).map (·.key)).Nodup
   rw[jk,c6];refine nD (oZ hok.iI k) λhm=>?_;obtain⟨x,hx,hk⟩:=ki.1 (List.mem_of_mem_eraseIdx hm);exact no x hx hk
  ·intro y hy
   rcases jz.1 hy with h|h
   ·exact hok.len y (List.mem_of_mem_eraseIdx h)
   ·rw[jq]at h;subst h;exact dB hD p1 p2
  ·intro y hy
   rcases jz.1 hy with h|h
   ·exact hok.key y (List.mem_of_mem_eraseIdx h)
   ·rw[jq]at h;subst h;exact⟨p1,p2⟩
  ·show(((C.l.eraseIdx k++[qL C D i]).length:Nat):Int)<=C.room
   rw[jh,List.length_singleton,List.length_eraseIdx_of_lt (aE h1).2];have:=hok.le;have:=(aE h1).2;omega
  ·intro y hy
   rcases jz.1 hy with h|h
   ·exact ht.Pe y (List.mem_of_mem_eraseIdx h)
   ·rw[jq]at h;subst h;exact Int.le_refl _
  ·show((C.l.eraseIdx k++[qL C D i]).map (·.asked)).Nodup
   rw[jk,c6];refine nD (oZ hok.JK k) λhm=>?_;obtain⟨x,hx,hk⟩:=ki.1 (List.mem_of_mem_eraseIdx hm);have:=hok.Pe x hx;have hk':x.asked=C.asked+1:=hk;omega
theorem eW.at{C C':CM}{D:DM}{i:Int}{j:Nat}(h:eW C D i 0 C' j):∃x,C'.l[j]? =some x/\x.key=i:=by
 generalize he:(0:Int)=e at h;cases h with
 |hit _ x h1 h2=>exact⟨{x with asked:=C.asked+1},by show(C.l.set j _)[j]? =_;rw[List.getElem?_set_self (aE h1).2],h2⟩
 |full no hf hd=>cases he
 |err no he' hc=>exact absurd he.symm he'
 |more no hp hf=>exact⟨qL C D i,by show(C.l++[_])[C.l.length]? =_;simp,rfl⟩
 |
  swap no hp hf k y h1 h2 h3=>
  refine⟨qL C D i,?_,rfl⟩;show(C.l.eraseIdx k++[_])[C.l.length-1]? =_;have h5:=List.length_eraseIdx_of_lt (aE h1).2;rw[List.getElem?_append_right (by omega),h5,Nat.sub_self];rfl
def vo(C:CM)(D:DM)(i e:Int)(C':CM)(out:LB):Prop:=
 (¬(0<=i/\i<D.blocks.length)/\e=30/\C'=C/\out=[])\/
 ((0<=i/\i<D.blocks.length)/\∃j,eW C D i e C' j/\((e≠0/\out=[])\/(e=0/\∃x,C'.l[j]? =some x/\out=x.b)))
theorem C34(c dp:Nat)(C:CM)(D:DM)(i:Int)(w:World)(F:Nat->Prop)(h:Has [bB c dp C,ag dp D] w F)(hok:C.ok D.blocks.length)(hD:D.ok)(jU:D.wait.length<=1000000000)(ha:C.asked<=1000000000000000):
 Calls Pq 108 #[P0 c,.int .i64 i] w (au [.c .slice,.c aa] λr w'=>∃C' out,vo C D i r.2 C' out/\St F w w' [aA 1 r.1 (out.map ub),bB c dp C',ag dp D]):=by
 refine EW _ _ _ _ ?_;unfold Yx;have st:=St.init h;obtain⟨G1,_,_,g1,_,_,_,_⟩:=st.fu;obtain⟨G2,_,_,g2,_,_,_,_⟩:=(st.ak 1).fu;refine af (C68 c dp C D i w G1 G2 g1 g2) ?_;rintro _ _ ⟨rfl,rfl⟩;by_cases hr:0<=i/\i<D.blocks.length
 rotate_left
 ·refine cj (by rw[jc hr];rfl) ⟨C,[],.inl ⟨hr,by rw[jc hr],rfl,rfl⟩,st.dR 1⟩
 refine aK (by rw[jd hr];rfl) ?_;refine af (C69 c dp C D i D.blocks.length w F h hok hD jU ha) ?_;rintro⟨p,e⟩ w1 ⟨C',j,hq,m,bs,hl,hx,s1⟩;dsimp only at hq hx⊢;refine aj (λhne=>?_) (λheq=>?_)
 ·have hne:e≠0:=by simpa using hne
  exact⟨C',[],.inr ⟨hr,j,hq,.inl ⟨hne,rfl⟩⟩,(St.mE s1 hl).dR 1⟩
 have he:e=0:=by simpa using heq
 subst he;obtain⟨x,zX,rfl⟩:=hx rfl;simp only[ah];have hb:=(s1.ak 2).buf zX;refine hb.1.ld (i:=0) (s:=.slice) (p:=x.s) rfl ?_;have Hf:C'.l[j]? =some x.m:=by rw[hl,jf,zX];rfl
 have Qi:x.b.length=256:=(hq.ok hok hD).len x.m (ji Hf);have oo:=hb.2.bs;have:=oo.len;refine af (GS x.s x.b _ oo (by omega)) ?_;rintro t w2 ⟨ht,_,g5⟩;have s2:=(St.mE s1 hl).iJ g5 ht;exact⟨C',x.b,.inr ⟨hr,j,hq,.inr ⟨rfl,x.m,Hf,rfl⟩⟩,s2⟩
def qM(C:CM)(D:DM)(i off:Int)(l:LB)(e:Int)(C':CM):Prop:=
 (¬(0<=i/\i<D.blocks.length)/\e=30/\C'=C)\/
 ((0<=i/\i<D.blocks.length)/\¬(0<=off/\off+l.length<=256)/\e=1/\C'=C)\/
 ((0<=i/\i<D.blocks.length)/\(0<=off/\off+l.length<=256)/\∃C1 j,eW C D i e C1 j/\(((e≠0\/l=[])/\C'=C1)\/(e=0/\l≠[]/\∃x,C1.l[j]? =some x/\C'={C1 with l:=C1.l.set j {x with b:=lay x.b off.toNat l,bU:=true}})))
theorem C33(c dp:Nat)(C:CM)(D:DM)(i off:Int)(b:Sl)(l:LB)(w:World)(F:Nat->Prop)(h:Has [bB c dp C,ag dp D] w F)(hb:Rd w F b l)(hok:C.ok D.blocks.length)(hD:D.ok)(jU:D.wait.length<=1000000000)(ha:C.asked<=1000000000000000):
 Calls Pq 118 #[P0 c,.int .i64 i,.int .i64 off,.slice b.a b.len b.cap] w (au [.c aa] λr w'=>∃C',qM C D i off l r C'/\St F w w' [bB c dp C',ag dp D]):=by
 refine EX _ _ _ _ _ _ ?_;unfold Yz;have st:=St.init h;obtain⟨G1,_,_,g1,_,_,_,_⟩:=st.fu;obtain⟨G2,_,_,g2,_,_,_,_⟩:=(st.ak 1).fu;have iu:=hb.bs.len;refine af (C68 c dp C D i w G1 G2 g1 g2) ?_;rintro _ _ ⟨rfl,rfl⟩;by_cases hr:0<=i/\i<D.blocks.length
 rotate_left
 ·exact cj (by rw[jc hr];rfl) ⟨C,.inl ⟨hr,by rw[jc hr],rfl⟩,st⟩
 refine aK (by rw[jd hr];rfl) ?_;refine aB (λq W=>q=decide (¬(0<=off/\off+l.length<=256))/\w=W) ?_ ?_
 ·refine aj (λh1=>⟨?_,rfl⟩) (λh1=>aj (λh2=>⟨?_,rfl⟩) (λh2=>⟨?_,rfl⟩))
  ·simp only[jb]at h1
   symm;rw[jb];omega
  ·simp only[gt_iff_lt,jb]at h2
   symm;rw[jb];omega
  ·simp only[ja]at h1 h2
   rw[wrap_i64 (by omega),decide_eq_decide];omega
 rintro _ _ ⟨rfl,rfl⟩;by_cases hlo:0<=off/\off+l.length<=256
 rotate_left
 ·exact cj (by simp only[hlo,not_false_eq_true,decide_true]) ⟨C,.inr (.inl ⟨hr,hlo,rfl,rfl⟩),st⟩
 refine aK (by simp only[hlo,and_self,not_true_eq_false,decide_false]) ?_;refine af (C69 c dp C D i D.blocks.length w F h hok hD jU ha) ?_;rintro⟨p,e⟩ w1 ⟨C',j,hq,m,bs,hl,hx,s1⟩;dsimp only at hq hx⊢;refine aB (λq W=>q=decide (e≠0\/l=[])/\w1=W) ?_ ?_
 ·refine aj (λh1=>⟨?_,rfl⟩) (λh1=>⟨?_,rfl⟩)
  ·symm;rw[jb];exact .inl (by simpa using h1)
  ·have he:e=0:=by simpa using h1
   rw[Bool.eq_iff_iff,kn,jb];constructor
   ·intro h;exact .inr (jy (by omega))
   ·rintro(h|rfl)
    ·exact absurd he h
    ·simp only[List.length_nil]at iu;omega
 rintro _ _ ⟨rfl,rfl⟩;by_cases hel:e≠0\/l=[]
 ·exact cj (by simp only[hel,decide_true]) ⟨C',.inr (.inr ⟨hr,hlo,C',j,hq,.inl ⟨hel,rfl⟩⟩),St.mE s1 hl⟩
 refine aK (by simp only[hel,decide_false]) ?_;have he:e=0:=Classical.byContradiction λh=>hel (.inl h);have hln:l≠[]:=λh=>hel (.inr h);subst he;obtain⟨x,zX,rfl⟩:=hx rfl;simp only[ah];have Hf:C'.l[j]? =some x.m:=by rw[hl,jf,zX];rfl
 have Qi:x.b.length=256:=(hq.ok hok hD).len x.m (ji Hf);have s2:=((s1.ak 2).pick (i:=j) (A:=gK x) (by simp[zX])).M5;refine s2.ld (i:=0) (s:=.slice) (p:=x.s) rfl ?_;refine St.TP (s2.ak 1) (hb.at s1) hlo.1 (by omega) λw2 s3=>?_;refine(s3.ak 1).st (i:=1) (by simp) trivial λw3 s4=>?_;have hjl:j<(bs.map gK).length:=(aE (show(bs.map gK)[j]? =some (gK x) by simp[zX])).2;have s5:=(St.n6 (xs:=[_,_]) s4).nk hjl;refine⟨{C' with l:=C'.l.set j {x.m with b:=lay x.b off.toNat l,bU:=true}},.inr (.inr ⟨hr,hlo,C',j,hq,.inr ⟨rfl,hln,x.m,Hf,rfl⟩⟩),?_⟩;refine St.mE (C:={C' with l:=C'.l.set j {x.m with b:=lay x.b off.toNat l,bU:=true}}) (m:=m) (bs:=bs.set j {x with b:=lay x.b off.toNat l,bU:=true}) ?_ (by rw[hl,List.map_set];rfl);rw[i4 uo (a:={x with b:=lay x.b off.toNat l,bU:=true}) zX rfl,List.map_set];exact s5.aG [1,2,0,3] 4
set_option maxRecDepth 20000
def Iv(t:Sl)(o:Nat):Sl:=⟨if t.cap=o then t.a else t.a.map (·.add (o*1)),t.len-o,t.cap-o⟩
theorem mh{w:World}{t:Sl}{o:Nat}{k:Sl->Pr}(h1:o<=t.len)(hk:k (Iv t o) w):slc 1 t (some (o:Int)) none none k w:=tT (by omega) (by omega) hk
section
variable{F0:Nat->Prop}{w0 w:World}{L:List HA}
theorem p7{t src:Sl}{vs l:LB}{o:Nat}{k:Pr}(h:St F0 w0 w (aA 1 t (vs.map ub)::L))(hs:BS w src l)(h1:o+l.length<=vs.length)
 (hk:∀w',St F0 w0 w' (aA 1 t ((lay vs o l).map ub)::L)->k w'):y3 1 (Iv t o) src k w:=by
 have hl:=aT h.sl;rw[je]at hl;have fP:=hs.len;have hle:=h.sl.le;unfold Iv;refine zY h.sl (o:=o) (by omega) ?_ rfl hs.row (λ_=>by simp[fP]) hs.bY (by dsimp only;omega) fc ?_
 ·dsimp only
  by_cases hc:t.cap=o
  ·exact .inr (by omega)
  ·rw[jc hc];exact .inl rfl
 ·intro w' g1 g2 g3
  refine hk w' (h.Rt g2 ?_ λ_ h=>.inl h);have e:(vs.map ub).take (o*1)++l.map ub++(vs.map ub).drop (o*1+(l.map ub).length)=(lay vs o l).map ub:=by
   unfold lay;simp only[Nat.mul_one,jk,List.map_take,List.map_drop,je]
  rw[<-e];exact g1
theorem O5{t:Sl}{vs:LB}{j:Nat}{v:Int}{k:Pr}(h:St F0 w0 w (aA 1 t (vs.map ub)::L))(hj:j<vs.length)(hv:0<=v/\v<=255)
 (hk:∀w',St F0 w0 w' (aA 1 t ((vs.set j (UInt8.ofNat v.toNat)).map ub)::L)->k w'):el t (j:Int) 1 (λa=>Eng.st a (uv (zb v)) k) w:=by
 have e:zb v=v:=wrap_u8 hv;rw[e];refine h.els (by simpa using hj) trivial λw' h'=>hk w' ?_;rw[List.map_set];have:ub (UInt8.ofNat v.toNat)=uv v:=by
  rw[ox]
  congr 1;omega
 rw[this];exact h'
end
def td(n k b o m:Int)(d:LB):LB:=
 [UInt8.ofNat k.toNat,UInt8.ofNat d.length]++bM 8 n.toNat++bM 4 (imax b m).toNat++[UInt8.ofNat o.toNat,0]++d++List.replicate (44-d.length) 0
def CI(n k b o m:Int)(d:LB):LB:=td n k b o m d++bM 4 (tc (td n k b o m d))
def jA(n:Int):Prop:=0<=n/\n<=2305843009213693952
instance(n:Int):Decidable (jA n):=by unfold jA;exact inferInstance
def nJ(n k b o m:Int)(d:LB):Int:=if¬jA n then 1 else if cA k b o m d.length then 0 else 60
theorem jR{k b o m:Int}{n:Nat}(h:cA k b o m n=true):(1<=k/\k<=2)/\n<=44/\(0<=b/\b<2048)/\(0<=o/\o<=255)/\0<=m/\m<=65536:=by
 unfold cA kr at h;simp only[Bool.or_eq_true,kf,kn,jb]at h;rcases h with⟨h1,h2⟩|⟨h1,h2⟩<;>omega
theorem ym{n k b o m:Int}{d:LB}(h:d.length<=44):(td n k b o m d).length=60:=by simp[td,ck];omega
theorem adY(n:Int)(w:World):Calls Pq 178 #[iv n] w (au [.c .bool] λr w'=>r=decide (jA n)/\w=w'):=by
 refine FN _ _ _ ?_;unfold aag;refine aj (λh=>⟨?_,rfl⟩) λh=>⟨?_,rfl⟩
 ·simp only[jb]at h
  exact decide_eq_decide.2 ⟨λh2=>⟨h,h2⟩,λh2=>h2.2⟩
 ·simp only[ja]at h
  symm;rw[ja];exact λh2=>h h2.1
theorem adW(s:Sl)(l:LB)(o n:Nat)(w:World)(hs:BS w s l)(h1:1<=n)(h8:n<=8)(ho:o+n<=l.length)(hl:l.length<=1000000):
 Calls Pq 210 #[slV s,iv o,iv n] w (au [.c aa] λr w'=>r=bq (fW ((l.drop o).take n):Nat)/\w=w'):=by
 refine FQ _ _ _ _ _ ?_;unfold aaq;refine af (Y57 s l o n w hs h1 h8 ho (by omega)) ?_;rintro⟨v,b⟩ _ ⟨rfl,_,rfl⟩;exact⟨rfl,rfl⟩
theorem Rk{A B C D:LB}{o:Nat}(h:A.length=o)(hb:B.length=C.length):lay (A++B++D) o C=A++C++D:=by
 subst h;unfold lay;rw[ju A B D,List.take_left,<-List.drop_drop,List.drop_left,List.drop_append_of_le_length (by omega),<-hb,List.drop_length,List.nil_append]
def ZZ(n:Nat):LB:=List.replicate n 0
@[simp]theorem V1(n:Nat):(ZZ n).length=n:=by simp[ZZ]
theorem O6(a b:Nat):ZZ (a+b)=ZZ a++ZZ b:=by unfold ZZ;rw[List.replicate_append_replicate]
theorem Iw(n:Nat):ZZ (n+1)=0::ZZ n:=List.replicate_succ
theorem O7(n:Nat):zc [uv 0] n=(ZZ n).map ub:=yu n
theorem SX{A C:LB}{m o:Nat}(h:A.length=o)(hc:C.length<=m):lay (A++ZZ m) o C=A++C++ZZ (m-C.length):=by
 have e:ZZ m=ZZ C.length++ZZ (m-C.length):=by rw[<-O6];congr 1;omega
 rw[e,<-ju];exact Rk h (by simp)
theorem O8{A:LB}{m o:Nat}{b:UInt8}(h:A.length=o):(A++ZZ (m+1)).set o b=A++[b]++ZZ m:=by
 subst h;rw[List.set_append_right _ _ (Nat.le_refl _),Nat.sub_self,ju,Iw];rfl
theorem A7{F0:Nat->Prop}{w0 w:World}{L:List HA}{t:Sl}{A:LB}{m o n:Nat}{v:Int}{k:Pr}(h:St F0 w0 w (aA 1 t ((A++ZZ m).map ub)::L))(h1:1<=n)(h8:n<=8)(hv:0<=v/\v<=18446744073709551615)(ho:A.length=o)(hm:n<=m)
 (hk:∀w',St F0 w0 w' (aA 1 t ((A++bM n v.toNat++ZZ (m-n)).map ub)::L)->k w'):
 aq Pq 183 [iv n,.int .u64 (gH v)] [.c .slice] (λx=>y3 1 (Iv t o) x k) w:=by
 rw[i5 hv];have e:v=(v.toNat:Int):=by omega
 generalize v.toNat=q at e hk;subst e;refine af (Y50 n q w h1 h8) λx w1 s1=>?_;have s2:St F0 w0 w1 (aA 1 t ((A++ZZ m).map ub)::aA 1 x ((bM n q).map ub)::L):=(h.bP s1).ak 1;refine p7 s2 (s2.ak 1).sl.bs (by simp[ck];omega) λw2 s3=>hk w2 ?_;rw[SX ho (by rw[ck];omega),ck]at s3;exact s3.del 1
theorem adX(n k b o m:Int)(s:Sl)(d:LB)(w:World)(hs:BS w s d):
 Calls Pq 204 #[iv n,.agg #[iv k,iv b,iv o,slV s,iv m]] w (au [.c .slice,.c aa] λr w'=>r.2=nJ n k b o m d/\
  ((nJ n k b o m d≠0/\r.1=⟨none,0,0⟩/\Grow w w')\/nJ n k b o m d=0/\St aI w w' [aA 1 r.1 ((CI n k b o m d).map ub)])):=by
 refine FP _ _ _ _ _ _ _ _ ?_;unfold aao;have fP:=hs.len;refine St.nw (St.bC w) λr w1 s1 _ _=>?_;have s1:St aI w w1 [ai r [iv k,iv b,iv o,slV s,iv m]]:=s1;refine af (adY n w1) ?_;rintro _ _ ⟨rfl,rfl⟩;refine aj (λh=>?_) λh=>?_
 ·have h:¬jA n:=by simpa using h
  have e:nJ n k b o m d=1:=jd h;rw[e];exact⟨rfl,.inl ⟨by decide,rfl,s1.bS⟩⟩
 have hn:jA n:=by simpa using h
 refine s1.LA 0 rfl (p:=(k,b,o,s,m)) rfl ?_;refine af (C59 k b o m s _) ?_;rintro e w2 ⟨he,g2⟩;have s2:=s1.grow g2;have hE:nJ n k b o m d=e:=by rw[he,fP];exact jc (by simpa using hn)
 rw[hE];refine aj (λh=>⟨rfl,.inl ⟨by simpa using h,rfl,s2.bS⟩⟩) λh=>?_;have h0:e=0:=by simpa using h
 have hc:cA k b o m d.length=true:=by
  rw[h0]at he;rw[<-fP];cases hh:cA k b o m s.len
  ·rw[hh]at he;cases he
  ·rfl
 clear he hE h;obtain⟨hk2,hd,hb,ho,hm⟩:=jR hc;refine s2.BC (k:=1) 64 rfl rfl (by decide) (by decide) λt w3 s3 gO=>?_;rw[O7]at s3;have s3:St aI w w3 [aA 1 t ((ZZ 64).map ub),ai r [iv k,iv b,iv o,slV s,iv m]]:=s3;refine aB (λ_ W=>St aI w W [aA 1 t (([UInt8.ofNat k.toNat,UInt8.ofNat d.length]++ZZ 62).map ub),ai r [iv k,iv b,iv o,slV s,iv m]]) ?_ ?_
 ·have sd:=s3.drew
  have two:∀W (k':Pr),St aI w W [aA 1 t (([UInt8.ofNat k.toNat]++ZZ 63).map ub),ai r [iv k,iv b,iv o,slV s,iv m]]->(∀W',St aI w W' [aA 1 t (([UInt8.ofNat k.toNat,UInt8.ofNat d.length]++ZZ 62).map ub),ai r [iv k,iv b,iv o,slV s,iv m]]->k' W')->
   el t 1 1 (λa=>Eng.st a (uv (zb (s.len:Int))) k') W:=by
   intro W k' st hk';refine O5 (j:=1) st (by simp) ⟨by omega,by omega⟩ λW' st'=>hk' W' ?_;rw[show((s.len:Int)).toNat=d.length by omega,O8 (A:=[UInt8.ofNat k.toNat]) (o:=1) (m:=62) rfl]at st';exact st'
  have hz:St aI w w3.drew [aA 1 t (([]++ZZ (63+1)).map ub),ai r [iv k,iv b,iv o,slV s,iv m]]:=sd;refine sd.L 1 rfl (p:=k) rfl (sd.Y4 (j:=0) (by simp) λad ha=>?_);have one:∀W (k':Pr),St aI w W [aA 1 t (([]++ZZ (63+1)).map ub),ai r [iv k,iv b,iv o,slV s,iv m]]->(∀W',St aI w W' [aA 1 t (([UInt8.ofNat k.toNat]++ZZ 63).map ub),ai r [iv k,iv b,iv o,slV s,iv m]]->k' W')->
   Eng.st (ad.add (0*1)) (uv (zb k)) k' W:=by
   intro W k' st hk';rw[show zb k=k from wrap_u8 ⟨by omega,by omega⟩];refine st.afE ha (by simp) trivial λW' st'=>hk' W' ?_;have e:(([]++ZZ (63+1)).map ub).set 0 (uv k)=([UInt8.ofNat k.toNat]++ZZ 63).map ub:=by
    have:uv k=ub (UInt8.ofNat k.toNat):=by rw[ox];congr 1;omega
    rw[this,<-List.map_set,O8 (A:=[]) (o:=0) (m:=63) rfl];rfl
   rw[e]at st';exact st'
  refine⟨?_,?_⟩
  ·refine sd.L 1 rfl (p:=s) rfl ?_
   refine one _ _ hz λW s4=>?_;exact two _ _ s4 λW' s5=>s5
  ·refine one _ _ hz λW s4=>?_
   refine s4.L 1 rfl (p:=s) rfl ?_;exact two _ _ s4 λW' s5=>s5
 rintro⟨⟩ W s4;have s4:=s4.drew;have hl:∀{W:World} {L:List HA} {A:LB},St aI w W (aA 1 t (A.map ub)::L)->t.len=A.length:=λst=>by have:=aT st.sl;simpa using this
 refine mh (o:=2) (by rw[hl s4];simp) ?_;refine A7 (n:=8) (o:=2) s4 (by decide) (by decide) ⟨hn.1,by have:=hn.2;omega⟩ rfl (by decide) λW5 s5=>?_;have s5:=s5.drew;refine mh (o:=10) (by rw[hl s5];simp[ck]) ?_;refine s5.L 1 rfl (p:=b) rfl ?_;refine s5.L 1 rfl (p:=m) rfl ?_;have him:0<=imax b m/\imax b m<=65536:=by unfold imax;split<;>omega
 refine A7 (n:=4) (o:=10) s5 (by decide) (by decide) ⟨him.1,by omega⟩ (by simp[ck]) (by decide) λW6 s6=>?_;refine s6.L 1 rfl (p:=o) rfl ?_;refine O5 (j:=14) s6 (by simp[ck]) ⟨ho.1,ho.2⟩ λW7 s7=>?_;rw[O8 (by simp[ck])]at s7;have s7:=s7.drew;refine mh (o:=16) (by rw[hl s7];simp[ck]) ?_;refine s7.L 1 rfl (p:=s) rfl ?_;have e16:∀A:LB,A++[UInt8.ofNat o.toNat]++ZZ 49=A++[UInt8.ofNat o.toNat,0]++ZZ 48:=λA=>by rw[Iw];simp
 rw[e16]at s7;refine p7 s7 (hs.grow s7.bS) (by simp[ck];omega) λW8 s8=>?_;rw[SX (by simp[ck]) (by omega)]at s8;have s8:=s8.drew;have e60:ZZ (48-d.length)=ZZ (44-d.length)++ZZ 4:=by rw[<-O6];congr 1;omega
 rw[e60,<-ju]at s8;have s8:St aI w W8.drew [aA 1 t ((td n k b o m d++ZZ 4).map ub),ai r [iv k,iv b,iv o,slV s,iv m]]:=s8;have hB:=ym (n:=n) (k:=k) (b:=b) (o:=o) (m:=m) hd;unfold CI;generalize td n k b o m d=B at hB s8;have gO:=hl s8;rw[jh,hB,V1]at gO;refine mh (o:=60) (by omega) ?_;refine qt (by omega) (by have:=s8.sl.le;omega) ?_;rw[show(if t.cap=0 then t.a else t.a.map (·.add 0))=t.a by rw[iO,ite_self],show(60:Int).toNat=60 from rfl];have air:BS W8.drew ⟨t.a,60,t.cap⟩ B:=by
  have h2:=s8.sl.bs.row;refine⟨hB.symm,?_⟩;rw[jk]at h2;cases ha:t.a with
  |none=>have:=s8.sl.bs.ms.bY ha;omega
  |
   some ad=>
   rw[ha]at h2;exact az.2 (Row.append.1 (az.1 h2)).1
 refine af (Y51 _ B _ air (by omega)) ?_;rintro _ _ ⟨rfl,rfl⟩;have hsm:=v8 B;refine A7 (n:=4) (o:=60) (v:=((tc B:Nat):Int)) s8 (by decide) (by decide) ⟨by omega,by omega⟩ hB (by decide) λW9 s9=>?_;rw[jl,show ZZ (4-4)=[]from rfl,List.append_nil]at s9;exact⟨h0.symm,.inr ⟨h0,St.y2 (l:=[_]) s9⟩⟩
set_option maxRecDepth 100000
def ZY:An:=(.n (.n .z))
def Z0(p0:Sl)(Q:OA->Pr):Pr:=
 cS 82 [(slV p0)] λt4=>
 nw (.cells #[(slV t4),(iv 0),(iv 0),(.bool true)] 257) λr=>
 Q ((some ⟨r,0,none⟩))
theorem FE(p0 Q w)(h:Z0 p0 Q w):Calls Pq 208 #[(slV p0)] w (au [.c .ptr] Q):=cF (an:=ZY) Tryz.func208 (by kernel_rfl) h
def Z1:An:=(.n (.sq (.n (.br (.n .z) .z)) (.sq (.jn [] .z) (.sq (.n (.br (.n .z) .z)) (.n (.n (.n .z)))))))
def Z2(p0:OA)(p1:Int)(Q:Int->Pr):Pr:=
 cB 228 [(.pointer p0)] λt8=>
 br t8 (
 Q 0) (
 jn (S:=Unit) (λR=>
 deref p0 λa=>
 br (decide (p1<1)) (
 aq Pq 229 [(.pointer (some (a.add 0))),(.bool true),(iv 1)] [] λ(t18:Unit)=>
 R ()) (
 aq Pq 229 [(.pointer (some (a.add 0))),(.bool (decide (p1>8))),(iv 1)] [] λ(aiv:Unit)=>
 R ())) λs=>
 deref p0 λa_2=>
 cB 230 [(.pointer (some (a_2.add 0))),(iv p1)] λt23=>
 br (!t23) (
 Q 0) (
 eG<|
 deref p0 λec=>
 ei (ec.add 0) λt30=>
 deref p0 λia=>
 bE (ia.add 1) λt35=>
 aq Pq 231 [(slV t30),(iv t35),(iv p1)] [.c (.int .u64),.c .bool] λ(t37:Int×Bool)=>
 deref p0 λdJ=>
 bE (dJ.add 1) λt44=>
 deref p0 λgJ=>
 st (gJ.add 1) (iv (bq (t44+p1)))<|
 Q t37.1))
theorem FF(p0 p1 Q w)(h:Z2 p0 p1 Q w):Calls Pq 209 #[(.pointer p0),(iv p1)] w (au [.c (.int .u64)] Q):=cF (an:=Z1) Tryz.func209 (by kernel_rfl) h
def Z3:An:=(.n (.n .z))
def Z4(p0:OA)(Q:Bool->Pr):Pr:=
 cq True<|
 br (Option.isNone p0) (
 Q true) (
 deref p0 λa=>
 ot (a.add 3) λt10=>
 Q (!t10))
theorem FG(p0 Q w)(h:Z4 p0 Q w):Calls Pq 228 #[(.pointer p0)] w (au [.c .bool] Q):=cF (an:=Z3) Tryz.func228 (by kernel_rfl) h
def Z5:An:=(.sq (.jn [(13,.c .bool)] .z) (.br .z .z))
def Z6(p0:OA)(p1:Bool)(p2:Int)(Q:Unit->Pr):Pr:=
 jn (S:=Bool) (λR=>
 br p1 (
 deref p0 λa=>
 bE (a.add 2) λt11=>
 R ((t11==0))) (
 R false)) λs=>
 br s (
 deref p0 λcP=>
 st (cP.add 2) (iv p2)<|
 Q ()) (
 Q ())
theorem FH(p0 p1 p2 Q w)(h:Z6 p0 p1 p2 Q w):Calls Pq 229 #[(.pointer p0),(.bool p1),(iv p2)] w (au [] Q):=cF (an:=Z5) Tryz.func229 (by kernel_rfl) h
def Z7:An:=(.n (.sq (.jn [] (.sq (.jn [(23,.c .bool)] .z) (.br .z .z))) (.n .z)))
def Z8(p0:OA)(p1:Int)(Q:Bool->Pr):Pr:=
 jn (S:=Unit) (λR=>
 jn (S:=Bool) (λbT=>
 eG<|
 deref p0 λa=>
 bE (a.add 2) λt8=>
 br (t8==0) (
 deref p0 λcP=>
 ei (cP.add 0) λt15=>
 deref p0 λeo=>
 bE (eo.add 1) λt20=>
 bT ((decide (p1>(bq ((t15.len:Int)-t20)))))) (
 bT false)) λs_1=>
 br s_1 (
 deref p0 λfy=>
 st (fy.add 2) (iv 10)<|
 R ()) (
 R ())) λs=>
 deref p0 λdJ=>
 bE (dJ.add 2) λt30=>
 Q ((t30==0))
theorem FI(p0 p1 Q w)(h:Z8 p0 p1 Q w):Calls Pq 230 #[(.pointer p0),(iv p1)] w (au [.c .bool] Q):=cF (an:=Z7) Tryz.func230 (by kernel_rfl) h
def Z9:An:=(.n (.sq (.sq (.jn [(33,.c .bool)] .z) (.br (.n .z) .z)) (.n (.sq (.n (.bl (.lp [(8,.c (.int .u64)),(9,.c aa)] (.sq (.n (.br .z .z)) (.sq (.bl .z) .z))))) (.n .z)))))
def aaa(p0:Sl)(p1:Int)(p2:Int)(Q:Int×Bool->Pr):Pr:=
 jn (S:=Bool) (λR=>
 br (decide (p2<1)) (
 R true) (
 br (decide (p2>8)) (
 R true) (
 br (decide (p1<0)) (
 R true) (
 br (decide (p1>(p0.len:Int))) (
 R true) (
 R ((decide (p2>(bq ((p0.len:Int)-p1)))))))))) λs=>
 br s (
 Q (0,false)) (
 bh (S:=Int×Int) (λX s_1=>
 br (decide (s_1.2<p2)) (
 el p0 (bq (p1+s_1.2)) 1 λa=>
 oq a λt45=>
 cq ((0:Int)<=(gH (bq (8*s_1.2))))<|
 X ((gH (s_1.1+(Iy .u64 (gH t45) (gH (bq (8*s_1.2)))))),(bq (s_1.2+1)))) (
 Q (s_1.1,true))) (0,0))
theorem FJ(p0 p1 p2 Q w)(h:aaa p0 p1 p2 Q w):Calls Pq 241 #[(slV p0),(iv p1),(iv p2)] w (au [.c (.int .u64),.c .bool] Q):=cF (an:=Z9) Tryz.func241 (by kernel_rfl) h
def aab:An:=(.n (.sq (.n (.br (.n .z) .z)) (.sq (.n (.bl (.lp [(5,.c aa)] (.sq (.n (.br .z .z)) (.sq (.bl (.n (.br (.n .z) .z))) .z))))) (.n .z))))
def aac(p0:Sl)(p1:Sl)(Q:Bool->Pr):Pr:=
 br ((p0.len:Int)!=(p1.len:Int)) (
 Q false) (
 bh (S:=Int) (λX s=>
 br (decide (s<(p0.len:Int))) (
 eG<|
 el p0 s 1 λa=>
 oq a λt20=>
 el p1 s 1 λa_2=>
 oq a_2 λt24=>
 br (t20 !=t24) (
 Q false) (
 X ((bq (s+1))))) (
 Q true)) 0)
theorem FK(p0 p1 Q w)(h:aac p0 p1 Q w):Calls Pq 233 #[(slV p0),(slV p1)] w (au [.c .bool] Q):=cF (an:=aab) Tryz.func233 (by kernel_rfl) h
set_option maxRecDepth 20000
theorem Q5{v:Value}{f:FuncId}{first:Array Value}{args:LV}{cM:List Sh}{k post:eD cM->Pr}{w:World}(hv:v=.func (.func f) first #[])(hc:fI Pq f=true)
 (h:Calls Pq f (first++args.toArray) w (au cM post))(hk:∀p w',post p w'->k p w'):fH Pq v args cM k w:=
 .inl ⟨f,first,#[],hv,hc,by rw[Array.append_empty];exact h.mono λ_ _ ⟨p,he,hp⟩=>⟨p,he,hk _ _ hp⟩⟩
abbrev Ig(t:Sl)(p:Nat):LV:=[slV t,iv p,iv 0,.bool true]
theorem ahO(rd:Nat)(t:Sl)(p:Nat)(w:World)(hb:iw w rd (Ig t p)):Calls Pq 228 #[P0 rd] w (au [.c .bool] λr w'=>r=false/\w=w'):=by
 refine FG _ _ _ ?_;unfold Z4;refine⟨trivial,aK rfl ?_⟩;exact hb.ld (i:=3) (s:=.bool) (p:=true) rfl ⟨rfl,rfl⟩
theorem ahP(rd:Nat)(e:Int)(w:World):Calls Pq 229 #[P0 rd,.bool false,iv e] w (au [] λ_ w'=>w=w'):=by
 refine FH _ _ _ _ _ ?_;unfold Z6;exact aB (λb W=>b=false/\w=W) (aK rfl ⟨rfl,rfl⟩) λb W ⟨hb,hW⟩=>aK hb hW
theorem ahQ(rd:Nat)(t:Sl)(p n m:Nat)(w:World)(hb:iw w rd (Ig t p))(ht:t.len=m)(hn:p+n<=m)(hm:m<=1000000):Calls Pq 230 #[P0 rd,iv n] w (au [.c .bool] λr w'=>r=true/\Grow w w'):=by
 refine FI _ _ _ _ ?_;unfold Z8;have hd:Grow w w.drew:=(Mod.refl _ w).drew;refine aB (λ_ W=>Grow w W) ?_ λ_ W g=>(hb.mod g λh=>h).ld (i:=2) (s:=aa) (p:=0) rfl ⟨rfl,g⟩;have hbd:=hb.mod hd λh=>h;refine aB (λb W=>b=false/\Grow w W) ?_ λb W ⟨hb,g⟩=>aK hb g;refine hbd.ld (i:=2) (s:=aa) (p:=0) rfl (cj rfl ?_);refine hbd.ld (i:=0) (s:=.slice) (p:=t) rfl (hbd.ld (i:=1) (s:=aa) (p:=(p:Int)) rfl ⟨?_,hd⟩);rw[ht,aJ ⟨by omega,by omega⟩,ja];omega
def rdA(rd:Nat)(t:Sl)(l:LB)(p:Nat):List HA:=[ai rd (Ig t p),aA 1 t (l.map ub)]
theorem ahR(rd:Nat)(t:Sl)(l:LB)(p n:Nat)(w:World)(F:Nat->Prop)(h:Has (rdA rd t l p) w F)(h1:1<=n)(h8:n<=8)(hp:p+n<=l.length)(hl:l.length<=1000000):
 Calls Pq 209 #[P0 rd,iv n] w (au [.c (.int .u64)] λr w'=>r=(fW ((l.drop p).take n):Nat)/\St F w w' (rdA rd t l (p+n))):=by
 refine FF _ _ _ _ ?_;unfold Z2;have s0:St F w w [ai rd (Ig t p),aA 1 t (l.map ub)]:=St.init h;have ht:t.len=l.length:=by have:=aT (s0.ak 1).sl;simpa using this
 refine af (ahO rd t p w s0.box) ?_;rintro _ _ ⟨rfl,rfl⟩;refine aK rfl ?_;simp only[ah];refine aB (λ_ W=>W=w) ?_ ?_
 ·refine aK (by simp;omega) ?_
  rw[show decide ((n:Int)>8)=false by simp;omega];exact af (ahP rd 1 w) λ_ _ h=>h.symm
 rintro⟨⟩ _ rfl;refine af (ahQ rd t p n l.length _ s0.box ht hp hl) ?_;rintro _ w1 ⟨rfl,g1⟩;have s1:=(s0.grow g1).drew;refine aK rfl ?_;rw[aL];refine s1.L 0 rfl (p:=t) rfl (s1.L 0 rfl (p:=(p:Int)) rfl ?_);refine af (Y57 t l p n _ (s1.ak 1).sl.bs h1 h8 hp (by omega)) ?_;rintro⟨v,b⟩ _ ⟨rfl,rfl,rfl⟩;refine s1.L 0 rfl (p:=(p:Int)) rfl (s1.S 0 rfl (by simp) trivial λw3 s3=>⟨rfl,?_⟩);rw[aJ ⟨by omega,by omega⟩]at s3;exact s3
theorem kW{x y:Pr}{w:World}(hx:x w)(hy:y w):both x y w:=⟨hx,hy⟩
theorem _root_.Go.Eng.BS.Y4{w:World}{s:Sl}{l:LB}(h:BS w s l){j:Nat}{k:Addr->Pr}(hj:j<l.length)(hk:∀ad,s.a=some ad->k (ad.add (j*1)) w):el s (j:Int) 1 k w:=by
 cases ha:s.a with
 |none=>have:=h.ms.bY ha;have:=h.len;omega
 |some ad=>exact vq ha (by rw[h.len];exact hj) (hk ad ha)
theorem _root_.Go.Eng.BS.bf{w:World}{s:Sl}{l:LB}(h:BS w s l){j:Nat}{ad:Addr}{x:UInt8}{k:Int->Pr}(ha:s.a=some ad)(hx:l[j]? =some x)(hk:k (x.toNat:Int) w):bI (.int .u8) (ad.add (j*1)) k w:=by
 have h1:=h.row;rw[ha]at h1;rw[Nat.mul_one];exact fe (s:=.int .u8) (p:=(x.toNat:Int)) ((az.1 h1).get (by simp[hx,ub])) hk
abbrev Vd:Rv:=(0,0,0,0,[])
abbrev fL(x:Rv)(s:Sl):Int×Int×Int×Sl×Int:=(x.1,x.2.1,x.2.2.1,s,x.2.2.2.1)
abbrev mg:Int×Int×Int×Sl×Int:=(0,0,0,⟨none,0,0⟩,0)
abbrev gN(p:Int×Int×Int×Sl×Int):LV:=[iv p.1,iv p.2.1,iv p.2.2.1,slV p.2.2.2.1,iv p.2.2.2.2]
theorem qh(p:Int×Int×Int×Sl×Int):∀v∈gN p,aO v:=by
 intro v hv;simp only[gN,List.mem_cons,List.not_mem_nil,or_false]at hv;rcases hv with rfl|rfl|rfl|rfl|rfl<;>trivial
def bQ(B:LB)(i:Nat):Int:=((B[i]?).getD 0).toNat
def bR(B:LB):Int:=bq (fW ((B.drop 2).take 8):Nat)
def jB(B:LB):Int:=(fW ((B.drop 10).take 4):Nat)
def fq(B:LB):Rv:=if bQ B 0=1 then(1,jB B,bQ B 14,0,(B.drop 16).take (bQ B 1).toNat)else(bQ B 0,0,bQ B 14,jB B,[])
abbrev eP(n:Int)(x:Rv):Int:=nJ n x.1 x.2.1 x.2.2.1 x.2.2.2.1 x.2.2.2.2
abbrev ej(n:Int)(x:Rv):LB:=CI n x.1 x.2.1 x.2.2.1 x.2.2.2.1 x.2.2.2.2
def dK(B:LB):Rv×Int×Int:=if B.length=64/\bQ B 1<=44/\eP (bR B) (fq B)=0/\ej (bR B) (fq B)=B then(fq B,bR B,0)else(Vd,0,61)
def eO(B:LB)(n:Int):Rv×Int:=if¬jA n then(Vd,1)else if(dK B).2.2=0/\(dK B).2.1≠n then(Vd,61)else((dK B).1,(dK B).2.2)
theorem kq{B:LB}{i:Nat}(h:i<B.length):B[i]? =some B[i]/\bQ B i=B[i].toNat:=⟨jo h,by simp[bQ,h]⟩
theorem jC(B:LB)(i:Nat):0<=bQ B i/\bQ B i<=255:=by
 unfold bQ;have:=((B[i]?).getD 0).toNat_lt;omega
theorem fO{n:Int}(h:0<=n/\n<=4294967296):bq n=n:=aJ ⟨by omega,by omega⟩
theorem zQ(B:LB):0<=jB B/\jB B<4294967296:=by
 unfold jB;have h:=pq ((B.drop 10).take 4);have h2:((B.drop 10).take 4).length<=4:=by rw[jt];omega
 have h3:2^(8*((B.drop 10).take 4).length)<=2^32:=Nat.pow_le_pow_right (by decide) (by omega);omega
theorem ahm(p:Sl)(B:LB)(w:World)(hs:BS w p B)(hc:p.len<=p.cap)(hB:B.length<=1000000):
 Calls Pq 179 #[slV p] w (au [.agg [aa,aa,aa,.slice,aa],.c aa,.c aa] λr w'=>∃s,r=(fL (dK B).1 s,(dK B).2.1,(dK B).2.2)/\St aI w w' [aA 1 s ((dK B).1.2.2.2.2.map ub)]):=by
 refine FO _ _ _ ?_;unfold aai;have iL:=hs.len;refine St.nw (St.bC w) λr0 w1 s1 _ _=>?_;have s1:St aI w w1 [ai r0 (gN mg)]:=s1;have bad:∀W L,St aI w W (ai r0 (gN mg)::L)->dK B=(Vd,0,61)->∀(k:Int×Int×Int×Sl×Int->Pr),(∀W',St aI w W' []->k mg W')->
  gM r0 0 [iv 0,iv 0,iv 0,.slice none 0 0,iv 0] (bf [aa,aa,aa,.slice,aa] (bA r0 0) k) W:=by
  intro W L st _ k hk;refine st.SB 0 rfl rfl (qh mg) λW2 s2=>?_;exact St.LA 0 s2 rfl (p:=mg) rfl (hk W2 ⟨s2.bS,aI,λ_ h=>h,λ_ h=>h.elim⟩)
 refine aB (λb W=>b=decide (¬(B.length=64/\bQ B 1<=44))/\W=w1) ?_ ?_
 ·refine aj (λh=>⟨bH (λh'=>by simp at h;omega),rfl⟩) λh=>?_
  have Qt:B.length=64:=by simp at h;omega
  obtain⟨e1,e2⟩:=kq (B:=B) (i:=1) (by omega);refine(hs.grow s1.bS).vL (j:=1) e1 ⟨?_,rfl⟩;rw[<-e2];exact decide_eq_decide.2 (by omega)
 rintro _ _ ⟨rfl,rfl⟩;refine aj (λh=>?_) λh=>?_
 ·simp only[jb]at h
  have hp:dK B=(Vd,0,61):=jc λh'=>h ⟨h'.1,h'.2.1⟩;refine bad _ _ s1 hp _ λW' s2=>?_;rw[hp];exact⟨_,rfl,s2.dR 1⟩
 simp only[ja,Classical.not_not]at h;obtain⟨Qt,h44⟩:=h;refine aB (λ(s:OA×Int) W=>∃r,s=(some ⟨r,0,none⟩,bR B)/\St aI w W [ai r (gN (bQ B 0,0,bQ B 14,⟨none,0,0⟩,0)),ai r0 (gN mg)]) ?_ ?_
 ·have sd:=s1.drew
  obtain⟨e1,e2⟩:=kq (B:=B) (i:=0) (by omega);obtain⟨f1,f2⟩:=kq (B:=B) (i:=14) (by omega);refine BS.Y4 (hs.grow sd.bS) (j:=0) (by omega) λad ha=>BS.Y4 (hs.grow sd.bS) (j:=14) (by omega) λad2 Ru=>?_;rw[ha]at Ru;cases Ru;have ld4:∀{W L} {k:Int->Pr},St aI w W L->k (bQ B 0) W->oq (ad.add (0*1)) k W:=λst hk=>(hs.grow st.bS).bf ha e1 (by rw[<-e2];exact hk);have ld5:∀{W L} {k:Int->Pr},St aI w W L->k (bQ B 14) W->oq (ad.add (14*1)) k W:=λst hk=>(hs.grow st.bS).bf ha f1 (by rw[<-f2];exact hk);have num:∀{W L} {k:Int->Pr},St aI w W L->k (bR B) W->aq Pq 210 [slV p,iv 2,iv 8] [.c aa] k W:=λst hk=>
   af (adW p B 2 8 _ (hs.grow st.bS) (by decide) (by decide) (by omega) hB) λ_ _ ⟨e,e'⟩=>by subst e e';exact hk
  have nwz:∀{W} {k:Nat->Pr},St aI w W [ai r0 (gN mg)]->(∀r W',St aI w W' [ai r (gN mg),ai r0 (gN mg)]->k r W')->nw (.cells #[iv 0,iv 0,iv 0,.slice none 0 0,iv 0] 109) k W:=λst hk=>St.nw st λr W' s' _ _=>hk r W' s';refine aB (λ(s:OA×(Int×Int×Int×Sl×Int)×Int) W=>∃r,s=(some ⟨r,0,none⟩,(bq (bQ B 0),0,bq (bQ B 14),⟨none,0,0⟩,0),bR B)/\St aI w W [ai r (gN mg),ai r0 (gN mg)]) ?_ ?_
  ·generalize Bh:(λ(s:OA×(Int×Int×Int×Sl×Int)×Int) W=>∃r,s=(some ⟨r,0,none⟩,(bq (bQ B 0),0,bq (bQ B 14),⟨none,0,0⟩,0),bR B)/\St aI w W [ai r (gN mg),ai r0 (gN mg)])=RR
   have fin:∀{r W},St aI w W [ai r (gN mg),ai r0 (gN mg)]->RR (some ⟨r,0,none⟩,(bq (bQ B 0),0,bq (bQ B 14),⟨none,0,0⟩,0),bR B) W:=λ{r W} st=>by rw[<-Bh];exact⟨r,rfl,st⟩
   clear Bh
   repeat' first
    |with_reducible refine kW ?_ ?_
    |with_reducible refine ld4 (by assumption) ?_
    |with_reducible refine ld5 (by assumption) ?_
    |with_reducible refine num (by assumption) ?_
    |with_reducible refine nwz (by assumption) λ_ _ _=>?_
    |exact fin (by assumption)
  rintro _ W ⟨r,rfl,s2⟩;rw[ah];refine s2.S 0 rfl (by simp) trivial λw3 s3=>?_;refine s3.S 0 rfl (by simp) trivial λw4 s4=>?_;refine s4.S 0 rfl (by simp[eF]) trivial λw5 s5=>?_;refine s5.S 0 rfl (by simp[eF]) trivial λw6 s6=>?_;refine s6.S 0 rfl (by simp[eF]) trivial λw7 s7=>?_;rw[fO (n:=bQ B 0) (by have:=jC B 0;omega),fO (n:=bQ B 14) (by have:=jC B 14;omega)]at s7;exact⟨r,rfl,s7⟩
 rintro _ W ⟨r,rfl,s2⟩;have hb0:=jC B 0;have aiS:=jC B 14;have hrn:=zQ B;refine aB (λ_ W=>∃sd,St aI w W [ai r (gN (fL (fq B) sd)),aA 1 sd ((fq B).2.2.2.2.map ub),ai r0 (gN mg)]) ?_ ?_
 ·refine af (adW p B 10 4 _ (hs.grow s2.bS) (by decide) (by decide) (by omega) hB) ?_
  rintro x W3 ⟨hx,rfl⟩;have hx:x=jB B:=by rw[hx];exact fO (by unfold jB at hrn;omega)
  subst hx;rw[ah];refine s2.L 0 rfl (p:=bQ B 0) rfl ?_;unfold fq;refine aj (λhk=>?_) λhk=>?_
  ·have hk:bQ B 0=1:=by simpa using hk
   rw[jd hk];have sd:=s2.drew;obtain⟨e1,e2⟩:=kq (B:=B) (i:=1) (by omega);refine(hs.grow sd.bS).vL (j:=1) e1 ((hs.grow sd.bS).vL (j:=1) e1 ?_);rw[<-e2];have oH:=jC B 1;rw[fO (n:=bQ B 1) (by omega),fO (n:=16+bQ B 1) (by omega)];refine afF (o:=16) (n:=(bQ B 1).toNat) (hs.grow sd.bS) hc (by omega) (by omega) (by omega) λu hu tO _=>?_;refine af (GS u _ _ hu (by omega)) ?_;rintro t W4 ⟨ht,_,g4⟩;have s4:=sd.iJ g4 ht;have s4:St aI w W4 [aA 1 t (((B.drop 16).take (bQ B 1).toNat).map ub),ai r (gN (bQ B 0,0,bQ B 14,⟨none,0,0⟩,0)),ai r0 (gN mg)]:=s4;rw[ah];refine s4.S 1 rfl (by simp) trivial λw5 s5=>?_;refine s5.S 1 rfl (by simp[eF]) trivial λw6 s6=>⟨t,?_⟩;have s6:=s6.aG [1,0,2] 3;rw[hk]at s6;exact s6
  ·have hk:bQ B 0≠1:=by simpa using hk
   rw[jc hk];rw[ah];exact s2.S 0 rfl (by simp) trivial λw5 s5=>⟨⟨none,0,0⟩,(s5.dR 1).aG [1,0,2] 3⟩
 rintro⟨⟩ W3 ⟨sd,s3⟩;rw[ah];refine s3.LA 0 rfl (p:=fL (fq B) sd) rfl ?_;refine af (adX (bR B) (fq B).1 (fq B).2.1 (fq B).2.2.1 (fq B).2.2.2.1 sd (fq B).2.2.2.2 W3 (s3.ak 1).sl.bs) ?_;rintro⟨x,e⟩ W4 ⟨he,hP⟩;dsimp only at he hP;refine aB (λb W=>b=decide (¬(eP (bR B) (fq B)=0/\ej (bR B) (fq B)=B))/\St aI w W [ai r0 (gN mg),ai r (gN (fL (fq B) sd)),aA 1 sd ((fq B).2.2.2.2.map ub)]) ?_ ?_
 ·unfold eP ej
  rw[<-he]at hP⊢;rcases hP with⟨h1,rfl,g4⟩|⟨h1,k4⟩
  ·exact cj (by simpa using h1) ⟨bH λh'=>h1 h'.1,(s3.grow g4).aG [2,0,1] 3⟩
  ·have k5:=s3.bP k4
   refine aK (by simp[h1]) ?_;refine af (SZ x p _ B W4 k5.sl.bs (hs.grow k5.bS)) ?_;rintro _ _ ⟨rfl,rfl⟩;refine⟨?_,k5.aG [3,1,2] 4⟩;generalize CI _ _ _ _ _ _=X;by_cases Dt:X=B<;>simp[Dt,h1]
 rintro _ W5 ⟨rfl,s5⟩;refine aj (λh=>?_) λh=>?_
 ·simp only[jb]at h
  have hp:dK B=(Vd,0,61):=jc λh'=>h ⟨h'.2.2.1,h'.2.2.2⟩;refine bad _ _ s5 hp _ λW' s2=>?_;rw[hp];exact⟨_,rfl,s2.dR 1⟩
 ·simp only[ja,Classical.not_not]at h
  have hp:dK B=(fq B,bR B,0):=jd ⟨Qt,h44,h.1,h.2⟩;rw[hp];rw[ah];refine s5.LA 1 rfl (p:=fL (fq B) sd) rfl ?_;refine s5.SB 0 rfl rfl (qh (fL (fq B) sd)) λW6 s6=>?_;refine St.LA 0 s6 rfl (p:=fL (fq B) sd) rfl ⟨sd,rfl,?_⟩;exact St.aG [2] 3 s6
set_option maxRecDepth 100000
theorem ahn(p:Sl)(n:Int)(B:LB)(w:World)(hs:BS w p B)(hc:p.len<=p.cap)(hB:B.length<=1000000):
 Calls Pq 126 #[slV p,iv n] w (au [.agg [aa,aa,aa,.slice,aa],.c aa] λr w'=>∃s,r=(fL (eO B n).1 s,(eO B n).2)/\St aI w w' [aA 1 s ((eO B n).1.2.2.2.2.map ub)]):=by
 refine FM p n _ w ?_;unfold aae;refine St.nw (St.bC w) λr0 w1 s1 _ _=>?_;have s1:St aI w w1 [ai r0 (gN mg)]:=s1;have bad:∀W L,St aI w W (ai r0 (gN mg)::L)->∀(k:Int×Int×Int×Sl×Int->Pr),(∀W',St aI w W' []->k mg W')->
  gM r0 0 [iv 0,iv 0,iv 0,.slice none 0 0,iv 0] (bf [aa,aa,aa,.slice,aa] (bA r0 0) k) W:=by
  intro W L st k hk;refine st.SB 0 rfl rfl (qh mg) λW2 s2=>?_;exact St.LA 0 s2 rfl (p:=mg) rfl (hk W2 ⟨s2.bS,aI,λ_ h=>h,λ_ h=>h.elim⟩)
 refine af (adY n w1) ?_;rintro _ _ ⟨rfl,rfl⟩;unfold eO;refine aj (λh=>?_) λh=>?_
 ·rw[jd (by simpa using h)]
  exact bad _ _ s1 _ λW' s2=>⟨_,rfl,s2.dR 1⟩
 rw[jc (by simpa using h)];refine af (ahm p B w1 (hs.grow s1.bS) hc hB) ?_;generalize dK B=P;obtain⟨x,l,e⟩:=P;rintro _ w2 ⟨s,rfl,k2⟩;have s2:=s1.bP k2;have s2:St aI w w2 [aA 1 s (x.2.2.2.2.map ub),ai r0 (gN mg)]:=s2;dsimp only;refine St.iB s2 rfl (qh (fL x s)) λr1 w3 s3=>?_;have s3:St aI w w3 [ai r1 (gN (fL x s)),aA 1 s (x.2.2.2.2.map ub),ai r0 (gN mg)]:=s3;refine aB (λb W=>b=decide (e=0/\l≠n)/\W=w3) ?_ ?_
 ·refine aj (λh=>⟨?_,rfl⟩) λh=>⟨?_,rfl⟩
  ·have h:e=0:=by simpa using h
   by_cases hl:l=n<;>simp[h,hl]
  ·have h:e≠0:=by simpa using h
   simp[h]
 rintro _ _ ⟨rfl,rfl⟩;refine aj (λh=>?_) λh=>?_
 ·rw[jd (by simpa using h)]
  exact bad _ _ (s3.aG [2] 3) _ λW' s2=>⟨_,rfl,s2.dR 1⟩
 rw[jc (by simpa using h)];refine s3.LA 0 rfl (p:=fL x s) rfl ?_;refine s3.SB 2 rfl rfl (qh (fL x s)) λw4 s4=>?_;refine s4.LA 2 rfl (p:=fL x s) rfl ?_;exact⟨s,rfl,s4.aG [1] 3⟩
def aaE:An:=(.n (.n .z))
def aaF(p0:OA)(Q:Int->Pr):Pr:=
 deref p0 λa=>
 bE (a.add 2) λt6=>
 Q ((bq (4*t6)))
theorem FX(p0 Q w)(h:aaF p0 Q w):Calls Pq 111 #[(.pointer p0)] w (au [.c aa] Q):=cF (an:=aaE) Tryz.func111 (by kernel_rfl) h
def aaG:An:=(.n (.n (.n .z)))
def aaH(p0:OA)(p1:Int)(Q:Int×Int->Pr):Pr:=
 cI 111 [(.pointer p0)] λt9=>
 cq ((t9:Int)≠0)<|
 deref p0 λa=>
 bE (a.add 1) λt14=>
 cq ((4:Int)≠0)<|
 cq ((4:Int)≠0)<|
 Q ((bq (t14+(bq ((p1.tmod t9).tdiv 4)))),(bq (((p1.tmod t9).tmod 4)*64)))
theorem FY(p0 p1 Q w)(h:aaH p0 p1 Q w):Calls Pq 125 #[(.pointer p0),(iv p1)] w (au [.c aa,.c aa] Q):=cF (an:=aaG) Tryz.func125 (by kernel_rfl) h
def aaI:An:=(.n (.n .z))
def aaJ(p0:OA)(Q:Bool->Pr):Pr:=
 cq True<|
 br (Option.isNone p0) (
 Q true) (
 deref p0 λa=>
 bX (a.add 0) λt10=>
 cq True<|
 Q ((Option.isNone t10)))
theorem FZ(p0 Q w)(h:aaJ p0 Q w):Calls Pq 107 #[(.pointer p0)] w (au [.c .bool] Q):=cF (an:=aaI) Tryz.func107 (by kernel_rfl) h
def afV:An:=(.n (.sq (.bl (.n (.br (.n .z) (.sq (.jn [(24,.c .bool)] .z) (.br (.n .z) .z))))) (.n (.n (.n (.sq (.jn [] (.n (.bl (.lp [(12,.c .slice),(13,.c aa),(68,.c aa)] (.n (.sq (.br .z .z) (.sq (.bl (.n (.sq (.jn [(12,.c .slice),(13,.c aa)] (.n (.br (.n (.sq (.n (.br (.n .z) .z)) .z)) .z))) (.sq (.jn [(18,.c .ptr),(19,.c aa)] (.rj [⟨false,[6,11],[6,7,8,9,10,11],[(18,.c .ptr),(102,.agg [(.int .i64),(.int .i64),(.int .i64),.slice,(.int .i64)]),(103,.c aa)]⟩])) (.sq (.n (.br .z .z)) .z))))) .z))))))) (.n .z)))))))
def F72(p0:OA)(p1:Int)(p2:Int)(p3:Int)(Q:(OA)×Sl×Int->Pr):Pr:=
 cI 83 [(.pointer p0)] λt22=>
 br (t22==0) (
 Q (none,⟨none,0,0⟩,2)) (
 jn (S:=Bool) (λR=>
 br (decide (p2<1)) (
 R true) (
 br (decide (p2>256)) (
 R true) (
 br (decide (p1<0)) (
 R true) (
 cI 83 [(.pointer p0)] λt38=>
 br (decide (p2>t38)) (
 R true) (
 cI 83 [(.pointer p0)] λt44=>
 br (decide (p1>(bq (t44-p2)))) (
 R true) (
 br (decide (p3<0)) (
 R true) (
 R ((decide (p3>1152921504606846976)))))))))) λs=>
 br s (
 Q (none,⟨none,0,0⟩,1)) (
 nw (.cells #[(.pointer p0),(iv p1),(iv p2),(iv p3),(.slice none 0 0)] 156) λr=>
 jn (S:=Unit) (λbT=>
 cI 111 [(.pointer (some (bA r 0)))] λt67=>
 bh (S:=Sl×Int×Int) (λX s_2=>
 br (decide (s_2.2.2<t67)) (
 eG<|
 cI 57 [(.pointer (some ⟨r,0,none⟩))] λt75=>
 aq Pq 125 [(.pointer (some (bA r 0))),(iv t75)] [.c aa,.c aa] λ(t76:Int×Int)=>
 jn (S:=Sl×Int) (λeV=>
 br (t76.1 !=s_2.2.1) (
 cO 121 [(.pointer p0),(iv t76.1)] λt85=>
 br (t85.2 !=0) (
 Q (none,⟨none,0,0⟩,t85.2)) (
 eV (t85.1,t76.1))) (
 eV (s_2.1,s_2.2.1))) λfG=>
 jn (S:=(OA)×Int) (λnC=>
 eG<|
 slc 1 fG.1 (some t76.2) (some (bq (t76.2+64))) none λt98=>
 jn (S:=(OA)×(Int×Int×Int×Sl×Int)×Int) (λxF=>
 both (
 cI 57 [(.pointer (some ⟨r,0,none⟩))] λt100=>
 both (
 aq Pq 126 [(slV t98),(iv t100)] [.agg [aa,aa,aa,.slice,aa],.c aa] λ(t101:(Int×Int×Int×Sl×Int)×Int)=>
 nw (.cells #[(iv 0),(iv 0),(iv 0),(.slice none 0 0),(iv 0)] 109) λr_1=>
 xF ((some ⟨r_1,0,none⟩),(t101.1.1,t101.1.2.1,t101.1.2.2.1,t101.1.2.2.2.1,t101.1.2.2.2.2),t101.2)) (
 nw (.cells #[(iv 0),(iv 0),(iv 0),(.slice none 0 0),(iv 0)] 109) λr_2=>
 aq Pq 126 [(slV t98),(iv t100)] [.agg [aa,aa,aa,.slice,aa],.c aa] λ(uC:(Int×Int×Int×Sl×Int)×Int)=>
 xF ((some ⟨r_2,0,none⟩),(uC.1.1,uC.1.2.1,uC.1.2.2.1,uC.1.2.2.2.1,uC.1.2.2.2.2),uC.2))) (
 nw (.cells #[(iv 0),(iv 0),(iv 0),(.slice none 0 0),(iv 0)] 109) λr_3=>
 cI 57 [(.pointer (some ⟨r,0,none⟩))] λuD=>
 aq Pq 126 [(slV t98),(iv uD)] [.agg [aa,aa,aa,.slice,aa],.c aa] λ(uE:(Int×Int×Int×Sl×Int)×Int)=>
 xF ((some ⟨r_3,0,none⟩),(uE.1.1,uE.1.2.1,uE.1.2.2.1,uE.1.2.2.2.1,uE.1.2.2.2.2),uE.2))) λqn=>
 deref qn.1 λec=>
 st (ec.add 0) (iv qn.2.1.1)<|
 st (ec.add 1) (iv qn.2.1.2.1)<|
 st (ec.add 2) (iv qn.2.1.2.2.1)<|
 st (ec.add 3) (slV qn.2.1.2.2.2.1)<|
 st (ec.add 4) (iv qn.2.1.2.2.2.2)<|
 nC (qn.1,qn.2.2)) λsJ=>
 br (sJ.2 !=0) (
 bT ()) (
 eG<|
 ei (bA r 4) λt110=>
 deref sJ.1 λia=>
 bf [aa,aa,aa,.slice,aa] ia λ(t111:Int×Int×Int×Sl×Int)=>
 nw (.cells #[(iv t111.1),(iv t111.2.1),(iv t111.2.2.1),(slV t111.2.2.2.1),(iv t111.2.2.2.2)] 109) λDg=>
 app 109 5 56 [(iv 0),(iv 0),(iv 0),(.slice none 0 0),(iv 0)] t110 ⟨(some ⟨Dg,0,none⟩),1,1⟩ λt113=>
 st (bA r 4) (slV t113)<|
 X (fG.1,fG.2,(bq (s_2.2.2+1))))) (
 bT ())) (⟨none,0,0⟩,(-1),0)) λs_1=>
 ei (bA r 4) λt121=>
 cS 127 [(slV t121)] λt122=>
 Q ((some ⟨r,0,none⟩),t122,0)))
theorem J3(p0 p1 p2 p3 Q w)(h:F72 p0 p1 p2 p3 Q w):Calls Pq 72 #[(.pointer p0),(iv p1),(iv p2),(iv p3)] w (au [.c .ptr,.c .slice,.c aa] Q):=cF (an:=afV) Tryz.func72 (by kernel_rfl) h
def aaK:An:=(.n (.n (.sq (.n (.bl (.lp [(9,.c aa)] (.n (.sq (.br .z .z) (.sq (.bl (.n .z)) .z)))))) (.n .z))))
def aaL(p0:Sl)(Q:Sl->Pr):Pr:=
 cS 65 [(slV p0)] λt6=>
 bh (S:=Int) (λX s=>
 br (decide (s<(t6.len:Int))) (
 el t6 s 5 λa=>
 bf [aa,aa,aa,.slice,aa] a λ(t17:Int×Int×Int×Sl×Int)=>
 aq Pq 129 [(.agg #[(iv t17.1),(iv t17.2.1),(iv t17.2.2.1),(slV t17.2.2.2.1),(iv t17.2.2.2.2)])] [.agg [aa,aa,aa,.slice,aa]] λ(t18:Int×Int×Int×Sl×Int)=>
 el t6 s 5 λa_2=>
 st (a_2.add 0) (iv t18.1)<|
 st (a_2.add 1) (iv t18.2.1)<|
 st (a_2.add 2) (iv t18.2.2.1)<|
 st (a_2.add 3) (slV t18.2.2.2.1)<|
 st (a_2.add 4) (iv t18.2.2.2.2)<|
 X ((bq (s+1)))) (
 Q t6)) 0
theorem F2(p0 Q w)(h:aaL p0 Q w):Calls Pq 127 #[(slV p0)] w (au [.c .slice] Q):=cF (an:=aaK) Tryz.func127 (by kernel_rfl) h
def aaM:An:=(.n (.sq (.n (.br (.n .z) .z)) (.sq (.n (.bl (.lp [(18,.c aa)] (.n (.sq (.br .z .z) (.sq (.bl (.n (.n (.n (.br (.n .z) .z))))) .z)))))) (.sq (.bl (.n (.br (.n .z) (.n (.br (.n .z) .z))))) (.n (.sq (.n (.bl (.lp [(8,.c aa),(9,.c .slice)] (.sq (.n (.br .z .z)) (.bl (.n (.n (.sq (.n (.n (.br (.n .z) .z))) (.n .z))))))))) (.sq (.rj [⟨false,[4,6],[4,6],[(77,.c .ptr),(81,.c .slice),(83,.c .slice)]⟩]) (.n .z))))))))
def aaN(p0:OA)(p1:Sl)(Q:Int->Pr):Pr:=
 cB 107 [(.pointer p0)] λt15=>
 br t15 (
 Q 2) (
 bh (S:=Int) (λX s=>
 br (decide (s<(p1.len:Int))) (
 el p1 s 5 λa=>
 bf [aa,aa,aa,.slice,aa] a λ(t21:Int×Int×Int×Sl×Int)=>
 iB 109 [(iv 0),(iv 0),(iv 0),(.slice none 0 0),(iv 0)] [(iv t21.1),(iv t21.2.1),(iv t21.2.2.1),(slV t21.2.2.2.1),(iv t21.2.2.2.2)] λr=>
 bf [aa,aa,aa,.slice,aa] (bA r 0) λ(t22:Int×Int×Int×Sl×Int)=>
 cI 128 [(.agg #[(iv t22.1),(iv t22.2.1),(iv t22.2.2.1),(slV t22.2.2.2.1),(iv t22.2.2.2.2)])] λt23=>
 br (t23 !=0) (
 Q t23) (
 X ((bq (s+1))))) (
 cI 62 [(.pointer p0)] λt32=>
 br (decide ((p1.len:Int)>t32)) (
 Q 70) (
 cI 57 [(.pointer p0)] λt38=>
 br (decide ((p1.len:Int)>(bq (1152921504606846976-t38)))) (
 Q 3) (
 cI 57 [(.pointer p0)] λt42=>
 bh (S:=Int×Sl) (λAJ s_1=>
 br (decide ((s_1.2.len:Int)>0)) (
 deref p0 λec=>
 aq Pq 125 [(.pointer (some (ec.add 0))),(iv s_1.1)] [.c aa,.c aa] λ(t52:Int×Int)=>
 cq ((64:Int)≠0)<|
 slc 5 s_1.2 none (some (gh (s_1.2.len:Int) (bq (4-(bq (t52.2.tdiv 64)))))) none λt66=>
 cI 168 [(.pointer p0),(iv t52.1),(iv s_1.1),(slV t66)] λt67=>
 br (t67 !=0) (
 Q t67) (
 slc 5 s_1.2 (some (gh (s_1.2.len:Int) (bq (4-(bq (t52.2.tdiv 64)))))) none none λt76=>
 AJ ((bq (s_1.1+(gh (s_1.2.len:Int) (bq (4-(bq (t52.2.tdiv 64))))))),t76))) (
 eG<|
 deref p0 λeo=>
 jn (S:=(OA)×Sl×Sl) (λR=>
 both (
 ei (eo.add 4) λt81=>
 cS 127 [(slV p1)] λt83=>
 R (p0,t81,t83)) (
 cS 127 [(slV p1)] λaaO=>
 ei (eo.add 4) λaaP=>
 R (p0,aaP,aaO))) λs_2=>
 app 109 5 56 [(iv 0),(iv 0),(iv 0),(.slice none 0 0),(iv 0)] s_2.2.1 s_2.2.2 λt84=>
 deref s_2.1 λfS=>
 st (fS.add 4) (slV t84)<|
 Q 0)) (t42,p1))))) 0)
theorem F3(p0 p1 Q w)(h:aaN p0 p1 Q w):Calls Pq 115 #[(.pointer p0),(slV p1)] w (au [.c aa] Q):=cF (an:=aaM) Tryz.func115 (by kernel_rfl) h
def aaQ:An:=(.n (.n (.sq (.n (.br (.n .z) .z)) (.sq (.n (.bl (.lp [(32,.c aa)] (.n (.sq (.br .z .z) (.sq (.bl (.n (.n (.sq (.n (.br (.n .z) .z)) (.n .z))))) .z)))))) (.n .z)))))
def aaR(p0:OA)(p1:Int)(p2:Int)(p3:Sl)(Q:Int->Pr):Pr:=
 deref p0 λa=>
 bX (a.add 0) λt22=>
 cO 121 [(.pointer t22),(iv p1)] λt24=>
 br (t24.2 !=0) (
 Q t24.2) (
 bh (S:=Int) (λX s=>
 br (decide (s<(p3.len:Int))) (
 el p3 s 5 λec=>
 bf [aa,aa,aa,.slice,aa] ec λ(t36:Int×Int×Int×Sl×Int)=>
 iB 109 [(iv 0),(iv 0),(iv 0),(.slice none 0 0),(iv 0)] [(iv t36.1),(iv t36.2.1),(iv t36.2.2.1),(slV t36.2.2.2.1),(iv t36.2.2.2.2)] λr=>
 bf [aa,aa,aa,.slice,aa] (bA r 0) λ(t41:Int×Int×Int×Sl×Int)=>
 cO 204 [(iv (bq (p2+s))),(.agg #[(iv t41.1),(iv t41.2.1),(iv t41.2.2.1),(slV t41.2.2.2.1),(iv t41.2.2.2.2)])] λt42=>
 br (t42.2 !=0) (
 Q t42.2) (
 deref p0 λia=>
 aq Pq 125 [(.pointer (some (ia.add 0))),(iv (bq (p2+s)))] [.c aa,.c aa] λ(t55:Int×Int)=>
 slc 1 t24.1 (some t55.2) none none λt60=>
 y3 1 t60 t42.1<|
 X ((bq (s+1))))) (
 deref p0 λfS=>
 bX (fS.add 0) λt68=>
 cI 132 [(.pointer t68),(iv p1),(slV t24.1)] λt71=>
 Q t71)) 0)
theorem F4(p0 p1 p2 p3 Q w)(h:aaR p0 p1 p2 p3 Q w):Calls Pq 168 #[(.pointer p0),(iv p1),(iv p2),(slV p3)] w (au [.c aa] Q):=cF (an:=aaQ) Tryz.func168 (by kernel_rfl) h
def aaS:An:=(.n (.sq (.n (.br (.n .z) .z)) (.n .z)))
def aaT(p0:OA)(Q:Int->Pr):Pr:=
 cB 107 [(.pointer p0)] λt4=>
 br t4 (
 Q 2) (
 deref p0 λa=>
 bX (a.add 0) λt9=>
 cI 112 [(.pointer t9)] λt10=>
 Q t10)
theorem F5(p0 Q w)(h:aaT p0 Q w):Calls Pq 116 #[(.pointer p0)] w (au [.c aa] Q):=cF (an:=aaS) Tryz.func116 (by kernel_rfl) h
def aaU:An:=(.n (.sq (.bl (.n (.br (.n .z) (.sq (.jn [(8,.c .bool)] .z) (.br (.n .z) .z))))) (.n (.n (.n .z)))))
def aaV(p0:OA)(p1:Int)(Q:Int->Pr):Pr:=
 cB 107 [(.pointer p0)] λt7=>
 br t7 (
 Q 2) (
 jn (S:=Bool) (λR=>
 deref p0 λa=>
 bE (a.add 3) λt13=>
 br (decide (p1<t13)) (
 R true) (
 cI 57 [(.pointer p0)] λt18=>
 R ((decide (p1>t18))))) λs=>
 br s (
 Q 1) (
 eG<|
 deref p0 λcP=>
 ei (cP.add 4) λt25=>
 deref p0 λeo=>
 bE (eo.add 3) λt30=>
 slc 5 t25 (some (bq (p1-t30))) none none λt32=>
 cS 65 [(slV t32)] λt33=>
 deref p0 λfy=>
 st (fy.add 4) (slV t33)<|
 deref p0 λdJ=>
 st (dJ.add 3) (iv p1)<|
 Q 0))
theorem F6(p0 p1 Q w)(h:aaV p0 p1 Q w):Calls Pq 114 #[(.pointer p0),(iv p1)] w (au [.c aa] Q):=cF (an:=aaU) Tryz.func114 (by kernel_rfl) h
def afW:An:=(.n (.sq (.n (.br (.n .z) .z)) (.n .z)))
def F58(p0:OA)(Q:Int->Pr):Pr:=
 cB 107 [(.pointer p0)] λt4=>
 br t4 (
 Q 0) (
 deref p0 λa=>
 bE (a.add 3) λt8=>
 Q t8)
theorem J4(p0 Q w)(h:F58 p0 Q w):Calls Pq 58 #[(.pointer p0)] w (au [.c aa] Q):=cF (an:=afW) Tryz.func58 (by kernel_rfl) h
def afX:An:=(.n (.sq (.n (.br (.n .z) .z)) (.n .z)))
def F57(p0:OA)(Q:Int->Pr):Pr:=
 cB 107 [(.pointer p0)] λt4=>
 br t4 (
 Q 0) (
 eG<|
 deref p0 λa=>
 bE (a.add 3) λt8=>
 deref p0 λcP=>
 ei (cP.add 4) λt12=>
 Q ((bq (t8+(t12.len:Int)))))
theorem J5(p0 Q w)(h:F57 p0 Q w):Calls Pq 57 #[(.pointer p0)] w (au [.c aa] Q):=cF (an:=afX) Tryz.func57 (by kernel_rfl) h
def afY:An:=(.n (.sq (.n (.br (.n .z) .z)) (.n .z)))
def F62(p0:OA)(Q:Int->Pr):Pr:=
 cB 107 [(.pointer p0)] λt4=>
 br t4 (
 Q 0) (
 eG<|
 deref p0 λa=>
 deref p0 λa_2=>
 both (
 cI 111 [(.pointer (some (a.add 0)))] λt8=>
 ei (a_2.add 4) λt12=>
 Q ((bq (t8-(t12.len:Int))))) (
 ei (a_2.add 4) λCt=>
 cI 111 [(.pointer (some (a.add 0)))] λafZ=>
 Q ((bq (afZ-(Ct.len:Int))))))
theorem J6(p0 Q w)(h:F62 p0 Q w):Calls Pq 62 #[(.pointer p0)] w (au [.c aa] Q):=cF (an:=afY) Tryz.func62 (by kernel_rfl) h
def aaW:An:=(.n (.sq (.sq (.jn [(18,.c .bool)] .z) (.br (.n .z) .z)) (.n .z)))
def aaX(p0:Int)(p1:Int)(Q:Int->Pr):Pr:=
 jn (S:=Bool) (λR=>
 br (decide (p1<1)) (
 R true) (
 br (decide (p1>256)) (
 R true) (
 br (decide (p0<0)) (
 R true) (
 R ((decide (p0>1152921504606846976))))))) λs=>
 br s (
 Q 0) (
 Q ((bq (p0+(bq (4*p1))))))
theorem F7(p0 p1 Q w)(h:aaX p0 p1 Q w):Calls Pq 130 #[(iv p0),(iv p1)] w (au [.c aa] Q):=cF (an:=aaW) Tryz.func130 (by kernel_rfl) h
def aaY:An:=(.n (.sq (.sq (.jn [(18,.c .bool)] .z) (.br (.n .z) .z)) (.n .z)))
def aaZ(p0:Int)(p1:Int)(Q:Int->Pr):Pr:=
 jn (S:=Bool) (λR=>
 br (decide (p1<1)) (
 R true) (
 br (decide (p1>256)) (
 R true) (
 br (decide (p0<0)) (
 R true) (
 R ((decide (p0>1152921504606846976))))))) λs=>
 br s (
 Q 0) (
 Q ((bq (p0+(bq (4*p1))))))
theorem F8(p0 p1 Q w)(h:aaZ p0 p1 Q w):Calls Pq 144 #[(iv p0),(iv p1)] w (au [.c aa] Q):=cF (an:=aaY) Tryz.func144 (by kernel_rfl) h
def aa0:An:=(.n (.n (.n .z)))
def aa1(p0:Int)(p1:Int)(p2:Int)(Q:Int×Int->Pr):Pr:=
 cq (((bq (4*p1)):Int)≠0)<|
 cq ((4:Int)≠0)<|
 cq ((4:Int)≠0)<|
 Q ((bq (p0+(bq ((p2.tmod (bq (4*p1))).tdiv 4)))),(bq (((p2.tmod (bq (4*p1))).tmod 4)*64)))
theorem Ga(p0 p1 p2 Q w)(h:aa1 p0 p1 p2 Q w):Calls Pq 193 #[(iv p0),(iv p1),(iv p2)] w (au [.c aa,.c aa] Q):=cF (an:=aa0) Tryz.func193 (by kernel_rfl) h
def aa2:An:=(.n (.sq (.sq (.jn [(56,.c .bool)] .z) (.br (.n .z) .z)) (.n (.sq (.jn [] (.n (.bl (.lp [(12,.c aa)] (.sq (.n (.br .z .z)) (.sq (.bl (.n (.n (.n (.sq (.n (.br (.n .z) .z)) (.n (.sq (.n (.br .z .z)) .z))))))) .z)))))) (.n .z)))))
def aa3(p0:OA)(p1:Int)(p2:Int)(p3:Int)(Q:(OA)×Sl×Int->Pr):Pr:=
 jn (S:=Bool) (λR=>
 br (decide (p2<1)) (
 R true) (
 br (decide (p2>256)) (
 R true) (
 br (decide (p1<0)) (
 R true) (
 deref p0 λa=>
 ei (a.add 0) λt34=>
 br (decide (p1>(t34.len:Int))) (
 R true) (
 deref p0 λcP=>
 ei (cP.add 0) λt43=>
 br (decide (p2>(bq ((t43.len:Int)-p1)))) (
 R true) (
 br (decide (p3<0)) (
 R true) (
 R ((decide (p3>1152921504606846976)))))))))) λs=>
 br s (
 Q (none,⟨none,0,0⟩,1)) (
 nw (.cells #[(.pointer p0),(iv p1),(iv p2),(iv p3),(.slice none 0 0)] 190) λr=>
 jn (S:=Unit) (λbT=>
 bh (S:=Int) (λX s_2=>
 br (decide (s_2<(bq (4*p2)))) (
 aq Pq 193 [(iv p1),(iv p2),(iv (bq (p3+s_2)))] [.c aa,.c aa] λ(t76:Int×Int)=>
 cO 148 [(.pointer p0),(iv t76.1)] λt82=>
 br (t82.2 !=0) (
 Q (none,⟨none,0,0⟩,t82.2)) (
 slc 1 t82.1 (some t76.2) (some (bq (t76.2+64))) none λt93=>
 aq Pq 194 [(slV t93),(iv (bq (p3+s_2)))] [.agg [aa,aa,aa,.slice,aa],.c aa] λ(t95:(Int×Int×Int×Sl×Int)×Int)=>
 iB 109 [(iv 0),(iv 0),(iv 0),(.slice none 0 0),(iv 0)] [(iv t95.1.1),(iv t95.1.2.1),(iv t95.1.2.2.1),(slV t95.1.2.2.2.1),(iv t95.1.2.2.2.2)] λr_1=>
 br (t95.2 !=0) (
 bT ()) (
 eG<|
 ei (bA r 4) λt104=>
 bf [aa,aa,aa,.slice,aa] (bA r_1 0) λ(t105:Int×Int×Int×Sl×Int)=>
 nw (.cells #[(iv t105.1),(iv t105.2.1),(iv t105.2.2.1),(slV t105.2.2.2.1),(iv t105.2.2.2.2)] 109) λr_2=>
 app 109 5 56 [(iv 0),(iv 0),(iv 0),(.slice none 0 0),(iv 0)] t104 ⟨(some ⟨r_2,0,none⟩),1,1⟩ λt107=>
 st (bA r 4) (slV t107)<|
 X ((bq (s_2+1)))))) (
 bT ())) 0) λs_1=>
 ei (bA r 4) λt114=>
 app 109 5 56 [(iv 0),(iv 0),(iv 0),(.slice none 0 0),(iv 0)] ⟨none,0,0⟩ t114 λt115=>
 Q ((some ⟨r,0,none⟩),t115,0))
theorem Gb(p0 p1 p2 p3 Q w)(h:aa3 p0 p1 p2 p3 Q w):Calls Pq 146 #[(.pointer p0),(iv p1),(iv p2),(iv p3)] w (au [.c .ptr,.c .slice,.c aa] Q):=cF (an:=aa2) Tryz.func146 (by kernel_rfl) h
def aa4:An:=(.n (.n .z))
def aa5(p0:OA)(Q:Int->Pr):Pr:=
 eG<|
 deref p0 λa=>
 bE (a.add 3) λt6=>
 deref p0 λcP=>
 ei (cP.add 4) λt10=>
 Q ((bq (t6+(t10.len:Int))))
theorem Gc(p0 Q w)(h:aa5 p0 Q w):Calls Pq 145 #[(.pointer p0)] w (au [.c aa] Q):=cF (an:=aa4) Tryz.func145 (by kernel_rfl) h
def aa6:An:=(.n (.n .z))
def aa7(p0:OA)(Q:Int->Pr):Pr:=
 eG<|
 deref p0 λa=>
 bE (a.add 2) λt6=>
 deref p0 λcP=>
 ei (cP.add 4) λt11=>
 Q ((bq ((bq (4*t6))-(t11.len:Int))))
theorem Gd(p0 Q w)(h:aa7 p0 Q w):Calls Pq 154 #[(.pointer p0)] w (au [.c aa] Q):=cF (an:=aa6) Tryz.func154 (by kernel_rfl) h
def aa8:An:=(.n (.sq (.n (.bl (.lp [(5,.c aa)] (.sq (.n (.br .z .z)) (.sq (.bl (.n (.n (.br (.n .z) .z)))) .z))))) (.sq (.n (.br (.n .z) .z)) (.sq (.n (.br (.n .z) .z)) (.sq (.n (.bl (.lp [(7,.c aa)] (.sq (.n (.br .z .z)) (.bl (.sq (.jn [(8,.c aa)] (.rj [⟨false,[3,7,9],[3,7,9,11],[(51,.c aa),(55,.c aa),(59,.c aa)]⟩])) (.n (.sq (.n (.br (.n .z) .z)) (.sq (.jn [(7,.c aa)] (.bl (.lp [(7,.c aa)] (.sq (.n (.br .z .z)) (.bl (.n (.n (.sq (.n (.br .z .z)) (.n (.n (.n (.n (.br .z .z))))))))))))) (.n (.n (.br (.n .z) .z)))))))))))) (.n (.n .z)))))))
def aa9(p0:OA)(p1:Sl)(Q:Int->Pr):Pr:=
 bh (S:=Int) (λX s=>
 br (decide (s<(p1.len:Int))) (
 el p1 s 5 λa=>
 bf [aa,aa,aa,.slice,aa] a λ(t27:Int×Int×Int×Sl×Int)=>
 cI 196 [(.agg #[(iv t27.1),(iv t27.2.1),(iv t27.2.2.1),(slV t27.2.2.2.1),(iv t27.2.2.2.2)])] λt28=>
 br (t28 !=0) (
 Q t28) (
 X ((bq (s+1))))) (
 cI 154 [(.pointer p0)] λt35=>
 br (decide ((p1.len:Int)>t35)) (
 Q 70) (
 cI 145 [(.pointer p0)] λt40=>
 br (decide ((p1.len:Int)>(bq (1152921504606846976-t40)))) (
 Q 3) (
 bh (S:=Int) (λAJ s_1=>
 br (decide (s_1<(p1.len:Int))) (
 jn (S:=Int) (λR=>
 eG<|
 deref p0 λa_2=>
 deref p0 λec=>
 jn (S:=Int×Int×Int) (λbT=>
 both (
 bE (a_2.add 1) λt51=>
 both (
 bE (ec.add 2) λt55=>
 cI 145 [(.pointer p0)] λt57=>
 bT (t51,t55,(bq (t57+s_1)))) (
 cI 145 [(.pointer p0)] λaba=>
 bE (ec.add 2) λN2=>
 bT (t51,N2,(bq (aba+s_1))))) (
 both (
 bE (ec.add 2) λSc=>
 both (
 bE (a_2.add 1) λx4=>
 cI 145 [(.pointer p0)] λabb=>
 bT (x4,Sc,(bq (abb+s_1)))) (
 cI 145 [(.pointer p0)] λabc=>
 bE (a_2.add 1) λzD=>
 bT (zD,Sc,(bq (abc+s_1))))) (
 cI 145 [(.pointer p0)] λabd=>
 bE (a_2.add 1) λN3=>
 bE (ec.add 2) λabe=>
 bT (N3,abe,(bq (abd+s_1)))))) λfG=>
 aq Pq 193 [(iv fG.1),(iv fG.2.1),(iv fG.2.2)] [.c aa,.c aa] λ(t60:Int×Int)=>
 R t60.1) λs_2=>
 deref p0 λgI=>
 bX (gI.add 0) λt67=>
 cO 148 [(.pointer t67),(iv s_2)] λt69=>
 br (t69.2 !=0) (
 Q t69.2) (
 jn (S:=Int) (λeV=>
 bh (S:=Int) (λX1 qn=>
 br (decide (qn<(p1.len:Int))) (
 cI 145 [(.pointer p0)] λt80=>
 eG<|
 deref p0 λjO=>
 bE (jO.add 1) λt87=>
 deref p0 λmC=>
 bE (mC.add 2) λt91=>
 aq Pq 193 [(iv t87),(iv t91),(iv (bq (t80+qn)))] [.c aa,.c aa] λ(t93:Int×Int)=>
 br (t93.1 !=s_2) (
 eV qn) (
 el p1 qn 5 λmD=>
 bf [aa,aa,aa,.slice,aa] mD λ(t104:Int×Int×Int×Sl×Int)=>
 cO 199 [(iv (bq (t80+qn))),(.agg #[(iv t104.1),(iv t104.2.1),(iv t104.2.2.1),(slV t104.2.2.2.1),(iv t104.2.2.2.2)])] λt105=>
 slc 1 t69.1 (some t93.2) none none λt110=>
 y3 1 t110 t105.1<|
 br (t93.2==192) (
 eV ((bq (qn+1)))) (
 X1 ((bq (qn+1)))))) (
 eV qn)) s_1) λsJ=>
 deref p0 λxE=>
 bX (xE.add 0) λt120=>
 cI 136 [(.pointer t120),(iv s_2),(slV t69.1)] λt123=>
 br (t123 !=0) (
 Q t123) (
 AJ sJ))) (
 deref p0 λTJ=>
 ei (TJ.add 4) λt131=>
 app 109 5 56 [(iv 0),(iv 0),(iv 0),(.slice none 0 0),(iv 0)] ⟨none,0,0⟩ t131 λt132=>
 app 109 5 56 [(iv 0),(iv 0),(iv 0),(.slice none 0 0),(iv 0)] t132 p1 λt134=>
 deref p0 λM3=>
 st (M3.add 4) (slV t134)<|
 Q 0)) 0)))) 0
theorem Ge(p0 p1 Q w)(h:aa9 p0 p1 Q w):Calls Pq 157 #[(.pointer p0),(slV p1)] w (au [.c aa] Q):=cF (an:=aa8) Tryz.func157 (by kernel_rfl) h
def abf:An:=(.n (.sq (.sq (.jn [(16,.c .bool)] .z) (.br (.n .z) .z)) (.n (.n (.n .z)))))
def abg(p0:OA)(p1:Int)(Q:Int->Pr):Pr:=
 jn (S:=Bool) (λR=>
 deref p0 λa=>
 bE (a.add 3) λt9=>
 br (decide (p1<t9)) (
 R true) (
 cI 145 [(.pointer p0)] λt14=>
 R ((decide (p1>t14))))) λs=>
 br s (
 Q 1) (
 eG<|
 deref p0 λcP=>
 ei (cP.add 4) λt21=>
 deref p0 λeo=>
 bE (eo.add 3) λt26=>
 slc 5 t21 (some (bq (p1-t26))) none none λt28=>
 deref p0 λfy=>
 st (fy.add 4) (slV t28)<|
 deref p0 λdJ=>
 st (dJ.add 3) (iv p1)<|
 Q 0)
theorem Gf(p0 p1 Q w)(h:abg p0 p1 Q w):Calls Pq 198 #[(.pointer p0),(iv p1)] w (au [.c aa] Q):=cF (an:=abf) Tryz.func198 (by kernel_rfl) h
end Go.Proofs

set_option maxRecDepth 20000
namespace Go.Eng
section
variable{F0:Nat->Prop}{w0 w:World}{L:List HA}
theorem St.elN{s:Sl}{vs:LV}{j n:Nat}{k:Addr->Pr}(h:St F0 w0 w (aA n s vs::L))(hj:j*n<vs.length)(hk:∀ad,s.a=some ad->k (ad.add (j*n)) w):el s (j:Int) n k w:=by
 have h1:=h.sl;have hlen:=h1.len;rcases h1.row with⟨_,h2,_⟩|⟨b,off,spare,h2,_⟩
 ·have:s.len=0:=by omega
  rw[this]at hlen;omega
 ·refine vq h2 ?_ (hk _ h2)
  rw[hlen]at hj;exact Nat.lt_of_mul_lt_mul_right hj
theorem St.Ol{n:Nat}{s:Sl}{vs:LV}{i:Nat}{v:Value}{ad Y5:Addr}{k:Pr}(h:St F0 w0 w (aA n s vs::L))(ha:s.a=some ad)(had:Y5=ad.add i)(hi:i<vs.length)(hv:aO v)(hk:∀w',St F0 w0 w' (aA n s (vs.set i v)::L)->k w'):Eng.st Y5 v k w:=by
 obtain⟨Y5,h1,h2⟩:=h.put hi hv hk;rw[ha]at h1;cases h1;subst had;exact h2
end
end Go.Eng
namespace Go.Proofs
open Go.Eng
section
variable{F0:Nat->Prop}{w0 w:World}{L:List HA}
abbrev b7(xs:List Rc):HA:=bt (xs.map λx=>c9 (x.1.s,x.2))
theorem _root_.Go.Eng.St.bsI{xs:List Rc}{i:Nat}{x:Rc}(h:St F0 w0 w (b7 xs::L))(hx:xs[i]? =some x):BS w x.1.s x.2:=
 (h.pick (i:=i) (A:=c9 (x.1.s,x.2)) (by simp[hx])).sl.bs
theorem _root_.Go.Eng.St.ss{s:Sl}{xs:List Rc}(h:St F0 w0 w (aA 5 s (rcs xs)::L)):RS w s (xs.map (·.1)):=
 aN.ss Rw.bw (by decide) (n0:=0) (by rw[<-jT];exact h.sl)
theorem _root_.Go.Eng.St.rl{s:Sl}{xs:List Rc}(h:St F0 w0 w (aA 5 s (rcs xs)::b7 xs::L)):RL w s xs:=
 ⟨h.ss,λx hx=>by
   obtain⟨i,hi,rfl⟩:=List.getElem_of_mem hx;exact h.drop.bsI (i:=i) (by simp[hi])⟩
theorem QJ(xs:List Rc)(j:Nat)(hj:j<xs.length)(r:Rw)(l:LB):
 (((((rcs xs).set (j*5+0) (iv r.k)).set (j*5+1) (iv r.b)).set (j*5+2) (iv r.o)).set (j*5+3) (slV r.s)).set (j*5+4) (iv r.m)=rcs (xs.set j (r,l)):=by
 have h1:xs=xs.take j++xs[j]::xs.drop (j+1):=by simp
 have h2:xs.set j (r,l)=xs.take j++(r,l)::xs.drop (j+1):=by rw[List.set_eq_take_append_cons_drop];simp[hj]
 have hl:(rcs (xs.take j)).length=j*5:=by rw[dw,jt];congr 1;omega
 rw[h2]
 conv=>lhs;rw[h1]
 generalize xs[j]=x;generalize xs.take j=A at hl⊢;generalize xs.drop (j+1)=B;have e:∀y:Rc,rcs (A++y::B)=rcs A++(y.1.cells++rcs B):=λy=>by simp[rcs]
 rw[e,e];have st:∀(X:LV) (c:Nat) (v:Value),(rcs A++X).set (j*5+c) v=rcs A++X.set c v:=λX c v=>by
  rw[List.set_append_right _ _ (by omega)];congr 2;omega
 rw[st,st,st,st,st];rfl
theorem _root_.Go.Eng.St.Ve{s:Sl}{xs:List Rc}{j:Nat}{r:Rw}(l:LB){k:Pr}(h:St F0 w0 w (aA 5 s (rcs xs)::L))(hj:j<xs.length)(hk:∀w',St F0 w0 w' (aA 5 s (rcs (xs.set j (r,l)))::L)->k w'):
 el s (j:Int) 5 (λa=>Eng.st (a.add 0) (iv r.k)<|Eng.st (a.add 1) (iv r.b)<|Eng.st (a.add 2) (iv r.o)<|Eng.st (a.add 3) (slV r.s)<|Eng.st (a.add 4) (iv r.m) k) w:=by
 have hl:=dw xs;refine h.elN (by omega) λad ha=>?_;refine h.Ol ha (i:=j*5+0) (by rw[add_add]) (by omega) trivial λw1 h1=>?_;refine h1.Ol ha (i:=j*5+1) (by rw[add_add]) (by simp;omega) trivial λw2 h2=>?_;refine h2.Ol ha (i:=j*5+2) (by rw[add_add]) (by simp;omega) trivial λw3 h3=>?_;refine h3.Ol ha (i:=j*5+3) (by rw[add_add]) (by simp;omega) (by simp) λw4 h4=>?_;refine h4.Ol ha (i:=j*5+4) (by rw[add_add]) (by simp;omega) trivial λw5 h5=>?_;rw[QJ xs j hj r l]at h5;exact hk w5 h5
end
theorem Vf(p:Sl)(xs:List Rc)(w:World)(h:RL w p xs)(hl:p.len<=1000000)(hb:∀x∈xs,x.1.s.len<=100000000000000):
 Calls Pq 127 #[slV p] w (au [.c .slice] λr w'=>∃ys:List Rc,ys.map rv=xs.map rv/\St aI w w' [aA 5 r (rcs ys),b7 ys]):=by
 refine F2 _ _ _ ?_;unfold aaL;have iL:=h.len;refine af (C56 p xs w h hl) ?_;rintro t w1 ⟨ht,g1⟩;have s1:St aI w w1 [aA 5 t (rcs xs)]:=(St.bC w).iJ g1 ht;have gO:t.len=xs.length:=by have:=s1.sl.len;rw[dw]at this;omega
 refine aC (λi W=>∃(j:Nat) (ys:List Rc),i=j/\ys.length=j/\j<=xs.length/\ys.map rv=(xs.take j).map rv/\St aI w W [aA 5 t (rcs (ys++xs.drop j)),b7 ys]) (λi _=>xs.length-i.toNat) ⟨0,[],rfl,rfl,by omega,rfl,(s1.iT).aG [1,0] 2⟩ ?_;rintro _ W ⟨j,ys,rfl,Df,hj,hy,s2⟩;refine aj (λhlt=>?_) λhge=>?_
 ·have hlt:j<xs.length:=by simpa[gO]using hlt
  have hx:xs[j]? =some xs[j]:=by simp[hlt]
  have hgx:(ys++xs.drop j)[j]? =some xs[j]:=by rw[List.getElem?_append_right (by omega)];simp[Df,hlt]
  refine SS.vL Rw.bw s2.ss (r:=xs[j].1) (by rw[jf,hgx];rfl) (by decide) (p:=xs[j].1.p) rfl ?_;refine af (C61 xs[j] W ((h.2 _ (List.getElem_mem hlt)).grow s2.bS) (hb _ (List.getElem_mem hlt))) ?_;rintro _ W2 ⟨⟨d,rfl,hd⟩,g2⟩;have s3:=(s2.iJ g2 hd).aG [1,0,2] 3;have s3:St aI w W2 [aA 5 t (rcs (ys++xs.drop j)),aA 1 d (xs[j].2.map ub),b7 ys]:=s3;refine s3.Ve (r:={xs[j].1 with s:=d}) xs[j].2 (by simp;omega) λW3 s4=>?_;have e:(ys++xs.drop j).set j ({xs[j].1 with s:=d},xs[j].2)=(ys++[({xs[j].1 with s:=d},xs[j].2)])++xs.drop (j+1):=by
   rw[List.set_append_right _ _ (by omega),Df,Nat.sub_self,List.drop_eq_getElem_cons hlt,List.set_cons_zero];simp
  rw[e]at s4;have s5:=(s4.aG [1,2,0] 3).push;refine⟨⟨j+1,ys++[({xs[j].1 with s:=d},xs[j].2)],?_,by simp[Df],hlt,?_,?_⟩,?_⟩
  ·rw[bZ (by omega)]
  ·rw[List.take_add_one,hx,jk,jk,hy];rfl
  ·have s6:=s5.aG [1,0] 2
   have e2:b7 (ys++[({xs[j].1 with s:=d},xs[j].2)])=bt (ys.map (λx=>c9 (x.1.s,x.2))++[c9 (d,xs[j].2)]):=by simp[b7]
   rw[e2];exact s6
  ·rw[bZ (by omega)]
   show xs.length-(((j+1:Nat):Int)).toNat<xs.length-((j:Int)).toNat;omega
 ·have hge:j=xs.length:=by simp[gO]at hge;omega
  subst hge;rw[List.drop_length,List.append_nil]at s2;rw[List.take_length]at hy;exact⟨ys,hy,s2⟩
theorem PG{w:World}{n0 n:Nat}{t s' src:Sl}{vs new:LV}{k:Pr}{o:Nat}(h:aN w n0 n t vs)(ho:o<=t.len)(ha:s'.a=t.a.map (·.add (o*n))\/s'.len=0)(hl:s'.len<=t.len-o)
 (hr:cE w src.a new)(hn:src.a.isSome=true->new.length=src.len*n)(hn0:src.a=none->src.len=0)(hle:src.len<=s'.len)(hna:∀v∈new,aO v)
 (hk:∀w',aN w' n0 n t (vs.take (o*n)++new++vs.drop (o*n+new.length))->Mod t.blk w w'->w'.heap.size=w.heap.size->k w'):y3 n s' src k w:=by
 have hnl:new.length=src.len*n:=by
  cases I1:src.a with
  |some _=>exact hn (by simp[I1])
  |
   none=>
   rw[I1]at hr;have:new=[]:=hr;rw[this,hn0 I1];simp
 refine⟨new,λ_=>by rw[hnl,show Nat.min src.len s'.len=src.len from Nat.min_eq_left hle],hr,?_⟩;by_cases hz:new=[]
 ·subst hz
  rw[G0];refine hk w ?_ (Mod.refl _ _) rfl;simpa using h
 ·have hpos:src.len≠0:=by
   intro h0;rw[h0]at hnl;simp at hnl;exact hz hnl
  have ha':s'.a=t.a.map (·.add (o*n)):=ha.resolve_right (by omega);rcases h.row with⟨h1,h2,h3⟩|⟨b,off,spare,h1,h2,h3,h4,h5,h6⟩
  ·omega
  ·rw[ha',h1]
   show Lk ((Addr.add ⟨b,off,none⟩ (o*n)).add 0) 0 new k w;rw[add_zero',pO,Nat.add_zero];have hlen:=h.len;have hb:o*n+new.length<=vs.length:=by
    rw[hnl,hlen,<-Nat.add_mul];exact Nat.mul_le_mul_right n (by omega)
   refine Ac rfl h5 (by rw[jh];omega) hna h4 ?_;intro w' g1 g2 g3 g4;refine hk w' ⟨?_,h.le,.inr ⟨b,off,spare,h1,h2,by rw[g3];exact h3,g4 _ h4,?_,?_⟩⟩ (g2.mono λc _ hc=>⟨_,h1,hc.symm⟩) g3
   ·simp only[jh,jt,kg]
    omega
   ·rw[List.take_append_of_le_length (by omega),List.drop_append_of_le_length (by omega)]at g1
    simpa[ju]using g1
   ·simp only[jh,jt,kg]at *
    omega
theorem BS.cut{w:World}{s:Sl}{l:LB}(h:BS w s l)(m c:Nat)(hm:m<=s.len):BS w ⟨s.a,m,c⟩ (l.take m):=by
 have hl:=h.len;refine⟨by simp;omega,?_⟩;have hr:=h.row;rw[List.map_take];cases ha:s.a with
 |
  none=>
  rw[ha]at hr;have:l.map ub=[]:=hr;show(l.map ub).take m=[];rw[this,List.take_nil]
 |
  some ad=>
  rw[ha]at hr;exact az.2 ((az.1 hr).take m)
theorem PI{w:World}{n:Nat}{d s:Sl}{k:Pr}(h:y3 n d ⟨s.a,Nat.min s.len d.len,0⟩ k w):y3 n d s k w:=by
 obtain⟨vs,h1,h2,h3⟩:=h;refine⟨vs,λhs=>?_,h2,h3⟩;have:=h1 hs;dsimp only at this;rwa[show Nat.min (Nat.min s.len d.len) d.len=Nat.min s.len d.len from Nat.min_eq_left (Nat.min_le_right _ _)]at this
def kA(p:Int)(k:Nat):Bool:=yC .u8 (ob .u8 p k) 1==1
def bz(b l:LB)(p:Int):Nat->LB
 |0=>b
 |k+1=>if kA p k then lay (bz b l p k) (64*k) ((l.drop (64*k)).take 64)else bz b l p k
theorem gi{b l:LB}{p:Int}(hb:b.length=256)(hl:l.length=256):∀k,k<=4->(bz b l p k).length=256
 |0,_=>hb
 |
  k+1,hk=>by
  unfold bz;have:=gi (p:=p) hb hl k (by omega);split
  ·rw[eB (by simp;omega)];exact this
  ·exact this
def j6(di:DI)(i:Nat)(b:LB):DI:={di with bl:=di.bl.modify i λx=>(x.1,b)}
theorem uZ{l:List (Sl×LB)}{i:Nat}{b:LB}:(l.modify i λx=>(x.1,b)).map (·.2)=(l.map (·.2)).set i b:=by
 refine List.ext_getElem? λj=>?_;rw[jf,List.getElem?_modify,List.getElem?_set,je];by_cases h:i=j
 ·subst h
  simp only[if_true];split
  ·rename_i h
   simp[h]
  ·rename_i h
   rw[List.getElem?_eq_none (by omega)];rfl
 ·simp[h]
theorem u6{l:List (Sl×LB)}{i:Nat}{b:LB}:(l.modify i λx=>(x.1,b)).map (λx=>slV x.1)=l.map λx=>slV x.1:=by
 refine List.ext_getElem? λj=>?_;rw[jf,List.getElem?_modify,jf];cases hj:l[j]?with
 |none=>rfl
 |some x=>by_cases h:i=j<;>simp[h]
theorem qy{l:List (Sl×LB)}{i:Nat}{b:LB}{x:Sl×LB}(hx:l[i]? =some x):(l.modify i λx=>(x.1,b))=l.set i (x.1,b):=by
 refine List.ext_getElem? λj=>?_;rw[List.getElem?_modify,List.getElem?_set];by_cases h:i=j
 ·subst h;rw[hx];simp[(aE hx).2]
 ·simp[h]
theorem BD{l:List (Sl×LB)}{i:Nat}{x:Sl×LB}(hx:l[i]? =some x):(l.modify i λy=>(y.1,x.2))=l:=by
 rw[qy hx];refine List.ext_getElem? λj=>?_;rw[List.getElem?_set];split
 ·rename_i h;subst h;rw[jd (aE hx).2,hx]
 ·rfl
def lz(p:Nat)(D:DM)(i:DI):List HA:=
 [ai p [slV i.bs,slV i.ws,.bool D.off,.int .i64 D.ops,.int .i64 D.aS,slV i.ps],aA 1 i.bs (i.bl.map λx=>slV x.1),aA 2 i.ws (i.wl.flatMap de),aA 1 i.ps (D.j5.map ub),bt (i.bl.map c9),bt (i.wl.map λx=>c9 x.2)]
theorem Xo(p:Nat)(D:DM)(di:DI)(i j:Nat)(s:Sl)(l:LB)(x:Sl×LB)(pick:Int)(w:World)(F:Nat->Prop)(h:Has (lz p D di) w F)(hx:di.bl[i]? =some x)(hj:di.wl[j]? =some ((i:Int),s,l))(wG:x.2.length=256)(iP:l.length=256):
 Calls Pq 120 #[P0 p,.agg #[.int .i64 (i:Int),.slice s.a s.len s.cap],.int .u8 pick] w (au [] λ_ w'=>St F w w' (lz p D (j6 di i (bz x.2 l pick 4)))):=by
 refine DY _ _ _ _ _ _ ?_;unfold Xp;refine St.nw (St.init h) λr w1 s1 _ _=>?_;simp only[ah];refine aC (λz W=>∃k:Nat,z=k/\k<=4/\St F w W (ai r [.int .i64 (i:Int),slV s]::lz p D (j6 di i (bz x.2 l pick k)))) (λz _=>4-z.toNat) ⟨0,rfl,by omega,?_⟩ ?_
 ·have:j6 di i (bz x.2 l pick 0)=di:=by
   unfold j6 bz;rw[BD hx]
  rw[this];exact s1
 rintro _ W ⟨k,rfl,hk,st⟩;refine aj (λhlt=>?_) (λhge=>?_)
 rotate_left
 ·simp only[ja]at hge
  have:k=4:=by omega
  subst this;exact st.drop
 simp only[jb]at hlt;refine aB (λ_ W'=>St F w W' (ai r [.int .i64 (i:Int),slV s]::lz p D (j6 di i (bz x.2 l pick (k+1))))) ?_ ?_
 rotate_left
 ·rintro⟨⟩ W' s2
  rw[bO (by omega)];exact⟨⟨k+1,rfl,by omega,s2⟩,by omega⟩
 refine⟨by omega,?_⟩;have Xq:(bz x.2 l pick k).length=256:=gi wG iP k (by omega);refine aj (λTh=>?_) (λTh=>?_)
 rotate_left
 ·have:bz x.2 l pick (k+1)=bz x.2 l pick k:=by
   show(if kA pick k then _ else _)=_;rw[jc (by unfold kA;rw[Th];simp)]
  rw[this];exact st
 have V9:bz x.2 l pick (k+1)=lay (bz x.2 l pick k) (64*k) ((l.drop (64*k)).take 64):=by
  show(if kA pick k then _ else _)=_;rw[jd (show kA pick k=true from Th)]
 rw[aL];have sd:=st.drew;have hil:=(aE hx).2;have hx2:(j6 di i (bz x.2 l pick k)).bl[i]? =some (x.1,bz x.2 l pick k):=by
  show(di.bl.modify i _)[i]? =_;rw[List.getElem?_modify,hx];simp
 refine(sd.ak 1).ld (i:=0) (s:=.slice) (p:=di.bs) rfl ?_;refine sd.ld (i:=0) (s:=aa) (p:=(i:Int)) rfl ?_;have PJ:=aT (sd.ak 2).sl;rw[je]at PJ;have iu:(j6 di i (bz x.2 l pick k)).bl.length=di.bl.length:=by show(di.bl.modify i _).length=_;simp
 refine⟨⟨by omega,by show(i:Int)<(di.bs.len:Int);have:di.bs.len=di.bl.length:=PJ.trans iu;omega⟩,?_⟩;refine qx (sd.ak 2).sl (p:=x.1) (by rw[jl,jf,hx2];rfl) ?_;have sp:=(sd.ak 5).pick (i:=i) (A:=c9 (x.1,bz x.2 l pick k)) (by rw[jf,hx2];rfl);have kJ:=aT sp.sl;rw[je,Xq]at kJ;have hxc:=sp.sl.le;dsimp only at kJ hxc;rw[show IntKind.wrap .i64 ((k:Int)*64)=((64*k:Nat):Int) by rw[wrap_i64 (by omega)];omega];rw[show IntKind.wrap .i64 (((64*k:Nat):Int)+64)=((64*k+64:Nat):Int) by rw[wrap_i64 (by omega)];omega];refine⟨by simp,by simp,λy hy=>?_,λy hy=>?_,?_⟩
 ·simp only[jg]at hy;subst hy
  simp only[Option.map_none,Option.getD_none];omega
 ·simp only[jg]at hy;subst hy
  simp only[Option.map_some,Option.getD_some,jl];omega
 simp only[Option.map_none,Option.map_some,Option.getD_none,Option.getD_some,jl,Nat.mul_one];refine sd.ld (i:=1) (s:=.slice) (p:=s) rfl ?_;have IK:BS _ s l:=((sd.ak 6).pick (i:=j) (A:=c9 (s,l)) (by simp[j6,hj])).sl.bs;have fP:=IK.len;refine tT (by omega) (by omega) ?_;simp only[jl,Nat.mul_one];refine PI ?_;have hsrc:BS W.drew ⟨if s.cap=64*k then s.a else s.a.map (·.add (64*k)),s.len-64*k,s.cap-64*k⟩ (l.drop (64*k)):=by
  refine⟨by simp;omega,?_⟩;have hrow:=IK.row;have ais:64*k<s.cap:=by
   have:=((sd.ak 6).pick (i:=j) (A:=c9 (s,l)) (by simp[j6,hj])).sl.le;dsimp only at this;omega
  show cE W.drew (if s.cap=64*k then s.a else s.a.map (·.add (64*k))) ((l.drop (64*k)).map ub);rw[jc (by omega),List.map_drop];cases I1:s.a with
  |
   none=>
   have:=IK.bY I1;omega
  |
   some ad=>
   rw[I1]at hrow;exact az.2 ((az.1 hrow).drop _)
 have Xr:=BS.cut hsrc 64 0 (by dsimp only;omega);have Xs:Nat.min (s.len-64*k) (64*k+64-64*k)=64:=by
  show min _ _=64;omega
 dsimp only at Xs⊢;rw[Xs];refine PG sp.sl (o:=64*k) (by dsimp only;omega) (.inl ?_) (by dsimp only;omega) Xr.row (λ_=>?_) Xr.bY (by dsimp only;omega) fc ?_
 ·dsimp only
  rw[jc (by omega),Nat.mul_one]
 ·simp only[je,jt,kg];omega
 ·intro w' g1 g2 g3
  have s3:=sp.Rt g2 (us:=(bz x.2 l pick (k+1)).map ub) ?_ λ_ h=>.inl h
  ·have s4:=St.nk (A:=c9 (x.1,bz x.2 l pick (k+1))) s3 (by rw[je,iu];exact hil)
   have e:((j6 di i (bz x.2 l pick k)).bl.map c9).set i (c9 (x.1,bz x.2 l pick (k+1)))=(j6 di i (bz x.2 l pick (k+1))).bl.map c9:=by
    show((di.bl.modify i _).map c9).set i _=(di.bl.modify i _).map c9;rw[qy hx,qy hx,<-List.map_set,List.set_set]
   rw[e]at s4;have e2:(j6 di i (bz x.2 l pick k)).bl.map (λx=>slV x.1)=(j6 di i (bz x.2 l pick (k+1))).bl.map (λx=>slV x.1):=by
    show(di.bl.modify i _).map _=(di.bl.modify i _).map _;rw[u6,u6]
   have s5:=s4.aG [1,2,3,4,5,0,6] 7;rw[e2]at s5;exact s5
  ·have hh:((bz x.2 l pick k).map ub).take (64*k*1)++((l.drop (64*k)).take 64).map ub++((bz x.2 l pick k).map ub).drop (64*k*1+(((l.drop (64*k)).take 64).map ub).length)=(bz x.2 l pick (k+1)).map ub:=by
    rw[V9];unfold lay;simp only[Nat.mul_one,jk,List.map_take,List.map_drop,je,jt,kg]
   rw[<-hh];exact g1
def dx:List (LB)->List (Int×LB)->LB->List (LB)
 |bl,[],_=>bl
 |bl,_::_,[]=>bl
 |bl,x::ws,p::ps=>dx (bl.set x.1.toNat (bz ((bl[x.1.toNat]?).getD []) x.2 p.toNat 4)) ws ps
def dI(D:DM)(pl:LB):DM:=⟨dx D.blocks D.wait pl,[],true,D.ops,0,[]⟩
def cy(D:DM):Bool×DM:=
 if D.aS=0 then(false,{D with ops:=D.ops+1})
 else if D.aS>1 then(false,{D with ops:=D.ops+1,aS:=D.aS-1})
 else(true,dI {D with ops:=D.ops+1} D.j5)
theorem LY{w:World}{s:Sl}{l:LB}{j:Nat}{b:UInt8}{k:Int->Pr}(h:BS w s l)(hb:l[j]? =some b)(hk:k (b.toNat:Int) w):
 (cq ((0:Int)<=(j:Int)/\(j:Int)<(s.len:Int))<|deref s.a λa=>bI (.int .u8) (a.add (Int.toNat (j:Int)*1)) k) w:=by
 obtain⟨ad,h1,h2⟩:=h.get hb;have hl:=h.len;have:=(aE hb).2;refine⟨⟨by omega,by omega⟩,?_⟩;rw[h1];simp only[ah,jl,Nat.mul_one];exact fe (s:=.int .u8) (p:=(b.toNat:Int)) h2 hk
theorem Xt{w:World}{s:Sl}{wl:List (Int×Sl×LB)}{j:Nat}{x:Int×Sl×LB}{k:Int×Sl->Pr}(h:aN w 0 2 s (wl.flatMap de))(hx:wl[j]? =some x)(hk:k (x.1,x.2.1) w):
 (cq ((0:Int)<=(j:Int)/\(j:Int)<(s.len:Int))<|deref s.a λa=>bf [aa,.slice] (a.add (Int.toNat (j:Int)*2)) k) w:=by
 have DZ:WS w s wl:=aN.ss bL (by decide) h;have hl:=DZ.len;have:=(aE hx).2;refine⟨⟨by omega,by omega⟩,?_⟩;obtain⟨ad,ha,hrow⟩:=DZ.get (n:=2) bL hx (by decide);rw[ha];simp only[ah,jl];exact ek (p:=(x.1,x.2.1)) (show dL w (ad.add (j*2)) 0 (fY [aa,.slice] (x.1,x.2.1))from az.2 hrow) hk
structure qz(di dj:DI):Prop where
 bs:dj.bs=di.bs
 ws:dj.ws=di.ws
 ps:dj.ps=di.ps
 wl:dj.wl=di.wl
theorem C95(p:Nat)(D:DM)(di:DI)(q:Sl)(pl:LB)(w:World)(F:Nat->Prop)(h:Has (lz p D di) w F)(hb:D.blocks=di.bl.map (·.2))(hw:D.wait=di.wl.map λx=>(x.1,x.2.2))(hok:D.ok)(jU:D.wait.length<=1000000000)
 (hq:∀W dj L,qz di dj->St F w W (lz p D dj++L)->BS W q pl):
 Calls Pq 68 #[P0 p,.slice q.a q.len q.cap] w (au [] λ_ w'=>St F w w' [ag p (dI D pl)]):=by
 refine I2 _ _ _ _ ?_;unfold F68;have st:=St.init h;simp only[ah];refine st.ld (i:=1) (s:=.slice) (p:=di.ws) rfl ?_;have hwn:di.wl.length<=1000000000:=by rw[hw,je]at jU;exact jU
 have I3:di.ws.len=di.wl.length:=(aN.ss (f:=de) bL (by decide) (st.ak 2).sl).len;refine aC (λz W=>∃(j:Nat) (dj:DI),z=j/\j<=di.wl.length/\qz di dj/\(dj.bl.map (·.2)).length=D.blocks.length/\(∀b∈dj.bl.map (·.2),b.length=256)/\dx (dj.bl.map (·.2)) (D.wait.drop j) (pl.drop j)=dx D.blocks D.wait pl/\St F w W (lz p D dj)) (λz _=>di.wl.length-z.toNat)
  ⟨0,di,rfl,by omega,⟨rfl,rfl,rfl,rfl⟩,by rw[hb],by rw[<-hb];exact hok.len,by rw[hb];rfl,st⟩ ?_
 rintro _ W ⟨j,dj,rfl,hj,hsame,iu,kH,kB,s1⟩;have hqs:=hq W dj [] hsame s1;have PK:=hqs.len;refine aj (λhlt=>?_) (λhge=>?_)
 ·simp only[jb]at hlt
  have hjl:j<di.wl.length:=by omega
  refine aB (λ_ W'=>∃dj:DI,qz di dj/\(dj.bl.map (·.2)).length=D.blocks.length/\(∀b∈dj.bl.map (·.2),b.length=256)/\dx (dj.bl.map (·.2)) (D.wait.drop (j+1)) (pl.drop (j+1))=dx D.blocks D.wait pl/\St F w W' (lz p D dj)) ?_ ?_
  rotate_left
  ·rintro⟨⟩ W' ⟨dk,h1,h2,h3,h4,s2⟩
   rw[bO (by omega)];exact⟨⟨j+1,dk,rfl,hjl,h1,h2,h3,h4,s2⟩,by omega⟩
  obtain⟨x,D3⟩:∃x,di.wl[j]? =some x:=⟨di.wl[j],by simp[hjl]⟩;have Bb:D.wait[j]? =some (x.1,x.2.2):=by rw[hw,jf,D3];rfl
  have yF:=hok.kM _ (ji Bb);dsimp only at yF;have nU:D.wait.drop j=(x.1,x.2.2)::D.wait.drop (j+1):=by
   have:=(aE Bb).2;rw[jo this,jg]at Bb;rw[List.drop_eq_getElem_cons this,Bb]
  refine Xt (x:=x) (s:=di.ws) (wl:=di.wl) (by have:=(s1.ak 2).sl;rw[hsame.ws,hsame.wl]at this;exact this) D3 ?_;refine St.nw s1 λr w2 s2 _ _=>?_;refine s2.Rr trivial λw3 s3=>?_;refine s3.st (i:=1) (by simp) trivial λw4 s4=>?_;refine aj (λvG=>?_) (λLO=>?_)
  ·simp only[jb]at vG
   have Xu:j<pl.length:=by omega
   rw[aL];have s5:=s4.drew;have LZ:pl.drop j=pl[j]::pl.drop (j+1):=List.drop_eq_getElem_cons Xu;refine ek (p:=(x.1,x.2.1)) (show dL _ ⟨r,0,none⟩ 0 (fY [aa,.slice] (x.1,x.2.1))from az.2 s5.box.row) ?_;refine LY (b:=pl[j]) (hq _ dj [_] hsame (s5.aG [1,2,3,4,5,6,0] 7)) (by simp[Xu]) ?_;obtain⟨G,H,g1,_,_,_,gc⟩:=St.call (lz p D dj) (s5.drop);obtain⟨i,hi⟩:=Int.eq_ofNat_of_zero_le yF.1;have hil:i<dj.bl.length:=by rw[je]at iu;omega
   obtain⟨y,hy⟩:∃y,dj.bl[i]? =some y:=⟨dj.bl[i],by simp[hil]⟩;have oK:y.2.length=256:=kH _ (ki.2 ⟨y,ji hy,rfl⟩);have zX:dj.wl[j]? =some ((i:Int),x.2.1,x.2.2):=by rw[hsame.wl,D3,<-hi]
   dsimp only;rw[hi];refine af (Xo p D dj i j x.2.1 x.2.2 y (pl[j].toNat:Int) _ G g1 hy zX oK yF.2.2) ?_;rintro⟨⟩ w6 s6;have s7:=gc _ _ s6;have od:(j6 dj i (bz y.2 x.2.2 (pl[j].toNat:Int) 4)).bl.map (·.2)=(dj.bl.map (·.2)).set i (bz y.2 x.2.2 (pl[j].toNat:Int) 4):=uZ;refine⟨j6 dj i (bz y.2 x.2.2 (pl[j].toNat:Int) 4),⟨hsame.bs,hsame.ws,hsame.ps,hsame.wl⟩,?_,?_,?_,?_⟩
   ·rw[od,List.length_set];exact iu
   ·intro b L0
    rw[od]at L0;rcases List.mem_or_eq_of_mem_set L0 with h|rfl
    ·exact kH b h
    ·exact gi oK yF.2.2 4 (by omega)
   ·rw[<-kB,od,nU,LZ]
    show _=dx ((dj.bl.map (·.2)).set x.1.toNat _) _ _;rw[hi];simp only[Int.ofNat_eq_natCast,jl,jf,hy,Option.map_some,Option.getD_some]
   ·rw[List.append_nil]at s7;exact s7
  ·simp only[ja]at LO
   refine⟨dj,hsame,iu,kH,?_,s4.drop⟩;rw[<-kB,nU,List.drop_eq_nil_of_le (show pl.length<=j by omega),List.drop_eq_nil_of_le (show pl.length<=j+1 by omega)];cases hh:D.wait.drop (j+1)<;>rfl
 ·simp only[ja]at hge
  have:j=di.wl.length:=by omega
  have LG:D.wait.drop j=[]:=by rw[hw,this];exact List.drop_eq_nil_of_le (by simp)
  refine s1.st (i:=1) (by simp) trivial λw2 s2=>?_;refine s2.st (i:=5) (by simp) trivial λw3 s3=>?_;refine s3.st (i:=2) (by simp) trivial λw4 s4=>?_;refine s4.st (i:=4) (by simp) trivial λw5 s5=>?_;refine fQ (D:=dI D pl) ⟨dj.bs,⟨none,0,0⟩,⟨none,0,0⟩,dj.bl,[]⟩ ?_ rfl ?_
  ·rw[LG]at kB
   have hf:dx (dj.bl.map (·.2)) [] (pl.drop j)=dj.bl.map (·.2):=by unfold dx;rfl
   rw[hf]at kB;exact kB.symm
  ·exact(((s5.dR 2).dR 1).iT).aG [3,4,2,1,7,0] 9
theorem C76(p:Nat)(D:DM)(w:World)(F:Nat->Prop)(h:Has [ag p D] w F)(hok:D.ok)(jU:D.wait.length<=1000000000)(ha:0<=D.aS)(Ru:D.aS<=9223372036854775807)(ho:0<=D.ops/\D.ops<=1000000000000000):
 Calls Pq 166 #[P0 p] w (au [.c .bool] λr w'=>r=(cy D).1/\St F w w' [ag p (cy D).2]):=by
 refine D4 _ _ _ ?_;unfold Xv;obtain⟨i,st⟩:=(St.init h).ex;obtain⟨⟨hb,hw⟩,st⟩:=st.p;simp only[ah];refine st.ld (i:=3) (s:=aa) (p:=D.ops) rfl ?_;rw[show IntKind.wrap .i64 (D.ops+1)=D.ops+1 from wrap_i64 (by omega)];refine st.st (i:=3) (by simp) trivial λw1 s1=>?_;refine s1.ld (i:=4) (s:=aa) (p:=D.aS) rfl ?_;refine aj (λh0=>?_) (λh0=>?_)
 ·have h0:D.aS=0:=by simpa using h0
  have hg:cy D=(false,{D with ops:=D.ops+1}):=by unfold cy;rw[jd h0]
  rw[hg];exact⟨rfl,fQ (D:={D with ops:=D.ops+1}) i hb hw s1⟩
 have h0:D.aS≠0:=by simpa using h0
 refine s1.ld (i:=4) (s:=aa) (p:=D.aS) rfl ?_;rw[show IntKind.wrap .i64 (D.aS-1)=D.aS-1 from wrap_i64 (by omega)];refine s1.st (i:=4) (by simp) trivial λw2 s2=>?_;refine s2.ld (i:=4) (s:=aa) (p:=D.aS-1) rfl ?_;refine aj (λh1=>?_) (λh1=>?_)
 ·simp only[gt_iff_lt,jb]at h1
  have hg:cy D=(false,{D with ops:=D.ops+1,aS:=D.aS-1}):=by unfold cy;rw[jc h0,jd (by omega)]
  rw[hg];exact⟨rfl,fQ (D:={D with ops:=D.ops+1,aS:=D.aS-1}) i hb hw s2⟩
 simp only[gt_iff_lt,ja]at h1;have hg:cy D=(true,dI {D with ops:=D.ops+1} D.j5):=by unfold cy;rw[jc h0,jc (by omega)]
 rw[hg];refine s2.ld (i:=5) (s:=.slice) (p:=i.ps) rfl ?_;obtain⟨G,H,g1,_,_,_,gc⟩:=St.call (lz p {D with ops:=D.ops+1,aS:=D.aS-1} i) (l:=[]) s2;refine af (C95 p {D with ops:=D.ops+1,aS:=D.aS-1} i i.ps D.j5 w2 G g1 hb hw ⟨hok.len,hok.kM,hok.pos,hok.le⟩ jU λW dj L hs s3=>?_) ?_
 ·have:=(s3.ak 3).sl.bs
  rw[hs.ps]at this;exact this
 rintro⟨⟩ w3 s3;exact⟨rfl,gc _ _ s3⟩
def aH(D:DM)(i:Int)(l:LB):Int×DM:=
 if aM D i≠0 then(aM D i,D)else if l.length≠256 then(31,D)else(if(cy (ff D i l)).1 then 5 else 0,(cy (ff D i l)).2)
theorem rT{D:DM}(h:D.ok){i:Int}{l:LB}(hi:0<=i/\i<D.blocks.length)(hl:l.length=256):(ff D i l).ok:=
 ⟨h.len,λx hx=>by
   rcases jz.1 hx with h1|h1
   ·exact h.kM x h1
   ·rw[jq]at h1;subst h1;exact⟨hi.1,hi.2,hl⟩,h.pos,h.le⟩
theorem Ti(p:Nat)(D:DM)(i:Int)(b:Sl)(l:LB)(w:World)(F:Nat->Prop)(h:Has [ag p D] w F)(hb:Rd w F b l)(hok:D.ok)(jU:D.wait.length<=100000000)(ha:0<=D.aS)(Ru:D.aS<=9223372036854775807)(ho:0<=D.ops/\D.ops<=1000000000000000):
 Calls Pq 132 #[P0 p,.int .i64 i,.slice b.a b.len b.cap] w (au [.c aa] λr w'=>r=(aH D i l).1/\St F w w' [ag p (aH D i l).2]):=by
 refine Calls.mono (C40 p D (cy (ff D i l)).2 i b l (cy (ff D i l)).1 w F h hb hok (by omega) λhp hl W G g1=>?_) ?_
 ·obtain⟨_,p1,p2⟩:D.off=false/\0<=i/\i<D.blocks.length:=by
   unfold aM at hp;split at hp
   ·cases hp
   ·split at hp
    ·cases hp
    ·rename_i h1 h2
     exact⟨by simpa using h1,by omega⟩
  exact C76 p (ff D i l) W G g1 (rT hok ⟨p1,p2⟩ hl) (by show(D.wait++[_]).length<=_;rw[jh,List.length_singleton];omega) ha Ru ho
 ·rintro e w' ⟨r,he,hr⟩
  refine⟨r,he,?_⟩;unfold aH;by_cases h1:aM D i≠0
  ·rw[jd h1]at hr⊢
   obtain⟨rfl,rfl⟩:=hr;exact⟨rfl,St.init h⟩
  ·rw[jc h1]at hr⊢
   by_cases h2:l.length≠256
   ·rw[jd h2]at hr⊢
    obtain⟨rfl,rfl⟩:=hr;exact⟨rfl,St.init h⟩
   ·rw[jc h2]at hr⊢
    exact hr
set_option maxRecDepth 100000
def X7:An:=(.n (.bl (.lp [] (.n (.sq (.br .z .z) (.bl (.n (.n (.br .z .z)))))))))
def Lz(p0:Value)(p1:OA)(Q:Unit->Pr):Pr:=
 deref p1 λa=>
 bI .map a λ(t4:Option Nat)=>
 jN t4 λit=>
 bh (S:=Unit) (λX s=>
 deref (some ⟨it,0,none⟩) λa_1=>
 nY a_1 (
 Q ()) λen=>
 deref (some ⟨it,0,none⟩) λa_2=>
 kF a_2 λxG=>
 wQ (.int .i64) xG.key λ(key:Int)=>
 fH Pq p0 [(.int .i64 key)] [.c .bool] λ(t12:Bool)=>
 br (!t12) (
 Q ()) (
 X ())) ()
theorem Dv(p0 p1 Q w)(h:Lz p0 p1 Q w):Calls Pq 205 #[p0,(.pointer p1)] w (au [] Q):=cF (an:=X7) Tryz.func205 (by kernel_rfl) h
def X8:An:=(.n (.sq (.n (.bl (.rf [.c aa] .z (.bl .z)))) (.n .z)))
def WG(p0:Sl)(p1:Value)(Q:Sl->Pr):Pr:=
 cq (aO (.slice p0.a p0.len p0.cap))<|nw (.cells #[(.slice p0.a p0.len p0.cap)] 46) λr=>
 yE Pq p1 [.c aa] (λl (z:Int) bg nx lv=>
 bg (
 deref (some ⟨r,0,none⟩) λa=>
 bI .slice a λ(t8:Sl)=>
 nw (.cells #[(.int .i64 z)] 3) λr_1=>
 app 3 1 8 [(.int .i64 0)] t8 ⟨(some ⟨r_1,0,none⟩),1,1⟩ λt11=>
 deref (some ⟨r,0,none⟩) λa_1=>
 st a_1 (.slice t11.a t11.len t11.cap)<|
 nx)) (λD=>
 deref (some ⟨r,0,none⟩) λa_2=>
 bI .slice a_2 λ(t12:Sl)=>
 takes [D]<|
 Q t12) (λD=>
 dM) (λD=>[])
theorem Dy(p0 p1 Q w)(h:WG p0 p1 Q w):Calls Pq 200 #[(slV p0),p1] w (au [.c .slice] Q):=cF (an:=X8) Tryz.func200 (by kernel_rfl) h
def X9:An:=(.n (.n .z))
def WH(p0:Value)(Q:Sl->Pr):Pr:=
 cS 200 [(.slice none 0 0),p0] λt4=>
 Q t4
theorem DA(p0 Q w)(h:WH p0 Q w):Calls Pq 161 #[p0] w (au [.c .slice] Q):=cF (an:=X9) Tryz.func161 (by kernel_rfl) h
def Ya:An:=(.n (.n .z))
def WK(p0:Option Nat)(Q:Value->Pr):Pr:=
 cq (aO (.map p0))<|nw (.cells #[(.map p0)] 206) λr=>
 Q ((.func (.func 205) #[] #[(.pointer (some ⟨r,0,none⟩))]))
theorem DD(p0 Q w)(h:WK p0 Q w):Calls Pq 169 #[(.map p0)] w (au [.c .any] Q):=cF (an:=Ya) Tryz.func169 (by kernel_rfl) h
def Yb:An:=(.n (.n (.n (.n .z))))
def WJ(p0:Value)(Q:Sl->Pr):Pr:=
 cS 161 [p0] λt5=>
 aq Pq 162 [(.slice t5.a t5.len t5.cap)] [] λ(t7:Unit)=>
 Q t5
theorem DC(p0 Q w)(h:WJ p0 Q w):Calls Pq 105 #[p0] w (au [.c .slice] Q):=cF (an:=Yb) Tryz.func105 (by kernel_rfl) h
def afi:An:=(.n (.n .z))
def F54(p0:Sl)(Q:Value->Pr):Pr:=
 cq (aO (.slice p0.a p0.len p0.cap))<|nw (.cells #[(.slice p0.a p0.len p0.cap)] 46) λr=>
 Q ((.func (.func 104) #[] #[(.pointer (some ⟨r,0,none⟩))]))
theorem IJ(p0 Q w)(h:F54 p0 Q w):Calls Pq 54 #[(slV p0)] w (au [.c .any] Q):=cF (an:=afi) Tryz.func54 (by kernel_rfl) h
def Yc:An:=(.n (.bl (.lp [(7,.c aa)] (.n (.sq (.br .z .z) (.sq (.bl (.n (.n (.br .z .z)))) .z))))))
def WD(p0:Value)(p1:OA)(Q:Unit->Pr):Pr:=
 deref p1 λa=>
 bI .slice a λ(t5:Sl)=>
 bh (S:=Int) (λX s=>
 br (decide (s<(t5.len:Int))) (
 cq ((0:Int)<=s/\s<(t5.len:Int))<|
 deref t5.a λa_1=>
 deref (some (a_1.add (Int.toNat s*1))) λa_2=>
 bI (.int .i64) a_2 λ(t10:Int)=>
 fH Pq p0 [(.int .i64 t10)] [.c .bool] λ(t13:Bool)=>
 br (!t13) (
 Q ()) (
 X ((IntKind.wrap .i64 (s+1))))) (
 Q ())) 0
theorem Dw(p0 p1 Q w)(h:WD p0 p1 Q w):Calls Pq 104 #[p0,(.pointer p1)] w (au [] Q):=cF (an:=Yc) Tryz.func104 (by kernel_rfl) h
def Yd:An:=(.n (.n (.sq (.n (.bl (.lp [(9,.c aa)] (.n (.sq (.br .z .z) (.sq (.jn [] (.bl (.n (.n (.br .z .z))))) .z)))))) (.n .z))))
def WQ(p0:Sl)(Q:Value->Pr):Pr:=
 nw (.map #[] 0) λr=>
 bh (S:=Int) (λX s=>
 br (decide (s<(p0.len:Int))) (
 jn (S:=Unit) (λR=>
 cq ((0:Int)<=s/\s<(p0.len:Int))<|
 deref p0.a λa=>
 deref (some (a.add (Int.toNat s*5))) λa_1=>
 bf [(.int .i64),(.int .i64),(.int .i64),.slice,(.int .i64)] a_1 λ(t12:Int×Int×Int×Sl×Int)=>
 nw (.cells #[(.int .i64 0),(.int .i64 0),(.int .i64 0),(.slice none 0 0),(.int .i64 0)] 109) λr_1=>
 deref (some ⟨r_1,0,none⟩) λa_2=>
 st (a_2.add 0) (.int .i64 t12.1)<|
 st (a_2.add 1) (.int .i64 t12.2.1)<|
 st (a_2.add 2) (.int .i64 t12.2.2.1)<|
 st (a_2.add 3) (.slice t12.2.2.2.1.a t12.2.2.2.1.len t12.2.2.2.1.cap)<|
 st (a_2.add 4) (.int .i64 t12.2.2.2.2)<|
 deref (some ⟨r_1,0,none⟩) λcP=>
 deref (some (cP.add 0)) λec=>
 bI (.int .i64) ec λ(t14:Int)=>
 br (t14==1) (
 deref (some ⟨r_1,0,none⟩) λdS=>
 deref (some (dS.add 1)) λeo=>
 bI (.int .i64) eo λ(t18:Int)=>
 mo (.int .i64) (some r) (.int .i64 t18) (.bool true)<|
 R ()) (
 R ())) λs_1=>
 X ((IntKind.wrap .i64 (s+1)))) (
 aq Pq 169 [(.map (some r))] [.c .any] λ(t21:Value)=>
 cS 105 [t21] λt22=>
 aq Pq 54 [(.slice t22.a t22.len t22.cap)] [.c .any] λ(t23:Value)=>
 Q t23)) 0
theorem DF(p0 Q w)(h:WQ p0 Q w):Calls Pq 117 #[(slV p0)] w (au [.c .any] Q):=cF (an:=Yd) Tryz.func117 (by kernel_rfl) h
def Ye:An:=(.n (.n (.sq (.n (.bl (.lp [(3,.c .slice),(4,.c aa)] (.sq (.n (.br .z .z)) (.sq (.jn [(3,.c .slice)] (.bl (.n (.br .z .z)))) .z))))) (.n .z))))
def WT(p0:Sl)(Q:Sl->Pr):Pr:=
 bh (S:=Sl×Int) (λX s=>
 br (decide (s.2<(p0.len:Int))) (
 jn (S:=Sl) (λR=>
 cq ((0:Int)<=s.2/\s.2<(p0.len:Int))<|
 deref p0.a λa=>
 deref (some (a.add (Int.toNat s.2*5))) λa_1=>
 deref (some (a_1.add 0)) λa_2=>
 bI (.int .i64) a_2 λ(t15:Int)=>
 br (t15==1) (
 cq ((0:Int)<=s.2/\s.2<(p0.len:Int))<|
 deref p0.a λcP=>
 deref (some (cP.add (Int.toNat s.2*5))) λec=>
 deref (some (ec.add 1)) λdS=>
 bI (.int .i64) dS λ(t22:Int)=>
 cS 195 [(.slice s.1.a s.1.len s.1.cap),(.int .i64 t22)] λt23=>
 R t23) (
 R s.1)) λs_1=>
 X (s_1,(IntKind.wrap .i64 (s.2+1)))) (
 Q s.1)) (⟨none,0,0⟩,0)
theorem DK(p0 Q w)(h:WT p0 Q w):Calls Pq 147 #[(slV p0)] w (au [.c .slice] Q):=cF (an:=Ye) Tryz.func147 (by kernel_rfl) h
def Yf:An:=(.n (.n (.n (.sq (.n (.bl (.lp [(5,.c .slice),(6,.c .bool),(7,.c aa)] (.sq (.n (.br .z .z)) (.sq (.bl (.sq (.jn [(6,.c .bool)] (.n (.br .z .z))) (.sq (.jn [(5,.c .slice),(6,.c .bool)] (.sq (.jn [(29,.c .bool)] .z) (.br (.n .z) .z))) .z))) .z))))) (.sq (.n (.br .z .z)) (.n .z))))))
def WR(p0:Sl)(p1:Int)(Q:Sl->Pr):Pr:=
 bh (S:=Sl×Bool×Int) (λX s=>
 br (decide (s.2.2<(p0.len:Int))) (
 jn (S:=Bool) (λR=>
 cq ((0:Int)<=s.2.2/\s.2.2<(p0.len:Int))<|
 deref p0.a λa=>
 deref (some (a.add (Int.toNat s.2.2*1))) λa_1=>
 bI (.int .i64) a_1 λ(t17:Int)=>
 br (t17==p1) (
 R true) (
 R s.2.1)) λs_1=>
 jn (S:=Sl×Bool) (λbT=>
 jn (S:=Bool) (λeV=>
 br (!s_1) (
 cq ((0:Int)<=s.2.2/\s.2.2<(p0.len:Int))<|
 deref p0.a λa_2=>
 deref (some (a_2.add (Int.toNat s.2.2*1))) λcP=>
 bI (.int .i64) cP λ(t27:Int)=>
 eV ((decide (p1<t27)))) (
 eV false)) λfG=>
 br fG (
 nw (.cells #[(.int .i64 p1)] 3) λr=>
 app 3 1 8 [(.int .i64 0)] s.1 ⟨(some ⟨r,0,none⟩),1,1⟩ λt33=>
 bT (t33,true)) (
 bT (s.1,s_1))) λs_2=>
 cq ((0:Int)<=s.2.2/\s.2.2<(p0.len:Int))<|
 deref p0.a λec=>
 deref (some (ec.add (Int.toNat s.2.2*1))) λdS=>
 bI (.int .i64) dS λ(t38:Int)=>
 nw (.cells #[(.int .i64 t38)] 3) λr_1=>
 app 3 1 8 [(.int .i64 0)] s_2.1 ⟨(some ⟨r_1,0,none⟩),1,1⟩ λt40=>
 X (t40,s_2.2,(IntKind.wrap .i64 (s.2.2+1)))) (
 br (!s.2.1) (
 nw (.cells #[(.int .i64 p1)] 3) λr_2=>
 app 3 1 8 [(.int .i64 0)] s.1 ⟨(some ⟨r_2,0,none⟩),1,1⟩ λt46=>
 Q t46) (
 Q s.1))) (⟨none,0,0⟩,false,0)
theorem DJ(p0 p1 Q w)(h:WR p0 p1 Q w):Calls Pq 195 #[(slV p0),(.int .i64 p1)] w (au [.c .slice] Q):=cF (an:=Yf) Tryz.func195 (by kernel_rfl) h
def afj:An:=(.n (.sq (.n (.br (.n .z) .z)) (.sq (.n (.bl (.lp [(13,.c aa)] (.n (.sq (.br .z .z) (.sq (.bl (.n (.n (.br (.n .z) .z)))) .z)))))) (.n .z))))
def F95(p0:Sl)(p1:Sl)(Q:Bool->Pr):Pr:=
 br ((p0.len:Int)!=(p1.len:Int)) (
 Q false) (
 bh (S:=Int) (λX s=>
 br (decide (s<(p0.len:Int))) (
 eG<|
 cq ((0:Int)<=s/\s<(p0.len:Int))<|
 deref p0.a λa=>
 deref (some (a.add (Int.toNat s*1))) λa_1=>
 bI (.int .i64) a_1 λ(t19:Int)=>
 cq ((0:Int)<=s/\s<(p1.len:Int))<|
 deref p1.a λa_2=>
 deref (some (a_2.add (Int.toNat s*1))) λcP=>
 bI (.int .i64) cP λ(t23:Int)=>
 br (t19 !=t23) (
 Q false) (
 X ((IntKind.wrap .i64 (s+1))))) (
 Q true)) 0)
theorem IL(p0 p1 Q w)(h:F95 p0 p1 Q w):Calls Pq 95 #[(slV p0),(slV p1)] w (au [.c .bool] Q):=cF (an:=afj) Tryz.func95 (by kernel_rfl) h
theorem tR{α β:Type}{f:α->β}{a b:α}:∀{l:List α},(l.map f).Nodup->a∈l->b∈l->f a=f b->a=b
 |[],_,ha,_,_=>by cases ha
 |
  x::l,h,ha,hb,hf=>by
  rw[List.map_cons,List.nodup_cons]at h;rcases List.mem_cons.1 ha with hax|yU<;>rcases List.mem_cons.1 hb with Bo|iu
  ·rw[hax,Bo]
  ·exact absurd (ki.2 ⟨b,iu,by rw[<-hf,hax]⟩) h.1
  ·exact absurd (ki.2 ⟨a,yU,by rw[hf,Bo]⟩) h.1
  ·exact tR h.2 yU iu hf
theorem rM{α β:Type}{f:α->β}:∀{l:List α},(l.map f).Nodup->l.Nodup
 |[],_=>List.nodup_nil
 |
  x::l,h=>by
  rw[List.map_cons,List.nodup_cons]at h;exact List.nodup_cons.2 ⟨λhx=>h.1 (ki.2 ⟨x,hx,rfl⟩),rM h.2⟩
theorem oE{α:Type}{p:α->Bool}{e:α}:∀{l:List α},e∈l->p e=true->(∀x∈l,p x=true->x=e)->l.find? p=some e
 |[],h,_,_=>by cases h
 |
  x::l,h,hp,hu=>by
  rw[List.find?_cons];cases hx:p x with
  |true=>simp[hu x (by simp) hx]
  |
   false=>
   rcases List.mem_cons.1 h with rfl|h
   ·rw[hp]at hx;cases hx
   ·exact oE h hp λy hy=>hu y (by simp[hy])
theorem yV{α:Type}:∀{l1 l2:List α},l1.Nodup->(∀x∈l1,x∈l2)->l1.length<=l2.length
 |[],_,_,_=>by simp
 |
  x::l1,l2,h,hs=>by
  rw[List.nodup_cons]at h;obtain⟨a,b,rfl⟩:=List.append_of_mem (hs x (by simp));have:=yV (l1:=l1) (l2:=a++b) h.2 λy hy=>by
   have h2:=hs y (by simp[hy]);rcases jz.1 h2 with h3|h3
   ·exact List.mem_append_left _ h3
   ·rcases List.mem_cons.1 h3 with h4|h4
    ·exact absurd (h4▸hy) h.1
    ·exact List.mem_append_right _ h4
  simp only[jh,List.length_cons]at this⊢;omega
theorem yW{α:Type}:∀{l1 l2:List α},l1.Nodup->(∀x∈l1,x∈l2)->∃r,(l1++r).Perm l2
 |[],l2,_,_=>⟨l2,List.Perm.refl _⟩
 |
  x::l1,l2,h,hs=>by
  rw[List.nodup_cons]at h;obtain⟨a,b,rfl⟩:=List.append_of_mem (hs x (by simp));obtain⟨r,hr⟩:=yW (l1:=l1) (l2:=a++b) h.2 λy hy=>by
   have h2:=hs y (by simp[hy]);rcases jz.1 h2 with h3|h3
   ·exact List.mem_append_left _ h3
   ·rcases List.mem_cons.1 h3 with h4|h4
    ·exact absurd (h4▸hy) h.1
    ·exact List.mem_append_right _ h4
  exact⟨r,(hr.cons x).trans List.perm_middle.symm⟩
def S5:Value->Int
 |.int _ n=>n
 |_=>0
theorem rN(l:List Int):(ints l).map S5=l:=by simp[ints,List.map_map,Function.comp_def,S5]
structure Du(w:World)(m:Nat)(es:Array MapEntry)(clock:Nat)(ks:List Int):Prop where
 heap:w.heap[m]? =some (.map es clock)
 born:∀e∈es.toList,e.born<clock
 iI:(es.toList.map (·.born)).Nodup
 keys:es.toList.map (·.key)=ints ks
 Pv:ks.Nodup
theorem GU(y:Value)(ad:Addr)(m:Nat)(es:Array MapEntry)(clock:Nat)(ks:List Int)(w:World)(hc:w.cell? ad=some (.map (some m)))(hm:Du w m es clock ks)
 (I:List Int->World->Prop)(D:World->Prop)(h0:∀o,I [] (w.alloc o))(Lv:∀pre W o,I pre W->I pre (W.putObj w.heap.size o))(Lw:∀pre W,I pre W->I pre W.drew)(hmap:∀pre W,I pre W->W.heap[m]? =w.heap[m]?)
 (hbody:∀pre k W,I pre W->w.heap.size<W.heap.size->(∃Lx,(pre++k::Lx).Perm ks)->fH Pq y [.int .i64 k] [.c .bool] (λb W'=>if b=true then I (pre++[k]) W'/\W'.heap[w.heap.size]? =W.heap[w.heap.size]?else D W') W):
 Lz y (some ad) (λ_ w'=>(∃xs,xs.Perm ks/\I xs w')\/D w') w:=by
 unfold Lz;simp only[ah];refine fe (s:=.map) (p:=some m) hc ?_;have Pw:m<w.heap.size:=by
  rcases Nat.lt_or_ge m w.heap.size with h|h
  ·exact h
  ·have:=hm.heap;rw[Array.getElem?_eq_none h]at this;cases this
 refine⟨es,clock,hm.heap,?_⟩;have hen:=rM hm.iI;refine aC (λ_ W=>∃(ps:List MapEntry) (seen:Array Nat) (pre:List Int),W.heap[w.heap.size]? =some (.mapIter (some m) clock seen clock)/\seen.toList=ps.map (·.born)/\(∀e∈ps,e∈es.toList)/\ps.Nodup/\ps.map (·.key)=ints pre/\I pre W)
  (λ_ W=>match W.heap[w.heap.size]?with|some (.mapIter _ _ seen _)=>es.size-seen.size|_=>0)
  ⟨[],#[],[],heap_alloc_new _ _,rfl,by simp,List.nodup_nil,rfl,h0 _⟩ ?_
 rintro _ W ⟨ps,seen,pre,hit,LC,hsub,hnd,hkey,hI⟩;have hWm:W.heap[m]? =some (.map es clock):=(hmap _ _ hI).trans hm.heap;have Rl:∀e∈es.toList,(seen.contains e.born=true↔e∈ps):=by
  intro e he;rw[Array.contains_iff_mem,<-Array.mem_toList_iff,LC,ki];constructor
  ·rintro⟨e',h1,h2⟩
   exact tR hm.iI (hsub e' h1) he h2▸h1
  ·intro h1;exact⟨e,h1,rfl⟩
 have hlen:seen.size=ps.length:=by rw[<-Array.length_toList,LC,je]
 refine⟨rfl,.inr ⟨m,clock,seen,clock,es,clock,hit,hWm,?_,λw1 hw1=>?_⟩⟩
 ·cases Bp:es.toList with
  |
   nil=>
   have:es= #[]:=by apply Array.ext';simpa using Bp
   simp[this]
  |
   cons e l=>
   have h1:=hm.born e (by rw[Bp];simp);have:es.all (λx=>decide (x.born>=clock))=false:=by
    rw[<-Array.all_toList,Bp,List.all_cons,decide_eq_false (by omega),Bool.false_and]
   rw[this,Bool.and_false]
 have Rm:I pre w1:=by rcases hw1 with rfl|rfl;exact hI;exact Lw _ _ hI
 refine⟨λhall=>?_,λe he Px=>?_⟩
 ·refine .inl ⟨pre,?_,Rm⟩
  have hp:ps.Perm es.toList:=(List.perm_ext_iff_of_nodup hnd hen).2 λe=>⟨hsub e,λhe=>(Rl e he).1 (hall e he (hm.born e he))⟩;have h2:=hp.map (·.key);rw[hkey,hm.keys]at h2;have h3:=h2.map S5;rwa[rN,rN]at h3
 ·have hnp:e∉ps:=λh=>by rw[(Rl e he).2 h]at Px;cases Px
  have LD:∃k,e.key=.int .i64 k/\k∈ks:=by
   have:e.key∈ints ks:=by rw[<-hm.keys];exact ki.2 ⟨e,he,rfl⟩
   obtain⟨k,hk,h⟩:=ki.1 this;exact⟨k,h.symm,hk⟩
  obtain⟨k,hk,hkk⟩:=LD;have WB:w1.heap[w.heap.size]? =some (.mapIter (some m) clock seen clock):=by rcases hw1 with rfl|rfl<;>exact hit
  have aeW:w1.heap[m]? =some (.map es clock):=by rcases hw1 with rfl|rfl<;>exact hWm
  have hlt:w.heap.size<w1.heap.size:=(Array.getElem?_eq_some_iff.1 WB).1;have S6:(w1.putObj w.heap.size (.mapIter (some m) clock (seen.push e.born) clock)).heap[w.heap.size]? =some (.mapIter (some m) clock (seen.push e.born) clock):=World.putObj_heap_same hlt;refine⟨rfl,m,clock,seen.push e.born,clock,es,clock,e.born,e,S6,by simp,(World.putObj_heap_other (k:=m) (r:=w.heap.size) (by omega)).trans aeW,rfl,?_,?_⟩
  ·rw[<-Array.find?_toList]
   exact oE he (by simp) λx hx h=>tR hm.iI hx he (by simpa using h)
  refine⟨k,hk,?_⟩;have hI2:=Lv pre w1 (.mapIter (some m) clock (seen.push e.born) clock) Rm;have LF:∃Lx,(pre++k::Lx).Perm ks:=by
   have h2:(ps++[e]).Nodup:=by
    rw[List.nodup_append];refine⟨hnd,by simp,λa ha b hb'=>?_⟩;rw[jq]at hb';rintro rfl;exact hnp (hb'▸ha)
   obtain⟨r,hr⟩:=yW h2 (l2:=es.toList) λx hx=>by
    rcases jz.1 hx with hx|hx
    ·exact hsub x hx
    ·rw[jq]at hx;exact hx▸he
   have h3:=(hr.map (·.key)).map S5;have h4:((ps++[e]).map (·.key)).map S5=pre++[k]:=by rw[jk,hkey,jk,rN];simp[hk,S5]
   rw[hm.keys,rN,jk,jk,h4]at h3;refine⟨(r.map (·.key)).map S5,?_⟩;simpa using h3
  have oF:=hbody pre k _ hI2 (by simpa using hlt) LF;refine ga (λb W' hb=>?_) oF;refine aj (λhf=>?_) (λhf=>?_)
  ·simp only[Bool.not_eq_true']at hf
   subst hf;rw[jc (by simp)]at hb;exact .inr hb
  ·simp only[Bool.not_eq_false']at hf
   subst hf;rw[jd rfl]at hb;refine⟨⟨ps++[e],seen.push e.born,pre++[k],hb.2.trans S6,by simp[LC],?_,?_,?_,hb.1⟩,?_⟩
   ·intro x hx
    rcases jz.1 hx with hx|hx
    ·exact hsub x hx
    ·rw[jq]at hx;exact hx▸he
   ·rw[List.nodup_append]
    refine⟨hnd,by simp,λa ha b hb'=>?_⟩;rw[jq]at hb';rintro rfl;exact hnp (hb'▸ha)
   ·rw[jk,hkey,j3]
    simp[ints,hk]
   ·rw[hb.2,S6,hit]
    have h1:ps.length+1<=es.size:=by
     have h2:(ps++[e]).Nodup:=by
      rw[List.nodup_append];refine⟨hnd,by simp,λa ha b hb'=>?_⟩;rw[jq]at hb';rintro rfl;exact hnp (hb'▸ha)
     have h3:=yV h2 (l2:=es.toList) (λx hx=>by
      rcases jz.1 hx with hx|hx
      ·exact hsub x hx
      ·rw[jq]at hx;exact hx▸he)
     simpa using h3
    simp only[Array.size_push];omega
theorem C92(y:Value)(ad:Addr)(m:Nat)(es:Array MapEntry)(clock:Nat)(ks:List Int)(w:World)(hc:w.cell? ad=some (.map (some m)))(hm:Du w m es clock ks)
 (I:List Int->World->Prop)(D:World->Prop)(h0:∀o,I [] (w.alloc o))(Lv:∀pre W o,I pre W->I pre (W.putObj w.heap.size o))(Lw:∀pre W,I pre W->I pre W.drew)(hmap:∀pre W,I pre W->W.heap[m]? =w.heap[m]?)
 (hbody:∀pre k W,I pre W->w.heap.size<W.heap.size->(∃Lx,(pre++k::Lx).Perm ks)->fH Pq y [.int .i64 k] [.c .bool] (λb W'=>if b=true then I (pre++[k]) W'/\W'.heap[w.heap.size]? =W.heap[w.heap.size]?else D W') W):
 Calls Pq 205 #[y,.pointer (some ad)] w (au [] λ_ w'=>(∃xs,xs.Perm ks/\I xs w')\/D w'):=
 Dv y (some ad) _ _ (GU y ad m es clock ks w hc hm I D h0 Lv Lw hmap hbody)
def nT(v:Value)(M:World->Prop)(rO:List Int->Prop)(own:Bool):Prop:=
 ∃f caps,v=.func (.func f) #[] caps/\fI Pq f=true/\
 ∀
  (y:Value) (w:World) (I:List Int->World->Prop) (D:World->Prop),M w->I [] w->(∀o,I [] (w.alloc o))->(own=true->∀pre W o,I pre W->I pre (W.putObj w.heap.size o))->(∀pre W,I pre W->I pre W.drew)->(∀pre W,I pre W->M W)->
  (∀pre k W,I pre W->(own=true->w.heap.size<W.heap.size)->(∃Lx,rO (pre++k::Lx))->fH Pq y [.int .i64 k] [.c .bool] (λb W'=>if b=true then I (pre++[k]) W'/\(own=true->W'.heap[w.heap.size]? =W.heap[w.heap.size]?)else D W') W)->
  Calls Pq f (#[y]++caps) w (au [] λ_ w'=>(∃xs,rO xs/\I xs w')\/D w')
theorem IF(ad:Addr)(m:Nat)(es:Array MapEntry)(clock:Nat)(ks:List Int)(hb:∀e∈es.toList,e.born<clock)(hnd:(es.toList.map (·.born)).Nodup)(hk:es.toList.map (·.key)=ints ks)(hkn:ks.Nodup):
 nT (.func (.func 205) #[] #[.pointer (some ad)]) (λw=>w.cell? ad=some (.map (some m))/\w.heap[m]? =some (.map es clock)) (λxs=>xs.Perm ks) true:=by
 refine⟨205,_,rfl,by kernel_rfl,?_⟩;intro y w I D hM h0 yU hst Rn WC hbody;exact C92 y ad m es clock ks w hM.1 ⟨hM.2,hb,hnd,hk,hkn⟩ I D yU (hst rfl) Rn (λpre W h=>(WC pre W h).2.trans hM.2.symm) λpre k W h1 h2 h3=>ga (λb W' hb=>by
  by_cases Rp:b=true
  ·rw[jd Rp]at hb⊢;exact⟨hb.1,hb.2 rfl⟩
  ·rw[jc Rp]at hb⊢;exact hb) (hbody pre k W h1 (λ_=>h2) h3)
theorem oG(ad:Addr)(s:Sl)(l:List Int)(hl:l.length<=1000000000):
 nT (.func (.func 104) #[] #[.pointer (some ad)]) (λw=>w.cell? ad=some (.slice s.a s.len s.cap)/\IS w s l) (λxs=>xs=l) false:=by
 refine⟨104,_,rfl,by kernel_rfl,?_⟩;intro y w I D hM h0 yU hst Rn WC hbody;refine Dw y (some ad) _ _ ?_;unfold WD;rw[ah];refine fe (s:=.slice) (p:=s) hM.1 ?_;have fP:=hM.2.len;refine aC (λi W=>∃j:Nat,i=j/\j<=l.length/\I (l.take j) W) (λi _=>l.length-i.toNat) ⟨0,rfl,by omega,by simpa using h0⟩ ?_;rintro _ W ⟨j,rfl,hj,hI⟩;refine aj (λhlt=>?_) (λhge=>?_)
 ·simp only[jb]at hlt
  have hjl:j<l.length:=by omega
  refine tQ (i:=(j:Int)) (b:=l[j]) (WC _ _ hI).2 (by omega) (by simp) ?_;have hd:l.take j++l[j]::l.drop (j+1)=l:=by rw[<-List.drop_eq_getElem_cons hjl,List.take_append_drop]
  refine ga (λb W' hb=>?_) (hbody (l.take j) l[j] W hI (λh=>by cases h) ⟨l.drop (j+1),hd⟩);refine aj (λhf=>?_) (λhf=>?_)
  ·simp only[Bool.not_eq_true']at hf
   subst hf;rw[jc (by simp)]at hb;exact .inr hb
  ·simp only[Bool.not_eq_false']at hf
   subst hf;rw[jd rfl,<-lf hjl]at hb;rw[bO (by omega)];exact⟨⟨j+1,rfl,hjl,hb.1⟩,by omega⟩
 ·simp only[ja]at hge
  refine .inl ⟨l,rfl,?_⟩;rwa[List.take_of_length_le (by omega)]at hI
def book(w:World)(own:Bool)(b:Nat):Prop:=w.heap.size<=b/\b<w.heap.size+2+(if own=true then 1 else 0)
def vP(w:World)(own:Bool)(b:Nat):Prop:=¬book w own b
theorem S7{v:Value}{M:World->Prop}{rO:List Int->Prop}{own:Bool}(hv:nT v M rO own){w:World}{R:Nat->Int->(Pr->Pr)->Pr->(Option Nat->Pr)->Pr}{K Jr:Nat->Pr}{Jx:Nat->List (Nat×Pr)}
 (U:List Int->World->Prop)(E:Option Nat->World->Prop)(h0:U [] w)(hU:∀pre W W',U pre W->Mod (book w own) W W'->U pre W')(hE:∀j W W',E j W->Mod (book w own) W W'->E j W')(hM:∀pre W,U pre W->M W)
 (Dx:∀l pre k W0 (bg:Pr->Pr) (nx:Pr) (lv:Option Nat->Pr),U pre W0->(∃Lx,rO (pre++k::Lx))->w.heap.size+2+(if own=true then 1 else 0)<=W0.heap.size->
   (∀c W,Mod (vP w own) W0 W->(∀W1,Mod (book w own) W W1->W1.heap.size=W.heap.size->(∀W2,Mod (vP w own) W1 W2->U (pre++[k]) W2->nx W2)->(∀j W2,Mod (vP w own) W1 W2->E j W2->lv j W2)->c W1)->bg c W)->
   R l k bg nx lv W0)
 (hK:∀xs W,rO xs->U xs W->W.heap[w.heap.size]? =some (.deferred (some []))->K w.heap.size W)
 (hJ:∀j W,E j W->W.heap[w.heap.size]? =some (.deferred (some []))->jmp (Jr w.heap.size) (Jx w.heap.size) j W):
 yE Pq v [.c aa] R K Jr Jx w:=by
 obtain⟨f,caps,rfl,tS,rP⟩:=hv;refine⟨f,caps,rfl,tS,λL hL hY=>?_⟩;generalize hw1:(w.alloc (.deferred (some []))).alloc (L .ready none)=w1;have WE:w1.heap.size=w.heap.size+2:=by rw[<-hw1];simp
 have C9:w1.heap[w.heap.size+1]? =some (L .ready none):=by
  rw[<-hw1];have:=heap_alloc_new (w.alloc (.deferred (some []))) (L .ready none);rwa[World.size_alloc]at this
 have hd1:w1.heap[w.heap.size]? =some (.deferred (some [])):=by
  rw[<-hw1,mm (by simp)];exact heap_alloc_new _ _
 have hg1:Grow w w1:=by rw[<-hw1];exact((Mod.refl _ w).alloc _).alloc _
 have hown:(if own=true then 1 else 0)<=1:=by split<;>omega
 have kz:∀b,b=w.heap.size\/b=w.heap.size+1->book w own b:=λb hb=>by unfold book;omega
 have hput:∀{b:Nat} (W:World) (o:Obj),book w own b->Mod (book w own) W (W.putObj b o):=λW o hb=>(Mod.refl _ W).putObj (.inl hb);refine(rP (.func (.yield (w.heap.size+1)) #[] #[]) w1 (λpre W=>U pre W/\W.heap[w.heap.size+1]? =some (L .ready none)/\W.heap[w.heap.size]? =some (.deferred (some []))/\w.heap.size+2<=W.heap.size)
  (λW=>∃j,E j W/\W.heap[w.heap.size+1]? =some (L .done (some (rQ j)))/\W.heap[w.heap.size]? =some (.deferred (some [])))
  (hM _ _ (hU _ _ _ h0 hg1.mod)) ⟨hU _ _ _ h0 hg1.mod,C9,hd1,by omega⟩ ?_ ?_ ?_ (λpre W h=>hM _ _ h.1) ?_).mono ?_
 ·intro o
  exact⟨hU _ _ _ h0 (hg1.mod.alloc o),(mm (by omega)).trans C9,(mm (by omega)).trans hd1,by simp;omega⟩
 ·intro ho pre W o ⟨h1,h2,h3,h4⟩
  refine⟨hU _ _ _ h1 (hput W o ?_),(World.putObj_heap_other (by omega)).trans h2,(World.putObj_heap_other (by omega)).trans h3,by simpa using h4⟩;unfold book;rw[ho,WE];simp
 ·intro pre W ⟨h1,h2,h3,h4⟩
  exact⟨hU _ _ _ h1 (Mod.refl _ W).drew,h2,h3,h4⟩
 ·intro pre k W ⟨h1,h2,h3,h4⟩ hit LF
  refine .inr ⟨w.heap.size+1,#[],rfl,?_⟩;refine hY W k _ h2 ?_;have hsz:w.heap.size+2+(if own=true then 1 else 0)<=W.heap.size:=by
   split
   ·rename_i ho
    have:=hit ho;omega
   ·omega
  refine Dx _ pre k W _ _ _ h1 LF hsz ?_;intro c W1 hm hc;have hsW:=hm.size;have hkeep:∀b,book w own b->W1.heap[b]? =W.heap[b]? :=λb hb=>hm.same b (by have:=hb.2;omega) λh=>h hb;refine⟨(hkeep _ (kz _ (.inr rfl))).trans h2,?_⟩;refine hc _ (hput W1 _ (kz _ (.inr rfl))) (by simp) ?_ ?_
  ·intro W2 hm2 hU2
   have Bl:W1.heap.size<=W2.heap.size:=by have:=hm2.size;simpa using this
   have hk2:∀b,book w own b->W2.heap[b]? =(W1.putObj (w.heap.size+1) (L .busy none)).heap[b]? :=λb hb=>hm2.same b (by have:=hb.2;simp;omega) λh=>h hb;refine⟨(hk2 _ (kz _ (.inr rfl))).trans (World.putObj_heap_same (by omega)),?_⟩;rw[jd rfl];refine⟨⟨hU _ _ _ hU2 (hput W2 _ (kz _ (.inr rfl))),World.putObj_heap_same (by omega),(World.putObj_heap_other (by omega)).trans (((hk2 _ (kz _ (.inl rfl))).trans (World.putObj_heap_other (by omega))).trans ((hkeep _ (kz _ (.inl rfl))).trans h3)),by simp;omega⟩,λho=>?_⟩;rw[WE];have jF:book w own (w.heap.size+2):=by unfold book;rw[ho];simp
   exact(World.putObj_heap_other (by omega)).trans (((hk2 _ jF).trans (World.putObj_heap_other (by omega))).trans (hkeep _ jF))
  ·intro j W2 hm2 hE2
   have Bl:W1.heap.size<=W2.heap.size:=by have:=hm2.size;simpa using this
   have hk2:∀b,book w own b->W2.heap[b]? =(W1.putObj (w.heap.size+1) (L .busy none)).heap[b]? :=λb hb=>hm2.same b (by have:=hb.2;simp;omega) λh=>h hb;refine⟨(hk2 _ (kz _ (.inr rfl))).trans (World.putObj_heap_same (by omega)),?_⟩;rw[jc (by simp)];exact⟨j,hE _ _ _ hE2 (hput W2 _ (kz _ (.inr rfl))),World.putObj_heap_same (by omega),(World.putObj_heap_other (by omega)).trans (((hk2 _ (kz _ (.inl rfl))).trans (World.putObj_heap_other (by omega))).trans ((hkeep _ (kz _ (.inl rfl))).trans h3))⟩
 ·rintro e W ⟨p,rfl,⟨xs,hxs,h1,h2,h3,h4⟩|⟨j,h1,h2,h3⟩⟩
  ·exact⟨⟨_,rfl⟩,.inl ⟨h2,hK xs _ hxs (hU _ _ _ h1 (hput W _ (kz _ (.inr rfl)))) ((World.putObj_heap_other (by omega)).trans h3)⟩⟩
  ·exact⟨⟨_,rfl⟩,.inr ⟨j,h2,hJ j _ (hE _ _ _ h1 (hput W _ (kz _ (.inr rfl)))) ((World.putObj_heap_other (by omega)).trans h3)⟩⟩
theorem GV{w:World}{n0:Nat}{t:Sl}{xs:List Int}{b:Nat}{z:Int}{k:Sl->Pr}(h:aN w n0 1 t (ints xs))(hn0:n0<=w.heap.size)(hb:iw w b [.int .i64 z])(hl:xs.length<=1000000000)
 (hk:∀r w',aN w' n0 1 r (ints (xs++[z]))->Mod t.blk w w'->(∀c,r.blk c->t.blk c\/w.heap.size<=c)->k r w'):app 3 1 8 [.int .i64 0] t ⟨some ⟨b,0,none⟩,1,1⟩ k w:=by
 have gO:=(gr h).len;refine rR (vs:=ints xs) (new:=[.int .i64 z]) h hn0 (λ_=>rfl) (λh=>by cases h) (az.2 hb.row) (by simp) rfl (by decide) (by dsimp only;omega) ?_;intro r w' h1 _ _ _ h5 h6;exact hk r w' (by rw[j3];exact h1) h5 h6
def Acc(w0 w1:World)(own:Bool)(b0:Nat)(pre:List Int)(W:World):Prop:=
 ∃t,iw W b0 [.slice t.a t.len t.cap]/\aN W w0.heap.size 1 t (ints pre)/\(∀c,t.blk c->¬book w1 own c/\c≠b0/\w1.heap.size<=c)/\Grow w0 W
theorem Acc.keep{w0 w1:World}{own:Bool}{b0:Nat}{pre:List Int}{W W':World}(h01:w0.heap.size<=w1.heap.size)(hb:¬book w1 own b0)(h:Acc w0 w1 own b0 pre W)(hm:Mod (book w1 own) W W'):Acc w0 w1 own b0 pre W':=by
 obtain⟨t,h1,h2,h3,h4⟩:=h;refine⟨t,h1.mod hm hb,h2.mod hm λad ha hS=>(h3 _ ⟨ad,ha,rfl⟩).1 hS,h3,Mod.trans h4 hm λb hlt hS=>?_⟩;have:=hS.1;omega
theorem Acc.push{w0 w1:World}{own:Bool}{b0:Nat}{pre:List Int}{W:World}{z:Int}{k:Pr}(hb:¬book w1 own b0)(hb0:w0.heap.size<=b0)(h:Acc w0 w1 own b0 pre W)(hsz:w1.heap.size+2+(if own=true then 1 else 0)<=W.heap.size)(hl:pre.length<=1000000000)
 (hk:∀W',Acc w0 w1 own b0 (pre++[z]) W'->Mod (vP w1 own) W W'->Mod (λc=>c=b0\/w1.heap.size<=c) W W'->k W'):
 (bI .slice ⟨b0,0,none⟩ λ(t8:Sl)=>nw (.cells #[(.int .i64 z)] 3) λr_1=>app 3 1 8 [(.int .i64 0)] t8 ⟨(some ⟨r_1,0,none⟩),1,1⟩ λt11=>st ⟨b0,0,none⟩ (.slice t11.a t11.len t11.cap) k) W:=by
 obtain⟨t,h1,h2,h3,h4⟩:=h;have IG:W.cell? ⟨b0,0,none⟩=some (.slice t.a t.len t.cap):=h1.row 0 _ rfl;refine fe (s:=.slice) (p:=t) IG ?_;refine mM λb1 W1 g1 e1 s1 bx=>?_;have hs4:=h4.size;refine GV (h2.grow g1) (by omega) bx hl λr W2 h5 h6 h7=>?_;have jF:iw W2 b0 [.slice t.a t.len t.cap]:=(h1.grow g1).mod h6 λhc=>(h3 _ hc).2.1 rfl;have uW:∀c,r.blk c->¬book w1 own c/\c≠b0/\w1.heap.size<=c:=by
  intro c hc;rcases h7 c hc with h8|h8
  ·exact h3 c h8
  ·have hlt:=h1.lt
   refine⟨λhB=>?_,by omega,by omega⟩;have:=hB.2;omega
 have GW:=jF.st (i:=0) (v:=.slice r.a r.len r.cap) (k:=k) (by simp) trivial λW3 h8 h9 Pb=>?_
 ·simpa using GW
 have hm:Mod (λc=>t.blk c\/c=b0) W W3:=Mod.trans (Mod.trans (Grow.mod g1) h6 λ_ _ h=>.inl h) h9 λ_ _ h=>.inr h;refine hk W3 ⟨r,h8,h5.mod h9 λad ha hS=>(uW _ ⟨ad,ha,rfl⟩).2.1 hS,uW,?_⟩ (hm.mono λc _ hc=>?_) (hm.mono λc _ hc=>hc.elim (λh=>.inr (h3 c h).2.2) .inl)
 ·refine Mod.trans h4 hm λc hlt hc=>?_
  rcases hc with hc|hc
  ·have:=aN.gF h2 hc;omega
  ·omega
 ·rcases hc with hc|hc
  ·exact(h3 c hc).1
  ·rw[hc];exact hb
theorem aeX{v:Value}{M:World->Prop}{rO:List Int->Prop}{own:Bool}(hv:nT v M rO own)(w:World)(hM:∀W,Grow w W->M W)(hN:∀xs,rO xs->xs.length<=1000000):
 Calls Pq 200 #[.slice none 0 0,v] w (au [.c .slice] λr w'=>∃xs,rO xs/\aN w' w.heap.size 1 r (ints xs)/\Grow w w'):=by
 refine Dy ⟨none,0,0⟩ v _ _ ?_;unfold WG;refine⟨trivial,mM λb0 w1 g1 e1 s1 bx=>?_⟩;have hb:¬book w1 own b0:=λh=>by have:=h.1;omega
 have h01:w.heap.size<=w1.heap.size:=by omega
 simp only[ah];refine S7 hv (λpre W=>Acc w w1 own b0 pre W) (λ_ _=>False) ⟨⟨none,0,0⟩,bx,aN.nil _ _ _,λc ⟨ad,h,_⟩=>by(cases h),g1⟩ (λpre W W' h hm=>h.keep h01 hb hm) (λ_ _ _ h _=>h) (λpre W ⟨t,_,_,_,h4⟩=>hM W h4) ?_ ?_ (λ_ _ h=>h.elim)
 ·intro l pre k W0 bg nx lv hU LF hsz A9
  refine A9 _ _ (Mod.refl _ _) λW1 hm hs Dz _=>?_;obtain⟨Lx,Bl⟩:=LF;have hN2:=hN _ Bl;rw[jh,List.length_cons]at hN2;refine Acc.push hb (by omega) (hU.keep h01 hb hm) (by omega) (by omega) λW2 hA hm2 _=>?_;exact Dz W2 hm2 hA
 ·intro xs W hxs hU hd
  obtain⟨t,h1,h2,h3,h4⟩:=hU;have IG:W.cell? ⟨b0,0,none⟩=some (.slice t.a t.len t.cap):=h1.row 0 _ rfl;refine fe (s:=.slice) (p:=t) IG ⟨hd,xs,hxs,?_⟩;have hp:Mod (λb=>b=w1.heap.size) W (W.putObj w1.heap.size (.deferred none)):=(Mod.refl _ W).putObj (.inl rfl);refine⟨h2.mod hp λad ha hS=>(h3 _ ⟨ad,ha,rfl⟩).1 ?_,Mod.trans h4 hp λc hlt hc=>by omega⟩;rw[hS];exact⟨Nat.le_refl _,by omega⟩
theorem cm(l:List Int):(jJ l).Perm l:=List.mergeSort_perm l _
theorem kK(l:List Int):(jJ l).Pairwise (·<=·):=by
 have:=List.pairwise_mergeSort (le:=λx y:Int=>decide (x<=y)) (λa b c h1 h2=>by simp at *;omega) (λa b=>by simp;omega) l;exact this.imp λh=>by simpa using h
theorem pL:∀{a b:List Int},a.Perm b->a.Pairwise (·<=·)->b.Pairwise (·<=·)->a=b
 |[],b,h,_,_=>by simpa using h.symm.eq_nil.symm
 |x::a,[],h,_,_=>by simpa using h.eq_nil
 |
  x::a,y::b,h,ha,hb=>by
  rw[List.pairwise_cons]at ha hb;have hxy:x=y:=by
   have h1:x∈y::b:=h.subset (by simp);have h2:y∈x::a:=h.symm.subset (by simp);have h3:y<=x:=by
    rcases List.mem_cons.1 h1 with h4|h4
    ·omega
    ·exact hb.1 x h4
   have h4:x<=y:=by
    rcases List.mem_cons.1 h2 with h5|h5
    ·omega
    ·exact ha.1 y h5
   omega
  subst hxy;rw[pL (List.Perm.cons_inv h) ha.2 hb.2]
theorem uX{a b:List Int}(h:a.Perm b):jJ a=jJ b:=
 pL (((cm a).trans h).trans (cm b).symm) (kK a) (kK b)
theorem C90{v:Value}{M:World->Prop}{rO:List Int->Prop}{own:Bool}(hv:nT v M rO own)(w:World)(hM:∀W,Grow w W->M W)(hN:∀xs,rO xs->xs.length<=1000000):
 Calls Pq 161 #[v] w (au [.c .slice] λr w'=>∃xs,rO xs/\aN w' w.heap.size 1 r (ints xs)/\Grow w w'):=by
 refine DA v _ _ ?_;unfold WH;refine af (aeX hv w hM hN) ?_;intro r w' h;exact h
theorem C65{v:Value}{M:World->Prop}{ks:List Int}{own:Bool}(hv:nT v M (λxs=>xs.Perm ks) own)(w:World)(hM:∀W,Grow w W->M W)(hN:ks.length<=1000000):
 Calls Pq 105 #[v] w (au [.c .slice] λr w'=>aN w' w.heap.size 1 r (ints (jJ ks))/\Grow w w'):=by
 refine DC v _ _ ?_;unfold WJ;refine af (C90 hv w hM λxs h=>by rw[h.length_eq];exact hN) ?_;rintro r w1 ⟨xs,hp,ho,g1⟩;have hl:=(gr ho).len;have iL:=hp.length_eq;refine af (C91 r xs w.heap.size w1 ho (by omega)) ?_;rintro _ w2 ⟨h2,m2⟩;rw[uX hp]at h2;exact⟨h2,Mod.trans g1 m2 λb hb hS=>by have:=aN.gF ho hS;omega⟩
theorem C66(m:Option Nat)(w:World):Calls Pq 169 #[.map m] w (au [.c .any] λr w'=>∃b,r=.func (.func 205) #[] #[.pointer (some ⟨b,0,none⟩)]/\iw w' b [.map m]/\Grow w w'):=by
 refine DD m _ _ ?_;unfold WK;refine⟨trivial,mM λb w1 g1 _ _ bx=>?_⟩;exact⟨b,rfl,bx,g1⟩
def dD(C:CM):List Int:=jJ ((C.l.filter (·.bU)).map (·.key))
def mb(bs:List Bf)(j:Nat):Option Int:=(bs[j]?).bind λx=>if x.bU=true then some x.key else none
theorem JL:∀(bs:List Bf),(List.range bs.length).filterMap (mb bs)=(bs.filter (·.bU)).map (·.key):=by
 intro bs;have h:∀(l pre:List Bf),(List.range' pre.length l.length).filterMap (mb (pre++l))=(l.filter (·.bU)).map (·.key):=by
  intro l
  induction l with
  |nil=>intro pre;rfl
  |
   cons x l ih=>
   intro pre;rw[List.length_cons,List.range'_succ,List.filterMap_cons];have h1:=ih (pre++[x]);rw[jh,List.length_singleton,ju,List.singleton_append]at h1;have h2:mb (pre++x::l) pre.length=if x.bU=true then some x.key else none:=by
    unfold mb;rw[List.getElem?_append_right (Nat.le_refl _),Nat.sub_self];rfl
   rw[h1,h2,List.filter_cons];cases hx:x.bU<;>simp
 have:=h bs [];rw[List.range_eq_range'];simpa using this
theorem qo{α β:Type}(f:α->Option β)(l:List α):(l.filterMap f).length<=l.length:=List.length_filterMap_le f l
theorem Qj(bs:List Bf):(bs.map Bf.m).filter (·.bU)=(bs.filter (·.bU)).map Bf.m:=by
 induction bs with
 |nil=>rfl
 |cons x bs ih=>rw[List.map_cons,List.filter_cons,List.filter_cons,ih];cases hx:x.bU<;>simp[Bf.m,hx]
theorem C77(c dp:Nat)(C:CM)(w:World)(F:Nat->Prop)(h:Has [bB c dp C] w F)(hn:C.l.length<=1000000):
 Calls Pq 171 #[P0 c] w (au [.c .slice] λr w'=>St F w w' [aA 1 r (ints (dD C)),bB c dp C]):=by
 refine EY _ _ _ ?_;unfold YB;obtain⟨m,bs,hl,st⟩:=(St.init h).xK;refine af (C72 c dp _ w st.box) ?_;rintro _ _ ⟨rfl,rfl⟩;refine aK rfl ?_;simp only[ah];refine st.ld (i:=2) (s:=.map) (p:=some m) rfl ?_;refine St.jN (T:=cz) (st.ak 1) λit w1 s1=>?_;have uW:(bs.map uo).length=bs.length:=by simp
 have iu:bs.length<=1000000:=by rw[hl,je]at hn;exact hn
 refine aC (λt W=>∃done,St F w W [lF cz m it (bs.map uo) done,aA 1 t (ints (done.filterMap (mb bs))),ai c [P0 dp,.int .i64 C.room,.map (some m),.int .i64 C.asked],bt (bs.map gK)])
  (λ_ W=>bs.length-lG it W) ⟨[],(s1.dR 1).aG [1,0,2,3] 4⟩ ?_
 rintro t W ⟨done,s⟩;have hds:=s.lG;have hdl:done.length<=bs.length:=by
  obtain⟨_,_,_,_,_,h3,h4,_⟩:=s.oY;rw[uW]at h3;exact oX h4 h3
 refine St.nY s (λhp W' s'=>?_) (λi en W' hi hnd s'=>?_)
 ·have hfl:=qo (mb bs) done
  have gO:=aT (s'.ak 1).sl;rw[oD]at gO;refine af (C91 t _ 0 W' (s'.ak 1).sl (by omega)) ?_;rintro⟨⟩ w3 ⟨h1,h2⟩;have s2:=(s'.ak 1).Rt h2 h1 λ_ h=>.inl h;have hd:jJ (done.filterMap (mb bs))=dD C:=by
   unfold dD;refine uX ?_;rw[hl,Qj,List.map_map];rw[uW]at hp;have:=hp.filterMap (mb bs);rw[JL]at this;exact this
  rw[hd]at s2;have s3:=(s2.ak 1).M8;exact((s3.aG [2,0,3,1] 4).mE (C:=C) hl).ak 1
 ·rw[uW]at hi
  refine s'.kF λen2 kvx hkv hk hv=>?_;have Pf:bs[i]? =some bs[i]:=by simp
  rw[jf,Pf,Option.map_some,jg]at hkv;subst hkv;refine⟨bs[i].key,hk,some ⟨bs[i].ptr,0,none⟩,hv,?_⟩;have TN:=s'.lG;simp only[jh,List.length_singleton]at TN;have afx:done.length+1<=bs.length:=by
   obtain⟨_,_,_,_,_,h3,h4,_⟩:=s'.oY;rw[uW]at h3;have:=oX h4 h3;simpa using this
  simp only[ah];have Qh:=(s'.ak 3).buf Pf;refine Qh.1.ld (i:=1) (s:=.bool) (p:=bs[i].bU) rfl ?_;have hpk:(done++[i]).filterMap (mb bs)=done.filterMap (mb bs)++(if bs[i].bU=true then[bs[i].key]else[]):=by
   rw[List.filterMap_append,List.filterMap_cons,List.filterMap_nil];unfold mb;rw[Pf];cases hb:bs[i].bU<;>simp[hb]
  refine aj (λhd=>?_) (λhd=>?_)
  ·rw[jd hd]at hpk
   have hfl:=qo (mb bs) done;have gO:=aT (s'.ak 1).sl;rw[oD]at gO;refine St.nw s' λr w2 s2 _ _=>?_;refine(s2.ak 2).app (new:=[.int .i64 bs[i].key]) (λ_=>rfl) (λh=>by cases h) (az.2 s2.box.row) (by simp) rfl (by decide) (by dsimp only;omega) λt2 w3 s3 _=>?_;have s4:=s3.aG [2,0,3,4] 5;have afz:=St.lG (done:=done++[i]) s4;simp only[jh,List.length_singleton]at afz;refine⟨⟨done++[i],?_⟩,by omega⟩;rw[hpk,show ints (done.filterMap (mb bs)++[bs[i].key])=ints (done.filterMap (mb bs))++[.int .i64 bs[i].key] by simp[ints]];exact s4
  ·rw[jc (by simp[hd]),List.append_nil]at hpk
   refine⟨⟨done++[i],?_⟩,by omega⟩;rw[hpk];exact s'
theorem E6(C:CM):(dD C).length<=C.l.length:=by
 unfold dD;rw[(cm _).length_eq,je];exact List.length_filter_le _ _
def eL(C:CM)(k:Int):LB:=((C.l.find? (·.key==k)).map (·.b)).getD []
def gS(C:CM)(k:Int):CM:={C with l:=C.l.map λx=>if x.key=k then{x with bU:=false}else x}
def jY:List Int->CM->DM->Int×CM×DM
 |[],C,D=>(0,C,D)
 |k::ks,C,D=>if(aH D k (eL C k)).1≠0 then((aH D k (eL C k)).1,C,(aH D k (eL C k)).2)else jY ks (gS C k) (aH D k (eL C k)).2
theorem sO(k:Int)(ks:List Int)(C:CM)(D:DM):jY (k::ks) C D=if(aH D k (eL C k)).1≠0 then((aH D k (eL C k)).1,C,(aH D k (eL C k)).2)else jY ks (gS C k) (aH D k (eL C k)).2:=rfl
theorem Nb{α:Type}{l:List α}{j:Nat}{a:α}(h:l[j]? =some a):l.set j a=l:=by
 refine List.ext_getElem? λi=>?_;rw[List.getElem?_set];split
 ·rename_i h2;subst h2;rw[jd (aE h).2,h]
 ·rfl
theorem E7{l:List Bm}{i:Nat}{x:Bm}{f:Bm->Bm}(hn:(l.map (·.key)).Nodup)(hi:l[i]? =some x):(l.map λy=>if y.key=x.key then f y else y)=l.set i (f x):=by
 refine List.ext_getElem? λj=>?_;rw[jf,List.getElem?_set];by_cases h:i=j
 ·subst h
  rw[hi,jd rfl,jd (aE hi).2];simp
 ·rw[jc h]
  cases hj:l[j]?with
  |none=>rfl
  |
   some y=>
   have:y.key≠x.key:=by
    intro he;have e1:(l.map (·.key))[i]? =some x.key:=by rw[jf,hi];rfl
    have e2:(l.map (·.key))[j]? =some x.key:=by rw[jf,hj,<-he];rfl
    exact h ((List.getElem?_inj (aE e1).2 hn).1 (e1.trans e2.symm))
   simp[this]
theorem Hv{l:List Bm}{i:Nat}{x:Bm}(hn:(l.map (·.key)).Nodup)(hi:l[i]? =some x):l.find? (·.key==x.key)=some x:=by
 have h1:=aE hi;rw[h1.1,List.find?_append];have:(l.take i).find? (·.key==x.key)=none:=by
  rw[List.find?_eq_none];intro y hy hk;simp only[kn]at hk;obtain⟨j,hj⟩:=List.getElem?_of_mem hy;rw[List.getElem?_take]at hj;split at hj
  ·rename_i hji
   have e1:(l.map (·.key))[i]? =some x.key:=by rw[jf,hi];rfl
   have e2:(l.map (·.key))[j]? =some x.key:=by rw[jf,hj,<-hk];rfl
   have:=(List.getElem?_inj (aE e1).2 hn).1 (e1.trans e2.symm);omega
  ·cases hj
 rw[this];simp
structure DM.bd(D:DM)(N:Nat):Prop where
 aS:0<=D.aS/\D.aS<=9223372036854775807
 ops:0<=D.ops/\D.ops<=(N:Int)
 wait:D.wait.length<=N
theorem jP:∀(ws:List (Int×LB)) (ps:LB) (bl:List (LB)),(dx bl ws ps).length=bl.length
 |[],_,bl=>by unfold dx;rfl
 |_::_,[],bl=>by unfold dx;rfl
 |x::ws,p::ps,bl=>by unfold dx;rw[jP ws ps];simp
theorem xM:∀(ws:List (Int×LB)) (ps:LB) (bl:List (LB)),(∀b∈bl,b.length=256)->(∀x∈ws,0<=x.1/\x.1<(bl.length:Int)/\x.2.length=256)->∀b∈dx bl ws ps,b.length=256
 |[],_,bl,h,_=>by unfold dx;exact h
 |_::_,[],bl,h,_=>by unfold dx;exact h
 |
  x::ws,p::ps,bl,h,hw=>by
  unfold dx;have hx:=hw x (by simp);refine xM ws ps _ ?_ ?_
  ·intro b hb
   rcases List.mem_or_eq_of_mem_set hb with h1|rfl
   ·exact h b h1
   ·have hi:x.1.toNat<bl.length:=by omega
    rw[jo hi];exact gi (h _ (List.getElem_mem hi)) hx.2.2 4 (by omega)
  ·intro y hy
   have:=hw y (by simp[hy]);rw[List.length_set];exact this
theorem zl{D:DM}(h:D.ok)(pl:LB):(dI D pl).ok:=
 ⟨xM D.wait pl D.blocks h.len h.kM,λx hx=>by simp[dI]at hx,by show 1<=(dx _ _ _).length;rw[jP];exact h.pos,by show(dx _ _ _).length<=2048;rw[jP];exact h.le⟩
theorem B8{D:DM}(h:D.ok){N:Nat}(hb:D.bd N):(cy D).2.ok/\(cy D).2.bd (N+1)/\(cy D).2.blocks.length=D.blocks.length:=by
 have h1:=hb.aS;have h2:=hb.ops;have h3:=hb.wait;unfold cy;split
 ·exact⟨⟨h.len,h.kM,h.pos,h.le⟩,⟨h1,⟨by dsimp only;omega,by dsimp only;omega⟩,by dsimp only;omega⟩,rfl⟩
 ·split
  ·exact⟨⟨h.len,h.kM,h.pos,h.le⟩,⟨⟨by dsimp only;omega,by dsimp only;omega⟩,⟨by dsimp only;omega,by dsimp only;omega⟩,by dsimp only;omega⟩,rfl⟩
  ·refine⟨zl (D:={D with ops:=D.ops+1}) ⟨h.len,h.kM,h.pos,h.le⟩ _,⟨⟨by simp[dI],by simp[dI]⟩,⟨by simp only[dI];omega,by simp only[dI];omega⟩,by simp[dI]⟩,by show(dx _ _ _).length=_;rw[jP]⟩
theorem kX{D:DM}(h:D.ok){N:Nat}(hb:D.bd N)(i:Int)(l:LB):(aH D i l).2.ok/\(aH D i l).2.bd (N+2)/\(aH D i l).2.blocks.length=D.blocks.length:=by
 have h1:=hb.aS;have h2:=hb.ops;have h3:=hb.wait;have jF:D.bd (N+2):=⟨h1,⟨h2.1,by omega⟩,by omega⟩;unfold aH;split
 ·exact⟨h,jF,rfl⟩
 ·rename_i hp
  split
  ·exact⟨h,jF,rfl⟩
  ·rename_i hl
   obtain⟨_,p1,p2⟩:=xL (Classical.not_not.1 hp);have:=B8 (rT h ⟨p1,p2⟩ (Classical.not_not.1 hl)) (N:=N+1) ⟨h1,⟨h2.1,by show D.ops<=_;omega⟩,by show(D.wait++[_]).length<=_;rw[jh,List.length_singleton];omega⟩;exact this
theorem qp(C:CM)(k:Int):(gS C k).l.map (·.key)=C.l.map (·.key):=by
 show(C.l.map _).map _=_;rw[List.map_map];refine List.map_congr_left λx _=>?_;show(if x.key=k then _ else _:Bm).key=x.key;split<;>rfl
theorem C42(c dp:Nat)(C:CM)(D:DM)(w:World)(F:Nat->Prop)(h:Has [bB c dp C,ag dp D] w F)(afA:(C.l.map (·.key)).Nodup)(hn:C.l.length<=1000)(hD:D.ok)(N:Nat)(hb:D.bd N)(hN:N<=1000000):
 Calls Pq 119 #[P0 c] w (au [.c aa] λr w'=>r=(jY (dD C) C D).1/\St F w w' [bB c dp (jY (dD C) C D).2.1,ag dp (jY (dD C) C D).2.2]):=by
 refine EZ _ _ _ ?_;unfold YD;have st:=St.init h;obtain⟨G1,_,_,g1,_,_,_,gc⟩:=st.fu;obtain⟨m0,Bo⟩:=YT g1;refine af (C72 c dp _ w Bo) ?_;rintro _ _ ⟨rfl,rfl⟩;refine aK rfl ?_;simp only[ah];refine af (C77 c dp C w G1 g1 (by omega)) ?_;rintro t w1 s0;have s1:St F w w1 [aA 1 t (ints (dD C)),bB c dp C,ag dp D]:=gc _ _ s0;have gO:=aT s1.sl;rw[oD]at gO;have hdl:=E6 C;have hks:∀k∈dD C,k∈C.l.map (·.key):=λk hk=>by
  have h2:=(cm _).subset hk;obtain⟨x,hx,rfl⟩:=ki.1 h2;exact ki.2 ⟨x,(List.mem_filter.1 hx).1,rfl⟩
 refine aC (λz W=>∃(j:Nat) (Cj:CM) (Dj:DM),z=j/\j<=(dD C).length/\jY ((dD C).drop j) Cj Dj=jY (dD C) C D/\Cj.l.map (·.key)=C.l.map (·.key)/\Dj.ok/\Dj.bd (N+2*j)/\St F w W [aA 1 t (ints (dD C)),bB c dp Cj,ag dp Dj])
  (λz _=>(dD C).length-z.toNat) ⟨0,C,D,rfl,by omega,rfl,rfl,hD,hb,s1⟩ ?_
 rintro _ W ⟨j,Cj,Dj,rfl,hj,kB,hkj,Bb,GX,s⟩;refine aj (λhlt=>?_) (λhge=>?_)
 rotate_left
 ·simp only[ja]at hge
  rw[List.drop_eq_nil_of_le (by omega)]at kB;have afB:(0,Cj,Dj)=jY (dD C) C D:=kB;rw[<-afB];exact⟨rfl,s.drop⟩
 simp only[jb]at hlt;have hjl:j<(dD C).length:=by omega
 have nU:(dD C).drop j=(dD C)[j]::(dD C).drop (j+1):=List.drop_eq_getElem_cons hjl;generalize hk:(dD C)[j]=k at nU;have hkm:k∈Cj.l.map (·.key):=by rw[hkj,<-hk];exact hks _ (List.getElem_mem hjl)
 refine⟨⟨by omega,hlt⟩,?_⟩;rw[jl];refine qx s.sl (i:=j) (c:=aa) (p:=k) (by simp[ints,hjl,hk]) ?_;obtain⟨m,bs,hl,s2⟩:=St.xK (s.ak 1);refine s2.ld (i:=2) (s:=.map) (p:=some m) rfl ?_;have hnj:(Cj.l.map (·.key)).Nodup:=by rw[hkj];exact afA
 rcases pU k bs with⟨_,h1⟩|⟨i,x,h1,h2,h3⟩
 ·exfalso
  obtain⟨y,hy,TQ⟩:=ki.1 hkm;rw[hl]at hy;obtain⟨z,hz,rfl⟩:=ki.1 hy;exact h1 z hz TQ
 have Hf:Cj.l[i]? =some x.m:=by rw[hl,jf,h1];rfl
 refine St.gP (T:=cz) (s2.ak 1) (k:=k) (λv hv=>?_) (λhv=>by rw[h3]at hv;cases hv);rw[h3,jg]at hv;refine⟨some ⟨x.ptr,0,none⟩,hv.symm,?_⟩;rw[aL];have s3:=s2.drew;refine s3.ld (i:=0) (s:=.ptr) (p:=some ⟨dp,0,none⟩) rfl ?_;simp only[ah];have s4:=((s3.ak 2).pick (i:=i) (A:=gK x) (by simp[h1])).M5;replace s4:St F w W.drew [ai x.ptr [slV x.s,.bool x.bU,.int .i64 x.asked],aA 1 x.s (x.b.map ub),bt ((bs.map gK).eraseIdx i),ai c [P0 dp,.int .i64 Cj.room,.map (some m),.int .i64 Cj.asked],ep cz m (bs.map uo),aA 1 t (ints (dD C)),ag dp Dj]:=s4;refine s4.ld (i:=0) (s:=.slice) (p:=x.s) rfl ?_;have s5:=s4.aG [6,1,0,2,3,4,5] 7;obtain⟨G,H,g2,g3,g4,_,Qk⟩:=St.call [ag dp Dj] s5;have oH:=GX.aS;have jF:=GX.ops;have GW:=GX.wait;have hby:eL Cj k=x.b:=by
  unfold eL;rw[<-h2,show x.key=x.m.key from rfl,Hv hnj Hf];rfl
 refine af (Ti dp Dj k x.s x.b _ G g2 (Rd.own g3 g4) Bb (by omega) oH.1 oH.2 ⟨jF.1,by omega⟩) ?_;rintro e w2 ⟨he,s6⟩;have s7:=Qk _ _ s6;rw[<-hby]at he s7;have hwo:=kX Bb GX k (eL Cj k);rw[nU,sO]at kB;refine aj (λhne=>?_) (λheq=>?_)
 ·have hne:(aH Dj k (eL Cj k)).1≠0:=by rw[<-he];simpa using hne
  rw[jd hne]at kB;rw[<-kB];refine⟨he,?_⟩;rw[hby]at s7;have s8:=St.nk (A:=gK x) (St.n6 (xs:=[_,_]) (s7.aG [2,1,3,4,5,0] 7)) (aE (show(bs.map gK)[i]? =some (gK x) by simp[h1])).2;rw[Nb (show(bs.map gK)[i]? =some (gK x) by simp[h1])]at s8;rw[hby];exact(s8.aG [1,2,0,3] 4).mE (C:=Cj) hl
 ·have heq:(aH Dj k (eL Cj k)).1=0:=by rw[<-he];simpa using heq
  rw[jc (by simp[heq])]at kB;refine(s7.ak 2).st (i:=1) (by simp) trivial λw3 s8=>?_;rw[bO (by omega)];refine⟨⟨j+1,gS Cj k,(aH Dj k (eL Cj k)).2,rfl,hjl,kB,by rw[qp,hkj],hwo.1,?_,?_⟩,by omega⟩
  ·rw[show N+2*(j+1)=N+2*j+2 by omega];exact hwo.2.1
  ·rw[hby]at s8⊢
   have s9:=St.nk (A:=gK {x with bU:=false}) (St.n6 (xs:=[_,_]) (s8.aG [0,2,3,4,5,1,6] 7)) (aE (show(bs.map gK)[i]? =some (gK x) by simp[h1])).2;have e1:(bs.map gK).set i (gK {x with bU:=false})=(bs.set i {x with bU:=false}).map gK:=by rw[List.map_set]
   have e2:bs.map uo=(bs.set i {x with bU:=false}).map uo:=(i4 uo (a:={x with bU:=false}) h1 rfl).symm;rw[e1,e2]at s9;have fm:=(s9.aG [1,2,0,3,4] 5).mE (C:=gS Cj k) (bs:=bs.set i {x with bU:=false}) (by
    show(Cj.l.map _)=_;rw[List.map_set,<-hl,show k=x.m.key from h2.symm,E7 (f:=λy=>{y with bU:=false}) hnj Hf];rfl)
   exact fm.aG [2,0,1] 3
theorem xV{F0:Nat->Prop}{w0 w:World}{L:List HA}{E p r:Nat}{bs t:Sl}{bl:List (Sl×LB)}{l:LB}{rest:LV}{k:Pr}(hn:bl.length<=100000000)
 (st:St F0 w0 w (ai r [slV t]::aA 1 t (l.map ub)::ai p (slV bs::rest)::aA 1 bs (bl.map λx=>slV x.1)::bt (bl.map c9)::L))
 (hk:∀bs' w',St F0 w0 w' (ai p (slV bs'::rest)::aA 1 bs' ((bl++[(t,l)]).map λx=>slV x.1)::bt ((bl++[(t,l)]).map c9)::L)->k w'):
 app E 1 24 [.slice none 0 0] bs ⟨some ⟨r,0,none⟩,1,1⟩ (λt26=>Eng.st (Addr.add ⟨p,0,none⟩ 0) (.slice t26.a t26.len t26.cap) k) w:=by
 have iu:=aT (st.ak 3).sl;rw[je]at iu;refine(st.ak 3).app (new:=[slV t]) (λ_=>rfl) (λh=>by cases h) (az.2 st.box.row) (by simp) rfl (by decide) (by dsimp only;omega) λr2 w2 s2 _=>?_;refine(s2.ak 3).st (i:=0) (by simp) trivial λw3 s3=>?_;refine hk r2 w3 ?_;rw[jk,jk];have s4:=(s3.aG [3,4,0,1] 5).push (A:=c9 (t,l));exact s4.aG [1,2,0] 3
theorem C43(n:Int)(w:World):Calls Pq 45 #[.int .i64 n] w (au [.c .ptr,.c aa] λr w'=>
 if 1<=n/\n<=2048 then r.2=0/\∃p,r.1=some ⟨p,0,none⟩/\St aI w w' [ag p (iK n.toNat)]else r=(none,1)/\w=w'):=by
 refine JE _ _ _ ?_;unfold F45;refine aB (λb W=>b=decide (n<1\/n>2048)/\w=W) ?_ ?_
 ·refine aj (λh0=>⟨?_,rfl⟩) (λh0=>⟨?_,rfl⟩)
  ·simp only[jb]at h0
   symm;rw[jb];exact .inl h0
  ·simp only[ja]at h0
   rw[decide_eq_decide];omega
 rintro _ _ ⟨rfl,rfl⟩;refine aj (λTg=>?_) (λLX=>?_)
 ·simp only[jb]at Tg
  dsimp only;rw[jc (by omega)];exact⟨rfl,rfl⟩
 simp only[ja]at LX;obtain⟨n,rfl⟩:∃m:Nat,n=(m:Int):=⟨n.toNat,by omega⟩;refine St.nw (St.bC w) λr w2 s2 _ _=>?_;simp only[ah];refine aC (λz W=>∃(j:Nat) (bs:Sl) (bl:List (Sl×LB)),z=j/\j<=n/\bl.length=j/\bl.map (·.2)=List.replicate j aU/\
  St aI w W [ai r [slV bs,slV ⟨none,0,0⟩,.bool false,.int .i64 0,.int .i64 0,slV ⟨none,0,0⟩],aA 1 bs (bl.map (λx=>slV x.1)),bt (bl.map c9)]) (λz _=>n-z.toNat)
  ⟨0,⟨none,0,0⟩,[],rfl,by omega,rfl,rfl,(s2.iT.dR 1).aG [2,0,1] 3⟩ ?_
 rintro _ W ⟨j,bs,bl,rfl,hj,iu,hz,st⟩;refine aj (λhlt=>?_) (λhge=>?_)
 ·simp only[jb]at hlt
  refine aB (λ_ W'=>∃bs' u,St aI w W' [ai r [slV bs',slV ⟨none,0,0⟩,.bool false,.int .i64 0,.int .i64 0,slV ⟨none,0,0⟩],aA 1 bs' ((bl++[(u,aU)]).map (λx=>slV x.1)),bt ((bl++[(u,aU)]).map c9)]) ?_ ?_
  rotate_left
  ·rintro⟨⟩ W' ⟨bs',u,s3⟩
   rw[bO (by omega)];exact⟨⟨j+1,bs',_,rfl,by omega,by simp[iu],by rw[jk,hz,List.replicate_succ'];rfl,s3⟩,by omega⟩
  have sd:=st.drew;refine⟨?_,?_⟩
  ·refine sd.ld (i:=0) (s:=.slice) (p:=bs) rfl ?_
   refine sd.BC (k:=1) 256 rfl rfl (by omega) (by omega) λu W2 s3 _=>?_;rw[BB]at s3;refine St.nw s3 λr1 W3 s4 _ _=>?_;exact xV (l:=aU) (by omega) s4 λbs' w' s=>⟨bs',u,s⟩
  ·refine sd.BC (k:=1) 256 rfl rfl (by omega) (by omega) λu W2 s3 _=>?_
   rw[BB]at s3;refine(s3.ak 1).ld (i:=0) (s:=.slice) (p:=bs) rfl ?_;refine St.nw s3 λr1 W3 s4 _ _=>?_;exact xV (l:=aU) (by omega) s4 λbs' w' s=>⟨bs',u,s⟩
 ·simp only[ja]at hge
  have:j=n:=by omega
  subst this;rw[jd (by omega)];refine⟨trivial,r,rfl,?_⟩;refine fQ (D:=iK j) ⟨bs,⟨none,0,0⟩,⟨none,0,0⟩,bl,[]⟩ hz.symm rfl ?_;exact(((st.dR 2).dR 1).iT).aG [3,4,2,1,5,0] 6
def Qz(D:DM)(i:Int)(k:Nat):LB:=(((D.wait.take k).reverse.find? (·.1==i)).map (·.2)).getD ((D.blocks[i.toNat]?).getD [])
theorem NC{D:DM}{i:Int}{k:Nat}{x:Int×LB}(h:D.wait[k]? =some x):Qz D i (k+1)=if x.1=i then x.2 else Qz D i k:=by
 unfold Qz;have hk:=(aE h).2;rw[jo hk,jg]at h;rw[List.take_add_one,jo hk,h];simp only[Option.toList_some,List.reverse_append,List.reverse_singleton,List.singleton_append,List.find?_cons];by_cases hx:x.1=i
 ·simp[hx]
 ·have:(x.1==i)=false:=by simpa using hx
  simp[this,hx]
theorem C97(p:Nat)(D:DM)(i:Int)(w:World)(F:Nat->Prop)(h:Has [ag p D] w F)(hok:D.ok)(jU:D.wait.length<=1000000000):
 Calls Pq 148 #[P0 p,.int .i64 i] w (au [.c .slice,.c aa] λr w'=>r.2=aM D i/\St aI w w' [aA 1 r.1 ((if aM D i=0 then bu D i else[]).map ub)]):=by
 refine E0 _ _ _ _ ?_;unfold YF;obtain⟨di,sd⟩:=(St.init h).ex;obtain⟨⟨hb,hw⟩,sd⟩:=sd.p;simp only[ah];refine sd.ld (i:=2) (s:=.bool) (p:=D.off) rfl ?_;refine aj (λho=>?_) (λho=>?_)
 ·have hp:aM D i=5:=by unfold aM;rw[jd ho]
  rw[hp];exact⟨rfl,(St.bC w).dR 1⟩
 have oo:=aT (sd.ak 1).sl;have iu:di.bl.length=D.blocks.length:=by rw[hb];simp
 rw[je,iu]at oo;refine aB (λb W=>b=decide (i<0\/i>=D.blocks.length)/\w=W) ?_ ?_
 ·refine aj (λh0=>⟨?_,rfl⟩) (λh0=>?_)
  ·simp only[jb]at h0
   symm;rw[jb];exact .inl h0
  ·simp only[ja]at h0
   refine sd.ld (i:=0) (s:=.slice) (p:=di.bs) rfl ⟨?_,rfl⟩;rw[decide_eq_decide];omega
 rintro _ _ ⟨rfl,rfl⟩;by_cases hc:i<0\/i>=D.blocks.length
 ·refine cj (by simp[hc]) ?_
  have hp:aM D i=30:=by unfold aM;rw[jc (by simp[ho]),jd hc]
  rw[hp];exact⟨rfl,(St.bC w).dR 1⟩
 refine aK (by simp[hc]) ?_;have hp:aM D i=0:=by unfold aM;rw[jc (by simp[ho]),jc hc]
 rw[hp,jd rfl];refine sd.ld (i:=0) (s:=.slice) (p:=di.bs) rfl ?_;have hlt:i.toNat<di.bl.length:=by omega
 refine⟨⟨by omega,by omega⟩,?_⟩;refine qx (sd.ak 1).sl (p:=di.bl[i.toNat].1) (by simp[hlt,slV]) ?_;have hws:WS w di.ws di.wl:=aN.ss bL (by decide) (sd.ak 2).sl;have I3:=hws.len;have hwn:di.wl.length=D.wait.length:=by rw[hw];simp
 have hcell:∀{k:Nat} {x:Int×Sl×LB} {c:CS} {q:dZ c} {n:Nat} {f:dZ c->Pr},di.wl[k]? =some x->(de x)[n]? =some (dH c q)->f q w->
  (cq ((0:Int)<=(k:Int)/\(k:Int)<(di.ws.len:Int))<|deref di.ws.a λa=>bI c (Addr.add (a.add (Int.toNat (k:Int)*2)) n) f) w:=by
  intro k x c q n f hx hn hf;have:=(aE hx).2;refine⟨⟨by omega,by omega⟩,?_⟩;obtain⟨ad,ha,hrow⟩:=hws.get (n:=2) bL hx (by decide);rw[ha,ah,jl];exact fe (hrow.get hn) hf
 refine aC (λz W=>∃k:Nat,z.2=k/\k<=D.wait.length/\w=W/\BS w z.1 (Qz D i k)) (λz _=>D.wait.length-z.2.toNat) ⟨0,rfl,by omega,rfl,?_⟩ ?_
 ·have:Qz D i 0=di.bl[i.toNat].2:=by unfold Qz;rw[hb];simp[hlt]
  rw[this];exact((sd.ak 4).pick (i:=i.toNat) (A:=c9 di.bl[i.toNat]) (by simp[hlt])).sl.bs
 rintro⟨b,_⟩ _ ⟨k,rfl,hk,rfl,zu⟩;dsimp only at zu⊢;refine sd.ld (i:=1) (s:=.slice) (p:=di.ws) rfl ?_;refine aj (λvG=>?_) (λhge=>?_)
 ·simp only[jb]at vG
  have hkl:k<di.wl.length:=by omega
  have hx:di.wl[k]? =some di.wl[k]:=by simp
  have hDk:D.wait[k]? =some (di.wl[k].1,di.wl[k].2.2):=by rw[hw,jf,hx];rfl
  have R9:=NC (i:=i) hDk;refine aB (λt W=>w=W/\BS w t (Qz D i (k+1))) ?_ ?_
  ·refine sd.ld (i:=1) (s:=.slice) (p:=di.ws) rfl ?_
   refine hcell (c:=aa) (n:=0) (q:=di.wl[k].1) hx rfl ?_;refine aj (λheq=>?_) (λhne=>?_)
   ·refine sd.ld (i:=1) (s:=.slice) (p:=di.ws) rfl ?_
    refine hcell (c:=.slice) (n:=1) (q:=di.wl[k].2.1) hx rfl ⟨rfl,?_⟩;rw[R9,jd (by simpa using heq)];exact((sd.ak 5).pick (i:=k) (A:=c9 di.wl[k].2) (by simp[hkl])).sl.bs
   ·refine⟨rfl,?_⟩
    rw[R9,jc (by simpa using hne)];exact zu
  ·rintro t _ ⟨rfl,h1⟩
   rw[bO (by omega)];exact⟨⟨k+1,rfl,by omega,rfl,h1⟩,by omega⟩
 ·simp only[ja]at hge
  have hkk:k=D.wait.length:=by omega
  have hrd:Qz D i k=bu D i:=by unfold Qz bu;rw[hkk,List.take_length]
  rw[hrd]at zu;have Qi:=dB hok (i:=i) (by omega) (by omega);have:=zu.len;refine jL zu (by omega) λr w' h1 h2=>⟨rfl,?_⟩;exact(St.bC w).iJ h2 h1
def gV(D:DM):DM:={D with ops:=D.ops+1,aS:=if D.aS=0 then 0 else D.aS-1}
theorem C81(p:Nat)(D:DM)(w:World)(F:Nat->Prop)(h:Has [ag p D] w F)(ha:0<=D.aS)(Ru:D.aS<=9223372036854775807)(ho:0<=D.ops/\D.ops<=1000000000000000):
 Calls Pq 185 #[P0 p] w (au [.c .bool] λr w'=>r=decide (D.aS=1)/\St F w w' [ag p (gV D)]):=by
 refine E1 _ _ _ ?_;unfold YI;obtain⟨i,st⟩:=(St.init h).ex;obtain⟨⟨hb,hw⟩,st⟩:=st.p;simp only[ah];refine st.ld (i:=3) (s:=aa) (p:=D.ops) rfl ?_;rw[show IntKind.wrap .i64 (D.ops+1)=D.ops+1 from wrap_i64 (by omega)];refine st.st (i:=3) (by simp) trivial λw1 s1=>?_;refine s1.ld (i:=4) (s:=aa) (p:=D.aS) rfl ?_;refine aj (λh0=>?_) (λh0=>?_)
 ·have h0:D.aS=0:=by simpa using h0
  refine⟨by rw[h0];rfl,fQ (D:=gV D) i hb hw ?_⟩;have:(gV D).aS=D.aS:=by unfold gV;rw[jd h0,h0]
  rw[this];exact s1
 have h0:D.aS≠0:=by simpa using h0
 refine s1.ld (i:=4) (s:=aa) (p:=D.aS) rfl ?_;rw[show IntKind.wrap .i64 (D.aS-1)=D.aS-1 from wrap_i64 (by omega)];refine s1.st (i:=4) (by simp) trivial λw2 s2=>?_;refine s2.ld (i:=4) (s:=aa) (p:=D.aS-1) rfl ⟨?_,fQ (D:=gV D) i hb hw ?_⟩
 ·rw[Bool.eq_iff_iff];simp only[kn,jb];omega
 ·have:(gV D).aS=D.aS-1:=by unfold gV;rw[jc h0]
  rw[this];exact s2
theorem xW{b l:LB}{p:Int}(hb:b.length=256)(hl:l.length=256):∀n,n<=4->∀i:Nat,(bz b l p n)[i]? =if i<64*n/\kA p (i/64)=true then l[i]?else b[i]?
 |0,_,i=>by rw[jc (by omega)];rfl
 |
  n+1,hn,i=>by
  have ih:=xW (p:=p) hb hl n (by omega) i;have hlen:=gi (p:=p) hb hl n (by omega);unfold bz;by_cases hp:kA p n=true
  ·rw[jd hp,iN (by rw[jt,kg];omega)]
   have hdl:((l.drop (64*n)).take 64).length=64:=by rw[jt,kg];omega
   rw[hdl];by_cases h1:64*n<=i/\i<64*n+64
   ·have hq:i/64=n:=by omega
    rw[jd h1,jd ⟨by omega,by rw[hq];exact hp⟩,List.getElem?_take,jd (by omega),List.getElem?_drop,show 64*n+(i-64*n)=i by omega]
   ·rw[jc h1,ih]
    by_cases h2:i<64*n
    ·by_cases h3:kA p (i/64)=true
     ·rw[jd ⟨h2,h3⟩,jd ⟨by omega,h3⟩]
     ·rw[jc (λh=>h3 h.2),jc (λh=>h3 h.2)]
    ·rw[jc (λh=>h2 h.1),jc (λh=>by omega)]
  ·rw[jc hp,ih]
   by_cases h2:i<64*n
   ·by_cases h3:kA p (i/64)=true
    ·rw[jd ⟨h2,h3⟩,jd ⟨by omega,h3⟩]
    ·rw[jc (λh=>h3 h.2),jc (λh=>h3 h.2)]
   ·rw[jc (λh=>h2 h.1),jc]
    rintro⟨h3,h4⟩;have hq:i/64=n:=by omega
    rw[hq]at h4;exact hp h4
def Cp(di:DI)(i:Nat)(t:Sl)(b:LB):DI:={di with bl:=di.bl.set i (t,b)}
theorem ND{F0:Nat->Prop}{w0 w:World}{L:List HA}{s:Sl}{l:LB}{j:Nat}{b:UInt8}{k:Pr}(h:St F0 w0 w (aA 1 s (l.map ub)::L))(hj:j<l.length)
 (hk:∀w',St F0 w0 w' (aA 1 s ((l.set j b).map ub)::L)->k w'):
 (cq ((0:Int)<=(j:Int)/\(j:Int)<(s.len:Int))<|deref s.a λa=>Eng.st (a.add (Int.toNat (j:Int)*1)) (.int .u8 (b.toNat:Int)) k) w:=by
 have hl:=aT h.sl;rw[je]at hl;refine⟨⟨by omega,by omega⟩,?_⟩;rw[jl];refine vQ h (by rw[je];exact hj) trivial λw' s'=>hk w' ?_;rw[List.map_set];exact s'
theorem xX{n:Nat}(h:n<1000):IntKind.wrap .u64 (n:Int)=(n:Int):=by
 simp only[IntKind.wrap,IntKind.signed,IntKind.bits];simp;omega
set_option maxRecDepth 20000 in
theorem C98(p:Nat)(D:DM)(di:DI)(i j:Nat)(s:Sl)(l:LB)(x:Sl×LB)(pick:Int)(w:World)(F:Nat->Prop)(h:Has (lz p D di) w F)(hx:di.bl[i]? =some x)(hj:di.wl[j]? =some ((i:Int),s,l))(wG:x.2.length=256)(iP:l.length=256):
 Calls Pq 186 #[P0 p,.agg #[.int .i64 (i:Int),.slice s.a s.len s.cap],.int .u8 pick] w (au [] λ_ w'=>∃t,St F w w' (lz p D (Cp di i t (bz x.2 l pick 4)))):=by
 refine E3 _ _ _ _ _ _ ?_;unfold YK;refine St.nw (St.init h) λr w1 s1 _ _=>?_;simp only[ah];rw[aL];have s2:=s1.drew;replace s2:St F w w1.drew (ai r [.int .i64 (i:Int),slV s]::lz p D di):=s2;refine(s2.ak 1).ld (i:=0) (s:=.slice) (p:=di.bs) rfl ?_;refine s2.ld (i:=0) (s:=aa) (p:=(i:Int)) rfl ?_;have hil:=(aE hx).2;have PJ:=aT (s2.ak 2).sl;rw[je]at PJ;refine⟨⟨by omega,by omega⟩,?_⟩;refine qx (s2.ak 2).sl (p:=x.1) (by rw[jl,jf,hx];rfl) ?_;have Bg:=((s2.ak 5).pick (i:=i) (A:=c9 x) (by rw[jf,hx];rfl)).sl.bs;have kJ:=Bg.len;refine jL Bg (by omega) λt w2 ht gt=>?_;have s3:=s2.iJ gt ht;refine aC (λz W=>∃(k:Nat) (m:LB),z=k/\k<=l.length/\m.length=l.length/\(∀a:Nat,m[a]? =if a<k/\kA pick (a/64)=true then l[a]?else x.2[a]?)/\St F w W (aA 1 t (m.map ub)::ai r [.int .i64 (i:Int),slV s]::lz p D di)) (λz _=>l.length-z.toNat)
  ⟨0,x.2,rfl,by omega,by omega,λa=>by rw[jc (by omega)],s3⟩ ?_
 intro z W hI;obtain⟨k,m,hz,hk,hm,hma,st⟩:=hI;subst hz;refine aj (λhlt=>?_) (λhge=>?_)
 ·simp only[jb]at hlt
  have Sa:k<256:=by omega
  refine aB (λ_ W'=>∃m:LB,m.length=l.length/\(∀a:Nat,m[a]? =if a<k+1/\kA pick (a/64)=true then l[a]?else x.2[a]?)/\St F w W' (aA 1 t (m.map ub)::ai r [.int .i64 (i:Int),slV s]::lz p D di)) ?_ ?_
  rotate_left
  ·rintro⟨⟩ W' ⟨m',h1,h2,h3⟩
   rw[bO (by omega)];exact⟨⟨k+1,m',rfl,by omega,h1,h2,h3⟩,by omega⟩
  have hdiv:IntKind.wrap .u64 (IntKind.wrap .i64 ((k:Int).tdiv 64))=((k/64:Nat):Int):=by
   have e1:(k:Int).tdiv 64=((k/64:Nat):Int):=by
    rw[Int.tdiv_eq_ediv_of_nonneg (by omega)];omega
   rw[e1,wrap_i64 (by omega)];exact xX (by omega)
  rw[hdiv];refine⟨by decide,by omega,?_⟩;refine aj (λhb=>?_) (λhb=>?_)
  ·have hp:kA pick (k/64)=true:=hb
   refine(st.ak 1).ld (i:=1) (s:=.slice) (p:=s) rfl ?_;have IK:BS W s l:=((st.ak 7).pick (i:=j) (A:=c9 (s,l)) (by simp[hj])).sl.bs;refine LY (b:=l[k]) IK (by simp[iP,Sa]) ?_;refine ND st (by omega) λw' s4=>⟨_,by rw[List.length_set];exact hm,λa=>?_,s4⟩;rw[List.getElem?_set];by_cases hka:k=a
   ·subst hka
    rw[jd rfl,jd (by omega),jd ⟨by omega,hp⟩];simp[iP,Sa]
   ·rw[jc hka,hma]
    by_cases h2:a<k
    ·by_cases h3:kA pick (a/64)=true
     ·rw[jd ⟨h2,h3⟩,jd ⟨by omega,h3⟩]
     ·rw[jc (λh=>h3 h.2),jc (λh=>h3 h.2)]
    ·rw[jc (λh=>h2 h.1),jc (λh=>by omega)]
  ·have hp:¬kA pick (k/64)=true:=by unfold kA;rw[hb];simp
   refine⟨m,hm,λa=>?_,st⟩;rw[hma];by_cases h2:a<k
   ·by_cases h3:kA pick (a/64)=true
    ·rw[jd ⟨h2,h3⟩,jd ⟨by omega,h3⟩]
    ·rw[jc (λh=>h3 h.2),jc (λh=>h3 h.2)]
   ·rw[jc (λh=>h2 h.1),jc]
    rintro⟨h3,h4⟩;have:a=k:=by omega
    subst this;exact hp h4
 ·simp only[ja]at hge
  have hk6:k=256:=by omega
  have hmr:m=bz x.2 l pick 4:=by
   refine List.ext_getElem? λa=>?_;rw[hma,hk6,xW wG iP 4 (by omega)]
  rw[hmr]at st;rw[aL];have s5:=st.drew;refine(s5.ak 2).ld (i:=0) (s:=.slice) (p:=di.bs) rfl ?_;refine(s5.ak 1).ld (i:=0) (s:=aa) (p:=(i:Int)) rfl ?_;refine⟨⟨by omega,by omega⟩,?_⟩;rw[jl];refine vQ (s5.ak 3) (i:=i) (v:=slV t) (by rw[je];exact hil) trivial λW2 s6=>⟨t,?_⟩;have s7:=(s6.aG [6,0,1,2,3,4,5,7] 8).pick (i:=i) (A:=c9 x) (by rw[jf,hx];rfl);have s8:=St.nk (A:=c9 (t,bz x.2 l pick 4)) (s7.aG [3,1,2,5,6,7,8] 9) (by rw[je];exact hil);have e1:(di.bl.map c9).set i (c9 (t,bz x.2 l pick 4))=(di.bl.set i (t,bz x.2 l pick 4)).map c9:=by rw[List.map_set]
  have e2:(di.bl.map λx=>slV x.1).set i (slV t)=(di.bl.set i (t,bz x.2 l pick 4)).map λx=>slV x.1:=by rw[List.map_set]
  rw[e1,e2]at s8;exact s8.aG [2,1,3,4,0,5] 6
theorem C82(p:Nat)(D:DM)(di:DI)(q:Sl)(pl:LB)(w:World)(F:Nat->Prop)(h:Has (lz p D di) w F)(hb:D.blocks=di.bl.map (·.2))(hw:D.wait=di.wl.map λx=>(x.1,x.2.2))(hok:D.ok)(hoff:D.off=false)(jU:D.wait.length<=1000000000)
 (hq:∀W dj L,qz di dj->St F w W (lz p D dj++L)->BS W q pl):
 Calls Pq 150 #[P0 p,.slice q.a q.len q.cap] w (au [.c aa] λr w'=>r=0/\St F w w' [ag p (dI D pl)]):=by
 refine xI _ _ _ _ ?_;unfold TK;have st:=St.init h;simp only[ah];refine st.ld (i:=2) (s:=.bool) (p:=D.off) rfl ?_;refine aK hoff ?_;have hwn:di.wl.length<=1000000000:=by rw[hw,je]at jU;exact jU
 have I3:di.ws.len=di.wl.length:=(aN.ss (f:=de) bL (by decide) (st.ak 2).sl).len;refine aC (λz W=>∃(j:Nat) (dj:DI),z=j/\j<=di.wl.length/\qz di dj/\(dj.bl.map (·.2)).length=D.blocks.length/\(∀b∈dj.bl.map (·.2),b.length=256)/\dx (dj.bl.map (·.2)) (D.wait.drop j) (pl.drop j)=dx D.blocks D.wait pl/\St F w W (lz p D dj)) (λz _=>di.wl.length-z.toNat)
  ⟨0,di,rfl,by omega,⟨rfl,rfl,rfl,rfl⟩,by rw[hb],by rw[<-hb];exact hok.len,by rw[hb];rfl,st⟩ ?_
 rintro _ W ⟨j,dj,rfl,hj,hsame,iu,kH,kB,s1⟩;have hqs:=hq W dj [] hsame s1;have PK:=hqs.len;refine aB (λb W'=>b=decide (j<di.wl.length/\j<pl.length)/\W=W') ?_ ?_
 ·refine s1.ld (i:=1) (s:=.slice) (p:=di.ws) (by show some (slV dj.ws)=_;rw[hsame.ws];rfl) ?_
  refine aj (λh1=>⟨?_,rfl⟩) (λh1=>⟨?_,rfl⟩)
  ·simp only[jb]at h1
   rw[decide_eq_decide];omega
  ·simp only[ja]at h1
   symm;rw[ja];omega
 rintro _ _ ⟨rfl,rfl⟩;by_cases hc:j<di.wl.length/\j<pl.length
 ·refine cj (by simp[hc]) ?_
  obtain⟨hjl,Xu⟩:=hc;rw[aL];have s5:=s1.drew;obtain⟨x,D3⟩:∃x,di.wl[j]? =some x:=⟨di.wl[j],by simp[hjl]⟩;have Bb:D.wait[j]? =some (x.1,x.2.2):=by rw[hw,jf,D3];rfl
  have yF:=hok.kM _ (ji Bb);dsimp only at yF;have nU:D.wait.drop j=(x.1,x.2.2)::D.wait.drop (j+1):=by
   have:=(aE Bb).2;rw[jo this,jg]at Bb;rw[List.drop_eq_getElem_cons this,Bb]
  have LZ:pl.drop j=pl[j]::pl.drop (j+1):=List.drop_eq_getElem_cons Xu;refine s5.ld (i:=1) (s:=.slice) (p:=di.ws) (by show some (slV dj.ws)=_;rw[hsame.ws];rfl) ?_;refine Xt (x:=x) (s:=di.ws) (wl:=di.wl) (by have:=(s5.ak 2).sl;rw[hsame.ws,hsame.wl]at this;exact this) D3 ?_;refine LY (b:=pl[j]) (hq _ dj [] hsame s5) (by simp[Xu]) ?_;obtain⟨G,H,g1,_,_,_,gc⟩:=St.call (lz p D dj) (l:=[]) s5;obtain⟨i,hi⟩:=Int.eq_ofNat_of_zero_le yF.1;have hil:i<dj.bl.length:=by rw[je]at iu;omega
  obtain⟨y,hy⟩:∃y,dj.bl[i]? =some y:=⟨dj.bl[i],by simp[hil]⟩;have oK:y.2.length=256:=kH _ (ki.2 ⟨y,ji hy,rfl⟩);have zX:dj.wl[j]? =some ((i:Int),x.2.1,x.2.2):=by rw[hsame.wl,D3,<-hi]
  dsimp only;rw[hi];refine af (C98 p D dj i j x.2.1 x.2.2 y (pl[j].toNat:Int) _ G g1 hy zX oK yF.2.2) ?_;rintro⟨⟩ w6 ⟨t,s6⟩;have s7:=gc _ _ s6;rw[List.append_nil]at s7;have od:(Cp dj i t (bz y.2 x.2.2 (pl[j].toNat:Int) 4)).bl.map (·.2)=(dj.bl.map (·.2)).set i (bz y.2 x.2.2 (pl[j].toNat:Int) 4):=by
   show(dj.bl.set i _).map _=_;rw[List.map_set]
  rw[bO (by omega)];refine⟨⟨j+1,Cp dj i t (bz y.2 x.2.2 (pl[j].toNat:Int) 4),rfl,by omega,⟨hsame.bs,hsame.ws,hsame.ps,hsame.wl⟩,?_,?_,?_,s7⟩,by omega⟩
  ·rw[od,List.length_set];exact iu
  ·intro b L0
   rw[od]at L0;rcases List.mem_or_eq_of_mem_set L0 with h|rfl
   ·exact kH b h
   ·exact gi oK yF.2.2 4 (by omega)
  ·rw[<-kB,od,nU,LZ]
   show _=dx ((dj.bl.map (·.2)).set x.1.toNat _) _ _;rw[hi];simp only[Int.ofNat_eq_natCast,jl,jf,hy,Option.map_some,Option.getD_some]
 ·refine aK (by simp only[hc,decide_false]) ?_
  have hf:dx (dj.bl.map (·.2)) (D.wait.drop j) (pl.drop j)=dj.bl.map (·.2):=by
   by_cases h1:j<di.wl.length
   ·have h2:pl.length<=j:=by omega
    rw[List.drop_eq_nil_of_le h2];cases D.wait.drop j<;>rfl
   ·have h2:D.wait.drop j=[]:=List.drop_eq_nil_of_le (by rw[hw,je];omega)
    rw[h2];unfold dx;rfl
  rw[hf]at kB;refine s1.st (i:=1) (by simp) trivial λw2 s2=>?_;refine s2.st (i:=2) (by simp) trivial λw3 s3=>?_;refine s3.st (i:=4) (by simp) trivial λw4 s4=>?_;refine s4.st (i:=5) (by simp) trivial λw5 s5=>⟨trivial,?_⟩;refine fQ (D:=dI D pl) ⟨dj.bs,⟨none,0,0⟩,⟨none,0,0⟩,dj.bl,[]⟩ kB.symm rfl ?_;exact(((s5.dR 2).dR 1).iT).aG [3,4,2,1,7,0] 9
theorem NF{E:Nat}{F0:Nat->Prop}{w0 w:World}{L:List HA}{p r:Nat}{D:DM}{di:DI}{i:Int}{t:Sl}{l:LB}{k:Pr}(hb:D.blocks=di.bl.map (·.2))(hw:D.wait=di.wl.map λx=>(x.1,x.2.2))(hn:D.wait.length<=1000000000)
 (st:St F0 w0 w (ai r [.int .i64 i,slV t]::aA 1 t (l.map ub)::ai p [slV di.bs,slV di.ws,.bool D.off,.int .i64 D.ops,.int .i64 D.aS,slV di.ps]::aA 1 di.bs (di.bl.map λx=>slV x.1)::aA 2 di.ws (di.wl.flatMap de)::aA 1 di.ps (D.j5.map ub)::
   bt (di.bl.map c9)::bt (di.wl.map λx=>c9 x.2)::L))(hk:∀w',St F0 w0 w' (ag p (ff D i l)::L)->k w'):
 app E 2 32 [.int .i64 0,.slice none 0 0] di.ws ⟨some ⟨r,0,none⟩,1,1⟩ (λt27=>Eng.st (Addr.add ⟨p,0,none⟩ 1) (.slice t27.a t27.len t27.cap) k) w:=by
 have jU:=(st.ak 4).sl.len;rw[cX bL]at jU;have hn2:di.wl.length<=1000000000:=by rw[hw,je]at hn;exact hn
 refine(st.ak 4).app (new:=de (i,t,l)) (λ_=>rfl) (λh=>by cases h) (az.2 st.box.row) qi rfl (by decide) (by dsimp only;omega) λr2 w2 s2 _=>?_;refine(s2.ak 3).st (i:=1) (by simp) trivial λw3 s3=>?_;refine hk w3 (fQ (D:=ff D i l) {di with ws:=r2,wl:=di.wl++[(i,t,l)]} hb (by simp[ff,hw]) ?_);dsimp only[ff];rw[List.flatMap_append,jk];have s5:=(s3.aG [3,7,0,4,1,5,6] 8).push;exact s5.aG [1,2,3,4,5,0] 6
theorem C48(p:Nat)(D:DM)(i:Int)(b:Sl)(l:LB)(w:World)(F:Nat->Prop)(h:Has [ag p D] w F)(hb:Rd w F b l)(hok:D.ok)(jU:D.wait.length<=100000000)(ha:0<=D.aS)(Ru:D.aS<=9223372036854775807)(ho:0<=D.ops/\D.ops<=1000000000000000):
 Calls Pq 136 #[P0 p,.int .i64 i,.slice b.a b.len b.cap] w (au [.c aa] λr w'=>r=(aH D i l).1/\St F w w' [ag p (aH D i l).2]):=by
 refine E4 _ _ _ _ _ ?_;unfold YN;have Lo:=St.init h;obtain⟨di,sd⟩:=(St.init h).ex;obtain⟨⟨hb',hw⟩,sd⟩:=sd.p;simp only[ah];refine sd.ld (i:=2) (s:=.bool) (p:=D.off) rfl ?_;refine aj (λhoff=>?_) (λhoff=>?_)
 ·have hp:aM D i=5:=by unfold aM;rw[jd hoff]
  unfold aH;rw[jd (by rw[hp];decide),hp];exact⟨rfl,Lo⟩
 have oo:=aT (sd.ak 1).sl;have iu:di.bl.length=D.blocks.length:=by rw[hb'];simp
 rw[je,iu]at oo;refine aB (λb W=>b=decide (i<0\/i>=D.blocks.length)/\w=W) ?_ ?_
 ·refine aj (λh0=>⟨?_,rfl⟩) (λh0=>?_)
  ·simp only[jb]at h0
   symm;rw[jb];exact .inl h0
  ·simp only[ja]at h0
   refine sd.ld (i:=0) (s:=.slice) (p:=di.bs) rfl ⟨?_,rfl⟩;rw[decide_eq_decide];omega
 rintro _ _ ⟨rfl,rfl⟩;by_cases hc:i<0\/i>=D.blocks.length
 ·refine cj (by simp[hc]) ?_
  have hp:aM D i=30:=by unfold aM;rw[jc (by simp[hoff]),jd hc]
  unfold aH;rw[jd (by rw[hp];decide),hp];exact⟨rfl,Lo⟩
 refine aK (by simp[hc]) ?_;have hp:aM D i=0:=by unfold aM;rw[jc (by simp[hoff]),jc hc]
 have afJ:=hb.bs.len;refine aj (λhne=>?_) (λheq=>?_)
 ·have hne:l.length≠256:=by simp at hne;omega
  unfold aH;rw[jc (by rw[hp];decide),jd hne];exact⟨rfl,Lo⟩
 have hl:l.length=256:=by simp at heq;omega
 have st:=sd.drew;rw[aL];have Aa:∀W L,St F w W L->∀k:Sl->Pr,(∀t w',St F w w' (aA 1 t (l.map ub)::L)->k t w')->app 5 1 1 [.int .u8 0] ⟨none,0,0⟩ b k W:=by
  intro W L s k hk;refine jL (hb.at s) (by omega) λt w' ht g5=>?_;exact hk t w' (s.iJ g5 ht)
 refine st.ld (i:=1) (s:=.slice) (p:=di.ws) rfl ?_;refine Aa _ _ st _ λt w1 s1=>?_;refine St.nw s1 λr w2 s2 _ _=>?_;refine NF hb' hw (by omega) s2 λW st=>?_;obtain⟨G,H,_,h1,_,_,_,tS⟩:=st.fu;have QA:=rT hok (i:=i) (l:=l) ⟨by omega,by omega⟩ hl;refine af (C81 p (ff D i l) W G h1 ha Ru ho) ?_;rintro _ w' ⟨rfl,s2⟩;have s3:=tS w' _ s2;have hwr:aH D i l=(if(cy (ff D i l)).1 then 5 else 0,(cy (ff D i l)).2):=by
  unfold aH;rw[jc (by rw[hp];decide),jc (by simp[hl])]
 rw[hwr];have QB:(ff D i l).aS=D.aS:=rfl;by_cases IG:D.aS=1
 ·refine cj (by rw[QB];simp[IG]) ?_
  have hg:cy (ff D i l)=(true,dI (gV (ff D i l)) (ff D i l).j5):=by
   unfold cy;rw[jc (by rw[QB];omega),jc (by rw[QB];omega)];rfl
  rw[hg];obtain⟨dj,s4⟩:=s3.ex;obtain⟨⟨GX,Zc⟩,s4⟩:=s4.p;refine s4.ld (i:=5) (s:=.slice) (p:=dj.ps) rfl ?_;obtain⟨G2,H2,g1,_,_,_,gc⟩:=St.call (lz p (gV (ff D i l)) dj) (l:=[]) s4;have afK:(gV (ff D i l)).ok:=⟨QA.len,QA.kM,QA.pos,QA.le⟩;refine af (C82 p (gV (ff D i l)) dj dj.ps (ff D i l).j5 w' G2 g1 GX Zc afK (by exact hoff) (by show(D.wait++[_]).length<=_;rw[jh,List.length_singleton];omega) λW dk L hs s5=>?_) ?_
  ·have:=(s5.ak 3).sl.bs
   rw[hs.ps]at this;exact this
  rintro e w6 ⟨_,s6⟩;exact⟨rfl,gc _ _ s6⟩
 ·refine aK (by rw[QB];simp[IG]) ?_
  have hg:cy (ff D i l)=(false,gV (ff D i l)):=by
   unfold cy gV;by_cases h0:D.aS=0
   ·rw[jd (by rw[QB];exact h0),jd (by rw[QB];exact h0)]
    have:(ff D i l).aS=0:=h0;rw[<-this]
   ·rw[jc (by rw[QB];exact h0),jd (by rw[QB];omega),jc (by rw[QB];exact h0)]
  rw[hg];exact⟨rfl,s3⟩
def gL(D:DM)(n:Int)(l:LB):Int×DM:=if D.off then(5,D)else if n<0 then(1,D)else(0,{D with aS:=n,j5:=l})
theorem C50(p:Nat)(D:DM)(n:Int)(b:Sl)(l:LB)(w:World)(F:Nat->Prop)(h:Has [ag p D] w F)(hb:Rd w F b l)(hl:l.length<=1000000):
 Calls Pq 39 #[P0 p,.int .i64 n,.slice b.a b.len b.cap] w (au [.c aa] λr w'=>r=(gL D n l).1/\St F w w' [ag p (gL D n l).2]):=by
 refine JF _ _ _ _ _ ?_;unfold F39;have Lo:=St.init h;obtain⟨di,sd⟩:=(St.init h).ex;obtain⟨⟨hb',hw⟩,sd⟩:=sd.p;simp only[ah];unfold gL;refine sd.ld (i:=2) (s:=.bool) (p:=D.off) rfl ?_;refine aj (λhoff=>?_) (λhoff=>aj (λhn=>?_) (λhn=>?_))
 ·rw[jd hoff];exact⟨rfl,Lo⟩
 ·simp only[jb]at hn
  rw[jc (by simp[hoff]),jd hn];exact⟨rfl,Lo⟩
 simp only[ja]at hn;rw[jc (by simp[hoff]),jc hn];refine sd.st (i:=4) (by simp) trivial λw2 s2=>?_;have iu:=hb.bs.len;refine jL (hb.at s2) (by omega) λt w3 ht g=>?_;have s3:=s2.iJ g ht;refine(s3.ak 1).st (i:=5) (by simp) trivial λw4 s4=>⟨rfl,?_⟩;refine fQ (D:={D with aS:=n,j5:=l}) {di with ps:=t} hb' hw ?_;exact s4.aG [0,2,3,1,5,6] 7
theorem C84(s:Sl)(l:LB)(w:World)(h:BS w s l)(hl:s.len<=1000000):Calls Pq 86 #[.slice s.a s.len s.cap] w (au [.c .slice] λr w'=>St aI w w' [aA 1 r (l.map ub)]):=by
 refine JC s _ _ ?_;unfold F86;refine⟨trivial,aj (λhn=>?_) (λhn=>?_)⟩
 ·have ha:s.a=none:=by simpa using hn
  have h0:=h.bY ha;have hl0:l=[]:=jy (by rw[<-h.len,h0]);subst hl0;exact(St.bC w).dR 1
 ·have ha:s.a≠none:=λh=>by simp[h]at hn
  refine St.nw (St.bC w) λr w1 s1 g1 _=>?_;have s2:St aI w w1 [aA 1 ⟨some ⟨r,0,none⟩,0,0⟩ []]:=by
   refine s1.conv (m:=[aA 1 ⟨some ⟨r,0,none⟩,0,0⟩ []]) λF hF=>Has.Wg ⟨⟨by simp,by simp,.inr ⟨r,0,[],rfl,Nat.zero_le _,hF.1.lt,hF.1.Y2,Row.nil _ _,rfl⟩⟩,λc=>?_⟩;rw[hF.2];constructor
   ·rintro rfl;exact⟨_,rfl,rfl⟩
   ·rintro⟨ad,h1,h2⟩;simp only[jg]at h1;rw[<-h2,<-h1]
  have:=h.len;refine s2.app (new:=l.map ub) (λ_=>by simp;omega) h.bY (h.row.grow g1) fc rfl (by decide) (by dsimp only;omega) λr2 w3 s3 _=>?_;exact s3
theorem C49(p:Nat)(D:DM)(n:Int)(b:Sl)(l:LB)(w:World)(F:Nat->Prop)(h:Has [ag p D] w F)(hb:Rd w F b l)(hok:D.ok)(hl:l.length<=1000000):
 Calls Pq 38 #[P0 p,.int .i64 n,.slice b.a b.len b.cap] w (au [.c aa] λr w'=>r=(gL D n l).1/\St F w w' [ag p (gL D n l).2]):=by
 refine JG _ _ _ _ _ ?_;unfold F38;refine af (V6 p D w F h hok) ?_;rintro _ _ ⟨rfl,rfl⟩;have Lo:=St.init h;obtain⟨di,sd⟩:=(St.init h).ex;obtain⟨⟨hb',hw⟩,sd⟩:=sd.p;simp only[ah];unfold gL By;by_cases hoff:D.off=true
 ·refine cj (by simp[hoff]) ?_
  rw[jd hoff,jd hoff];exact⟨rfl,Lo⟩
 refine aK (by simp[hoff]) (aj (λhn=>?_) (λhn=>?_))
 ·simp only[jb]at hn
  rw[jc hoff,jd hn];exact⟨rfl,Lo⟩
 simp only[ja]at hn;rw[jc hoff,jc hn];have iu:=hb.bs.len;refine af (C84 b l w hb.bs (by omega)) ?_;rintro t w2 s2;have s3:=sd.bP s2;refine(s3.ak 1).st (i:=4) (by simp) trivial λw4 s4=>?_;refine s4.st (i:=5) (by simp) trivial λw5 s5=>⟨rfl,?_⟩;refine fQ (D:={D with aS:=n,j5:=l}) {di with ps:=t} hb' hw ?_;exact s5.aG [0,2,3,1,5,6] 7
def Cq(D:DM):Int×DM:=if D.off then(0,{D with off:=false})else(7,D)
theorem C51(p:Nat)(D:DM)(w:World)(F:Nat->Prop)(h:Has [ag p D] w F)(hok:D.ok):Calls Pq 23 #[P0 p] w (au [.c aa] λr w'=>r=(Cq D).1/\St F w w' [ag p (Cq D).2]):=by
 refine JH _ _ _ ?_;unfold F23;refine af (V6 p D w F h hok) ?_;rintro _ _ ⟨rfl,rfl⟩;obtain⟨di,sd⟩:=(St.init h).ex;obtain⟨⟨hb',hw⟩,sd⟩:=sd.p;simp only[ah];unfold Cq By;by_cases hoff:D.off=true
 ·refine aK (by simp[hoff]) (cj (by simp[hoff]) ?_)
  rw[jd hoff];refine sd.st (i:=2) (by simp) trivial λw2 s2=>⟨rfl,?_⟩;exact fQ (D:={D with off:=false}) di hb' hw s2
 ·refine cj (by simp[hoff]) ?_
  rw[jc hoff];exact⟨rfl,St.init h⟩
theorem C52(p:Nat)(D:DM)(w:World)(F:Nat->Prop)(h:Has [ag p D] w F):Calls Pq 151 #[P0 p] w (au [.c aa] λr w'=>r=(Cq D).1/\St F w w' [ag p (Cq D).2]):=by
 refine E5 _ _ _ ?_;unfold YQ;obtain⟨di,sd⟩:=(St.init h).ex;obtain⟨⟨hb',hw⟩,sd⟩:=sd.p;simp only[ah];unfold Cq;refine sd.ld (i:=2) (s:=.bool) (p:=D.off) rfl ?_;by_cases hoff:D.off=true
 ·refine aK (by simp[hoff]) ?_
  rw[jd hoff];refine sd.st (i:=2) (by simp) trivial λw2 s2=>⟨rfl,?_⟩;exact fQ (D:={D with off:=false}) di hb' hw s2
 ·refine cj (by simp[hoff]) ?_
  rw[jc hoff];exact⟨rfl,St.init h⟩
theorem C99(n:Int)(w:World)(h0:0<=n)(h1:n<=1000000):Calls Pq 135 #[.slice none 0 0,.int .i64 n] w (au [.c .slice] λr w'=>St aI w w' [aA 1 r []]):=by
 refine xJ ⟨none,0,0⟩ n _ _ ?_;unfold TL;refine aB (λ_ w'=>w=w') (aK (by simpa using h0) rfl) ?_;rintro⟨⟩ _ rfl;have hw:IntKind.wrap .i64 (n-IntKind.wrap .i64 (((0:Nat):Int)-((0:Nat):Int)))=n:=by
  rw[show IntKind.wrap .i64 (((0:Nat):Int)-((0:Nat):Int))=0 from rfl,wrap_i64 (by omega)];omega
 rw[hw];refine aj (λh=>?_) (λh=>(St.bC w).dR 1);simp only[gt_iff_lt,jb]at h;refine qt (by decide) (by decide) ?_;simp only[jl,if_true];refine⟨h0,by omega,wrap_i64 (by omega),λhroom=>?_,λ_=>⟨[],λh=>by simp at h,rfl,?_,?_,?_⟩⟩
 ·have:0+n.toNat<=0:=hroom
  omega
 ·have:=nextslicecap_le (show 0<0+n.toNat by omega)
  show Builtin.nextslicecap (0+n.toNat) 0*1<=2^48;omega
 ·show 0+n.toNat<2^63
  omega
 intro cap hc1 lY;dsimp only at hc1 lY⊢;refine qt (by decide) (by dsimp only;omega) ?_;simp only[iO,ite_self];refine(St.bC w).iJ ((Mod.refl _ w).drew.alloc _) ?_;generalize hL:([]++zc [.int .u8 0] n.toNat++zc [.int .u8 0] (cap-(0+n.toNat)):LV)=L;have hLl:L.length=cap*1:=by rw[<-hL];simp only[List.nil_append,jh,jQ,List.length_cons,List.length_nil];omega
 refine⟨by simp,by simp,.inr ⟨w.heap.size,0,L,rfl,Nat.le_refl _,by simp,λo _ _=>?_,?_,by simpa using hLl⟩⟩
 ·exact World.frozen?_alloc_new w.drew _ _ o
 ·intro j v hj
  rw[iQ,Nat.zero_add];have:=World.cell?_alloc_new w.drew L.toArray 5 j;rw[World.size_drew]at this;rw[this];simpa using hj
def yQ(bl:List (Sl×LB)):LB:=bl.flatMap (·.2)
theorem zA{bl:List (Sl×LB)}{j:Nat}{x:Sl×LB}(h:bl[j]? =some x):yQ (bl.take (j+1))=yQ (bl.take j)++x.2:=by
 have hj:=(aE h).2;rw[jo hj,jg]at h;unfold yQ;rw[List.take_add_one,jo hj,h,List.flatMap_append];simp
theorem Cr{bl:List (Sl×LB)}(h:∀x∈bl,x.2.length=256):(yQ bl).length=bl.length*256:=by
 unfold yQ
 induction bl with
 |nil=>rfl
 |
  cons x bl ih=>
  rw[List.flatMap_cons,jh,ih λy hy=>h y (by simp[hy]),h x (by simp),List.length_cons];omega
structure kU(w:World)(bs:Sl)(bl:List (Sl×LB)):Prop where
 own:aN w 0 1 bs (bl.map λx=>slV x.1)
 row:∀x∈bl,BS w x.1 x.2
 len:∀x∈bl,x.2.length=256
 le:bl.length<=2048
theorem kU.grow{w w':World}{bs:Sl}{bl:List (Sl×LB)}(h:kU w bs bl)(g:Grow w w'):kU w' bs bl:=⟨h.own.grow g,λx hx=>(h.row x hx).grow g,h.len,h.le⟩
theorem kU.at{w:World}{bs:Sl}{bl:List (Sl×LB)}(h:kU w bs bl){j:Nat}{x:Sl×LB}(hx:bl[j]? =some x){k:Sl->Pr}(hk:k x.1 w):
 (cq ((0:Int)<=(j:Int)/\(j:Int)<(bs.len:Int))<|deref bs.a λa=>bI .slice (a.add (Int.toNat (j:Int)*1)) k) w:=by
 have hl:=aT h.own;rw[je]at hl;have:=(aE hx).2;refine⟨⟨by omega,by omega⟩,?_⟩;rw[jl];exact qx h.own (p:=x.1) (by rw[jf,hx];rfl) hk
theorem kU.Zd{w:World}{bs:Sl}{bl:List (Sl×LB)}(h:kU w bs bl):bs.len=bl.length:=by
 have:=aT h.own;rwa[je]at this
theorem C86(bs:Sl)(bl:List (Sl×LB))(w:World)(h:kU w bs bl):Calls Pq 79 #[.slice bs.a bs.len bs.cap] w (au [.c .slice] λr w'=>St aI w w' [aA 1 r ((yQ bl).map ub)]):=by
 refine zi bs _ _ ?_;unfold F79;have hl:=h.Zd;have hle:=h.le;simp only[ah];refine aC (λz W=>∃j:Nat,z.2=j/\j<=bl.length/\z.1=((256*j:Nat):Int)/\w=W) (λz _=>bl.length-z.2.toNat) ⟨0,rfl,by omega,rfl,rfl⟩ ?_;rintro⟨n,_⟩ _ ⟨j,rfl,hj,rfl,rfl⟩;dsimp only;refine aj (λhlt=>?_) (λhge=>?_)
 ·simp only[jb]at hlt
  have hjl:j<bl.length:=by omega
  obtain⟨x,hx⟩:∃x,bl[j]? =some x:=⟨bl[j],by simp[hjl]⟩;have wG:=h.len x (ji hx);have kJ:=(h.row x (ji hx)).len;refine aB (λm W=>m=((256*(j+1):Nat):Int)/\w=W) ?_ ?_
  ·refine h.at hx ?_
   rw[wrap_i64 (by omega)];refine aK (by simp only[ja];omega) ⟨by omega,rfl⟩
  ·rintro m _ ⟨rfl,rfl⟩
   rw[bO (by omega)];exact⟨⟨j+1,rfl,by omega,rfl,rfl⟩,by omega⟩
 ·simp only[ja]at hge
  refine af (C99 ((256*j:Nat):Int) w (by omega) (by omega)) ?_;rintro t w1 s1;refine aC (λz W=>∃j:Nat,z.2=j/\j<=bl.length/\St aI w W [aA 1 z.1 ((yQ (bl.take j)).map ub)]) (λz _=>bl.length-z.2.toNat) ⟨0,rfl,by omega,s1⟩ ?_;rintro⟨u,_⟩ W ⟨j,rfl,hj,s2⟩;dsimp only at s2⊢;refine aj (λhlt=>?_) (λhge=>?_)
  ·simp only[jb]at hlt
   have hjl:j<bl.length:=by omega
   obtain⟨x,hx⟩:∃x,bl[j]? =some x:=⟨bl[j],by simp[hjl]⟩;have wG:=h.len x (ji hx);have Bg:=(h.row x (ji hx)).grow s2.bS;have kJ:=Bg.len;have tO:=aT s2.sl;rw[je,Cr λy hy=>h.len y (List.mem_of_mem_take hy),jt]at tO;refine(h.grow s2.bS).at hx ?_;refine s2.app (new:=x.2.map ub) (λ_=>by simp;omega) Bg.bY Bg.row fc rfl (by decide) (by omega) λr w3 s3 _=>?_;rw[bO (by omega)];refine⟨⟨j+1,rfl,by omega,?_⟩,by omega⟩;rw[zA hx,jk];exact s3
  ·simp only[ja]at hge
   rw[List.take_of_length_le (by omega)]at s2;exact s2
theorem HI{p:Nat}{D:DM}{w:World}{F:Nat->Prop}(h:Has [ag p D] w F)(hok:D.ok):∃di:DI,D.blocks=di.bl.map (·.2)/\kU w di.bs di.bl/\∃vs,iw w p (slV di.bs::vs):=by
 obtain⟨di,sd⟩:=(St.init h).ex;obtain⟨⟨hb',hw⟩,sd⟩:=sd.p;have hl:di.bl.length=D.blocks.length:=by rw[hb'];simp
 refine⟨di,hb',⟨(sd.ak 1).sl,λx hx=>?_,λx hx=>hok.len _ (by rw[hb'];exact ki.2 ⟨x,hx,rfl⟩),by rw[hl];exact hok.le⟩,_,sd.box⟩;obtain⟨j,hj⟩:=List.getElem?_of_mem hx;exact((sd.ak 4).pick (i:=j) (A:=c9 x) (by rw[jf,hj];rfl)).sl.bs
theorem zB(bl:List (Sl×LB)):yQ bl=(bl.map (·.2)).flatten:=by unfold yQ;rw[List.flatMap_def]
theorem C54(p:Nat)(D:DM)(w:World)(F:Nat->Prop)(h:Has [ag p D] w F)(hok:D.ok):Calls Pq 25 #[P0 p] w (au [.c .slice] λr w'=>St aI w w' [aA 1 r (D.blocks.flatten.map ub)]):=by
 refine JI _ _ _ ?_;unfold F25;obtain⟨di,hb,hr,vs,Bo⟩:=HI h hok;refine⟨trivial,aK rfl ?_⟩;simp only[ah];refine Bo.ld (i:=0) (s:=.slice) (p:=di.bs) rfl ?_;refine af (C86 di.bs di.bl w hr) ?_;rintro t w1 s1;rw[hb,<-zB];exact s1
theorem C55(p:Nat)(D:DM)(w:World)(F:Nat->Prop)(h:Has [ag p D] w F)(hok:D.ok):Calls Pq 92 #[P0 p] w (au [.c .slice] λr w'=>St aI w w' [aA 1 r (D.blocks.flatten.map ub)]):=by
 refine JJ _ _ _ ?_;unfold F92;obtain⟨di,hb,hr,vs,Bo⟩:=HI h hok;have hl:=hr.Zd;have hle:=hr.le;simp only[ah];refine aC (λz W=>∃j:Nat,z.2=j/\j<=di.bl.length/\St aI w W [aA 1 z.1 ((yQ (di.bl.take j)).map ub)]) (λz _=>di.bl.length-z.2.toNat) ⟨0,rfl,by omega,(St.bC w).dR 1⟩ ?_;rintro⟨u,_⟩ W ⟨j,rfl,hj,s2⟩;dsimp only at s2⊢;refine(Bo.grow s2.bS).ld (i:=0) (s:=.slice) (p:=di.bs) rfl ?_;refine aj (λhlt=>?_) (λhge=>?_)
 ·simp only[jb]at hlt
  have hjl:j<di.bl.length:=by omega
  obtain⟨x,hx⟩:∃x,di.bl[j]? =some x:=⟨di.bl[j],by simp[hjl]⟩;have wG:=hr.len x (ji hx);have Bg:=(hr.row x (ji hx)).grow s2.bS;have kJ:=Bg.len;have tO:=aT s2.sl;rw[je,Cr λy hy=>hr.len y (List.mem_of_mem_take hy),jt]at tO;refine(Bo.grow s2.bS).ld (i:=0) (s:=.slice) (p:=di.bs) rfl ?_;refine(hr.grow s2.bS).at hx ?_;refine s2.app (new:=x.2.map ub) (λ_=>by simp;omega) Bg.bY Bg.row fc rfl (by decide) (by omega) λr w3 s3 _=>?_;rw[bO (by omega)];refine⟨⟨j+1,rfl,by omega,?_⟩,by omega⟩;rw[zA hx,jk];exact s3
 ·simp only[ja]at hge
  rw[List.take_of_length_le (by omega)]at s2;rw[hb,<-zB];exact s2
def af0:An:=(.n (.sq (.n (.n (.br (.n .z) .z))) (.n (.n .z))))
def F22(p0:OA)(p1:Sl)(Q:Int->Pr):Pr:=
 cI 67 [(.pointer p0)] λt7=>
 br (t7 !=0) (
 Q t7) (
 aq Pq 68 [(.pointer p0),(slV p1)] [] λ(t13:Unit)=>
 Q 0)
theorem J7(p0 p1 Q w)(h:F22 p0 p1 Q w):Calls Pq 22 #[(.pointer p0),(slV p1)] w (au [.c aa] Q):=cF (an:=af0) Tryz.func22 (by kernel_rfl) h
def af1:An:=(.n (.n .z))
def F53(p0:OA)(Q:Bool->Pr):Pr:=
 cI 67 [(.pointer p0)] λt4=>
 Q ((t4==0))
theorem J8(p0 Q w)(h:F53 p0 Q w):Calls Pq 53 #[(.pointer p0)] w (au [.c .bool] Q):=cF (an:=af1) Tryz.func53 (by kernel_rfl) h
def af2:An:=(.n (.sq (.n (.br (.n .z) .z)) (.n .z)))
def F91(p0:OA)(Q:Int->Pr):Pr:=
 cq True<|
 br (Option.isNone p0) (
 Q 0) (
 deref p0 λa=>
 bE (a.add 3) λt8=>
 Q t8)
theorem J9(p0 Q w)(h:F91 p0 Q w):Calls Pq 91 #[(.pointer p0)] w (au [.c aa] Q):=cF (an:=af2) Tryz.func91 (by kernel_rfl) h
def af3:An:=(.n (.n (.sq (.jn [] (.n (.br .z .z))) (.n .z))))
def F90(p0:OA)(Q:Value->Pr):Pr:=
 cq (aO (.slice none 0 0))<|nw (.cells #[(.slice none 0 0)] 111) λr=>
 jn (S:=Unit) (λR=>
 cq True<|
 br (!(Option.isNone p0)) (
 deref p0 λa=>
 ei (a.add 1) λt9=>
 cS 140 [(slV t9)] λt10=>
 st (bA r 0) (slV t10)<|
 R ()) (
 R ())) λs=>
 Q ((.func (.func 141) #[] #[(.pointer (some ⟨r,0,none⟩))]))
theorem Ka(p0 Q w)(h:F90 p0 Q w):Calls Pq 90 #[(.pointer p0)] w (au [.c .any] Q):=cF (an:=af3) Tryz.func90 (by kernel_rfl) h
def abh:An:=(.n (.bl (.lp [(7,.c aa)] (.n (.sq (.br .z .z) (.sq (.bl (.n (.sq (.jn [(18,.c .bool)] .z) (.br .z .z)))) .z))))))
def abi(p0:Value)(p1:OA)(Q:Unit->Pr):Pr:=
 deref p1 λa=>
 ei a λt5=>
 bh (S:=Int) (λX s=>
 br (decide (s<(t5.len:Int))) (
 el t5 s 2 λa_1=>
 bf [aa,.slice] a_1 λ(t10:Int×Sl)=>
 iB 164 [(iv 0),(.slice none 0 0)] [(iv t10.1),(slV t10.2)] λr=>
 jn (S:=Bool) (λR=>
 eG<|
 ei (bA r 1) λt15=>
 both (
 bE (bA r 0) λt13=>
 cS 82 [(slV t15)] λt16=>
 fH Pq p0 [(iv t13),(slV t16)] [.c .bool] λ(t17:Bool)=>
 R (!t17)) (
 cS 82 [(slV t15)] λN4=>
 bE (bA r 0) λabj=>
 fH Pq p0 [(iv abj),(slV N4)] [.c .bool] λ(N5:Bool)=>
 R (!N5))) λs_1=>
 br s_1 (
 Q ()) (
 X ((bq (s+1))))) (
 Q ())) 0
theorem Gg(p0 p1 Q w)(h:abi p0 p1 Q w):Calls Pq 141 #[p0,(.pointer p1)] w (au [] Q):=cF (an:=abh) Tryz.func141 (by kernel_rfl) h
def abk:An:=(.n (.sq (.n (.n (.br (.n .z) .z))) (.sq (.n (.br (.n .z) .z)) (.sq (.n (.bl (.lp [(18,.c aa)] (.n (.sq (.br .z .z) (.sq (.bl (.n .z)) .z)))))) (.n (.n .z))))))
def abl(p0:OA)(Q:Int->Pr):Pr:=
 cI 67 [(.pointer p0)] λt7=>
 br (t7 !=0) (
 Q t7) (
 cB 166 [(.pointer p0)] λt12=>
 br t12 (
 Q 5) (
 deref p0 λa=>
 ei (a.add 1) λt16=>
 bh (S:=Int) (λX s=>
 br (decide (s<(t16.len:Int))) (
 el t16 s 2 λcP=>
 bf [aa,.slice] cP λ(t21:Int×Sl)=>
 iB 164 [(iv 0),(.slice none 0 0)] [(iv t21.1),(slV t21.2)] λr=>
 bf [aa,.slice] (bA r 0) λ(t23:Int×Sl)=>
 aq Pq 120 [(.pointer p0),(.agg #[(iv t23.1),(slV t23.2)]),(uv 15)] [] λ(t24:Unit)=>
 X ((bq (s+1)))) (
 deref p0 λgZ=>
 st (gZ.add 1) (.slice none 0 0)<|
 Q 0)) 0))
theorem Gh(p0 Q w)(h:abl p0 Q w):Calls Pq 112 #[(.pointer p0)] w (au [.c aa] Q):=cF (an:=abk) Tryz.func112 (by kernel_rfl) h
def abm:An:=(.n (.sq (.n (.br (.n .z) .z)) (.n .z)))
def abn(p0:Sl)(Q:Sl->Pr):Pr:=
 cq True<|
 br (Option.isNone p0.a) (
 Q (⟨none,0,0⟩)) (
 nw (.cells #[] 164) λr=>
 app 164 2 32 [(iv 0),(.slice none 0 0)] ⟨(some ⟨r,0,none⟩),0,0⟩ p0 λt7=>
 Q t7)
theorem Gi(p0 Q w)(h:abn p0 Q w):Calls Pq 140 #[(slV p0)] w (au [.c .slice] Q):=cF (an:=abm) Tryz.func140 (by kernel_rfl) h
def abp:An:=(.n (.sq (.n (.br (.n .z) .z)) (.sq (.n (.br (.n (.n .z)) .z)) (.sq (.n (.bl (.lp [(3,.c aa)] (.sq (.n (.br .z .z)) (.sq (.bl .z) .z))))) (.n (.n .z))))))
def abq(p0:OA)(Q:Int->Pr):Pr:=
 deref p0 λa=>
 ot (a.add 2) λt7=>
 br t7 (
 Q 5) (
 cB 185 [(.pointer p0)] λt9=>
 br t9 (
 deref p0 λcP=>
 ei (cP.add 5) λt14=>
 cI 150 [(.pointer p0),(slV t14)] λt15=>
 Q 5) (
 bh (S:=Int) (λX s=>
 deref p0 λeo=>
 ei (eo.add 1) λt20=>
 br (decide (s<(t20.len:Int))) (
 deref p0 λfy=>
 ei (fy.add 1) λt29=>
 el t29 s 2 λdJ=>
 bf [aa,.slice] dJ λ(t32:Int×Sl)=>
 aq Pq 186 [(.pointer p0),(.agg #[(iv t32.1),(slV t32.2)]),(uv 15)] [] λ(t33:Unit)=>
 X ((bq (s+1)))) (
 deref p0 λgI=>
 st (gI.add 1) (.slice none 0 0)<|
 Q 0)) 0))
theorem Gj(p0 Q w)(h:abq p0 Q w):Calls Pq 137 #[(.pointer p0)] w (au [.c aa] Q):=cF (an:=abp) Tryz.func137 (by kernel_rfl) h
set_option maxRecDepth 20000
structure DB(N:Nat)(D:DM):Prop where
 ok:D.ok
 bd:D.bd N
theorem DB.le{N M:Nat}{D:DM}(h:DB N D)(hm:N<=M):DB M D:=⟨h.ok,h.bd.aS,by have:=h.bd.ops;omega,by have:=h.bd.wait;omega⟩
theorem VZ{k:Nat}(h:k<4):kA 15 k=true:=by
 obtain rfl|rfl|rfl|rfl:k=0\/k=1\/k=2\/k=3:=by omega
 all_goals rfl
theorem It{b l:LB}(hb:b.length=256)(hl:l.length=256):∀k,k<=4->bz b l 15 k=l.take (64*k)++b.drop (64*k)
 |0,_=>by simp[bz]
 |
  k+1,hk=>by
  unfold bz;rw[jd (VZ (by omega)),It hb hl k (by omega)];unfold lay;have h1:(l.take (64*k)).length=64*k:=by rw[jt];omega
  have h2:((l.drop (64*k)).take 64).length=64:=by rw[jt,kg];omega
  rw[h2,List.take_append_of_le_length (by omega),List.take_of_length_le (by omega)];have h3:(l.take (64*k)++b.drop (64*k)).drop (64*k+64)=b.drop (64*(k+1)):=by
   rw[List.drop_append,h1,List.drop_eq_nil_of_le (by omega),List.nil_append,List.drop_drop]
   congr 1;omega
  rw[h3,show 64*(k+1)=64*k+64 by omega,List.take_add]
theorem zS{b l:LB}(hb:b.length=256)(hl:l.length=256):bz b l 15 4=l:=by
 rw[It hb hl 4 (by omega),List.take_of_length_le (by omega),List.drop_eq_nil_of_le (by omega),List.append_nil]
def i6(bs:List (LB))(ws:List (Int×LB)):List (LB):=ws.foldl (λb x=>b.set x.1.toNat x.2) bs
def aP(D:DM):Int×DM:=if D.off then(5,D)else if(cy D).1 then(5,(cy D).2)else(0,{(cy D).2 with blocks:=i6 D.blocks D.wait,wait:=[]})
def e7(D:DM)(pl:LB):Int×DM:=if D.off then(5,D)else(0,dI D pl)
theorem C8{D:DM}(h:(cy D).1=false):(cy D).2.blocks=D.blocks/\(cy D).2.wait=D.wait/\(cy D).2.off=D.off/\(cy D).2.ops=D.ops+1/\(cy D).2.j5=D.j5/\(D.aS=0/\(cy D).2.aS=0\/D.aS>1/\(cy D).2.aS=D.aS-1):=by
 unfold cy at h⊢;split
 ·rename_i h0;exact⟨rfl,rfl,rfl,rfl,rfl,.inl ⟨h0,h0⟩⟩
 ·split
  ·rename_i h1;exact⟨rfl,rfl,rfl,rfl,rfl,.inr ⟨h1,rfl⟩⟩
  ·rename_i h0 h1;rw[jc h0,jc h1]at h;cases h
theorem Li{D:DM}(hok:D.ok)(h:(cy D).1=false):(cy D).2.ok:=by
 obtain⟨h1,h2,_⟩:=C8 h;exact⟨by rw[h1];exact hok.len,by rw[h1,h2];exact hok.kM,by rw[h1];exact hok.pos,by rw[h1];exact hok.le⟩
theorem adZ(p:Nat)(D:DM)(N:Nat)(w:World)(F:Nat->Prop)(h:Has [ag p D] w F)(hd:DB N D)(hN:N<=10000000):
 Calls Pq 112 #[P0 p] w (au [.c aa] λr w'=>r=(aP D).1/\St F w w' [ag p (aP D).2]):=by
 refine Gh _ _ _ ?_;unfold abl;have jU:=hd.bd.wait;have hop:=hd.bd.ops;refine af (V6 p D w F h hd.ok) ?_;rintro _ _ ⟨rfl,rfl⟩;unfold By aP;refine aj (λh1=>?_) λh1=>?_
 ·have:D.off=true:=by cases hh:D.off<;>simp[hh]at h1⊢
  rw[this];exact⟨rfl,St.init h⟩
 have hoff:D.off=false:=by cases hh:D.off<;>simp[hh]at h1⊢
 rw[hoff,jc (by simp)];refine af (C76 p D w F h hd.ok (by omega) hd.bd.aS.1 hd.bd.aS.2 (by omega)) ?_;rintro _ w1 ⟨rfl,s1⟩;refine aj (λhg=>?_) λhg=>?_
 ·rw[jd hg];exact⟨rfl,s1⟩
 rw[jc (by simp[hg])];have hok:=Li hd.ok hg;obtain⟨g1,g2,g3,_⟩:=C8 hg;rw[<-g1,<-g2];rw[<-g2]at jU;generalize(cy D).2=E at s1 hok jU⊢;clear g1 g2 g3 hg hd;obtain⟨di,s1⟩:=s1.ex;obtain⟨⟨hb,hw⟩,s1⟩:=s1.p;have s1:St F w w1 (lz p E di):=s1;simp only[ah];have hwn:di.wl.length<=10000000:=by rw[hw,je]at jU;omega
 have I3:di.ws.len=di.wl.length:=(aN.ss (f:=de) bL (by decide) (s1.ak 2).sl).len;refine s1.L 0 rfl (p:=di.ws) rfl ?_;refine aC (λz W=>∃(j:Nat) (dj:DI),z=j/\j<=di.wl.length/\qz di dj/\(dj.bl.map (·.2)).length=E.blocks.length/\(∀b∈dj.bl.map (·.2),b.length=256)/\dj.bl.map (·.2)=i6 E.blocks (E.wait.take j)/\St F w W (lz p E dj)) (λz _=>di.wl.length-z.toNat)
  ⟨0,di,rfl,by omega,⟨rfl,rfl,rfl,rfl⟩,by rw[hb],by rw[<-hb];exact hok.len,by rw[hb];rfl,s1⟩ ?_
 rintro _ W ⟨j,dj,rfl,hj,hsame,iu,kH,kB,sW⟩;refine aj (λhlt=>?_) (λhge=>?_)
 ·simp only[jb]at hlt
  have hjl:j<di.wl.length:=by omega
  obtain⟨x,D3⟩:∃x,di.wl[j]? =some x:=⟨di.wl[j],by simp[hjl]⟩;have Bb:E.wait[j]? =some (x.1,x.2.2):=by rw[hw,jf,D3];rfl
  have yF:=hok.kM _ (ji Bb);dsimp only at yF;have DZ:WS W di.ws di.wl:=by have:=aN.ss (f:=de) bL (by decide) (sW.ak 2).sl;rw[hsame.ws,hsame.wl]at this;exact this
  refine DZ.vL bL (n:=2) (cs:=[aa,.slice]) (p:=(x.1,x.2.1)) D3 (by decide) rfl ?_;refine sW.iB (vs:=[iv x.1,slV x.2.1]) rfl (by simp) λr w2 s2=>?_;refine s2.LA 0 rfl (p:=(x.1,x.2.1)) rfl ?_;have s3:St F w w2 (lz p E dj):=s2.drop;obtain⟨G,H,k1,_,_,_,gc⟩:=St.call (lz p E dj) (l:=[]) s3;obtain⟨i,hi⟩:=Int.eq_ofNat_of_zero_le yF.1;have hil:i<dj.bl.length:=by rw[je]at iu;omega
  obtain⟨y,hy⟩:∃y,dj.bl[i]? =some y:=⟨dj.bl[i],by simp[hil]⟩;have oK:y.2.length=256:=kH _ (ki.2 ⟨y,ji hy,rfl⟩);have zX:dj.wl[j]? =some ((i:Int),x.2.1,x.2.2):=by rw[hsame.wl,D3,<-hi]
  dsimp only;rw[hi];refine af (Xo p E dj i j x.2.1 x.2.2 y 15 _ G k1 hy zX oK yF.2.2) ?_;rintro⟨⟩ w6 s6;have s7:=gc _ _ s6;rw[zS oK yF.2.2,List.append_nil]at s7;have od:(j6 dj i x.2.2).bl.map (·.2)=(dj.bl.map (·.2)).set i x.2.2:=uZ;rw[bZ (by omega)];refine⟨⟨j+1,j6 dj i x.2.2,rfl,hjl,⟨hsame.bs,hsame.ws,hsame.ps,hsame.wl⟩,?_,?_,?_,s7⟩,by omega⟩
  ·rw[od,List.length_set];exact iu
  ·intro b L0
   rw[od]at L0;rcases List.mem_or_eq_of_mem_set L0 with h|rfl
   ·exact kH b h
   ·exact yF.2.2
  ·have ht:E.wait.take (j+1)=E.wait.take j++[(x.1,x.2.2)]:=by rw[List.take_add_one,Bb];rfl
   rw[od,kB,ht];unfold i6;rw[List.foldl_append];show _=(List.foldl _ E.blocks (List.take j E.wait)).set x.1.toNat x.2.2;rw[hi];rfl
 ·simp only[ja]at hge
  have:j=di.wl.length:=by omega
  have hall:E.wait.take j=E.wait:=List.take_of_length_le (by rw[hw,je];omega);rw[hall]at kB;refine sW.S 0 rfl (by simp) trivial λw2 s2=>⟨trivial,?_⟩;refine fQ (D:={E with blocks:=i6 E.blocks E.wait,wait:=[]}) ⟨dj.bs,⟨none,0,0⟩,dj.ps,dj.bl,[]⟩ kB.symm rfl ?_;exact((s2.dR 2).iT).aG [2,3,1,5,6,0] 8
theorem V22(p:Nat)(D:DM)(q:Sl)(pl:LB)(N:Nat)(w:World)(F:Nat->Prop)(h:Has [ag p D] w F)(hq:Rd w F q pl)(hd:DB N D)(hN:N<=10000000):
 Calls Pq 22 #[P0 p,slV q] w (au [.c aa] λr w'=>r=(e7 D pl).1/\St F w w' [ag p (e7 D pl).2]):=by
 refine J7 _ _ _ _ ?_;unfold F22;have jU:=hd.bd.wait;refine af (V6 p D w F h hd.ok) ?_;rintro _ _ ⟨rfl,rfl⟩;unfold By e7;refine aj (λh1=>?_) λh1=>?_
 ·have:D.off=true:=by cases hh:D.off<;>simp[hh]at h1⊢
  rw[this];exact⟨rfl,St.init h⟩
 have hoff:D.off=false:=by cases hh:D.off<;>simp[hh]at h1⊢
 rw[hoff,jc (by simp)];obtain⟨di,s1⟩:=(St.init h).ex;obtain⟨⟨hb,hw⟩,s1⟩:=s1.p;obtain⟨G,H,k1,_,_,k4,gc⟩:=St.call (lz p D di) (l:=[]) s1;refine af (C95 p D di q pl w G k1 hb hw hd.ok (by omega) λW dj L _ hs=>(hq.go (St.init h) (λb hb=>k4 b hb)).at hs) ?_;rintro⟨⟩ w2 s2;exact⟨rfl,gc _ _ s2⟩
theorem V53(p:Nat)(D:DM)(w:World)(F:Nat->Prop)(h:Has [ag p D] w F)(hok:D.ok):Calls Pq 53 #[P0 p] w (au [.c .bool] λr w'=>r= !D.off/\w=w'):=by
 refine J8 _ _ _ ?_;unfold F53;refine af (V6 p D w F h hok) ?_;rintro _ _ ⟨rfl,rfl⟩;refine⟨?_,rfl⟩;unfold By;cases D.off<;>rfl
abbrev aF(dp:Nat)(st n h:Int)(s:Sl):LV:=[P0 dp,iv st,iv n,iv h,slV s]
abbrev RP(r:Nat):Value:=.pointer (some ⟨r,0,none⟩)
theorem QK{r dp:Nat}{st n h:Int}{s:Sl}{w:World}(hb:iw w r (aF dp st n h s))(hn:0<=n/\n<=256):
 Calls Pq 111 #[RP r] w (au [.c aa] λx w'=>x=4*n/\w=w'):=by
 refine FX _ _ _ ?_;unfold aaF;simp only[ah];refine hb.ld (i:=2) (s:=aa) (p:=n) rfl ?_;exact⟨aJ ⟨by omega,by omega⟩,rfl⟩
def bW(st n q:Int):Int:=st+q%(4*n)/4
def bG(n q:Int):Int:=q%(4*n)%4*64
theorem Vg{r dp:Nat}{st n h q:Int}{s:Sl}{w:World}(hb:iw w r (aF dp st n h s))(hn:1<=n/\n<=256)(hst:0<=st/\st<=2048)(hq:0<=q):
 Calls Pq 125 #[RP r,iv q] w (au [.c aa,.c aa] λx w'=>x=(bW st n q,bG n q)/\w=w'):=by
 refine FY _ _ _ _ ?_;unfold aaH;refine af (QK hb ⟨by omega,hn.2⟩) ?_;rintro _ _ ⟨rfl,rfl⟩;refine⟨by omega,?_⟩;simp only[ah];refine hb.ld (i:=1) (s:=aa) (p:=st) rfl ?_;refine⟨by omega,by omega,?_,rfl⟩;have h1:q.tmod (4*n)=q%(4*n):=Int.tmod_eq_emod_of_nonneg hq;have h2:=Int.emod_nonneg q (b:=4*n) (by omega);have h3:=Int.emod_lt_of_pos q (b:=4*n) (by omega);rw[h1,Int.tdiv_eq_ediv_of_nonneg h2,Int.tmod_eq_emod_of_nonneg h2];unfold bW bG;rw[aJ (n:=q%(4*n)/4) ⟨by omega,by omega⟩,aJ (n:=st+_) ⟨by omega,by omega⟩,aJ (n:=q%(4*n)%4*64) ⟨by omega,by omega⟩]
theorem mW{st n q:Int}(hn:1<=n):st<=bW st n q/\bW st n q<st+n:=by
 have h2:=Int.emod_nonneg q (b:=4*n) (by omega);have h3:=Int.emod_lt_of_pos q (b:=4*n) (by omega);unfold bW;omega
theorem iD(n q:Int):0<=bG n q/\bG n q<=192/\bG n q%64=0:=by
 unfold bG;omega
theorem KZ{r dp:Nat}{st n h:Int}{s:Sl}{w:World}(hb:iw w r (aF dp st n h s)):
 Calls Pq 107 #[RP r] w (au [.c .bool] λx w'=>x=false/\w=w'):=by
 refine FZ _ _ _ ?_;unfold aaJ;refine⟨trivial,aK rfl ?_⟩;simp only[ah];refine hb.ld (i:=0) (s:=.ptr) (p:=some ⟨dp,0,none⟩) rfl ?_;exact⟨trivial,rfl,rfl⟩
theorem V58{r dp:Nat}{st n h:Int}{s:Sl}{w:World}(hb:iw w r (aF dp st n h s)):
 Calls Pq 58 #[RP r] w (au [.c aa] λx w'=>x=h/\w=w'):=by
 refine J4 _ _ _ ?_;unfold F58;refine af (KZ hb) ?_;rintro _ _ ⟨rfl,rfl⟩;refine aK rfl ?_;simp only[ah];exact hb.ld (i:=3) (s:=aa) (p:=h) rfl ⟨rfl,rfl⟩
theorem SC{r dp:Nat}{st n h:Int}{s:Sl}{w:World}(hb:iw w r (aF dp st n h s))(hh:0<=h/\h<=2305843009213693952)(hs:s.len<=1000000):
 Calls Pq 57 #[RP r] w (au [.c aa] λx w'=>x=h+s.len/\Grow w w'):=by
 refine J5 _ _ _ ?_;unfold F57;refine af (KZ hb) ?_;rintro _ _ ⟨rfl,rfl⟩;refine aK rfl ?_;rw[aL];have hg:Grow w w.drew:=(Mod.refl _ w).drew;simp only[ah];refine(hb.grow hg).ld (i:=3) (s:=aa) (p:=h) rfl ?_;refine(hb.grow hg).ld (i:=4) (s:=.slice) (p:=s) rfl ?_;exact⟨aJ ⟨by omega,by omega⟩,hg⟩
theorem V62{r dp:Nat}{st n h:Int}{s:Sl}{w:World}(hb:iw w r (aF dp st n h s))(hn:0<=n/\n<=256)(hs:s.len<=1000000):
 Calls Pq 62 #[RP r] w (au [.c aa] λx w'=>x=4*n-s.len/\Grow w w'):=by
 refine J6 _ _ _ ?_;unfold F62;refine af (KZ hb) ?_;rintro _ _ ⟨rfl,rfl⟩;refine aK rfl ?_;rw[aL];have hg:Grow w w.drew:=(Mod.refl _ w).drew;have hb:=hb.grow hg;simp only[ah];have e:bq (4*n-(s.len:Int))=4*n-s.len:=aJ ⟨by omega,by omega⟩;refine⟨?_,?_⟩
 ·refine af (QK hb hn) ?_
  rintro _ _ ⟨rfl,rfl⟩;exact hb.ld (i:=4) (s:=.slice) (p:=s) rfl ⟨e,hg⟩
 ·refine hb.ld (i:=4) (s:=.slice) (p:=s) rfl ?_
  refine af (QK hb hn) ?_;rintro _ _ ⟨rfl,rfl⟩;exact⟨e,hg⟩
def o8(h n:Int):Int:=if n<1\/n>256\/h<0\/h>1152921504606846976 then 0 else h+4*n
theorem aho(h n:Int)(w:World):Calls Pq 130 #[iv h,iv n] w (au [.c aa] λx w'=>x=o8 h n/\w=w'):=by
 refine F7 _ _ _ _ ?_;unfold aaX;refine aB (λb W=>b=decide (n<1\/n>256\/h<0\/h>1152921504606846976)/\W=w) ?_ ?_
 ·refine aj (λa=>⟨by simp at a;simp[a],rfl⟩) λa=>aj (λb=>⟨by simp at b;simp[b],rfl⟩) λb=>aj (λc=>⟨by simp at c;simp[c],rfl⟩) λc=>⟨?_,rfl⟩
  simp only[ja]at a b c;exact decide_eq_decide.2 (by omega)
 rintro _ _ ⟨rfl,rfl⟩;unfold o8;refine aj (λa=>?_) λa=>?_
 ·rw[jd (by simpa using a)];exact⟨rfl,rfl⟩
 ·have a':=jx a
  rw[jc a'];refine⟨?_,rfl⟩;rw[aJ (n:=4*n) ⟨by omega,by omega⟩,aJ ⟨by omega,by omega⟩]
def lX(n:Int):Int->LB->List Rv->Int×LB
 |_,l,[]=>(0,l)
 |q,l,x::xs=>if eP q x≠0 then(eP q x,l)else lX n (q+1) (lay l (bG n q).toNat (ej q x)) xs
def kS(D:DM)(n blk q:Int)(xs:List Rv):Int×DM:=
 if aM D blk≠0 then(aM D blk,D)else if(lX n q (bu D blk) xs).1≠0 then((lX n q (bu D blk) xs).1,D)else aH D blk (lX n q (bu D blk) xs).2
theorem ta{q:Int}{x:Rv}(h:eP q x=0):(ej q x).length=64:=by
 have hc:cA x.1 x.2.1 x.2.2.1 x.2.2.2.1 x.2.2.2.2.length=true:=by
  by_cases h2:cA x.1 x.2.1 x.2.2.1 x.2.2.2.1 x.2.2.2.2.length=true
  ·exact h2
  ·unfold eP nJ at h
   split at h
   ·cases h
   ·cases h
 have:=ym (n:=q) (k:=x.1) (b:=x.2.1) (o:=x.2.2.1) (m:=x.2.2.2.1) (jR hc).2.1;unfold ej CI;rw[jh,this,ck]
theorem ahp{r dp:Nat}{D:DM}{st n h:Int}{s:Sl}{blk q:Int}{p:Sl}{xs:List Rc}{N:Nat}{w:World}{F:Nat->Prop}(hh:Has [ai r (aF dp st n h s),ag dp D] w F)
 (hd:DB N D)(hN:N<=10000000)(hn:1<=n/\n<=256)(hst:0<=st/\st<=2048)(hq:0<=q/\q<=2305843009213693952)(hr:RL w p xs)(hp:p.len<=1000000):
 Calls Pq 168 #[RP r,iv blk,iv q,slV p] w (au [.c aa] λx w'=>x=(kS D n blk q (xs.map rv)).1/\St F w w' [ai r (aF dp st n h s),ag dp (kS D n blk q (xs.map rv)).2]):=by
 refine F4 _ _ _ _ _ _ ?_;unfold aaR;have iL:=hr.len;have s0:=St.init hh;have hW:∀{W},Grow w W->Has [ai r (aF dp st n h s),ag dp D] W F:=λg=>hh.mod g λ_ _ h=>h;have hB:∀{W},Grow w W->iw W r (aF dp st n h s):=λg=>(St.init (hW g)).box;simp only[ah];refine(hB (Mod.refl _ w)).ld (i:=0) (s:=.ptr) (p:=some ⟨dp,0,none⟩) rfl ?_;have hbd:=hd.bd.wait;obtain⟨F1,hd1⟩:∃F1,Has [ag dp D] w F1:=by
  obtain⟨G,H,g2,_⟩:=St.call [ag dp D] (s0.aG [1,0] 2);exact⟨G,g2⟩
 refine af (V7 dp D blk w F1 hd1 hd.ok (by omega)) ?_;rintro⟨t,e⟩ w1 ⟨he,t1⟩;dsimp only at he t1;subst he;unfold kS;refine aj (λhne=>?_) λheq=>?_
 ·have hne:aM D blk≠0:=by simpa using hne
  rw[jd hne];exact⟨rfl,s0.grow t1.bS⟩
 have heq:aM D blk=0:=by simpa using heq
 rw[jc (by simpa using heq)];rw[jd heq]at t1;have hrd:0<=blk/\blk<D.blocks.length:=by
  unfold aM at heq;split at heq
  ·cases heq
  ·split at heq
   ·cases heq
   ·omega
 have hl0:=dB hd.ok hrd.1 hrd.2;generalize bu D blk=l0 at t1 hl0;refine aC (λi W=>∃(j:Nat) (l:LB),i=j/\j<=xs.length/\l.length=256/\lX n q l0 (xs.map rv)=lX n (q+j) l ((xs.drop j).map rv)/\St aI w W [aA 1 t (l.map ub)]) (λi _=>xs.length-i.toNat) ⟨0,l0,rfl,by omega,hl0,by simp,t1⟩ ?_;rintro _ W ⟨j,l,rfl,hj,hl,hR,t2⟩;refine aj (λhlt=>?_) λhge=>?_
 ·have hlt:j<xs.length:=by simpa[iL]using hlt
  have hx:xs[j]? =some xs[j]:=by simp[hlt]
  rw[List.drop_eq_getElem_cons hlt,List.map_cons]at hR;have oo:=hr.2 _ (List.getElem_mem hlt);refine SS.vL Rw.bw (hr.1.grow t2.bS) (r:=xs[j].1) (by rw[jf,hx];rfl) (by decide) (p:=xs[j].1.p) rfl ?_;generalize xs[j]=x at oo hR;refine St.iB t2 rfl (λv hv=>by simp at hv;rcases hv with rfl|rfl|rfl|rfl|rfl<;>trivial) λb W2 t3=>?_;refine t3.LA 0 rfl (p:=x.1.p) rfl ?_;rw[show bq (q+(j:Int))=q+j from aJ ⟨by omega,by omega⟩];refine af (adX (q+j) x.1.k x.1.b x.1.o x.1.m x.1.s x.2 W2 (oo.grow t3.bS)) ?_;rintro⟨u,e⟩ W3 ⟨he,hP⟩;dsimp only at he hP;change e=eP (q+j) (rv x)at he;change(eP (q+j) (rv x)≠0/\_/\_)\/eP (q+j) (rv x)=0/\St aI W2 W3 [aA 1 u ((ej (q+j) (rv x)).map ub)]at hP;rw[lX]at hR;rcases hP with⟨h1,rfl,g4⟩|⟨h1,k4⟩
  ·rw[jd h1]at hR
   refine cj (by simpa[he]using h1) ?_;rw[hR,jd h1];exact⟨he,s0.grow (t3.grow g4).bS⟩
  ·rw[jc (by simpa using h1)]at hR
   refine aK (by simp[he,h1]) ?_;have fP:=ta h1;have t4:=t3.bP k4;refine af (Vg (hB t4.bS) hn hst (by omega)) ?_;rintro _ _ ⟨rfl,rfl⟩;have Ln:=iD n (q+j);obtain⟨o,ho⟩:∃o:Nat,bG n (q+j)=o:=⟨(bG n (q+j)).toNat,by omega⟩;rw[ho]at hR Ln⊢;rw[jl]at hR;have gO:=aT t2.sl;rw[je]at gO;refine mh (t:=t) (by omega) ?_;refine p7 (t4.aG [2,0,1] 3) t4.sl.bs (by rw[fP];omega) λW5 t5=>?_;rw[bZ (by omega)];refine⟨⟨j+1,_,rfl,hlt,?_,?_,t5.aG [0] 3⟩,?_⟩
   ·rw[eB (by rw[fP];omega),hl]
   ·rw[hR];congr 1;push_cast;omega
   ·show xs.length-(((j+1:Nat):Int)).toNat<xs.length-((j:Int)).toNat
    omega
 ·have hge:j=xs.length:=by simp[iL]at hge;omega
  subst hge;rw[List.drop_length]at hR;rw[hR];refine(hB t2.bS).ld (i:=0) (s:=.ptr) (p:=some ⟨dp,0,none⟩) rfl ?_;have s3:=(s0.bP t2).aG [2,0,1] 3;obtain⟨G,H,g2,g3,g4,_,gc⟩:=St.call [ag dp D] s3;refine af (Ti dp D blk t l W G g2 (Rd.own g3 g4) hd.ok (by omega) hd.bd.aS.1 hd.bd.aS.2 ⟨hd.bd.ops.1,by have:=hd.bd.ops.2;omega⟩) ?_;rintro e w2 ⟨he,s6⟩;exact⟨he,(gc _ _ s6).aG [2,0] 3⟩
theorem RL.sub{w:World}{s:Sl}{xs:List Rc}(h:RL w s xs){o n:Nat}(ho:o+n<=xs.length){a:OA}{c:Nat}(ha:a=s.a.map (·.add (o*5))\/n=0)(hz:n=0->a=none\/a.isSome):RL w ⟨a,n,c⟩ ((xs.drop o).take n):=by
 refine⟨⟨by simp;omega,?_⟩,λx hx=>h.2 x (List.mem_of_mem_drop (List.mem_of_mem_take hx))⟩;rcases Nat.eq_zero_or_pos n with h0|h0
 ·subst h0
  simp only[List.take_zero,List.map_nil,List.flatMap_nil];cases a with
  |none=>rfl
  |some _=>trivial
 ·have ha:=ha.resolve_right (by omega)
  have hrow:=h.1.row;rw[<-jT]at hrow⊢;have e:rcs ((xs.drop o).take n)=((rcs xs).drop (o*5)).take (n*5):=by
   have h1:rcs xs=rcs (xs.take o)++(rcs ((xs.drop o).take n)++rcs ((xs.drop o).drop n)):=by
    rw[<-dY,List.take_append_drop,<-dY,List.take_append_drop]
   rw[h1,List.drop_left' (by rw[dw,jt];congr 1;omega),List.take_left' (by rw[dw,jt,kg];congr 1;omega)]
  rw[e];cases hs:s.a with
  |
   none=>
   rw[hs]at hrow;have h0:rcs xs=[]:=hrow;have:=dw xs;rw[h0]at this;simp at this;omega
  |
   some ad=>
   rw[hs]at hrow ha;subst ha;exact az.2 (((az.1 hrow).drop _).take _)
abbrev yS(s:Sl)(o:Nat):Sl:=⟨if s.cap=o then s.a else s.a.map (·.add (o*5)),s.len-o,s.cap-o⟩
theorem RL.from{w:World}{s:Sl}{xs:List Rc}(h:RL w s xs)(hle:s.len<=s.cap){o:Nat}(ho:o<=xs.length):RL w (yS s o) (xs.drop o):=by
 have hl:=h.len;have:=h.sub (o:=o) (n:=s.len-o) (c:=s.cap-o) (by omega) (a:=if s.cap=o then s.a else s.a.map (·.add (o*5)))
  (by
   by_cases hc:s.cap=o
   ·exact .inr (by omega)
   ·exact .inl (by rw[jc hc])) (λ_=>Fb _)
 rw[List.take_of_length_le (by rw[kg];omega)]at this;exact this
theorem CJ{s:Sl}{o b:Nat}(h:(yS s o).blk b):s.blk b:=by
 obtain⟨ad,ha,rfl⟩:=h;unfold yS at ha;by_cases hc:s.cap=o
 ·rw[jd hc]at ha;exact⟨ad,ha,rfl⟩
 ·rw[jc hc]at ha
  obtain⟨a0,h1,h2⟩:=Option.map_eq_some_iff.1 ha;exact⟨a0,h1,by rw[<-h2];simp⟩
theorem yo{w:World}{s:Sl}{o:Nat}{k:Sl->Pr}(ho:o<=s.len)(hk:k (yS s o) w):slc 5 s (some (o:Int)) none none k w:=tT (by omega) (by omega) hk
theorem ahq{r dp:Nat}{D:DM}{st n h:Int}{s:Sl}{N:Nat}{w:World}{F:Nat->Prop}(hh:Has [ai r (aF dp st n h s),ag dp D] w F)(hd:DB N D)(hN:N<=10000000):
 Calls Pq 116 #[RP r] w (au [.c aa] λx w'=>x=(aP D).1/\St F w w' [ai r (aF dp st n h s),ag dp (aP D).2]):=by
 refine F5 _ _ _ ?_;unfold aaT;have s0:=St.init hh;refine af (KZ s0.box) ?_;rintro _ _ ⟨rfl,rfl⟩;refine aK rfl ?_;simp only[ah];refine s0.box.ld (i:=0) (s:=.ptr) (p:=some ⟨dp,0,none⟩) rfl ?_;obtain⟨G,H,g2,_,_,_,gc⟩:=St.call [ag dp D] (s0.aG [1,0] 2);refine af (adZ dp D N w G g2 hd hN) ?_;rintro e w2 ⟨he,s6⟩;exact⟨he,(gc _ _ s6).aG [1,0] 2⟩
theorem Om{F0:Nat->Prop}{w0 w:World}{L:List HA}{xs:List Rc}(k:Nat)(h:St F0 w0 w (b7 xs::L)):St F0 w0 w (b7 (xs.drop k)::L):=by
 have e:b7 xs=bt ((xs.take k).map (λx=>c9 (x.1.s,x.2))++(xs.drop k).map (λx=>c9 (x.1.s,x.2))):=by rw[<-jk,List.take_append_drop]
 rw[e]at h;have h:=h.M5;rw[ju]at h;exact h.GY.n6
abbrev gp(r dp:Nat)(st n h:Int)(s:Sl)(xs:List Rc):List HA:=[ai r (aF dp st n h s),aA 5 s (rcs xs),b7 xs]
theorem ahr{r dp:Nat}{st n h q:Int}{s:Sl}{xs:List Rc}{w:World}{F:Nat->Prop}(hh:Has (gp r dp st n h s xs) w F)(hs:xs.length<=1000000)(hr:0<=h/\h<=2305843009213693952):
 Calls Pq 114 #[RP r,iv q] w (au [.c aa] λx w'=>∃t,(h<=q/\q<=h+xs.length/\x=0/\St F w w' (gp r dp st n q t (xs.drop (q-h).toNat)))\/¬(h<=q/\q<=h+xs.length)/\x=1/\St F w w' (gp r dp st n h s xs)):=by
 refine F6 _ _ _ _ ?_;unfold aaV;have s0:St F w w (gp r dp st n h s xs):=St.init hh;refine af (KZ s0.box) ?_;rintro _ _ ⟨rfl,rfl⟩;refine aK rfl ?_;have rl:=(s0.aG [1,2] 3).rl;have hl:=rl.len;refine aB (λb W=>b=decide (¬(h<=q/\q<=h+xs.length))/\Grow w W) ?_ ?_
 ·simp only[ah]
  refine s0.box.ld (i:=3) (s:=aa) (p:=h) rfl ?_;refine aj (λa=>⟨by simp at a;exact bH (by omega),Mod.refl _ w⟩) λa=>?_;simp only[ja]at a;refine af (SC s0.box hr (by omega)) ?_;rintro _ W ⟨rfl,g⟩;exact⟨decide_eq_decide.2 (by omega),g⟩
 rintro _ W ⟨rfl,g⟩;have s1:=s0.grow g;refine aj (λa=>?_) λa=>?_
 ·exact⟨s,.inr ⟨jv a,rfl,s1⟩⟩
 have a:h<=q/\q<=h+xs.length:=by simpa using a
 have s2:=s1.drew;rw[aL];simp only[ah];refine s2.box.ld (i:=4) (s:=.slice) (p:=s) rfl ?_;refine s2.box.ld (i:=3) (s:=aa) (p:=h) rfl ?_;obtain⟨k,hk⟩:∃k:Nat,q-h=k:=⟨(q-h).toNat,by omega⟩;rw[aJ (n:=q-h) ⟨by omega,by omega⟩,hk,jl];have hle:=(s2.aG [1,0,2] 3).sl.le;refine yo (by omega) ?_;have rl2:=(s2.aG [1,2] 3).rl.from hle (o:=k) (by omega);refine af (C56 (yS s k) (xs.drop k) _ rl2 (by show s.len-k<=1000000;omega)) ?_;rintro t W2 ⟨ht,g2⟩;have s3:=s2.iJ g2 ht;have s4:=Om k (s3.aG [3,0,1] 4);have s4:St F w W2 [b7 (xs.drop k),aA 5 t (rcs (xs.drop k)),ai r (aF dp st n h s)]:=s4;refine s4.S 2 rfl (by simp) (by simp) λw5 s5=>?_;refine s5.S 2 rfl (by simp[eF]) trivial λw6 s6=>?_;have s7:=s6.aG [2,1,0] 3;have e:h+k=q:=by omega
 exact⟨t,.inl ⟨a.1,a.2,trivial,s7⟩⟩
structure Lp(w:World)(F:Nat->Prop)(s:Sl)(xs:List Rc):Prop where
 rl:RL w s xs
 no:∀b,xs≠[]->s.blk b->¬F b
 no2:∀x∈xs,∀b,x.2≠[]->x.1.s.blk b->¬F b
theorem Lp.at{w0 w:World}{F0:Nat->Prop}{s:Sl}{xs:List Rc}{L:List HA}(h:Lp w0 F0 s xs)(hs:St F0 w0 w L):RL w s xs:=
 ⟨⟨h.rl.1.len,h.rl.1.row.mod hs.1 λad ha hne hF=>h.no _ (λhx=>hne (by simp[hx])) ⟨ad,ha,rfl⟩ hF⟩,λx hx=>(h.rl.2 x hx).mod hs.1 λad ha hl hF=>h.no2 x hx _ hl ⟨ad,ha,rfl⟩ hF⟩
theorem Lp.from{w:World}{F:Nat->Prop}{s:Sl}{xs:List Rc}(h:Lp w F s xs)(hle:s.len<=s.cap){o:Nat}(ho:o<=xs.length):Lp w F (yS s o) (xs.drop o):=
 ⟨h.rl.from hle ho,λb hx hb=>h.no b (λh0=>hx (by simp[h0])) (CJ hb),λx hx=>h.no2 x (List.mem_of_mem_drop hx)⟩
theorem Lp.own{w:World}{F H:Nat->Prop}{s:Sl}{xs:List Rc}{L:List HA}(h:Has (aA 5 s (rcs xs)::b7 xs::L) w H)(hd:∀b,F b->¬H b):Lp w F s xs:=by
 have s0:=St.init h;refine⟨s0.rl,λb _ hb hF=>?_,λx hx b _ hb hF=>?_⟩
 ·obtain⟨G,H',⟨_,h2⟩,_,_,h5⟩:=h
  exact hd b hF ((h5 b).2 (.inl ((h2 b).2 hb)))
 ·obtain⟨i,hi,rfl⟩:=List.getElem_of_mem hx
  have s1:=s0.drop.pick (i:=i) (A:=c9 (xs[i].1.s,xs[i].2)) (by simp[hi]);obtain⟨G,H',h1,_,_,_,h4,_⟩:=St.fu s1;rcases h4 b ((h1.2 b).2 hb)with h6|h6
  ·exact hd b hF h6
  ·have:=aN.mq h1.1 hb
   omega
theorem we{F0:Nat->Prop}{w0 w:World}{L A B:List HA}(h:St F0 w0 w (bt A::bt B::L)):St F0 w0 w (bt (A++B)::L):=by
 have h1:=h.M5;have h2:St F0 w0 w (bt B::(A++L)):=h1.perm List.perm_middle;refine St.n6 (h2.M5.perm ?_);rw[ju];exact List.perm_append_comm_assoc ..
def kT(n st:Int):Nat->DM->Int->List Rv->Int×DM
 |0,D,_,_=>(0,D)
 |
  f+1,D,q,ys=>if ys=[]then(0,D)else
  if(kS D n (bW st n q) q (ys.take (gh ys.length (4-bG n q/64)).toNat)).1≠0 then kS D n (bW st n q) q (ys.take (gh ys.length (4-bG n q/64)).toNat)
  else kT n st f (kS D n (bW st n q) q (ys.take (gh ys.length (4-bG n q/64)).toNat)).2 (q+(gh ys.length (4-bG n q/64)).toNat) (ys.drop (gh ys.length (4-bG n q/64)).toNat)
def dN(D:DM)(st n h:Int)(R ys:List Rv):Int×DM:=
 if ys.all jH=false then(60,D)else if(ys.length:Int)>4*n-R.length then(70,D)else if(ys.length:Int)>1152921504606846976-(h+R.length)then(3,D)else kT n st ys.length D (h+R.length) ys
theorem uz{n st:Int}{f m:Nat}{D:DM}{q:Int}{ys:List Rv}(h:ys≠[])(hm:gh ys.length (4-bG n q/64)=(m:Int)):
 kT n st (f+1) D q ys=if(kS D n (bW st n q) q (ys.take m)).1≠0 then kS D n (bW st n q) q (ys.take m)else kT n st f (kS D n (bW st n q) q (ys.take m)).2 (q+m) (ys.drop m):=by
 rw[kT,jc h,hm,jl]
theorem HC{D:DM}{N:Nat}(hd:DB N D){n blk q:Int}{xs:List Rv}:DB (N+2) (kS D n blk q xs).2:=by
 unfold kS;split
 ·exact hd.le (by omega)
 ·split
  ·exact hd.le (by omega)
  ·have h:=kX hd.ok hd.bd blk (lX n q (bu D blk) xs).2
   exact⟨h.1,h.2.1⟩
theorem ahs{r dp:Nat}{D:DM}{st n h:Int}{s p:Sl}{xs ys:List Rc}{N:Nat}{w:World}{F:Nat->Prop}(hh:Has (gp r dp st n h s xs++[ag dp D]) w F)
 (hd:DB N D)(hN:N+2*ys.length<=10000000)(hn:1<=n/\n<=256)(hst:0<=st/\st<=2048)(hq:0<=h/\h<=2305843009213693952)(hx:xs.length<=1000000)(hr:Lp w F p ys)(hle:p.len<=p.cap)(hp:p.len<=1000000):
 Calls Pq 115 #[RP r,slV p] w (au [.c aa] λx w'=>∃t zs,x=(dN D st n h (xs.map rv) (ys.map rv)).1/\zs.map rv=(if x=0 then xs.map rv++ys.map rv else xs.map rv)/\
  St F w w' (gp r dp st n h t zs++[ag dp (dN D st n h (xs.map rv) (ys.map rv)).2])):=by
 refine F3 _ _ _ _ ?_;unfold aaN;have s0:St F w w [ai r (aF dp st n h s),aA 5 s (rcs xs),b7 xs,ag dp D]:=St.init hh;refine af (KZ s0.box) ?_;rintro _ _ ⟨rfl,rfl⟩;refine aK rfl ?_;have rl:=(s0.aG [1,2] 4).rl;have fP:=rl.len;have iL:=hr.rl.len;have ok1:∀{y:Rc},y∈ys->jH (rv y)=cA y.1.k y.1.b y.1.o y.1.m y.1.s.len:=λ{y} hy=>by
  rw[(hr.rl.2 y hy).len];rfl
 have out:∀{W} {e:Int} {D':DM},e≠0->dN D st n h (xs.map rv) (ys.map rv)=(e,D')->St F w W [ai r (aF dp st n h s),aA 5 s (rcs xs),b7 xs,ag dp D']->
  ∃t zs,e=(dN D st n h (xs.map rv) (ys.map rv)).1/\zs.map rv=(if e=0 then xs.map rv++ys.map rv else xs.map rv)/\St F w W (gp r dp st n h t zs++[ag dp (dN D st n h (xs.map rv) (ys.map rv)).2]):=λhe h1 h2=>⟨s,xs,by rw[h1],by rw[jc he],by rw[h1];exact h2⟩
 refine aC (λi W=>∃j:Nat,i=j/\j<=ys.length/\(∀y∈ys.take j,jH (rv y)=true)/\Grow w W) (λi _=>ys.length-i.toNat) ⟨0,rfl,by omega,by simp,Mod.refl _ w⟩ ?_;rintro _ W ⟨j,rfl,hj,hok,g⟩;refine aj (λhlt=>?_) λhge=>?_
 ·have hlt:j<ys.length:=by simpa[iL]using hlt
  have hy:ys[j]? =some ys[j]:=by simp[hlt]
  refine SS.vL Rw.bw (hr.rl.1.grow g) (r:=ys[j].1) (by rw[jf,hy];rfl) (by decide) (p:=ys[j].1.p) rfl ?_;refine St.iB (St.bC W) rfl (λv hv=>by simp at hv;rcases hv with rfl|rfl|rfl|rfl|rfl<;>trivial) λb W2 t3=>?_;refine t3.LA 0 rfl (p:=ys[j].1.p) rfl ?_;refine af (C59 ys[j].1.k ys[j].1.b ys[j].1.o ys[j].1.m ys[j].1.s W2) ?_;rintro e W3 ⟨he,g3⟩;have g4:=(g.trans t3.bS).trans g3;rw[<-ok1 (List.getElem_mem hlt)]at he;refine aj (λhne=>?_) λheq=>?_
  ·have hb:jH (rv ys[j])=false:=by
    cases hb:jH (rv ys[j])
    ·rfl
    ·rw[hb]at he;simp[he]at hne
   rw[hb]at he;refine out (by rw[he];decide) ?_ (s0.grow g4);unfold dN;rw[jd,he]
   ·rfl
   ·rw[List.all_eq_false]
    exact⟨_,ki.2 ⟨_,List.getElem_mem hlt,rfl⟩,by simp[hb]⟩
  ·rw[bZ (by omega)]
   refine⟨⟨j+1,rfl,hlt,?_,g4⟩,?_⟩
   ·intro y hy'
    rw[List.take_add_one,hy,jz]at hy';rcases hy' with h'|h'
    ·exact hok y h'
    ·simp at h'
     subst h';cases hb:jH (rv ys[j])
     ·rw[hb]at he;simp[he]at heq
     ·rfl
   ·show ys.length-(((j+1:Nat):Int)).toNat<ys.length-((j:Int)).toNat
    omega
 have hge:j=ys.length:=by simp[iL]at hge;omega
 subst hge;rw[List.take_length]at hok;have hall:(ys.map rv).all jH=true:=by
  rw[List.all_eq_true];intro v hv;obtain⟨y,hy,rfl⟩:=ki.1 hv;exact hok y hy
 have s1:=s0.grow g;refine af (V62 s1.box (by omega) (by omega)) ?_;rintro _ W2 ⟨rfl,g2⟩;have s2:=s1.grow g2;have eX:dN D st n h (xs.map rv) (ys.map rv)=if(ys.length:Int)>4*n-xs.length then(70,D)else if(ys.length:Int)>1152921504606846976-(h+xs.length)then(3,D)else kT n st ys.length D (h+xs.length) (ys.map rv):=by
  unfold dN;rw[jc (by simp[hall]),je,je]
 refine aj (λa=>?_) λa=>?_
 ·have a:(ys.length:Int)>4*n-xs.length:=by simp[iL,fP]at a;omega
  exact out (by decide) (by rw[eX,jd a]) s2
 have a:¬(ys.length:Int)>4*n-xs.length:=by simp[iL,fP]at a;omega
 rw[jc a]at eX;refine af (SC s2.box hq (by omega)) ?_;rintro _ W3 ⟨rfl,g3⟩;have s3:=s2.grow g3;rw[aJ (n:=1152921504606846976-(h+(s.len:Int))) ⟨by omega,by omega⟩];refine aj (λb=>?_) λb=>?_
 ·have b:(ys.length:Int)>1152921504606846976-(h+xs.length):=by simp[iL,fP]at b;omega
  exact out (by decide) (by rw[eX,jd b]) s3
 have b:¬(ys.length:Int)>1152921504606846976-(h+xs.length):=by simp[iL,fP]at b;omega
 rw[jc b]at eX;refine af (SC s3.box hq (by omega)) ?_;rintro _ W4 ⟨rfl,g4⟩;have s4:=s3.grow g4;refine aC (λc W=>∃(k f:Nat) (Dk:DM),c.1=h+xs.length+k/\k<=ys.length/\Lp w F c.2 (ys.drop k)/\c.2.len<=c.2.cap/\DB (N+2*k) Dk/\ys.length-k<=f/\
  kT n st ys.length D (h+xs.length) (ys.map rv)=kT n st f Dk (h+xs.length+k) ((ys.drop k).map rv)/\St F w W [ai r (aF dp st n h s),aA 5 s (rcs xs),b7 xs,ag dp Dk]) (λc _=>c.2.len)
  ⟨0,ys.length,D,by rw[fP];simp,by omega,hr,hle,hd,by omega,by simp,s4⟩ ?_
 rintro⟨q,u⟩ W5 ⟨k,f,Dk,rfl,hk,hu,tO,hdk,hf,hX,s5⟩;dsimp only at hu tO⊢;have ad0:=hu.rl.len;rw[kg]at ad0;refine aj (λc=>?_) λc=>?_
 ·have c:0<u.len:=by simp at c;omega
  obtain⟨f,rfl⟩:∃f',f=f'+1:=⟨f-1,by omega⟩;simp only[ah];refine af (Vg s5.box hn hst (by omega)) ?_;rintro _ _ ⟨rfl,rfl⟩;dsimp only;have Ln:=iD n (h+xs.length+k);have hpb:=mW (st:=st) (q:=h+xs.length+k) hn.1;have Vh:(ys.drop k).map rv≠[]:=by
   intro h0;have:=congrArg List.length h0;simp at this;omega
  have hYl:(((ys.drop k).map rv).length:Int)=(u.len:Int):=by simp;omega
  have R6:=uz (n:=n) (st:=st) (f:=f) (D:=Dk) (q:=h+xs.length+k) Vh (m:=(gh u.len (4-bG n (h+xs.length+k)/64)).toNat) (by
   rw[hYl,Int.toNat_of_nonneg];unfold gh;split<;>omega)
  generalize bG n (h+xs.length+k)=o at Ln R6⊢;generalize bW st n (h+xs.length+k)=blk at hpb R6⊢;have e1:bq (4-bq (o.tdiv 64))=4-o/64:=by
   rw[Int.tdiv_eq_ediv_of_nonneg Ln.1,aJ (n:=o/64) ⟨by omega,by omega⟩,aJ ⟨by omega,by omega⟩]
  rw[e1];have hm2:1<=gh u.len (4-o/64)/\gh u.len (4-o/64)<=u.len:=by unfold gh;split<;>omega
  obtain⟨m,hm⟩:∃m:Nat,gh u.len (4-o/64)=m:=⟨_,(Int.toNat_of_nonneg (by omega)).symm⟩;rw[hm]at R6 hm2⊢;rw[jl]at R6;rw[R6]at hX;refine⟨by decide,?_⟩;refine S0 (hu.at s5) tO (by omega) hm2.2 λrlm=>?_;rw[jl]at rlm⊢;have s6:=s5.aG [0,3,1,2] 4;obtain⟨G,H,g2,_,_,_,gc⟩:=St.call [ai r (aF dp st n h s),ag dp Dk] s6;refine af (ahp (N:=N+2*k) (blk:=blk) (q:=h+xs.length+k) g2 hdk (by omega) hn hst (by omega) rlm (by show m<=1000000;omega)) ?_;rw[List.map_take];rintro e W6 ⟨he,s7⟩;have s8:=(gc _ _ s7).aG [0,2,3,1] 4;refine aj (λhne=>?_) λheq=>?_
  ·have hne:e≠0:=by simpa using hne
   rw[he]at hne;rw[jd hne]at hX;rw[he];exact out hne (by rw[eX,hX]) s8
  ·have heq:e=0:=by simpa using heq
   rw[he]at heq;rw[jc (λhn0=>hn0 heq)]at hX;refine yo (by omega) ?_;rw[aJ (n:=h+xs.length+k+m) ⟨by omega,by omega⟩];refine⟨⟨k+m,f,_,by push_cast;omega,by omega,?_,by show u.len-m<=u.cap-m;omega,(HC hdk).le (by omega),by omega,?_,s8⟩,by show u.len-m<u.len;omega⟩
   ·have:=hu.from tO (o:=m) (by rw[kg];omega)
    rwa[List.drop_drop]at this
   ·rw[hX,<-List.map_drop,List.drop_drop]
    congr 1;push_cast;omega
 ·have c:u.len=0:=by simp at c;omega
  have hk:k=ys.length:=by omega
  subst hk;rw[List.drop_length,List.map_nil]at hX;have hX:dN D st n h (xs.map rv) (ys.map rv)=(0,Dk):=by
   rw[eX,hX];cases f<;>simp[kT]
  rw[aL];have s6:=s5.drew;have hb:∀y∈ys,y.1.s.len<=100000000000000:=by
   intro y hy;have h1:=hok y hy;rw[ok1 hy]at h1;have:=(jR h1).2.1;omega
  simp only[ah];refine aB (λc W=>∃t zs,c=((some ⟨r,0,none⟩:OA),s,t)/\zs.map rv=ys.map rv/\St F w W (aA 5 t (rcs zs)::b7 zs::[ai r (aF dp st n h s),aA 5 s (rcs xs),b7 xs,ag dp Dk])) ⟨?_,?_⟩ ?_
  ·refine s6.box.ld (i:=4) (s:=.slice) (p:=s) rfl ?_
   refine af (Vf p ys _ (hr.at s6) hp hb) ?_;rintro t W6 ⟨zs,hz,s7⟩;exact⟨t,zs,rfl,hz,s6.bP s7⟩
  ·refine af (Vf p ys _ (hr.at s6) hp hb) ?_
   rintro t W6 ⟨zs,hz,s7⟩;have s8:=s6.bP s7;refine(s8.ak 2).box.ld (i:=4) (s:=.slice) (p:=s) rfl ?_;exact⟨t,zs,rfl,hz,s8⟩
  rintro _ W6 ⟨t,zs,rfl,hz,s7⟩;have hzl:zs.length=ys.length:=by simpa using congrArg List.length hz
  have tl:=s7.sl.len;have tr:=s7.sl.reads;have tn:t.a=none->t.len=0:=λha=>by
   have:=s7.ss.bY Rw.bw (by decide) ha;exact this
  rw[dw]at tl;dsimp only;refine St.app (s7.aG [3,0,1,2,4,5] 6) (new:=rcs zs) (λ_=>by rw[dw];exact tl) tn tr (ni zs) rfl (by decide) (by omega) λr2 W7 s8 _=>?_;rw[<-dY]at s8;have s9:=we (s8.aG [4,2,0,3,5] 6);rw[<-jk]at s9;have s9:St F w W7 [b7 (xs++zs),aA 5 r2 (rcs (xs++zs)),ai r (aF dp st n h s),ag dp Dk]:=s9;rw[ah];refine s9.S 2 rfl (by simp) (by simp) λW8 fm=>?_;rw[hX];exact⟨r2,xs++zs,rfl,by simp[hz],fm.aG [2,1,0,3] 4⟩
theorem wg{w:World}{s:Sl}{l:LB}{i e:Int}{k:Sl->Pr}(h:BS w s l)(hle:s.len<=s.cap)(h0:0<=i)(h1:i<=e)(h2:e<=(s.len:Int))(hk:∀r,BS w r ((l.take e.toNat).drop i.toNat)->r.len<=r.cap->k r w):slc 1 s (some i) (some e) none k w:=by
 obtain⟨a1,a2,a3,a4,b⟩:=wD (k:=λr W=>BS w r ((l.take e.toNat).drop i.toNat)/\r.len=e.toNat-i.toNat) h hle h0 h1 h2 λr hb hl=>⟨hb,hl⟩;exact⟨a1,a2,a3,a4,hk _ b.1 (by simp;omega)⟩
def tg(D:DM)(st n q:Int):LB:=((bu D (bW st n q)).take (bG n q+64).toNat).drop (bG n q).toNat
def iE(D:DM)(st n:Int):Nat->Int->List Rv
 |0,_=>[]
 |f+1,q=>if(eO (tg D st n q) q).2≠0 then[]else(eO (tg D st n q) q).1::iE D st n f (q+1)
def mX(D:DM)(st n h:Int):Prop:=n<1\/n>256\/st<0\/n>D.blocks.length\/st>D.blocks.length-n\/h<0\/h>1152921504606846976
instance(D:DM)(st n h:Int):Decidable (mX D st n h):=by unfold mX;exact inferInstance
def eR(D:DM)(st n h:Int):Int:=if mX D st n h then 1 else if D.off then 5 else 0
abbrev cx(D:DM)(st n h:Int):List Rv:=iE D st n (4*n).toNat h
theorem jS{D:DM}{st n:Int}:∀(f:Nat) (q:Int),(iE D st n f q).length<=f
 |0,_=>by simp[iE]
 |
  f+1,q=>by
  unfold iE;split
  ·simp
  ·have:=jS (D:=D) (st:=st) (n:=n) f (q+1)
   simp;omega
theorem K0(B:LB)(q:Int):(eO B q).1.2.2.2.2.length<=255:=by
 have hb:=jC B 1;have h0:(fq B).2.2.2.2.length<=255:=by
  unfold fq;split
  ·dsimp only;rw[jt];omega
  ·simp
 have h1:(dK B).1.2.2.2.2.length<=255:=by
  unfold dK;split
  ·exact h0
  ·simp
 unfold eO;split
 ·simp
 ·split
  ·simp
  ·exact h1
theorem zR{D:DM}{st n:Int}:∀(f:Nat) (q:Int),∀v∈iE D st n f q,v.2.2.2.2.length<=255
 |0,_=>by simp[iE]
 |
  f+1,q=>by
  unfold iE;split
  ·simp
  ·intro v hv
   rcases List.mem_cons.1 hv with h|h
   ·subst h;exact K0 _ _
   ·exact zR f (q+1) v h
def vD(D:DM)(dp:Nat)(st n h:Int)(w:World)(r:OA×Sl×Int)(w':World):Prop:=
 (eR D st n h≠0/\r=(none,⟨none,0,0⟩,eR D st n h)/\Grow w w')\/
 (eR D st n h=0/\∃(b:Nat) (s t:Sl) (xs ys:List Rc),r=(some ⟨b,0,none⟩,t,0)/\xs.map rv=cx D st n h/\ys.map rv=cx D st n h/\St aI w w' (gp b dp st n h s xs++[aA 5 t (rcs ys),b7 ys]))
theorem V72{dp:Nat}{D:DM}{st n h:Int}{N:Nat}{w:World}{F:Nat->Prop}(hh:Has [ag dp D] w F)(hd:DB N D)(hN:N<=10000000):
 Calls Pq 72 #[P0 dp,iv st,iv n,iv h] w (au [.c .ptr,.c .slice,.c aa] (vD D dp st n h w)):=by
 refine J3 _ _ _ _ _ _ ?_;unfold F72;have iu:=hd.ok.pos;have aht:=hd.ok.le;have jU:=hd.bd.wait;have GL:∀{W:World} {k:Int->Pr},Grow w W->k D.blocks.length W->aq Pq 83 [P0 dp] [.c aa] k W:=λg hk=>af (V5 dp D _ F (hh.mod g λ_ _ h=>h)) λ_ _ ⟨e,e'⟩=>by subst e e';exact hk
 refine GL (Mod.refl _ w) (aK (beq_eq_false_iff_ne.2 (by omega)) ?_);refine aB (λb W=>b=decide (mX D st n h)/\W=w) ?_ ?_
 ·unfold mX
  refine aj (λa=>⟨bH (.inl (by simpa using a)),rfl⟩) λa=>?_;refine aj (λb=>⟨bH (.inr (.inl (by simpa using b))),rfl⟩) λb=>?_;refine aj (λc=>⟨bH (.inr (.inr (.inl (by simpa using c)))),rfl⟩) λc=>?_;refine GL (Mod.refl _ w) (aj (λd=>⟨bH (.inr (.inr (.inr (.inl (by simpa using d))))),rfl⟩) λd=>?_);simp only[ja]at a b c d;refine GL (Mod.refl _ w) ?_;rw[aJ (n:=(D.blocks.length:Int)-n) ⟨by omega,by omega⟩];refine(aj (λe=>⟨bH (.inr (.inr (.inr (.inr (.inl (jv e)))))),rfl⟩) λe=>?_);refine aj (λf=>⟨bH (.inr (.inr (.inr (.inr (.inr (.inl (jv f))))))),rfl⟩) λf=>⟨?_,rfl⟩;simp only[ja]at e f;exact decide_eq_decide.2 (by omega)
 rintro _ w ⟨rfl,rfl⟩;unfold vD eR;refine aj (λa=>?_) λa=>?_
 ·rw[jd (jv a)]
  exact .inl ⟨by decide,rfl,Mod.refl _ w⟩
 have a:=jx a;rw[jc a];unfold mX at a;have hn:1<=n/\n<=256:=by omega
 have hst:0<=st/\st+n<=D.blocks.length:=by omega
 have hq:0<=h/\h<=1152921504606846976:=by omega
 refine St.nw (St.bC w) λr w1 s1 _ _=>?_;have s1:St aI w w1 [ai r (aF dp st n h ⟨none,0,0⟩)]:=s1;have s2:=((s1.dR 5).iT).aG [2,1,0] 3;have s2:St aI w w1 (gp r dp st n h ⟨none,0,0⟩ []):=s2;refine aB (λ_ W=>D.off=false/\∃s xs,xs.map rv=cx D st n h/\St aI w W (gp r dp st n h s xs)) ?_ ?_
 ·refine af (QK s1.box ⟨by omega,by omega⟩) ?_
  rintro _ _ ⟨rfl,rfl⟩;refine aC (λc W=>∃(j:Nat) (s:Sl) (xs:List Rc) (l:LB),c.2.2=j/\xs.length=j/\(j:Int)<=4*n/\(c.2.1= -1\/D.off=false/\0<=c.2.1/\c.2.1<D.blocks.length/\l=bu D c.2.1)/\
   xs.map rv++iE D st n ((4*n).toNat-j) (h+j)=cx D st n h/\((4*n).toNat=j->D.off=false)/\St aI w W (aA 1 c.1 (l.map ub)::gp r dp st n h s xs)) (λc _=>(4*n).toNat-c.2.2.toNat)
   ⟨0,⟨none,0,0⟩,[],[],rfl,rfl,by omega,.inl rfl,by simp[cx],by omega,s2.dR 1⟩ ?_
  rintro⟨u,cur,i⟩ W ⟨j,s,xs,l,rfl,kJ,hj,ad1,hX,hoff,s3⟩;dsimp only at ad1 s3⊢;refine aj (λhlt=>?_) λhge=>?_
  ·have hlt:(j:Int)<4*n:=by simpa using hlt
   have hf:(4*n).toNat-j=((4*n).toNat-(j+1))+1:=by omega
   rw[hf,iE]at hX;have s4:=(s3.drew).ak 1;rw[aL];have hs:=(s4.ak 2).sl.len;rw[dw]at hs;have hsj:s.len=j:=by omega
   refine af (SC s4.box (by omega) (by omega)) ?_;rintro _ W2 ⟨rfl,g2⟩;have s5:=s4.grow g2;rw[show h+(s.len:Int)=h+j by omega];refine af (Vg s5.box hn (by omega) (by omega)) ?_;rintro _ _ ⟨rfl,rfl⟩;have Ln:=iD n (h+j);have hpb:=mW (st:=st) (q:=h+j) hn.1;have pz:tg D st n (h+j)=((bu D (bW st n (h+j))).take (bG n (h+j)+64).toNat).drop (bG n (h+j)).toNat:=rfl;dsimp only;generalize bG n (h+j)=o at Ln pz⊢;generalize bW st n (h+j)=blk at hpb pz⊢;have s5:St aI w W2 [ai r (aF dp st n h s),aA 1 u (l.map ub),aA 5 s (rcs xs),b7 xs]:=s5;refine aB (λc W=>∃v,c=(v,blk)/\D.off=false/\St aI w W [ai r (aF dp st n h s),aA 1 v ((bu D blk).map ub),aA 5 s (rcs xs),b7 xs]) ?_ ?_
   ·refine aj (λhne=>?_) λheq=>?_
    ·refine af (V7 dp D blk W2 F (hh.mod s5.bS λ_ _ h=>h) hd.ok (by omega)) ?_
     rintro⟨v,e⟩ W3 ⟨he,t1⟩;dsimp only at he t1;subst he;have hpe:aM D blk=if D.off then 5 else 0:=by
      unfold aM;rw[jc (show¬(blk<0\/blk>=D.blocks.length) by omega)]
     cases ho:D.off
     ·rw[ho]at hpe
      have hpe:aM D blk=0:=hpe;rw[jd hpe]at t1;refine aK (by simp[hpe]) ⟨v,rfl,rfl,?_⟩;exact(s5.bP t1).aG [1,0,3,4] 5
     ·rw[ho]at hpe
      have hpe:aM D blk=5:=hpe;refine cj (by simp[hpe]) ?_;refine .inl ⟨by simp,?_,(s5.bP t1).bS⟩;rw[hpe];rfl
    ·have heq:blk=cur:=by simpa using heq
     rcases ad1 with h1|⟨h1,_,_,h2⟩
     ·omega
     ·subst heq
      subst h2;exact⟨u,rfl,h1,s5⟩
   rintro _ W3 ⟨v,rfl,ho,s6⟩;have hrl:=dB hd.ok (i:=blk) (by omega) (by omega);generalize hB:tg D st n (h+j)=B at pz hX;have hBl:B.length<=1000000:=by rw[pz,kg,jt];omega
   generalize hP:eO B (h+j)=P at hX;rw[aJ (n:=o+64) ⟨by omega,by omega⟩];refine aB (λc W=>∃b sd,c=((some ⟨b,0,none⟩:OA),P.2)/\St aI w W [ai b (gN (fL P.1 sd)),aA 1 sd (P.1.2.2.2.2.map ub),ai r (aF dp st n h s),aA 1 v ((bu D blk).map ub),aA 5 s (rcs xs),b7 xs]) ?_ ?_
   ·rw[aL]
    have s7:=s6.drew;have hvl:=aT (s7.ak 1).sl;rw[je]at hvl;refine wg (s:=v) (s7.ak 1).sl.bs (s7.ak 1).sl.le (by omega) (by omega) (by omega) λp hp hpc=>?_;rw[<-pz]at hp;have hb5:=s7.box;have ahu:s.len<=1000000:=by omega
    generalize W3.drew=W5 at s7 hp hb5;refine aB (λc W=>∃b sd,c=((some ⟨b,0,none⟩:OA),fL P.1 sd,P.2)/\St aI W5 W [ai b (gN mg),aA 1 sd (P.1.2.2.2.2.map ub)]) ?_ ?_
    ·generalize Bh:(λ(c:OA×(Int×Int×Int×Sl×Int)×Int) W=>∃b sd,c=((some ⟨b,0,none⟩:OA),fL P.1 sd,P.2)/\St aI W5 W [ai b (gN mg),aA 1 sd (P.1.2.2.2.2.map ub)])=RR
     have A0:∀{b sd W},St aI W5 W [ai b (gN mg),aA 1 sd (P.1.2.2.2.2.map ub)]->RR ((some ⟨b,0,none⟩:OA),fL P.1 sd,P.2) W:=λ{b sd W} t=>by rw[<-Bh];exact⟨b,sd,rfl,t⟩
     have K3:∀{b sd W},St aI W5 W [aA 1 sd (P.1.2.2.2.2.map ub),ai b (gN mg)]->RR ((some ⟨b,0,none⟩:OA),fL P.1 sd,P.2) W:=λt=>A0 (t.aG [1,0] 2);clear Bh;have t0:=St.bC W5;have Vi:∀{W L} {k:Int->Pr},St aI W5 W L->(∀W',St aI W5 W' L->k (h+j) W')->aq Pq 57 [RP r] [.c aa] k W:=λ{W L k} t hk=>by
      refine af (SC (hb5.grow t.bS) (by omega) ahu) ?_;rintro x W' ⟨hx,g⟩;have:x=h+j:=by rw[hx,hsj]
      subst this;exact hk W' (t.grow g)
     have ahv:∀{W L} {k:(Int×Int×Int×Sl×Int)×Int->Pr},St aI W5 W L->(∀sd W',St aI W5 W' (aA 1 sd (P.1.2.2.2.2.map ub)::L)->k (fL P.1 sd,P.2) W')->aq Pq 126 [slV p,iv (h+j)] [.agg [aa,aa,aa,.slice,aa],.c aa] k W:=λ{W L k} t hk=>by
      refine af (ahn p (h+j) B W (hp.grow t.bS) hpc hBl) ?_;rw[hP];rintro x W' ⟨sd,hx,t2⟩;subst hx;exact hk sd W' (t.bP t2)
     have QL:∀{W L} {k:Nat->Pr},St aI W5 W L->(∀b W',St aI W5 W' (ai b (gN mg)::L)->k b W')->nw (.cells #[iv 0,iv 0,iv 0,.slice none 0 0,iv 0] 109) k W:=λt hk=>St.nw t λb W' t' _ _=>hk b W' t'
     repeat' first
      |with_reducible refine kW ?_ ?_
      |with_reducible refine Vi (by assumption) λ_ _=>?_
      |with_reducible refine ahv (by assumption) λ_ _ _=>?_
      |with_reducible refine QL (by assumption) λ_ _ _=>?_
      |exact A0 (by assumption)
      |exact K3 (by assumption)
    rintro _ W6 ⟨b,sd,rfl,t1⟩;have s8:=s7.bP t1;have s8:St aI w W6 [ai b (gN mg),aA 1 sd (P.1.2.2.2.2.map ub),ai r (aF dp st n h s),aA 1 v ((bu D blk).map ub),aA 5 s (rcs xs),b7 xs]:=s8;rw[ah];refine s8.S 0 rfl (by simp) trivial λ_ s9=>?_;refine s9.S 0 rfl (by simp[eF]) trivial λ_ fm=>?_;refine fm.S 0 rfl (by simp[eF]) trivial λ_ iM=>?_;refine iM.S 0 rfl (by simp[eF]) (by simp) λ_ ou=>?_;refine ou.S 0 rfl (by simp[eF]) trivial λ_ pE=>?_;exact⟨b,sd,rfl,pE⟩
   rintro _ W4 ⟨b,sd,rfl,s7⟩;refine aj (λhne=>?_) λheq=>?_
   ·rw[jd (by simpa using hne),List.append_nil]at hX
    exact⟨ho,s,xs,hX,s7.aG [2,4,5] 6⟩
   ·have heq:P.2=0:=by simpa using heq
    rw[jc (λh=>h heq)]at hX;rw[aL];have s8:=s7.drew;refine(s8.ak 2).box.ld (i:=4) (s:=.slice) (p:=s) rfl ?_;rw[ah];refine s8.LA 0 rfl (p:=fL P.1 sd) rfl ?_;refine St.nw s8 λr4 W5 s9 _ _=>?_;have s9:St aI w W5 [ai r4 (gN (fL P.1 sd)),ai b (gN (fL P.1 sd)),aA 1 sd (P.1.2.2.2.2.map ub),ai r (aF dp st n h s),aA 1 v ((bu D blk).map ub),aA 5 s (rcs xs),b7 xs]:=s9;refine(s9.aG [5,0,2,3,4,6] 7).app (new:=gN (fL P.1 sd)) (λ_=>rfl) (λh=>by cases h) (az.2 s9.box.row) (qh _) rfl (by decide) (by dsimp only;omega) λr2 W6 fm _=>?_;refine fm.S 3 rfl (by simp) (by simp) λW7 iM=>?_;have e1:rcs xs++gN (fL P.1 sd)=rcs (xs++[(⟨P.1.1,P.1.2.1,P.1.2.2.1,sd,P.1.2.2.2.1⟩,P.1.2.2.2.2)]):=by rw[dY,rS];rfl
    have e2:∀y:Rc,b7 (xs++[y])=bt (xs.map (λx=>c9 (x.1.s,x.2))++[c9 (y.1.s,y.2)]):=λy=>by simp[b7]
    have ou:=(iM.aG [2,5,0,3,4] 6).push;rw[bZ (by omega)];refine⟨⟨j+1,r2,xs++[(⟨P.1.1,P.1.2.1,P.1.2.2.1,sd,P.1.2.2.2.1⟩,P.1.2.2.2.2)],bu D blk,rfl,by simp[kJ],by omega,.inr ⟨ho,by omega,by omega,rfl⟩,?_,λ_=>ho,?_⟩,?_⟩
    ·rw[jk,ju]
     rw[show h+((j+1:Nat):Int)=h+j+1 by push_cast;omega];exact hX
    ·have pE:St aI w W7 [aA 1 v ((bu D blk).map ub),ai r (aF dp st n h r2),aA 5 r2 (rcs xs++gN (fL P.1 sd)),bt (xs.map (λx=>c9 (x.1.s,x.2))++[c9 (sd,P.1.2.2.2.2)])]:=ou.aG [3,2,1,0] 4
     rw[e1,<-e2 (⟨P.1.1,P.1.2.1,P.1.2.2.1,sd,P.1.2.2.2.1⟩,P.1.2.2.2.2)]at pE;exact pE
    ·show(4*n).toNat-(((j+1:Nat):Int)).toNat<(4*n).toNat-((j:Int)).toNat
     omega
  ·have hge:(j:Int)=4*n:=by simp at hge;omega
   rw[show(4*n).toNat-j=0 by omega,iE,List.append_nil]at hX;exact⟨hoff (by omega),s,xs,hX,s3.drop⟩
 rintro⟨⟩ W ⟨hoff,s,xs,hx,s3⟩;rw[hoff];have kJ:=congrArg List.length hx;rw[je]at kJ;have hsc:(cx D st n h).length<=(4*n).toNat:=jS _ _;refine s3.box.ld (i:=4) (s:=.slice) (p:=s) rfl ?_;have rl:=(s3.aG [1,2] 3).rl;have fP:=rl.len;refine af (Vf s xs W rl (by omega) ?_) ?_
 ·intro x hx'
  have h1:=(rl.2 x hx').len;have h2:=zR (4*n).toNat h (rv x) (hx▸ki.2 ⟨x,hx',rfl⟩);have h2:x.2.length<=255:=h2;omega
 rintro t W2 ⟨ys,hy,s4⟩;refine .inr ⟨rfl,r,s,t,xs,ys,rfl,hx,hy.trans hx,?_⟩;exact(s3.bP s4).aG [2,3,4,0,1] 5
def nK(l:LB)(i:Nat):Int:=(fW ((l.drop (8+4*i)).take 4):Nat)
def mH(l:LB):dV:=(bq (fW (l.take 8):Nat),nK l 0,nK l 1,nK l 2,nK l 3,bq (fW ((l.drop 24).take 8):Nat))
def cr(b:LB):dV×Int:=if b.length=256/\eY (mH (b.drop 8))=0/\bV (mH (b.drop 8))=b then(mH (b.drop 8),0)else(bn,50)
theorem Q9(l:LB)(i:Nat):0<=nK l i/\nK l i<4294967296:=by
 unfold nK;have h:=pq ((l.drop (8+4*i)).take 4);have h2:((l.drop (8+4*i)).take 4).length<=4:=by rw[jt];omega
 have h3:2^(8*((l.drop (8+4*i)).take 4).length)<=2^32:=Nat.pow_le_pow_right (by decide) (by omega);omega
def Ra(E:Int)(f:Nat->Int)(j:Nat):LV:=[iv E,iv (if 0<j then f 0 else 0),iv (if 1<j then f 1 else 0),iv (if 2<j then f 2 else 0),iv (if 3<j then f 3 else 0),iv 0]
theorem ah2(s:Sl)(l:LB)(w:World)(h:BS w s l)(hl:s.len<=1000000):Calls Pq 208 #[slV s] w (au [.c .ptr] λr w'=>∃rd t,r=some ⟨rd,0,none⟩/\St aI w w' (rdA rd t l 0)):=by
 refine FE _ _ _ ?_;unfold Z0;refine af (GS s l w h (by omega)) ?_;rintro t w1 ⟨h1,_,h3⟩;exact St.nw ((St.bC w).iJ h3 h1) λr w2 s2 _ _=>⟨r,t,rfl,s2⟩
theorem ah3(b:Sl)(B:LB)(w:World)(hs:BS w b B)(hc:b.len<=b.cap)(hB:B.length<=1000000):
 Calls Pq 175 #[slV b] w (au [.agg [aa,aa,aa,aa,aa,aa],.c aa] λr w'=>r=cr B/\Grow w w'):=by
 refine Ft _ _ _ ?_;unfold Zv cr;have iu:=hs.len;refine St.nw (St.bC w) λr w1 s1 _ _=>?_;refine aj (λh=>?_) λh=>?_
 ·have h:B.length≠256:=by simp at h;omega
  refine s1.SB 0 rfl rfl (ez bn) λw2 s2=>St.LA 0 s2 rfl (p:=bn) rfl ⟨?_,s2.bS⟩;rw[jc λh'=>h h'.1]
 have iP:B.length=256:=by simp at h;omega
 refine Nl (o:=8) (hs.grow s1.bS) hc (by omega) λu hu tO _ _ _=>?_;generalize hl:B.drop 8=l at hu⊢;have S3:l.length=248:=by rw[<-hl,kg];omega
 refine af (ah2 u l w1 hu (by omega)) ?_;rintro _ w2 ⟨rd,t,rfl,k2⟩;have s2:St aI w w2 [ai rd (Ig t 0),aA 1 t (l.map ub),ai r (ay bn)]:=s1.bP k2;refine St.nw s2 λr1 w3 s3 _ _=>?_;have s3:St aI w w3 [ai r1 (ay bn),ai rd (Ig t 0),aA 1 t (l.map ub),ai r (ay bn)]:=s3;have num:∀{W L} (p n:Nat) (k:Int->Pr),1<=n->n<=8->p+n<=248->St aI w W ([ai rd (Ig t p),aA 1 t (l.map ub)]++L)->
  (∀W',St aI w W' ([ai rd (Ig t (p+n)),aA 1 t (l.map ub)]++L)->k ((fW ((l.drop p).take n):Nat):Int) W')->
  fH Pq (.func (.func 209) #[.pointer (some ⟨rd,0,none⟩)] #[]) [iv n] [.c (.int .u64)] k W:=by
  intro W L p n k h1 h8 hp st hk;obtain⟨F,H,h2,_,_,_,h5⟩:=St.call (rdA rd t l p) st;refine Q5 rfl (by kernel_rfl) (ahR rd t l p n W F h2 h1 h8 (by omega) (by omega)) ?_;rintro _ W' ⟨rfl,k3⟩;exact hk W' (h5 _ _ k3)
 refine num 0 8 _ (by decide) (by decide) (by decide) (s3.aG [1,2,0,3] 4) λw4 s4=>?_;have s4:St aI w w4 [ai rd (Ig t 8),aA 1 t (l.map ub),ai r1 (ay bn),ai r (ay bn)]:=s4;rw[List.drop_zero];refine s4.S 2 rfl (by simp) trivial λw5 s5=>?_;generalize hE:bq (fW (l.take 8):Nat)=E at s5;refine St.nw s5 λr2 w6 s6 _ _=>?_;have s6:St aI w w6 [ai r2 ((List.range 4).map λi=>.pointer (some (bA r1 (i+1)))),ai rd (Ig t 8),aA 1 t (l.map ub),ai r1 (Ra E (nK l) 0),ai r (ay bn)]:=s6;refine aC (λz W=>∃j:Nat,z=(j:Int)/\j<=4/\St aI w W [ai r2 ((List.range 4).map λi=>.pointer (some (bA r1 (i+1)))),ai rd (Ig t (8+4*j)),aA 1 t (l.map ub),ai r1 (Ra E (nK l) j),ai r (ay bn)])
  (λz _=>4-z.toNat) ⟨0,rfl,by omega,s6⟩ ?_
 rintro _ W ⟨j,rfl,hj,sW⟩;refine aj (λhlt=>?_) λhge=>?_
 ·simp only[jb]at hlt
  refine⟨⟨by omega,by omega⟩,?_⟩;rw[jl,Nat.mul_one];obtain⟨_,hb,_⟩:=sW.Qn 0 rfl;have hj4:j<4:=by omega
  rw[bA,add_zero'];refine hb.ld (i:=j) (s:=.ptr) (p:=some (bA r1 (j+1))) (by rw[jf,List.getElem?_range hj4];rfl) ?_;refine num (8+4*j) 4 _ (by decide) (by decide) (by omega) (sW.aG [1,2,0,3,4] 5) λW2 k2=>?_;have k2:St aI w W2 [ai rd (Ig t (8+4*j+4)),aA 1 t (l.map ub),ai r2 ((List.range 4).map λi=>.pointer (some (bA r1 (i+1)))),ai r1 (Ra E (nK l) j),ai r (ay bn)]:=k2;rw[ah];have hf:((fW ((l.drop (8+4*j)).take 4):Nat):Int)=nK l j:=rfl;have aiU:=Q9 l j;rw[hf,aJ ⟨by omega,by omega⟩,bZ (by omega)];refine k2.S 3 rfl (by simp[Ra];omega) trivial λW3 k3=>⟨⟨j+1,rfl,by omega,?_⟩,by omega⟩;have e:(Ra E (nK l) j).set (j+1) (iv (nK l j))=Ra E (nK l) (j+1):=by
   obtain rfl|rfl|rfl|rfl:j=0\/j=1\/j=2\/j=3:=by omega
   all_goals rfl
  rw[e]at k3;exact k3.aG [2,0,1,3,4] 5
 ·simp only[ja]at hge
  have:j=4:=by omega
  subst this;refine num 24 8 _ (by decide) (by decide) (by decide) (sW.aG [1,2,0,3,4] 5) λW2 k2=>?_;have k2:St aI w W2 [ai rd (Ig t 32),aA 1 t (l.map ub),ai r2 ((List.range 4).map λi=>.pointer (some (bA r1 (i+1)))),ai r1 (Ra E (nK l) 4),ai r (ay bn)]:=k2;refine k2.S 3 rfl (by simp[Ra]) trivial λW3 k3=>?_;have Ez:((Ra E (nK l) 4).set 5 (iv (bq (fW ((l.drop 24).take 8):Nat))))=ay (mH l):=by
   rw[<-hE];rfl
  rw[Ez]at k3;have k3:St aI w W3 [ai rd (Ig t 32),aA 1 t (l.map ub),ai r2 ((List.range 4).map λi=>.pointer (some (bA r1 (i+1)))),ai r1 (ay (mH l)),ai r (ay bn)]:=k3;generalize mH l=S at k3⊢;refine k3.LA 3 rfl (p:=S) rfl ?_;refine af (ad3 S W3) ?_;rintro⟨x,e⟩ W4 ⟨he,hP⟩;dsimp only at he;subst he;refine aB (λb W=>b=decide (¬(eY S=0/\bV S=B))/\St aI w W [ai r1 (ay S),ai r (ay bn)]) ?_ ?_
  ·rcases hP with⟨h1,rfl,g4⟩|⟨h1,k4⟩
   ·exact cj (by simpa using h1) ⟨bH λh'=>h1 h'.1,(k3.grow g4).aG [3,4] 5⟩
   ·have k5:=k3.bP k4
    refine aK (by simp[h1]) ?_;refine af (SZ x b (bV S) B W4 k5.sl.bs (hs.grow k5.bS)) ?_;rintro _ _ ⟨rfl,rfl⟩;refine⟨?_,k5.aG [4,5] 6⟩;by_cases Dt:bV S=B<;>simp[Dt,h1]
  rintro _ W5 ⟨rfl,s5⟩;refine aj (λh=>?_) λh=>?_
  ·simp only[jb]at h
   refine s5.SB 1 rfl rfl (ez bn) λw6 s6=>St.LA 1 s6 rfl (p:=bn) rfl ⟨?_,s6.bS⟩;rw[jc λh'=>h ⟨h'.2.1,h'.2.2⟩]
  ·simp only[ja,Classical.not_not]at h
   refine s5.LA 0 rfl (p:=S) rfl ?_;refine s5.SB 1 rfl rfl (ez S) λw6 s6=>St.LA 1 s6 rfl (p:=S) rfl ⟨?_,s6.bS⟩;rw[jd ⟨iP,h.1,h.2⟩]
abbrev yy{α:Type}(xs:List α):List (Int×α):=xs.zipIdx.map λx=>((x.2:Int),x.1)
theorem OP{α:Type}{xs:List α}{j:Nat}{x:α}(h:xs[j]? =some x):(yy xs)[j]? =some ((j:Int),x):=by
 simp[yy,jf,List.getElem?_zipIdx,h]
theorem OQ(b:Nat)(s:Sl)(xs:List Sl)(hl:xs.length<=1000000):R2 Pq (.func (.func 207) #[] #[P0 b]) [.c aa,.c .slice] (yy xs) (λw=>iw w b [slV s]/\MS slV w s xs):=by
 refine⟨207,_,rfl,by kernel_rfl,?_⟩;intro y w I D hM hG h0 hr;refine Fw y _ _ _ ?_;unfold ZB;rw[ah];refine fe (s:=.slice) (p:=s) (hM _ _ h0).1.LU ?_;have fP:=(hM _ _ h0).2.len;refine aC (λz W=>∃j:Nat,z=(j:Int)/\j<=xs.length/\I j W) (λz _=>xs.length-z.toNat) ⟨0,rfl,by omega,h0⟩ ?_;rintro _ W ⟨j,rfl,hj,hI⟩;refine aj (λhlt=>?_) λhge=>?_
 ·simp only[jb]at hlt
  have hjl:j<xs.length:=by omega
  refine(hM _ _ hI).2.vL (x:=xs[j]) (c:=.slice) (p:=xs[j]) (by simp[hjl]) rfl ?_;refine ga (λc W' hc=>?_) (hr j ((j:Int),xs[j]) W (OP (by simp[hjl])) hI);refine aj (λhf=>?_) λhf=>?_
  ·simp only[Bool.not_eq_true']at hf
   subst hf;rw[jc (by simp)]at hc;exact .inr hc
  ·simp only[Bool.not_eq_false']at hf
   subst hf;rw[jd rfl]at hc;rw[bZ (by omega)];exact⟨⟨j+1,rfl,hjl,hc⟩,by omega⟩
 ·simp only[ja]at hge
  have:j=xs.length:=by omega
  subst this;exact .inl (by simpa[yy]using hI)
def iq(A:LB)(i:Int):Prop:=(cr A).2=0/\ct (cr A).1=i
instance(A:LB)(i:Int):Decidable (iq A i):=by unfold iq;exact inferInstance
def dF(A B:LB):dV×Int:=
 if iq A 0/\(¬iq B 1\/(cr A).1.1>(cr B).1.1)then((cr A).1,0)else if iq B 1 then((cr B).1,0)else(bn,50)
def fK(C:LB)(i:Int)(s:dV):dV:=if iq C i/\(cr C).1.1>s.1 then(cr C).1 else s
theorem pX{A:LB}(h:(cr A).2=0):eY (cr A).1=0/\A.length=256/\bV (cr A).1=A:=by
 unfold cr at h⊢;split at h
 ·rename_i h';rw[jd h'];exact⟨h'.2.1,h'.1,h'.2.2⟩
 ·cases h
theorem lQ{A:LB}(h:(cr A).2=0):1<=(cr A).1.1:=(eN (pX h).1).2.1
theorem vt(A B:LB):dF A B=(if(fK B 1 (fK A 0 bn)).1=0 then(bn,50)else(fK B 1 (fK A 0 bn),0)):=by
 unfold dF fK;by_cases ha:iq A 0<;>by_cases hb:iq B 1
 ·have pa:=lQ ha.1
  have pb:=lQ hb.1;have hne:(cr A).1.1≠(cr B).1.1:=by
   intro he;have h1:=ha.2;have h2:=hb.2;unfold ct at h1 h2;rw[jc (by omega)]at h1 h2;rw[he]at h1;omega
  rw[jd (⟨ha,by show _>0;omega⟩:iq A 0/\(cr A).1.1>bn.1)];by_cases hgt:(cr A).1.1>(cr B).1.1
  ·rw[jd ⟨ha,.inr hgt⟩,jc (c:=iq B 1/\_) (by omega),jc (by omega)]
  ·rw[jc (by rintro⟨_,h|h⟩;exact h hb;exact hgt h),jd hb,jd (c:=iq B 1/\_) ⟨hb,by omega⟩,jc (by omega)]
 ·have pa:=lQ ha.1
  rw[jd (⟨ha,by show _>0;omega⟩:iq A 0/\(cr A).1.1>bn.1),jd ⟨ha,.inl hb⟩,jc (c:=iq B 1/\_) (λh=>hb h.1),jc (by omega)]
 ·have pb:=lQ hb.1
  rw[jc (c:=iq A 0/\(¬_\/_)) (λh=>ha h.1),jd hb,jc (c:=iq A 0/\_) (λh=>ha h.1),jd (⟨hb,by show _>0;omega⟩:iq B 1/\(cr B).1.1>bn.1),jc (by omega)]
 ·rw[jc (c:=iq A 0/\(¬_\/_)) (λh=>ha h.1),jc hb,jc (c:=iq A 0/\_) (λh=>ha h.1),jc (c:=iq B 1/\_) (λh=>hb h.1),jd rfl]
theorem aic(s:Sl)(w:World):Calls Pq 174 #[slV s] w (au [.c .any] λr w'=>∃b,r=.func (.func 207) #[] #[P0 b]/\St aI w w' [ai b [slV s]]):=by
 refine Fv _ _ _ ?_;unfold Zz;exact⟨trivial,St.nw (St.bC w) λr w1 s1 _ _=>⟨r,rfl,s1⟩⟩
theorem yz{C:LB}{i:Int}{s:dV}(hs:s.1=0->s=bn)(h:(fK C i s).1=0):fK C i s=bn:=by
 unfold fK at h⊢;split at h
 ·rename_i h'
  have:=lQ h'.1.1;omega
 ·rename_i h'
  rw[jc h'];exact hs h
theorem o7(C:LB)(i:Int)(s:dV):fK C i s=if((cr C).2=0/\ct (cr C).1=i)/\(cr C).1.1>s.1 then(cr C).1 else s:=by
 unfold fK iq;by_cases h:((cr C).2=0/\ct (cr C).1=i)/\(cr C).1.1>s.1
 ·rw[jd h]
 ·rw[jc h]
def CZ(A B:LB):Nat->dV
 |0=>bn
 |1=>fK A 0 bn
 |_+2=>fK B 1 (fK A 0 bn)
theorem Re(A B:LB):CZ A B 0=bn:=rfl
theorem Ij(A B:LB):CZ A B 1=fK A 0 bn:=rfl
theorem Rf(A B:LB):CZ A B 2=fK B 1 (fK A 0 bn):=rfl
theorem ahx(p q:Sl)(A B:LB)(w:World)(hp:BS w p A)(hq:BS w q B)(hpc:p.len<=p.cap)(hqc:q.len<=q.cap)(hA:A.length<=1000000)(hB:B.length<=1000000):
 Calls Pq 122 #[slV p,slV q] w (au [.agg [aa,aa,aa,aa,aa,aa],.c aa] λr w'=>r=dF A B/\Grow w w'):=by
 refine Fu _ _ _ _ ?_;unfold Zx;refine St.nw (St.bC w) λr w1 s1 _ _=>St.nw s1 λr1 w2 s2 _ _=>St.nw s2 λr2 w3 s3 _ _=>?_;refine af (aic ⟨some ⟨r2,0,none⟩,2,2⟩ w3) ?_;rintro _ w4 ⟨b,rfl,k4⟩;have s4:St aI w w4 [ai b [slV ⟨some ⟨r2,0,none⟩,2,2⟩],ai r2 [slV p,slV q],ai r1 (ay bn),ai r (ay bn)]:=s3.bP k4;refine xP (OQ b ⟨some ⟨r2,0,none⟩,2,2⟩ [p,q] (by show 2<=1000000;omega)) (F0:=aI) (w0:=w)
  (λs:dV=>[ai b [slV ⟨some ⟨r2,0,none⟩,2,2⟩],ai r2 [slV p,slV q],ai r1 (ay s),ai r (ay bn)]) (λj s=>s=CZ A B j) (λ_:Unit=>[]) (λ_ _=>False) bn rfl s4 ?_ ?_ ?_ ?_
 ·intro j s W T _ hs
  have hs:St aI w W (ai b [slV ⟨some ⟨r2,0,none⟩,2,2⟩]::ai r2 [slV p,slV q]::ai r1 (ay s)::ai r (ay bn)::T):=hs;exact⟨hs.box,rfl,az.2 (hs.ak 1).box.row⟩
 ·intro l m Ro j x s W bg nx lv hx hj hs A9 Dz _
  refine A9 _ _ _ hs λW2 _ s5=>?_;have s5:St aI w W2 [ai b [slV ⟨some ⟨r2,0,none⟩,2,2⟩],ai r2 [slV p,slV q],ai r1 (ay s),ai r (ay bn),bJ l (Ro .busy),bJ m lV]:=s5;obtain⟨C,u,hxu,hu,huc,hC,hb⟩:∃C u,x=((j:Int),u)/\BS W2 u C/\u.len<=u.cap/\C.length<=1000000/\CZ A B (j+1)=fK C j s:=by
   rcases j with _|_|j
   ·exact⟨A,p,by simpa[yy]using hx.symm,hp.grow s5.bS,hpc,hA,by rw[hj,Nat.zero_add,Ij,Re];exact congrArg (fK A · bn) (Int.natCast_zero).symm⟩
   ·exact⟨B,q,by simpa[yy]using hx.symm,hq.grow s5.bS,hqc,hB,by rw[hj,Nat.zero_add,Ij,Rf];exact congrArg (fK B · _) (Int.natCast_one).symm⟩
   ·simp[yy]at hx
  subst hxu;clear hx hj;refine af (ah3 u C W2 hu huc hC) ?_;rintro e W3 ⟨he,g3⟩;have fP:=o7 C j s;rw[<-he]at fP;rw[fP]at hb;clear he fP;refine(s5.grow g3).iB rfl (ez e.1) λr3 W4 s6=>?_;refine aB (λd W=>d=decide ((e.2=0/\ct e.1=(j:Int))/\e.1.1>s.1)/\
   St aI w W [ai r3 (ay e.1),ai b [slV ⟨some ⟨r2,0,none⟩,2,2⟩],ai r2 [slV p,slV q],ai r1 (ay s),ai r (ay bn),bJ l (Ro .busy),bJ m lV]) ?_ ?_
  ·refine aj (λh=>?_) λh=>⟨?_,s6⟩
   rotate_left
   ·symm;rw[ja];intro h';simp[h'.1.1]at h
   have h:e.2=0:=by simpa using h
   refine s6.LA 0 rfl (p:=e.1) rfl ?_;refine af (ad4 e.1 W4) ?_;rintro i W5 ⟨hi,g5⟩;have s7:=s6.grow g5;refine aj (λh2=>?_) λh2=>⟨?_,s7⟩
   rotate_left
   ·symm;rw[ja];intro h';rw[<-hi]at h';simp[h'.1.2]at h2
   have h2:i=(j:Int):=by simpa using h2
   refine s7.L 0 rfl (p:=e.1.1) rfl ?_;refine s7.L 3 rfl (p:=s.1) rfl ⟨?_,s7⟩;exact decide_eq_decide.2 ⟨λh'=>⟨⟨h,by rw[<-hi,h2]⟩,h'⟩,λh'=>h'.2⟩
  rintro d W5 ⟨hd,s7⟩;refine aj (λh=>?_) λh=>?_
  ·rw[hd,jb]at h
   refine s7.LA 0 rfl (p:=e.1) rfl ?_;refine s7.SB 3 rfl rfl (ez e.1) λW6 s8=>Dz e.1 W6 ?_ (St.drop s8);rw[hb,jd h]
  ·rw[hd,ja]at h
   refine Dz s W5 ?_ (St.drop s7);rw[hb,jc h]
 ·intro m s W hj hs
  have hs:St aI w W [ai b [slV ⟨some ⟨r2,0,none⟩,2,2⟩],ai r2 [slV p,slV q],ai r1 (ay s),ai r (ay bn),bJ m lV]:=hs;have hj:s=fK B 1 (fK A 0 bn):=hj;have hc:dF A B=if s.1=0 then(bn,50)else(s,0):=by rw[vt,hj]
  have hz:s.1=0->s=bn:=λh=>by
   rw[hj]at h⊢;exact yz (yz λ_=>rfl) h
  clear hj;rw[hc];have fin:∀W2 (L:dQ),St aI w W2 [ai b [slV ⟨some ⟨r2,0,none⟩,2,2⟩],ai r2 [slV p,slV q],ai r1 (ay s),ai r (ay L),bJ m lV]->∀(k:dQ->Pr),(∀W3,Grow w W3->k L W3)->
   takes [m] (bf [aa,aa,aa,aa,aa,aa] (bA r 0) k) W2:=by
   intro W2 L st k hk;refine nG (V:=[ai b [slV ⟨some ⟨r2,0,none⟩,2,2⟩],ai r2 [slV p,slV q],ai r1 (ay s),ai r (ay L)]) (T:=[]) st λW3 s3=>?_;exact s3.LA 3 rfl (p:=L) rfl (hk W3 s3.bS)
  refine hs.LA 2 rfl (p:=s) rfl ?_;refine aj (λh=>?_) λh=>?_
  ·have h0:s.1=0:=by simp only[kf,kn]at h;exact h.1
   rw[jd h0];have:=hz h0;subst this;refine hs.LA 2 rfl (p:=bn) rfl ?_;refine hs.SB 3 rfl rfl (ez bn) λW2 s2=>fin W2 bn s2 _ λW3 g=>⟨rfl,g⟩
  ·have h0:s.1≠0:=λh0=>by rw[hz h0]at h;cases h
   rw[jc h0];refine hs.LA 2 rfl (p:=s) rfl ?_;refine hs.SB 3 rfl rfl (ez s) λW2 s2=>fin W2 s s2 _ λW3 g=>⟨rfl,g⟩
 ·intro m q t W h;exact h.elim
end Go.Proofs
