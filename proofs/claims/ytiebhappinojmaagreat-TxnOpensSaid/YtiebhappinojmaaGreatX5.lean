import Derived.Test.YtiebhappinojmaaGreatX1
import Derived.Test.YtiebhappinojmaaGreatX2
import Derived.Test.YtiebhappinojmaaGreatX3
import Derived.Test.YtiebhappinojmaaGreatX4
import Derived.Test.YtiebhappinojmaaGreatProg
set_option linter.unusedVariables false
set_option linter.unusedSimpArgs false
set_option linter.unusedSectionVars false
set_option maxRecDepth 20000
namespace Go.Proofs
open Go.Eng
def Whole(R L:List Rv):Prop:=∀B,comGo (R++B) [] [] 0 0=comGo B L [] R.length R.length
theorem whole_nil:Whole [] []:=λ_=>rfl
theorem Whole.eq{R L:List Rv}(h:Whole R L):(com R).1=L:=by
 have:=h [];rw[List.append_nil]at this;unfold com;rw[this];rfl
theorem comGo_wait:∀(P B out wait:List Rv) (n i:Nat),(∀v∈P,okV v=true/\v.1=1)->comGo (P++B) out wait n i=comGo B out (wait++P) n (i+P.length)
 |[],B,out,wait,n,i,_=>by simp
 |v::P,B,out,wait,n,i,h=>by
  obtain⟨h1,h2⟩:=h v (by simp);rw[List.cons_append,comGo,if_neg (by simp[h1]),if_pos h2,comGo_wait P B out _ n _ λx hx=>h x (by simp[hx])];simp only[List.append_assoc,List.singleton_append,List.length_cons]
  congr 1;omega
abbrev cmt(m:Nat):Rv:=(2,0,0,m,[])
theorem cmt_ok{m:Nat}(h:m<=65536):okV (cmt m)=true:=by
 simp[okV,checkB];omega
theorem Whole.part{R L P:List Rv}(h:Whole R L)(hp:∀v∈P,okV v=true/\v.1=1):(com (R++P)).1=L:=by
 unfold com;rw[h P];have:=comGo_wait P [] L [] R.length R.length hp;rw[List.append_nil]at this;rw[this];rfl
theorem Whole.snoc{R L P:List Rv}(h:Whole R L)(hp:∀v∈P,okV v=true/\v.1=1)(hl:P.length<=65536):Whole (R++(P++[cmt P.length])) (L++P):=by
 intro B;rw[List.append_assoc,h,List.append_assoc,comGo_wait P _ L [] _ _ hp,List.singleton_append,comGo,if_neg (by rw[cmt_ok hl];simp),if_neg (show¬(2:Int)=1 by decide),if_neg (by simp)];simp only[List.nil_append,List.length_append,List.length_cons,List.length_nil]
 congr 1<;>omega
theorem comGo_mem:∀(R out wait:List Rv) (n i:Nat),(∀v∈out++wait,v.1=1)->∀v∈(comGo R out wait n i).1,v.1=1/\(v∈R\/v∈out++wait)
 |[],out,wait,n,i,h,v,hv=>⟨h v (List.mem_append_left _ hv),.inr (List.mem_append_left _ hv)⟩
 |x::R,out,wait,n,i,h,v,hv=>by
  rw[comGo]at hv;by_cases h1:okV x=false
  ·rw[if_pos h1]at hv
   exact⟨h v (List.mem_append_left _ hv),.inr (List.mem_append_left _ hv)⟩
  ·rw[if_neg h1]at hv
   by_cases h2:x.1=1
   ·rw[if_pos h2]at hv
    have:=comGo_mem R out (wait++[x]) n (i+1) (by
     intro y hy;rw[<-List.append_assoc,List.mem_append,List.mem_singleton]at hy;rcases hy with hy|rfl
     ·exact h y hy
     ·exact h2) v hv
    refine⟨this.1,?_⟩;rcases this.2 with h3|h3
    ·exact .inl (List.mem_cons_of_mem _ h3)
    ·rw[<-List.append_assoc,List.mem_append,List.mem_singleton]at h3
     rcases h3 with h3|rfl
     ·exact .inr h3
     ·exact .inl (List.mem_cons_self ..)
   ·rw[if_neg h2]at hv
    by_cases h3:x.2.2.2.1≠(wait.length:Int)
    ·rw[if_pos h3]at hv
     exact⟨h v (List.mem_append_left _ hv),.inr (List.mem_append_left _ hv)⟩
    ·rw[if_neg h3]at hv
     have:=comGo_mem R (out++wait) [] (i+1) (i+1) (by rw[List.append_nil];exact h) v hv;rw[List.append_nil]at this;exact⟨this.1,this.2.imp (List.mem_cons_of_mem _) id⟩
theorem com_mem{R:List Rv}{v:Rv}(h:v∈(com R).1):v.1=1/\v∈R:=by
 have:=comGo_mem R [] [] 0 0 (by simp) v h;exact⟨this.1,this.2.resolve_right (by simp)⟩
structure Law where
 S:Sup
 R:List Rv
 U:Int
 C:Int->List UInt8
namespace Law
abbrev n(l:Law):Int:=l.S.2.2.1
abbrev h(l:Law):Int:=l.S.2.2.2.2.2
abbrev P(l:Law):PlanT:=planT (supG l.S)
abbrev L(l:Law):List Rv:=(com l.R).1
structure ok(l:Law)(len:Nat):Prop where
 S:supE l.S=0
 len:(len:Int)=l.S.2.1
 R:(l.R.length:Int)<=4*l.n
 rok:∀v∈l.R,okV v=true
 use:∀v∈l.L,usableS l.P v.2.1
 U:l.U<=l.h+4*l.n
 clen:∀b,usableS l.P b->(l.C b).length=256
 fix:∀b,usableS l.P b->redoV b (l.C b) l.L=l.C b
def log(l:Law)(b:Int)(k:Nat)(v:List UInt8):Prop:=
 (∀(i:Nat) x,l.R[i]? =some x->At l.n b k (l.h+i)->v=secX (l.h+i) x)/\((∀i:Nat,i<l.R.length->¬At l.n b k (l.h+i))->∀q,(takeR v q).2=0->q<l.U/\q≠l.h+l.R.length)
def home(l:Law)(b:Int)(k:Nat)(v:List UInt8):Prop:=v.length=64/\∀o:Nat,o<64->cov b l.L (64*k+o)\/v[o]? =(l.C b)[64*k+o]?
def old(l:Law)(k:Nat)(v:List UInt8):Prop:=(1<=k->v=ZZ 64)/\(k=0->∀s,supE s=0->v=sec (bytesS s) 0->s.1<l.S.1)
structure sector(l:Law)(b:Int)(k:Nat)(v:List UInt8):Prop where
 sup:b=slotS l.S->v=sec (bytesS l.S) k
 old:b=1-slotS l.S->l.old k v
 log:3<=b->b<3+l.n->l.log b k v
 home:usableS l.P b->l.home b k v
end Law
def Al(D:DM)(A:Int->Nat->List UInt8->Prop):Prop:=∀(b:Int) (k:Nat) (v:List UInt8),0<=b->b<D.blocks.length->k<4->Sv D b k v->A b k v
theorem Al.mono{D:DM}{A B:Int->Nat->List UInt8->Prop}(h:Al D A)(hab:∀b k v,A b k v->B b k v):Al D B:=λb k v h0 h1 hk hs=>hab b k v (h b k v h0 h1 hk hs)
theorem Al.rd{D:DM}{A:Int->Nat->List UInt8->Prop}(h:Al D A){b:Int}(hb:0<=b/\b<D.blocks.length){k:Nat}(hk:k<4):A b k (sec (rdD D b) k):=h b k _ hb.1 hb.2 hk (rd_sv hb k)
theorem Al.write{D:DM}{A:Int->Nat->List UInt8->Prop}(h:Al D A)(hD:D.ok){N:Nat}(hb:D.bd N){i:Int}{l:List UInt8}(hl:∀k,k<4->A i k (sec l k)):Al (writeD D i l).2 A:=by
 intro b k v h0 h1 hk hs;rw[(writeD_ok hD hb i l).2.2]at h1;rcases write_sv hD h0 hk hs with h2|⟨rfl,rfl⟩
 ·exact h b k v h0 h1 hk h2
 ·exact hl k hk
theorem Al.flush{D:DM}{A:Int->Nat->List UInt8->Prop}(h:Al D A){N:Nat}(hD:DB N D):Al (flushD D).2 A:=by
 intro b k v h0 h1 hk hs;rw[(flushD_dg hD).len]at h1;exact h b k v h0 h1 hk (flush_sv hD.ok h0 hk hs)
theorem Al.quiet{D:DM}{A:Int->Nat->List UInt8->Prop}(hw:D.wait=[])(h:∀(b:Int) (k:Nat),0<=b->b<D.blocks.length->k<4->A b k (sec (rdD D b) k)):Al D A:=by
 intro b k v h0 h1 hk hs;rw[sv_quiet hw hs];exact h b k h0 h1 hk
theorem slot_01(s:Sup):slotS s=0\/slotS s=1:=by unfold slotS;split<;>omega
section
variable{l:Law}{len:Nat}
theorem Law.ok.g(hl:l.ok len):geoR (supG l.S)/\(planT (supG l.S)).2.2.2.2.2<=l.S.2.1/\l.S.2.1<=2048/\ofG (supG l.S)=(planT (supG l.S),0):=by
 have h1:=(supE_ok hl.S).1;have h2:ofG (supG l.S)=(planT (supG l.S),0):=by unfold ofG;rw[if_pos h1]
 have h3:=ofG_ok (g:=supG l.S) (by rw[h2]);exact⟨h3.1,h3.2.1,h3.2.2.1,h2⟩
theorem Law.ok.n1(hl:l.ok len):8<=l.n/\l.n<=256:=hl.g.1.1
theorem usable_ge{g:Geo}(hg:geoR g){b:Int}(h:usableS (planT g) b):b=2\/3+g.2.1<=b/\b<(planT g).2.2.2.2.2:=by
 unfold usableS planT at h;unfold planT;dsimp only at h⊢;omega
theorem plan_gt{g:Geo}(hg:geoR g):3+g.2.1<(planT g).2.2.2.2.2:=by
 obtain⟨g1,g2,g3⟩:=hg;have h1:0<=(g.2.2.2+31)/32:=Int.ediv_nonneg (by omega) (by omega);have h2:0<=(g.2.2.2+63)/64:=Int.ediv_nonneg (by omega) (by omega);unfold planT;dsimp only;omega
theorem Law.ok.ub(hl:l.ok len){b:Int}(h:usableS l.P b):0<=b/\b<len:=by
 obtain⟨g1,g2,g3,_⟩:=hl.g;have:=usable_ge g1 h;have h2:=hl.len;have h3:8<=(supG l.S).2.1:=g1.1.1;have h4:(planT (supG l.S)).2.2.2.2.2<=len:=by omega
 have h5:0<=(supG l.S).2.2.2/\0<=(supG l.S).2.2.1:=⟨by have:=g1.2.2.1;omega,by have:=g1.2.1.1;omega⟩;have h6:3+(supG l.S).2.1<(planT (supG l.S)).2.2.2.2.2:=plan_gt g1;omega
theorem Law.ok.lb(hl:l.ok len):3+l.n<len:=by
 obtain⟨g1,g2,g3,_⟩:=hl.g;have h2:=hl.len;have h4:3+l.n<(planT (supG l.S)).2.2.2.2.2:=plan_gt g1;omega
theorem Law.ok.lok(hl:l.ok len):∀v∈l.L,okV v=true:=λv hv=>hl.rok v (com_mem hv).2
theorem Law.ok.fits(hl:l.ok len):fits l.L:=fits_ok hl.lok
theorem Law.ok.may(hl:l.ok len){i:Int}(h:0<=i/\i<=1000000):mayL (l.h+i):=by
 obtain⟨_,_,_,h1,h2⟩:=supE_ok hl.S;unfold mayL;have e:l.h=l.S.2.2.2.2.2:=rfl;omega
theorem chosen_is{D:DM}(hl:l.ok D.blocks.length)(hD:D.ok)(ho:D.off=false)(ha:Al D l.sector):chosenS D=(l.S,0):=by
 have hlb:=hl.lb;have hn:=hl.n1;have h256:∀b:Int,0<=b->b<2->(rdD D b).length=256:=λb h0 h1=>rdD_len hD h0 (by omega);have hpos:1<=l.S.1:=(supE_ok hl.S).2.1;have hs:∀b:Int,0<=b->b<2->b=slotS l.S->parseS (rdD D b)=(l.S,0):=λb h0 h1 hb=>by
  rw[sec_ext (h256 b h0 h1) (bytesS_len l.S) λk hk=>(ha.rd ⟨h0,by omega⟩ hk).sup hb];exact super_back hl.S
 have hold:∀b:Int,0<=b->b<2->b=1-slotS l.S->(parseS (rdD D b)).2=0->(parseS (rdD D b)).1.1<l.S.1:=λb h0 h1 hb hp=>by
  have h2:=parseS_ok hp;exact((ha.rd (b:=b) ⟨h0,by omega⟩ (k:=0) (by decide)).old hb).2 rfl _ h2.1 (by rw[h2.2.2])
 have hc:chooseS (rdD D 0) (rdD D 1)=(l.S,0):=by
  rw[choose_best];have:bestS (rdD D 1) 1 (bestS (rdD D 0) 0 Sup0)=l.S:=by
   rcases slot_01 l.S with h|h
   ·have h1:bestS (rdD D 0) 0 Sup0=l.S:=by
     rw[bestS_eq,hs 0 (by decide) (by decide) h.symm,if_pos ⟨⟨rfl,h⟩,by show l.S.1>0;omega⟩]
    rw[h1,bestS_eq,if_neg];rintro⟨⟨h2,_⟩,h3⟩;have:=hold 1 (by decide) (by decide) (by omega) h2;omega
   ·have h1:(bestS (rdD D 0) 0 Sup0).1<l.S.1:=by
     rw[bestS_eq];by_cases h2:((parseS (rdD D 0)).2=0/\slotS (parseS (rdD D 0)).1=0)/\(parseS (rdD D 0)).1.1>Sup0.1
     ·rw[if_pos h2];exact hold 0 (by decide) (by decide) (by omega) h2.1.1
     ·rw[if_neg h2];show(0:Int)<_;omega
    rw[bestS_eq (rdD D 1),hs 1 (by decide) (by decide) h.symm,if_pos ⟨⟨rfl,h⟩,h1⟩]
  rw[this,if_neg (by omega)]
 unfold chosenS;rw[if_neg (by omega),ho,if_neg (by decide),hc,if_neg];rintro⟨_,h⟩;exact h hl.len
theorem scanned{D:DM}(hl:l.ok D.blocks.length)(ha:Al D l.sector):scanO D 3 l.n l.h=l.R:=by
 have hlb:=hl.lb;have hn:=hl.n1;have hR:=hl.R;refine scan_is (by omega) l.R _ l.h (by omega) (λi x hx=>⟨λb k hk hat=>?_,rec_ok.2 ⟨hl.may ⟨by omega,by have:=(split_at hx).2;omega⟩,hl.rok x (List.mem_of_getElem? hx)⟩⟩) ?_
 ·have hb:=at_blk hk (by omega) hat
  exact((ha.rd ⟨by omega,by omega⟩ hk).log hb.1 hb.2).1 i x hx hat
 ·rcases Int.lt_or_eq_of_le hR with h|h
  ·refine .inr λb k hk hat h0=>?_
   have hb:=at_blk hk (by omega) hat;refine(((ha.rd (b:=b) ⟨by omega,by omega⟩ hk).log hb.1 hb.2).2 (λi hi h'=>?_) _ h0).2 rfl;have:=at_one hat h' (by omega) (by omega);omega
  ·exact .inl (by omega)
theorem scan_next{D:DM}(hl:l.ok D.blocks.length)(ha:Al D l.sector){t:Int}(ht:l.h+4*l.n<=t):scanO D 3 l.n t=[]:=by
 have hlb:=hl.lb;have hn:=hl.n1;have hR:=hl.R;refine scan_is (by omega) [] _ t (by simp) (λi x hx=>by simp at hx) (.inr λb k hk hat h0=>?_);rw[show t+(([]:List Rv).length:Int)=t by simp]at hat h0;have hb:=at_blk hk (by omega) hat;have hlog:=(ha.rd (b:=b) ⟨by omega,by omega⟩ hk).log hb.1 hb.2;by_cases hex:∃i:Nat,i<l.R.length/\At l.n b k (l.h+i)
 ·obtain⟨i,hi,hat2⟩:=hex
  have hx:l.R[i]? =some l.R[i]:=by simp[hi]
  have he:=hlog.1 i _ hx hat2;rw[he]at h0;have h1:=rec_back (hl.may (i:=(i:Int)) ⟨by omega,by omega⟩) (hl.rok _ (List.mem_of_getElem? hx));have h2:=take_one h0 (by rw[h1]);omega
 ·have:=(hlog.2 (λi hi h'=>hex ⟨i,hi,h'⟩) t h0).1
  have:=hl.U;omega
theorem redone{D:DM}(hl:l.ok D.blocks.length)(hD:D.ok)(ha:Al D l.sector){b:Int}(hb:usableS l.P b):redoV b (rdD D b) l.L=l.C b:=by
 have hu:=hl.ub hb;rw[<-hl.fix b hb];refine redoV_agree b _ _ _ (rdD_len hD hu.1 hu.2) (hl.clen b hb) hl.fits λi=>?_;by_cases hi:i<256
 ·have:=((ha.rd hu (k:=i/64) (by omega)).home hb).2 (i%64) (by omega)
  rw[sec_get _ _ _ (by omega),show 64*(i/64)+i%64=i by omega]at this;exact this.symm
 ·rw[List.getElem?_eq_none (by rw[rdD_len hD hu.1 hu.2];omega),List.getElem?_eq_none (by rw[hl.clen b hb];omega)]
  exact .inl rfl
end
structure Nx(l:Law)(S:Sup):Prop where
 s:supE S=0
 g:supG S=supG l.S
 e:S.1=l.S.1+1
 U:l.U<=S.2.2.2.2.2
 h:l.h+l.R.length<=S.2.2.2.2.2
def Law.nx(l:Law)(S:Sup):Law:=⟨S,[],S.2.2.2.2.2,l.C⟩
section
variable{l:Law}{S:Sup}
theorem Nx.slot(h:Nx l S)(hs:supE l.S=0):slotS S=1-slotS l.S:=by
 have h1:=(supE_ok hs).2.1;have h2:=h.e;unfold slotS;rw[if_neg (by omega),if_neg (by omega)];omega
theorem Nx.P(h:Nx l S):(l.nx S).P=l.P:=congrArg planT h.g
theorem Nx.n(h:Nx l S):S.2.2.1=l.S.2.2.1:=congrArg (·.2.1) h.g
theorem Nx.ok{len:Nat}(h:Nx l S)(hl:l.ok len):(l.nx S).ok len where
 S:=h.s
 len:=by rw[hl.len];exact(congrArg (·.1) h.g).symm
 R:=by
  have:=hl.n1.1;have:=h.n;show((0:Nat):Int)<=4*S.2.2.1;have e:l.n=l.S.2.2.1:=rfl;omega
 rok:=λv hv=>by cases hv
 use:=λv hv=>by cases hv
 U:=by
  have:=hl.n1.1;have:=h.n;have e:l.n=l.S.2.2.1:=rfl;show S.2.2.2.2.2<=S.2.2.2.2.2+4*S.2.2.1;omega
 clen:=λb hb=>hl.clen b (by rw[<-h.P];exact hb)
 fix:=λb _=>rfl
theorem super_inj{s t:Sup}(hs:supE s=0)(ht:supE t=0)(h:sec (bytesS s) 0=sec (bytesS t) 0):s=t:=by
 have h1:bytesS s=bytesS t:=super_whole (bytesS_len s) h λk h1 h2=>super_sec s ⟨h1,h2⟩;have h2:=super_back hs;rw[h1,super_back ht]at h2;exact(congrArg (·.1) h2).symm
theorem Nx.sector{D:DM}(h:Nx l S)(hl:l.ok D.blocks.length)(hc:∀b,usableS l.P b->rdD D b=l.C b)(hD:D.ok){b:Int}{k:Nat}(h0:0<=b)(h1:b<D.blocks.length)(hk:k<4)(hv:l.sector b k (sec (rdD D b) k))(hb:b≠slotS S):(l.nx S).sector b k (sec (rdD D b) k):=by
 have hsl:=h.slot hl.S;refine⟨λh2=>absurd h2 hb,λh2=>?_,λh2 h3=>?_,λh2=>?_⟩
 ·have h2:b=1-slotS S:=h2
  have h3:=hv.sup (by omega);rw[h3];refine⟨λh4=>super_sec _ ⟨h4,hk⟩,λh4 s hs he=>?_⟩;subst h4;rw[<-super_inj hl.S hs he];show l.S.1<S.1;rw[h.e];omega
 ·have h3:b<3+S.2.2.1:=h3
  have hn:=h.n;have hg:=hv.log h2 (by show b<3+l.S.2.2.1;omega);refine⟨λi x hx=>(by cases hx),λ_ q hq=>?_⟩;show q<S.2.2.2.2.2/\q≠S.2.2.2.2.2+(0:Nat);have hU:=h.U;have hh:=h.h;by_cases hex:∃i:Nat,i<l.R.length/\At l.n b k (l.h+i)
  ·obtain⟨i,hi,hat⟩:=hex
   have hx:l.R[i]? =some l.R[i]:=by simp[hi]
   have he:=hg.1 i _ hx hat;rw[he]at hq;have hR:=hl.R;have hn1:=hl.n1;have h5:=rec_back (hl.may (i:=(i:Int)) ⟨by omega,by omega⟩) (hl.rok _ (List.mem_of_getElem? hx));have h6:=take_one hq (by rw[h5]);omega
  ·have:=(hg.2 (λi hi h'=>hex ⟨i,hi,h'⟩) q hq).1
   omega
 ·have hu:usableS l.P b:=by rw[<-h.P];exact h2
  refine⟨(hv.home hu).1,λo ho=>.inr ?_⟩;rw[sec_get _ _ _ ho,hc b hu];rfl
theorem usable_hi{D:DM}(hl:l.ok D.blocks.length){b:Int}(h:usableS l.P b):2<=b/\(b=2\/3+l.n<=b):=by
 obtain⟨g1,_⟩:=hl.g;have:=usable_ge g1 h;have hn:=hl.n1;have e:(supG l.S).2.1=l.n:=rfl;omega
theorem note_ok{D:DM}{N:Nat}(hl:l.ok D.blocks.length)(hD:DB N D)(ho:D.off=false)(hw:D.wait=[])(ha:Al D l.sector)(hc:∀b,usableS l.P b->rdD D b=l.C b)(hx:Nx l S):
 ((noteD D S).1=0/\(noteD D S).2.off=false/\(noteD D S).2.wait=[]/\Al (noteD D S).2 (l.nx S).sector/\∀b,2<=b->rdD (noteD D S).2 b=rdD D b)\/
 ((noteD D S).1=5/\(noteD D S).2.off=true/\(noteD D S).2.wait=[]/\(Al (noteD D S).2 l.sector\/Al (noteD D S).2 (l.nx S).sector)):=by
 have hlb:=hl.lb;have hn1:=hl.n1;have hsl:=hx.slot hl.S;have hs0:0<=slotS S/\slotS S<2:=by rcases slot_01 S with h|h<;>omega
 have hi:0<=slotS S/\slotS S<D.blocks.length:=by omega
 have hnu:∀{b},usableS l.P b->slotS S≠b:=λhb=>by have:=(usable_hi hl hb).1;omega
 have fin:∀E:DM,E.ok->E.blocks.length=D.blocks.length->E.wait=[]->(∀(b:Int) (k:Nat),0<=b->b<D.blocks.length->k<4->sec (rdD E b) k=sec (rdD D b) k\/(slotS S=b/\sec (rdD E b) k=sec (bytesS S) k))->
  (Al E l.sector/\sec (rdD E (slotS S)) 0=sec (rdD D (slotS S)) 0)\/(Al E (l.nx S).sector/\sec (rdD E (slotS S)) 0=sec (bytesS S) 0):=λE hE hlen hwE hsec=>by
  have hz:∀k,1<=k->k<4->sec (rdD E (slotS S)) k=ZZ 64:=λk h1 h2=>by
   rcases hsec _ k hi.1 hi.2 h2 with h|⟨_,h⟩
   ·rw[h];exact((ha.rd hi h2).old hsl).1 h1
   ·rw[h];exact super_sec S ⟨h1,h2⟩
  rcases hsec _ 0 hi.1 hi.2 (by decide)with h|⟨_,h⟩
  ·refine .inl ⟨Al.quiet hwE λb k h0 h1 hk=>?_,h⟩
   rw[hlen]at h1;have hv:=ha.rd (b:=b) ⟨h0,h1⟩ hk;by_cases hb:slotS S=b
   ·subst hb
    rcases Nat.eq_zero_or_pos k with rfl|hk0
    ·rw[h];exact hv
    ·rw[hz k hk0 hk]
     rw[(hv.old hsl).1 hk0]at hv;exact hv
   ·rcases hsec b k h0 h1 hk with h2|⟨h2,_⟩
    ·rw[h2];exact hv
    ·exact absurd h2 hb
  ·refine .inr ⟨Al.quiet hwE λb k h0 h1 hk=>?_,h⟩
   rw[hlen]at h1;by_cases hb:slotS S=b
   ·subst hb
    refine⟨λ_=>?_,λh2=>?_,λh2 _=>?_,λh2=>?_⟩
    ·rcases Nat.eq_zero_or_pos k with rfl|hk0
     ·exact h
     ·rw[hz k hk0 hk];exact(super_sec S ⟨hk0,hk⟩).symm
    ·have h2:slotS S=1-slotS S:=h2
     omega
    ·omega
    ·rw[hx.P]at h2
     exact absurd rfl (hnu h2)
   ·rcases hsec b k h0 h1 hk with h2|⟨h2,_⟩
    ·rw[h2]
     exact hx.sector hl hc hD.ok h0 h1 hk (ha.rd ⟨h0,h1⟩ hk) λh=>hb h.symm
    ·exact absurd h2 hb
 unfold noteD;rw[if_neg (not_not_intro hx.s)];have hbl:=bytesS_len S;have hg1:=writeD_dg hD (slotS S) (bytesS S);have hsv:∀E:DM,E.wait=[]->E.blocks.length=D.blocks.length->(∀(b:Int) (k:Nat) (v:List UInt8),0<=b->k<4->Sv E b k v->Sv (writeD D (slotS S) (bytesS S)).2 b k v)->∀(b:Int) (k:Nat),0<=b->b<D.blocks.length->k<4->sec (rdD E b) k=sec (rdD D b) k\/(slotS S=b/\sec (rdD E b) k=sec (bytesS S) k):=λE _ hlen hE b k h0 h1 hk=>by
  rcases write_sv hD.ok h0 hk (hE b k _ h0 hk (rd_sv ⟨h0,by rw[hlen];exact h1⟩ k))with h|h
  ·exact .inl (sv_quiet hw h)
  ·exact .inr h
 rcases write_cases hD.ok ho hi hbl with⟨h1,h2,h3⟩|⟨h1,h2,h3⟩
 ·rw[if_neg (not_not_intro h1)]
  have hfl:=(flushD_dg hg1.db).len.trans hg1.len;have hfo:=(flushD_dg hg1.db).db.ok;rcases flush_cases hg1.db.ok h2 with⟨f1,f2,f3,f4⟩|⟨f1,f2,f3⟩
  ·refine .inl ⟨f1,f2,f3,?_,λb hb=>?_⟩
   ·rcases fin _ hfo hfl f3 (hsv _ f3 hfl λb k v h0 hk h=>flush_sv hg1.db.ok h0 hk h)with⟨_,h⟩|⟨h,_⟩
    ·
     refine(fin _ hfo hfl f3 λb k h0 h1' hk=>?_).elim (λh'=>?_) λh'=>h'.1
     ·rw[f4 b h0,h3]
      by_cases hb:slotS S=b
      ·rw[if_pos hb];exact .inr ⟨hb,rfl⟩
      ·rw[if_neg hb];exact .inl rfl
     ·rw[f4 _ hi.1,h3,if_pos rfl]at h
      exfalso;have h4:=((ha.rd hi (k:=0) (by decide)).old hsl).2 rfl S hx.s h.symm;have:=hx.e;omega
    ·exact h
   ·rw[f4 b (by omega),h3,if_neg (by omega)]
  ·refine .inr ⟨f1,f2,f3,?_⟩
   exact(fin _ hfo hfl f3 (hsv _ f3 hfl λb k v h0 hk h=>flush_sv hg1.db.ok h0 hk h)).imp (·.1) (·.1)
 ·rw[if_pos (by rw[h1];decide)]
  refine .inr ⟨h1,h2,h3,?_⟩;exact(fin _ hg1.db.ok hg1.len h3 (hsv _ h3 hg1.len λ_ _ _ _ _ h=>h)).imp (·.1) (·.1)
end
def On(r:Int×DM):Prop:=r.1=0/\r.2.off=false
def Off(r:Int×DM):Prop:=r.1=5/\r.2.off=true/\r.2.wait=[]
section
variable{l:Law}
theorem home_ok{len:Nat}(hl:l.ok len){b:Int}(hb:usableS l.P b){v:List UInt8}(hv:v=l.C b){D:DM}(hlen:D.blocks.length=len):∀k,k<4->l.sector b k (sec v k):=by
 subst hlen;have h2:=usable_hi hl hb;intro k hk;refine⟨λh=>?_,λh=>?_,λh h3=>?_,λ_=>⟨by rw[hv];exact sec_len (hl.clen b hb) hk,λo ho=>.inr ?_⟩⟩
 ·have:=slot_01 l.S;omega
 ·have:=slot_01 l.S;omega
 ·omega
 ·rw[sec_get _ _ _ ho,hv]
theorem redo_ok{len:Nat}(hl:l.ok len):∀(ks:List Int) (D:DM) (N:Nat),(∀k∈ks,usableS l.P k)->DB N D->D.blocks.length=len->D.off=false->Al D l.sector->
 (On (redoB l.L ks D)/\(redoB l.L ks D).2.wait=[]/\Al (redoB l.L ks D).2 l.sector/\∀b,0<=b->rdD (redoB l.L ks D).2 b=if b∈ks then l.C b else rdD D b)\/(Off (redoB l.L ks D)/\Al (redoB l.L ks D).2 l.sector)
 |[],D,N,_,hD,hlen,ho,ha=>by
  rw[redoB];have h1:=ha.flush hD;rcases flush_cases hD.ok ho with⟨f1,f2,f3,f4⟩|⟨f1,f2,f3⟩
  ·exact .inl ⟨⟨f1,f2⟩,f3,h1,λb hb=>by rw[if_neg (by simp),f4 b hb]⟩
  ·exact .inr ⟨⟨f1,f2,f3⟩,h1⟩
 |k::ks,D,N,hu,hD,hlen,ho,ha=>by
  subst hlen;have hk:=hu k (by simp);have hr:=hl.ub hk;have hp:placeE D k=0:=by unfold placeE;rw[ho,if_neg (by simp),if_neg (by omega)]
  have hrl:=rdD_len hD.ok hr.1 hr.2;have he:redoEV (rdD D k) l.L=0:=redoE_of hrl hl.lok;have hv:=redone hl hD.ok ha hk;rw[redoB,if_neg (not_not_intro hp),if_neg (not_not_intro he),hv];by_cases h:l.C k=rdD D k
  ·rw[if_pos h]
   rcases redo_ok hl ks D N (λj hj=>hu j (by simp[hj])) hD rfl ho ha with⟨h1,h2,h3,h4⟩|h1
   ·refine .inl ⟨h1,h2,h3,λb hb=>?_⟩
    rw[h4 b hb];by_cases hbk:b=k
    ·subst hbk
     by_cases hm:b∈ks
     ·simp[hm]
     ·simp[hm,h]
    ·simp[hbk]
   ·exact .inr h1
  ·rw[if_neg h]
   have hal:=ha.write hD.ok hD.bd (i:=k) (l:=l.C k) (home_ok hl hk rfl (D:=D) rfl);have hg:=writeD_dg hD k (l.C k);rcases write_cases hD.ok ho hr (hl.clen k hk)with⟨w1,w2,w3⟩|⟨w1,w2,w3⟩
   ·rw[if_neg (not_not_intro w1)]
    rcases redo_ok hl ks _ (N+2) (λj hj=>hu j (by simp[hj])) hg.db hg.len w2 hal with⟨h1,h2,h3,h4⟩|h1
    ·refine .inl ⟨h1,h2,h3,λb hb=>?_⟩
     rw[h4 b hb,w3];by_cases hbk:b=k
     ·subst hbk
      simp
     ·simp[hbk,show¬k=b from λh=>hbk h.symm]
    ·exact .inr h1
   ·rw[if_pos (by rw[w1];decide)]
    exact .inr ⟨⟨w1,w2,w3⟩,hal⟩
abbrev Law.up(l:Law):Sup:=(lapS l.S (l.h+l.R.length)).1
theorem up_ok{len:Nat}(hl:l.ok len)(he:l.S.1<1152921504606846976)(hh:l.h+2048<=1152921504606846976):Nx l l.up/\(lapS l.S (l.h+l.R.length)).2=0/\l.up.2.2.2.2.2=l.h+l.R.length+4*l.n:=by
 obtain⟨_,h1,h2,h3,h4⟩:=supE_ok hl.S;have hR:=hl.R;have hn:=hl.n1;have hU:=hl.U;have e1:l.h=l.S.2.2.2.2.2:=rfl;have e2:l.n=l.S.2.2.1:=rfl;have hlap:lapV (l.h+l.R.length) l.S.2.2.1=l.h+l.R.length+4*l.n:=by
  unfold lapV;rw[if_neg (by omega)]
 have hne:nextE l.S (l.h+l.R.length+4*l.n)=0:=by
  unfold nextE;rw[if_neg (not_not_intro hl.S),if_neg (by omega),if_neg (by omega)]
 have hS:lapS l.S (l.h+l.R.length)=((l.S.1+1,l.S.2.1,l.S.2.2.1,l.S.2.2.2.1,l.S.2.2.2.2.1,l.h+l.R.length+4*l.n),0):=by
  unfold lapS nextS;rw[hlap,if_pos hne]
 refine⟨?_,by rw[hS],by unfold Law.up;rw[hS]⟩;unfold Law.up;rw[hS];refine⟨?_,rfl,rfl,by dsimp only;omega,by dsimp only;omega⟩;rw[supE_g (s:=(l.S.1+1,l.S.2.1,l.S.2.2.1,l.S.2.2.2.1,l.S.2.2.2.2.1,l.h+l.R.length+4*l.n)) (supE_ok hl.S).1,if_pos];exact⟨by dsimp only;omega,by dsimp only;omega,by dsimp only;omega,by dsimp only;omega⟩
theorem open_ok{D:DM}{N:Nat}(hl:l.ok D.blocks.length)(hD:DB N D)(ho:D.off=false)(ha:Al D l.sector)(he:l.S.1<1152921504606846976)(hh:l.h+2048<=1152921504606846976):
 ((On (openT D)/\(openT D).2.wait=[]/\Al (openT D).2 (l.nx l.up).sector/\(∀b,usableS l.P b->rdD (openT D).2 b=l.C b)/\∀b,2<=b->¬usableS l.P b->rdD (openT D).2 b=rdD D b)\/
 (Off (openT D)/\(Al (openT D).2 l.sector\/Al (openT D).2 (l.nx l.up).sector)))/\DG D (openT D).2 N 2060:=by
 obtain⟨hx,hx0,hxh⟩:=up_ok hl he hh;have hlb:=hl.lb;have hn:=hl.n1;have hR:=hl.R;obtain⟨_,h1,h2,h3,h4⟩:=supE_ok hl.S;have e1:l.h=l.S.2.2.2.2.2:=rfl;have e2:l.n=l.S.2.2.1:=rfl;have hsc:=scanned hl ha;have hor:∀t:Int,0<=t->t<=1152921504606846976->openR D 3 l.n t=0:=λt h0 h1=>by
  unfold openR;rw[if_neg (by unfold badO;omega),ho,if_neg (by decide)]
 have hlap:lapE D l.S (l.h+l.R.length)=0:=by
  unfold lapE;have hnx:=scan_next hl ha (t:=l.up.2.2.2.2.2) (by rw[hxh];omega);have h5:=hor l.up.2.2.2.2.2 (by rw[hxh];omega) (by rw[hxh];omega);rw[if_neg (not_not_intro hx0)];change(if openR D 3 l.n l.up.2.2.2.2.2≠0 then _ else _)=(0:Int);rw[if_neg (not_not_intro h5)];change(if 0<(scanO D 3 l.n l.up.2.2.2.2.2).length then(50:Int)else 0)=0;rw[hnx];rfl
 have hus:(com l.R).1.all (λv=>decide (usableS (ofG (supG l.S)).1 v.2.1))=true:=by
  rw[List.all_eq_true];intro v hv;rw[hl.g.2.2.2];exact decide_eq_true (hl.use v hv)
 have hT:openT D=if(redoD l.L D).1≠0 then redoD l.L D else noteD (redoD l.L D).2 l.up:=by
  unfold openT;rw[ho,if_neg (by decide),chosen_is hl hD.ok ho ha];dsimp only;rw[if_neg (by decide),hl.g.2.2.2];dsimp only;rw[if_neg (by decide)];have h6:=hor l.h (by omega) (by omega);change(if openR D 3 l.n l.h≠0 then _ else _)=_;rw[if_neg (not_not_intro h6)];have hus':=hus;rw[hl.g.2.2.2]at hus';dsimp only at hus';change(if(com (scanO D 3 l.n l.h)).1.all (λv=>decide (usableS (planT (supG l.S)) v.2.1))=false then _ else if lapE D l.S (l.h+(scanO D 3 l.n l.h).length)≠0 then _ else if(redoD (com (scanO D 3 l.n l.h)).1 D).1≠0 then _ else noteD (redoD (com (scanO D 3 l.n l.h)).1 D).2 (lapS l.S (l.h+(scanO D 3 l.n l.h).length)).1)=_;rw[hsc,hus',if_neg (by decide),if_neg (not_not_intro hlap)]
 have hmem:∀k∈blocksV l.L,usableS l.P k:=λk hk=>by
  obtain⟨v,hv,_,rfl⟩:=mem_setB.1 ((sortI_perm _).subset hk);exact hl.use v hv
 have hkl:(blocksV l.L).length<=1024:=by
  have h5:=setB_len l.L;have h6:l.L.length<=l.R.length:=com_size l.R;unfold blocksV;rw[(sortI_perm _).length_eq];omega
 have hdg:=redoB_dg l.L (blocksV l.L) hD;have hr:=redo_ok hl (blocksV l.L) D N hmem hD rfl ho ha;rw[show redoB l.L (blocksV l.L) D=redoD l.L D from rfl]at hr;change DG D (redoD l.L D).2 N _ at hdg;rw[hT];generalize hE:redoD l.L D=E at hr hdg;rcases hr with⟨⟨r1,r2⟩,r3,r4,r5⟩|⟨⟨r1,r2,r3⟩,r4⟩
 ·rw[if_neg (not_not_intro r1)]
  have hC:∀b,usableS l.P b->rdD E.2 b=l.C b:=λb hb=>by
   have h0:=hl.ub hb;have h7:rdD E.2 b=if b∈blocksV l.L then l.C b else rdD D b:=r5 b h0.1;rw[h7];by_cases hm:b∈blocksV l.L
   ·rw[if_pos hm]
   ·rw[if_neg hm,<-redone hl hD.ok ha hb,redoV_other b _ _ hl.lok hm]
  have hD2:∀b,2<=b->¬usableS l.P b->rdD E.2 b=rdD D b:=λb hb hu=>by
   have h7:rdD E.2 b=if b∈blocksV l.L then l.C b else rdD D b:=r5 b (by omega);rw[h7,if_neg λhm=>hu (hmem b hm)]
  have hl2:l.ok E.2.blocks.length:=by rw[hdg.len];exact hl
  have hng:=noteD_dg hdg.db l.up;refine⟨?_,(hdg.trans hng).mono (by omega)⟩;rcases note_ok hl2 hdg.db r2 r3 r4 hC hx with⟨n1,n2,n3,n4,n5⟩|⟨n1,n2,n3,n4⟩
  ·refine .inl ⟨⟨n1,n2⟩,n3,n4,λb hb=>?_,λb hb hu=>?_⟩
   ·rw[n5 b (usable_hi hl hb).1,hC b hb]
   ·rw[n5 b hb,hD2 b hb hu]
  ·exact .inr ⟨⟨n1,n2,n3⟩,n4⟩
 ·rw[if_pos (by rw[r1];decide)]
  exact⟨.inr ⟨⟨r1,r2,r3⟩,.inl r4⟩,hdg.mono (by omega)⟩
end
theorem CC.move{N:Nat}{P:PlanT}{C:CM}{D E:DM}(h:CC N P C D)(hl:E.blocks.length=D.blocks.length)(hr:∀b,usableS P b->rdD E b=rdD D b):CC N P C E:=
 ⟨by rw[hl];exact h.ok,h.room,h.clean,λx hx hd=>by rw[hr _ (h.use x hx)];exact h.coh x hx hd,h.ask,h.use⟩
theorem TM.ok.n1{T:TM}(ht:T.ok):8<=T.n/\T.n<=256:=(ofG_ok ht.g).1.1
theorem TM.ok.us{T:TM}(ht:T.ok){b:Int}(h:usableS T.P b):2<=b/\(b=2\/3+T.n<=b):=by
 obtain⟨g1,_,_,g4⟩:=ofG_ok ht.g;rw[ht.P,g4]at h;have:=usable_ge g1 h;have hn:=ht.n1;have e:(supG T.S).2.1=T.n:=rfl;omega
theorem TM.ok.lb{T:TM}(ht:T.ok):3+T.n<T.D.blocks.length:=by
 obtain⟨g1,g2,_,_⟩:=ofG_ok ht.g;have:=plan_gt g1;have e:(supG T.S).2.1=T.n:=rfl;have e2:(supG T.S).1=T.S.2.1:=rfl;have:=ht.len;omega
theorem appX_cases{D:DM}{N:Nat}{n h:Int}{R ys:List Rv}(hD:DB N D)(ho:D.off=false)(hn:1<=n/\n+3<=D.blocks.length)(hh:0<=h):
 ((Ap n D (appX D 3 n h R ys).2 (h+R.length) ys (appX D 3 n h R ys).1/\(∀x∈ys,okV x=true))\/(((appX D 3 n h R ys).1=60\/(appX D 3 n h R ys).1=70\/(appX D 3 n h R ys).1=3)/\(appX D 3 n h R ys).2=D))/\DG D (appX D 3 n h R ys).2 N (2*ys.length):=by
 unfold appX;by_cases h1:ys.all okV=false
 ·rw[if_pos h1];exact⟨.inr ⟨.inl rfl,rfl⟩,.refl hD _⟩
 rw[if_neg h1];by_cases h2:(ys.length:Int)>4*n-R.length
 ·rw[if_pos h2];exact⟨.inr ⟨.inr (.inl rfl),rfl⟩,.refl hD _⟩
 rw[if_neg h2];by_cases h3:(ys.length:Int)>1152921504606846976-(h+R.length)
 ·rw[if_pos h3];exact⟨.inr ⟨.inr (.inr rfl),rfl⟩,.refl hD _⟩
 rw[if_neg h3];have h1:∀x∈ys,okV x=true:=by simpa using h1
 have:=appD_ap (N0:=D.blocks.length) hn ys.length D (h+R.length) ys N hD rfl ho (Nat.le_refl _) λi x hx=>rec_ok.2 ⟨by
  have:=(split_at hx).2;unfold mayL;omega,h1 x (List.mem_of_getElem? hx)⟩
 exact⟨.inl ⟨this.1,h1⟩,this.2⟩
theorem Ap.rd{D D':DM}{n q:Int}{ys:List Rv}(h:Ap n D D' q ys 0)(hD:D.ok)(hD':D'.ok)(hl:D'.blocks.length=D.blocks.length)(hn:1<=n){b:Int}(hb:0<=b/\b<D.blocks.length)(hb2:b<3\/3+n<=b):rdD D' b=rdD D b:=by
 rcases h.res with⟨_,_,h3⟩|⟨h3,_⟩
 ·refine sec_ext (rdD_len hD' hb.1 (by omega)) (rdD_len hD hb.1 hb.2) λk hk=>?_
  rcases h3 b k hb.1 hk with⟨h4,_⟩|⟨i,x,_,h4,_⟩
  ·exact h4
  ·have:=at_blk hk hn h4;omega
 ·cases h3
def TM.app(T:TM)(ys:List Rv):Int×TM:=
 let A:=appX T.D 3 T.n T.h T.R ys
 if A.1=0 then((flushD A.2).1,({T with D:=(flushD A.2).2,R:=T.R++ys}:TM).told (flushD A.2).1)
 else if A.1=3 then(6,{T with D:=A.2})else(A.1,({T with D:=A.2}:TM).told A.1)
section
variable{x dp N M:Nat}{T:TM}{w w0:World}{F0:Nat->Prop}{L:List HA}
theorem told_dead{T:TM}{e:Int}(h:(T.told e).dead=false):T.dead=false/\e≠5:=by
 have h:(T.dead||e==5)=false:=h;cases hx:T.dead<;>simp_all
theorem appC{p:Sl}{ys:List Rc}{K:Int->Pr}(h:St F0 w0 w (TxA x dp N T::DiskA dp T.D::SlA 5 p (rcs ys)::bts ys::L))(ht:T.ok)(hD:DB M T.D)(hM:M<=900000)(hd:T.dead=false)(ho:T.D.off=false)(hy:ys.length<=2000)
 (hK:∀w',St F0 w0 w' (TxA x dp N (T.app (ys.map rv)).2::DiskA dp (T.app (ys.map rv)).2.D::SlA 5 p (rcs ys)::bts ys::L)->K (T.app (ys.map rv)).1 w'):callF Tryz.prog 64 [P0 x,slV p] [.c (.int .i64)] K w:=by
 refine callF_of (post:=K) (F64_calls _ _ _ _ ?_) λ_ _ h=>h;unfold F64;obtain⟨I,hp,s0⟩:=h.tOpen;have cc:=hp.cc hd;rw[deref_some'];refine s0.L 0 rfl (p:=some ⟨I.b,0,none⟩) rfl ?_;rw[deref_some'];refine s0.L 1 rfl (p:=some ⟨I.g,0,none⟩) rfl ?_;have s1:St F0 w0 w (BoxA I.g (ringC dp 3 T.n T.h I.s)::SlA 5 I.s (rcs I.xs)::bts I.xs::DiskA dp T.D::SlA 5 p (rcs ys)::bts ys::BoxA x (storeC I.b dp T.S T.P T.busy T.dead I.m)::BoxA I.b [P0 I.g,P0 I.c]::CacheA I.c dp I.C::MapA intKT I.m (I.pl.map Pg.kv)::bigA (I.pl.map Pg.A)::L):=s0.sel [2,3,4,8,9,10,0,1,5,6,7] 11;obtain⟨G,H,g2,g3,g4,_,gc⟩:=St.call (ringO I.g dp 3 T.n T.h I.s I.xs++[DiskA dp T.D]) s1;have hn:=ht.n1;have hlb:=ht.lb;have hR:=ht.R;have hxl:I.xs.length=T.R.length:=by rw[<-hp.xs,List.length_map]
 have hple:=(s1.sel [4] 11).sl.le;have hpl:=(s1.sel [4,5] 11).rl.len;have hh:=ht.h;refine callF_of (V115 g2 hD (by omega) (by omega) (by omega) (by have:T.h<=1152921504606846976:=hh.2;omega) (by omega) (RdL.own g3 g4) hple (by omega)) ?_;rw[hp.xs];obtain⟨hcs,hdg⟩:=appX_cases (D:=T.D) (N:=M) (n:=T.n) (h:=T.h) (R:=T.R) (ys:=ys.map rv) hD ho ⟨by omega,by omega⟩ hh.1;rw[List.length_map]at hdg;unfold TM.app at hK;dsimp only at hK;generalize appX T.D 3 T.n T.h T.R (ys.map rv)=A at hcs hdg hK;rintro e w1 ⟨t,zs,he,hz,s2⟩;have s2:=gc _ _ s2;have s3:St F0 w0 w1 (BoxA x (storeC I.b dp T.S T.P T.busy T.dead I.m)::BoxA I.b [P0 I.g,P0 I.c]::BoxA I.g (ringC dp 3 T.n T.h t)::SlA 5 t (rcs zs)::bts zs::CacheA I.c dp I.C::MapA intKT I.m (I.pl.map Pg.kv)::bigA (I.pl.map Pg.A)::DiskA dp A.2::SlA 5 p (rcs ys)::bts ys::L):=St.sel [6,7,0,1,2,8,9,10,3,4,5] 11 s2;subst he;have us:=λ(b:Int) (hb:usableS T.P b)=>ht.us hb;have mv:∀{E:DM},E.blocks.length=A.2.blocks.length->(∀b,0<=b->rdD E b=rdD A.2 b)->A.1≠5->CC N T.P I.C E:=λ{E} hl hr hne=>by
  refine cc.move (hl.trans hdg.len) λb hb=>?_;have hu:=usable_lt ht hb;rw[hr b hu.1];rcases hcs with⟨h1,_⟩|⟨_,h1⟩
  ·have h0:A.1=0:=by
    rcases h1.res with⟨h2,_⟩|⟨h2,_⟩
    ·exact h2
    ·exact absurd h2 hne
   rw[h0]at h1;exact h1.rd hD.ok hdg.db.ok hdg.len (by omega) hu (by have:=us b hb;omega)
  ·rw[h1]
 by_cases h0:A.1=0
 ·refine br_t (by simpa using h0) ?_
  rw[if_pos h0]at hK hz;have hoff:A.2.off=false:=by
   rcases hcs with⟨h1,_⟩|⟨h1,_⟩
   ·rcases h1.res with⟨_,h2,_⟩|⟨h2,_⟩
    ·exact h2
    ·rw[h0]at h2;cases h2
   ·rw[h0]at h1
    rcases h1 with h1|h1|h1<;>cases h1
  rw[deref_some'];refine s3.L 0 rfl (p:=some ⟨I.b,0,none⟩) rfl ?_;rw[deref_some'];refine s3.L 1 rfl (p:=some ⟨I.g,0,none⟩) rfl ?_;obtain⟨G,H,g2,_,_,_,gc⟩:=St.call [BoxA I.g (ringC dp 3 T.n T.h t),DiskA dp A.2] (s3.sel [2,8,0,1,3,4,5,6,7] 9);refine callF_of (V116 g2 hdg.db (by omega)) ?_;rintro f w2 ⟨rfl,s4⟩;have s4:=gc _ _ s4;have hfc:=flush_cases hdg.db.ok hoff;have hfl:=(flushD_dg hdg.db).len;generalize flushD A.2=E at s4 hfc hfl hK;have s7:St F0 w0 w2 (BoxA x (storeC I.b dp T.S T.P T.busy T.dead I.m)::BoxA I.b [P0 I.g,P0 I.c]::BoxA I.g (ringC dp 3 T.n T.h t)::SlA 5 t (rcs zs)::bts zs::CacheA I.c dp I.C::MapA intKT I.m (I.pl.map Pg.kv)::bigA (I.pl.map Pg.A)::DiskA dp E.2::SlA 5 p (rcs ys)::bts ys::L):=St.sel [2,3,0,4,5,6,7,8,1] 9 s4;obtain⟨G,H,g1,g2,_,_,_,gc⟩:=s7.call1;refine callF_of (V109 (e:=E.1) g2) ?_;rintro r w3 ⟨he,s8⟩;rw[he];refine hK w3 (St.tClose (T:=({T with D:=E.2,R:=T.R++ys.map rv}:TM).told E.1) (i:={I with s:=t,xs:=zs}) (gc _ _ s8) ⟨hz,hp.pl,λhdd=>?_⟩);have hne:=(told_dead hdd).2;rcases hfc with⟨_,_,_,f4⟩|⟨f1,_⟩
  ·exact mv hfl f4 (by rw[h0];decide)
  ·exact absurd f1 hne
 ·refine br_f (by simpa using h0) ?_
  rw[if_neg h0]at hK hz;by_cases h3:A.1=3
  ·refine br_t (by simpa using h3) ?_
   rw[if_pos h3]at hK;exact hK w1 (St.tClose (T:={T with D:=A.2}) (i:={I with s:=t,xs:=zs}) s3 ⟨hz,hp.pl,λ_=>mv rfl (λ_ _=>rfl) (by rw[h3];decide)⟩)
  ·refine br_f (by simpa using h3) ?_
   rw[if_neg h3]at hK;obtain⟨G,H,g1,g2,_,_,_,gc⟩:=s3.call1;refine callF_of (V109 (e:=A.1) g2) ?_;rintro r w3 ⟨he,s8⟩;rw[he];exact hK w3 (St.tClose (T:=({T with D:=A.2}:TM).told A.1) (i:={I with s:=t,xs:=zs}) (gc _ _ s8) ⟨hz,hp.pl,λhdd=>mv rfl (λ_ _=>rfl) (told_dead hdd).2⟩)
end
def homeD(f:Int->List UInt8):List Int->DM->Int×DM
 |[],D=>(0,D)
 |k::ks,D=>if(writeD D k (f k)).1≠0 then writeD D k (f k)else homeD f ks (writeD D k (f k)).2
section
variable{x dp N M:Nat}{T:TM}{w w0:World}{F0:Nat->Prop}{L:List HA}
theorem homeC{p:Sl}{xs:List Rc}{K:Int->Pr}(h:St F0 w0 w (TxA x dp N T::DiskA dp T.D::L))(hr:RL w p xs)(ht:T.ok)(hD:DB M T.D)(hM:M<=990000)(hN:N<=100000000)(hd:T.dead=false)(ho:T.D.off=false)(hx:xs.length<=2000)
 (hk:∀k∈blocksV (xs.map rv),∃q∈T.pg,q.1=k)
 (hK:∀w',St F0 w0 w' (TxA x dp (N+2000) (({T with D:=(homeD T.page (blocksV (xs.map rv)) T.D).2}:TM).told (homeD T.page (blocksV (xs.map rv)) T.D).1)::DiskA dp (homeD T.page (blocksV (xs.map rv)) T.D).2::L)->K (homeD T.page (blocksV (xs.map rv)) T.D).1 w'):
 callF Tryz.prog 66 [P0 x,slV p] [.c (.int .i64)] K w:=by
 refine callF_of (post:=K) (F66_calls _ _ _ _ ?_) λ_ _ h=>h;unfold F66;have hpl:=hr.len;refine⟨trivial,St.nw h λr w1 s1 g1 _=>⟨trivial,St.nw s1 λr1 w2 s2 g2 _=>?_⟩⟩;have s2:St F0 w0 w2 (BoxA r1 [iv 0]::BoxA r [P0 x]::TxA x dp N T::DiskA dp T.D::L):=s2;refine callF_of (V117 p xs w2 (hr.grow (Grow.trans g1 g2)) (by omega)) ?_;rintro _ w3 ⟨b,t,rfl,k3⟩;have s3:St F0 w0 w3 (BoxA b [slV t]::SlA 1 t (ints (blocksV (xs.map rv)))::BoxA r1 [iv 0]::BoxA r [P0 x]::TxA x dp N T::DiskA dp T.D::L):=s2.call0 k3;have hbl:=blocks_len xs;obtain⟨ks,hks⟩:∃ks,blocksV (xs.map rv)=ks:=⟨_,rfl⟩;rw[hks]at s3 hbl hk hK;have hln:∀{D':DM} {M':Nat},DG T.D D' M M'->D'.blocks.length=T.D.blocks.length:=λh=>h.len;refine rng_st (shs:=[.c (.int .i64)]) (IterI.L (iter_values ⟨b,0,none⟩ t ks (by omega))) (F0:=F0) (w0:=w0)
  (λe:Nat×DM=>BoxA b [slV t]::SlA 1 t (ints ks)::BoxA r1 [iv 0]::BoxA r [P0 x]::TxA x dp (N+e.1) {T with D:=e.2}::DiskA dp e.2::L)
  (λj e=>e.1=j/\j<=ks.length/\DG T.D e.2 M (2*j)/\e.2.off=false/\homeD T.page ks T.D=homeD T.page (ks.drop j) e.2)
  (λe:Nat×Int×DM=>BoxA b [slV t]::SlA 1 t (ints ks)::BoxA r1 [iv e.2.1]::BoxA r [P0 x]::TxA x dp (N+e.1) (({T with D:=e.2.2}:TM).told e.2.1)::DiskA dp e.2.2::L)
  (λq e=>q=none/\e.1<=ks.length/\homeD T.page ks T.D=e.2) (0,T.D) ⟨rfl,by omega,.refl hD _,ho,rfl⟩ s3 ?_ ?_ ?_ ?_
 ·intro j s W T' _ hs
  have hs:St F0 w0 W (BoxA b [slV t]::SlA 1 t (ints ks)::(BoxA r1 [iv 0]::BoxA r [P0 x]::TxA x dp (N+s.1) {T with D:=s.2}::DiskA dp s.2::L++T')):=hs;exact⟨hs.box.row 0 _ rfl,owns_ints (hs.bring 1).sl⟩
 ·rintro l m Ro _ z ⟨j,D'⟩ W bg nx lv hx' ⟨rfl,hjl,hdg,hoff,hX⟩ hs hbg hnx hlv
  refine hbg _ _ _ hs λW2 _ s5=>?_;have s5:St F0 w0 W2 (BoxA b [slV t]::SlA 1 t (ints ks)::BoxA r1 [iv 0]::BoxA r [P0 x]::TxA x dp (N+j) {T with D:=D'}::DiskA dp D'::(L++[ObjA l (Ro .busy),ObjA m ddO])):=s5;dsimp only at hjl hdg hoff hX hx';have hlt:j<ks.length:=(List.getElem?_eq_some_iff.1 hx').1;have hxe:ks[j]=z:=(List.getElem?_eq_some_iff.1 hx').2;rw[List.drop_eq_getElem_cons hlt,hxe,homeD]at hX;obtain⟨q,hq,hqz⟩:=hk z (by rw[<-hxe];exact List.getElem_mem hlt);have hu:usableS T.P z:=by rw[<-hqz];exact(ht.pg q hq).1
  have hr2:=usable_lt ht hu;have hlen:D'.blocks.length=T.D.blocks.length:=hdg.len;rw[drw_def];have s6:=(s5.sel [4,0,1,2,3,5] 6).drew;obtain⟨I,hp,s7⟩:=s6.tOpen;generalize W2.drew=W3 at s7;have cc:CC (N+j) T.P I.C D':=hp.cc hd;have s7:St F0 w0 W3 (BoxA x (storeC I.b dp T.S T.P T.busy T.dead I.m)::BoxA I.b [P0 I.g,P0 I.c]::BoxA I.g (ringC dp 3 T.n T.h I.s)::SlA 5 I.s (rcs I.xs)::bts I.xs::CacheA I.c dp I.C::MapA intKT I.m (I.pl.map Pg.kv)::bigA (I.pl.map Pg.A)::BoxA b [slV t]::SlA 1 t (ints ks)::BoxA r1 [iv 0]::BoxA r [P0 x]::DiskA dp D'::(L++[ObjA l (Ro .busy),ObjA m ddO])):=s7;refine s7.L 11 rfl (p:=(some ⟨x,0,none⟩:Option Addr)) rfl ?_;rw[deref_some'];refine s7.L 0 rfl (p:=some ⟨I.b,0,none⟩) rfl ?_;rw[deref_some'];refine s7.L 1 rfl (p:=some ⟨I.c,0,none⟩) rfl ?_;refine s7.L 11 rfl (p:=(some ⟨x,0,none⟩:Option Addr)) rfl ?_;rw[deref_some'];refine s7.L 0 rfl (p:=some I.m) rfl ?_;refine St.mapAt (T:=intKT) (s7.bring 6) (k:=z) (λv hv=>?_) λhv=>?_
  rotate_left
  ·rcases lkp_pg z I.pl with⟨_,h1⟩|⟨_,p,_,_,h3,_⟩
   ·rw[hp.pl,List.find?_eq_none]at h1
    exact absurd (by simpa using hqz) (h1 q hq)
   ·rw[h3]at hv;cases hv
  rcases lkp_pg z I.pl with⟨h1,_⟩|⟨jj,p,h1,h2,h3,h4⟩
  ·rw[h1]at hv;cases hv
  rw[h3,Option.some.injEq]at hv;refine⟨p.s,hv.symm,?_⟩;have hpg:T.page z=p.b:=by
   unfold TM.page;have:(List.map Pg.m I.pl)=T.pg:=hp.pl;rw[<-this,h4];rfl
  have hnl:p.b.length=256:=by rw[<-hpg];exact TM.page_len ht hu
  rw[hpg]at hX;have s8:=((s7.bring 7).pick (i:=jj) (A:=p.A) (by simp[h1]));have s8:St F0 w0 W3 (SlA 1 p.s (p.b.map ub)::bigA ((I.pl.map Pg.A).eraseIdx jj)::BoxA x (storeC I.b dp T.S T.P T.busy T.dead I.m)::BoxA I.b [P0 I.g,P0 I.c]::BoxA I.g (ringC dp 3 T.n T.h I.s)::SlA 5 I.s (rcs I.xs)::bts I.xs::CacheA I.c dp I.C::MapA intKT I.m (I.pl.map Pg.kv)::BoxA b [slV t]::SlA 1 t (ints ks)::BoxA r1 [iv 0]::BoxA r [P0 x]::DiskA dp D'::(L++[ObjA l (Ro .busy),ObjA m ddO])):=s8;have s9:=s8.sel [7,13,0,1,2,3,4,5,6,8,9,10,11,12] 14;have hdb:=hdg.db;refine cacheWr s9 cc hdb (by omega) (by omega) hoff (by omega) hu hnl λC1 W4 s10 hcl=>?_;refine br_f rfl ?_;have s10:St F0 w0 W4 (CacheA I.c dp C1::DiskA dp D'::SlA 1 p.s (p.b.map ub)::bigA ((I.pl.map Pg.A).eraseIdx jj)::BoxA x (storeC I.b dp T.S T.P T.busy T.dead I.m)::BoxA I.b [P0 I.g,P0 I.c]::BoxA I.g (ringC dp 3 T.n T.h I.s)::SlA 5 I.s (rcs I.xs)::bts I.xs::MapA intKT I.m (I.pl.map Pg.kv)::BoxA b [slV t]::SlA 1 t (ints ks)::BoxA r1 [iv 0]::BoxA r [P0 x]::(L++[ObjA l (Ro .busy),ObjA m ddO])):=s10;refine s10.L 13 rfl (p:=(some ⟨x,0,none⟩:Option Addr)) rfl ?_;rw[deref_some'];refine s10.L 4 rfl (p:=some ⟨I.b,0,none⟩) rfl ?_;rw[deref_some'];refine s10.L 5 rfl (p:=some ⟨I.c,0,none⟩) rfl ?_;refine callF_of hcl ?_;rintro _ W5 ⟨rfl,C2,hc2,s11⟩
  have s11:St F0 w0 W5 (CacheA I.c dp C2::DiskA dp (writeD D' z p.b).2::SlA 1 p.s (p.b.map ub)::bigA ((I.pl.map Pg.A).eraseIdx jj)::BoxA x (storeC I.b dp T.S T.P T.busy T.dead I.m)::BoxA I.b [P0 I.g,P0 I.c]::BoxA I.g (ringC dp 3 T.n T.h I.s)::SlA 5 I.s (rcs I.xs)::bts I.xs::MapA intKT I.m (I.pl.map Pg.kv)::BoxA b [slV t]::SlA 1 t (ints ks)::BoxA r1 [iv 0]::BoxA r [P0 x]::(L++[ObjA l (Ro .busy),ObjA m ddO])):=s11;have hjl2:=(split_at h1).2;have s12:=St.unpick (A:=SlA 1 p.s (p.b.map ub)) (i:=jj) (s11.sel [2,3,0,1,4,5,6,7,8,9,10,11,12,13] 14) (by simpa using hjl2);have e1:(I.pl.map Pg.A).set jj (SlA 1 p.s (p.b.map ub))=I.pl.map Pg.A:=by
   refine List.ext_getElem? λa=>?_;rw[List.getElem?_set];split
   ·rename_i hja
    subst hja;rw[if_pos (by simpa using hjl2),List.getElem?_map,h1];rfl
   ·rfl
  rw[e1]at s12;have s13:St F0 w0 W5 (BoxA x (storeC I.b dp T.S T.P T.busy T.dead I.m)::BoxA I.b [P0 I.g,P0 I.c]::BoxA I.g (ringC dp 3 T.n T.h I.s)::SlA 5 I.s (rcs I.xs)::bts I.xs::CacheA I.c dp C2::MapA intKT I.m (I.pl.map Pg.kv)::bigA (I.pl.map Pg.A)::BoxA b [slV t]::SlA 1 t (ints ks)::BoxA r1 [iv 0]::BoxA r [P0 x]::DiskA dp (writeD D' z p.b).2::(L++[ObjA l (Ro .busy),ObjA m ddO])):=s12.sel [3,4,5,6,7,1,8,0,9,10,11,12,2] 13;have hwg:=writeD_dg hdb z p.b;have hwc:=write_cases hdb.ok hoff (show 0<=z/\z<D'.blocks.length by rw[hlen];exact hr2) hnl;generalize hW:writeD D' z p.b=E at s13 hc2 hwg hwc hX⊢;refine br_of (λhne=>?_) λheq=>?_
  ·have hne:E.1≠0:=by simpa using hne
   rw[if_pos hne]at hX;refine s13.L 11 rfl (p:=(some ⟨x,0,none⟩:Option Addr)) rfl ?_;obtain⟨G,H,_,g2,_,_,_,gc⟩:=s13.call1;refine callF_of (V109 (e:=E.1) g2) ?_;rintro r2 W6 ⟨he,s14⟩;rw[he];have s15:=gc _ _ s14;have h5:E.1=5:=by rcases hwc with⟨h,_⟩|⟨h,_⟩;exact absurd h hne;exact h
   have s16:=St.tClose (N:=N+j) (T:=({T with D:=E.2}:TM).told E.1) (i:={I with C:=C2}) s15 ⟨hp.xs,hp.pl,λhdd=>absurd h5 (told_dead hdd).2⟩;refine s16.S 3 rfl (by simp) trivial λW7 s17=>?_;exact hlv none (j,E) W7 ⟨rfl,by dsimp only;omega,hX⟩ (s17.sel [1,2,3,4,0,5] 6)
  ·have h0:E.1=0:=by simpa using heq
   rw[if_neg (not_not_intro h0)]at hX;have s16:=St.tClose (N:=N+j+1) (T:={T with D:=E.2}) (i:={I with C:=C2}) s13 ⟨hp.xs,hp.pl,λ_=>hc2 h0⟩;refine hnx (j+1,E.2) W5 ⟨rfl,hlt,(hdg.trans hwg).mono (by omega),?_,hX⟩ (s16.sel [1,2,3,4,0,5] 6);rcases hwc with⟨_,h,_⟩|⟨h,_⟩
   ·exact h
   ·rw[h0]at h;cases h
 ·rintro m ⟨j,D'⟩ W ⟨rfl,_,hdg,hoff,hX⟩ hs
  dsimp only at hdg hoff hX;rw[List.drop_length,homeD]at hX;rw[hX]at hK;have hs:St F0 w0 W (BoxA b [slV t]::SlA 1 t (ints ks)::BoxA r1 [iv 0]::BoxA r [P0 x]::TxA x dp (N+ks.length) {T with D:=D'}::DiskA dp D'::(L++[ObjA m ddO])):=hs;refine hs.S 2 rfl (by simp) trivial λW2 s4=>?_;refine takesAt (V:=BoxA b [slV t]::SlA 1 t (ints ks)::BoxA r1 [iv 0]::BoxA r [P0 x]::TxA x dp (N+ks.length) {T with D:=D'}::DiskA dp D'::L) (T:=[]) s4 λW3 s5=>?_;rw[List.append_nil]at s5;refine s5.L 2 rfl (p:=(0:Int)) rfl ?_;have e0:({T with D:=D'}:TM).told 0={T with D:=D'}:=by unfold TM.told;simp
  refine hK W3 ?_;show St F0 w0 W3 (TxA x dp (N+2000) (({T with D:=D'}:TM).told 0)::DiskA dp D'::L);rw[e0];exact(s5.sel [4,5] 6).tMono (by omega)
 ·rintro m q ⟨j,e⟩ W ⟨rfl,hj,hX⟩ hs
  dsimp only at hj hX;rw[hX]at hK;have hs:St F0 w0 W (BoxA b [slV t]::SlA 1 t (ints ks)::BoxA r1 [iv e.1]::BoxA r [P0 x]::TxA x dp (N+j) (({T with D:=e.2}:TM).told e.1)::DiskA dp e.2::(L++[ObjA m ddO])):=hs;refine takesAt (V:=BoxA b [slV t]::SlA 1 t (ints ks)::BoxA r1 [iv e.1]::BoxA r [P0 x]::TxA x dp (N+j) (({T with D:=e.2}:TM).told e.1)::DiskA dp e.2::L) (T:=[]) hs λW3 s5=>?_;rw[List.append_nil]at s5;refine s5.L 2 rfl (p:=e.1) rfl ?_;exact hK W3 ((s5.sel [4,5] 6).tMono (by omega))
end
def TM.cpt(T:TM):Int×TM:=
 if T.R=[]then(0,T)else
 if(flushD T.D).1≠0 then((flushD T.D).1,({T with D:=(flushD T.D).2}:TM).told (flushD T.D).1)else
 if(nextS T.S (T.h+T.R.length)).2≠0 then(6,{T with D:=(flushD T.D).2})else
 if(noteD (flushD T.D).2 (nextS T.S (T.h+T.R.length)).1).1≠0 then((noteD (flushD T.D).2 (nextS T.S (T.h+T.R.length)).1).1,({T with D:=(noteD (flushD T.D).2 (nextS T.S (T.h+T.R.length)).1).2}:TM).told (noteD (flushD T.D).2 (nextS T.S (T.h+T.R.length)).1).1)
 else(0,{T with D:=(noteD (flushD T.D).2 (nextS T.S (T.h+T.R.length)).1).2,S:=(nextS T.S (T.h+T.R.length)).1,R:=[]})
theorem note_rd{D:DM}{N:Nat}{S:Sup}(hD:DB N D)(ho:D.off=false)(hl:2<=D.blocks.length):(noteD D S).1=5\/∀b,2<=b->rdD (noteD D S).2 b=rdD D b:=by
 have hs:=slot_01 S;unfold noteD;split
 ·exact .inr λ_ _=>rfl
 ·rcases write_cases hD.ok ho (i:=slotS S) (by omega) (bytesS_len S)with⟨h1,h2,h3⟩|⟨h1,_⟩
  ·rw[if_neg (not_not_intro h1)]
   have hg:=writeD_dg hD (slotS S) (bytesS S);rcases flush_cases hg.db.ok h2 with⟨_,_,_,f4⟩|⟨f1,_⟩
   ·exact .inr λb hb=>by rw[f4 b (by omega),h3,if_neg (by omega)]
   ·exact .inl f1
  ·rw[if_pos (by rw[h1];decide)];exact .inl h1
section
variable{x dp N M:Nat}{T:TM}{w w0:World}{F0:Nat->Prop}{L:List HA}
theorem heldC{K:Int->Pr}(h:St F0 w0 w (TxA x dp N T::L))(ht:T.ok)(hK:∀w',St F0 w0 w' (TxA x dp N T::L)->K T.R.length w'):callF Tryz.prog 19 [P0 x] [.c (.int .i64)] K w:=by
 refine callF_of (post:=K) (F19_calls _ _ _ ?_) λ_ _ h=>h;unfold F19;obtain⟨I,hp,s0⟩:=h.tOpen;refine callF_of (V56 s0.box) ?_;rintro _ _ ⟨rfl,rfl⟩;refine br_f rfl ?_;rw[drw_def];have s1:=s0.drew;have s2:=h.drew;clear s0 h;generalize w.drew=W at s1 s2⊢;simp only[deref_some'];refine s1.L 0 rfl (p:=some ⟨I.b,0,none⟩) rfl ?_;refine s1.L 1 rfl (p:=some ⟨I.g,0,none⟩) rfl ?_;have hR:=ht.R;have hn:=ht.n1;have hh:=ht.h;have hx:=(s1.sel [3,4] 8).rl.len;have hxl:I.xs.length=T.R.length:=by rw[<-hp.xs,List.length_map]
 have c57:∀{W':World} {k:Int->Pr},Grow W W'->(∀W2,Grow W W2->k (T.h+T.R.length) W2)->callF Tryz.prog 57 [RP I.g] [.c (.int .i64)] k W':=λ{W' k} g hk=>by
  refine callF_of (V57 ((s1.bring 2).box.grow g) (by omega) (by omega)) ?_;rintro r W2 ⟨hr,g2⟩;rw[hr,show T.h+(I.s.len:Int)=T.h+T.R.length by omega];exact hk W2 (Grow.trans g g2)
 refine jn_of (λc W'=>c=(T.h+T.R.length,some ⟨I.g,0,none⟩)/\Grow W W') ?_ ?_
 ·have ld0:∀{W':World} {k:Option Addr->Pr},Grow W W'->k (some ⟨I.b,0,none⟩) W'->ldP (bA x 0) k W':=λg hk=>(s1.grow g).L 0 rfl (p:=some ⟨I.b,0,none⟩) rfl hk
  have ld1:∀{W':World} {k:Option Addr->Pr},Grow W W'->k (some ⟨I.g,0,none⟩) W'->ldP (bA I.b 0) k W':=λg hk=>(s1.grow g).L 1 rfl (p:=some ⟨I.g,0,none⟩) rfl hk;refine⟨?_,?_⟩
  ·refine c57 (Mod.refl _ W) λW2 g=>?_
   refine ld0 g ?_;refine ld1 g ?_;exact⟨rfl,g⟩
  ·refine ld0 (Mod.refl _ W) ?_
   refine⟨?_,?_⟩
   ·refine c57 (Mod.refl _ W) λW2 g=>?_
    refine ld1 g ?_;exact⟨rfl,g⟩
   ·refine ld1 (Mod.refl _ W) ?_
    refine c57 (Mod.refl _ W) λW2 g=>?_;exact⟨rfl,g⟩
 rintro _ W2 ⟨rfl,g⟩;refine callF_of (V58 ((s1.bring 2).box.grow g)) ?_;rintro _ _ ⟨rfl,rfl⟩;rw[w64_of ⟨by omega,by omega⟩,show T.h+(T.R.length:Int)-T.h=T.R.length by omega];exact hK W2 (s2.grow g)
theorem nextS_ok{s:Sup}{h:Int}(he:(nextS s h).2=0):nextS s h=((s.1+1,s.2.1,s.2.2.1,s.2.2.2.1,s.2.2.2.2.1,h),0)/\s.2.2.2.2.2<=h/\h<=1152921504606846976/\supE s=0:=by
 unfold nextS at he⊢;by_cases h0:nextE s h=0
 ·rw[if_pos h0]
  unfold nextE at h0;by_cases h1:supE s≠0
  ·rw[if_pos h1]at h0;exact absurd h0 h1
  ·rw[if_neg h1]at h0
   by_cases h2:h<s.2.2.2.2.2\/h>1152921504606846976
   ·rw[if_pos h2]at h0;cases h0
   ·exact⟨rfl,by omega,by omega,Classical.not_not.1 h1⟩
 ·rw[if_neg h0]at he;exact absurd he h0
theorem cptC{K:Int->Pr}(h:St F0 w0 w (TxA x dp N T::DiskA dp T.D::L))(ht:T.ok)(hD:DB M T.D)(hM:M<=900000)(hd:T.dead=false)(ho:T.D.off=false)
 (hK:∀w',St F0 w0 w' (TxA x dp N T.cpt.2::DiskA dp T.cpt.2.D::L)->K T.cpt.1 w'):callF Tryz.prog 63 [P0 x] [.c (.int .i64)] K w:=by
 refine callF_of (post:=K) (F63_calls _ _ _ ?_) λ_ _ h=>h;unfold F63;have hR:=ht.R;have hn:=ht.n1;have hh:=ht.h;have hlb:=ht.lb;unfold TM.cpt at hK;refine heldC h ht λw1 s1=>?_;by_cases hr0:T.R=[]
 ·rw[if_pos hr0]at hK
  exact br_t (by simp[hr0]) (hK w1 s1)
 rw[if_neg hr0]at hK;have hr1:T.R.length≠0:=λh=>hr0 (List.eq_nil_of_length_eq_zero h);refine br_f (by simpa using hr1) ?_;obtain⟨I,hp,s2⟩:=s1.tOpen;have cc:=hp.cc hd;rw[deref_some'];refine s2.L 0 rfl (p:=some ⟨dp,0,none⟩) rfl ?_;refine flC' (s2.sel [8,0,1,2,3,4,5,6,7] 9) hD (by omega) λw2 s3=>?_;have hfg:=flushD_dg hD;have hfc:=flush_cases hD.ok ho;generalize flushD T.D=E at s3 hK hfg hfc⊢;have us:=λ(b:Int) (hb:usableS T.P b)=>ht.us hb;have s3:St F0 w0 w2 (BoxA x (storeC I.b dp T.S T.P T.busy T.dead I.m)::BoxA I.b [P0 I.g,P0 I.c]::BoxA I.g (ringC dp 3 T.n T.h I.s)::SlA 5 I.s (rcs I.xs)::bts I.xs::CacheA I.c dp I.C::MapA intKT I.m (I.pl.map Pg.kv)::bigA (I.pl.map Pg.A)::DiskA dp E.2::L):=St.sel [1,2,3,4,5,6,7,8,0] 9 s3;have tell:∀{W:World} {G:DM} {e:Int} (s:St F0 w0 W (BoxA x (storeC I.b dp T.S T.P T.busy T.dead I.m)::BoxA I.b [P0 I.g,P0 I.c]::BoxA I.g (ringC dp 3 T.n T.h I.s)::SlA 5 I.s (rcs I.xs)::bts I.xs::CacheA I.c dp I.C::MapA intKT I.m (I.pl.map Pg.kv)::bigA (I.pl.map Pg.A)::DiskA dp G::L)),(e≠5->CC N T.P I.C G)->
  (∀w',St F0 w0 w' (TxA x dp N (({T with D:=G}:TM).told e)::DiskA dp G::L)->K e w')->callF Tryz.prog 109 [P0 x,iv e] [.c (.int .i64)] K W:=λ{W G e} s hc hk=>by
  obtain⟨G',H,_,g2,_,_,_,gc⟩:=s.call1;refine callF_of (V109 (e:=e) g2) ?_;rintro r w3 ⟨he,s8⟩;rw[he];exact hk w3 (St.tClose (T:=({T with D:=G}:TM).told e) (i:=I) (gc _ _ s8) ⟨hp.xs,hp.pl,λhdd=>hc (told_dead hdd).2⟩)
 by_cases hE:E.1≠0
 ·rw[if_pos hE]at hK
  refine br_t (by simpa using hE) (tell s3 (λh5=>?_) hK);rcases hfc with⟨f1,_⟩|⟨f1,_⟩
  ·exact absurd f1 hE
  ·exact absurd f1 h5
 rw[if_neg hE]at hK;refine br_f (by simpa using hE) ?_;obtain⟨fo,frd⟩:E.2.off=false/\∀b,0<=b->rdD E.2 b=rdD T.D b:=by
  rcases hfc with⟨_,f2,_,f4⟩|⟨f1,_⟩
  ·exact⟨f2,f4⟩
  ·rw[f1]at hE;exact absurd (by decide) hE
 have hx:=(s3.sel [3,4] 8).rl.len;have hxl:I.xs.length=T.R.length:=by rw[<-hp.xs,List.length_map]
 rw[deref_some'];refine s3.L 0 rfl (p:=some ⟨I.b,0,none⟩) rfl ?_;rw[deref_some'];refine s3.L 1 rfl (p:=some ⟨I.g,0,none⟩) rfl ?_;refine callF_of (V57 (s3.bring 2).box (by omega) (by omega)) ?_;rintro tl w3 ⟨htl,g3⟩;rw[show T.h+(I.s.len:Int)=T.h+T.R.length by omega]at htl;subst htl;have s4:=s3.grow g3;rw[deref_some'];have hbx:=s4.box;have hSr:Row w3 ((⟨x,0,none⟩:Addr).add 2) (valA [.int .i64,.int .i64,.int .i64,.int .i64,.int .i64,.int .i64] T.S):=(hbx.row.drop 2).take 6;refine ldA_of (p:=T.S) (readsAt_row.2 hSr) ?_;refine callF_of (V113 T.S (T.h+T.R.length) w3) ?_;rintro C w4 ⟨hC,g4⟩;rw[<-hC]at hK;refine(s4.grow g4).nvs rfl (na_p C.1) λr w5 s5=>?_;have mvE:CC N T.P I.C E.2:=cc.move hfg.len λb hb=>frd b (usable_lt ht hb).1;by_cases hC0:C.2≠0
 ·rw[if_pos hC0]at hK
  exact br_t (by simpa using hC0) (hK w5 (St.tClose (T:={T with D:=E.2}) (i:=I) s5.drop ⟨hp.xs,hp.pl,λ_=>mvE⟩))
 rw[if_neg hC0]at hK;refine br_f (by simpa using hC0) ?_;have hC0:C.2=0:=Classical.not_not.1 hC0;obtain⟨hS,hb1,hb2,hsu⟩:=nextS_ok (s:=T.S) (h:=T.h+T.R.length) (by rw[<-hC];exact hC0);rw[<-hC]at hS;rw[drw_def];have s6:=s5.drew;generalize w5.drew=w6 at s6;have s6:St F0 w0 w6 (BoxA r (pcells C.1)::BoxA x (storeC I.b dp T.S T.P T.busy T.dead I.m)::BoxA I.b [P0 I.g,P0 I.c]::BoxA I.g (ringC dp 3 T.n T.h I.s)::SlA 5 I.s (rcs I.xs)::bts I.xs::CacheA I.c dp I.C::MapA intKT I.m (I.pl.map Pg.kv)::bigA (I.pl.map Pg.A)::DiskA dp E.2::L):=s6;rw[deref_some'];refine s6.L 1 rfl (p:=some ⟨dp,0,none⟩) rfl ?_;refine s6.LA 0 rfl (p:=C.1) rfl ?_;obtain⟨G,H,g2,_,_,_,gc⟩:=St.call [DiskA dp E.2] (s6.sel [9,0,1,2,3,4,5,6,7,8] 10);refine callF_of (V77 (s:=C.1) g2 hfg.db (by omega)) ?_;rintro _ w7 ⟨rfl,s7⟩;have s7:=gc _ _ s7;have hng:=noteD_dg hfg.db C.1;have hnr:=note_rd (S:=C.1) hfg.db fo (by rw[hfg.len];omega);generalize noteD E.2 C.1=Z at s7 hK hng hnr⊢;have s8:St F0 w0 w7 (BoxA x (storeC I.b dp T.S T.P T.busy T.dead I.m)::BoxA I.b [P0 I.g,P0 I.c]::BoxA I.g (ringC dp 3 T.n T.h I.s)::SlA 5 I.s (rcs I.xs)::bts I.xs::CacheA I.c dp I.C::MapA intKT I.m (I.pl.map Pg.kv)::bigA (I.pl.map Pg.A)::DiskA dp Z.2::BoxA r (pcells C.1)::L):=St.sel [2,3,4,5,6,7,8,9,0,1] 10 s7;have mvZ:Z.1≠5->CC N T.P I.C Z.2:=λh5=>mvE.move hng.len λb hb=>by
  rcases hnr with h|h
  ·exact absurd h h5
  ·exact h b (us b hb).1
 by_cases hZ:Z.1≠0
 ·rw[if_pos hZ]at hK
  exact br_t (by simpa using hZ) (tell (s8.sel [0,1,2,3,4,5,6,7,8] 10) mvZ hK)
 rw[if_neg hZ]at hK;refine br_f (by simpa using hZ) ?_;have hZ:Z.1=0:=Classical.not_not.1 hZ;refine s8.LA 9 rfl (p:=C.1) rfl ?_;rw[deref_some'];refine s8.S 0 rfl (by simp) trivial λ_ s9=>?_;refine s9.S 0 rfl (by simp) trivial λ_ s10=>?_;refine s10.S 0 rfl (by simp) trivial λ_ s11=>?_;refine s11.S 0 rfl (by simp) trivial λ_ s12=>?_;refine s12.S 0 rfl (by simp) trivial λ_ s13=>?_;refine s13.S 0 rfl (by simp) trivial λw14 s14=>?_;have s14:St F0 w0 w14 (BoxA x (storeC I.b dp C.1 T.P T.busy T.dead I.m)::BoxA I.b [P0 I.g,P0 I.c]::BoxA I.g (ringC dp 3 T.n T.h I.s)::SlA 5 I.s (rcs I.xs)::bts I.xs::CacheA I.c dp I.C::MapA intKT I.m (I.pl.map Pg.kv)::bigA (I.pl.map Pg.A)::DiskA dp Z.2::BoxA r (pcells C.1)::L):=s14;rw[deref_some'];refine s14.L 0 rfl (p:=some ⟨I.b,0,none⟩) rfl ?_;rw[deref_some'];refine s14.L 1 rfl (p:=some ⟨I.g,0,none⟩) rfl ?_;obtain⟨G,H,g2,_,_,_,gc⟩:=St.call (ringO I.g dp 3 T.n T.h I.s I.xs) (s14.sel [2,3,4,0,1,5,6,7,8] 10);refine callF_of (V114 (q:=T.h+T.R.length) g2 (by omega) (by have:T.h<=1152921504606846976:=hh.2;omega)) ?_;rintro y w15 ⟨t,⟨_,_,rfl,s15⟩|⟨hno,_⟩⟩
 rotate_left
 ·exact absurd ⟨by omega,by omega⟩ hno
 have s16:=gc _ _ s15;have e:I.xs.drop (T.h+(T.R.length:Int)-T.h).toNat=[]:=List.drop_eq_nil_of_le (by omega);rw[e]at s16;have s17:St F0 w0 w15 (BoxA x (storeC I.b dp C.1 T.P T.busy T.dead I.m)::BoxA I.b [P0 I.g,P0 I.c]::BoxA I.g (ringC dp 3 T.n (T.h+T.R.length) t)::SlA 5 t (rcs [])::bts []::CacheA I.c dp I.C::MapA intKT I.m (I.pl.map Pg.kv)::bigA (I.pl.map Pg.A)::DiskA dp Z.2::L):=St.sel [3,4,0,1,2,5,6,7,8] 9 s16;refine hK w15 (St.tClose (T:={T with D:=Z.2,S:=C.1,R:=[]}) (i:={I with s:=t,xs:=[]}) ?_ ⟨rfl,hp.pl,λ_=>mvZ (by rw[hZ];decide)⟩);have e1:({T with D:=Z.2,S:=C.1,R:=[]}:TM).n=T.n:=by show C.1.2.2.1=T.S.2.2.1;rw[hS]
 have e2:({T with D:=Z.2,S:=C.1,R:=[]}:TM).h=T.h+T.R.length:=by show C.1.2.2.2.2.2=_;rw[hS]
 rw[e1,e2];exact s17
end
theorem patV_mem{T:TM}(ht:T.ok){v:Rv}(hv:v∈T.patV):okV v=true/\v.1=1/\∃p∈T.pg,p.1=v.2.1:=by
 obtain⟨i,hi,hc⟩:=List.mem_flatMap.1 hv;obtain⟨p,hp,rfl⟩:=(changed_mem hi).2;have hu:=(ht.pg p hp).1;have hr:=usable_lt ht hu;have h:=cut_ok (TM.page_len ht hu) ⟨hr.1,by have:=ht.D.le;omega⟩ v hc;exact⟨h.1,h.2.1,p,hp,h.2.2.symm⟩
structure TM.up(T:TM):Prop where
 ok:T.ok
 dead:T.dead=false
 off:T.D.off=false
theorem TM.told0{T:TM}:T.told 0=T:=by unfold TM.told;simp
theorem TM.ok.toD{T:TM}(ht:T.ok){E:DM}(hE:E.ok)(hl:E.blocks.length=T.D.blocks.length):({T with D:=E}:TM).ok:=⟨hE,ht.P,ht.g,by rw[<-ht.len];show(E.blocks.length:Int)=_;rw[hl],ht.h,ht.R,ht.ok,ht.nod,ht.pg,ht.idle⟩
theorem cpt_cases{T:TM}(hT:T.up){M:Nat}(hD:DB M T.D):
 ((T.cpt.1=0/\T.cpt.2.up)\/(T.cpt.1=6/\T.cpt.2.up)\/(T.cpt.1=5/\T.cpt.2.dead=true/\T.cpt.2.D.off=true/\T.cpt.2.D.wait=[]))/\DG T.D T.cpt.2.D M 4/\T.cpt.2.pg=T.pg/\T.cpt.2.P=T.P/\T.cpt.2.busy=T.busy/\supG T.cpt.2.S=supG T.S:=by
 obtain⟨ht,hd,ho⟩:=hT;have hlb:=ht.lb;have hn:=ht.n1;unfold TM.cpt;by_cases h0:T.R=[]
 ·rw[if_pos h0];exact⟨.inl ⟨rfl,ht,hd,ho⟩,.refl hD _,rfl,rfl,rfl,rfl⟩
 rw[if_neg h0];have hfg:=flushD_dg hD;have hfc:=flush_cases hD.ok ho;generalize flushD T.D=E at hfg hfc⊢;rcases hfc with⟨f1,f2,_⟩|⟨f1,f2,f3⟩
 rotate_left
 ·rw[if_pos (by rw[f1];decide)]
  exact⟨.inr (.inr ⟨f1,by rw[f1];show(T.dead||_)=true;simp,f2,f3⟩),hfg.mono (by omega),rfl,rfl,rfl,rfl⟩
 rw[if_neg (not_not_intro f1)];by_cases hC:(nextS T.S (T.h+T.R.length)).2≠0
 ·rw[if_pos hC]
  exact⟨.inr (.inl ⟨rfl,ht.toD hfg.db.ok hfg.len,hd,f2⟩),hfg.mono (by omega),rfl,rfl,rfl,rfl⟩
 rw[if_neg hC];obtain⟨hS,hb1,hb2,hsu⟩:=nextS_ok (Classical.not_not.1 hC);have hng:=noteD_dg hfg.db (nextS T.S (T.h+T.R.length)).1;have hsE:supE (nextS T.S (T.h+T.R.length)).1=0\/(nextS T.S (T.h+T.R.length)).2≠0:=by
  refine .inl ?_;have hne:nextE T.S (T.h+T.R.length)=0:=by
   have h2:=Classical.not_not.1 hC;unfold nextS at h2;by_cases h:nextE T.S (T.h+T.R.length)=0
   ·exact h
   ·rw[if_neg h]at h2;exact h2
  unfold nextE at hne;rw[if_neg (not_not_intro hsu),if_neg (by omega)]at hne;have h1:T.S.1≠1152921504606846976:=λh=>by rw[if_pos h]at hne;cases hne
  obtain⟨g0,k1,k2,k3,k4⟩:=supE_ok hsu;have hh:=ht.h;have e1:T.h=T.S.2.2.2.2.2:=rfl;rw[hS];rw[supE_g (s:=(T.S.1+1,T.S.2.1,T.S.2.2.1,T.S.2.2.2.1,T.S.2.2.2.2.1,T.h+T.R.length)) g0,if_pos];exact⟨by dsimp only;omega,by dsimp only;omega,by dsimp only;omega,by dsimp only;omega⟩
 have hsE:=hsE.resolve_right hC;have hnc:((noteD E.2 (nextS T.S (T.h+T.R.length)).1).1=0/\(noteD E.2 (nextS T.S (T.h+T.R.length)).1).2.off=false)\/((noteD E.2 (nextS T.S (T.h+T.R.length)).1).1=5/\(noteD E.2 (nextS T.S (T.h+T.R.length)).1).2.off=true/\(noteD E.2 (nextS T.S (T.h+T.R.length)).1).2.wait=[]):=by
  have hs:=slot_01 (nextS T.S (T.h+T.R.length)).1;unfold noteD;rw[if_neg (not_not_intro hsE)];have hl:=hfg.len;rcases write_cases hfg.db.ok f2 (i:=slotS (nextS T.S (T.h+T.R.length)).1) (by omega) (bytesS_len _)with⟨h1,h2,h3⟩|⟨h1,h2,h3⟩
  ·rw[if_neg (not_not_intro h1)]
   rcases flush_cases (writeD_dg hfg.db _ _).db.ok h2 with⟨g1,g2,_⟩|h
   ·exact .inl ⟨g1,g2⟩
   ·exact .inr h
  ·rw[if_pos (by rw[h1];decide)];exact .inr ⟨h1,h2,h3⟩
 have hg:supG (nextS T.S (T.h+T.R.length)).1=supG T.S:=by rw[hS]
 have hdg:=(hfg.trans hng).mono (K:=4) (by omega);have hSh:(nextS T.S (T.h+T.R.length)).1.2.2.2.2.2=T.h+T.R.length:=by rw[hS]
 generalize(nextS T.S (T.h+T.R.length)).1=S' at hng hnc hg hdg hSh⊢;generalize noteD E.2 S'=Z at hng hnc hdg⊢;rcases hnc with⟨g1,g2⟩|⟨g1,g2,g3⟩
 ·rw[if_neg (not_not_intro g1)]
  have hh:=ht.h;refine⟨.inl ⟨rfl,⟨hdg.db.ok,by rw[ht.P];show _=(ofG (supG S')).1;rw[hg],by show(ofG (supG S')).2=0;rw[hg];exact ht.g,?_,?_,?_,rfl,ht.nod,ht.pg,ht.idle⟩,hd,g2⟩,hdg,rfl,rfl,rfl,hg⟩
  ·show(Z.2.blocks.length:Int)=S'.2.1
   rw[hdg.len,ht.len];exact(congrArg (·.1) hg).symm
  ·show 0<=S'.2.2.2.2.2/\S'.2.2.2.2.2<=_
   omega
  ·have e:S'.2.2.1=T.n:=congrArg (·.2.1) hg
   show((0:Nat):Int)<=4*S'.2.2.1;omega
 ·rw[if_pos (by rw[g1];decide)]
  exact⟨.inr (.inr ⟨g1,by rw[g1];show(T.dead||_)=true;simp,g2,g3⟩),hdg,rfl,rfl,rfl,rfl⟩
theorem app_cases{T:TM}(hT:T.up){M:Nat}(hD:DB M T.D)(ys:List Rv):
 (((T.app ys).1=0/\(T.app ys).2.up/\(T.app ys).2.R=T.R++ys)\/((T.app ys).1≠0/\(T.app ys).1≠5/\(T.app ys).2=T)\/((T.app ys).1=5/\(T.app ys).2.dead=true/\(T.app ys).2.D.off=true/\(T.app ys).2.D.wait=[]))/\DG T.D (T.app ys).2.D M (2*ys.length+1)/\(T.app ys).2.pg=T.pg/\(T.app ys).2.P=T.P/\(T.app ys).2.busy=T.busy/\(T.app ys).2.S=T.S:=by
 obtain⟨ht,hd,ho⟩:=hT;have hlb:=ht.lb;have hn:=ht.n1;have hh:=ht.h;obtain⟨hcs,hdg⟩:=appX_cases (D:=T.D) (N:=M) (n:=T.n) (h:=T.h) (R:=T.R) (ys:=ys) hD ho ⟨by omega,by omega⟩ hh.1;have hroom:(appX T.D 3 T.n T.h T.R ys).1=0->(ys.length:Int)<=4*T.n-T.R.length:=λh=>by
  unfold appX at h;split at h
  ·cases h
  ·split at h
   ·cases h
   ·omega
 unfold TM.app;dsimp only;generalize appX T.D 3 T.n T.h T.R ys=A at hcs hdg hroom⊢;by_cases h0:A.1=0
 ·rw[if_pos h0]
  obtain⟨hoff,hys⟩:A.2.off=false/\∀x∈ys,okV x=true:=by
   rcases hcs with⟨h1,h3⟩|⟨h1,_⟩
   ·refine⟨?_,h3⟩
    rcases h1.res with⟨_,h2,_⟩|⟨h2,_⟩
    ·exact h2
    ·rw[h0]at h2;cases h2
   ·rw[h0]at h1
    rcases h1 with h1|h1|h1<;>cases h1
  have hfg:=flushD_dg hdg.db;have hd2:=hdg.trans hfg;rcases flush_cases hdg.db.ok hoff with⟨f1,f2,_⟩|⟨f1,f2,f3⟩
  ·rw[f1,TM.told0]
   have hr:=hroom h0;refine⟨.inl ⟨rfl,⟨⟨hd2.db.ok,ht.P,ht.g,?_,hh,?_,?_,ht.nod,ht.pg,ht.idle⟩,hd,f2⟩,rfl⟩,hd2,rfl,rfl,rfl,rfl⟩
   ·show((flushD A.2).2.blocks.length:Int)=_
    rw[hd2.len];exact ht.len
   ·show((T.R++ys).length:Int)<=4*T.n
    rw[List.length_append];omega
   ·show(T.R++ys).all okV=true
    rw[List.all_append,ht.ok,Bool.true_and,List.all_eq_true];exact hys
  ·exact⟨.inr (.inr ⟨f1,by rw[f1];show(T.dead||_)=true;simp,f2,f3⟩),hd2,rfl,rfl,rfl,rfl⟩
 ·rw[if_neg h0]
  have h3:(A.1=5/\A.2.off=true/\A.2.wait=[])\/((A.1=60\/A.1=70\/A.1=3)/\A.2=T.D):=by
   rcases hcs with⟨h1,_⟩|h
   ·rcases h1.res with⟨h2,_⟩|h
    ·exact absurd h2 h0
    ·exact .inl h
   ·exact .inr h
  have hd2:=hdg.mono (K:=2*ys.length+1) (by omega);rcases h3 with⟨h5,h6,h7⟩|⟨h5,h6⟩
  ·rw[if_neg (by rw[h5];decide)]
   exact⟨.inr (.inr ⟨h5,by rw[h5];show(T.dead||_)=true;simp,h6,h7⟩),hd2,rfl,rfl,rfl,rfl⟩
  ·have e:({T with D:=A.2}:TM)=T:=by rw[h6]
   by_cases h8:A.1=3
   ·rw[if_pos h8]
    refine⟨.inr (.inl ⟨show(6:Int)≠0 by decide,show(6:Int)≠5 by decide,e⟩),hd2,rfl,rfl,rfl,rfl⟩
   ·rw[if_neg h8]
    have hn5:A.1≠5:=by rcases h5 with h|h|h<;>rw[h]<;>decide
    refine⟨.inr (.inl ⟨h0,hn5,?_⟩),hd2,rfl,rfl,rfl,rfl⟩;show({T with D:=A.2}:TM).told A.1=T;rw[e];unfold TM.told;rw[beq_eq_false_iff_ne.2 hn5,Bool.or_false]
def TM.commit(T:TM):Int×TM:=
 if mayE T.dead T.D≠0 then(mayE T.dead T.D,T.mark)else if T.busy=false then(100,T)else
 if T.patV.length=0 then(0,T.ends)else if(T.patV.length:Int)>=4*T.n then(101,T.ends)else
 let X:=if(T.patV.length:Int)+1>4*T.n-T.R.length then T.cpt else(0,T)
 if X.1≠0 then(X.1,X.2.ends)else
 let A:=X.2.app (T.patV++[cmt T.patV.length])
 if A.1≠0 then(A.1,A.2.ends)else
 ((homeD A.2.page (blocksV T.patV) A.2.D).1,(({A.2 with D:=(homeD A.2.page (blocksV T.patV) A.2.D).2}:TM).told (homeD A.2.page (blocksV T.patV) A.2.D).1).ends)
section
variable{x dp N M:Nat}{T:TM}{w w0:World}{F0:Nat->Prop}{L:List HA}
theorem roomC{K:Int->Pr}{I:TH}(s1:St F0 w0 w (BoxA x (storeC I.b dp T.S T.P T.busy T.dead I.m)::BoxA I.b [P0 I.g,P0 I.c]::BoxA I.g (ringC dp 3 T.n T.h I.s)::SlA 5 I.s (rcs I.xs)::bts I.xs::CacheA I.c dp I.C::MapA intKT I.m (I.pl.map Pg.kv)::bigA (I.pl.map Pg.A)::L))(hp:TxP N T I)(ht:T.ok)(hK:∀w',Grow w w'->K (4*T.n-T.R.length) w'):callF Tryz.prog 62 [P0 I.g] [.c (.int .i64)] K w:=by
 have hR:=ht.R;have hn:=ht.n1;have hx:=(s1.sel [3,4] 8).rl.len;have hxl:I.xs.length=T.R.length:=by rw[<-hp.xs,List.length_map]
 refine callF_of (V62 (s1.bring 2).box (by omega) (by omega)) ?_;rintro r W2 ⟨hr,g2⟩;rw[hr,show 4*T.n-(I.s.len:Int)=4*T.n-T.R.length by omega];exact hK W2 g2
theorem rv_cmt(m:Nat):rv (⟨2,0,0,⟨none,0,0⟩,m⟩,[])=cmt m:=rfl
theorem commitC{K:Int->Pr}(h:St F0 w0 w (TxA x dp N T::DiskA dp T.D::L))(ht:T.ok)(hD:DB M T.D)(hM:M<=890000)(hN:N<=10000000)
 (hK:∀w',St F0 w0 w' (TxA x dp (N+5000) T.commit.2::DiskA dp T.commit.2.D::L)->K T.commit.1 w'):callF Tryz.prog 20 [P0 x] [.c (.int .i64)] K w:=by
 refine callF_of (post:=K) (F20_calls _ _ _ ?_) λ_ _ h=>h;unfold F20;unfold TM.commit at hK;dsimp only at hK;have hwl:=hD.bd.wait;have hn:=ht.n1;refine mayC h ht.D λw1 s1=>?_;refine br_of (λh=>?_) λh=>?_
 ·rw[if_pos (by simpa using h)]at hK
  exact hK w1 (s1.tMono (by omega))
 have h:mayE T.dead T.D=0:=by simpa using h
 rw[if_neg (not_not_intro h)]at hK;obtain⟨hd,ho,hm⟩:=may0 h;rw[hm]at s1;obtain⟨I,hp,s2⟩:=s1.tOpen;rw[deref_some'];refine s2.L 0 rfl (p:=T.busy) rfl ?_;clear s2 hp I;refine br_of (λh=>?_) λh=>?_
 ·rw[if_pos (by simpa using h)]at hK
  exact hK w1 (s1.tMono (by omega))
 rw[if_neg (by simpa using h)]at hK;refine patC s1 ht hd ho (by omega) (by omega) λt ys w2 hys s3=>br_f rfl ?_;have hyl:ys.length=T.patV.length:=by rw[<-hys,List.length_map]
 have htl:=s3.sl.len;rw[rcs_len]at htl;have hP:=λv hv=>patV_mem ht (v:=v) hv;generalize hV:T.patV=V at hys hyl hK hP;have fin:∀{W:World} {T':TM} {N':Nat} {k:Pr},St F0 w0 W (SlA 5 t (rcs ys)::bts ys::TxA x dp N' T'::DiskA dp T'.D::L)->N'<=N+5000->T'.pg=T.pg->(∀w',St F0 w0 w' (TxA x dp (N+5000) T'.ends::DiskA dp T'.ends.D::L)->k w')->callD Tryz.prog .returning 60 [P0 x] k W:=λ{W T' N' k} s hn hpg hk=>by
  refine endsD (s.sel [2,3] 4) (by rw[hpg];exact ht.nod) λw' s'=>hk w' ?_;exact s'.tMono hn
 by_cases h0:V.length=0
 ·rw[if_pos h0]at hK
  refine br_t ?_ (fin s3 (by omega) rfl hK);rw[beq_iff_eq];dsimp only;omega
 rw[if_neg h0]at hK;refine br_f ?_ ?_
 ·rw[beq_eq_false_iff_ne];dsimp only;omega
 obtain⟨I,hp,s4⟩:=(s3.sel [2,0,1,3] 4).tOpen;rw[deref_some'];refine s4.L 0 rfl (p:=T.n) rfl ?_;rw[w64_of (n:=4*T.n) ⟨by omega,by omega⟩];dsimp only;by_cases h1:(V.length:Int)>=4*T.n
 ·rw[if_pos h1]at hK
  exact br_t (decide_eq_true (by omega)) (fin s3 (by omega) rfl hK)
 rw[if_neg h1]at hK;refine br_f (decide_eq_false (by omega)) ?_;have hTup:T.up:=⟨ht,hd,ho⟩;obtain⟨X,hX⟩:∃X,(if(V.length:Int)+1>4*T.n-T.R.length then T.cpt else(0,T))=X:=⟨_,rfl⟩;rw[hX]at hK;have hXc:((X.1=0/\X.2.up)\/X.1≠0)/\DG T.D X.2.D M 4/\X.2.pg=T.pg/\X.2.P=T.P/\supG X.2.S=supG T.S:=by
  rw[<-hX];split
  ·obtain⟨h2,h3,h4,h5,_,h6⟩:=cpt_cases hTup hD
   exact⟨h2.imp id (λh=>by rcases h with h|h<;>rw[h.1]<;>decide),h3,h4,h5,h6⟩
  ·exact⟨.inl ⟨rfl,hTup⟩,.refl hD _,rfl,rfl,rfl⟩
 obtain⟨hX1,hXd,hXpg,hXP,hXg⟩:=hXc;refine jn_of (λ_ W=>X.1=0/\St F0 w0 W (SlA 5 t (rcs ys)::bts ys::TxA x dp (N+2048) X.2::DiskA dp X.2.D::L)) ?_ ?_
 ·rw[deref_some']
  refine s4.L 0 rfl (p:=some ⟨I.b,0,none⟩) rfl ?_;rw[deref_some'];refine s4.L 1 rfl (p:=some ⟨I.g,0,none⟩) rfl ?_;refine roomC s4 hp ht λw3 g3=>?_;have s5:=s3.grow g3;rw[w64_of (n:=(t.len:Int)+1) ⟨by omega,by omega⟩];by_cases h2:(V.length:Int)+1>4*T.n-T.R.length
  ·rw[if_pos h2]at hX
   refine br_t (decide_eq_true (by omega)) ?_;refine cptC (s5.sel [2,3,0,1] 4) ht hD (by omega) hd ho λw4 s6=>?_;rw[hX]at s6⊢;have s6:St F0 w0 w4 (SlA 5 t (rcs ys)::bts ys::TxA x dp (N+2048) X.2::DiskA dp X.2.D::L):=St.sel [2,3,0,1] 4 s6;refine br_of (λh=>?_) λh=>?_
   ·rw[if_pos (by simpa using h)]at hK
    exact fin s6 (by omega) hXpg hK
   ·exact⟨by simpa using h,s6⟩
  ·rw[if_neg h2]at hX
   refine br_f (decide_eq_false (by omega)) ?_;subst hX;exact⟨rfl,s5⟩
 rintro _ w3 ⟨hX0,s5⟩;rw[if_neg (not_not_intro hX0)]at hK;have hXu:X.2.up:=by rcases hX1 with h|h;exact h.2;exact absurd hX0 h
 clear hX1 hX s4 hp I;have rl:=s5.rl;refine callF_of (C56 t ys w3 rl (by omega)) ?_;rintro u w4 ⟨hu,g4⟩;have s6:=s5.mksl g4 hu;refine St.nw s6 λr w5 s7 _ _=>?_;have s7:St F0 w0 w5 (BoxA r (Rw.cells ⟨2,0,0,⟨none,0,0⟩,t.len⟩)::SlA 5 u (rcs ys)::SlA 5 t (rcs ys)::bts ys::TxA x dp (N+2048) X.2::DiskA dp X.2.D::L):=s7;have hul:=(s7.bring 1).sl.len;rw[rcs_len]at hul;refine(s7.bring 1).app (new:=Rw.cells ⟨2,0,0,⟨none,0,0⟩,t.len⟩) (λ_=>rfl) (λh=>by cases h) (readsAt_row.2 s7.box.row) (by simp[Rw.cells,NotAgg]) rfl (by decide) (by dsimp only;omega) λq w6 s8 _=>?_;have e1:rcs ys++Rw.cells ⟨2,0,0,⟨none,0,0⟩,t.len⟩=rcs (ys++[(⟨2,0,0,⟨none,0,0⟩,t.len⟩,[])]):=by rw[rcs_append,rcs_one]
 rw[e1]at s8;have s9:=((s8.sel [3,0,2,4,5] 6).nosl 1).push;have e2:(ys.map λx=>bytA (x.1.s,x.2))++[SlA 1 ⟨none,0,0⟩ []]=(ys++[((⟨2,0,0,⟨none,0,0⟩,t.len⟩,[]):Rc)]).map λx=>bytA (x.1.s,x.2):=by rw[List.map_append];rfl
 rw[e2]at s9;obtain⟨zs,hzs⟩:∃zs:List Rc,ys++[((⟨2,0,0,⟨none,0,0⟩,t.len⟩,[]):Rc)]=zs:=⟨_,rfl⟩;rw[hzs]at s9;have hzv:zs.map rv=V++[cmt V.length]:=by
  rw[<-hzs,List.map_append,hys];show V++[rv (⟨2,0,0,⟨none,0,0⟩,t.len⟩,[])]=_;rw[show t.len=V.length by omega];exact congrArg (λc=>V++[c]) (rv_cmt V.length)
 have s9:St F0 w0 w6 (bts zs::SlA 5 q (rcs zs)::SlA 5 t (rcs ys)::TxA x dp (N+2048) X.2::DiskA dp X.2.D::L):=s9;have hzl:zs.length<=2000:=by rw[<-hzs,List.length_append,List.length_singleton];omega
 have hac:=app_cases hXu hXd.db (V++[cmt V.length]);refine appC (s9.sel [3,4,1,0,2] 5) hXu.ok hXd.db (by omega) hXu.dead hXu.off hzl λw7 s10=>?_;rw[hzv]at s10⊢;generalize X.2.app (V++[cmt V.length])=A at s10 hK hac⊢;obtain⟨ha1,hag,hapg,haP,_,haS⟩:=hac;have s10:St F0 w0 w7 (TxA x dp (N+2048) A.2::DiskA dp A.2.D::SlA 5 q (rcs zs)::bts zs::SlA 5 t (rcs ys)::L):=s10;have fin2:∀{W:World} {T':TM} {N':Nat} {k:Pr} {L':List HA},St F0 w0 W (TxA x dp N' T'::DiskA dp T'.D::(L'++L))->N'<=N+5000->T'.pg=T.pg->(∀w',St F0 w0 w' (TxA x dp (N+5000) T'.ends::DiskA dp T'.ends.D::L)->k w')->callD Tryz.prog .returning 60 [P0 x] k W:=λ{W T' N' k L'} s hn hpg hk=>by
  have s':St F0 w0 W (L'++(TxA x dp N' T'::DiskA dp T'.D::L)):=s.perm (by
   have h1:(TxA x dp N' T'::DiskA dp T'.D::(L'++L)).Perm ((TxA x dp N' T'::DiskA dp T'.D::L')++L):=.refl _;have h2:(L'++(TxA x dp N' T'::DiskA dp T'.D::L)).Perm ((L'++[TxA x dp N' T',DiskA dp T'.D])++L):=by rw[List.append_assoc];exact .refl _
   exact(h1.trans ((List.perm_append_comm (l₁:=[TxA x dp N' T',DiskA dp T'.D]) (l₂:=L')).append_right L)).trans h2.symm)
  refine endsD s'.dropL (by rw[hpg];exact ht.nod) λw' s'=>hk w' ?_;exact s'.tMono hn
 by_cases hA:A.1≠0
 ·rw[if_pos hA]at hK
  exact br_t (by simpa using hA) (fin2 (L':=[SlA 5 q (rcs zs),bts zs,SlA 5 t (rcs ys)]) s10 (by omega) (hapg.trans hXpg) hK)
 rw[if_neg hA]at hK;refine br_f (by simpa using hA) ?_;have hA:=Classical.not_not.1 hA;have hAu:A.2.up:=by
  rcases ha1 with h|h|h
  ·exact h.2.1
  ·exact absurd hA h.1
  ·rw[hA]at h;exact absurd h.1 (by decide)
 have rl2:RL w7 t ys:=by
  refine⟨(s10.sel [4,3] 5).ss,λc hc=>?_⟩;obtain⟨i,hi⟩:=List.getElem?_of_mem hc;exact(s10.bring 3).bsI (i:=i) (x:=c) (by rw[<-hzs,List.getElem?_append_left (split_at hi).2];exact hi)
 have hal:(V++[cmt V.length]).length=V.length+1:=by simp
 rw[hal]at hag;refine homeC s10 rl2 hAu.ok hag.db (by omega) (by omega) hAu.dead hAu.off (by omega) (λk hk=>?_) λw8 s11=>?_
 ·rw[hys]at hk
  obtain⟨v,hv,_,rfl⟩:=mem_setB.1 ((sortI_perm _).subset hk);rw[hapg,hXpg];exact(hP v hv).2.2
 ·rw[hys]at s11⊢
  exact fin2 (L':=[SlA 5 q (rcs zs),bts zs,SlA 5 t (rcs ys)]) (T':=(({A.2 with D:=(homeD A.2.page (blocksV V) A.2.D).2}:TM).told (homeD A.2.page (blocksV V) A.2.D).1)) s11 (by omega) (hapg.trans hXpg) hK
end
def few(S:Sup)(k:Nat):Prop:=S.1<=k/\S.2.2.2.2.2<=2048*(k:Int)
def Good(D:DM)(g:Geo)(k:Nat)(C:Int->List UInt8):Prop:=∃l:Law,l.ok D.blocks.length/\Al D l.sector/\supG l.S=g/\few l.S k/\l.C=C
theorem Good.mono{D:DM}{g:Geo}{k m:Nat}{C:Int->List UInt8}(h:Good D g k C)(hm:k<=m):Good D g m C:=by
 obtain⟨l,h1,h2,h3,h4,h5⟩:=h;exact⟨l,h1,h2,h3,⟨by have:=h4.1;omega,by have:=h4.2;omega⟩,h5⟩
abbrev TM.law(T:TM)(C:Int->List UInt8):Law:=⟨T.S,T.R,T.h+T.R.length,C⟩
structure Live(T:TM)(k:Nat)(C:Int->List UInt8):Prop where
 up:T.up
 ok:(T.law C).ok T.D.blocks.length
 al:Al T.D (T.law C).sector
 wh:Whole T.R (T.law C).L
 rd:∀b,usableS T.P b->rdD T.D b=C b
 few:few T.S k
theorem Live.plan{T:TM}{k:Nat}{C:Int->List UInt8}(h:Live T k C):(T.law C).P=T.P:=by
 rw[h.up.ok.P,(ofG_ok h.up.ok.g).2.2.2]
theorem Live.good{T:TM}{k:Nat}{C:Int->List UInt8}(h:Live T k C):Good T.D (supG T.S) k C:=⟨T.law C,h.ok,h.al,rfl,h.few,rfl⟩
theorem Live.mono{T:TM}{k m:Nat}{C:Int->List UInt8}(h:Live T k C)(hm:k<=m):Live T m C:={h with few:=⟨by have:=h.few.1;omega,by have:=h.few.2;omega⟩}
theorem Al.same{D E:DM}{A:Int->Nat->List UInt8->Prop}(h:Al D A)(hb:E.blocks=D.blocks)(hw:E.wait=D.wait):Al E A:=λb k v h0 h1 hk hs=>h b k v h0 (by rw[<-hb];exact h1) hk (by unfold Sv at hs⊢;rw[<-hb,<-hw];exact hs)
theorem rd_same{D E:DM}(hb:E.blocks=D.blocks)(hw:E.wait=D.wait)(b:Int):rdD E b=rdD D b:=by unfold rdD;rw[hb,hw]
theorem redo_flat{b:Int}{f:Int->List Rv}(hf:∀i,∀v∈f i,v.2.1=i):∀(l:List Int) (x:List UInt8),l.Nodup->redoV b x (l.flatMap f)=if b∈l then redoV b x (f b)else x
 |[],x,_=>by simp[redoV]
 |i::l,x,hn=>by
  rw[List.nodup_cons]at hn;have skip:∀(vs:List Rv) (x:List UInt8),(∀v∈vs,v.2.1≠b)->redoV b x vs=x:=by
   intro vs
   induction vs with
   |nil=>exact λ_ _=>rfl
   |cons v vs ih=>
    intro x h;rw[redoV_cons,if_neg (h v (by simp)),ih x λu hu=>h u (by simp[hu])]
  rw[List.flatMap_cons,redoV_append];by_cases hib:i=b
  ·subst hib
   rw[redo_flat hf l _ hn.2,if_neg hn.1,if_pos (by simp)]
  ·rw[skip (f i) x λv hv h=>hib ((hf i v hv).symm.trans h),redo_flat hf l _ hn.2]
   simp[show b≠i from λh=>hib h.symm]
theorem cutV_blk(i:Int)(o n:List UInt8):∀v∈cutV i o n,v.2.1=i:=by
 intro v hv;obtain⟨k,_,hk⟩:=List.mem_flatMap.1 hv;unfold pieceV at hk;split at hk
 ·simp only[List.mem_singleton]at hk;subst hk;rfl
 ·cases hk
theorem TM.changed_nodup{T:TM}(ht:T.ok):T.changed.Nodup:=by
 unfold TM.changed;split
 ·exact(sortI_perm _).nodup_iff.2 ht.nod
 ·exact List.nodup_nil
theorem redo_pat{T:TM}{k:Nat}{C:Int->List UInt8}(h:Live T k C){b:Int}(hb:usableS T.P b):redoV b (C b) T.patV=T.page b:=by
 have ht:=h.up.ok;have hr:=usable_lt ht hb;unfold TM.patV;rw[redo_flat (λi=>cutV_blk i _ _) _ _ (TM.changed_nodup ht)];have hlen:(C b).length=256:=by rw[<-h.rd b hb];exact rdD_len ht.D hr.1 hr.2
 by_cases hm:b∈T.changed
 ·rw[if_pos hm,h.rd b hb]
  exact redo_cut b hlen (TM.page_len ht hb) hlen λi=>.inl rfl
 ·rw[if_neg hm]
  unfold TM.page;cases hf:T.pg.find? (·.1==b)with
  |none=>exact(h.rd b hb).symm
  |some p=>
   exfalso;have hp:=List.mem_of_find?_eq_some hf;have hpb:p.1=b:=by simpa using List.find?_some hf
   refine hm ?_;unfold TM.changed;have hbu:T.busy=true:=by
    cases hbb:T.busy with
    |true=>rfl
    |false=>rw[ht.idle hbb]at hp;cases hp
   rw[hbu,if_pos rfl];exact(sortI_perm _).symm.subset (List.mem_map.2 ⟨p,hp,hpb⟩)
theorem least{p:Nat->Prop}(h:∃i,p i):∃j,p j/\∀i,i<j->¬p i:=by
 obtain⟨i,hi⟩:=h
 induction i using Nat.strongRecOn with
 |_ i ih=>
  by_cases hx:∃j,j<i/\p j
  ·obtain⟨j,h1,h2⟩:=hx
   exact ih j h1 h2
  ·exact⟨i,hi,λj hj hp=>hx ⟨j,hj,hp⟩⟩
def Law.grow(l:Law)(ys:List Rv)(m:Nat)(C:Int->List UInt8):Law:=⟨l.S,l.R++ys,l.h+l.R.length+m,C⟩
section
variable{l:Law}{P:List Rv}{C':Int->List UInt8}
structure Fit(l:Law)(P:List Rv)(C':Int->List UInt8):Prop where
 wh:Whole l.R l.L
 U:l.U=l.h+l.R.length
 ok:∀v∈P,okV v=true/\v.1=1/\usableS l.P v.2.1
 room:(P.length:Int)+1<=4*l.n-l.R.length
 len:∀b,usableS l.P b->(C' b).length=256
 redo:∀b,usableS l.P b->redoV b (l.C b) P=C' b
variable{len:Nat}
theorem Fit.part(hf:Fit l P C')(hl:l.ok len){j:Nat}(hj:j<=P.length):(l.grow ((P++[cmt P.length]).take j) (P.length+1) l.C).ok len/\(l.grow ((P++[cmt P.length]).take j) (P.length+1) l.C).L=l.L:=by
 have hn:=hl.n1;have hroom:=hf.room;have e:(P++[cmt P.length]).take j=P.take j:=by rw[List.take_append_of_le_length hj]
 rw[e];have hL:(l.grow (P.take j) (P.length+1) l.C).L=l.L:=hf.wh.part λv hv=>let h:=hf.ok v (List.mem_of_mem_take hv);⟨h.1,h.2.1⟩;refine⟨⟨hl.S,hl.len,?_,?_,?_,?_,hl.clen,?_⟩,hL⟩
 ·show((l.R++P.take j).length:Int)<=4*l.n
  rw[List.length_append,List.length_take];omega
 ·intro v hv
  rcases List.mem_append.1 hv with h|h
  ·exact hl.rok v h
  ·exact(hf.ok v (List.mem_of_mem_take h)).1
 ·intro v hv
  rw[hL]at hv;exact hl.use v hv
 ·show l.h+l.R.length+((P.length+1:Nat):Int)<=l.h+4*l.n
  push_cast;omega
 ·intro b hb
  rw[hL];exact hl.fix b hb
theorem Fit.full(hf:Fit l P C')(hl:l.ok len):(l.grow (P++[cmt P.length]) (P.length+1) C').ok len/\(l.grow (P++[cmt P.length]) (P.length+1) C').L=l.L++P/\Whole (l.R++(P++[cmt P.length])) (l.L++P):=by
 have hn:=hl.n1;have hroom:=hf.room;have hw:Whole (l.R++(P++[cmt P.length])) (l.L++P):=hf.wh.snoc (λv hv=>let h:=hf.ok v hv;⟨h.1,h.2.1⟩) (by omega);have hL:(l.grow (P++[cmt P.length]) (P.length+1) C').L=l.L++P:=hw.eq;have hfit:fits (l.L++P):=fits_ok λv hv=>by
  rcases List.mem_append.1 hv with h|h
  ·exact hl.lok v h
  ·exact(hf.ok v h).1
 refine⟨⟨hl.S,hl.len,?_,?_,?_,?_,hf.len,?_⟩,hL,hw⟩
 ·show((l.R++(P++[cmt P.length])).length:Int)<=4*l.n
  simp only[List.length_append,List.length_singleton];omega
 ·intro v hv
  rcases List.mem_append.1 hv with h|h
  ·exact hl.rok v h
  ·rcases List.mem_append.1 h with h|h
   ·exact(hf.ok v h).1
   ·rw[List.mem_singleton]at h;subst h;exact cmt_ok (by omega)
 ·intro v hv
  rw[hL]at hv;rcases List.mem_append.1 hv with h|h
  ·exact hl.use v h
  ·exact(hf.ok v h).2.2
 ·show l.h+l.R.length+((P.length+1:Nat):Int)<=l.h+4*l.n
  push_cast;omega
 ·intro b hb
  rw[hL];show redoV b (C' b) (l.L++P)=C' b;have h1:redoV b (l.C b) (l.L++P)=C' b:=by rw[redoV_append,hl.fix b hb,hf.redo b hb]
  rw[<-h1];have hcl:=hl.clen b hb;have hc':(redoV b (l.C b) (l.L++P)).length=256:=redoV_len b _ _ hcl hfit;refine redoV_twice b _ _ hcl hfit
theorem Fit.mix(hf:Fit l P C'){D E:DM}(hl:l.ok D.blocks.length)(ha:Al D l.sector)(hlen:E.blocks.length=D.blocks.length)(hw:E.wait=[])
 (hsv:∀(b:Int) (k:Nat) (v:List UInt8),0<=b->k<4->Sv E b k v->Sv D b k v\/∃(i:Nat) (x:Rv),(P++[cmt P.length])[i]? =some x/\At l.n b k (l.h+l.R.length+i)/\v=secX (l.h+l.R.length+i) x):
 (∃l':Law,l'.ok E.blocks.length/\Al E l'.sector/\l'.S=l.S/\(l'.C=l.C\/l'.C=C'))/\
 ((∀(i:Nat) x (b:Int) (k:Nat),(P++[cmt P.length])[i]? =some x->k<4->At l.n b k (l.h+l.R.length+i)->sec (rdD E b) k=secX (l.h+l.R.length+i) x)->Al E (l.grow (P++[cmt P.length]) (P.length+1) C').sector):=by
 have hlb:=hl.lb;have hn:=hl.n1;have hR:=hl.R;have hroom:=hf.room;obtain⟨ys,hys⟩:∃ys,P++[cmt P.length]=ys:=⟨_,rfl⟩;have hyl:ys.length=P.length+1:=by rw[<-hys];simp
 have hyok:∀x∈ys,okV x=true:=λx hx=>by
  rw[<-hys]at hx;rcases List.mem_append.1 hx with h|h
  ·exact(hf.ok x h).1
  ·rw[List.mem_singleton]at h;subst h;exact cmt_ok (by omega)
 have hpart:=λj hj=>hf.part hl (j:=j) hj;have hfull:=hf.full hl;rw[hys]at hsv hfull⊢;simp only[hys]at hpart;obtain⟨t,ht⟩:∃t,l.h+(l.R.length:Int)=t:=⟨_,rfl⟩;rw[ht]at hsv⊢;have hU:l.U=t:=hf.U.trans ht;have mayT:∀i:Nat,i<ys.length->mayL (t+i):=λi hi=>by
  have:=hl.may (i:=l.R.length+i) ⟨by omega,by omega⟩;rw[<-ht];rwa[show l.h+((l.R.length:Int)+i)=l.h+l.R.length+i by omega]at this
 have step:∀(j:Nat) (Cj:Int->List UInt8),j<=ys.length->(∀(i:Nat) x (b:Int) (k:Nat),i<j->ys[i]? =some x->k<4->At l.n b k (t+i)->sec (rdD E b) k=secX (t+i) x)->
  (∀x (b:Int) (k:Nat),ys[j]? =some x->k<4->At l.n b k (t+j)->sec (rdD E b) k≠secX (t+j) x)->
  (∀b,usableS l.P b->∀(k:Nat) (v:List UInt8),k<4->l.home b k v->(l.grow (ys.take j) (P.length+1) Cj).home b k v)->Al E (l.grow (ys.take j) (P.length+1) Cj).sector:=by
  intro j Cj hj hpre hstop hhome;refine Al.quiet hw λb k h0 h1 hk=>?_;rw[hlen]at h1;have hs:=hsv b k _ h0 hk (rd_sv (D:=E) ⟨h0,by rw[hlen];exact h1⟩ k);have nolog:(b<3\/3+l.n<=b)->Sv D b k (sec (rdD E b) k):=λh=>by
   rcases hs with h2|⟨i,x,_,hat,_⟩
   ·exact h2
   ·have:=at_blk hk (by omega) hat;omega
  refine⟨λh=>?_,λh=>?_,λh h3=>?_,λh=>?_⟩
  ·have h:b=slotS l.S:=h
   have:=slot_01 l.S;exact(ha b k _ h0 h1 hk (nolog (by omega))).sup h
  ·have h:b=1-slotS l.S:=h
   have:=slot_01 l.S;exact(ha b k _ h0 h1 hk (nolog (by omega))).old h
  ·have h3:b<3+l.n:=h3
   refine⟨λi x hx hat=>?_,λhno q hq=>?_⟩
   ·have hx:(l.R++ys.take j)[i]? =some x:=hx
    have hat:At l.n b k (l.h+i):=hat;show sec (rdD E b) k=secX (l.h+i) x;by_cases hi:i<l.R.length
    ·rw[List.getElem?_append_left hi]at hx
     rcases hs with h2|⟨i',y,hy,hat',_⟩
     ·exact((ha b k _ h0 h1 hk h2).log h h3).1 i x hx hat
     ·have:=(split_at hy).2
      have:=at_one hat hat' (by omega) (by omega);omega
    ·rw[List.getElem?_append_right (by omega),List.getElem?_take]at hx
     split at hx
     ·rename_i hij
      have e:l.h+(i:Int)=t+((i-l.R.length:Nat):Int):=by omega
      rw[e]at hat⊢;exact hpre _ x b k hij hx hk hat
     ·cases hx
   ·show q<l.h+l.R.length+((P.length+1:Nat):Int)/\q≠l.h+((l.R++ys.take j).length:Nat)
    have hll:(l.R++ys.take j).length=l.R.length+j:=by rw[List.length_append,List.length_take];omega
    rw[hll];have hno1:∀i:Nat,i<l.R.length->¬At l.n b k (l.h+i):=λi hi=>hno i (by show i<(l.R++ys.take j).length;omega);rcases hs with h2|⟨i',y,hy,hat',hv⟩
    ·have h4:=((ha b k _ h0 h1 hk h2).log h h3).2 hno1 q hq
     refine⟨?_,by omega⟩;show q<l.h+l.R.length+((P.length+1:Nat):Int);omega
    ·have hi':=(split_at hy).2
     rw[hv]at hq;have h5:=rec_back (mayT i' hi') (hyok y (List.mem_of_getElem? hy));have h6:=take_one hq (by rw[h5]);refine⟨?_,λh7=>?_⟩
     ·show q<l.h+l.R.length+((P.length+1:Nat):Int)
      omega
     ·have:i'=j:=by omega
      subst this;exact hstop y b k hy hk hat' hv
  ·have h:usableS l.P b:=h
   have h2:=usable_hi hl h;exact hhome b h k _ hk ((ha b k _ h0 h1 hk (nolog (by omega))).home h)
 have hP:fits P:=fits_ok λv hv=>(hf.ok v hv).1;have hfullHome:∀b,usableS l.P b->∀(k:Nat) (v:List UInt8),k<4->l.home b k v->(l.grow (ys.take ys.length) (P.length+1) C').home b k v:=λb hb k v hk hv=>by
  rw[List.take_length];refine⟨hv.1,λo ho=>?_⟩;rw[hfull.2.1];rcases hv.2 o ho with⟨u,hu,h⟩|h
  ·exact .inl ⟨u,List.mem_append_left _ hu,h⟩
  ·by_cases hc:cov b P (64*k+o)
   ·obtain⟨u,hu,h⟩:=hc
    exact .inl ⟨u,List.mem_append_right _ hu,h⟩
   ·refine .inr ?_
    show v[o]? =(C' b)[64*k+o]?;rw[<-hf.redo b hb,redoV_out b _ P _ (hl.clen b hb) hP hc];exact h
 have hfullAl:(∀(i:Nat) x (b:Int) (k:Nat),ys[i]? =some x->k<4->At l.n b k (t+i)->sec (rdD E b) k=secX (t+i) x)->Al E (l.grow ys (P.length+1) C').sector:=λh=>by
  have:=step ys.length C' (Nat.le_refl _) (λi x b k _=>h i x b k) (λx b k hx=>by simp at hx) hfullHome;rwa[List.take_length]at this
 refine⟨?_,hfullAl⟩;by_cases hall:∀(i:Nat) x (b:Int) (k:Nat),ys[i]? =some x->k<4->At l.n b k (t+i)->sec (rdD E b) k=secX (t+i) x
 ·exact⟨_,by rw[hlen];exact hfull.1,hfullAl hall,rfl,.inr rfl⟩
 ·have hex:∃i:Nat,¬∀x (b:Int) (k:Nat),ys[i]? =some x->k<4->At l.n b k (t+i)->sec (rdD E b) k=secX (t+i) x:=Classical.not_forall.1 hall
  obtain⟨j,hj,hmin⟩:∃j:Nat,(¬∀x (b:Int) (k:Nat),ys[j]? =some x->k<4->At l.n b k (t+j)->sec (rdD E b) k=secX (t+j) x)/\∀i,i<j->∀x (b:Int) (k:Nat),ys[i]? =some x->k<4->At l.n b k (t+i)->sec (rdD E b) k=secX (t+i) x:=by
   obtain⟨j,h1,h2⟩:=least hex;exact⟨j,h1,λi hi=>Classical.not_not.1 (h2 i hi)⟩
  have hj2:∃x0 b0 k0,ys[j]? =some x0/\k0<4/\At l.n b0 k0 (t+j)/\sec (rdD E b0) k0≠secX (t+j) x0:=by
   refine Classical.byContradiction λhn=>hj λx b k h1 h2 h3=>Classical.byContradiction λh4=>hn ⟨x,b,k,h1,h2,h3,h4⟩
  obtain⟨x0,b0,k0,e1,e2,e3,e4⟩:=hj2;have hjl:=(split_at e1).2;have hp:=hpart j (by omega);refine⟨_,by rw[hlen];exact hp.1,step j l.C (by omega) (λi x b k hi=>hmin i hi x b k) (λx b k hx hk hat=>?_) (λb hb k v hk hv=>⟨hv.1,λo ho=>?_⟩),rfl,.inl rfl⟩
  ·rw[e1]at hx;cases hx
   obtain⟨h1,h2⟩:=(at_iff hk).1 hat;obtain⟨h3,h4⟩:=(at_iff e2).1 e3;have hb:b=b0:=h1.trans h3.symm;have hkk:k=k0:=by omega
   subst hb hkk;exact e4
  ·rw[hp.2]
   exact hv.2 o ho
end
theorem law_len{l:Law}{n m:Nat}(h:l.ok n)(e:m=n):l.ok m:=e▸h
theorem Law.congr{l:Law}{len:Nat}{C:Int->List UInt8}(hl:l.ok len)(h:∀b,usableS l.P b->C b=l.C b):({l with C:=C}:Law).ok len/\∀b k v,l.sector b k v->({l with C:=C}:Law).sector b k v:=
 ⟨⟨hl.S,hl.len,hl.R,hl.rok,hl.use,hl.U,λb hb=>by show(C b).length=256;rw[h b hb];exact hl.clen b hb,λb hb=>by show redoV b (C b) l.L=C b;rw[h b hb];exact hl.fix b hb⟩,
  λb k v hv=>⟨hv.sup,hv.old,hv.log,λhb=>⟨(hv.home hb).1,λo ho=>by show _\/v[o]? =(C b)[64*k+o]?;rw[h b hb];exact(hv.home hb).2 o ho⟩⟩⟩
theorem Live.congr{T:TM}{k:Nat}{C C':Int->List UInt8}(h:Live T k C)(hc:∀b,usableS T.P b->C' b=C b):Live T k C':=by
 have h1:=Law.congr h.ok (C:=C') λb hb=>hc b (by rw[<-h.plan];exact hb);exact⟨h.up,h1.1,h.al.mono h1.2,h.wh,λb hb=>by rw[h.rd b hb,hc b hb],h.few⟩
theorem Live.part{T T':TM}{k:Nat}{C:Int->List UInt8}(h:Live T k C)(hu:T'.up)(hb:T'.D.blocks=T.D.blocks)(hw:T'.D.wait=T.D.wait)(hS:T'.S=T.S)(hR:T'.R=T.R)(hP:T'.P=T.P):Live T' k C:=by
 have e:T'.law C=T.law C:=by unfold TM.law TM.h;rw[hS,hR]
 refine⟨hu,by rw[e,hb];exact h.ok,by rw[e];exact h.al.same hb hw,by rw[e,hR];exact h.wh,λb hbb=>by rw[rd_same hb hw];exact h.rd b (by rw[<-hP];exact hbb),by rw[hS];exact h.few⟩
theorem TM.ends_up{T:TM}(h:T.up):T.ends.up:=⟨⟨h.ok.D,h.ok.P,h.ok.g,h.ok.len,h.ok.h,h.ok.R,h.ok.ok,List.nodup_nil,(λp hp=>by cases hp),λ_=>rfl⟩,h.dead,h.off⟩
theorem Live.ends{T:TM}{k:Nat}{C:Int->List UInt8}(h:Live T k C):Live T.ends k C:=h.part (TM.ends_up h.up) rfl rfl rfl rfl rfl
theorem live_cpt{T:TM}{k M:Nat}{C:Int->List UInt8}(h:Live T k C)(hk:k<=1000000000)(hD:DB M T.D):
 (T.cpt.1=0/\Live T.cpt.2 (k+1) C/\T.cpt.2.R=[])\/(T.cpt.1=5/\T.cpt.2.dead=true/\T.cpt.2.D.off=true/\T.cpt.2.D.wait=[]/\Good T.cpt.2.D (supG T.S) (k+1) C):=by
 obtain⟨hc1,hdg,hpg,hP,_,hg⟩:=cpt_cases h.up hD;have ht:=h.up.ok;have hn:=ht.n1;have hR:=ht.R;have hh:=ht.h;have hf:=h.few;have e1:T.h=T.S.2.2.2.2.2:=rfl;revert hc1 hdg hpg hP hg;unfold TM.cpt;by_cases h0:T.R=[]
 ·rw[if_pos h0]
  exact λ_ _ _ _ _=>.inl ⟨rfl,h.mono (by omega),h0⟩
 rw[if_neg h0];have hfg:=flushD_dg hD;have hal:=h.al.flush hD;rcases flush_cases ht.D h.up.off with⟨f1,f2,f3,f4⟩|⟨f1,f2,f3⟩
 rotate_left
 ·rw[if_pos (by rw[f1];decide)]
  intro _ _ _ _ _;refine .inr ⟨f1,by rw[f1];show(T.dead||_)=true;simp,f2,f3,Good.mono ?_ (Nat.le_succ k)⟩;exact⟨T.law C,law_len h.ok hfg.len,hal,rfl,hf,rfl⟩
 rw[if_neg (not_not_intro f1)];have hsu:=h.ok.S;have hne:nextE T.S (T.h+T.R.length)=0:=by
  unfold nextE;rw[if_neg (not_not_intro hsu),if_neg (by have:=hf.2;omega),if_neg (by have:=hf.1;omega)]
 have hS:nextS T.S (T.h+T.R.length)=((T.S.1+1,T.S.2.1,T.S.2.2.1,T.S.2.2.2.1,T.S.2.2.2.2.1,T.h+T.R.length),0):=by unfold nextS;rw[if_pos hne]
 rw[if_neg (not_not_intro (by rw[hS]))];obtain⟨S',hS'⟩:∃S',(nextS T.S (T.h+T.R.length)).1=S':=⟨_,rfl⟩;have hS2:S'=(T.S.1+1,T.S.2.1,T.S.2.2.1,T.S.2.2.2.1,T.S.2.2.2.2.1,T.h+T.R.length):=by rw[<-hS',hS]
 rw[hS'];have hsE:supE S'=0:=by
  obtain⟨g0,k1,k2,k3,k4⟩:=supE_ok hsu;have:=hf.1;have:=hf.2;have k1:1<=T.S.1:=k1;rw[hS2,supE_g (s:=(T.S.1+1,T.S.2.1,T.S.2.2.1,T.S.2.2.2.1,T.S.2.2.2.2.1,T.h+T.R.length)) g0,if_pos];exact⟨by dsimp only;omega,by dsimp only;omega,by dsimp only;omega,by dsimp only;omega⟩
 have hx:Nx (T.law C) S':=⟨hsE,by rw[hS2],by rw[hS2],by rw[hS2];exact Int.le_refl _,by rw[hS2];exact Int.le_refl _⟩;have hl2:(T.law C).ok (flushD T.D).2.blocks.length:=by rw[show(flushD T.D).2.blocks.length=T.D.blocks.length from hfg.len];exact h.ok
 have hfew:few S' (k+1):=by
  have:=hf.1;have:=hf.2;rw[hS2];exact⟨by show T.S.1+1<=_;push_cast;omega,by show T.h+T.R.length<=_;push_cast;omega⟩
 have hrd:∀b,usableS (T.law C).P b->rdD (flushD T.D).2 b=(T.law C).C b:=λb hb=>by
  rw[h.plan]at hb;rw[f4 b (usable_lt ht hb).1];exact h.rd b hb
 have hng:=noteD_dg hfg.db S';have hno:=note_ok hl2 hfg.db f2 f3 hal hrd hx;have hZl:(noteD (flushD T.D).2 S').2.blocks.length=T.D.blocks.length:=hng.len.trans hfg.len;generalize noteD (flushD T.D).2 S'=Z at hno hng hZl⊢;rcases hno with⟨n1,n2,n3,n4,n5⟩|⟨n1,n2,n3,n4⟩
 ·rw[if_neg (not_not_intro n1)]
  intro hc1 _ _ _ _;have hup:({T with D:=Z.2,S:=S',R:=[]}:TM).up:=by
   rcases hc1 with⟨_,h⟩|⟨h,_⟩|⟨h,_⟩
   ·exact h
   ·cases h
   ·cases h
  have el:({T with D:=Z.2,S:=S',R:=[]}:TM).law C=(T.law C).nx S':=by
   unfold TM.law Law.nx TM.h;simp
  refine .inl ⟨rfl,⟨hup,by rw[el,hZl];exact hx.ok h.ok,by rw[el];exact n4,whole_nil,λb hb=>?_,hfew⟩,rfl⟩;show rdD Z.2 b=C b;have hu:usableS T.P b:=hb;have hu2:usableS (T.law C).P b:=by rw[h.plan];exact hu
  rw[n5 b (ht.us hu).1,hrd b hu2]
 ·rw[if_pos (by rw[n1];decide)]
  intro _ _ _ _ _;refine .inr ⟨n1,by rw[n1];show(T.dead||_)=true;simp,n2,n3,?_⟩;rcases n4 with n4|n4
  ·exact Good.mono ⟨T.law C,law_len h.ok hZl,n4,rfl,hf,rfl⟩ (Nat.le_succ k)
  ·exact⟨(T.law C).nx S',law_len (hx.ok h.ok) hZl,n4,hx.g,hfew,rfl⟩
theorem live_app{T:TM}{k M:Nat}{C C':Int->List UInt8}{P:List Rv}(h:Live T k C)(hk:k<=1000000000)(hD:DB M T.D)(hf:Fit (T.law C) P C'):
 ((T.app (P++[cmt P.length])).1=0/\(T.app (P++[cmt P.length])).2.up/\Al (T.app (P++[cmt P.length])).2.D (((T.app (P++[cmt P.length])).2).law C').sector/\(((T.app (P++[cmt P.length])).2).law C').ok T.D.blocks.length/\Whole (T.app (P++[cmt P.length])).2.R ((((T.app (P++[cmt P.length])).2).law C').L)/\
   ∀b,usableS T.P b->rdD (T.app (P++[cmt P.length])).2.D b=C b)\/
 ((T.app (P++[cmt P.length])).1=5/\(T.app (P++[cmt P.length])).2.D.off=true/\(T.app (P++[cmt P.length])).2.D.wait=[]/\(Good (T.app (P++[cmt P.length])).2.D (supG T.S) k C\/Good (T.app (P++[cmt P.length])).2.D (supG T.S) k C')):=by
 have ht:=h.up.ok;have hn:=ht.n1;have hlb:=ht.lb;have hR:=ht.R;have hh:=ht.h;have hfew:=h.few;have e1:T.h=T.S.2.2.2.2.2:=rfl;have hroom:(P.length:Int)+1<=4*T.n-T.R.length:=hf.room;obtain⟨ys,hys⟩:∃ys,P++[cmt P.length]=ys:=⟨_,rfl⟩;have hyl:ys.length=P.length+1:=by rw[<-hys];simp
 have hyok:∀x∈ys,okV x=true:=λx hx=>by
  rw[<-hys]at hx;rcases List.mem_append.1 hx with h|h
  ·exact(hf.ok x h).1
  ·rw[List.mem_singleton]at h;subst h;exact cmt_ok (by omega)
 have hmix:=λ(E:DM)=>hf.mix (D:=T.D) (E:=E) h.ok h.al;have hfull:=hf.full h.ok;obtain⟨ha1,hag,hapg,haP,hab,haS⟩:=app_cases h.up hD ys;obtain⟨hcs,hdg⟩:=appX_cases (D:=T.D) (N:=M) (n:=T.n) (h:=T.h) (R:=T.R) (ys:=ys) hD h.up.off ⟨by omega,by omega⟩ hh.1;rw[hys]at hmix hfull⊢;have hAp:Ap T.n T.D (appX T.D 3 T.n T.h T.R ys).2 (T.h+T.R.length) ys (appX T.D 3 T.n T.h T.R ys).1:=by
  rcases hcs with⟨h1,_⟩|⟨h1,_⟩
  ·exact h1
  ·exfalso
   have hall:ys.all okV=true:=by rw[List.all_eq_true];exact hyok
   have:=hfew.2;have hX:appX T.D 3 T.n T.h T.R ys=appD T.n 3 ys.length T.D (T.h+T.R.length) ys:=by
    unfold appX;rw[if_neg (by rw[hall];decide),if_neg (by omega),if_neg (by omega)]
   have h2:=(appD_ap (n:=T.n) (N0:=T.D.blocks.length) ⟨by omega,by omega⟩ ys.length T.D (T.h+T.R.length) ys M hD rfl h.up.off (Nat.le_refl _) λi x hx=>rec_ok.2 ⟨by
    have:=(split_at hx).2;unfold mayL;omega,hyok x (List.mem_of_getElem? hx)⟩).1.res
   rw[hX]at h1;rcases h2 with h2|h2<;>rcases h1 with h1|h1|h1<;>omega
 have hsvA:∀(b:Int) (k:Nat) (v:List UInt8),0<=b->k<4->Sv (appX T.D 3 T.n T.h T.R ys).2 b k v->Sv T.D b k v\/∃(i:Nat) (x:Rv),ys[i]? =some x/\At T.n b k (T.h+T.R.length+i)/\v=secX (T.h+T.R.length+i) x:=hAp.sv;revert ha1 hag hapg haP hab haS;unfold TM.app;dsimp only;generalize appX T.D 3 T.n T.h T.R ys=A at hAp hsvA hdg⊢;have gd:∀{E:DM},E.blocks.length=T.D.blocks.length->E.wait=[]->(∀(b:Int) (k:Nat) (v:List UInt8),0<=b->k<4->Sv E b k v->Sv A.2 b k v)->Good E (supG T.S) k C\/Good E (supG T.S) k C':=λ{E} hl hw hE=>by
  obtain⟨⟨l',g1,g2,g3,g4⟩,_⟩:=hmix E hl hw λb k v h0 hk hs=>hsvA b k v h0 hk (hE b k v h0 hk hs);rcases g4 with g4|g4
  ·exact .inl ⟨l',g1,g2,by rw[g3],by rw[g3];exact hfew,g4⟩
  ·exact .inr ⟨l',g1,g2,by rw[g3],by rw[g3];exact hfew,g4⟩
 rcases hAp.res with⟨a0,a1,a2⟩|⟨a0,a1,a2⟩
 rotate_left
 ·rw[if_neg (by rw[a0];decide),if_neg (by rw[a0];decide)]
  intro _ _ _ _ _ _;exact .inr ⟨a0,a1,a2,gd hdg.len a2 λ_ _ _ _ _ h=>h⟩
 rw[if_pos a0];have hfg:=flushD_dg hdg.db;have hl2:=hfg.len.trans hdg.len;have hsf:∀(b:Int) (k:Nat) (v:List UInt8),0<=b->k<4->Sv (flushD A.2).2 b k v->Sv A.2 b k v:=λb k v h0 hk h=>flush_sv hdg.db.ok h0 hk h;rcases flush_cases hdg.db.ok a1 with⟨f1,f2,f3,f4⟩|⟨f1,f2,f3⟩
 rotate_left
 ·intro _ _ _ _ _ _
  exact .inr ⟨f1,f2,f3,gd hl2 f3 hsf⟩
 rw[f1,TM.told0];intro ha1 _ _ _ _ _;have hup:({T with D:=(flushD A.2).2,R:=T.R++ys}:TM).up:=by
  rcases ha1 with h|h|h
  ·exact h.2.1
  ·exact absurd rfl h.1
  ·exact absurd h.1 (by decide)
 have el:({T with D:=(flushD A.2).2,R:=T.R++ys}:TM).law C'=(T.law C).grow ys (P.length+1) C':=by
  refine congrArg (λu=>(⟨T.S,T.R++ys,u,C'⟩:Law)) ?_;show T.h+((T.R++ys).length:Int)=T.h+T.R.length+((P.length+1:Nat):Int);rw[List.length_append]
  push_cast
  omega
 obtain⟨_,hAl⟩:=hmix _ hl2 f3 λb k v h0 hk hs=>hsvA b k v h0 hk (hsf b k v h0 hk hs);refine .inl ⟨rfl,hup,?_,by rw[el];exact hfull.1,by rw[el,hfull.2.1];exact hfull.2.2,λb hb=>?_⟩
 ·rw[el]
  refine hAl λi x b k hx hk hat=>?_;have hat:At T.n b k (T.h+T.R.length+i):=hat;have hb:=at_blk hk (by omega) hat;show sec (rdD (flushD A.2).2 b) k=secX (T.h+T.R.length+i) x;rw[f4 b (by omega)];rcases a2 b k (by omega) hk with⟨_,h2⟩|⟨i',y,h2,h3,h4⟩
  ·exact absurd hat (h2 i (split_at hx).2)
  ·have:=(split_at hx).2
   have:=(split_at h2).2;have h5:=at_one hat h3 (by omega) (by omega);have h6:i=i':=by omega
   subst h6;rw[hx]at h2;cases h2;exact h4
 ·show rdD (flushD A.2).2 b=C b
  have hu:=usable_lt ht hb;rw[f4 b hu.1];have:=hAp;rw[a0]at this;rw[this.rd ht.D hdg.db.ok hdg.len (by omega) hu (by have:=ht.us hb;omega)];exact h.rd b hb
theorem live_home{l:Law}{f:Int->List UInt8}{len:Nat}(hl:l.ok len):∀(ks:List Int) (D:DM) (N:Nat),(∀k∈ks,usableS l.P k/\f k=l.C k)->DB N D->D.blocks.length=len->D.off=false->Al D l.sector->
 ((On (homeD f ks D)/\Al (homeD f ks D).2 l.sector/\∀b,rdD (homeD f ks D).2 b=if b∈ks then l.C b else rdD D b)\/(Off (homeD f ks D)/\Al (homeD f ks D).2 l.sector))/\DG D (homeD f ks D).2 N (2*ks.length)
 |[],D,N,_,hD,_,ho,ha=>⟨.inl ⟨⟨rfl,ho⟩,ha,λb=>by simp[homeD]⟩,.refl hD _⟩
 |k::ks,D,N,hu,hD,hlen,ho,ha=>by
  subst hlen;obtain⟨hk,hfk⟩:=hu k (by simp);have hr:=hl.ub hk;have hal:=ha.write hD.ok hD.bd (i:=k) (l:=f k) (home_ok hl hk hfk (D:=D) rfl);have hg:=writeD_dg hD k (f k);rw[homeD];rcases write_cases hD.ok ho hr (show(f k).length=256 by rw[hfk];exact hl.clen k hk)with⟨w1,w2,w3⟩|⟨w1,w2,w3⟩
  ·rw[if_neg (not_not_intro w1)]
   obtain⟨h1,h2⟩:=live_home hl ks _ (N+2) (λj hj=>hu j (by simp[hj])) hg.db hg.len w2 hal;refine⟨?_,(hg.trans h2).mono (by rw[List.length_cons];omega)⟩;rcases h1 with⟨h1,h2,h3⟩|h1
   ·refine .inl ⟨h1,h2,λb=>?_⟩
    rw[h3 b,w3];by_cases hbk:b=k
    ·subst hbk
     simp[hfk]
    ·simp[hbk,show¬k=b from λh=>hbk h.symm]
   ·exact .inr h1
  ·rw[if_pos (by rw[w1];decide)]
   exact⟨.inr ⟨⟨w1,w2,w3⟩,hal⟩,hg.mono (by rw[List.length_cons];omega)⟩
theorem page_pg{T T':TM}{b:Int}(h:T'.pg=T.pg)(hb:∃p∈T.pg,p.1=b):T'.page b=T.page b:=by
 obtain⟨p,hp,rfl⟩:=hb;unfold TM.page;rw[h];cases hf:T.pg.find? (·.1==p.1)with
 |some q=>rfl
 |none=>
  rw[List.find?_eq_none]at hf;exact absurd (by simp) (hf p hp)
theorem live_commit{T:TM}{k M:Nat}{C:Int->List UInt8}(h:Live T k C)(hk:k<=100000000)(hD:DB M T.D)(hb:T.busy=true):
 ((T.commit.1=0/\Live T.commit.2 (k+1) T.page/\T.commit.2.busy=false)\/
  (T.commit.1=101/\T.commit.2=T.ends/\4*T.n<=T.patV.length)\/
  (T.commit.1=5/\T.commit.2.D.off=true/\T.commit.2.D.wait=[]/\(Good T.commit.2.D (supG T.S) (k+1) C\/Good T.commit.2.D (supG T.S) (k+1) T.page)))/\
 DG T.D T.commit.2.D M 4200/\supG T.commit.2.S=supG T.S:=by
 have ht:=h.up.ok;have hn:=ht.n1;have hmay:mayE T.dead T.D=0:=by unfold mayE;rw[h.up.dead,h.up.off];rfl
 have hP:=λv hv=>patV_mem ht (v:=v) hv;have hpat:=λb hb=>redo_pat h (b:=b) hb;unfold TM.commit;rw[if_neg (not_not_intro hmay),if_neg (by rw[hb];decide)];generalize hV:T.patV=V at hP hpat⊢;dsimp only;by_cases h0:V.length=0
 ·rw[if_pos h0]
  have:V=[]:=List.eq_nil_of_length_eq_zero h0;subst this;exact⟨.inl ⟨rfl,(h.ends.congr λb hbu=>(hpat b hbu).symm).mono (by omega),rfl⟩,.refl hD _,rfl⟩
 rw[if_neg h0];by_cases h1:(V.length:Int)>=4*T.n
 ·rw[if_pos h1]
  exact⟨.inr (.inl ⟨rfl,rfl,by omega⟩),.refl hD _,rfl⟩
 rw[if_neg h1];obtain⟨X,hX⟩:∃X,(if(V.length:Int)+1>4*T.n-T.R.length then T.cpt else(0,T))=X:=⟨_,rfl⟩;rw[hX];have hXc:((X.1=0/\Live X.2 (k+1) C/\(V.length:Int)+1<=4*T.n-X.2.R.length)\/(X.1=5/\X.2.D.off=true/\X.2.D.wait=[]/\Good X.2.D (supG T.S) (k+1) C))/\DG T.D X.2.D M 4/\X.2.pg=T.pg/\X.2.P=T.P/\supG X.2.S=supG T.S:=by
  rw[<-hX];split
  ·obtain⟨h2,h3,h4,h5,_,h6⟩:=cpt_cases h.up hD
   refine⟨?_,h3,h4,h5,h6⟩;rcases live_cpt h (by omega) hD with⟨c1,c2,c3⟩|⟨c1,_,c2⟩
   ·exact .inl ⟨c1,c2,by rw[c3];simp;omega⟩
   ·exact .inr ⟨c1,c2⟩
  ·exact⟨.inl ⟨rfl,h.mono (by omega),by show _<=4*T.n-(T.R.length:Int);omega⟩,.refl hD _,rfl,rfl,rfl⟩
 clear hX;obtain⟨hX1,hXd,hXpg,hXP,hXg⟩:=hXc;rcases hX1 with⟨x0,xl,xr⟩|⟨x5,x6,x7,x8⟩
 rotate_left
 ·rw[if_pos (by rw[x5];decide)]
  exact⟨.inr (.inr ⟨x5,x6,x7,.inl x8⟩),hXd.mono (by omega),hXg⟩
 rw[if_neg (not_not_intro x0)];have hnX:X.2.n=T.n:=congrArg (·.2.1) hXg;have hpl:=xl.plan;rw[hXP]at hpl;have hf:Fit (X.2.law C) V T.page:=by
  refine⟨xl.wh,rfl,λv hv=>?_,?_,λb hbu=>?_,λb hbu=>?_⟩
  ·obtain⟨p1,p2,p,hp,hpv⟩:=hP v hv
   exact⟨p1,p2,by rw[hpl,<-hpv];exact(ht.pg p hp).1⟩
  ·show(V.length:Int)+1<=4*X.2.n-X.2.R.length
   rw[hnX];exact xr
  ·rw[hpl]at hbu;exact TM.page_len ht hbu
  ·rw[hpl]at hbu;exact hpat b hbu
 obtain⟨_,hag,hapg,haP,_,haS⟩:=app_cases xl.up hXd.db (V++[cmt V.length]);have hla:=live_app xl (by omega) hXd.db hf;have hal:(V++[cmt V.length]).length=V.length+1:=by simp
 rw[hal]at hag;generalize X.2.app (V++[cmt V.length])=A at hag hapg haP haS hla⊢;have hdA:=(hXd.trans hag);rcases hla with⟨a0,a1,a2,a3,a4,a5⟩|⟨a5,a6,a7,a8⟩
 rotate_left
 ·rw[if_pos (by rw[a5];decide)]
  refine⟨.inr (.inr ⟨a5,a6,a7,?_⟩),hdA.mono (by omega),by show supG A.2.S=_;rw[haS];exact hXg⟩;rw[hXg]at a8;exact a8
 rw[if_neg (not_not_intro a0)];have hks:∀b∈blocksV V,usableS (A.2.law T.page).P b/\A.2.page b=(A.2.law T.page).C b:=λb hbk=>by
  obtain⟨v,hv,_,rfl⟩:=mem_setB.1 ((sortI_perm _).subset hbk);obtain⟨_,_,p,hp,hpv⟩:=hP v hv;refine⟨?_,page_pg (hapg.trans hXpg) ⟨p,hp,hpv⟩⟩;have:(A.2.law T.page).P=T.P:=by
   show planT (supG A.2.S)=T.P;rw[haS,hXg,ht.P,(ofG_ok ht.g).2.2.2]
  rw[this,<-hpv];exact(ht.pg p hp).1
 have hkl:(blocksV V).length<=V.length:=by
  unfold blocksV;rw[(sortI_perm _).length_eq];exact setB_len V
 have hlenA:A.2.D.blocks.length=T.D.blocks.length:=hdA.len;obtain⟨hh,hhg⟩:=live_home a3 (blocksV V) A.2.D _ hks hdA.db (hlenA.trans hXd.len.symm) a1.off a2;generalize homeD A.2.page (blocksV V) A.2.D=H at hh hhg⊢;have hdg:=(hdA.trans hhg).mono (K:=4200) (by omega);have hHl:H.2.blocks.length=X.2.D.blocks.length:=(hhg.len.trans hlenA).trans hXd.len.symm;refine⟨?_,hdg,by show supG A.2.S=_;rw[haS];exact hXg⟩;rcases hh with⟨⟨g1,g2⟩,g3,g4⟩|⟨⟨g1,g2,g3⟩,g4⟩
 ·rw[g1,TM.told0]
  have hup:({A.2 with D:=H.2}:TM).up:=⟨a1.ok.toD hdg.db.ok (hHl.trans (hXd.len.trans hlenA.symm)),a1.dead,g2⟩;have hlv:Live ({A.2 with D:=H.2}:TM) (k+1) T.page:=by
   refine⟨hup,law_len a3 hHl,g3,a4,λb hbu=>?_,by show few A.2.S _;rw[haS];exact xl.few⟩;have hbu:usableS T.P b:=by rw[<-hXP,<-haP];exact hbu
   show rdD H.2 b=T.page b;rw[g4 b];by_cases hm:b∈blocksV V
   ·rw[if_pos hm]
   ·rw[if_neg hm,a5 b (by rw[hXP];exact hbu),<-hpat b hbu,redoV_other b V _ (λv hv=>(hP v hv).1) hm]
  exact .inl ⟨rfl,hlv.ends,rfl⟩
 ·refine .inr (.inr ⟨g1,g2,g3,.inr ⟨A.2.law T.page,law_len a3 hHl,g4,by show supG A.2.S=_;rw[haS];exact hXg,by show few A.2.S _;rw[haS];exact xl.few,rfl⟩⟩)
def C0(D:DM):Prop:=D.armed=0/\D.off=false
theorem C0.goes{D:DM}(h:C0 D):(goesD D).1=false/\C0 (goesD D).2:=by
 unfold goesD;rw[if_pos h.1];exact⟨rfl,h.1,h.2⟩
theorem C0.write{D:DM}(h:C0 D)(i:Int)(l:List UInt8):C0 (writeD D i l).2:=by
 unfold writeD;split
 ·exact h
 ·split
  ·exact h
  ·exact(C0.goes (D:=addW D i l) h).2
theorem C0.flush{D:DM}(h:C0 D):C0 (flushD D).2/\(flushD D).1=0:=by
 unfold flushD;have hg:=h.goes;rw[h.2,if_neg (by decide),hg.1,if_neg (by decide)];exact⟨hg.2,rfl⟩
structure Inv(Q:DM->Prop):Prop where
 write:∀{D:DM},Q D->∀i l,Q (writeD D i l).2
 flush:∀{D:DM},Q D->Q (flushD D).2
section
variable{Q:DM->Prop}(v:Inv Q)
include v
theorem Inv.note{D:DM}(h:Q D)(S:Sup):Q (noteD D S).2:=by
 unfold noteD;split
 ·exact h
 ·split
  ·exact v.write h _ _
  ·exact v.flush (v.write h _ _)
theorem Inv.layD{D:DM}(h:Q D)(n b q:Int)(xs:List Rv):Q (layD D n b q xs).2:=by
 unfold Go.Proofs.layD;split
 ·exact h
 ·split
  ·exact h
  ·exact v.write h _ _
theorem Inv.appD{n st:Int}:∀(f:Nat) {D:DM} (_:Q D) (q:Int) (ys:List Rv),Q (appD n st f D q ys).2
 |0,D,h,_,_=>h
 |f+1,D,h,q,ys=>by
  rw[Go.Proofs.appD];split
  ·exact h
  ·split
   ·exact v.layD h _ _ _ _
   ·exact Inv.appD f (v.layD h _ _ _ _) _ _
theorem Inv.appX{D:DM}(h:Q D)(st n hh:Int)(R ys:List Rv):Q (appX D st n hh R ys).2:=by
 unfold Go.Proofs.appX;split
 ·exact h
 ·split
  ·exact h
  ·split
   ·exact h
   ·exact v.appD _ h _ _
theorem Inv.home{f:Int->List UInt8}:∀(ks:List Int) {D:DM} (_:Q D),Q (homeD f ks D).2
 |[],_,h=>h
 |k::ks,D,h=>by
  rw[homeD];split
  ·exact v.write h _ _
  ·exact Inv.home ks (v.write h _ _)
theorem Inv.redo{vs:List Rv}:∀(ks:List Int) {D:DM} (_:Q D),Q (redoB vs ks D).2
 |[],_,h=>v.flush h
 |k::ks,D,h=>by
  rw[redoB];split
  ·exact h
  ·split
   ·exact h
   ·split
    ·exact Inv.redo ks h
    ·split
     ·exact v.write h _ _
     ·exact Inv.redo ks (v.write h _ _)
theorem Inv.cpt{T:TM}(h:Q T.D):Q T.cpt.2.D:=by
 unfold TM.cpt;split
 ·exact h
 ·split
  ·exact v.flush h
  ·split
   ·exact v.flush h
   ·split
    ·exact v.note (v.flush h) _
    ·exact v.note (v.flush h) _
theorem Inv.app{T:TM}(h:Q T.D)(ys:List Rv):Q (T.app ys).2.D:=by
 unfold TM.app;dsimp only;split
 ·exact v.flush (v.appX h _ _ _ _ _)
 ·split
  ·exact v.appX h _ _ _ _ _
  ·exact v.appX h _ _ _ _ _
theorem Inv.commit{T:TM}(h:Q T.D):Q T.commit.2.D:=by
 have hX:Q (if(T.patV.length:Int)+1>4*T.n-T.R.length then T.cpt else(0,T)).2.D:=by
  split
  ·exact v.cpt h
  ·exact h
 unfold TM.commit;split
 ·exact h
 ·split
  ·exact h
  ·split
   ·exact h
   ·split
    ·exact h
    ·dsimp only
     generalize(if(T.patV.length:Int)+1>4*T.n-T.R.length then T.cpt else(0,T))=X at hX⊢;split
     ·exact hX
     ·split
      ·exact v.app hX _
      ·exact v.home _ (v.app hX _)
theorem Inv.openT{D:DM}(h:Q D):Q (openT D).2:=by
 unfold Go.Proofs.openT;dsimp only;split
 ·exact h
 ·split
  ·exact h
  ·split
   ·exact h
   ·split
    ·exact h
    ·split
     ·exact h
     ·split
      ·exact h
      ·split
       ·exact v.redo _ h
       ·exact v.note (v.redo _ h) _
end
theorem C0.inv:Inv C0:=⟨λh i l=>h.write i l,λh=>h.flush.1⟩
theorem C0.note{D:DM}(h:C0 D)(S:Sup):C0 (noteD D S).2:=C0.inv.note h S
theorem C0.commit{T:TM}(h:C0 T.D):C0 T.commit.2.D:=C0.inv.commit h
theorem C0.openT{D:DM}(h:C0 D):C0 (openT D).2:=C0.inv.openT h
theorem C0.on{r:Int×DM}(h:C0 r.2):¬Off r:=λh'=>by have:=h.2;rw[h'.2.1]at this;cases this
def T0(D:DM):TM:=⟨(openT D).2,(lapS (chosenS D).1 ((chosenS D).1.2.2.2.2.2+(scanO D 3 (chosenS D).1.2.2.1 (chosenS D).1.2.2.2.2.2).length)).1,(ofG (supG (chosenS D).1)).1,false,false,[],[]⟩
theorem live_open{D:DM}{N k:Nat}{g:Geo}{C:Int->List UInt8}(h:Good D g k C)(hD:DB N D)(ho:D.off=false)(hk:k<=100000000):
 ((On (openT D)/\(openT D).2.wait=[]/\Live (T0 D) (k+1) C/\supG (T0 D).S=g)\/(Off (openT D)/\Good (openT D).2 g (k+1) C))/\DG D (openT D).2 N 2060:=by
 obtain⟨l,hl,ha,hg,hf,rfl⟩:=h;have hf1:=hf.1;have hf2:=hf.2;have e1:l.h=l.S.2.2.2.2.2:=rfl;obtain⟨hx,hx0,hxh⟩:=up_ok hl (by omega) (by omega);obtain⟨ho1,hdg⟩:=open_ok hl hD ho ha (by omega) (by omega);have hR:=hl.R;have hn:=hl.n1;have hfew:few l.up (k+1):=⟨by rw[hx.e];push_cast;omega,by rw[hxh];push_cast;omega⟩;have hgu:supG l.up=g:=by rw[hx.g,hg]
 refine⟨?_,hdg⟩;rcases ho1 with⟨o1,o2,o3,o4,o5⟩|⟨o1,o2⟩
 ·refine .inl ⟨o1,o2,?_⟩
  have hc:=chosen_is hl hD.ok ho ha;have hT:T0 D=⟨(openT D).2,l.up,planT (supG l.S),false,false,[],[]⟩:=by
   unfold T0;rw[hc,hl.g.2.2.2];show(⟨(openT D).2,(lapS l.S (l.h+(scanO D 3 l.n l.h).length)).1,_,_,_,_,_⟩:TM)=_;rw[scanned hl ha]
  rw[hT];have hP:planT (supG l.S)=(ofG (supG l.up)).1:=by rw[hx.g,hl.g.2.2.2]
  have el:(⟨(openT D).2,l.up,planT (supG l.S),false,false,[],[]⟩:TM).law l.C=l.nx l.up:=by
   unfold TM.law Law.nx TM.h;simp
  have hsl:=hx.ok (len:=D.blocks.length) hl;obtain⟨_,_,_,u1,u2⟩:=supE_ok hx.s;refine⟨⟨⟨⟨hdg.db.ok,hP,by show(ofG (supG l.up)).2=0;rw[hx.g,hl.g.2.2.2],?_,⟨u1,u2⟩,?_,rfl,List.nodup_nil,(λp hp=>by cases hp),λ_=>rfl⟩,rfl,o1.2⟩,?_,?_,whole_nil,o4,hfew⟩,hgu⟩
  ·show((openT D).2.blocks.length:Int)=l.up.2.1
   rw[hdg.len];exact hsl.len
  ·show((0:Nat):Int)<=4*l.up.2.2.1
   have:l.up.2.2.1=l.n:=hx.n;omega
  ·rw[el];exact law_len hsl hdg.len
  ·rw[el];exact o3
 ·refine .inr ⟨o1,?_⟩
  rcases o2 with o2|o2
  ·exact⟨l,law_len hl hdg.len,o2,hg,⟨by omega,by omega⟩,rfl⟩
  ·exact⟨l.nx l.up,law_len (hx.ok hl) hdg.len,o2,hgu,hfew,rfl⟩
theorem magic_not{s:Sup}:sec (bytesS s) 0≠ZZ 64:=by
 intro h;have h1:=congrArg (·[0]?) h;simp only[sec_get _ _ _ (by decide:0<64)]at h1;have h2:(bytesS s)[64*0+0]? =some 97:=by
  unfold bytesS sealM superL magicS;simp only[List.append_assoc];rfl
 rw[h2]at h1;exact absurd h1 (by decide)
theorem take_zz{q:Int}:(takeR (ZZ 64) q).2≠0:=by
 intro h;obtain⟨_,h2,h3,_⟩:=take_ok h;have hc:=(checkB_num (h2:checkB _ _ _ _ _=true)).1;have h4:=congrArg (·[0]?) h3;have h5:(secX q (takeR (ZZ 64) q).1)[0]? =some (UInt8.ofNat (takeR (ZZ 64) q).1.1.toNat):=rfl;have h6:(ZZ 64)[0]? =some 0:=by decide
 rw[h5,h6,Option.some.injEq]at h4;have h7:=congrArg UInt8.toNat h4;rw[UInt8.toNat_ofNat']at h7;have h8:(0:UInt8).toNat=0:=rfl;omega
theorem zero_sec(k:Nat)(hk:k<4):sec zero256 k=ZZ 64:=by
 unfold sec zero256 ZZ;rw[List.drop_replicate,List.take_replicate]
 congr 1;omega
theorem nought_ok:∀(f:Nat) (D:DM) (i:Int) (N:Nat),C0 D->DB N D->0<=i->i+f<=D.blocks.length->(noughtD f D i).1=0/\C0 (noughtD f D i).2/\(noughtD f D i).2.wait=[]/\∀b,0<=b->rdD (noughtD f D i).2 b=if i<=b/\b<i+f then zero256 else rdD D b
 |0,D,i,N,hc,hD,_,_=>by
  rcases flush_cases hD.ok hc.2 with⟨f1,f2,f3,f4⟩|⟨f1,_⟩
  ·exact⟨f1,hc.flush.1,f3,λb hb=>by rw[if_neg (by omega)];exact f4 b hb⟩
  ·have:=hc.flush.2;rw[f1]at this;cases this
 |f+1,D,i,N,hc,hD,h0,h1=>by
  have hz:zero256.length=256:=by unfold zero256;exact List.length_replicate
  have hg:=writeD_dg hD i zero256;have hcw:=hc.write i zero256;rw[noughtD];rcases write_cases hD.ok hc.2 (by omega:0<=i/\i<D.blocks.length) hz with⟨w1,w2,w3⟩|⟨_,w2,_⟩
  ·rw[if_neg (not_not_intro w1)]
   obtain⟨g1,g2,g3,g4⟩:=nought_ok f _ (i+1) _ hcw hg.db (by omega) (by rw[hg.len];omega);refine⟨g1,g2,g3,λb hb=>?_⟩;rw[g4 b hb,w3];by_cases hib:i=b
   ·subst hib
    rw[if_neg (by omega),if_pos rfl,if_pos (by omega)]
   ·rw[if_neg hib]
    by_cases hr:i+1<=b/\b<i+1+f
    ·rw[if_pos hr,if_pos (by omega)]
    ·rw[if_neg hr,if_neg (by omega)]
  ·rw[hcw.2]at w2;cases w2
theorem newD_c0(n:Nat):C0 (newD n):=⟨rfl,rfl⟩
theorem newD_db{n:Nat}(h1:1<=n)(h2:n<=2048):DB 0 (newD n):=⟨newD_ok h1 h2,⟨⟨Int.le_refl 0,by show(0:Int)<=_;decide⟩,⟨Int.le_refl 0,Int.le_refl 0⟩,Nat.le_refl 0⟩⟩
theorem newD_rd'{n:Nat}{b:Int}(h:0<=b/\b<n):rdD (newD n) b=zero256:=by
 rw[rd_none rfl];show((List.replicate n zero256)[b.toNat]?).getD []=zero256;rw[List.getElem?_replicate,if_pos (by omega)];rfl
theorem format_ok{g:Geo}(hg:geoE g=0):(formatD (newD g.1.toNat) g).1=0/\C0 (formatD (newD g.1.toNat) g).2/\Good (formatD (newD g.1.toNat) g).2 g 2 (λ_=>zero256)/\DG (newD g.1.toNat) (formatD (newD g.1.toNat) g).2 0 5000:=by
 have hof:ofG g=(planT g,0):=by unfold ofG;rw[if_pos hg]
 obtain⟨hr,hp1,hp2,_⟩:=ofG_ok (g:=g) (by rw[hof]);have hpg:=plan_gt hr;have hn:=hr.1;have hn1:8<=g.2.1:=hr.1.1;have hheap:2<=(planT g).2.2.2.2.1/\(planT g).2.2.2.2.1<=g.1:=by
  obtain⟨g1,g2,g3⟩:=hr;have h1:0<=(g.2.2.2+31)/32:=Int.ediv_nonneg (by omega) (by omega);have h2:0<=(g.2.2.2+63)/64:=Int.ediv_nonneg (by omega) (by omega);unfold planT at hp1⊢;dsimp only at hp1⊢;omega
 have hl0:(newD g.1.toNat).blocks.length=g.1.toNat:=by unfold newD;exact List.length_replicate
 have hD:=newD_db (n:=g.1.toNat) (by omega) (by omega);obtain⟨a1,a2,a3,a4⟩:=nought_ok 2 (newD g.1.toNat) 0 0 (newD_c0 _) hD (by omega) (by rw[hl0];omega);have hag:=noughtD_dg 2 hD 0;unfold formatD;rw[if_neg (by rw[(newD_c0 g.1.toNat).2];decide),if_neg (not_not_intro hg),if_neg (by rw[hl0];omega)];dsimp only;rw[if_neg (not_not_intro a1)];generalize noughtD 2 (newD g.1.toNat) 0=A at a2 a3 a4 hag⊢;obtain⟨b1,b2,b3,b4⟩:=nought_ok ((planT g).2.2.2.2.1-2).toNat A.2 2 _ a2 hag.db (by omega) (by rw[hag.len,hl0];omega);have hbg:=hag.trans (noughtD_dg ((planT g).2.2.2.2.1-2).toNat hag.db 2);rw[if_neg (not_not_intro b1)];generalize noughtD ((planT g).2.2.2.2.1-2).toNat A.2 2=B at b2 b3 b4 hbg⊢;have hrdB:∀b:Int,0<=b->b<g.1->rdD B.2 b=zero256:=λb h0 h1=>by
  rw[b4 b h0];split
  ·rfl
  ·rw[a4 b h0]
   split
   ·rfl
   ·exact newD_rd' ⟨h0,by omega⟩
 have hS:(firstS g).1=(2,g.1,g.2.1,g.2.2.1,g.2.2.2,4*g.2.1):=by unfold firstS;rw[if_pos hg]
 obtain⟨S,hSS⟩:∃S,(firstS g).1=S:=⟨_,rfl⟩;rw[hSS]at hS⊢;have hsE:supE S=0:=by
  rw[hS,supE_g (s:=(2,g.1,g.2.1,g.2.2.1,g.2.2.2,4*g.2.1)) hg,if_pos];exact⟨show(1:Int)<=2 by decide,show(2:Int)<=1152921504606846976 by decide,by dsimp only;omega,by dsimp only;omega⟩
 have hsl:slotS S=0:=by rw[hS];rfl
 have hlB:B.2.blocks.length=g.1.toNat:=hbg.len.trans hl0;have hngd:=noteD_dg hbg.db S;have hdg:=(hbg.trans hngd).mono (K:=5000) (by omega);have hcn:=b2.note S;have hno:(noteD B.2 S).1=0/\(noteD B.2 S).2.wait=[]/\∀b,0<=b->rdD (noteD B.2 S).2 b=if b=0 then bytesS S else rdD B.2 b:=by
  unfold noteD;rw[if_neg (not_not_intro hsE),hsl];have hcw:=b2.write 0 (bytesS S);have hwg:=writeD_dg hbg.db 0 (bytesS S);rcases write_cases hbg.db.ok b2.2 (by omega:(0:Int)<=0/\(0:Int)<B.2.blocks.length) (bytesS_len S)with⟨w1,w2,w3⟩|⟨_,w2,_⟩
  ·rw[if_neg (not_not_intro w1)]
   rcases flush_cases hwg.db.ok w2 with⟨f1,f2,f3,f4⟩|⟨f1,_⟩
   ·refine⟨f1,f3,λb hb=>?_⟩
    rw[f4 b hb,w3];by_cases h:b=0
    ·subst h;rfl
    ·rw[if_neg h,if_neg λh'=>h h'.symm]
   ·have:=hcw.flush.2;rw[f1]at this;cases this
  ·rw[hcw.2]at w2;cases w2
 refine⟨hno.1,hcn,⟨⟨S,[],S.2.2.2.2.2,λ_=>zero256⟩,?_,?_,by rw[hS],?_,rfl⟩,hdg⟩
 ·rw[hngd.len,hlB]
  refine⟨hsE,by rw[hS];show((g.1.toNat:Nat):Int)=g.1;omega,?_,(λv hv=>by cases hv),(λv hv=>by cases hv),?_,λ_ _=>List.length_replicate,λ_ _=>rfl⟩
  ·show((0:Nat):Int)<=4*S.2.2.1
   rw[hS];show((0:Nat):Int)<=4*g.2.1;omega
  ·show S.2.2.2.2.2<=S.2.2.2.2.2+4*S.2.2.1
   rw[hS];show 4*g.2.1<=4*g.2.1+4*g.2.1;omega
 ·refine Al.quiet hno.2.1 λb k h0 h1 hk=>?_
  rw[hngd.len,hlB]at h1;rw[hno.2.2 b h0];refine⟨λh=>?_,λh=>?_,λh h3=>?_,λh=>?_⟩
  ·have h:b=slotS S:=h
   rw[if_pos (by omega)]
  ·have h:b=1-slotS S:=h
   rw[if_neg (by omega),hrdB b h0 (by omega),zero_sec k hk];exact⟨λ_=>rfl,λ_ s _ h=>absurd h.symm magic_not⟩
  ·rw[if_neg (by omega),hrdB b h0 (by omega),zero_sec k hk]
   exact⟨λi x hx=>(by cases hx),λ_ q hq=>absurd hq take_zz⟩
  ·have h:usableS (planT (supG S)) b:=h
   have h2:b=2\/3<=b:=by
    rw[hS]at h;have:=usable_ge hr h;omega
   rw[if_neg (by omega),hrdB b h0 (by omega)];exact⟨sec_len List.length_replicate hk,λo ho=>.inr (by rw[sec_get _ _ _ ho])⟩
 ·rw[hS]
  refine⟨by show(2:Int)<=((2:Nat):Int);omega,?_⟩;have:g.2.1<=256:=hr.1.2;show 4*g.2.1<=2048*((2:Nat):Int);omega
theorem falls_db{D:DM}{N:Nat}(h:DB N D)(pl:List UInt8):DG D (fallsD D pl) N 0:=
 ⟨⟨fallsD_ok h.ok pl,⟨⟨Int.le_refl 0,by show(0:Int)<=_;decide⟩,h.bd.ops,Nat.zero_le _⟩⟩,fallGo_len _ _ _⟩
theorem Good.falls{D:DM}{g:Geo}{k:Nat}{C:Int->List UInt8}(h:Good D g k C)(hD:D.ok)(pl:List UInt8):Good (fallsD D pl) g k C:=by
 obtain⟨l,h1,h2,h3,h4,h5⟩:=h;have hl:(fallsD D pl).blocks.length=D.blocks.length:=fallGo_len _ _ _;exact⟨l,law_len h1 hl,λb k v h0 hb hk hs=>h2 b k v h0 (by rw[<-hl];exact hb) hk (falls_sv hD h0 hk hs),h3,h4,h5⟩
theorem Good.same{D E:DM}{g:Geo}{k:Nat}{C:Int->List UInt8}(h:Good D g k C)(hb:E.blocks=D.blocks)(hw:E.wait=D.wait):Good E g k C:=by
 obtain⟨l,h1,h2,h3⟩:=h;exact⟨l,law_len h1 (by rw[hb]),h2.same hb hw,h3⟩
abbrev onD(D:DM):DM:={D with off:=false}
theorem onD_db{D:DM}{N:Nat}(h:DB N D):DG D (onD D) N 0:=⟨⟨⟨h.ok.len,h.ok.wlen,h.ok.pos,h.ok.le⟩,⟨h.bd.armed,h.bd.ops,h.bd.wait⟩⟩,rfl⟩
theorem frz_alloc(w:World)(cs:Array Value)(E:TypeId)(n:Nat):(w.alloc (.cells cs E)).freeze ⟨w.heap.size,n,none⟩ 1=w.alloc (.cells cs E (n,n+1)):=by
 unfold World.freeze World.alloc;rw[if_neg (by decide)]
 congr 1
 apply Array.ext_getElem?;intro i;rw[Array.getElem?_modify];rcases Nat.lt_trichotomy w.heap.size i with h|h|h
 ·rw[if_neg (by dsimp only;omega),Array.getElem?_eq_none (by simp;omega),Array.getElem?_eq_none (by simp;omega)]
 ·subst h
  rw[if_pos rfl];simp
 ·rw[if_neg (by dsimp only;omega),Array.getElem?_push_lt h,Array.getElem?_push_lt h]
theorem frz_cell(w:World)(cs:Array Value)(E:TypeId)(n o:Nat):(w.alloc (.cells cs E (n,n+1))).cell? ⟨w.heap.size,o,none⟩=cs[o]? :=by
 unfold World.cell? World.alloc;simp
theorem frz_frozen(w:World)(cs:Array Value)(E:TypeId)(n o:Nat):(w.alloc (.cells cs E (n,n+1))).frozen? ⟨w.heap.size,o,none⟩=(decide (n<=o)&&decide (o<n+1)):=by
 unfold World.frozen? World.alloc;simp
theorem frz_own{F0:Nat->Prop}{w0 w:World}{L:List HA}{cs:Array Value}{E:TypeId}{vs spare:List Value}{n:Nat}(h:St F0 w0 w L)(hc:cs.toList=vs++spare)(hn:n=vs.length):
 St F0 w0 ((w.alloc (.cells cs E)).freeze ⟨w.heap.size,cs.size,none⟩ 1) (SlA 1 ⟨some ⟨w.heap.size,0,none⟩,n,cs.size⟩ vs::L):=by
 rw[frz_alloc];have hsz:cs.size=(vs++spare).length:=by rw[<-hc];simp
 refine h.mksl ((Mod.refl _ w).alloc _) ⟨by simp[hn],by rw[hn,hsz];simp,.inr ⟨w.heap.size,0,spare,rfl,Nat.le_refl _,by simp,λo v hv=>?_,?_,by rw[<-hsz];simp⟩⟩
 ·rw[frz_cell]at hv
  rw[frz_frozen];have:o<cs.size:=(Array.getElem?_eq_some_iff.1 hv).1;rw[decide_eq_false (by omega)];rfl
 ·intro j v hj
  rw[add_mk,Nat.zero_add,frz_cell,<-hj,<-hc];simp
theorem St.nwMark{F0:Nat->Prop}{w0 w:World}{L:List HA}{cs:Array Value}{E:TypeId}{k:Nat->Pr}(h:St F0 w0 w L)
 (hk:∀r w',St F0 w0 w' (SlA 1 ⟨some ⟨r,0,none⟩,cs.size,cs.size⟩ cs.toList::L)->k r w'):nw (.cells cs E) (λr=>markS ⟨r,0,none⟩ (k r)) w:=by
 rw[nw_def];refine⟨E,cs.size,by unfold World.shape? World.alloc;simp,?_⟩;exact hk _ _ (frz_own h (vs:=cs.toList) (spare:=[]) (by simp) (by simp))
theorem openT_lap{D:DM}(h:(openT D).1=0):(lapS (chosenS D).1 ((chosenS D).1.2.2.2.2.2+(scanO D 3 (chosenS D).1.2.2.1 (chosenS D).1.2.2.2.2.2).length)).2=0:=by
 refine Classical.byContradiction λhn=>?_;revert h;unfold openT;dsimp only;split
 ·exact λh=>by cases h
 ·split
  ·rename_i h1;exact λh=>absurd h h1
  ·split
   ·exact λh=>by cases h
   ·split
    ·rename_i h1;exact λh=>absurd h h1
    ·split
     ·exact λh=>by cases h
     ·rw[if_pos]
      ·unfold lapE
       rw[if_pos hn];exact λh=>by cases h
      ·unfold lapE
       rw[if_pos hn];decide
section
variable{x dp N M:Nat}{T:TM}{D:DM}{w w0:World}{F0:Nat->Prop}{L:List HA}
theorem openC{K:Option Addr×Int->Pr}(h:St F0 w0 w (DiskA dp D::L))(hD:DB M D)(hM:M<=900000)
 (k1:(openT D).1≠0->∀w',St F0 w0 w' (DiskA dp (openT D).2::L)->K (none,(openT D).1) w')
 (k2:(openT D).1=0->∀x w',St F0 w0 w' (TxA x dp 0 (T0 D)::DiskA dp (openT D).2::L)->K (some ⟨x,0,none⟩,0) w'):callF Tryz.prog 24 [P0 dp] [.c .ptr,.c (.int .i64)] K w:=by
 obtain⟨G,H,g2,_,_,_,gc⟩:=St.call [DiskA dp D] h;refine callF_of (V24 g2 hD hM) ?_;rintro r w1 (⟨h1,rfl,s1⟩|⟨h1,x,b,g,c,m,s,S,rfl,hS,s1⟩)
 ·exact k1 h1 w1 (gc _ _ s1)
 ·refine k2 h1 x w1 ?_
  have s2:=gc _ _ s1;have e:(T0 D).S=S:=hS.symm;have en:S.2.2.1=(chosenS D).1.2.2.1\/True:=.inr trivial;have s3:St F0 w0 w1 (BoxA x (storeC b dp S (ofG (supG (chosenS D).1)).1 false false m)::BoxA b [P0 g,P0 c]::BoxA g (ringC dp 3 (chosenS D).1.2.2.1 S.2.2.2.2.2 s)::SlA 5 s (rcs [])::bts []::CacheA c dp ⟨256,0,[]⟩::MapA intKT m []::DiskA dp (openT D).2::L):=s2;have s4:=(s3.nobig).sel [1,2,3,4,5,6,7,0,8] 9;refine St.tClose (T:=T0 D) (i:=⟨b,g,c,m,s,[],⟨256,0,[]⟩,[]⟩) ?_ ⟨rfl,rfl,λ_=>⟨⟨List.nodup_nil,(λx hx=>by cases hx),(λx hx=>by cases hx),⟨show(2:Int)<=256 by decide,show(256:Int)<=256 by decide⟩,by show((0:Nat):Int)<=256;decide,(λx hx=>by cases hx),List.nodup_nil,Int.le_refl 0⟩,rfl,(λx hx=>by cases hx),(λx hx=>by cases hx),Int.le_refl 0,(λx hx=>by cases hx)⟩⟩;have hn:(T0 D).n=(chosenS D).1.2.2.1:=by
   have h2:=(nextS_ok (openT_lap h1)).1;show(lapS _ _).1.2.2.1=_;unfold lapS;rw[h2]
  rw[hn];show St F0 w0 w1 (BoxA x (storeC b dp (T0 D).S (ofG (supG (chosenS D).1)).1 false false m)::BoxA b [P0 g,P0 c]::BoxA g (ringC dp 3 (chosenS D).1.2.2.1 (T0 D).S.2.2.2.2.2 s)::_);rw[e];exact s4
theorem beginC{K:Int->Pr}(h:St F0 w0 w (TxA x dp N T::DiskA dp T.D::L))(ht:T.up)(hb:T.busy=false)(hK:∀w',St F0 w0 w' (TxA x dp N {T with busy:=true}::DiskA dp T.D::L)->K 0 w'):callF Tryz.prog 28 [P0 x] [.c (.int .i64)] K w:=by
 obtain⟨i,hp,s0⟩:=h.tOpen;have s1:St F0 w0 w (BoxA x (storeC i.b dp T.S T.P T.busy T.dead i.m)::DiskA dp T.D::BoxA i.b [P0 i.g,P0 i.c]::BoxA i.g (ringC dp 3 T.n T.h i.s)::SlA 5 i.s (rcs i.xs)::bts i.xs::CacheA i.c dp i.C::MapA intKT i.m (i.pl.map Pg.kv)::bigA (i.pl.map Pg.A)::L):=s0.sel [0,8,1,2,3,4,5,6,7] 9;obtain⟨G,H,g2,_,_,_,gc⟩:=St.call [BoxA x (storeC i.b dp T.S T.P T.busy T.dead i.m),DiskA dp T.D] s1;refine callF_of (V28 g2 ht.ok.D) ?_;rintro r w1 ⟨hr,s2⟩;have s2:=gc _ _ s2;have e:beginE T.busy T.dead T.D=0:=by unfold beginE;rw[ht.dead,ht.off,hb];rfl
 rw[hr,e];rw[hb,ht.dead,ht.off]at s2;have s3:St F0 w0 w1 (BoxA x (storeC i.b dp T.S T.P true false i.m)::DiskA dp T.D::BoxA i.b [P0 i.g,P0 i.c]::BoxA i.g (ringC dp 3 T.n T.h i.s)::SlA 5 i.s (rcs i.xs)::bts i.xs::CacheA i.c dp i.C::MapA intKT i.m (i.pl.map Pg.kv)::bigA (i.pl.map Pg.A)::L):=s2;refine hK w1 (St.tClose (T:={T with busy:=true}) (i:=i) ?_ ⟨hp.xs,hp.pl,hp.cc⟩);have e2:T.dead=false:=ht.dead;rw[show({T with busy:=true}:TM).dead=false from e2];exact s3.sel [0,2,3,4,5,6,7,8,1] 9
theorem writeC{i o:Int}{p:Sl}{l:List UInt8}{K:Int->Pr}(h:St F0 w0 w (TxA x dp N T::DiskA dp T.D::L))(ht:T.ok)(hw:T.D.wait.length<=10000000)(hN:N<=1000000000)(hb:∀{G H:Nat->Prop},Has [TxA x dp N T,DiskA dp T.D] w G->Has L w H->(∀b,G b->¬H b)->Rd w G p l)
 (hK:∀w',St F0 w0 w' (TxA x dp (N+1) (T.write i o l).2::DiskA dp T.D::L)->K (T.write i o l).1 w'):callF Tryz.prog 31 [P0 x,iv i,iv o,slV p] [.c (.int .i64)] K w:=by
 obtain⟨G,H,g2,g3,g4,_,gc⟩:=St.call [TxA x dp N T,DiskA dp T.D] h;refine callF_of (V31 (i:=i) (o:=o) g2 ht hw hN (hb g2 g3 g4)) ?_;rintro r w1 ⟨hr,s1⟩;rw[hr];exact hK w1 (gc _ _ s1)
theorem readC{i o n:Int}{K:Sl×Int->Pr}(h:St F0 w0 w (TxA x dp N T::DiskA dp T.D::L))(ht:T.ok)(hw:T.D.wait.length<=10000000)(hN:N<=1000000000)
 (hK:∀t w',St F0 w0 w' (SlA 1 t ((T.read i o n).2.map ub)::TxA x dp (N+1) T.mark::DiskA dp T.D::L)->K (t,(T.read i o n).1) w'):callF Tryz.prog 27 [P0 x,iv i,iv o,iv n] [.c .slice,.c (.int .i64)] K w:=by
 obtain⟨G,H,g2,_,_,_,gc⟩:=St.call [TxA x dp N T,DiskA dp T.D] h;refine callF_of (V27 (i:=i) (o:=o) (n:=n) g2 ht hw hN) ?_;rintro⟨t,e⟩ w1 ⟨hr,s1⟩;dsimp only at hr s1;rw[hr];have s2:=gc _ _ s1;have s2:St F0 w0 w1 (TxA x dp (N+1) T.mark::DiskA dp T.D::SlA 1 t ((T.read i o n).2.map ub)::L):=s2;exact hK t w1 (s2.sel [2,0,1] 3)
theorem crashC{p:Sl}{pl:List UInt8}{K:Int->Pr}(h:St F0 w0 w (DiskA dp D::L))(hD:DB M D)(hM:M<=10000000)(hb:∀{G H:Nat->Prop},Has [DiskA dp D] w G->Has L w H->(∀b,G b->¬H b)->Rd w G p pl)
 (hK:∀w',St F0 w0 w' (DiskA dp (crashD D pl).2::L)->K (crashD D pl).1 w'):callF Tryz.prog 22 [P0 dp,slV p] [.c (.int .i64)] K w:=by
 obtain⟨G,H,g2,g3,g4,_,gc⟩:=St.call [DiskA dp D] h;refine callF_of (V22 dp D p pl M w G g2 (hb g2 g3 g4) hD hM) ?_;rintro r w1 ⟨hr,s1⟩;rw[hr];exact hK w1 (gc _ _ s1)
theorem upC{K:Int->Pr}(h:St F0 w0 w (DiskA dp D::L))(hD:D.ok)(hK:∀w',St F0 w0 w' (DiskA dp (upD D).2::L)->K (upD D).1 w'):callF Tryz.prog 23 [P0 dp] [.c (.int .i64)] K w:=by
 obtain⟨G,H,g2,_,_,_,gc⟩:=St.call [DiskA dp D] h;refine callF_of (C51 dp D w G g2 hD) ?_;rintro r w1 ⟨hr,s1⟩;rw[hr];exact hK w1 (gc _ _ s1)
theorem formatC{g:Geo}{K:Int->Pr}(h:St F0 w0 w (DiskA dp D::L))(hD:DB M D)(hM:M<=500000)(hK:∀w',St F0 w0 w' (DiskA dp (formatD D g).2::L)->K (formatD D g).1 w'):callF Tryz.prog 37 [P0 dp,g.v] [.c (.int .i64)] K w:=by
 obtain⟨G,H,g2,_,_,_,gc⟩:=St.call [DiskA dp D] h;refine callF_of (V37 g2 hD hM) ?_;rintro r w1 ⟨hr,s1⟩;rw[hr];exact hK w1 (gc _ _ s1)
theorem Rd.nil(w:World)(F:Nat->Prop):Rd w F ⟨none,0,0⟩ []:=⟨⟨rfl,rfl⟩,λ_ h=>absurd rfl h⟩
end
theorem V187(s:Sup)(w:World):Calls Tryz.prog 187 #[s.v] w (RetT [.c (.int .i64)] λr w'=>r=supE s/\Grow w w'):=by
 refine F187_calls s.1 s.2.1 s.2.2.1 s.2.2.2.1 s.2.2.2.2.1 s.2.2.2.2.2 _ _ ?_;unfold F187;refine St.nw (St.init0 w) λr w1 s1 _ _=>?_;have s1:St noF w w1 [BoxA r (pcells s)]:=s1;have hrow:readsAt w1 (bA r 1) 0 (valA [.int .i64,.int .i64,.int .i64,.int .i64] (supG s)):=by
  exact readsAt_row.2 ((s1.box.row.drop 1).take 4)
 refine ldA_of (l:=[.int .i64,.int .i64,.int .i64,.int .i64]) (p:=supG s) hrow ?_;refine callF_of (V13 (supG s) w1) ?_;rintro e w2 ⟨he,g2⟩;have s2:=s1.grow g2;refine br_of (λh=>?_) λh=>?_
 ·have h:e≠0:=by simpa using h
  have h4:geoE (supG s)=40:=by rw[<-he];exact(he▸geoE_cases _:e=0\/e=40).resolve_left h
  refine⟨?_,s2.gro⟩;unfold supE;rw[if_pos h4,he,h4]
 have h:e=0:=by simpa using h
 rw[supE_g (by rw[<-he,h])];refine jn_of (λb W=>b=decide (¬supR s)/\W=w2) ?_ ?_
 ·unfold supR
  refine s2.L 0 rfl (p:=s.1) rfl (br_of (λh=>⟨dec_true (by simp at h;omega),rfl⟩) λh1=>?_);refine s2.L 0 rfl (p:=s.1) rfl (br_of (λh=>⟨dec_true (by simp at h;omega),rfl⟩) λh2=>?_);refine s2.L 0 rfl (p:=s.2.2.2.2.2) rfl (br_of (λh=>⟨dec_true (by simp at h;omega),rfl⟩) λh3=>?_);refine s2.L 0 rfl (p:=s.2.2.2.2.2) rfl ⟨?_,rfl⟩;simp only[decide_eq_false_iff_not]at h1 h2 h3;exact decide_eq_decide.2 (by omega)
 rintro _ _ ⟨rfl,rfl⟩;refine br_of (λh=>⟨?_,s2.gro⟩) λh=>⟨?_,s2.gro⟩
 ·simp only[decide_eq_true_eq]at h;rw[if_neg h]
 ·simp only[decide_eq_false_iff_not,Classical.not_not]at h;rw[if_pos h]
theorem nextS_bad{s:Sup}{h v:Int}(e:nextE s h=v)(hv:v≠0):nextS s h=(Sup0,v):=by unfold nextS;rw[e,if_neg hv]
theorem V143(s:Sup)(h:Int)(w:World):Calls Tryz.prog 143 #[s.v,iv h] w (RetT [.agg [.int .i64,.int .i64,.int .i64,.int .i64,.int .i64,.int .i64],.c (.int .i64)] λr w'=>r=nextS s h/\Grow w w'):=by
 refine F143_calls s.1 s.2.1 s.2.2.1 s.2.2.2.1 s.2.2.2.2.1 s.2.2.2.2.2 h _ _ ?_;unfold F143;refine St.nw (St.init0 w) λr w1 s1 _ _=>St.nw s1 λr1 w2 s2 _ _=>?_;have s2:St noF w w2 [BoxA r1 (pcells Sup0),BoxA r (pcells s)]:=s2;refine s2.LA 1 rfl (p:=s) rfl ?_;refine callF_of (V187 s w2) ?_;rintro e w3 ⟨he,g3⟩;have s3:=s2.grow g3;refine br_of (λh1=>?_) λh1=>?_
 ·have h1:e≠0:=by simpa using h1
  refine s3.SB 0 rfl rfl (na_p Sup0) λw4 s4=>St.LA 0 s4 rfl (p:=Sup0) rfl ⟨?_,s4.gro⟩;exact(nextS_bad (by unfold nextE;rw[<-he,if_pos h1]) h1).symm
 have h1:supE s=0:=by rw[<-he];simpa using h1
 have hE:nextE s h=if h<s.2.2.2.2.2\/h>1152921504606846976 then 1 else if s.1=1152921504606846976 then 6 else 0:=by unfold nextE;rw[h1,if_neg (by decide)]
 refine jn_of (λb W=>b=decide (h<s.2.2.2.2.2\/h>1152921504606846976)/\W=w3) ?_ ?_
 ·refine s3.L 1 rfl (p:=s.2.2.2.2.2) rfl (br_of (λh=>⟨dec_true (.inl (by simpa using h)),rfl⟩) λh2=>⟨?_,rfl⟩)
  simp only[decide_eq_false_iff_not]at h2;exact decide_eq_decide.2 (by omega)
 rintro _ _ ⟨rfl,rfl⟩;refine br_of (λh2=>?_) λh2=>?_
 ·rw[if_pos (by simpa using h2)]at hE
  exact s3.SB 0 rfl rfl (na_p Sup0) λw4 s4=>St.LA 0 s4 rfl (p:=Sup0) rfl ⟨(nextS_bad hE (by decide)).symm,s4.gro⟩
 rw[if_neg (by simpa using h2)]at hE;refine s3.L 1 rfl (p:=s.1) rfl (br_of (λh3=>?_) λh3=>?_)
 ·rw[if_pos (by simpa using h3)]at hE
  exact s3.SB 0 rfl rfl (na_p Sup0) λw4 s4=>St.LA 0 s4 rfl (p:=Sup0) rfl ⟨(nextS_bad hE (by decide)).symm,s4.gro⟩
 rw[if_neg (by simpa using h3)]at hE;have hr:=(supE_ok h1).2;have hr:1<=s.1/\s.1<=1152921504606846976:=⟨hr.1,hr.2.1⟩;refine s3.L 1 rfl (p:=s.1) rfl (s3.S 1 rfl (by simp) trivial λw4 s4=>St.S 1 s4 rfl (by simp) trivial λw5 s5=>?_);rw[w64_of ⟨by omega,by omega⟩]at s5;have s5:St noF w w5 [BoxA r1 (pcells Sup0),BoxA r (pcells (s.1+1,s.2.1,s.2.2.1,s.2.2.2.1,s.2.2.2.2.1,h))]:=s5;refine s5.LA 1 rfl (p:=(s.1+1,s.2.1,s.2.2.1,s.2.2.2.1,s.2.2.2.2.1,h)) rfl ?_;refine s5.SB 0 rfl rfl (na_p (s.1+1,s.2.1,s.2.2.1,s.2.2.2.1,s.2.2.2.2.1,h)) λw6 s6=>St.LA 0 s6 rfl (p:=(s.1+1,s.2.1,s.2.2.1,s.2.2.2.1,s.2.2.2.2.1,h)) rfl ⟨?_,s6.gro⟩;unfold nextS;rw[if_pos hE]
theorem V139(s:Sup)(w:World):Calls Tryz.prog 139 #[s.v] w (RetT [.c (.int .i64)] λr w'=>r=slotS s/\Grow w w'):=by
 refine F139_calls s.1 s.2.1 s.2.2.1 s.2.2.2.1 s.2.2.2.2.1 s.2.2.2.2.2 _ _ ?_;unfold F139 slotS;refine St.nw (St.init0 w) λr w1 s1 _ _=>s1.L 0 rfl (p:=s.1) rfl ?_;refine br_of (λa=>?_) λa=>?_
 ·exact⟨(if_pos (by simpa using a)).symm,s1.gro⟩
 ·simp only[decide_eq_false_iff_not]at a
  refine s1.L 0 rfl (p:=s.1) rfl ⟨by decide,?_,s1.gro⟩;rw[if_neg a,Int.tmod_eq_emod_of_nonneg (by omega)]
theorem numR_app{F0:Nat->Prop}{w0 w:World}{L:List HA}{s:Sl}{A:List UInt8}{n:Nat}{v:Int}{k:Sl->Pr}(h:St F0 w0 w (SlA 1 s (A.map ub)::L))(h1:1<=n)(h8:n<=8)(hv:0<=v/\v<=1152921504606846976)(hl:A.length<=1000000)
 (hk:∀r w',St F0 w0 w' (SlA 1 r ((A++numB n v.toNat).map ub)::L)->k r w'):
 callF Tryz.prog 188 [iv n,.int .u64 (wU64 v)] [.c .slice] (λt=>app 5 1 1 [uv 0] s t k) w:=by
 rw[wU64_of ⟨by omega,by omega⟩];have e:v=(v.toNat:Int):=by omega
 generalize v.toNat=m at e hk;subst e;refine callF_of (Y37 n m w h1 h8) λt w1 s1=>?_;have s2:St F0 w0 w1 (SlA 1 s (A.map ub)::SlA 1 t ((numB n m).map ub)::L):=(h.call0 s1).bring 1;exact s2.appB (by rw[numB_len];omega) λr w2 s3=>hk r w2 (s3.del 1)
theorem pad_loop{F0:Nat->Prop}{w0 w:World}{L:List HA}{s:Sl}{A:List UInt8}{n:Nat}{k:Sl->Pr}(h:St F0 w0 w (SlA 1 s (A.map ub)::L))(hn:A.length<=n)(hb:n<=1000)
 (hk:∀r w',St F0 w0 w' (SlA 1 r ((A++List.replicate (n-A.length) 0).map ub)::L)->k r w'):
 loopE (S:=Sl) (λX s=>br (decide ((s.len:Int)<(n:Int))) (nw (.cells #[uv 0] 5) λr=>app 5 1 1 [uv 0] s ⟨some ⟨r,0,none⟩,1,1⟩ λt=>X t) (k s)) s w:=by
 refine loop_of (λz W=>∃j:Nat,A.length+j<=n/\St F0 w0 W (SlA 1 z ((A++List.replicate j 0).map ub)::L)) (λz _=>n-z.len) ⟨0,by omega,by rw[List.replicate_zero,List.append_nil];exact h⟩ ?_;rintro t W ⟨j,hj,s1⟩;have hl:t.len=A.length+j:=by have:=slA_len1 s1.sl;rw[List.length_map,List.length_append,List.length_replicate]at this;exact this
 refine br_of (λhlt=>?_) λhge=>?_
 ·simp only[decide_eq_true_eq]at hlt
  refine append_one (n:=0) s1 rfl (by simp;omega) λr w2 s2=>?_;have hl2:r.len=A.length+j+1:=by have:=slA_len1 s2.sl;simp at this;omega
  exact⟨⟨j+1,by omega,by rw[List.replicate_succ',<-List.append_assoc];exact s2⟩,by omega⟩
 ·simp only[decide_eq_false_iff_not]at hge
  refine hk t W ?_;rw[show n-A.length=j by omega];exact s1
theorem V138(s:Sup)(w:World):Calls Tryz.prog 138 #[s.v] w (RetT [.c .slice,.c (.int .i64)] λr w'=>r.2=supE s/\((supE s≠0/\r.1=⟨none,0,0⟩/\Grow w w')\/supE s=0/\St noF w w' [SlA 1 r.1 ((bytesS s).map ub)])):=by
 refine F138_calls s.1 s.2.1 s.2.2.1 s.2.2.2.1 s.2.2.2.2.1 s.2.2.2.2.2 _ _ ?_;unfold F138;refine St.nw (St.init0 w) λr w1 s1 _ _=>?_;have s1:St noF w w1 [BoxA r (pcells s)]:=s1;refine s1.LA 0 rfl (p:=s) rfl ?_;refine callF_of (V187 s w1) ?_;rintro e w2 ⟨he,g2⟩;have s2:=s1.grow g2;refine br_of (λh=>⟨he,.inl ⟨by rw[<-he];simpa using h,rfl,s2.gro⟩⟩) λh=>?_;have h0:supE s=0:=by rw[<-he];simpa using h
 obtain⟨b1,b2,b3,b4,b5,b6⟩:=supE_num h0;refine St.nwMark s2 λr1 w3 s3=>?_;have s3:St noF w w3 [SlA 1 ⟨some (bA r1 0),8,8⟩ (magicS.map ub),BoxA r (pcells s)]:=s3;refine s3.L 1 rfl (p:=s.1) rfl ?_;refine numR_app (n:=8) s3 (by decide) (by decide) ⟨by omega,b1.2⟩ (by decide) λt2 w5 s5=>?_;refine s5.L 1 rfl (p:=s.2.1) rfl ?_;refine numR_app (n:=4) s5 (by decide) (by decide) ⟨b2.1,by omega⟩ (by simp[numB_len,magicS]) λt3 w6 s6=>?_;refine s6.L 1 rfl (p:=s.2.2.1) rfl ?_;refine numR_app (n:=4) s6 (by decide) (by decide) ⟨b3.1,by omega⟩ (by simp[numB_len,magicS]) λt4 w7 s7=>?_;refine s7.L 1 rfl (p:=s.2.2.2.1) rfl ?_;refine numR_app (n:=4) s7 (by decide) (by decide) ⟨b4.1,by omega⟩ (by simp[numB_len,magicS]) λt5 w8 s8=>?_;refine s8.L 1 rfl (p:=s.2.2.2.2.1) rfl ?_;refine numR_app (n:=4) s8 (by decide) (by decide) ⟨b5.1,by omega⟩ (by simp[numB_len,magicS]) λt6 w9 s9=>?_;refine s9.L 1 rfl (p:=s.2.2.2.2.2) rfl ?_;refine numR_app (n:=8) s9 (by decide) (by decide) b6 (by simp[numB_len,magicS]) λt7 w10 s10=>?_;have s10:St noF w w10 [SlA 1 t7 ((superL s).map ub),BoxA r (pcells s)]:=s10;refine pad_loop (n:=60) s10 (by rw[superL_len];decide) (by decide) λt8 w11 s11=>?_;rw[superL_len]at s11;have hl11:(superL s++List.replicate 20 0).length=60:=by simp[superL_len]
 have s11:St noF w w11 [SlA 1 t8 ((superL s++List.replicate 20 0).map ub),BoxA r (pcells s)]:=s11;refine callF_of (Y38 t8 _ w11 s11.sl.bs (by rw[hl11];decide)) ?_;rintro x _ ⟨rfl,rfl⟩;refine numR_app (n:=4) s11 (by decide) (by decide) ⟨Int.natCast_nonneg _,Int.le_trans (Int.ofNat_le.2 (Nat.le_of_lt (sumM_lt _))) (by decide)⟩ (by rw[hl11];decide) λt9 w12 s12=>?_;rw[Int.toNat_natCast]at s12;have s12:St noF w w12 [SlA 1 t9 ((sealM (superL s++List.replicate 20 0)).map ub),BoxA r (pcells s)]:=s12;have hl12:(sealM (superL s++List.replicate 20 0)).length=64:=by unfold sealM;rw[List.length_append,hl11,numB_len]
 refine pad_loop (n:=256) s12 (by rw[hl12];decide) (by decide) λt10 w13 s13=>?_;rw[hl12]at s13;exact⟨h0.symm,.inr ⟨h0,St.dropR (l:=[_]) s13⟩⟩
set_option maxRecDepth 100000
def an89:An:=(.sq .z (.sq .z (.sq (.sq .z (.br (.sq .z .z) .z)) (.sq (.sq .z (.sq .z (.br (.sq .z .z) .z))) (.sq .z .z)))))
def F89(p0:Option Addr)(p1_0:Int)(p1_1:Int)(p1_2:Int)(p1_3:Int)(p1_4:Int)(p1_5:Int)(Q:Int->Pr):Pr:=
 nw (.cells #[(iv p1_0),(iv p1_1),(iv p1_2),(iv p1_3),(iv p1_4),(iv p1_5)] 61) λr=>
 ldA [I64,I64,I64,I64,I64,I64] (bA r 0) λ(t9:Int×Int×Int×Int×Int×Int)=>
 callF Tryz.prog 138 [(.agg #[(iv t9.1),(iv t9.2.1),(iv t9.2.2.1),(iv t9.2.2.2.1),(iv t9.2.2.2.2.1),(iv t9.2.2.2.2.2)])] [.c .slice,.c I64] λ(t10:Sl×Int)=>
 br (t10.2 !=0) (
 Q t10.2) (
 ldA [I64,I64,I64,I64,I64,I64] (bA r 0) λ(t17:Int×Int×Int×Int×Int×Int)=>
 callF Tryz.prog 139 [(.agg #[(iv t17.1),(iv t17.2.1),(iv t17.2.2.1),(iv t17.2.2.2.1),(iv t17.2.2.2.2.1),(iv t17.2.2.2.2.2)])] [.c I64] λ(t18:Int)=>
 callF Tryz.prog 136 [(.pointer p0),(iv t18),(slV t10.1)] [.c I64] λ(t20:Int)=>
 br (t20 !=0) (
 Q t20) (
 callF Tryz.prog 137 [(.pointer p0)] [.c I64] λ(t25:Int)=>
 Q t25))
theorem F89_calls(p0:Option Addr)(p1_0:Int)(p1_1:Int)(p1_2:Int)(p1_3:Int)(p1_4:Int)(p1_5:Int)(Q:Int->Pr)(w:World)(h:F89 p0 p1_0 p1_1 p1_2 p1_3 p1_4 p1_5 Q w):Calls Tryz.prog 89 #[(.pointer p0),(.agg #[(iv p1_0),(iv p1_1),(iv p1_2),(iv p1_3),(iv p1_4),(iv p1_5)])] w (RetT [.c I64] Q):=cF (an:=an89) Tryz.func89 (by kernel_rfl) h
def an192:An:=(.sq .z (.sq .z .z))
def F192(p0_0:Int)(p0_1:Int)(p0_2:Int)(p0_3:Int)(p0_4:Int)(p0_5:Int)(p1:Int)(Q:Bool->Pr):Pr:=
 nw (.cells #[(iv p0_0),(iv p0_1),(iv p0_2),(iv p0_3),(iv p0_4),(iv p0_5)] 38) λr=>
 br (p1==2) (
 Q true) (
 ldI (bA r 1) λt10=>
 br (decide (p1>=t10)) (
 ldI (bA r 5) λt15=>
 Q ((decide (p1<t15)))) (
 Q false))
theorem F192_calls(p0_0:Int)(p0_1:Int)(p0_2:Int)(p0_3:Int)(p0_4:Int)(p0_5:Int)(p1:Int)(Q:Bool->Pr)(w:World)(h:F192 p0_0 p0_1 p0_2 p0_3 p0_4 p0_5 p1 Q w):Calls Tryz.prog 192 #[(.agg #[(iv p0_0),(iv p0_1),(iv p0_2),(iv p0_3),(iv p0_4),(iv p0_5)]),(iv p1)] w (RetT [.c .bool] Q):=cF (an:=an192) Tryz.func192 (by kernel_rfl) h
def an142:An:=(.sq .z (.sq (.sq .z (.br (.sq .z .z) .z)) (.sq (.sq .z (.br (.sq .z .z) .z)) (.sq .z (.sq .z (.sq .z (.sq (.sq (.jn [(54,.c .bool)] .z) (.br (.sq .z .z) .z)) (.sq .z (.sq .z (.sq (.sq .z (.br (.sq .z .z) .z)) (.sq .z (.sq (.sq .z (.bl (.lp [(15,.c (.int .i64))] (.sq (.sq .z (.br .z .z)) (.sq (.bl (.sq .z (.br (.sq .z .z) .z))) .z))))) (.sq .z .z)))))))))))))
def F142(p0:Option Addr)(Q:(Option Addr)×Sl×Int->Pr):Pr:=
 deref p0 λa=>
 ldB (a.add 2) λt19=>
 br t19 (
 Q (none,⟨none,0,0⟩,5)) (
 deref p0 λa_3=>
 ldS (a_3.add 0) λt23=>
 br (decide ((t23.len:Int)<2)) (
 Q (none,⟨none,0,0⟩,50)) (
 callF Tryz.prog 148 [(.pointer p0),(iv 0)] [.c .slice,.c I64] λ(t28:Sl×Int)=>
 callF Tryz.prog 148 [(.pointer p0),(iv 1)] [.c .slice,.c I64] λ(t33:Sl×Int)=>
 callF Tryz.prog 190 [(slV t28.1),(slV t33.1)] [.agg [I64,I64,I64,I64,I64,I64],.c I64] λ(t39:(Int×Int×Int×Int×Int×Int)×Int)=>
 nvs 61 [(iv 0),(iv 0),(iv 0),(iv 0),(iv 0),(iv 0)] [(iv t39.1.1),(iv t39.1.2.1),(iv t39.1.2.2.1),(iv t39.1.2.2.2.1),(iv t39.1.2.2.2.2.1),(iv t39.1.2.2.2.2.2)] λr=>
 jn (S:=Bool) (λR=>
 drw<|
 br (t39.2 !=0) (
 R true) (
 deref p0 λa_7=>
 ldS (a_7.add 0) λt48=>
 ldI (bA r 1) λt52=>
 R (((t48.len:Int)!=t52)))) λs=>
 br s (
 Q (none,⟨none,0,0⟩,50)) (
 ldA [I64,I64,I64,I64] (bA r 1) λ(t57:Int×Int×Int×Int)=>
 callF Tryz.prog 49 [(.agg #[(iv t57.1),(iv t57.2.1),(iv t57.2.2.1),(iv t57.2.2.2)])] [.agg [I64,I64,I64,I64,I64,I64],.c I64] λ(t58:(Int×Int×Int×Int×Int×Int)×Int)=>
 nvs 38 [(iv 0),(iv 0),(iv 0),(iv 0),(iv 0),(iv 0)] [(iv t58.1.1),(iv t58.1.2.1),(iv t58.1.2.2.1),(iv t58.1.2.2.2.1),(iv t58.1.2.2.2.2.1),(iv t58.1.2.2.2.2.2)] λr_1=>
 ldI (bA r 2) λt65=>
 ldI (bA r 5) λt67=>
 callF Tryz.prog 146 [(.pointer p0),(iv 3),(iv t65),(iv t67)] [.c .ptr,.c .slice,.c I64] λ(t68:(Option Addr)×Sl×Int)=>
 br (t68.2.2 !=0) (
 Q (none,⟨none,0,0⟩,t68.2.2)) (
 callF Tryz.prog 191 [(slV t68.2.1)] [.c .slice,.c I64] λ(t77:Sl×Int)=>
 loopE (S:=Int) (λX s_1=>
 br (decide (s_1<(t77.1.len:Int))) (
 drw<|
 ldA [I64,I64,I64,I64,I64,I64] (bA r_1 0) λ(t86:Int×Int×Int×Int×Int×Int)=>
 el t77.1 s_1 5 λa_22=>
 ldI (a_22.add 1) λt91=>
 callF Tryz.prog 192 [(.agg #[(iv t86.1),(iv t86.2.1),(iv t86.2.2.1),(iv t86.2.2.2.1),(iv t86.2.2.2.2.1),(iv t86.2.2.2.2.2)]),(iv t91)] [.c .bool] λ(t92:Bool)=>
 br (!t92) (
 Q (none,⟨none,0,0⟩,50)) (
 X ((w64 (s_1+1))))) (
 ldA [I64,I64,I64,I64,I64,I64] (bA r 0) λ(t95:Int×Int×Int×Int×Int×Int)=>
 ldA [I64,I64,I64,I64,I64,I64] (bA r_1 0) λ(t96:Int×Int×Int×Int×Int×Int)=>
 nw (.cells #[(.pointer p0),(iv t95.1),(iv t95.2.1),(iv t95.2.2.1),(iv t95.2.2.2.1),(iv t95.2.2.2.2.1),(iv t95.2.2.2.2.2),(iv t96.1),(iv t96.2.1),(iv t96.2.2.1),(iv t96.2.2.2.1),(iv t96.2.2.2.2.1),(iv t96.2.2.2.2.2),(.pointer t68.1),(.bool false),(.bool false),(.slice none 0 0)] 149) λr_2=>
 Q ((some ⟨r_2,0,none⟩),t77.1,0))) 0))))
theorem F142_calls(p0:Option Addr)(Q:(Option Addr)×Sl×Int->Pr)(w:World)(h:F142 p0 Q w):Calls Tryz.prog 142 #[(.pointer p0)] w (RetT [.c .ptr,.c .slice,.c I64] Q):=cF (an:=an142) Tryz.func142 (by kernel_rfl) h
def an93:An:=(.sq .z (.sq .z (.sq (.sq .z (.br (.sq .z .z) .z)) (.sq (.jn [(6,.c (.int .i64)),(7,.c .ptr)] (.rj [⟨false,[3,8,14,20],[3,8,14,15,16,17,18,19,20],[(7,.c .ptr),(46,.agg [(.int .i64),(.int .i64),(.int .i64),(.int .i64),(.int .i64),(.int .i64)]),(47,.c (.int .i64))]⟩])) (.sq (.sq .z (.br (.sq .z .z) .z)) (.sq .z (.sq (.sq (.jn [(70,.c .bool)] .z) (.br (.sq .z .z) .z)) (.sq .z (.sq (.sq .z (.bl (.lp [(11,.c (.int .i64))] (.sq (.sq .z (.br .z .z)) (.sq (.jn [] (.bl (.sq .z (.sq (.sq .z (.br (.sq .z .z) .z)) (.sq .z (.sq (.sq .z (.br .z .z)) (.sq .z (.sq .z (.br (.sq .z .z) .z))))))))) .z))))) (.sq (.sq .z (.sq .z (.br (.sq .z .z) .z))) (.sq (.sq .z (.sq .z (.br (.sq .z .z) .z))) (.sq .z .z))))))))))))
def F93(p0:Option Addr)(Q:(Option Addr)×Int->Pr):Pr:=
 callF Tryz.prog 142 [(.pointer p0)] [.c .ptr,.c .slice,.c I64] λ(t21:(Option Addr)×Sl×Int)=>
 br (t21.2.2 !=0) (
 Q (none,t21.2.2)) (
 jn (S:=Int×Option Addr) (λR=>
 drw<|
 deref t21.1 λa=>
 deref t21.1 λa_2=>
 ldP (a_2.add 13) λt36=>
 deref t21.1 λa_5=>
 jn (S:=(Option Addr)×(Int×Int×Int×Int×Int×Int)×Int) (λR_1=>
 both (
 ldA [I64,I64,I64,I64,I64,I64] (a.add 1) λ(t32:Int×Int×Int×Int×Int×Int)=>
 both (
 callF Tryz.prog 145 [(.pointer t36)] [.c I64] λ(t37:Int)=>
 ldI (a_5.add 3) λt43=>
 both (
 callF Tryz.prog 144 [(iv t37),(iv t43)] [.c I64] λ(t44:Int)=>
 both (
 callF Tryz.prog 143 [(.agg #[(iv t32.1),(iv t32.2.1),(iv t32.2.2.1),(iv t32.2.2.2.1),(iv t32.2.2.2.2.1),(iv t32.2.2.2.2.2)]),(iv t44)] [.agg [I64,I64,I64,I64,I64,I64],.c I64] λ(t45:(Int×Int×Int×Int×Int×Int)×Int)=>
 nw (.cells #[(iv 0),(iv 0),(iv 0),(iv 0),(iv 0),(iv 0)] 61) λr=>
 R_1 ((some ⟨r,0,none⟩),(t45.1.1,t45.1.2.1,t45.1.2.2.1,t45.1.2.2.2.1,t45.1.2.2.2.2.1,t45.1.2.2.2.2.2),t45.2)) (
 nw (.cells #[(iv 0),(iv 0),(iv 0),(iv 0),(iv 0),(iv 0)] 61) λr_1=>
 callF Tryz.prog 143 [(.agg #[(iv t32.1),(iv t32.2.1),(iv t32.2.2.1),(iv t32.2.2.2.1),(iv t32.2.2.2.2.1),(iv t32.2.2.2.2.2)]),(iv t44)] [.agg [I64,I64,I64,I64,I64,I64],.c I64] λ(t45_1:(Int×Int×Int×Int×Int×Int)×Int)=>
 R_1 ((some ⟨r_1,0,none⟩),(t45_1.1.1,t45_1.1.2.1,t45_1.1.2.2.1,t45_1.1.2.2.2.1,t45_1.1.2.2.2.2.1,t45_1.1.2.2.2.2.2),t45_1.2))) (
 nw (.cells #[(iv 0),(iv 0),(iv 0),(iv 0),(iv 0),(iv 0)] 61) λr_2=>
 callF Tryz.prog 144 [(iv t37),(iv t43)] [.c I64] λ(t44_1:Int)=>
 callF Tryz.prog 143 [(.agg #[(iv t32.1),(iv t32.2.1),(iv t32.2.2.1),(iv t32.2.2.2.1),(iv t32.2.2.2.2.1),(iv t32.2.2.2.2.2)]),(iv t44_1)] [.agg [I64,I64,I64,I64,I64,I64],.c I64] λ(t45_2:(Int×Int×Int×Int×Int×Int)×Int)=>
 R_1 ((some ⟨r_2,0,none⟩),(t45_2.1.1,t45_2.1.2.1,t45_2.1.2.2.1,t45_2.1.2.2.2.1,t45_2.1.2.2.2.2.1,t45_2.1.2.2.2.2.2),t45_2.2))) (
 both (
 ldI (a_5.add 3) λt43_1=>
 both (
 callF Tryz.prog 145 [(.pointer t36)] [.c I64] λ(t37_1:Int)=>
 both (
 callF Tryz.prog 144 [(iv t37_1),(iv t43_1)] [.c I64] λ(t44_2:Int)=>
 both (
 callF Tryz.prog 143 [(.agg #[(iv t32.1),(iv t32.2.1),(iv t32.2.2.1),(iv t32.2.2.2.1),(iv t32.2.2.2.2.1),(iv t32.2.2.2.2.2)]),(iv t44_2)] [.agg [I64,I64,I64,I64,I64,I64],.c I64] λ(t45_3:(Int×Int×Int×Int×Int×Int)×Int)=>
 nw (.cells #[(iv 0),(iv 0),(iv 0),(iv 0),(iv 0),(iv 0)] 61) λr_3=>
 R_1 ((some ⟨r_3,0,none⟩),(t45_3.1.1,t45_3.1.2.1,t45_3.1.2.2.1,t45_3.1.2.2.2.1,t45_3.1.2.2.2.2.1,t45_3.1.2.2.2.2.2),t45_3.2)) (
 nw (.cells #[(iv 0),(iv 0),(iv 0),(iv 0),(iv 0),(iv 0)] 61) λr_4=>
 callF Tryz.prog 143 [(.agg #[(iv t32.1),(iv t32.2.1),(iv t32.2.2.1),(iv t32.2.2.2.1),(iv t32.2.2.2.2.1),(iv t32.2.2.2.2.2)]),(iv t44_2)] [.agg [I64,I64,I64,I64,I64,I64],.c I64] λ(t45_4:(Int×Int×Int×Int×Int×Int)×Int)=>
 R_1 ((some ⟨r_4,0,none⟩),(t45_4.1.1,t45_4.1.2.1,t45_4.1.2.2.1,t45_4.1.2.2.2.1,t45_4.1.2.2.2.2.1,t45_4.1.2.2.2.2.2),t45_4.2))) (
 nw (.cells #[(iv 0),(iv 0),(iv 0),(iv 0),(iv 0),(iv 0)] 61) λr_5=>
 callF Tryz.prog 144 [(iv t37_1),(iv t43_1)] [.c I64] λ(t44_3:Int)=>
 callF Tryz.prog 143 [(.agg #[(iv t32.1),(iv t32.2.1),(iv t32.2.2.1),(iv t32.2.2.2.1),(iv t32.2.2.2.2.1),(iv t32.2.2.2.2.2)]),(iv t44_3)] [.agg [I64,I64,I64,I64,I64,I64],.c I64] λ(t45_5:(Int×Int×Int×Int×Int×Int)×Int)=>
 R_1 ((some ⟨r_5,0,none⟩),(t45_5.1.1,t45_5.1.2.1,t45_5.1.2.2.1,t45_5.1.2.2.2.1,t45_5.1.2.2.2.2.1,t45_5.1.2.2.2.2.2),t45_5.2))) (
 nw (.cells #[(iv 0),(iv 0),(iv 0),(iv 0),(iv 0),(iv 0)] 61) λr_6=>
 callF Tryz.prog 145 [(.pointer t36)] [.c I64] λ(t37_2:Int)=>
 callF Tryz.prog 144 [(iv t37_2),(iv t43_1)] [.c I64] λ(t44_4:Int)=>
 callF Tryz.prog 143 [(.agg #[(iv t32.1),(iv t32.2.1),(iv t32.2.2.1),(iv t32.2.2.2.1),(iv t32.2.2.2.2.1),(iv t32.2.2.2.2.2)]),(iv t44_4)] [.agg [I64,I64,I64,I64,I64,I64],.c I64] λ(t45_6:(Int×Int×Int×Int×Int×Int)×Int)=>
 R_1 ((some ⟨r_6,0,none⟩),(t45_6.1.1,t45_6.1.2.1,t45_6.1.2.2.1,t45_6.1.2.2.2.1,t45_6.1.2.2.2.2.1,t45_6.1.2.2.2.2.2),t45_6.2))) (
 nw (.cells #[(iv 0),(iv 0),(iv 0),(iv 0),(iv 0),(iv 0)] 61) λr_7=>
 both (
 callF Tryz.prog 145 [(.pointer t36)] [.c I64] λ(t37_3:Int)=>
 ldI (a_5.add 3) λt43_2=>
 callF Tryz.prog 144 [(iv t37_3),(iv t43_2)] [.c I64] λ(t44_5:Int)=>
 callF Tryz.prog 143 [(.agg #[(iv t32.1),(iv t32.2.1),(iv t32.2.2.1),(iv t32.2.2.2.1),(iv t32.2.2.2.2.1),(iv t32.2.2.2.2.2)]),(iv t44_5)] [.agg [I64,I64,I64,I64,I64,I64],.c I64] λ(t45_7:(Int×Int×Int×Int×Int×Int)×Int)=>
 R_1 ((some ⟨r_7,0,none⟩),(t45_7.1.1,t45_7.1.2.1,t45_7.1.2.2.1,t45_7.1.2.2.2.1,t45_7.1.2.2.2.2.1,t45_7.1.2.2.2.2.2),t45_7.2)) (
 ldI (a_5.add 3) λt43_3=>
 callF Tryz.prog 145 [(.pointer t36)] [.c I64] λ(t37_4:Int)=>
 callF Tryz.prog 144 [(iv t37_4),(iv t43_3)] [.c I64] λ(t44_6:Int)=>
 callF Tryz.prog 143 [(.agg #[(iv t32.1),(iv t32.2.1),(iv t32.2.2.1),(iv t32.2.2.2.1),(iv t32.2.2.2.2.1),(iv t32.2.2.2.2.2)]),(iv t44_6)] [.agg [I64,I64,I64,I64,I64,I64],.c I64] λ(t45_8:(Int×Int×Int×Int×Int×Int)×Int)=>
 R_1 ((some ⟨r_7,0,none⟩),(t45_8.1.1,t45_8.1.2.1,t45_8.1.2.2.1,t45_8.1.2.2.2.1,t45_8.1.2.2.2.2.1,t45_8.1.2.2.2.2.2),t45_8.2))))) (
 both (
 callF Tryz.prog 145 [(.pointer t36)] [.c I64] λ(t37_5:Int)=>
 ldI (a_5.add 3) λt43_4=>
 both (
 ldA [I64,I64,I64,I64,I64,I64] (a.add 1) λ(t32_1:Int×Int×Int×Int×Int×Int)=>
 both (
 callF Tryz.prog 144 [(iv t37_5),(iv t43_4)] [.c I64] λ(t44_7:Int)=>
 both (
 callF Tryz.prog 143 [(.agg #[(iv t32_1.1),(iv t32_1.2.1),(iv t32_1.2.2.1),(iv t32_1.2.2.2.1),(iv t32_1.2.2.2.2.1),(iv t32_1.2.2.2.2.2)]),(iv t44_7)] [.agg [I64,I64,I64,I64,I64,I64],.c I64] λ(t45_9:(Int×Int×Int×Int×Int×Int)×Int)=>
 nw (.cells #[(iv 0),(iv 0),(iv 0),(iv 0),(iv 0),(iv 0)] 61) λr_8=>
 R_1 ((some ⟨r_8,0,none⟩),(t45_9.1.1,t45_9.1.2.1,t45_9.1.2.2.1,t45_9.1.2.2.2.1,t45_9.1.2.2.2.2.1,t45_9.1.2.2.2.2.2),t45_9.2)) (
 nw (.cells #[(iv 0),(iv 0),(iv 0),(iv 0),(iv 0),(iv 0)] 61) λr_9=>
 callF Tryz.prog 143 [(.agg #[(iv t32_1.1),(iv t32_1.2.1),(iv t32_1.2.2.1),(iv t32_1.2.2.2.1),(iv t32_1.2.2.2.2.1),(iv t32_1.2.2.2.2.2)]),(iv t44_7)] [.agg [I64,I64,I64,I64,I64,I64],.c I64] λ(t45_10:(Int×Int×Int×Int×Int×Int)×Int)=>
 R_1 ((some ⟨r_9,0,none⟩),(t45_10.1.1,t45_10.1.2.1,t45_10.1.2.2.1,t45_10.1.2.2.2.1,t45_10.1.2.2.2.2.1,t45_10.1.2.2.2.2.2),t45_10.2))) (
 nw (.cells #[(iv 0),(iv 0),(iv 0),(iv 0),(iv 0),(iv 0)] 61) λr_10=>
 callF Tryz.prog 144 [(iv t37_5),(iv t43_4)] [.c I64] λ(t44_8:Int)=>
 callF Tryz.prog 143 [(.agg #[(iv t32_1.1),(iv t32_1.2.1),(iv t32_1.2.2.1),(iv t32_1.2.2.2.1),(iv t32_1.2.2.2.2.1),(iv t32_1.2.2.2.2.2)]),(iv t44_8)] [.agg [I64,I64,I64,I64,I64,I64],.c I64] λ(t45_11:(Int×Int×Int×Int×Int×Int)×Int)=>
 R_1 ((some ⟨r_10,0,none⟩),(t45_11.1.1,t45_11.1.2.1,t45_11.1.2.2.1,t45_11.1.2.2.2.1,t45_11.1.2.2.2.2.1,t45_11.1.2.2.2.2.2),t45_11.2))) (
 both (
 callF Tryz.prog 144 [(iv t37_5),(iv t43_4)] [.c I64] λ(t44_9:Int)=>
 ldA [I64,I64,I64,I64,I64,I64] (a.add 1) λ(t32_2:Int×Int×Int×Int×Int×Int)=>
 both (
 callF Tryz.prog 143 [(.agg #[(iv t32_2.1),(iv t32_2.2.1),(iv t32_2.2.2.1),(iv t32_2.2.2.2.1),(iv t32_2.2.2.2.2.1),(iv t32_2.2.2.2.2.2)]),(iv t44_9)] [.agg [I64,I64,I64,I64,I64,I64],.c I64] λ(t45_12:(Int×Int×Int×Int×Int×Int)×Int)=>
 nw (.cells #[(iv 0),(iv 0),(iv 0),(iv 0),(iv 0),(iv 0)] 61) λr_11=>
 R_1 ((some ⟨r_11,0,none⟩),(t45_12.1.1,t45_12.1.2.1,t45_12.1.2.2.1,t45_12.1.2.2.2.1,t45_12.1.2.2.2.2.1,t45_12.1.2.2.2.2.2),t45_12.2)) (
 nw (.cells #[(iv 0),(iv 0),(iv 0),(iv 0),(iv 0),(iv 0)] 61) λr_12=>
 callF Tryz.prog 143 [(.agg #[(iv t32_2.1),(iv t32_2.2.1),(iv t32_2.2.2.1),(iv t32_2.2.2.2.1),(iv t32_2.2.2.2.2.1),(iv t32_2.2.2.2.2.2)]),(iv t44_9)] [.agg [I64,I64,I64,I64,I64,I64],.c I64] λ(t45_13:(Int×Int×Int×Int×Int×Int)×Int)=>
 R_1 ((some ⟨r_12,0,none⟩),(t45_13.1.1,t45_13.1.2.1,t45_13.1.2.2.1,t45_13.1.2.2.2.1,t45_13.1.2.2.2.2.1,t45_13.1.2.2.2.2.2),t45_13.2))) (
 nw (.cells #[(iv 0),(iv 0),(iv 0),(iv 0),(iv 0),(iv 0)] 61) λr_13=>
 both (
 ldA [I64,I64,I64,I64,I64,I64] (a.add 1) λ(t32_3:Int×Int×Int×Int×Int×Int)=>
 callF Tryz.prog 144 [(iv t37_5),(iv t43_4)] [.c I64] λ(t44_10:Int)=>
 callF Tryz.prog 143 [(.agg #[(iv t32_3.1),(iv t32_3.2.1),(iv t32_3.2.2.1),(iv t32_3.2.2.2.1),(iv t32_3.2.2.2.2.1),(iv t32_3.2.2.2.2.2)]),(iv t44_10)] [.agg [I64,I64,I64,I64,I64,I64],.c I64] λ(t45_14:(Int×Int×Int×Int×Int×Int)×Int)=>
 R_1 ((some ⟨r_13,0,none⟩),(t45_14.1.1,t45_14.1.2.1,t45_14.1.2.2.1,t45_14.1.2.2.2.1,t45_14.1.2.2.2.2.1,t45_14.1.2.2.2.2.2),t45_14.2)) (
 callF Tryz.prog 144 [(iv t37_5),(iv t43_4)] [.c I64] λ(t44_11:Int)=>
 ldA [I64,I64,I64,I64,I64,I64] (a.add 1) λ(t32_4:Int×Int×Int×Int×Int×Int)=>
 callF Tryz.prog 143 [(.agg #[(iv t32_4.1),(iv t32_4.2.1),(iv t32_4.2.2.1),(iv t32_4.2.2.2.1),(iv t32_4.2.2.2.2.1),(iv t32_4.2.2.2.2.2)]),(iv t44_11)] [.agg [I64,I64,I64,I64,I64,I64],.c I64] λ(t45_15:(Int×Int×Int×Int×Int×Int)×Int)=>
 R_1 ((some ⟨r_13,0,none⟩),(t45_15.1.1,t45_15.1.2.1,t45_15.1.2.2.1,t45_15.1.2.2.2.1,t45_15.1.2.2.2.2.1,t45_15.1.2.2.2.2.2),t45_15.2))))) (
 both (
 ldI (a_5.add 3) λt43_5=>
 both (
 ldA [I64,I64,I64,I64,I64,I64] (a.add 1) λ(t32_5:Int×Int×Int×Int×Int×Int)=>
 both (
 callF Tryz.prog 145 [(.pointer t36)] [.c I64] λ(t37_6:Int)=>
 both (
 callF Tryz.prog 144 [(iv t37_6),(iv t43_5)] [.c I64] λ(t44_12:Int)=>
 both (
 callF Tryz.prog 143 [(.agg #[(iv t32_5.1),(iv t32_5.2.1),(iv t32_5.2.2.1),(iv t32_5.2.2.2.1),(iv t32_5.2.2.2.2.1),(iv t32_5.2.2.2.2.2)]),(iv t44_12)] [.agg [I64,I64,I64,I64,I64,I64],.c I64] λ(t45_16:(Int×Int×Int×Int×Int×Int)×Int)=>
 nw (.cells #[(iv 0),(iv 0),(iv 0),(iv 0),(iv 0),(iv 0)] 61) λr_14=>
 R_1 ((some ⟨r_14,0,none⟩),(t45_16.1.1,t45_16.1.2.1,t45_16.1.2.2.1,t45_16.1.2.2.2.1,t45_16.1.2.2.2.2.1,t45_16.1.2.2.2.2.2),t45_16.2)) (
 nw (.cells #[(iv 0),(iv 0),(iv 0),(iv 0),(iv 0),(iv 0)] 61) λr_15=>
 callF Tryz.prog 143 [(.agg #[(iv t32_5.1),(iv t32_5.2.1),(iv t32_5.2.2.1),(iv t32_5.2.2.2.1),(iv t32_5.2.2.2.2.1),(iv t32_5.2.2.2.2.2)]),(iv t44_12)] [.agg [I64,I64,I64,I64,I64,I64],.c I64] λ(t45_17:(Int×Int×Int×Int×Int×Int)×Int)=>
 R_1 ((some ⟨r_15,0,none⟩),(t45_17.1.1,t45_17.1.2.1,t45_17.1.2.2.1,t45_17.1.2.2.2.1,t45_17.1.2.2.2.2.1,t45_17.1.2.2.2.2.2),t45_17.2))) (
 nw (.cells #[(iv 0),(iv 0),(iv 0),(iv 0),(iv 0),(iv 0)] 61) λr_16=>
 callF Tryz.prog 144 [(iv t37_6),(iv t43_5)] [.c I64] λ(t44_13:Int)=>
 callF Tryz.prog 143 [(.agg #[(iv t32_5.1),(iv t32_5.2.1),(iv t32_5.2.2.1),(iv t32_5.2.2.2.1),(iv t32_5.2.2.2.2.1),(iv t32_5.2.2.2.2.2)]),(iv t44_13)] [.agg [I64,I64,I64,I64,I64,I64],.c I64] λ(t45_18:(Int×Int×Int×Int×Int×Int)×Int)=>
 R_1 ((some ⟨r_16,0,none⟩),(t45_18.1.1,t45_18.1.2.1,t45_18.1.2.2.1,t45_18.1.2.2.2.1,t45_18.1.2.2.2.2.1,t45_18.1.2.2.2.2.2),t45_18.2))) (
 nw (.cells #[(iv 0),(iv 0),(iv 0),(iv 0),(iv 0),(iv 0)] 61) λr_17=>
 callF Tryz.prog 145 [(.pointer t36)] [.c I64] λ(t37_7:Int)=>
 callF Tryz.prog 144 [(iv t37_7),(iv t43_5)] [.c I64] λ(t44_14:Int)=>
 callF Tryz.prog 143 [(.agg #[(iv t32_5.1),(iv t32_5.2.1),(iv t32_5.2.2.1),(iv t32_5.2.2.2.1),(iv t32_5.2.2.2.2.1),(iv t32_5.2.2.2.2.2)]),(iv t44_14)] [.agg [I64,I64,I64,I64,I64,I64],.c I64] λ(t45_19:(Int×Int×Int×Int×Int×Int)×Int)=>
 R_1 ((some ⟨r_17,0,none⟩),(t45_19.1.1,t45_19.1.2.1,t45_19.1.2.2.1,t45_19.1.2.2.2.1,t45_19.1.2.2.2.2.1,t45_19.1.2.2.2.2.2),t45_19.2))) (
 both (
 callF Tryz.prog 145 [(.pointer t36)] [.c I64] λ(t37_8:Int)=>
 both (
 ldA [I64,I64,I64,I64,I64,I64] (a.add 1) λ(t32_6:Int×Int×Int×Int×Int×Int)=>
 both (
 callF Tryz.prog 144 [(iv t37_8),(iv t43_5)] [.c I64] λ(t44_15:Int)=>
 both (
 callF Tryz.prog 143 [(.agg #[(iv t32_6.1),(iv t32_6.2.1),(iv t32_6.2.2.1),(iv t32_6.2.2.2.1),(iv t32_6.2.2.2.2.1),(iv t32_6.2.2.2.2.2)]),(iv t44_15)] [.agg [I64,I64,I64,I64,I64,I64],.c I64] λ(t45_20:(Int×Int×Int×Int×Int×Int)×Int)=>
 nw (.cells #[(iv 0),(iv 0),(iv 0),(iv 0),(iv 0),(iv 0)] 61) λr_18=>
 R_1 ((some ⟨r_18,0,none⟩),(t45_20.1.1,t45_20.1.2.1,t45_20.1.2.2.1,t45_20.1.2.2.2.1,t45_20.1.2.2.2.2.1,t45_20.1.2.2.2.2.2),t45_20.2)) (
 nw (.cells #[(iv 0),(iv 0),(iv 0),(iv 0),(iv 0),(iv 0)] 61) λr_19=>
 callF Tryz.prog 143 [(.agg #[(iv t32_6.1),(iv t32_6.2.1),(iv t32_6.2.2.1),(iv t32_6.2.2.2.1),(iv t32_6.2.2.2.2.1),(iv t32_6.2.2.2.2.2)]),(iv t44_15)] [.agg [I64,I64,I64,I64,I64,I64],.c I64] λ(t45_21:(Int×Int×Int×Int×Int×Int)×Int)=>
 R_1 ((some ⟨r_19,0,none⟩),(t45_21.1.1,t45_21.1.2.1,t45_21.1.2.2.1,t45_21.1.2.2.2.1,t45_21.1.2.2.2.2.1,t45_21.1.2.2.2.2.2),t45_21.2))) (
 nw (.cells #[(iv 0),(iv 0),(iv 0),(iv 0),(iv 0),(iv 0)] 61) λr_20=>
 callF Tryz.prog 144 [(iv t37_8),(iv t43_5)] [.c I64] λ(t44_16:Int)=>
 callF Tryz.prog 143 [(.agg #[(iv t32_6.1),(iv t32_6.2.1),(iv t32_6.2.2.1),(iv t32_6.2.2.2.1),(iv t32_6.2.2.2.2.1),(iv t32_6.2.2.2.2.2)]),(iv t44_16)] [.agg [I64,I64,I64,I64,I64,I64],.c I64] λ(t45_22:(Int×Int×Int×Int×Int×Int)×Int)=>
 R_1 ((some ⟨r_20,0,none⟩),(t45_22.1.1,t45_22.1.2.1,t45_22.1.2.2.1,t45_22.1.2.2.2.1,t45_22.1.2.2.2.2.1,t45_22.1.2.2.2.2.2),t45_22.2))) (
 both (
 callF Tryz.prog 144 [(iv t37_8),(iv t43_5)] [.c I64] λ(t44_17:Int)=>
 ldA [I64,I64,I64,I64,I64,I64] (a.add 1) λ(t32_7:Int×Int×Int×Int×Int×Int)=>
 both (
 callF Tryz.prog 143 [(.agg #[(iv t32_7.1),(iv t32_7.2.1),(iv t32_7.2.2.1),(iv t32_7.2.2.2.1),(iv t32_7.2.2.2.2.1),(iv t32_7.2.2.2.2.2)]),(iv t44_17)] [.agg [I64,I64,I64,I64,I64,I64],.c I64] λ(t45_23:(Int×Int×Int×Int×Int×Int)×Int)=>
 nw (.cells #[(iv 0),(iv 0),(iv 0),(iv 0),(iv 0),(iv 0)] 61) λr_21=>
 R_1 ((some ⟨r_21,0,none⟩),(t45_23.1.1,t45_23.1.2.1,t45_23.1.2.2.1,t45_23.1.2.2.2.1,t45_23.1.2.2.2.2.1,t45_23.1.2.2.2.2.2),t45_23.2)) (
 nw (.cells #[(iv 0),(iv 0),(iv 0),(iv 0),(iv 0),(iv 0)] 61) λr_22=>
 callF Tryz.prog 143 [(.agg #[(iv t32_7.1),(iv t32_7.2.1),(iv t32_7.2.2.1),(iv t32_7.2.2.2.1),(iv t32_7.2.2.2.2.1),(iv t32_7.2.2.2.2.2)]),(iv t44_17)] [.agg [I64,I64,I64,I64,I64,I64],.c I64] λ(t45_24:(Int×Int×Int×Int×Int×Int)×Int)=>
 R_1 ((some ⟨r_22,0,none⟩),(t45_24.1.1,t45_24.1.2.1,t45_24.1.2.2.1,t45_24.1.2.2.2.1,t45_24.1.2.2.2.2.1,t45_24.1.2.2.2.2.2),t45_24.2))) (
 nw (.cells #[(iv 0),(iv 0),(iv 0),(iv 0),(iv 0),(iv 0)] 61) λr_23=>
 both (
 ldA [I64,I64,I64,I64,I64,I64] (a.add 1) λ(t32_8:Int×Int×Int×Int×Int×Int)=>
 callF Tryz.prog 144 [(iv t37_8),(iv t43_5)] [.c I64] λ(t44_18:Int)=>
 callF Tryz.prog 143 [(.agg #[(iv t32_8.1),(iv t32_8.2.1),(iv t32_8.2.2.1),(iv t32_8.2.2.2.1),(iv t32_8.2.2.2.2.1),(iv t32_8.2.2.2.2.2)]),(iv t44_18)] [.agg [I64,I64,I64,I64,I64,I64],.c I64] λ(t45_25:(Int×Int×Int×Int×Int×Int)×Int)=>
 R_1 ((some ⟨r_23,0,none⟩),(t45_25.1.1,t45_25.1.2.1,t45_25.1.2.2.1,t45_25.1.2.2.2.1,t45_25.1.2.2.2.2.1,t45_25.1.2.2.2.2.2),t45_25.2)) (
 callF Tryz.prog 144 [(iv t37_8),(iv t43_5)] [.c I64] λ(t44_19:Int)=>
 ldA [I64,I64,I64,I64,I64,I64] (a.add 1) λ(t32_9:Int×Int×Int×Int×Int×Int)=>
 callF Tryz.prog 143 [(.agg #[(iv t32_9.1),(iv t32_9.2.1),(iv t32_9.2.2.1),(iv t32_9.2.2.2.1),(iv t32_9.2.2.2.2.1),(iv t32_9.2.2.2.2.2)]),(iv t44_19)] [.agg [I64,I64,I64,I64,I64,I64],.c I64] λ(t45_26:(Int×Int×Int×Int×Int×Int)×Int)=>
 R_1 ((some ⟨r_23,0,none⟩),(t45_26.1.1,t45_26.1.2.1,t45_26.1.2.2.1,t45_26.1.2.2.2.1,t45_26.1.2.2.2.2.1,t45_26.1.2.2.2.2.2),t45_26.2))))) (
 nw (.cells #[(iv 0),(iv 0),(iv 0),(iv 0),(iv 0),(iv 0)] 61) λr_24=>
 both (
 ldA [I64,I64,I64,I64,I64,I64] (a.add 1) λ(t32_10:Int×Int×Int×Int×Int×Int)=>
 callF Tryz.prog 145 [(.pointer t36)] [.c I64] λ(t37_9:Int)=>
 callF Tryz.prog 144 [(iv t37_9),(iv t43_5)] [.c I64] λ(t44_20:Int)=>
 callF Tryz.prog 143 [(.agg #[(iv t32_10.1),(iv t32_10.2.1),(iv t32_10.2.2.1),(iv t32_10.2.2.2.1),(iv t32_10.2.2.2.2.1),(iv t32_10.2.2.2.2.2)]),(iv t44_20)] [.agg [I64,I64,I64,I64,I64,I64],.c I64] λ(t45_27:(Int×Int×Int×Int×Int×Int)×Int)=>
 R_1 ((some ⟨r_24,0,none⟩),(t45_27.1.1,t45_27.1.2.1,t45_27.1.2.2.1,t45_27.1.2.2.2.1,t45_27.1.2.2.2.2.1,t45_27.1.2.2.2.2.2),t45_27.2)) (
 callF Tryz.prog 145 [(.pointer t36)] [.c I64] λ(t37_10:Int)=>
 both (
 ldA [I64,I64,I64,I64,I64,I64] (a.add 1) λ(t32_11:Int×Int×Int×Int×Int×Int)=>
 callF Tryz.prog 144 [(iv t37_10),(iv t43_5)] [.c I64] λ(t44_21:Int)=>
 callF Tryz.prog 143 [(.agg #[(iv t32_11.1),(iv t32_11.2.1),(iv t32_11.2.2.1),(iv t32_11.2.2.2.1),(iv t32_11.2.2.2.2.1),(iv t32_11.2.2.2.2.2)]),(iv t44_21)] [.agg [I64,I64,I64,I64,I64,I64],.c I64] λ(t45_28:(Int×Int×Int×Int×Int×Int)×Int)=>
 R_1 ((some ⟨r_24,0,none⟩),(t45_28.1.1,t45_28.1.2.1,t45_28.1.2.2.1,t45_28.1.2.2.2.1,t45_28.1.2.2.2.2.1,t45_28.1.2.2.2.2.2),t45_28.2)) (
 callF Tryz.prog 144 [(iv t37_10),(iv t43_5)] [.c I64] λ(t44_22:Int)=>
 ldA [I64,I64,I64,I64,I64,I64] (a.add 1) λ(t32_12:Int×Int×Int×Int×Int×Int)=>
 callF Tryz.prog 143 [(.agg #[(iv t32_12.1),(iv t32_12.2.1),(iv t32_12.2.2.1),(iv t32_12.2.2.2.1),(iv t32_12.2.2.2.2.1),(iv t32_12.2.2.2.2.2)]),(iv t44_22)] [.agg [I64,I64,I64,I64,I64,I64],.c I64] λ(t45_29:(Int×Int×Int×Int×Int×Int)×Int)=>
 R_1 ((some ⟨r_24,0,none⟩),(t45_29.1.1,t45_29.1.2.1,t45_29.1.2.2.1,t45_29.1.2.2.2.1,t45_29.1.2.2.2.2.1,t45_29.1.2.2.2.2.2),t45_29.2)))))) (
 nw (.cells #[(iv 0),(iv 0),(iv 0),(iv 0),(iv 0),(iv 0)] 61) λr_25=>
 both (
 ldA [I64,I64,I64,I64,I64,I64] (a.add 1) λ(t32_13:Int×Int×Int×Int×Int×Int)=>
 both (
 callF Tryz.prog 145 [(.pointer t36)] [.c I64] λ(t37_11:Int)=>
 ldI (a_5.add 3) λt43_6=>
 callF Tryz.prog 144 [(iv t37_11),(iv t43_6)] [.c I64] λ(t44_23:Int)=>
 callF Tryz.prog 143 [(.agg #[(iv t32_13.1),(iv t32_13.2.1),(iv t32_13.2.2.1),(iv t32_13.2.2.2.1),(iv t32_13.2.2.2.2.1),(iv t32_13.2.2.2.2.2)]),(iv t44_23)] [.agg [I64,I64,I64,I64,I64,I64],.c I64] λ(t45_30:(Int×Int×Int×Int×Int×Int)×Int)=>
 R_1 ((some ⟨r_25,0,none⟩),(t45_30.1.1,t45_30.1.2.1,t45_30.1.2.2.1,t45_30.1.2.2.2.1,t45_30.1.2.2.2.2.1,t45_30.1.2.2.2.2.2),t45_30.2)) (
 ldI (a_5.add 3) λt43_7=>
 callF Tryz.prog 145 [(.pointer t36)] [.c I64] λ(t37_12:Int)=>
 callF Tryz.prog 144 [(iv t37_12),(iv t43_7)] [.c I64] λ(t44_24:Int)=>
 callF Tryz.prog 143 [(.agg #[(iv t32_13.1),(iv t32_13.2.1),(iv t32_13.2.2.1),(iv t32_13.2.2.2.1),(iv t32_13.2.2.2.2.1),(iv t32_13.2.2.2.2.2)]),(iv t44_24)] [.agg [I64,I64,I64,I64,I64,I64],.c I64] λ(t45_31:(Int×Int×Int×Int×Int×Int)×Int)=>
 R_1 ((some ⟨r_25,0,none⟩),(t45_31.1.1,t45_31.1.2.1,t45_31.1.2.2.1,t45_31.1.2.2.2.1,t45_31.1.2.2.2.2.1,t45_31.1.2.2.2.2.2),t45_31.2))) (
 both (
 callF Tryz.prog 145 [(.pointer t36)] [.c I64] λ(t37_13:Int)=>
 ldI (a_5.add 3) λt43_8=>
 both (
 ldA [I64,I64,I64,I64,I64,I64] (a.add 1) λ(t32_14:Int×Int×Int×Int×Int×Int)=>
 callF Tryz.prog 144 [(iv t37_13),(iv t43_8)] [.c I64] λ(t44_25:Int)=>
 callF Tryz.prog 143 [(.agg #[(iv t32_14.1),(iv t32_14.2.1),(iv t32_14.2.2.1),(iv t32_14.2.2.2.1),(iv t32_14.2.2.2.2.1),(iv t32_14.2.2.2.2.2)]),(iv t44_25)] [.agg [I64,I64,I64,I64,I64,I64],.c I64] λ(t45_32:(Int×Int×Int×Int×Int×Int)×Int)=>
 R_1 ((some ⟨r_25,0,none⟩),(t45_32.1.1,t45_32.1.2.1,t45_32.1.2.2.1,t45_32.1.2.2.2.1,t45_32.1.2.2.2.2.1,t45_32.1.2.2.2.2.2),t45_32.2)) (
 callF Tryz.prog 144 [(iv t37_13),(iv t43_8)] [.c I64] λ(t44_26:Int)=>
 ldA [I64,I64,I64,I64,I64,I64] (a.add 1) λ(t32_15:Int×Int×Int×Int×Int×Int)=>
 callF Tryz.prog 143 [(.agg #[(iv t32_15.1),(iv t32_15.2.1),(iv t32_15.2.2.1),(iv t32_15.2.2.2.1),(iv t32_15.2.2.2.2.1),(iv t32_15.2.2.2.2.2)]),(iv t44_26)] [.agg [I64,I64,I64,I64,I64,I64],.c I64] λ(t45_33:(Int×Int×Int×Int×Int×Int)×Int)=>
 R_1 ((some ⟨r_25,0,none⟩),(t45_33.1.1,t45_33.1.2.1,t45_33.1.2.2.1,t45_33.1.2.2.2.1,t45_33.1.2.2.2.2.1,t45_33.1.2.2.2.2.2),t45_33.2))) (
 ldI (a_5.add 3) λt43_9=>
 both (
 ldA [I64,I64,I64,I64,I64,I64] (a.add 1) λ(t32_16:Int×Int×Int×Int×Int×Int)=>
 callF Tryz.prog 145 [(.pointer t36)] [.c I64] λ(t37_14:Int)=>
 callF Tryz.prog 144 [(iv t37_14),(iv t43_9)] [.c I64] λ(t44_27:Int)=>
 callF Tryz.prog 143 [(.agg #[(iv t32_16.1),(iv t32_16.2.1),(iv t32_16.2.2.1),(iv t32_16.2.2.2.1),(iv t32_16.2.2.2.2.1),(iv t32_16.2.2.2.2.2)]),(iv t44_27)] [.agg [I64,I64,I64,I64,I64,I64],.c I64] λ(t45_34:(Int×Int×Int×Int×Int×Int)×Int)=>
 R_1 ((some ⟨r_25,0,none⟩),(t45_34.1.1,t45_34.1.2.1,t45_34.1.2.2.1,t45_34.1.2.2.2.1,t45_34.1.2.2.2.2.1,t45_34.1.2.2.2.2.2),t45_34.2)) (
 callF Tryz.prog 145 [(.pointer t36)] [.c I64] λ(t37_15:Int)=>
 both (
 ldA [I64,I64,I64,I64,I64,I64] (a.add 1) λ(t32_17:Int×Int×Int×Int×Int×Int)=>
 callF Tryz.prog 144 [(iv t37_15),(iv t43_9)] [.c I64] λ(t44_28:Int)=>
 callF Tryz.prog 143 [(.agg #[(iv t32_17.1),(iv t32_17.2.1),(iv t32_17.2.2.1),(iv t32_17.2.2.2.1),(iv t32_17.2.2.2.2.1),(iv t32_17.2.2.2.2.2)]),(iv t44_28)] [.agg [I64,I64,I64,I64,I64,I64],.c I64] λ(t45_35:(Int×Int×Int×Int×Int×Int)×Int)=>
 R_1 ((some ⟨r_25,0,none⟩),(t45_35.1.1,t45_35.1.2.1,t45_35.1.2.2.1,t45_35.1.2.2.2.1,t45_35.1.2.2.2.2.1,t45_35.1.2.2.2.2.2),t45_35.2)) (
 callF Tryz.prog 144 [(iv t37_15),(iv t43_9)] [.c I64] λ(t44_29:Int)=>
 ldA [I64,I64,I64,I64,I64,I64] (a.add 1) λ(t32_18:Int×Int×Int×Int×Int×Int)=>
 callF Tryz.prog 143 [(.agg #[(iv t32_18.1),(iv t32_18.2.1),(iv t32_18.2.2.1),(iv t32_18.2.2.2.1),(iv t32_18.2.2.2.2.1),(iv t32_18.2.2.2.2.2)]),(iv t44_29)] [.agg [I64,I64,I64,I64,I64,I64],.c I64] λ(t45_36:(Int×Int×Int×Int×Int×Int)×Int)=>
 R_1 ((some ⟨r_25,0,none⟩),(t45_36.1.1,t45_36.1.2.1,t45_36.1.2.2.1,t45_36.1.2.2.2.1,t45_36.1.2.2.2.2.1,t45_36.1.2.2.2.2.2),t45_36.2))))))))) λs_1=>
 deref s_1.1 λa_38=>
 st (a_38.add 0) (iv s_1.2.1.1)<|
 st (a_38.add 1) (iv s_1.2.1.2.1)<|
 st (a_38.add 2) (iv s_1.2.1.2.2.1)<|
 st (a_38.add 3) (iv s_1.2.1.2.2.2.1)<|
 st (a_38.add 4) (iv s_1.2.1.2.2.2.2.1)<|
 st (a_38.add 5) (iv s_1.2.1.2.2.2.2.2)<|
 R (s_1.2.2,s_1.1)) λs=>
 br (s.1 !=0) (
 Q (none,6)) (
 drw<|
 deref t21.1 λa_39=>
 ldI (a_39.add 3) λt57=>
 deref s.2 λa_44=>
 ldI (a_44.add 5) λt59=>
 callF Tryz.prog 146 [(.pointer p0),(iv 3),(iv t57),(iv t59)] [.c .ptr,.c .slice,.c I64] λ(t60:(Option Addr)×Sl×Int)=>
 jn (S:=Bool) (λR_2=>
 br (t60.2.2 !=0) (
 R_2 true) (
 R_2 ((decide ((t60.2.1.len:Int)>0))))) λs_2=>
 br s_2 (
 Q (none,50)) (
 callF Tryz.prog 147 [(slV t21.2.1)] [.c .slice] λ(t72:Sl)=>
 loopE (S:=Int) (λX s_3=>
 br (decide (s_3<(t72.len:Int))) (
 jn (S:=Unit) (λR_3=>
 el t72 s_3 1 λa_46=>
 ldI a_46 λt84=>
 callF Tryz.prog 148 [(.pointer p0),(iv t84)] [.c .slice,.c I64] λ(t85:Sl×Int)=>
 br (t85.2 !=0) (
 Q (none,t85.2)) (
 el t72 s_3 1 λa_48=>
 ldI a_48 λt96=>
 callF Tryz.prog 149 [(slV t85.1),(iv t96),(slV t21.2.1)] [.c .slice,.c I64] λ(t98:Sl×Int)=>
 b2s t98.1 λt102=>
 b2s t85.1 λt104=>
 br (t102.toList==t104.toList) (
 R_3 ()) (
 el t72 s_3 1 λa_50=>
 ldI a_50 λt110=>
 callF Tryz.prog 136 [(.pointer p0),(iv t110),(slV t98.1)] [.c I64] λ(t112:Int)=>
 br (t112 !=0) (
 Q (none,t112)) (
 R_3 ())))) λs_4=>
 X ((w64 (s_3+1)))) (
 callF Tryz.prog 137 [(.pointer p0)] [.c I64] λ(t117:Int)=>
 br (t117 !=0) (
 Q (none,t117)) (
 deref s.2 λa_52=>
 ldA [I64,I64,I64,I64,I64,I64] a_52 λ(t122:Int×Int×Int×Int×Int×Int)=>
 callF Tryz.prog 89 [(.pointer p0),(.agg #[(iv t122.1),(iv t122.2.1),(iv t122.2.2.1),(iv t122.2.2.2.1),(iv t122.2.2.2.2.1),(iv t122.2.2.2.2.2)])] [.c I64] λ(t123:Int)=>
 br (t123 !=0) (
 Q (none,t123)) (
 drw<|
 deref s.2 λa_53=>
 ldA [I64,I64,I64,I64,I64,I64] a_53 λ(t128:Int×Int×Int×Int×Int×Int)=>
 deref t21.1 λa_54=>
 ldA [I64,I64,I64,I64,I64,I64] (a_54.add 7) λ(t132:Int×Int×Int×Int×Int×Int)=>
 nw (.cells #[(.pointer p0),(iv t128.1),(iv t128.2.1),(iv t128.2.2.1),(iv t128.2.2.2.1),(iv t128.2.2.2.2.1),(iv t128.2.2.2.2.2),(iv t132.1),(iv t132.2.1),(iv t132.2.2.1),(iv t132.2.2.2.1),(iv t132.2.2.2.2.1),(iv t132.2.2.2.2.2),(.pointer t60.1),(.bool false),(.bool false),(.slice none 0 0)] 149) λr_26=>
 Q ((some ⟨r_26,0,none⟩),0))))) 0)))
theorem F93_calls(p0:Option Addr)(Q:(Option Addr)×Int->Pr)(w:World)(h:F93 p0 Q w):Calls Tryz.prog 93 #[(.pointer p0)] w (RetT [.c .ptr,.c I64] Q):=cF (an:=an93) Tryz.func93 (by kernel_rfl) h
def an96:An:=(.sq .z (.sq .z (.sq (.sq .z (.bl (.lp [(3,.c .slice),(4,.c (.int .i64))] (.sq (.sq .z (.br .z .z)) (.sq (.bl .z) .z))))) (.sq .z .z))))
def F96(p0:Option Addr)(Q:Sl->Pr):Pr:=
 loopE (S:=Sl×Int) (λX s=>
 deref p0 λa=>
 ldS (a.add 16) λt9=>
 br (decide (s.2<(t9.len:Int))) (
 deref p0 λa_3=>
 ldS (a_3.add 16) λt18=>
 el t18 s.2 2 λa_6=>
 ldI (a_6.add 0) λt22=>
 nw (.cells #[(iv t22)] 3) λr=>
 app 3 1 8 [(iv 0)] s.1 ⟨(some ⟨r,0,none⟩),1,1⟩ λt24=>
 X (t24,(w64 (s.2+1)))) (
 Q s.1)) (⟨none,0,0⟩,0)
theorem F96_calls(p0:Option Addr)(Q:Sl->Pr)(w:World)(h:F96 p0 Q w):Calls Tryz.prog 96 #[(.pointer p0)] w (RetT [.c .slice] Q):=cF (an:=an96) Tryz.func96 (by kernel_rfl) h
def an94:An:=(.sq .z (.sq .z .z))
def F94(p0:Option Addr)(Q:Int->Pr):Pr:=
 deref p0 λa=>
 ldP (a.add 13) λt6=>
 deref t6 λa_3=>
 ldS (a_3.add 4) λt9=>
 Q ((t9.len:Int))
theorem F94_calls(p0:Option Addr)(Q:Int->Pr)(w:World)(h:F94 p0 Q w):Calls Tryz.prog 94 #[(.pointer p0)] w (RetT [.c I64] Q):=cF (an:=an94) Tryz.func94 (by kernel_rfl) h
set_option maxRecDepth 20000
theorem goes_step{D:DM}(h:0<=D.armed):goesD D=if D.armed=1 then(true,fallsD (stepD D) D.picks)else(false,stepD D):=by
 unfold goesD stepD;by_cases h0:D.armed=0
 ·rw[if_pos h0,if_neg (by omega),if_pos h0,<-h0]
 ·rw[if_neg h0,if_neg h0]
  by_cases h1:D.armed=1
  ·rw[if_pos h1,if_neg (by omega)];rfl
  ·rw[if_neg h1,if_pos (by omega)]
theorem V137(p:Nat)(D:DM)(N:Nat)(w:World)(F:Nat->Prop)(h:Has [DiskA p D] w F)(hd:DB N D)(hN:N<=10000000):
 Calls Tryz.prog 137 #[P0 p] w (RetT [.c (.int .i64)] λr w'=>r=(flushD D).1/\St F w w' [DiskA p (flushD D).2]):=by
 refine F137_calls _ _ _ ?_;unfold F137 flushD;have hwl:=hd.bd.wait;have hop:=hd.bd.ops;have stF:=St.init h;obtain⟨di,sd⟩:=stF.ex;obtain⟨⟨hb',hw⟩,sd⟩:=sd.p;simp only[deref_some'];refine sd.ld (i:=2) (s:=.bool) (p:=D.off) rfl ?_;refine br_of (λhoff=>?_) λhoff=>?_
 ·rw[if_pos hoff];exact⟨rfl,stF⟩
 rw[if_neg (by simp[hoff])];refine callF_of (C81 p D w F h hd.bd.armed.1 hd.bd.armed.2 ⟨hop.1,by omega⟩) ?_;rintro _ w1 ⟨rfl,s1⟩;rw[goes_step hd.bd.armed.1];have hok:(stepD D).ok:=⟨hd.ok.len,hd.ok.wlen,hd.ok.pos,hd.ok.le⟩;obtain⟨dj,s1⟩:=s1.ex;obtain⟨⟨hb,hw⟩,s1⟩:=s1.p;have s1:St F w w1 (dpc p (stepD D) dj):=s1;by_cases ha:D.armed=1
 ·refine br_t (by simp[ha]) ?_
  rw[if_pos ha,if_pos rfl];refine s1.ld (i:=5) (s:=.slice) (p:=dj.ps) rfl ?_;obtain⟨G2,H2,g1,_,_,_,gc⟩:=St.call (dpc p (stepD D) dj) (l:=[]) s1;refine callF_of (C82 p (stepD D) dj dj.ps D.picks w1 G2 g1 hb hw hok (by exact hoff) (by show D.wait.length<=_;omega) λW dk L hs s5=>?_) ?_
  ·have:=(s5.bring 3).sl.bs
   rw[hs.ps]at this;exact this
  rintro e w6 ⟨_,s6⟩;exact⟨rfl,gc _ _ s6⟩
 refine br_f (by simp[ha]) ?_;rw[if_neg ha,if_neg (λh=>by cases h)];generalize hE:stepD D=E at s1 hb hw hok;have hB:D.blocks=E.blocks:=by rw[<-hE];rfl
 have hW:D.wait=E.wait:=by rw[<-hE];rfl
 rw[hB,hW];rw[hW]at hwl;clear hB hW;have hwn:dj.wl.length<=10000000:=by rw[hw,List.length_map]at hwl;omega
 have hwsl:dj.ws.len=dj.wl.length:=(OwnS.ss (f:=wcells) wcells_len (by decide) (s1.bring 2).sl).len;refine loop_of (λz W=>∃(j:Nat) (dk:DI),z=j/\j<=dj.wl.length/\SameDI dj dk/\(dk.bl.map (·.2)).length=E.blocks.length/\(∀b∈dk.bl.map (·.2),b.length=256)/\dk.bl.map (·.2)=flushB E.blocks (E.wait.take j)/\St F w W (dpc p E dk)) (λz _=>dj.wl.length-z.toNat)
  ⟨0,dj,rfl,by omega,⟨rfl,rfl,rfl,rfl⟩,by rw[hb],by rw[<-hb];exact hok.len,by rw[hb];rfl,s1⟩ ?_
 rintro _ W ⟨j,dk,rfl,hj,hsame,hbl,hb256,hgo,sW⟩;refine sW.L 0 rfl (p:=dk.ws) rfl ?_;rw[hsame.ws];refine br_of (λhlt=>?_) (λhge=>?_)
 ·simp only[decide_eq_true_eq]at hlt
  have hjl:j<dj.wl.length:=by omega
  obtain⟨x,hxx⟩:∃x,dj.wl[j]? =some x:=⟨dj.wl[j],by simp[hjl]⟩;have hDj:E.wait[j]? =some (x.1,x.2.2):=by rw[hw,List.getElem?_map,hxx];rfl
  have hxw:=hok.wlen _ (List.mem_of_getElem? hDj);dsimp only at hxw;have hss:WS W dj.ws dj.wl:=by have:=OwnS.ss (f:=wcells) wcells_len (by decide) (sW.bring 2).sl;rw[hsame.ws,hsame.wl]at this;exact this
  refine sW.L 0 rfl (p:=dj.ws) (by rw[<-hsame.ws];rfl) ?_;refine hss.eld wcells_len (n:=2) (cs:=[.int .i64,.slice]) (p:=(x.1,x.2.1)) hxx (by decide) rfl ?_;obtain⟨G,H,k1,_,_,_,gc⟩:=St.call (dpc p E dk) (l:=[]) sW;obtain⟨i,hi⟩:=Int.eq_ofNat_of_zero_le hxw.1;have hil:i<dk.bl.length:=by rw[List.length_map]at hbl;omega
  obtain⟨y,hy⟩:∃y,dk.bl[i]? =some y:=⟨dk.bl[i],by simp[hil]⟩;have hy256:y.2.length=256:=hb256 _ (List.mem_map.2 ⟨y,List.mem_of_getElem? hy,rfl⟩);have hxj:dk.wl[j]? =some ((i:Int),x.2.1,x.2.2):=by rw[hsame.wl,hxx,<-hi]
  dsimp only;rw[hi];refine callF_of (C98 p E dk i j x.2.1 x.2.2 y 15 _ G k1 hy hxj hy256 hxw.2.2) ?_;rintro⟨⟩ w6 ⟨t,s6⟩;have s7:=gc _ _ s6;rw[reach_all hy256 hxw.2.2,List.append_nil]at s7;have hset:(setBt dk i t x.2.2).bl.map (·.2)=(dk.bl.map (·.2)).set i x.2.2:=by show(dk.bl.set i (t,x.2.2)).map (·.2)=_;rw[List.map_set]
  rw[w64_succ (by omega)];refine⟨⟨j+1,setBt dk i t x.2.2,rfl,hjl,⟨hsame.bs,hsame.ws,hsame.ps,hsame.wl⟩,?_,?_,?_,s7⟩,by omega⟩
  ·rw[hset,List.length_set];exact hbl
  ·intro b hbm
   rw[hset]at hbm;rcases List.mem_or_eq_of_mem_set hbm with h|rfl
   ·exact hb256 b h
   ·exact hxw.2.2
  ·have ht:E.wait.take (j+1)=E.wait.take j++[(x.1,x.2.2)]:=by rw[List.take_add_one,hDj];rfl
   rw[hset,hgo,ht];unfold flushB;rw[List.foldl_append];show _=(List.foldl _ E.blocks (List.take j E.wait)).set x.1.toNat x.2.2;rw[hi];rfl
 ·simp only[decide_eq_false_iff_not]at hge
  have:j=dj.wl.length:=by omega
  have hall:E.wait.take j=E.wait:=List.take_of_length_le (by rw[hw,List.length_map];omega);rw[hall]at hgo;refine sW.S 0 rfl (by simp) trivial λw2 s2=>⟨rfl,?_⟩;refine mkDisk (D:={E with blocks:=flushB E.blocks E.wait,wait:=[]}) ⟨dk.bs,⟨none,0,0⟩,dk.ps,dk.bl,[]⟩ hgo.symm rfl ?_;exact((s2.nosl 2).nobig).sel [2,3,1,5,6,0] 8
section
variable{dp:Nat}{D:DM}{N:Nat}{w0 w:World}{F0:Nat->Prop}{L:List HA}
theorem wrR{i:Int}{b:Sl}{l:List UInt8}{k:Int->Pr}(h:St F0 w0 w (DiskA dp D::SlA 1 b (l.map ub)::L))(hd:DB N D)(hN:N<=10000000)
 (hk:∀w',St F0 w0 w' (DiskA dp (writeD D i l).2::SlA 1 b (l.map ub)::L)->k (writeD D i l).1 w'):callF Tryz.prog 136 [P0 dp,iv i,slV b] [.c (.int .i64)] k w:=by
 obtain⟨G,H,g2,g3,g4,_,gc⟩:=St.call [DiskA dp D] h;refine callF_of (C48 dp D i b l w G g2 (Rd.own g3 g4) hd.ok (by have:=hd.bd.wait;omega) hd.bd.armed.1 hd.bd.armed.2 ⟨hd.bd.ops.1,by have:=hd.bd.ops.2;omega⟩) ?_;rintro e w2 ⟨he,s6⟩;subst he;exact hk w2 (gc _ _ s6)
theorem flR{k:Int->Pr}(h:St F0 w0 w (DiskA dp D::L))(hd:DB N D)(hN:N<=10000000)
 (hk:∀w',St F0 w0 w' (DiskA dp (flushD D).2::L)->k (flushD D).1 w'):callF Tryz.prog 137 [P0 dp] [.c (.int .i64)] k w:=by
 obtain⟨G,H,g2,g3,g4,_,gc⟩:=St.call [DiskA dp D] h;refine callF_of (V137 dp D N w G g2 hd hN) ?_;rintro e w2 ⟨he,s6⟩;subst he;exact hk w2 (gc _ _ s6)
theorem V89{s:Sup}{w:World}{F:Nat->Prop}(hh:Has [DiskA dp D] w F)(hd:DB N D)(hN:N<=1000000):
 Calls Tryz.prog 89 #[P0 dp,s.v] w (RetT [.c (.int .i64)] λx w'=>x=(noteD D s).1/\St F w w' [DiskA dp (noteD D s).2]):=by
 refine F89_calls _ s.1 s.2.1 s.2.2.1 s.2.2.2.1 s.2.2.2.2.1 s.2.2.2.2.2 _ _ ?_;unfold F89 noteD;refine St.nw (St.init hh) λr w1 s1 _ _=>?_;have s1:St F w w1 [BoxA r (pcells s),DiskA dp D]:=s1;refine s1.LA 0 rfl (p:=s) rfl ?_;refine callF_of (V138 s w1) ?_;rintro⟨t,e⟩ w2 ⟨he,hP⟩;dsimp only at he hP;subst he;rcases hP with⟨h1,rfl,g⟩|⟨h1,k⟩
 ·rw[if_pos h1]
  exact br_t (by simpa using h1) ⟨rfl,(s1.grow g).drop⟩
 ·rw[if_neg (λh=>h h1)]
  refine br_f (by simp[h1]) ?_;have s2:=s1.call0 k;have s2:St F w w2 [SlA 1 t ((bytesS s).map ub),BoxA r (pcells s),DiskA dp D]:=s2;refine s2.LA 1 rfl (p:=s) rfl ?_;refine callF_of (V139 s w2) ?_;rintro _ w3 ⟨rfl,g3⟩;have s3:=(s2.grow g3).sel [2,0] 3;refine wrR s3 hd (by omega) λw4 s4=>?_;have h1:=writeD_dg hd (slotS s) (bytesS s);refine br_of (λhne=>?_) λheq=>?_
  ·rw[if_pos (by simpa using hne)]
   exact⟨rfl,s4.sel [0] 2⟩
  ·rw[if_neg (by simpa using heq)]
   refine flR s4 h1.db (by omega) λw5 s5=>⟨rfl,s5.sel [0] 2⟩
end
section
variable{F0:Nat->Prop}{w0 w:World}{L:List HA}
theorem numC{s:Sl}{A:List UInt8}{n v:Nat}{k:Sl->Pr}(h:St F0 w0 w (SlA 1 s (A.map ub)::L))(h8:n<=8)(hv:v<2^64)(hl:A.length<=1000000)
 (hk:∀r w',St F0 w0 w' (SlA 1 r ((A++numB n v).map ub)::L)->k r w'):callF Tryz.prog 216 [slV s,.int .u64 (v:Int),iv n] [.c .slice] k w:=by
 refine callF_of (post:=λr w'=>St F0 w0 w' (SlA 1 r ((A++numB n v).map ub)::L)) (F216_calls _ _ _ _ _ ?_) hk;unfold F216;refine loop_of (λz W=>∃j:Nat,z.2.2=(j:Int)/\j<=n/\z.2.1=((v/2^(8*j):Nat):Int)/\St F0 w0 W (SlA 1 z.1 ((A++numB j v).map ub)::L)) (λz _=>n-z.2.2.toNat)
  ⟨0,rfl,by omega,by simp,by rw[show numB 0 v=[]from rfl,List.append_nil];exact h⟩ ?_
 rintro⟨t,y,z⟩ W ⟨j,hz,hj,hy,s1⟩;dsimp only at hz hy s1⊢;subst hz hy;refine br_of (λhlt=>?_) λhge=>?_
 ·simp only[decide_eq_true_eq]at hlt
  have hjn:j<n:=by omega
  refine append_one (n:=v/2^(8*j)) s1 (by show wU8 _=_;unfold wU8;rw[wrap_u8m];exact(Int.natCast_emod ..).symm) (by simp[numB_len];omega) λr w2 s2=>⟨by decide,?_⟩;have hd:(((v/2^(8*j):Nat):Int).tdiv 256)=((v/2^(8*(j+1)):Nat):Int):=by
   rw[show 8*(j+1)=8*j+8 by omega,Nat.pow_add,<-Nat.div_div_eq_div_mul];generalize v/2^(8*j)=x;rw[Int.tdiv_eq_ediv_of_nonneg (by omega)];omega
  have hb:v/2^(8*(j+1))<=v:=Nat.div_le_self ..;have hb2:((v/2^(8*(j+1)):Nat):Int)<=(v:Int):=Int.ofNat_le.2 hb;rw[hd,wU64_of ⟨Int.natCast_nonneg _,by omega⟩,w64_succ (by omega)];exact⟨⟨j+1,rfl,hjn,rfl,by rw[numB_succ,<-List.append_assoc];exact s2⟩,by omega⟩
 ·simp only[decide_eq_false_iff_not]at hge
  have:j=n:=by omega
  subst this;exact s1
theorem numCI{s:Sl}{A:List UInt8}{n:Nat}{v:Int}{k:Sl->Pr}(h:St F0 w0 w (SlA 1 s (A.map ub)::L))(h8:n<=8)(hv:0<=v/\v<=2305843009213693952)(hl:A.length<=1000000)
 (hk:∀r w',St F0 w0 w' (SlA 1 r ((A++numB n v.toNat).map ub)::L)->k r w'):callF Tryz.prog 216 [slV s,.int .u64 (wU64 v),iv n] [.c .slice] k w:=by
 rw[wU64_of ⟨by omega,by omega⟩];have e:v=(v.toNat:Int):=by omega
 have h2:v.toNat<2^64:=by omega
 generalize v.toNat=x at e hk h2;subst e;exact numC h h8 h2 hl hk
theorem V234(s:Sl)(l:List UInt8)(w:World)(hs:BS w s l)(hl:l.length<=8):Calls Tryz.prog 234 #[slV s] w (RetT [.c (.int .u64)] λr w'=>r=(leN l:Nat)/\w=w'):=by
 refine F234_calls _ _ _ ?_;unfold F234;have hsl:=hs.len;rw[w64_of ⟨by omega,by omega⟩];refine loop_of (λz W=>∃j:Nat,z.2=(j:Int)-1/\j<=l.length/\z.1=((leN (l.drop j):Nat):Int)/\W=w) (λz _=>(z.2+1).toNat) ⟨l.length,by rw[hsl],Nat.le_refl _,by simp[leN],rfl⟩ ?_;rintro⟨y,z⟩ W ⟨j,hz,hj,hy,rfl⟩;dsimp only at hz hy⊢;subst hz hy;refine br_of (λhge=>?_) λhlt=>?_
 ·simp only[decide_eq_true_eq]at hge
  obtain⟨i,rfl⟩:∃i,j=i+1:=⟨j-1,by omega⟩;rw[show((i+1:Nat):Int)-1=(i:Int) by omega];have hil:i<l.length:=by omega
  refine⟨⟨by omega,by omega⟩,?_⟩;rw[Int.toNat_natCast i];refine BS.at hs hil ?_;have hb:=l[i].toNat_lt;have h1:leN (l.drop i)=l[i].toNat+256*leN (l.drop (i+1)):=by rw[List.drop_eq_getElem_cons hil];rfl
  have h2:=leN_lt (l.drop i);have h3:2^(8*(l.drop i).length)<=2^64:=Nat.pow_le_pow_right (by decide) (by rw[List.length_drop];omega);rw[wU64_of (n:=((leN (l.drop (i+1)):Nat):Int)*256) ⟨by omega,by omega⟩,wU64_of (n:=(l[i].toNat:Int)) ⟨by omega,by omega⟩,wU64_of ⟨by omega,by omega⟩,w64_of ⟨by omega,by omega⟩];refine⟨⟨i,rfl,by omega,?_,rfl⟩,by omega⟩;show _=((leN (l.drop i):Nat):Int);omega
 ·simp only[decide_eq_false_iff_not]at hlt
  have:j=0:=by omega
  subst this;exact⟨rfl,rfl⟩
end
theorem nwS{F0:Nat->Prop}{w0 w:World}{L:List HA}{cs:Array Value}{E:TypeId}{k:Nat->Pr}(h:St F0 w0 w L)(hk:∀r w',St F0 w0 w' (SlA 1 ⟨some ⟨r,0,none⟩,cs.size,cs.size⟩ cs.toList::L)->k r w'):nw (.cells cs E) k w:=
 nw_of λb w2 g e _ bx=>hk b w2 (h.mksl g ⟨by simp,Nat.le_refl _,.inr ⟨b,0,[],rfl,by omega,bx.lt,bx.unf,by simpa using bx.row,by simp⟩⟩)
theorem appR{F0:Nat->Prop}{w0 w:World}{L:List HA}{E:Nat}{s x:Sl}{A B:List UInt8}{k:Sl->Pr}(h:St F0 w0 w (SlA 1 s (A.map ub)::L))(hx:BS w x B)(hl:A.length+B.length<=1000000000)
 (hk:∀r w',St F0 w0 w' (SlA 1 r ((A++B).map ub)::L)->k r w'):app E 1 1 [uv 0] s x k w:=by
 have h1:=slA_len1 h.sl;rw[List.length_map]at h1;have h2:=hx.len;refine h.app (new:=B.map ub) (λ_=>by simp;omega) hx.none_len hx.row NotAgg_ub rfl (by decide) (by omega) λr2 w3 s3 _=>?_;rw[<-List.map_append]at s3;exact hk r2 w3 s3
theorem V199(n k b o m:Int)(s:Sl)(d:List UInt8)(w:World)(hs:BS w s d):
 Calls Tryz.prog 199 #[iv n,.agg #[iv k,iv b,iv o,slV s,iv m]] w (RetT [.c .slice,.c (.int .i64)] λr w'=>r.2=recE n k b o m d/\
  ((recE n k b o m d≠0/\r.1=⟨none,0,0⟩/\Grow w w')\/recE n k b o m d=0/\St noF w w' [SlA 1 r.1 ((secR n k b o m d).map ub)])):=by
 refine F199_calls _ _ _ _ _ _ _ _ ?_;unfold F199;have hsl:=hs.len;refine St.nw (St.init0 w) λr w1 s1 _ _=>?_;have s1:St noF w w1 [BoxA r [iv k,iv b,iv o,slV s,iv m]]:=s1;refine jn_of (λc W=>c=decide (¬mayL n)/\W=w1) ?_ ?_
 ·refine br_of (λh=>⟨dec_true (by unfold mayL;simp at h;omega),rfl⟩) λh=>⟨?_,rfl⟩
  simp only[decide_eq_false_iff_not]at h;exact decide_eq_decide.2 (by unfold mayL;omega)
 rintro _ _ ⟨rfl,rfl⟩;refine br_of (λh=>?_) λh=>?_
 ·have h:=of_decide_eq_true h
  have e:recE n k b o m d=1:=by unfold recE;rw[if_pos h]
  rw[e];exact⟨rfl,.inl ⟨by decide,rfl,s1.gro⟩⟩
 have hn:=Classical.not_not.1 (of_decide_eq_false h);refine s1.LA 0 rfl (cs:=[.int .i64,.int .i64,.int .i64,.slice,.int .i64]) (p:=(k,b,o,s,m)) rfl ?_;refine callF_of (C23 k b o m s _) ?_;rintro e w2 ⟨he,g2⟩;have s2:=s1.grow g2;rw[hsl]at he;have hE:recE n k b o m d=e:=by unfold recE;rw[if_neg (λh=>h hn),he]
 rw[hE];refine br_of (λh=>⟨rfl,.inl ⟨by simpa using h,rfl,s2.gro⟩⟩) λh=>?_;have h0:e=0:=by simpa using h
 subst h0;have hck:checkB k b o m d.length=true:=by
  cases hc:checkB k b o m d.length with
  |true=>rfl
  |false=>rw[hc]at he;cases he
 obtain⟨hk,hd,hb,ho,hm⟩:=checkB_num hck;unfold mayL at hn;refine s2.L 0 rfl (p:=k) rfl (s2.L 0 rfl (p:=s) rfl ?_);have hu:∀{x:Int},0<=x->x<=255->uv (wU8 x)=ub (UInt8.ofNat x.toNat):=by
  intro x h0 h1;rw[ub_ofNat]
  congr 1
  show wU8 x=_;rw[show wU8 x=x from wrap_u8 ⟨h0,h1⟩];omega
 rw[hu (by omega) (by omega),hu (x:=(s.len:Int)) (by omega) (by omega)];rw[hsl,Int.toNat_natCast];refine nwS s2 λr1 w3 s3=>?_;have s3:St noF w w3 [SlA 1 ⟨some ⟨r1,0,none⟩,2,2⟩ (([UInt8.ofNat k.toNat,UInt8.ofNat d.length]:List UInt8).map ub),BoxA r [iv k,iv b,iv o,slV s,iv m]]:=s3;rw[show(iv 8)=iv ((8:Nat):Int)from rfl,show Value.slice (some ⟨r1,0,none⟩) 2 2=slV ⟨some ⟨r1,0,none⟩,2,2⟩from rfl];refine numCI s3 (n:=8) (v:=n) (by decide) hn (by simp) λt1 w4 s4=>?_;refine jn_of (λt W=>St noF w W [SlA 1 t (([UInt8.ofNat k.toNat,UInt8.ofNat d.length]++numB 8 n.toNat++numB 4 (imax b m).toNat).map ub),BoxA r [iv k,iv b,iv o,slV s,iv m]]) ?_ ?_
 ·refine s4.L 1 rfl (p:=k) rfl ?_
  have hck:=hck;unfold checkB patchB at hck;simp only[Bool.or_eq_true,Bool.and_eq_true,beq_iff_eq,decide_eq_true_eq]at hck;refine br_of (λh1=>?_) λh1=>?_
  ·have h1:k=1:=by simpa using h1
   have e:imax b m=b:=by unfold imax;rcases hck with h|h<;>(split<;>omega)
   rw[e];refine s4.L 1 rfl (p:=b) rfl ?_;exact numCI s4 (n:=4) (by decide) ⟨by omega,by omega⟩ (by simp[numB_len]) λt2 w5 s5=>s5
  ·have h1:k≠1:=by simpa using h1
   have e:imax b m=m:=by unfold imax;rcases hck with h|h<;>(split<;>omega)
   rw[e];refine s4.L 1 rfl (p:=m) rfl ?_;exact numCI s4 (n:=4) (by decide) ⟨by omega,by omega⟩ (by simp[numB_len]) λt2 w5 s5=>s5
 rintro t2 w5 s5;have hs5:BS w5 s d:=hs.grow s5.gro;obtain⟨A,hA⟩:∃A:List UInt8,A=[UInt8.ofNat k.toNat,UInt8.ofNat d.length]++numB 8 n.toNat++numB 4 (imax b m).toNat:=⟨_,rfl⟩;have hAl:A.length=14:=by rw[hA];simp[numB_len]
 rw[<-hA]at s5;have hS:secB n k b o m d=A++[UInt8.ofNat o.toNat,0]++d++List.replicate (44-d.length) 0:=by rw[hA];rfl
 refine jn_of (λt W=>St noF w W [SlA 1 t ((A++[UInt8.ofNat o.toNat,0]++d).map ub),BoxA r [iv k,iv b,iv o,slV s,iv m]]) ?_ ?_
 ·rw[drw_def]
  have sd:=s5.drew;refine sd.L 1 rfl (p:=o) rfl ?_;rw[hu (x:=o) (by omega) (by omega),show(uv 0)=ub 0 from rfl];have g5:=hs5.grow (Mod.refl _ w5).drew;refine⟨?_,?_⟩
  ·refine nwS sd λr2 w6 s6=>?_
   have s6:St noF w w6 (SlA 1 ⟨some ⟨r2,0,none⟩,2,2⟩ (([UInt8.ofNat o.toNat,0]:List UInt8).map ub)::SlA 1 t2 (A.map ub)::[BoxA r [iv k,iv b,iv o,slV s,iv m]]):=s6;refine⟨?_,?_⟩
   ·refine(s6.bring 1).appB (by simp;omega) λt3 w7 s7=>?_
    refine s7.L 2 rfl (p:=s) rfl ?_;exact appR s7 (hs.grow s7.gro) (by simp;omega) λt4 w8 s8=>s8.sel [0,2] 3
   ·refine s6.L 2 rfl (p:=s) rfl ?_
    refine(s6.bring 1).appB (by simp;omega) λt3 w7 s7=>?_;exact appR s7 (hs.grow s7.gro) (by simp;omega) λt4 w8 s8=>s8.sel [0,2] 3
  ·refine sd.L 1 rfl (p:=s) rfl ?_
   refine nwS sd λr2 w6 s6=>?_;have s6:St noF w w6 (SlA 1 ⟨some ⟨r2,0,none⟩,2,2⟩ (([UInt8.ofNat o.toNat,0]:List UInt8).map ub)::SlA 1 t2 (A.map ub)::[BoxA r [iv k,iv b,iv o,slV s,iv m]]):=s6;refine(s6.bring 1).appB (by simp;omega) λt3 w7 s7=>?_;exact appR s7 (hs.grow s7.gro) (by simp;omega) λt4 w8 s8=>s8.sel [0,2] 3
 rintro t3 w6 s6;have hl6:(A++[UInt8.ofNat o.toNat,0]++d).length=16+d.length:=by simp[hAl];omega
 refine pad_loop (n:=60) s6 (by rw[hl6];omega) (by decide) λt4 w7 s7=>?_;rw[hl6,show 60-(16+d.length)=44-d.length by omega,<-hS]at s7;have hl7:(secB n k b o m d).length=60:=secB_len hd;refine callF_of (Y38 t4 _ w7 s7.sl.bs (by rw[hl7];decide)) ?_;rintro x _ ⟨rfl,rfl⟩;rw[show(iv 4)=iv ((4:Nat):Int)from rfl];refine numCI s7 (n:=4) (v:=(sumM (secB n k b o m d):Nat)) (by decide) ⟨Int.natCast_nonneg _,Int.le_trans (Int.ofNat_le.2 (Nat.le_of_lt (sumM_lt _))) (by decide)⟩ (by rw[hl7];decide) λt5 w8 s8=>?_;rw[Int.toNat_natCast]at s8;exact⟨rfl,.inr ⟨rfl,s8.sel [0] 2⟩⟩
def leU(B:List UInt8):Nat:=leN ((B.drop 2).take 8)
def recG(B:List UInt8):Rv:=if byteN B 0=1 then(1,recNum B,byteN B 14,0,(B.drop 16).take (byteN B 1).toNat)else(byteN B 0,0,0,recNum B,[])
def okP(B:List UInt8):Prop:=(parseR B).2.2=0
instance(B:List UInt8):Decidable (okP B):=by unfold okP;exact inferInstance
theorem okP_iff(B:List UInt8):okP B↔(B.length=64/\byteN B 1<=44/\recEx (recLsn B) (recF B)=0/\secX (recLsn B) (recF B)=B):=by
 unfold okP parseR;by_cases h:B.length=64/\byteN B 1<=44/\recEx (recLsn B) (recF B)=0/\secX (recLsn B) (recF B)=B
 ·rw[if_pos h];exact⟨λ_=>h,λ_=>rfl⟩
 ·rw[if_neg h];exact⟨λh'=>absurd h' (by decide),λh'=>absurd h' h⟩
theorem parse_ok{B:List UInt8}(h:okP B):parseR B=(recF B,recLsn B,0):=by unfold parseR;rw[if_pos ((okP_iff B).1 h)]
theorem parse_no{B:List UInt8}(h:¬okP B):parseR B=(Rv0,0,61):=by unfold parseR;rw[if_neg λk=>h ((okP_iff B).2 k)]
theorem sec_at14(n k b o m:Int)(d:List UInt8):(secR n k b o m d)[14]? =some (UInt8.ofNat o.toNat):=by
 unfold secR secB;have hl:([UInt8.ofNat k.toNat,UInt8.ofNat d.length]++numB 8 n.toNat++numB 4 (imax b m).toNat).length=14:=by simp[numB_len]
 generalize[UInt8.ofNat k.toNat,UInt8.ofNat d.length]++numB 8 n.toNat++numB 4 (imax b m).toNat=A at hl;rw[List.append_assoc,List.append_assoc,List.append_assoc,List.getElem?_append_right (by omega),hl];rfl
theorem recE_mayL{n k b o m:Int}{d:List UInt8}(h:recE n k b o m d=0):mayL n:=by
 unfold recE at h;by_cases hn:mayL n
 ·exact hn
 ·rw[if_pos hn]at h;cases h
theorem rec_same(B:List UInt8):(recEx (recLsn B) (recG B)=0/\secX (recLsn B) (recG B)=B↔recEx (recLsn B) (recF B)=0/\secX (recLsn B) (recF B)=B)/\(recEx (recLsn B) (recF B)=0->recG B=recF B):=by
 unfold recG recF;by_cases h1:byteN B 0=1
 ·rw[if_pos h1,if_pos h1];exact⟨Iff.rfl,λ_=>rfl⟩
 rw[if_neg h1,if_neg h1];by_cases h2:byteN B 14=0
 ·rw[h2];exact⟨Iff.rfl,λ_=>rfl⟩
 have hno:¬recEx (recLsn B) ((byteN B 0,0,byteN B 14,recNum B,[]):Rv)=0:=by
  intro h;have hm:=recE_mayL h;unfold recEx recE at h;rw[if_neg (λk=>k hm)]at h;dsimp only at h;cases hc:checkB (byteN B 0) 0 (byteN B 14) (recNum B) ([]:List UInt8).length with
  |false=>rw[hc]at h;cases h
  |true=>
   unfold checkB patchB at hc;simp only[Bool.or_eq_true,Bool.and_eq_true,beq_iff_eq,decide_eq_true_eq]at hc;rcases hc with h|h
   ·exact h1 h.1
   ·exact h2 h.2.2.2.2.1
 refine⟨⟨λh=>?_,λh=>absurd h.1 hno⟩,λh=>absurd h hno⟩;exfalso;have h3:(secX (recLsn B) ((byteN B 0,0,0,recNum B,[]):Rv))[14]? =some (UInt8.ofNat (0:Int).toNat):=sec_at14 ..;rw[h.2]at h3;refine h2 ?_;unfold byteN;rw[h3];rfl
theorem lsn_big{B:List UInt8}(h:2305843009213693952<leU B):¬mayL (recLsn B):=by
 have h1:=leN_lt ((B.drop 2).take 8);have h2:2^(8*((B.drop 2).take 8).length)<=2^64:=Nat.pow_le_pow_right (by decide) (by rw[List.length_take];omega);unfold recLsn mayL;unfold leU at h;generalize leN ((B.drop 2).take 8)=x at h h1;by_cases hx:x<=9223372036854775807
 ·rw[w64_of ⟨by omega,by omega⟩];omega
 ·have:w64 (x:Int)=(x:Int)-18446744073709551616:=by
   unfold w64;simp only[IntKind.wrap,IntKind.signed,IntKind.bits];simp;omega
  rw[this];omega
theorem V215(p:Sl)(B:List UInt8)(w:World)(hs:BS w p B)(hc:p.len<=p.cap)(hB:B.length<=1000000):
 Calls Tryz.prog 215 #[slV p] w (RetT [.agg [.int .i64,.int .i64,.int .i64,.slice,.int .i64],.c (.int .i64),.c .bool] λr w'=>∃s d,St noF w w' [SlA 1 s (d.map ub)]/\(okP B->r=(recT (recF B) s,recLsn B,true)/\d=(recF B).2.2.2.2)/\(¬okP B->r.2.2=false)):=by
 refine F215_calls _ _ _ ?_;unfold F215;have hpl:=hs.len;refine St.nw (St.init0 w) λr0 w1 s1 _ _=>?_;have s1:St noF w w1 [BoxA r0 (rcl rT0)]:=s1;have num:∀{W:World} {L:List HA} {i e:Int} (a c:Nat) (k:Int->Pr),St noF w W L->i=(a:Int)->e=((a+c:Nat):Int)->c<=8->a+c<=p.len->k (leN ((B.drop a).take c):Nat) W->
  slc 1 p (some i) (some e) none (λt=>callF Tryz.prog 234 [slV t] [.c (.int .u64)] k) W:=by
  intro W L i e a c k st hi he h2 h3 hk;subst hi he;refine slc_bs (hs.grow st.gro) hc (by omega) (by omega) (by omega) λt ht htl=>?_;have e1:(B.take ((a+c:Nat):Int).toNat).drop (a:Int).toNat=(B.drop a).take c:=by rw[Int.toNat_natCast,Int.toNat_natCast,List.drop_take];congr 1;omega
  rw[e1]at ht;refine callF_of (V234 t _ W ht (by rw[List.length_take];omega)) ?_;rintro _ _ ⟨rfl,rfl⟩;exact hk
 refine jn_of (λc W=>c=decide (¬(B.length=64/\byteN B 1<=44/\leU B<=2305843009213693952))/\W=w1) ?_ ?_
 ·refine br_of (λh=>⟨dec_true (λh'=>by simp at h;omega),rfl⟩) λh=>?_
  have h64:B.length=64:=by simp at h;omega
  obtain⟨e1,e2⟩:=byteN_at (B:=B) (i:=1) (by omega);refine(hs.grow s1.gro).eld (j:=1) e1 ?_;rw[<-e2];refine br_of (λh2=>⟨dec_true (λh'=>by simp at h2;omega),rfl⟩) λh2=>?_;simp only[decide_eq_false_iff_not]at h2;refine num 2 8 _ s1 rfl rfl (by decide) (by omega) ⟨?_,rfl⟩;show decide (((leU B:Nat):Int)>2305843009213693952)=_;exact decide_eq_decide.2 (by omega)
 rintro _ _ ⟨rfl,rfl⟩;refine br_of (λh=>?_) λh=>?_
 ·have h:=of_decide_eq_true h
  have hno:¬okP B:=λk=>by
   obtain⟨k1,k2,k3,_⟩:=(okP_iff B).1 k;refine h ⟨k1,k2,?_⟩;refine Classical.byContradiction λhx=>?_;exact lsn_big (by omega) (recE_mayL k3)
  refine s1.SB 0 rfl rfl (na_r rT0) λW2 s2=>?_;refine St.LA 0 s2 rfl (p:=rT0) rfl ⟨⟨none,0,0⟩,[],?_,λk=>absurd k hno,λ_=>rfl⟩;exact(s2.drop).nosl 1
 have h:=Classical.not_not.1 (of_decide_eq_false h);obtain⟨h64,h44,hU⟩:=h;have hok:okP B↔recEx (recLsn B) (recG B)=0/\secX (recLsn B) (recG B)=B:=by
  rw[okP_iff,(rec_same B).1];exact⟨λk=>k.2.2,λk=>⟨h64,h44,k⟩⟩
 have hsame:=(rec_same B).2;have hlsn:((leU B:Nat):Int)=recLsn B:=(w64_of ⟨by omega,by omega⟩).symm;obtain⟨a1,a2⟩:=byteN_at (B:=B) (i:=0) (by omega);obtain⟨b1,b2⟩:=byteN_at (B:=B) (i:=1) (by omega);obtain⟨c1,c2⟩:=byteN_at (B:=B) (i:=14) (by omega);have l0:=byteN_lt B 0;have l1:=byteN_lt B 1;have l14:=byteN_lt B 14;have lr:=recNum_lt B;refine(hs.grow s1.gro).eld (j:=0) a1 ?_;rw[<-a2,w64_small (by omega)];refine St.nvs s1 rfl (na_r (byteN B 0,0,0,⟨none,0,0⟩,0)) λr1 w2 s2=>?_;have s2:St noF w w2 [BoxA r1 (rcl (byteN B 0,0,0,⟨none,0,0⟩,0)),BoxA r0 (rcl rT0)]:=s2;refine jn_of (λ_ W=>∃s,St noF w W [BoxA r1 (rcl (recT (recG B) s)),SlA 1 s ((recG B).2.2.2.2.map ub),BoxA r0 (rcl rT0)]) ?_ ?_
 ·refine s2.L 0 rfl (p:=byteN B 0) rfl ?_
  unfold recG;refine br_of (λhk=>?_) λhk=>?_
  ·have hk:byteN B 0=1:=by simpa using hk
   rw[if_pos hk];rw[hk]at s2;refine num 10 4 _ s2 rfl rfl (by decide) (by omega) ?_;rw[w64_small (n:=((leN ((B.drop 10).take 4):Nat):Int)) ⟨lr.1,by have:=lr.2;exact Int.le_of_lt this⟩];refine s2.S 0 rfl (by simp) trivial λw3 s3=>?_;refine(hs.grow s3.gro).eld (j:=14) c1 ?_;rw[<-c2,w64_small (n:=byteN B 14) (by omega)];refine s3.S 0 rfl (by simp) trivial λw4 s4=>?_;refine(hs.grow s4.gro).eld (j:=1) b1 ?_;rw[<-b2,w64_small (n:=byteN B 1) (by omega),w64_of (n:=16+byteN B 1) ⟨by omega,by omega⟩];refine slc_bs (hs.grow s4.gro) hc (by decide) (by omega) (by omega) λt ht _=>?_;have e1:(B.take (16+byteN B 1).toNat).drop (16:Int).toNat=(B.drop 16).take (byteN B 1).toNat:=by
    rw[List.drop_take,show(16:Int).toNat=16 from rfl];congr 1;omega
   rw[e1]at ht;refine appR (A:=[]) (s4.nosl 1) ht (by rw[List.length_take];simp;omega) λu w5 s5=>?_;rw[List.nil_append]at s5;refine St.S 1 s5 rfl (by simp[setA]) trivial λw6 s6=>?_;exact⟨u,s6.sel [1,0,2] 3⟩
  ·have hk:byteN B 0≠1:=by simpa using hk
   rw[if_neg hk];refine num 10 4 _ s2 rfl rfl (by decide) (by omega) ?_;rw[w64_small (n:=((leN ((B.drop 10).take 4):Nat):Int)) ⟨lr.1,by have:=lr.2;exact Int.le_of_lt this⟩];refine s2.S 0 rfl (by simp) trivial λw3 s3=>?_;exact⟨⟨none,0,0⟩,(s3.nosl 1).sel [1,0,2] 3⟩
 rintro⟨⟩ w3 ⟨s,s3⟩;refine num 2 8 _ s3 rfl rfl (by decide) (by omega) ?_;rw[show((leN ((B.drop 2).take 8):Nat):Int)=((leU B:Nat):Int)from rfl,hlsn,show w64 (recLsn B)=recLsn B from w64_of ⟨by rw[<-hlsn];omega,by rw[<-hlsn];omega⟩];refine s3.LA 0 rfl (p:=recT (recG B) s) rfl ?_;generalize recG B=x at s3 hok hsame;obtain⟨k,b,o,m,d⟩:=x;have s3:St noF w w3 [BoxA r1 (rcl (k,b,o,s,m)),SlA 1 s (d.map ub),BoxA r0 (rcl rT0)]:=s3;refine callF_of (V199 (recLsn B) k b o m s d w3 (s3.bring 1).sl.bs) ?_;rintro⟨t,e⟩ w4 ⟨he,hP⟩;dsimp only at he hP;have g4:Grow w3 w4:=by
  rcases hP with⟨_,_,g⟩|⟨_,q⟩
  ·exact g
  ·exact q.gro
 have s4:=(s3.grow g4).drew;rw[drw_def];refine s4.LA 0 rfl (p:=(k,b,o,s,m)) rfl ?_;have fin:∀{W:World} (c:Bool),c=decide (okP B)->St noF w W [BoxA r1 (rcl (k,b,o,s,m)),SlA 1 s (d.map ub),BoxA r0 (rcl (k,b,o,s,m))]->
  ∃s' d',St noF w W [SlA 1 s' (d'.map ub)]/\(okP B->(((k,b,o,s,m),recLsn B,c):(Int×Int×Int×Sl×Int)×Int×Bool)=(recT (recF B) s',recLsn B,true)/\d'=(recF B).2.2.2.2)/\(¬okP B->c=false):=by
  intro W c hcd st;refine⟨s,d,st.sel [1] 3,λhk=>?_,λhk=>by rw[hcd];exact decide_eq_false hk⟩;have hx:=hsame (((okP_iff B).1 hk).2.2.1);rw[<-hx,hcd,decide_eq_true hk];exact⟨rfl,rfl⟩
 refine br_of (λh0=>?_) λh0=>?_
 ·have h0:e=0:=by simpa using h0
  rcases hP with⟨h1,_⟩|⟨h1,q⟩
  ·exact absurd (he.symm.trans h0) h1
  have s5:=(s3.call0 q).drew;have s5:St noF w w4.drew [SlA 1 t ((secX (recLsn B) (k,b,o,m,d)).map ub),BoxA r1 (rcl (k,b,o,s,m)),SlA 1 s (d.map ub),BoxA r0 (rcl rT0)]:=s5;have hcd:(secX (recLsn B) (k,b,o,m,d)==B)=decide (okP B):=by
   rw[Bool.eq_iff_iff,beq_iff_eq,decide_eq_true_eq,hok];exact⟨λx=>⟨h1,x⟩,λx=>x.2⟩
  refine jn_of (λ(z:Int×Bool) W=>z=(recLsn B,decide (okP B))/\St noF w W [SlA 1 t ((secX (recLsn B) (k,b,o,m,d)).map ub),BoxA r1 (rcl (k,b,o,s,m)),SlA 1 s (d.map ub),BoxA r0 (rcl (k,b,o,s,m))]) ?_ ?_
  ·have hts:=s5.sl.bs
   have hps:=hs.grow s5.gro;have eqb:((bytesOf (secX (recLsn B) (k,b,o,m,d))).toList==(bytesOf B).toList)=decide (okP B):=by rw[<-hcd];simp
   have sb:∀{k':Pr},(∀W,St noF w W [SlA 1 t ((secX (recLsn B) (k,b,o,m,d)).map ub),BoxA r1 (rcl (k,b,o,s,m)),SlA 1 s (d.map ub),BoxA r0 (rcl (k,b,o,s,m))]->k' W)->stB r0 0 [iv k,iv b,iv o,slV s,iv m] k' w4.drew:=
    λhk=>s5.SB 3 rfl rfl (na_r (k,b,o,s,m)) hk
   refine⟨b2s_of hts ⟨b2s_of hps (sb λW s6=>⟨?_,s6⟩),sb λW s6=>b2s_of (hs.grow s6.gro) ⟨?_,s6⟩⟩,b2s_of hps ⟨b2s_of hts (sb λW s6=>⟨?_,s6⟩),sb λW s6=>b2s_of s6.sl.bs ⟨?_,s6⟩⟩,sb λW s6=>b2s_of s6.sl.bs (b2s_of (hs.grow s6.gro) ⟨?_,s6⟩)⟩
   all_goals rw[eqb]
  rintro _ W ⟨rfl,s6⟩;refine s6.LA 3 rfl (p:=(k,b,o,s,m)) rfl ?_;exact fin _ rfl s6.drop
 ·have h0:e≠0:=by simpa using h0
  have hno:¬okP B:=λhk=>h0 (he.trans (hok.1 hk).1);have hf:false=decide (okP B):=(decide_eq_false hno).symm;refine jn_of (λ(z:Int×Bool) W=>z.2=false/\St noF w W [BoxA r1 (rcl (k,b,o,s,m)),SlA 1 s (d.map ub),BoxA r0 (rcl (k,b,o,s,m))]) ?_ ?_
  ·have sb:stB r0 0 [iv k,iv b,iv o,slV s,iv m] (λW=>(recLsn B,false).2=false/\St noF w W [BoxA r1 (rcl (k,b,o,s,m)),SlA 1 s (d.map ub),BoxA r0 (rcl (k,b,o,s,m))]) w4.drew:=
    s4.SB 2 rfl rfl (na_r (k,b,o,s,m)) λW s6=>⟨rfl,s6⟩
   exact⟨⟨sb,sb⟩,⟨sb,sb⟩,sb⟩
  rintro⟨z,c⟩ W ⟨hc2,s6⟩;dsimp only at hc2;subst hc2;refine s6.LA 2 rfl (p:=(k,b,o,s,m)) rfl ?_;exact⟨s,d,s6.sel [1] 3,λhk=>absurd hk hno,λ_=>rfl⟩
theorem V194(p:Sl)(n:Int)(B:List UInt8)(w:World)(hs:BS w p B)(hc:p.len<=p.cap)(hB:B.length<=1000000):
 Calls Tryz.prog 194 #[slV p,iv n] w (RetT [.agg [.int .i64,.int .i64,.int .i64,.slice,.int .i64],.c (.int .i64)] λr w'=>∃s,r=(recT (takeR B n).1 s,(takeR B n).2)/\St noF w w' [SlA 1 s ((takeR B n).1.2.2.2.2.map ub)]):=by
 refine F194_calls p n _ w ?_;unfold F194;refine St.nw (St.init0 w) λr0 w1 s1 _ _=>?_;have s1:St noF w w1 [BoxA r0 (rcl rT0)]:=s1;refine jn_of (λc W=>c=decide (¬mayL n)/\W=w1) ?_ ?_
 ·refine br_of (λh=>⟨dec_true (by unfold mayL;simp at h;omega),rfl⟩) λh=>⟨?_,rfl⟩
  simp only[decide_eq_false_iff_not]at h;exact decide_eq_decide.2 (by unfold mayL;omega)
 rintro _ _ ⟨rfl,rfl⟩;unfold takeR;refine br_of (λh=>?_) λh=>?_
 ·rw[if_pos (of_decide_eq_true h)]
  refine s1.SB 0 rfl rfl (na_r rT0) λW2 s2=>?_;exact St.LA 0 s2 rfl (p:=rT0) rfl ⟨⟨none,0,0⟩,rfl,s2.drop.nosl 1⟩
 rw[if_neg (of_decide_eq_false h)];refine callF_of (V215 p B _ (hs.grow s1.gro) hc hB) ?_;rintro⟨x,l,c⟩ w2 ⟨s,d,k2,hy,hn⟩;dsimp only at hn;have s2:=s1.call0 k2;refine St.nvs s2 rfl (na_r x) λr1 w3 s3=>?_;have s3:St noF w w3 [BoxA r1 (rcl x),SlA 1 s (d.map ub),BoxA r0 (rcl rT0)]:=s3;refine jn_of (λb W=>b=decide (¬(okP B/\l=n))/\W=w3) ?_ ?_
 ·by_cases hk:okP B
  ·have hcd:c=true:=congrArg (λz:(Int×Int×Int×Sl×Int)×Int×Bool=>z.2.2) (hy hk).1
   subst hcd;refine br_f rfl ⟨?_,rfl⟩;by_cases hl:l=n<;>simp[hk,hl]
  ·have hcd:=hn hk
   subst hcd;exact br_t rfl ⟨by simp[hk],rfl⟩
 rintro _ _ ⟨rfl,rfl⟩;refine br_of (λh2=>?_) λh2=>?_
 ·have h2:=of_decide_eq_true h2
  refine s3.SB 2 rfl rfl (na_r rT0) λW2 s4=>?_;refine St.LA 2 s4 rfl (p:=rT0) rfl ⟨⟨none,0,0⟩,?_,?_⟩
  all_goals
   by_cases hk:okP B
   ·have hl:(recLsn B)≠n:=by
     have:l=recLsn B:=congrArg (λz:(Int×Int×Int×Sl×Int)×Int×Bool=>z.2.1) (hy hk).1;intro hx;exact h2 ⟨hk,this.trans hx⟩
    rw[parse_ok hk,if_pos ⟨rfl,hl⟩]
    all_goals first|rfl|exact(s4.sel [] 3).nosl 1
   ·rw[parse_no hk,if_neg (λhx=>by cases hx.1)]
    all_goals first|rfl|exact(s4.sel [] 3).nosl 1
 ·have h2:=Classical.not_not.1 (of_decide_eq_false h2)
  obtain⟨hk,hl⟩:=h2;obtain⟨e1,e2⟩:=hy hk;obtain⟨e3,e4⟩:=Prod.mk.inj e1;obtain⟨e4,_⟩:=Prod.mk.inj e4;refine s3.LA 0 rfl (p:=x) rfl ?_;refine s3.SB 2 rfl rfl (na_r x) λW2 s4=>?_;refine St.LA 2 s4 rfl (p:=x) rfl ⟨s,?_,?_⟩
  all_goals rw[parse_ok hk,if_neg (λhx=>hx.2 (e4.symm.trans hl))]
  ·rw[e3]
  ·rw[<-e2];exact s4.sel [1] 3
theorem V193(st n q:Int)(w:World)(hn:1<=n/\n<=256)(hs:0<=st/\st<=1000000)(hq:0<=q):Calls Tryz.prog 193 #[iv st,iv n,iv q] w (RetT [.c (.int .i64),.c (.int .i64)] λr w'=>r=(placeB st n q,placeO n q)/\w=w'):=by
 refine F193_calls _ _ _ _ _ ?_;unfold F193 placeB placeO;rw[w64_of (n:=4*n) ⟨by omega,by omega⟩];have e1:q.tmod (4*n)=q%(4*n):=Int.tmod_eq_emod_of_nonneg hq;have h1:0<=q%(4*n):=Int.emod_nonneg _ (by omega);have h2:q%(4*n)<4*n:=Int.emod_lt_of_pos _ (by omega);refine⟨by omega,by decide,by decide,?_,rfl⟩;rw[e1];generalize q%(4*n)=x at h1 h2;rw[Int.tdiv_eq_ediv_of_nonneg h1,Int.tmod_eq_emod_of_nonneg h1,w64_of (n:=x/4) ⟨by omega,by omega⟩,w64_of (n:=st+x/4) ⟨by omega,by omega⟩,w64_of (n:=x%4*64) ⟨by omega,by omega⟩]
theorem V145{r dp:Nat}{st n h:Int}{s:Sl}{w:World}(hb:Box w r (ringC dp st n h s))(hh:0<=h/\h<=2305843009213693952)(hs:s.len<=1000000):Calls Tryz.prog 145 #[RP r] w (RetT [.c (.int .i64)] λx w'=>x=h+s.len/\Grow w w'):=by
 refine F145_calls _ _ _ ?_;unfold F145;rw[drw_def];have g:Grow w w.drew:=(Mod.refl _ w).drew;have hb:=hb.grow g;simp only[deref_some'];refine hb.ld (i:=3) (s:=.int .i64) (p:=h) rfl ?_;refine hb.ld (i:=4) (s:=.slice) (p:=s) rfl ?_;rw[w64_of ⟨by omega,by omega⟩];exact⟨rfl,g⟩
theorem V144(h n:Int)(w:World):Calls Tryz.prog 144 #[iv h,iv n] w (RetT [.c (.int .i64)] λx w'=>x=lapV h n/\w=w'):=by
 refine F144_calls _ _ _ _ ?_;unfold F144 lapV;refine jn_of (λc W=>c=decide (n<1\/n>256\/h<0\/h>1152921504606846976)/\W=w) ?_ ?_
 ·refine br_of (λa=>⟨dec_true (.inl (of_decide_eq_true a)),rfl⟩) λa=>?_
  refine br_of (λb=>⟨dec_true (.inr (.inl (of_decide_eq_true b))),rfl⟩) λb=>?_;refine br_of (λc=>⟨dec_true (.inr (.inr (.inl (of_decide_eq_true c)))),rfl⟩) λc=>⟨?_,rfl⟩;simp only[decide_eq_false_iff_not]at a b c;exact decide_eq_decide.2 (by omega)
 rintro _ _ ⟨rfl,rfl⟩;refine br_of (λa=>?_) λa=>?_
 ·rw[if_pos (of_decide_eq_true a)];exact⟨rfl,rfl⟩
 ·have a:=of_decide_eq_false a
  rw[if_neg a,w64_of (n:=4*n) ⟨by omega,by omega⟩,w64_of ⟨by omega,by omega⟩];exact⟨rfl,rfl⟩
def OpenU(D:DM)(dp:Nat)(st n h:Int)(w:World)(r:Option Addr×Sl×Int)(w':World):Prop:=
 (openR D st n h≠0/\r=(none,⟨none,0,0⟩,openR D st n h)/\Grow w w')\/
 (openR D st n h=0/\∃(b:Nat) (s t:Sl) (xs:List Rc),r=(some ⟨b,0,none⟩,t,0)/\xs.map rv=scanO D st n h/\St noF w w' (ringO b dp st n h s xs++[SlA 5 t (rcs xs)]))
theorem V146{dp:Nat}{D:DM}{st n h:Int}{N:Nat}{w:World}{F:Nat->Prop}(hh:Has [DiskA dp D] w F)(hd:DB N D)(hN:N<=10000000):
 Calls Tryz.prog 146 #[P0 dp,iv st,iv n,iv h] w (RetT [.c .ptr,.c .slice,.c (.int .i64)] (OpenU D dp st n h w)):=by
 refine F146_calls _ _ _ _ _ _ ?_;unfold F146;simp only[deref_some'];have hbl:=hd.ok.pos;have hble:=hd.ok.le;have hwl:=hd.bd.wait;have ldl:∀{f:Sl->Pr},(∀t:Sl,t.len=D.blocks.length->f t w)->ldS (bA dp 0) f w:=by
  intro f hf;obtain⟨di,s⟩:=(St.init hh).ex;obtain⟨⟨hb,_⟩,s⟩:=s.p;refine s.ld (i:=0) (s:=.slice) (p:=di.bs) rfl (hf _ ?_);have hbs:=slA_len1 (s.bring 1).sl;rw[List.length_map]at hbs;rw[hbs,hb,List.length_map]
 refine jn_of (λb W=>b=decide (badO D st n h)/\W=w) ?_ ?_
 ·unfold badO
  refine br_of (λa=>⟨dec_true (.inl (by simpa using a)),rfl⟩) λa=>?_;refine br_of (λb=>⟨dec_true (.inr (.inl (by simpa using b))),rfl⟩) λb=>?_;refine br_of (λc=>⟨dec_true (.inr (.inr (.inl (by simpa using c)))),rfl⟩) λc=>?_;simp only[decide_eq_false_iff_not]at a b c;refine ldl λt ht=>?_;refine br_of (λd=>⟨dec_true (by simp at d;omega),rfl⟩) λd=>?_;have d:¬st>(t.len:Int):=of_decide_eq_false d;refine ldl λt2 ht2=>?_;rw[ht2,w64_of (n:=(D.blocks.length:Int)-st) ⟨by omega,by omega⟩];refine br_of (λe=>⟨dec_true (by simp at e;omega),rfl⟩) λe=>?_;refine br_of (λf=>⟨dec_true (by simp at f;omega),rfl⟩) λf=>⟨?_,rfl⟩;simp only[decide_eq_false_iff_not]at e f;exact decide_eq_decide.2 (by omega)
 rintro _ w ⟨rfl,rfl⟩;clear ldl;unfold OpenU openR;refine br_of (λa=>?_) λa=>?_
 ·rw[if_pos (of_decide_eq_true a)]
  exact .inl ⟨by decide,rfl,Mod.refl _ w⟩
 have a:=of_decide_eq_false a;rw[if_neg a];unfold badO at a;have hn:1<=n/\n<=256:=by omega
 have hst:0<=st/\st+n<=D.blocks.length:=by omega
 have hq:0<=h/\h<=1152921504606846976:=by omega
 clear a;refine St.nw (St.init0 w) λr w1 s1 _ _=>?_;have s1:St noF w w1 [BoxA r (ringC dp st n h ⟨none,0,0⟩)]:=s1;have s2:=((s1.nosl 5).nobig).sel [2,1,0] 3;have s2:St noF w w1 (ringO r dp st n h ⟨none,0,0⟩ []):=s2;refine jn_of (λ_ W=>D.off=false/\∃s xs,xs.map rv=scanO D st n h/\St noF w W (ringO r dp st n h s xs)) ?_ ?_
 ·refine loop_of (λc W=>∃(j:Nat) (s:Sl) (xs:List Rc),c=j/\xs.length=j/\(j:Int)<=4*n/\
   xs.map rv++scanR D st n ((4*n).toNat-j) (h+j)=scanO D st n h/\((4*n).toNat=j->D.off=false)/\St noF w W (ringO r dp st n h s xs)) (λc _=>(4*n).toNat-c.toNat)
   ⟨0,⟨none,0,0⟩,[],rfl,rfl,by omega,by simp[scanO],by omega,s2⟩ ?_
  rintro _ W ⟨j,s,xs,rfl,hxl,hj,hX,hoff,s3⟩;rw[w64_of (n:=4*n) ⟨by omega,by omega⟩];refine br_of (λhlt=>?_) λhge=>?_
  ·have hlt:(j:Int)<4*n:=by simpa using hlt
   have hf:(4*n).toNat-j=((4*n).toNat-(j+1))+1:=by omega
   rw[hf,scanR]at hX;have hs:=(s3.bring 1).sl.len;rw[rcs_len]at hs;have hsj:s.len=j:=by omega
   rw[w64_of (n:=h+(j:Int)) ⟨by omega,by omega⟩];refine callF_of (V193 st n (h+j) W hn ⟨by omega,by omega⟩ (by omega)) ?_;rintro _ _ ⟨rfl,rfl⟩;have hpo:=placeO_le n (h+j);have hpb:=placeB_le (st:=st) (q:=h+j) hn.1;have hslot:slotR D st n (h+j)=((rdD D (placeB st n (h+j))).take (placeO n (h+j)+64).toNat).drop (placeO n (h+j)).toNat:=rfl;dsimp only;generalize placeO n (h+j)=o at hpo hslot⊢;generalize placeB st n (h+j)=blk at hpb hslot⊢;refine callF_of (C97 dp D blk _ F (hh.mod s3.gro λ_ _ h=>h) hd.ok (by omega)) ?_;rintro⟨v,e⟩ W3 ⟨he,t1⟩;dsimp only at he t1;subst he;have hpe:placeE D blk=if D.off then 5 else 0:=by
    unfold placeE;rw[if_neg (show¬(blk<0\/blk>=D.blocks.length) by omega)]
   by_cases ho:D.off=true
   ·rw[if_pos ho]at hpe
    refine br_t (by simp[hpe]) ?_;refine .inl ⟨by simp[ho],?_,(s3.call0 t1).gro⟩;rw[hpe,if_pos ho]
   rw[if_neg ho]at hpe;rw[if_pos hpe]at t1;have ho:D.off=false:=by simpa using ho
   refine br_f (by simp[hpe]) ?_;have s6:=s3.call0 t1;have s6:St noF w W3 [SlA 1 v ((rdD D blk).map ub),BoxA r (ringC dp st n h s),SlA 5 s (rcs xs),bts xs]:=s6;have hrl:=rdD_len hd.ok (i:=blk) (by omega) (by omega);generalize hB:slotR D st n (h+j)=B at hslot hX;have hBl:B.length<=1000000:=by rw[hslot,List.length_drop,List.length_take];omega
   rw[w64_of (n:=o+64) ⟨by omega,by omega⟩];have hvl:=slA_len1 s6.sl;rw[List.length_map]at hvl;refine slc_bsc (s:=v) s6.sl.bs s6.sl.le (by omega) (by omega) (by omega) λp hp hpc=>?_;rw[<-hslot]at hp;refine callF_of (V194 p (h+j) B W3 hp hpc hBl) ?_;generalize takeR B (h+j)=P at hX;rintro _ W4 ⟨sd,rfl,t2⟩;have s7:=s6.call0 t2;dsimp only;refine St.nvs s7 rfl (na_r (recT P.1 sd)) λb W5 s8=>?_;have s8:St noF w W5 [BoxA b (rcl (recT P.1 sd)),SlA 1 sd (P.1.2.2.2.2.map ub),SlA 1 v ((rdD D blk).map ub),BoxA r (ringC dp st n h s),SlA 5 s (rcs xs),bts xs]:=s8;refine br_of (λhne=>?_) λheq=>?_
   ·rw[if_pos (by simpa using hne),List.append_nil]at hX
    exact⟨ho,s,xs,hX,s8.sel [3,4,5] 6⟩
   ·have heq:P.2=0:=by simpa using heq
    rw[if_neg (λh=>h heq)]at hX;rw[drw_def];have s8:=s8.drew;refine s8.L 3 rfl (p:=s) rfl ?_;refine s8.LA 0 rfl (p:=recT P.1 sd) rfl ?_;refine St.nw s8 λr4 W6 s9 _ _=>?_;have s9:St noF w W6 [BoxA r4 (rcl (recT P.1 sd)),BoxA b (rcl (recT P.1 sd)),SlA 1 sd (P.1.2.2.2.2.map ub),SlA 1 v ((rdD D blk).map ub),BoxA r (ringC dp st n h s),SlA 5 s (rcs xs),bts xs]:=s9;refine(s9.sel [5,0,2,4,3,6] 7).app (new:=rcl (recT P.1 sd)) (λ_=>rfl) (λh=>by cases h) (readsAt_row.2 s9.box.row) (na_r _) rfl (by decide) (by dsimp only;omega) λr2 W7 s10 _=>?_;refine s10.S 3 rfl (by simp) (by simp) λW8 s11=>?_;have e1:rcs xs++rcl (recT P.1 sd)=rcs (xs++[(⟨P.1.1,P.1.2.1,P.1.2.2.1,sd,P.1.2.2.2.1⟩,P.1.2.2.2.2)]):=by rw[rcs_append,rcs_one];rfl
    have e2:∀y:Rc,bts (xs++[y])=bigA (xs.map (λx=>bytA (x.1.s,x.2))++[bytA (y.1.s,y.2)]):=λy=>by simp[bts]
    have s12:=(s11.sel [2,5,0,3] 6).push;rw[w64_succ (by omega)];refine⟨⟨j+1,r2,xs++[(⟨P.1.1,P.1.2.1,P.1.2.2.1,sd,P.1.2.2.2.1⟩,P.1.2.2.2.2)],rfl,by simp[hxl],by omega,?_,λ_=>ho,?_⟩,?_⟩
    ·rw[List.map_append,List.append_assoc]
     rw[show h+((j+1:Nat):Int)=h+j+1 by push_cast;omega];exact hX
    ·have s13:St noF w W8 [BoxA r (ringC dp st n h r2),SlA 5 r2 (rcs xs++rcl (recT P.1 sd)),bigA (xs.map (λx=>bytA (x.1.s,x.2))++[bytA (sd,P.1.2.2.2.2)])]:=s12.sel [2,1,0] 3
     rw[e1,<-e2 (⟨P.1.1,P.1.2.1,P.1.2.2.1,sd,P.1.2.2.2.1⟩,P.1.2.2.2.2)]at s13;exact s13
    ·show(4*n).toNat-(((j+1:Nat):Int)).toNat<(4*n).toNat-((j:Int)).toNat
     omega
  ·have hge:(j:Int)=4*n:=by simp at hge;omega
   rw[show(4*n).toNat-j=0 by omega,scanR,List.append_nil]at hX;exact⟨hoff (by omega),s,xs,hX,s3⟩
 rintro⟨⟩ W ⟨hoff,s,xs,hx,s3⟩;rw[hoff];have hxl:=congrArg List.length hx;rw[List.length_map]at hxl;have hsc:(scanO D st n h).length<=(4*n).toNat:=scanR_len _ _;refine s3.L 0 rfl (p:=s) rfl ?_;have rl:=(s3.sel [1,2] 3).rl;have hsl:=rl.len;have hrow:=rl.1.row;rw[<-rcs_map]at hrow;have hna:=rcs_na xs;have hrl:=rcs_len xs;refine(s3.nosl 5).app (new:=rcs xs) (λ_=>by rw[hrl];omega) (λhx=>rl.1.none_len Rw.cells_len (by decide) hx) hrow (rcs_na _) rfl (by decide) (by dsimp only;omega) λt W2 s4 _=>?_;rw[List.nil_append]at s4;refine .inr ⟨rfl,r,s,t,xs,rfl,hx,?_⟩;exact s4.sel [1,2,3,0] 4
theorem V191(s:Sl)(xs:List Rc)(w:World)(h:RL w s xs)(hl:s.len<=1000000):Calls Tryz.prog 191 #[slV s] w (RetT [.c .slice,.c (.int .i64)] λr w'=>r.2=(com (xs.map rv)).2/\∃ys:List Rc,ys.map rv=(com (xs.map rv)).1/\St noF w w' [SlA 5 r.1 (rcs ys),bts ys]):=by
 refine Calls.mono (C25 s xs w h hl) ?_;rintro e w' ⟨r,he,h1,⟨ys,h2,h3⟩,h4⟩;exact⟨r,he,h1,ys,h3,h2.st h4⟩
theorem V192(p:PlanT)(b:Int)(w:World):Calls Tryz.prog 192 #[.agg #[iv p.1,iv p.2.1,iv p.2.2.1,iv p.2.2.2.1,iv p.2.2.2.2.1,iv p.2.2.2.2.2],iv b] w (RetT [.c .bool] λx w'=>x=decide (usableS p b)/\Grow w w'):=by
 refine F192_calls p.1 p.2.1 p.2.2.1 p.2.2.2.1 p.2.2.2.2.1 p.2.2.2.2.2 b _ _ ?_;unfold F192 usableS;refine St.nw (St.init0 w) λr w1 s1 _ _=>?_;have s1:St noF w w1 [BoxA r (pcells p)]:=s1;refine br_of (λh=>⟨dec_true (.inl (by simpa using h)),s1.gro⟩) λh=>?_;have h:b≠2:=by simpa using h
 refine s1.L 0 rfl (p:=p.2.1) rfl ?_;refine br_of (λh2=>?_) λh2=>?_
 ·refine s1.L 0 rfl (p:=p.2.2.2.2.2) rfl ⟨?_,s1.gro⟩
  simp only[decide_eq_true_eq]at h2;exact decide_eq_decide.2 ⟨λk=>.inr ⟨h2,k⟩,λk=>(k.resolve_left h).2⟩
 ·simp only[decide_eq_false_iff_not]at h2
  refine⟨?_,s1.gro⟩
  symm
  exact decide_eq_false λk=>k.elim h λk=>h2 k.1
def beginsE(D:DM):Int:=
 if D.off then 5 else if(chosenS D).2≠0 then 50 else if openR D 3 (chosenS D).1.2.2.1 (chosenS D).1.2.2.2.2.2≠0 then openR D 3 (chosenS D).1.2.2.1 (chosenS D).1.2.2.2.2.2 else
 if(com (scanO D 3 (chosenS D).1.2.2.1 (chosenS D).1.2.2.2.2.2)).1.all (λv=>decide (usableS (ofG (supG (chosenS D).1)).1 v.2.1))=false then 50 else 0
abbrev refC(dp:Nat)(S:Sup)(P:PlanT)(g:Nat)(off busy:Bool)(W:Sl):List Value:=
 [P0 dp,iv S.1,iv S.2.1,iv S.2.2.1,iv S.2.2.2.1,iv S.2.2.2.2.1,iv S.2.2.2.2.2,iv P.1,iv P.2.1,iv P.2.2.1,iv P.2.2.2.1,iv P.2.2.2.2.1,iv P.2.2.2.2.2,P0 g,.bool off,.bool busy,slV W]
def BeginQ(D:DM)(dp:Nat)(w:World)(r:Option Addr×Sl×Int)(w':World):Prop:=
 (beginsE D≠0/\r=(none,⟨none,0,0⟩,beginsE D)/\Grow w w')\/
 (beginsE D=0/\∃(x g:Nat) (s t:Sl) (xs ys:List Rc),r=(some ⟨x,0,none⟩,t,0)/\xs.map rv=scanO D 3 (chosenS D).1.2.2.1 (chosenS D).1.2.2.2.2.2/\ys.map rv=(com (scanO D 3 (chosenS D).1.2.2.1 (chosenS D).1.2.2.2.2.2)).1/\
   St noF w w' (BoxA x (refC dp (chosenS D).1 (ofG (supG (chosenS D).1)).1 g false false ⟨none,0,0⟩)::ringO g dp 3 (chosenS D).1.2.2.1 (chosenS D).1.2.2.2.2.2 s xs++[SlA 5 t (rcs ys),bts ys]))
theorem V241(s:Sl)(l:List UInt8)(o n:Nat)(w:World)(hs:BS w s l)(h1:1<=n)(h8:n<=8)(ho:o+n<=l.length)(hl:l.length<=1000000000):
 Calls Tryz.prog 241 #[slV s,iv o,iv n] w (RetT [.c (.int .u64),.c .bool] λr w'=>r.1=(leN ((l.drop o).take n):Nat)/\w=w'):=by
 refine F241_calls s o n _ _ ?_;unfold F241;have hsl:=hs.len;refine jn_of (λb W=>b=false/\w=W) ?_ ?_
 ·refine br_f (by simp;omega) (br_f (by simp;omega) (br_f (by simp) (br_f (by simp;omega) ⟨?_,rfl⟩)))
  rw[w64_of ⟨by omega,by omega⟩];simp;omega
 rintro _ _ ⟨rfl,rfl⟩;refine br_f rfl ?_;refine loop_of (λz W=>∃(i:Nat),z.2=i/\i<=n/\z.1=(leN ((l.drop o).take i):Nat)/\w=W) (λz _=>n-z.2.toNat) ⟨0,rfl,by omega,by simp[leN],rfl⟩ ?_;rintro⟨_,_⟩ W ⟨i,rfl,hi,rfl,rfl⟩;dsimp only;refine br_of (λhlt=>?_) (λhge=>?_)
 ·simp only[decide_eq_true_eq]at hlt
  have hin:i<n:=by omega
  rw[w64_of (n:=(o:Int)+(i:Int)) ⟨by omega,by omega⟩,show((o:Int)+(i:Int))=((o+i:Nat):Int) by omega];refine⟨⟨by omega,by omega⟩,?_⟩;rw[Int.toNat_natCast (o+i)];refine BS.at hs (show o+i<l.length by omega) ?_;rw[w64_of (n:=8*(i:Int)) ⟨by omega,by omega⟩,show(8*(i:Int))=((8*i:Nat):Int) by omega,wU64_of (n:=((8*i:Nat):Int)) ⟨by omega,by omega⟩];refine⟨by omega,?_⟩;have hb:=l[o+i].toNat_lt;have hbl:(l.drop o).take i++[l[o+i]]=(l.drop o).take (i+1):=by
   rw[List.take_add_one,List.getElem?_drop,List.getElem?_eq_getElem (by omega)];rfl
  have hlen:((l.drop o).take i).length=i:=by simp;omega
  have hle:leN ((l.drop o).take (i+1))=leN ((l.drop o).take i)+l[o+i].toNat*2^(8*i):=by
   rw[<-hbl,leN_append,hlen];simp only[leN];rw[Nat.mul_zero,Nat.add_zero,Nat.mul_comm]
  have hlt3:=leN_lt ((l.drop o).take (i+1));have hlen2:((l.drop o).take (i+1)).length=i+1:=by simp;omega
  rw[hlen2]at hlt3;have h64:2^(8*(i+1))<=2^64:=Nat.pow_le_pow_right (by decide) (by omega);have hsh:=bShl_u64 (x:=l[o+i].toNat) (y:=8*i) (by omega) (by rw[hle]at hlt3;omega);rw[wU64_of (n:=(l[o+i].toNat:Int)) ⟨by omega,by omega⟩,hsh,w64_succ (by omega)];refine⟨⟨i+1,rfl,by omega,?_,rfl⟩,by omega⟩;show wU64 _=_;rw[wU64_of ⟨by omega,by rw[hle]at hlt3;omega⟩,hle];exact(Int.natCast_add ..).symm
 ·simp only[decide_eq_false_iff_not]at hge
  have:i=n:=by omega
  subst this;exact⟨rfl,rfl⟩
theorem V232(s:Sl)(l:List UInt8)(o n:Nat)(w:World)(hs:BS w s l)(h1:1<=n)(h8:n<=8)(ho:o+n<=l.length)(hl:l.length<=1000000000):
 Calls Tryz.prog 232 #[slV s,iv o,iv n] w (RetT [.c (.int .i64)] λr w'=>r=w64 (leN ((l.drop o).take n):Nat)/\w=w'):=by
 refine F232_calls _ _ _ _ _ ?_;unfold F232;refine callF_of (V241 s l o n w hs h1 h8 ho hl) ?_;rintro⟨v,b⟩ _ ⟨hv,rfl⟩;dsimp only at hv⊢;rw[hv];exact⟨rfl,rfl⟩
theorem V233(s t:Sl)(l m:List UInt8)(w:World)(hs:BS w s l)(ht:BS w t m)(hl:l.length<=1000000000):Calls Tryz.prog 233 #[slV s,slV t] w (RetT [.c .bool] λr w'=>r=(l==m)/\Grow w w'):=by
 refine F233_calls _ _ _ _ ?_;unfold F233;have hsl:=hs.len;have htl:=ht.len;refine br_of (λh=>?_) λh=>?_
 ·refine⟨?_,Mod.refl _ w⟩
  symm
  rw[beq_eq_false_iff_ne];rintro rfl;simp at h;omega
 have hlm:l.length=m.length:=by simp at h;omega
 refine loop_of (λz W=>∃i:Nat,z=(i:Int)/\i<=l.length/\l.take i=m.take i/\Grow w W) (λz _=>l.length-z.toNat) ⟨0,rfl,by omega,rfl,Mod.refl _ w⟩ ?_;rintro _ W ⟨i,rfl,hi,he,g⟩;refine br_of (λhlt=>?_) λhge=>?_
 ·simp only[decide_eq_true_eq]at hlt
  have hil:i<l.length:=by omega
  rw[drw_def];have g2:Grow w W.drew:=Grow.trans g (Mod.refl _ W).drew;refine⟨⟨by omega,by omega⟩,?_⟩;rw[Int.toNat_natCast];refine BS.at (hs.grow g2) hil ?_;refine⟨⟨by omega,by omega⟩,?_⟩;rw[Int.toNat_natCast];refine BS.at (ht.grow g2) (show i<m.length by omega) ?_;have hsplit:∀(a:List UInt8) (h:i<a.length),a.take (i+1)=a.take i++[a[i]]:=λa h=>by rw[List.take_add_one,List.getElem?_eq_getElem h];rfl
  refine br_of (λhne=>?_) λheq=>?_
  ·refine⟨?_,g2⟩
   symm
   rw[beq_eq_false_iff_ne];rintro rfl;simp at hne
  ·rw[w64_succ (by omega)]
   have hb:l[i]=m[i]:=by
    have:(l[i].toNat:Int)=(m[i].toNat:Int):=by simpa using heq
    exact UInt8.toNat_inj.1 (by omega)
   exact⟨⟨i+1,rfl,hil,by rw[hsplit l hil,hsplit m (by omega),he,hb],g2⟩,by omega⟩
 ·simp only[decide_eq_false_iff_not]at hge
  have:i=l.length:=by omega
  subst this;rw[List.take_length,hlm,List.take_length]at he;exact⟨by rw[he];simp,g⟩
theorem field_drop(B:List UInt8):fieldS (B.drop 8)=(w64 (leN ((B.drop 8).take 8):Nat),((leN ((B.drop 16).take 4):Nat):Int),((leN ((B.drop 20).take 4):Nat):Int),((leN ((B.drop 24).take 4):Nat):Int),((leN ((B.drop 28).take 4):Nat):Int),w64 (leN ((B.drop 32).take 8):Nat)):=by
 unfold fieldS fldS;simp only[List.drop_drop]
theorem le4(l:List UInt8)(o:Nat):w64 (leN ((l.drop o).take 4):Nat)=(leN ((l.drop o).take 4):Nat):=by
 have h:=leN_lt ((l.drop o).take 4);have h2:((l.drop o).take 4).length<=4:=by rw[List.length_take];omega
 have h3:2^(8*((l.drop o).take 4).length)<=2^32:=Nat.pow_le_pow_right (by decide) (by omega);exact w64_of ⟨by omega,by omega⟩
theorem V213(b:Sl)(B:List UInt8)(w:World)(hs:BS w b B)(hB:B.length<=1000000):
 Calls Tryz.prog 213 #[slV b] w (RetT [.agg [.int .i64,.int .i64,.int .i64,.int .i64,.int .i64,.int .i64],.c (.int .i64)] λr w'=>r=parseS B/\Grow w w'):=by
 refine F213_calls _ _ _ ?_;unfold F213 parseS;have hbl:=hs.len;refine St.nw (St.init0 w) λr w1 s1 _ _=>?_;have s1:St noF w w1 [BoxA r (pcells Sup0)]:=s1;refine br_of (λh=>?_) λh=>?_
 ·have h:B.length≠256:=by simp at h;omega
  refine s1.SB 0 rfl rfl (na_p Sup0) λw2 s2=>St.LA 0 s2 rfl (p:=Sup0) rfl ⟨?_,s2.gro⟩;rw[if_neg λh'=>h h'.1]
 have hl256:B.length=256:=by simp at h;omega
 rw[field_drop];have num:∀{W:World} (o n:Nat) (k:Int->Pr),1<=n->n<=8->o+n<=256->Grow w W->k (w64 (leN ((B.drop o).take n):Nat)) W->callF Tryz.prog 232 [slV b,iv o,iv n] [.c (.int .i64)] k W:=by
  intro W o n k h1 h8 ho g hk;refine callF_of (V232 b B o n W (hs.grow g) h1 h8 (by omega) (by omega)) ?_;rintro _ _ ⟨rfl,rfl⟩;exact hk
 refine num 16 4 _ (by decide) (by decide) (by decide) s1.gro ?_;refine num 20 4 _ (by decide) (by decide) (by decide) s1.gro ?_;refine num 24 4 _ (by decide) (by decide) (by decide) s1.gro ?_;refine num 28 4 _ (by decide) (by decide) (by decide) s1.gro ?_;rw[le4,le4,le4,le4];obtain⟨g,hg⟩:∃g:Geo,g=(((leN ((B.drop 16).take 4):Nat):Int),((leN ((B.drop 20).take 4):Nat):Int),((leN ((B.drop 24).take 4):Nat):Int),((leN ((B.drop 28).take 4):Nat):Int)):=⟨_,rfl⟩;refine s1.nvs rfl (by simp) λr1 w2 s2=>?_;have s2:St noF w w2 [BoxA r1 (gcells g),BoxA r (pcells Sup0)]:=by rw[hg];exact s2
 obtain⟨E,hE⟩:∃E:Int,E=w64 (leN ((B.drop 8).take 8):Nat):=⟨_,rfl⟩;obtain⟨H,hH⟩:∃H:Int,H=w64 (leN ((B.drop 32).take 8):Nat):=⟨_,rfl⟩;have hS:(E,g.1,g.2.1,g.2.2.1,g.2.2.2,H)=(w64 (leN ((B.drop 8).take 8):Nat),((leN ((B.drop 16).take 4):Nat):Int),((leN ((B.drop 20).take 4):Nat):Int),((leN ((B.drop 24).take 4):Nat):Int),((leN ((B.drop 28).take 4):Nat):Int),w64 (leN ((B.drop 32).take 8):Nat)):=by rw[hE,hH,hg]
 rw[<-hS];refine jn_of (λ(p:Option Addr) W=>∃r2,p=some ⟨r2,0,none⟩/\St noF w W [BoxA r2 (pcells (E,g.1,g.2.1,g.2.2.1,g.2.2.2,H)),BoxA r1 (gcells g),BoxA r (pcells Sup0)]) ?_ ?_
 ·rw[drw_def]
  have s3:=s2.drew;refine jn_of (λ(z:Option Addr×Int×Int×Int×Int×Int×Int) W=>∃r2,z=(some ⟨r2,0,none⟩,E,g.1,g.2.1,g.2.2.1,g.2.2.2,H)/\St noF w W [BoxA r2 (pcells Sup0),BoxA r1 (gcells g),BoxA r (pcells Sup0)]) ?_ ?_
  ·have c8:∀{W:World} {k:Int->Pr},Grow w W->k E W->callF Tryz.prog 232 [slV b,iv 8,iv 8] [.c (.int .i64)] k W:=λg h=>num 8 8 _ (by decide) (by decide) (by decide) g (hE▸h)
   have c32:∀{W:World} {k:Int->Pr},Grow w W->k H W->callF Tryz.prog 232 [slV b,iv 32,iv 8] [.c (.int .i64)] k W:=λg h=>num 32 8 _ (by decide) (by decide) (by decide) g (hH▸h);have l0:∀{k:PayA [.int .i64,.int .i64,.int .i64,.int .i64]->Pr},k g w2.drew->ldA [.int .i64,.int .i64,.int .i64,.int .i64] (bA r1 0) k w2.drew:=λh=>s3.LA 0 rfl (p:=g) rfl h;have l1:∀{W:World} {r2:Nat} {k:PayA [.int .i64,.int .i64,.int .i64,.int .i64]->Pr},St noF w W [BoxA r2 (pcells Sup0),BoxA r1 (gcells g),BoxA r (pcells Sup0)]->k g W->ldA [.int .i64,.int .i64,.int .i64,.int .i64] (bA r1 0) k W:=λs h=>s.LA 1 rfl (p:=g) rfl h;have n0:∀{k:Nat->Pr},(∀r2 W,St noF w W [BoxA r2 (pcells Sup0),BoxA r1 (gcells g),BoxA r (pcells Sup0)]->k r2 W)->nw (.cells #[iv 0,iv 0,iv 0,iv 0,iv 0,iv 0] 61) k w2.drew:=λh=>St.nw s3 λr2 W s _ _=>h r2 W s;have g0:=s3.gro;refine⟨c8 g0 ⟨l0 ⟨c32 g0 (n0 λr2 W s=>?_),n0 λr2 W s=>c32 s.gro ?_⟩,c32 g0 (l0 (n0 λr2 W s=>?_)),n0 λr2 W s=>⟨l1 s (c32 s.gro ?_),c32 s.gro (l1 s ?_)⟩⟩,
    l0 ⟨c8 g0 ⟨c32 g0 (n0 λr2 W s=>?_),n0 λr2 W s=>c32 s.gro ?_⟩,n0 λr2 W s=>c8 s.gro (c32 s.gro ?_)⟩,
    n0 λr2 W s=>⟨c8 s.gro ⟨l1 s (c32 s.gro ?_),c32 s.gro (l1 s ?_)⟩,l1 s (c8 s.gro (c32 s.gro ?_))⟩⟩
   all_goals exact⟨r2,rfl,s⟩
  rintro _ W ⟨r2,rfl,s⟩;rw[deref_some'];refine s.S 0 rfl (by simp) trivial λW1 t1=>?_;refine t1.S 0 rfl (by simp) trivial λW2 t2=>?_;refine t2.S 0 rfl (by simp) trivial λW3 t3=>?_;refine t3.S 0 rfl (by simp) trivial λW4 t4=>?_;refine t4.S 0 rfl (by simp) trivial λW5 t5=>?_;exact t5.S 0 rfl (by simp) trivial λW6 t6=>⟨r2,rfl,t6⟩
 rintro _ W ⟨r2,rfl,s3⟩;clear hS num hE hH hg;generalize hSS:((E,g.1,g.2.1,g.2.2.1,g.2.2.2,H):Sup)=S at s3⊢;rw[deref_some'];refine s3.LA 0 rfl (p:=S) rfl ?_;refine callF_of (V138 S W) ?_;rintro⟨u,e⟩ w4 ⟨he,hP⟩;dsimp only at he hP;subst he;have g4:Grow W w4:=by
  rcases hP with⟨_,_,g⟩|⟨_,k⟩
  ·exact g
  ·exact k.gro
 have s4:=s3.grow g4;refine jn_of (λb W'=>b=decide (¬(supE S=0/\bytesS S=B))/\Grow w4 W') ?_ ?_
 ·rcases hP with⟨h1,rfl,_⟩|⟨h1,k⟩
  ·exact br_t (by simpa using h1) ⟨by simp[h1],Mod.refl _ _⟩
  ·refine br_f (by simp[h1]) ?_
   refine callF_of (V233 u b (bytesS S) B w4 k.sl.bs (hs.grow s4.gro) (by rw[bytesS_len];decide)) ?_;rintro _ w5 ⟨rfl,g5⟩;refine⟨?_,g5⟩;by_cases hb:bytesS S=B
   ·simp[hb,h1]
   ·simp[hb]
 rintro _ w5 ⟨rfl,g5⟩;have s5:=s4.grow g5;refine br_of (λh=>?_) λh=>?_
 ·have h:=of_decide_eq_true h
  refine s5.SB 2 rfl rfl (na_p Sup0) λw6 s6=>St.LA 2 s6 rfl (p:=Sup0) rfl ⟨?_,s6.gro⟩;rw[if_neg λh'=>h h'.2]
 ·have h:=Classical.not_not.1 (of_decide_eq_false h)
  refine s5.LA 0 rfl (p:=S) rfl ?_;refine s5.SB 2 rfl rfl (na_p S) λw6 s6=>St.LA 2 s6 rfl (p:=S) rfl ⟨?_,s6.gro⟩;rw[if_pos ⟨hl256,h⟩]
theorem V190(a b:Sl)(A B:List UInt8)(w:World)(ha:BS w a A)(hb:BS w b B)(hA:A.length<=1000000)(hB:B.length<=1000000):
 Calls Tryz.prog 190 #[slV a,slV b] w (RetT [.agg [.int .i64,.int .i64,.int .i64,.int .i64,.int .i64,.int .i64],.c (.int .i64)] λr w'=>r=chooseS A B/\Grow w w'):=by
 refine F190_calls _ _ _ _ ?_;unfold F190;obtain⟨X,hX⟩:∃X,X=parseS A:=⟨_,rfl⟩;obtain⟨Y,hY⟩:∃Y,Y=parseS B:=⟨_,rfl⟩;have oA:oneS A 0↔(X.2=0/\slotS X.1=0):=by rw[hX];exact Iff.rfl
 have oB:oneS B 1↔(Y.2=0/\slotS Y.1=1):=by rw[hY];exact Iff.rfl
 have hC:chooseS A B=if oneS A 0/\(¬oneS B 1\/X.1.1>Y.1.1)then(X.1,0)else if oneS B 1 then(Y.1,0)else(Sup0,50):=by rw[hX,hY];rfl
 refine St.nw (St.init0 w) λr w1 s1 _ _=>?_;refine callF_of (V213 a A w1 (ha.grow s1.gro) hA) ?_;rintro x w2 ⟨hx,g2⟩;rw[<-hX]at hx;subst hx;refine(s1.grow g2).nvs rfl (na_p x.1) λr1 w3 s3=>?_;refine callF_of (V213 b B w3 (hb.grow s3.gro) hB) ?_;rintro y w4 ⟨hy,g4⟩;rw[<-hY]at hy;subst hy;clear hX hY;refine(s3.grow g4).nvs rfl (na_p y.1) λr2 w5 s5=>?_;have s5:St noF w w5 [BoxA r2 (pcells y.1),BoxA r1 (pcells x.1),BoxA r (pcells Sup0)]:=s5;refine jn_of (λc W=>c=decide (oneS A 0)/\St noF w W [BoxA r2 (pcells y.1),BoxA r1 (pcells x.1),BoxA r (pcells Sup0)]) ?_ ?_
 ·refine br_of (λh=>?_) λh=>⟨?_,s5⟩
  ·have h:x.2=0:=by simpa using h
   refine s5.LA 1 rfl (p:=x.1) rfl ?_;refine callF_of (V139 x.1 w5) ?_;rintro _ w6 ⟨rfl,g6⟩;exact⟨by rw[Bool.eq_iff_iff,decide_eq_true_eq,oA];simp[h],s5.grow g6⟩
  ·have h:x.2≠0:=by simpa using h
   symm;rw[decide_eq_false_iff_not,oA];exact λk=>h k.1
 rintro _ w6 ⟨rfl,s6⟩;refine jn_of (λc W=>c=decide (oneS B 1)/\St noF w W [BoxA r2 (pcells y.1),BoxA r1 (pcells x.1),BoxA r (pcells Sup0)]) ?_ ?_
 ·refine br_of (λh=>?_) λh=>⟨?_,s6⟩
  ·have h:y.2=0:=by simpa using h
   refine s6.LA 0 rfl (p:=y.1) rfl ?_;refine callF_of (V139 y.1 w6) ?_;rintro _ w7 ⟨rfl,g7⟩;exact⟨by rw[Bool.eq_iff_iff,decide_eq_true_eq,oB];simp[h],s6.grow g7⟩
  ·have h:y.2≠0:=by simpa using h
   symm;rw[decide_eq_false_iff_not,oB];exact λk=>h k.1
 rintro _ w7 ⟨rfl,s7⟩;rw[hC];refine jn_of (λc W=>c=decide (oneS A 0/\(¬oneS B 1\/x.1.1>y.1.1))/\W=w7) ?_ ?_
 ·refine br_of (λh=>br_of (λh2=>⟨?_,rfl⟩) λh2=>?_) λh=>⟨?_,rfl⟩
  ·have h:=of_decide_eq_true h
   have h2:¬oneS B 1:=by simpa using h2
   exact dec_true ⟨h,.inl h2⟩
  ·have h:=of_decide_eq_true h
   have h2:oneS B 1:=by simpa using h2
   refine s7.L 1 rfl (p:=x.1.1) rfl (s7.L 0 rfl (p:=y.1.1) rfl ⟨?_,rfl⟩);exact decide_eq_decide.2 ⟨λk=>⟨h,.inr k⟩,λk=>k.2.resolve_left λn=>n h2⟩
  ·have h:=of_decide_eq_false h
   symm;exact decide_eq_false λk=>h k.1
 rintro _ _ ⟨rfl,rfl⟩;refine br_of (λh=>?_) λh=>?_
 ·rw[if_pos (of_decide_eq_true h)]
  refine s7.LA 1 rfl (p:=x.1) rfl ?_;exact s7.SB 2 rfl rfl (na_p x.1) λw8 s8=>St.LA 2 s8 rfl (p:=x.1) rfl ⟨rfl,s8.gro⟩
 rw[if_neg (of_decide_eq_false h)];refine br_of (λh=>?_) λh=>?_
 ·rw[if_pos (of_decide_eq_true h)]
  refine s7.LA 0 rfl (p:=y.1) rfl ?_;exact s7.SB 2 rfl rfl (na_p y.1) λw8 s8=>St.LA 2 s8 rfl (p:=y.1) rfl ⟨rfl,s8.gro⟩
 ·rw[if_neg (of_decide_eq_false h)]
  exact s7.SB 2 rfl rfl (na_p Sup0) λw8 s8=>St.LA 2 s8 rfl (p:=Sup0) rfl ⟨rfl,s8.gro⟩
theorem V142{dp:Nat}{D:DM}{N:Nat}{w:World}{F:Nat->Prop}(hh:Has [DiskA dp D] w F)(hd:DB N D)(hN:N<=900000):
 Calls Tryz.prog 142 #[P0 dp] w (RetT [.c .ptr,.c .slice,.c (.int .i64)] (BeginQ D dp w)):=by
 refine F142_calls _ _ _ ?_;unfold F142;simp only[deref_some'];have hbl:=hd.ok.pos;have hwl:=hd.bd.wait;have off:∀{W:World} {k:Bool->Pr},Grow w W->k D.off W->ldB (bA dp 2) k W:=by
  intro W k g hk;obtain⟨di,s⟩:=(St.init (hh.mod g λ_ _ h=>h)).ex;obtain⟨_,s⟩:=s.p;exact s.ld (i:=2) (s:=.bool) (p:=D.off) rfl hk
 have ldl:∀{W:World} {f:Sl->Pr},Grow w W->(∀t:Sl,t.len=D.blocks.length->f t W)->ldS (bA dp 0) f W:=by
  intro W f g hf;obtain⟨di,s⟩:=(St.init (hh.mod g λ_ _ h=>h)).ex;obtain⟨⟨hb,_⟩,s⟩:=s.p;refine s.ld (i:=0) (s:=.slice) (p:=di.bs) rfl (hf _ ?_);have hbs:=slA_len1 (s.bring 1).sl;rw[List.length_map]at hbs;rw[hbs,hb,List.length_map]
 have bad:∀{W:World} {e:Int},e≠0->beginsE D=e->Grow w W->BeginQ D dp w (none,⟨none,0,0⟩,e) W:=λhe h1 g=>.inl ⟨by rw[h1];exact he,by rw[h1],g⟩;have eT:=beginsE.eq_1 D;refine off (Mod.refl _ w) (br_of (λh=>?_) λho=>?_)
 ·exact bad (by decide) (by rw[eT,if_pos h]) (Mod.refl _ w)
 rw[if_neg (by simp[ho])]at eT;have rd:∀{W:World} {L:List HA} (i:Int) {k:Sl×Int->Pr},St noF w W L->0<=i->i<D.blocks.length->(∀v W',St noF w W' (SlA 1 v ((rdD D i).map ub)::L)->k (v,0) W')->callF Tryz.prog 148 [P0 dp,iv i] [.c .slice,.c (.int .i64)] k W:=by
  intro W L i k st h0 h1 hk;refine callF_of (C97 dp D i W F (hh.mod st.gro λ_ _ h=>h) hd.ok (by omega)) ?_;rintro⟨v,e⟩ W3 ⟨he,t1⟩;dsimp only at he t1;subst he;have hpe:placeE D i=0:=by
   unfold placeE;rw[if_neg (by simp[ho]),if_neg (show¬(i<0\/i>=D.blocks.length) by omega)]
  rw[if_pos hpe]at t1;rw[hpe];exact hk v W3 (st.call0 t1)
 refine ldl (Mod.refl _ w) λt0 ht0=>?_;refine br_of (λh=>?_) λh2=>?_
 ·have h:D.blocks.length<2:=by simp at h;omega
  exact bad (by decide) (by rw[eT];unfold chosenS;rw[if_pos h];rfl) (Mod.refl _ w)
 have h2:¬D.blocks.length<2:=by simp at h2;omega
 have hch:chosenS D=((chooseS (rdD D 0) (rdD D 1)).1,if(chooseS (rdD D 0) (rdD D 1)).2=0/\(D.blocks.length:Int)≠(chooseS (rdD D 0) (rdD D 1)).1.2.1 then 50 else(chooseS (rdD D 0) (rdD D 1)).2):=by
  unfold chosenS;rw[if_neg h2,if_neg (by simp[ho])]
 refine rd 0 (St.init0 w) (by decide) (by omega) λv0 w1 s1=>?_;refine rd 1 s1 (by decide) (by omega) λv1 w2 s2=>?_;have r0:=rdD_len hd.ok (i:=0) (by omega) (by omega);have r1':=rdD_len hd.ok (i:=1) (by omega) (by omega);refine callF_of (V190 v0 v1 _ _ w2 (s2.bring 1).sl.bs s2.sl.bs (by omega) (by omega)) ?_;generalize chooseS (rdD D 0) (rdD D 1)=y at hch;rintro x w3 ⟨hx,g3⟩;subst hx;refine(s2.grow g3).nvs rfl (na_p x.1) λr w4 s4=>?_;have s4:St noF w w4 [BoxA r (pcells x.1)]:=St.sel [0] 3 s4;refine jn_of (λc W=>c=decide ((chosenS D).2≠0)/\St noF w W [BoxA r (pcells x.1)]) ?_ ?_
 ·rw[drw_def]
  have s5:=s4.drew;rw[hch];refine br_of (λh=>?_) λh=>?_
  ·have h:x.2≠0:=by simpa using h
   exact⟨dec_true (by dsimp only;rw[if_neg (λk=>h k.1)];exact h),s5⟩
  ·have h:x.2=0:=by simpa using h
   refine ldl s5.gro λt1 ht1=>?_;refine s5.L 0 rfl (p:=x.1.2.1) rfl ⟨?_,s5⟩;dsimp only;rw[ht1,h];by_cases hl:(D.blocks.length:Int)=x.1.2.1
   ·simp[hl]
   ·simp[hl]
 rintro _ w5 ⟨rfl,s5⟩;refine br_of (λh=>?_) λh=>?_
 ·exact bad (by decide) (by rw[eT,if_pos (of_decide_eq_true h)]) s5.gro
 have hc0:(chosenS D).2=0:=Classical.not_not.1 (of_decide_eq_false h);rw[if_neg (λk=>k hc0)]at eT;have hc1:x.1=(chosenS D).1:=by rw[hch]
 rw[hc1]at s5;clear hch hc1;unfold BeginQ at *;generalize(chosenS D).1=S at s5 eT⊢;have hgr:Row w5 (bA r 1) (valA [.int .i64,.int .i64,.int .i64,.int .i64] (supG S)):=(s5.box.row.drop 1).take 4;refine ldA_of (p:=supG S) (readsAt_row.2 hgr) ?_;refine callF_of (V49 (supG S) w5) ?_;generalize ofG (supG S)=y at eT⊢;rintro P w6 ⟨hP,g6⟩;subst hP;refine(s5.grow g6).nvs rfl (na_p P.1) λr1 w7 s7=>?_;have s7:St noF w w7 [BoxA r1 (pcells P.1),BoxA r (pcells S)]:=s7;refine s7.L 1 rfl (p:=S.2.2.1) rfl ?_;refine s7.L 1 rfl (p:=S.2.2.2.2.2) rfl ?_;refine callF_of (V146 (hh.mod s7.gro λ_ _ h=>h) hd (by omega)) ?_;rintro o w8 (⟨e5,rfl,g8⟩|⟨e5,q,sr,t,xs,rfl,hxs,k8⟩)
 ·rw[if_pos e5]at eT
  exact br_t (by simpa using e5) (.inl ⟨by rw[eT];exact e5,by rw[eT],(s7.grow g8).gro⟩)
 rw[if_neg (λh'=>h' e5)]at eT;refine br_f rfl ?_;have s8:St noF w w8 [BoxA q (ringC dp 3 S.2.2.1 S.2.2.2.2.2 sr),SlA 5 sr (rcs xs),bts xs,SlA 5 t (rcs xs),BoxA r1 (pcells P.1),BoxA r (pcells S)]:=s7.call0 k8;have hsc:(scanO D 3 S.2.2.1 S.2.2.2.2.2).length<=(4*S.2.2.1).toNat:=scanR_len _ _;have hbO:¬badO D 3 S.2.2.1 S.2.2.2.2.2:=λhb=>by unfold openR at e5;rw[if_pos hb]at e5;cases e5
 unfold badO at hbO;have rlt:=(s8.sel [3,2] 6).rl;have hxl:xs.length=(scanO D 3 S.2.2.1 S.2.2.2.2.2).length:=by rw[<-hxs,List.length_map]
 have htl:=rlt.len;refine callF_of (V191 t xs w8 rlt (by omega)) ?_;rw[hxs];rintro⟨u,nn⟩ w9 ⟨_,zs,hz,k9⟩;dsimp only at hz k9⊢;generalize scanO D 3 S.2.2.1 S.2.2.2.2.2=R at eT hz hsc hxl hxs;have s9:St noF w w9 [SlA 5 u (rcs zs),bts zs,BoxA q (ringC dp 3 S.2.2.1 S.2.2.2.2.2 sr),SlA 5 sr (rcs xs),bts xs,BoxA r1 (pcells P.1),BoxA r (pcells S)]:=(s8.call0 k9).sel [0,1,2,3,4,6,7] 8;have hzl:zs.length<=R.length:=by have:=com_size R;rw[<-hz,List.length_map]at this;exact this
 have hul:=s9.ss.len;rw[List.length_map]at hul;refine loop_of (λi W=>∃j:Nat,i=j/\j<=zs.length/\(∀z∈zs.take j,usableS P.1 z.1.b)/\St noF w W [SlA 5 u (rcs zs),bts zs,BoxA q (ringC dp 3 S.2.2.1 S.2.2.2.2.2 sr),SlA 5 sr (rcs xs),bts xs,BoxA r1 (pcells P.1),BoxA r (pcells S)]) (λi _=>zs.length-i.toNat)
  ⟨0,rfl,by omega,by simp,s9⟩ ?_
 rintro _ W ⟨j,rfl,hj,hu,sW⟩;refine br_of (λhlt=>?_) λhge=>?_
 ·have hlt:j<zs.length:=by simpa[hul]using hlt
  have hzj:zs[j]? =some zs[j]:=by simp[hlt]
  rw[drw_def];have sX:=sW.drew;refine sX.LA 5 rfl (p:=P.1) rfl ?_;refine SS.elc Rw.cells_len sX.ss (r:=zs[j].1) (i:=1) (p:=zs[j].1.b) (by rw[List.getElem?_map,hzj];rfl) (by decide) rfl ?_;refine callF_of (V192 P.1 zs[j].1.b _) ?_;rintro _ W3 ⟨rfl,g⟩;have s8:=sX.grow g;refine br_of (λh=>?_) λh=>?_
  ·have h:¬usableS P.1 zs[j].1.b:=by simpa using h
   have hE:beginsE D=50:=by
    rw[eT,if_pos];rw[<-hz,List.all_eq_false];exact⟨rv zs[j],List.mem_map.2 ⟨_,List.getElem_mem hlt,rfl⟩,by rw[decide_eq_true_eq];exact h⟩
   exact .inl ⟨by rw[hE];decide,by rw[hE],s8.gro⟩
  ·have h:usableS P.1 zs[j].1.b:=by simpa using h
   rw[w64_succ (by omega)];refine⟨⟨j+1,rfl,hlt,?_,s8⟩,by omega⟩;intro z hz';rw[List.take_add_one,hzj]at hz';rcases List.mem_append.1 hz' with h3|h3
   ·exact hu z h3
   ·have:z=zs[j]:=by simpa using h3
    rw[this];exact h
 ·have:j=zs.length:=by simp[hul]at hge;omega
  subst this;rw[List.take_length]at hu;have hall:((com R).1.all λv=>decide (usableS P.1 v.2.1))=true:=by
   rw[<-hz,List.all_eq_true];intro v hv;obtain⟨z,h1,h2⟩:=List.mem_map.1 hv;rw[<-h2,decide_eq_true_eq];exact hu z h1
  rw[hall,if_neg (by decide)]at eT;refine sW.LA 6 rfl (p:=S) rfl ?_;refine sW.LA 5 rfl (p:=P.1) rfl ?_;refine St.nw sW λb W2 sY _ _=>?_;have sY:St noF w W2 [BoxA b (refC dp S P.1 q false false ⟨none,0,0⟩),SlA 5 u (rcs zs),bts zs,BoxA q (ringC dp 3 S.2.2.1 S.2.2.2.2.2 sr),SlA 5 sr (rcs xs),bts xs,BoxA r1 (pcells P.1),BoxA r (pcells S)]:=sY;refine .inr ⟨eT,b,q,sr,u,xs,zs,rfl,hxs,hz,?_⟩;exact sY.sel [0,3,4,5,1,2] 8
section
variable{dp N:Nat}{w w0:World}{F0:Nat->Prop}{L:List HA}
theorem rdR{D:DM}{i:Int}{k:Sl×Int->Pr}(h:St F0 w0 w (DiskA dp D::L))(hd:DB N D)(hN:N<=10000000)
 (hk:∀b w',St F0 w0 w' (SlA 1 b ((if placeE D i=0 then rdD D i else[]).map ub)::DiskA dp D::L)->k (b,placeE D i) w'):callF Tryz.prog 148 [P0 dp,iv i] [.c .slice,.c (.int .i64)] k w:=by
 obtain⟨G,H,g2,g3,g4,_,gc⟩:=St.call [DiskA dp D] h;refine callF_of (C97 dp D i w G g2 hd.ok (by have:=hd.bd.wait;omega)) ?_;rintro⟨b,e⟩ w2 ⟨he,s6⟩;dsimp only at he s6;subst he;exact hk b w2 (h.call0 s6)
theorem V149(pg s:Sl)(blk:Int)(l:List UInt8)(xs:List Rc)(w:World)(hp:BS w pg l)(hs:RL w s xs)(hl:s.len<=1000000):
 Calls Tryz.prog 149 #[slV pg,iv blk,slV s] w (RetT [.c .slice,.c (.int .i64)] λr w'=>
  r.2=redoEV l (xs.map rv)/\OwnS w' w.heap.size 1 r.1 ((if redoEV l (xs.map rv)=0 then redoV blk l (xs.map rv)else[]).map ub)/\Grow w w'):=by
 refine Calls.mono (C17 pg s blk l xs w hp hs hl) ?_;rintro e w' ⟨r,he,h⟩;refine⟨r,he,?_⟩;rwa[redoE_rv hs,redoF_rv]at h
theorem redo_loop{t p:Sl}{ks:List Int}{ys:List Rc}{D0:DM}{K1:Int->Pr}{K2:Pr}(h:St F0 w0 w (DiskA dp D0::SlA 1 t (ints ks)::SlA 5 p (rcs ys)::bts ys::L))(hd:DB N D0)(hN:N<=1000000)(hk:ks.length<=100000)(hp:ys.length<=1000000)
 (hok:∀v∈ys.map rv,okV v=true)
 (h1:∀e D' W,e≠0->redoB (ys.map rv) ks D0=(e,D')->St F0 w0 W (DiskA dp D'::SlA 1 t (ints ks)::SlA 5 p (rcs ys)::bts ys::L)->K1 e W)
 (h2:∀D' W,DB (N+2*ks.length) D'->redoB (ys.map rv) ks D0=flushD D'->St F0 w0 W (DiskA dp D'::SlA 1 t (ints ks)::SlA 5 p (rcs ys)::bts ys::L)->K2 W):
 loopE (S:=Int) (λX s=>br (decide (s<(t.len:Int))) (jn (S:=Unit) (λR=>el t s 1 λa=>ldI a λk=>callF Tryz.prog 148 [P0 dp,iv k] [.c .slice,.c I64] λx=>br (x.2 !=0) (K1 x.2)
  (el t s 1 λa=>ldI a λk=>callF Tryz.prog 149 [slV x.1,iv k,slV p] [.c .slice,.c I64] λy=>b2s y.1 λu=>b2s x.1 λv=>br (u.toList==v.toList) (R ())
    (el t s 1 λa=>ldI a λk=>callF Tryz.prog 136 [P0 dp,iv k,slV y.1] [.c I64] λe=>br (e !=0) (K1 e) (R ())))) λ_=>X (w64 (s+1))) K2) 0 w:=by
 refine loop_of (λz W=>∃(j:Nat) (D:DM),z=(j:Int)/\j<=ks.length/\DB (N+2*j) D/\redoB (ys.map rv) ks D0=redoB (ys.map rv) (ks.drop j) D/\St F0 w0 W (DiskA dp D::SlA 1 t (ints ks)::SlA 5 p (rcs ys)::bts ys::L)) (λz _=>ks.length-z.toNat)
  ⟨0,D0,rfl,by omega,hd,rfl,h⟩ ?_
 rintro _ W ⟨j,D,rfl,hj,hds,hX,s⟩;have hil:(ints ks).length=ks.length:=by simp[ints]
 have htl:=slA_len1 (s.bring 1).sl;rw[hil]at htl;refine br_of (λhlt=>?_) λhge=>?_
 ·have hlt:j<ks.length:=by simp at hlt;omega
  obtain⟨k,hkj⟩:∃k,ks[j]? =some k:=⟨ks[j],by simp[hlt]⟩;have ldk:∀{W:World} {L':List HA} {f:Int->Pr},St F0 w0 W (SlA 1 t (ints ks)::L')->f k W->el t (j:Int) 1 (λa=>ldI a f) W:=by
   intro W L' f st hf;refine⟨⟨by omega,by omega⟩,?_⟩;exact at_own st.sl (p:=k) (by rw[Int.toNat_natCast];unfold ints;rw[List.getElem?_map,hkj];rfl) hf
  have hdrop:ks.drop j=k::ks.drop (j+1):=by
   rw[List.drop_eq_getElem_cons hlt];congr 1;rw[List.getElem?_eq_getElem hlt]at hkj;exact Option.some.inj hkj
  rw[hdrop,redoB]at hX;refine jn_of (λ_ W'=>∃D',DB (N+2*(j+1)) D'/\redoB (ys.map rv) ks D0=redoB (ys.map rv) (ks.drop (j+1)) D'/\St F0 w0 W' (DiskA dp D'::SlA 1 t (ints ks)::SlA 5 p (rcs ys)::bts ys::L)) ?_ ?_
  ·refine ldk (s.bring 1) ?_
   refine rdR s hds (by omega) λx W2 s2=>?_;dsimp only;refine br_of (λhe=>?_) λhe=>?_
   ·have he:placeE D k≠0:=by simpa using he
    rw[if_pos he]at hX;exact h1 _ D W2 he hX s2.drop
   have he:placeE D k=0:=by simpa using he
   rw[if_neg (λh=>h he)]at hX;rw[if_pos he]at s2;refine ldk (s2.bring 2) ?_;have hpl:=place0 he;have hrl:=rdD_len hds.ok hpl.2.1 hpl.2.2;have hE:redoEV (rdD D k) (ys.map rv)=0:=redoE_of hrl hok;rw[if_neg (λh=>h hE)]at hX;have rl:=(s2.sel [3,4,0,1,2] 5).rl;refine callF_of (V149 x p k (rdD D k) ys W2 s2.sl.bs rl (by rw[rl.len];exact hp)) ?_;rintro⟨y,e⟩ W3 ⟨_,hy,g3⟩;dsimp only at hy⊢;rw[if_pos hE]at hy;have s3:=s2.mksl g3 hy;refine b2s_of s3.sl.bs (b2s_of (s3.bring 1).sl.bs ?_);refine br_of (λhq=>?_) λhq=>?_
   ·have hq:redoV k (rdD D k) (ys.map rv)=rdD D k:=by simpa using hq
    rw[if_pos hq]at hX;exact⟨D,hds.le (by omega),hX,s3.drop.drop⟩
   ·have hq:redoV k (rdD D k) (ys.map rv)≠rdD D k:=by simpa using hq
    rw[if_neg hq]at hX;refine ldk (s3.bring 3) ?_;have s4:St F0 w0 W3 (DiskA dp D::SlA 1 y ((redoV k (rdD D k) (ys.map rv)).map ub)::SlA 1 x ((rdD D k).map ub)::SlA 1 t (ints ks)::SlA 5 p (rcs ys)::bts ys::L):=s3.bring 2;refine wrR s4 hds (by omega) λW4 s5=>?_;have hw:=writeD_dg hds k (redoV k (rdD D k) (ys.map rv));have s6:St F0 w0 W4 (DiskA dp (writeD D k (redoV k (rdD D k) (ys.map rv))).2::SlA 1 t (ints ks)::SlA 5 p (rcs ys)::bts ys::L):=(s5.del 1).del 1;refine br_of (λhe2=>?_) λhe2=>?_
    ·have he2:(writeD D k (redoV k (rdD D k) (ys.map rv))).1≠0:=by simpa using he2
     rw[if_pos he2]at hX;exact h1 _ _ W4 he2 hX s6
    ·have he2:(writeD D k (redoV k (rdD D k) (ys.map rv))).1=0:=by simpa using he2
     rw[if_neg (λh=>h he2)]at hX;exact⟨_,hw.db.le (by omega),hX,s6⟩
  ·rintro⟨⟩ W' ⟨D',a,b,c⟩
   rw[w64_succ (by omega)];exact⟨⟨j+1,D',rfl,hlt,a,b,c⟩,by omega⟩
 ·have:j=ks.length:=by simp at hge;omega
  subst this;rw[List.drop_length,redoB]at hX;exact h2 D W hds hX s
end
theorem choose_e(A B:List UInt8):((chooseS A B).2=50\/(chooseS A B).2=0)/\((chooseS A B).2=0->supE (chooseS A B).1=0):=by
 unfold chooseS;split
 ·rename_i h;exact⟨.inr rfl,λ_=>(parseS_ok h.1.1).1⟩
 ·split
  ·rename_i h;exact⟨.inr rfl,λ_=>(parseS_ok h.1).1⟩
  ·exact⟨.inl rfl,λh=>absurd h (by decide)⟩
theorem chosen_e{D:DM}(ho:D.off=false):((chosenS D).2=50\/(chosenS D).2=0)/\((chosenS D).2=0->supE (chosenS D).1=0):=by
 unfold chosenS;split
 ·exact⟨.inl rfl,λh=>absurd h (by decide)⟩
 ·rw[if_neg (by simp[ho])]
  have h:=choose_e (rdD D 0) (rdD D 1);dsimp only;split
  ·exact⟨.inl rfl,λh=>absurd h (by decide)⟩
  ·exact h
theorem open_begins{D:DM}:(beginsE D≠0->openT D=(beginsE D,D))/\(beginsE D=0->D.off=false/\(chosenS D).2=0/\supE (chosenS D).1=0/\openR D 3 (chosenS D).1.2.2.1 (chosenS D).1.2.2.2.2.2=0/\
 openT D=(let t:=(chosenS D).1.2.2.2.2.2+(scanO D 3 (chosenS D).1.2.2.1 (chosenS D).1.2.2.2.2.2).length
  if lapE D (chosenS D).1 t≠0 then(lapE D (chosenS D).1 t,D)else
  if(redoD (com (scanO D 3 (chosenS D).1.2.2.1 (chosenS D).1.2.2.2.2.2)).1 D).1≠0 then redoD (com (scanO D 3 (chosenS D).1.2.2.1 (chosenS D).1.2.2.2.2.2)).1 D else noteD (redoD (com (scanO D 3 (chosenS D).1.2.2.1 (chosenS D).1.2.2.2.2.2)).1 D).2 (lapS (chosenS D).1 t).1)):=by
 have O:=openT.eq_1 D;have B:=beginsE.eq_1 D;dsimp only at O;cases ho:D.off with
 |true=>
  rw[ho,if_pos rfl]at O B;exact⟨λ_=>by rw[O,B],λh=>by rw[B]at h;cases h⟩
 |false=>
  obtain⟨h1,h2⟩:=chosen_e ho;rw[ho,if_neg (λh=>by cases h)]at O B;by_cases hc:(chosenS D).2=0
  ·rw[if_neg (λh=>h hc)]at O B
   have hs:=h2 hc;have hg:=(supE_ok hs).1;have hof:(ofG (supG (chosenS D).1)).2=0:=by unfold ofG;rw[if_pos hg]
   rw[if_neg (λh=>h hof)]at O;by_cases he:openR D 3 (chosenS D).1.2.2.1 (chosenS D).1.2.2.2.2.2=0
   ·rw[if_neg (λh=>h he)]at O B
    by_cases hall:(com (scanO D 3 (chosenS D).1.2.2.1 (chosenS D).1.2.2.2.2.2)).1.all (λv=>decide (usableS (ofG (supG (chosenS D).1)).1 v.2.1))=false
    ·rw[if_pos hall]at O B
     exact⟨λ_=>by rw[O,B],λh=>by rw[B]at h;cases h⟩
    ·rw[if_neg hall]at O B
     exact⟨λh=>absurd B h,λ_=>⟨rfl,hc,hs,he,O⟩⟩
   ·rw[if_pos he]at O B
    exact⟨λ_=>by rw[O,B],λh=>absurd (B.symm.trans h) he⟩
  ·rw[if_pos hc]at O B
   have h50:=h1.resolve_right hc;exact⟨λ_=>by rw[O,B,h50],λh=>by rw[B]at h;cases h⟩
def RefQ(dp:Nat)(D:DM)(F:Nat->Prop)(w:World)(r:Option Addr×Int)(w':World):Prop:=
 ((openT D).1≠0/\r=(none,(openT D).1)/\St F w w' [DiskA dp (openT D).2])\/
 ((openT D).1=0/\∃(x g:Nat) (s:Sl) (S:Sup),r=(some ⟨x,0,none⟩,0)/\S=(lapS (chosenS D).1 ((chosenS D).1.2.2.2.2.2+(scanO D 3 (chosenS D).1.2.2.1 (chosenS D).1.2.2.2.2.2).length)).1/\
   St F w w' (BoxA x (refC dp S (ofG (supG (chosenS D).1)).1 g false false ⟨none,0,0⟩)::ringO g dp 3 (chosenS D).1.2.2.1 S.2.2.2.2.2 s []++[DiskA dp (openT D).2]))
theorem next_ok{s:Sup}{h:Int}(e:(nextS s h).2=0):(nextS s h).1=(s.1+1,s.2.1,s.2.2.1,s.2.2.2.1,s.2.2.2.2.1,h)/\s.2.2.2.2.2<=h/\h<=1152921504606846976/\supE s=0:=by
 unfold nextS at e⊢;by_cases h0:nextE s h=0
 ·rw[if_pos h0]
  refine⟨rfl,?_⟩;unfold nextE at h0;by_cases h1:supE s=0
  ·rw[if_neg (λk=>k h1)]at h0
   by_cases h2:h<s.2.2.2.2.2\/h>1152921504606846976
   ·rw[if_pos h2]at h0;cases h0
   ·exact⟨by omega,by omega,h1⟩
  ·rw[if_pos h1]at h0;exact absurd h0 h1
 ·rw[if_neg h0]at e;exact absurd e h0
theorem scan_okv{D:DM}{st n:Int}:∀{f:Nat} {q:Int} {v:Rv},v∈scanR D st n f q->okV v=true
 |0,_,_,h=>by simp[scanR]at h
 |f+1,q,v,h=>by
  unfold scanR at h;by_cases he:(takeR (slotR D st n q) q).2=0
  ·rw[if_neg (λk=>k he)]at h
   rcases List.mem_cons.1 h with h|h
   ·rw[h];exact(take_ok he).2.1
   ·exact scan_okv h
  ·rw[if_pos he]at h;cases h
theorem V93{dp:Nat}{D:DM}{N:Nat}{w:World}{F:Nat->Prop}(hh:Has [DiskA dp D] w F)(hd:DB N D)(hN:N<=700000):
 Calls Tryz.prog 93 #[P0 dp] w (RetT [.c .ptr,.c (.int .i64)] (RefQ dp D F w)):=by
 refine F93_calls _ _ _ ?_;unfold F93;have s0:=St.init hh;have bad:∀{W:World} {e:Int} {D':DM},e≠0->openT D=(e,D')->St F w W [DiskA dp D']->RefQ dp D F w (none,e) W:=λhe h1 h2=>.inl ⟨by rw[h1];exact he,by rw[h1],by rw[h1];exact h2⟩;obtain⟨ob1,ob2⟩:=open_begins (D:=D);refine callF_of (V142 hh hd (by omega)) ?_;rintro o w1 (⟨e1,rfl,g1⟩|⟨e1,x,g,sr,u,xs,zs,rfl,hxs,hzs,s1⟩)
 ·exact br_t (by simpa using e1) (bad e1 (ob1 e1) (s0.grow g1))
 refine br_f rfl ?_;obtain⟨ho,hc,hs,hoR,eT⟩:=ob2 e1;clear ob1 ob2;dsimp only at eT⊢;unfold RefQ at *;generalize(chosenS D).1=S at *;generalize(ofG (supG S)).1=P at *;generalize hRR:scanO D 3 S.2.2.1 S.2.2.2.2.2=R at *;have hbO:¬badO D 3 S.2.2.1 S.2.2.2.2.2:=λhb=>by unfold openR at hoR;rw[if_pos hb]at hoR;cases hoR
 unfold badO at hbO;have hRl:R.length<=(4*S.2.2.1).toNat:=by rw[<-hRR];exact scanR_len _ _
 have hxl:xs.length=R.length:=by rw[<-hxs,List.length_map]
 have s1:St noF w w1 [BoxA x (refC dp S P g false false ⟨none,0,0⟩),BoxA g (ringC dp 3 S.2.2.1 S.2.2.2.2.2 sr),SlA 5 sr (rcs xs),bts xs,SlA 5 u (rcs zs),bts zs]:=s1;have hsr:=(s1.sel [2,3] 6).rl.len;obtain⟨tl,htl⟩:∃tl:Int,tl=S.2.2.2.2.2+(R.length:Int):=⟨_,rfl⟩;rw[<-htl]at eT⊢;obtain⟨NX,hNX⟩:∃NX,NX=nextS S (lapV tl S.2.2.1):=⟨_,rfl⟩;have hlap:lapS S tl=NX:=by rw[hNX];rfl
 rw[hlap]at eT⊢;refine jn_of (λ(c:Int×Option Addr) W=>∃b,c=(NX.2,some ⟨b,0,none⟩)/\St noF w W (BoxA b (pcells NX.1)::[BoxA x (refC dp S P g false false ⟨none,0,0⟩),BoxA g (ringC dp 3 S.2.2.1 S.2.2.2.2.2 sr),SlA 5 sr (rcs xs),bts xs,SlA 5 u (rcs zs),bts zs])) ?_ ?_
 ·rw[drw_def]
  have s7:=s1.drew;simp only[deref_some'];refine s7.L 0 rfl (p:=(some ⟨g,0,none⟩:Option Addr)) rfl ?_;have hx:=s7.box;have hg:=(s7.bring 1).box;generalize w1.drew=W5 at s7 hx hg;refine jn_of (λ(c:Option Addr×Sup×Int) W=>∃b,c=((some ⟨b,0,none⟩:Option Addr),NX.1,NX.2)/\St noF W5 W [BoxA b (pcells Sup0)]) ?_ ?_
  ·generalize hQ:(λ(c:Option Addr×Sup×Int) W=>∃b,c=((some ⟨b,0,none⟩:Option Addr),NX.1,NX.2)/\St noF W5 W [BoxA b (pcells Sup0)])=QQ
   have fin1:∀{b W},St noF W5 W [BoxA b (pcells Sup0)]->QQ ((some ⟨b,0,none⟩:Option Addr),NX.1,NX.2) W:=λ{b W} t=>by rw[<-hQ];exact⟨b,rfl,t⟩
   clear hQ;have t0:=St.init0 W5;have lA:∀{W L} {k:Sup->Pr},St noF W5 W L->k S W->ldA [I64,I64,I64,I64,I64,I64] (bA x 1) k W:=λ{W L k} t hk=>by
    have hrow:Row W (bA x 1) (valA [.int .i64,.int .i64,.int .i64,.int .i64,.int .i64,.int .i64] S):=((hx.grow t.gro).row.drop 1).take 6;exact ldA_of (p:=S) (readsAt_row.2 hrow) hk
   have lN:∀{W L} {k:Int->Pr},St noF W5 W L->k S.2.2.1 W->ldI (bA x 3) k W:=λt hk=>(hx.grow t.gro).ld (i:=3) (s:=.int .i64) (p:=S.2.2.1) rfl hk;have c145:∀{W L} {k:Int->Pr},St noF W5 W L->(∀W',St noF W5 W' L->k tl W')->callF Tryz.prog 145 [P0 g] [.c I64] k W:=λ{W L k} t hk=>by
    refine callF_of (V145 (hg.grow t.gro) (by omega) (by omega)) ?_;rintro y W' ⟨hy,gg⟩;have:y=tl:=by rw[hy,htl,hsr,hxl]
    subst this;exact hk W' (t.grow gg)
   have c144:∀{W L} {k:Int->Pr},St noF W5 W L->k (lapV tl S.2.2.1) W->callF Tryz.prog 144 [iv tl,iv S.2.2.1] [.c I64] k W:=λ{W L k} t hk=>by
    refine callF_of (V144 tl S.2.2.1 W) ?_;rintro _ _ ⟨rfl,rfl⟩;exact hk
   have c143:∀{W L} {k:Sup×Int->Pr},St noF W5 W L->(∀W',St noF W5 W' L->k NX W')->callF Tryz.prog 143 [S.v,iv (lapV tl S.2.2.1)] [.agg [I64,I64,I64,I64,I64,I64],.c I64] k W:=λ{W L k} t hk=>by
    refine callF_of (V143 S (lapV tl S.2.2.1) W) ?_;rintro y W' ⟨hy,gg⟩;rw[<-hNX]at hy;subst hy;exact hk W' (t.grow gg)
   have cnw:∀{W L} {k:Nat->Pr},St noF W5 W L->(∀b W',St noF W5 W' (BoxA b (pcells Sup0)::L)->k b W')->nw (.cells #[iv 0,iv 0,iv 0,iv 0,iv 0,iv 0] 61) k W:=λt hk=>St.nw t λb W' t' _ _=>hk b W' t'
   repeat' first
    |with_reducible refine both_of ?_ ?_
    |with_reducible refine lA (by assumption) ?_
    |with_reducible refine lN (by assumption) ?_
    |with_reducible refine c145 (by assumption) λ_ _=>?_
    |with_reducible refine c144 (by assumption) ?_
    |with_reducible refine c143 (by assumption) λ_ _=>?_
    |with_reducible refine cnw (by assumption) λ_ _ _=>?_
    |exact fin1 (by assumption)
  rintro _ W6 ⟨b,rfl,t1⟩;have s8:=s7.call0 t1;have s8:St noF w W6 (BoxA b (pcells Sup0)::[BoxA x (refC dp S P g false false ⟨none,0,0⟩),BoxA g (ringC dp 3 S.2.2.1 S.2.2.2.2.2 sr),SlA 5 sr (rcs xs),bts xs,SlA 5 u (rcs zs),bts zs]):=s8;rw[deref_some'];refine s8.S 0 rfl (by simp) trivial λ_ t1=>?_;refine t1.S 0 rfl (by simp[setA]) trivial λ_ t2=>?_;refine t2.S 0 rfl (by simp[setA]) trivial λ_ t3=>?_;refine t3.S 0 rfl (by simp[setA]) trivial λ_ t4=>?_;refine t4.S 0 rfl (by simp[setA]) trivial λ_ t5=>?_;refine t5.S 0 rfl (by simp[setA]) trivial λ_ t6=>?_;exact⟨b,rfl,t6⟩
 rintro _ w2 ⟨b,rfl,s2⟩;refine br_of (λh=>?_) λh=>?_
 ·have h:NX.2≠0:=by simpa using h
  have hl:lapE D S tl=6:=by unfold lapE;rw[hlap,if_pos h]
  have hE:openT D=(6,D):=by rw[eT,hl];rfl
  exact .inl ⟨by rw[hE];exact(λh=>by cases h),by rw[hE],by rw[hE];exact s0.grow s2.gro⟩
 have h:NX.2=0:=by simpa using h
 have hn:=next_ok (s:=S) (h:=lapV tl S.2.2.1) (by rw[<-hNX];exact h);rw[<-hNX]at hn;obtain⟨hN1,hN2,hN3,_⟩:=hn;have hsr2:=(supE_ok hs).2;have hhd:NX.1.2.2.2.2.2=lapV tl S.2.2.1:=by rw[hN1]
 have hoR2:openR D 3 S.2.2.1 NX.1.2.2.2.2.2=0:=by
  have h4:=hsr2.2.2.1;have hb2:¬badO D 3 S.2.2.1 NX.1.2.2.2.2.2:=by unfold badO;rw[hhd];omega
  unfold openR;rw[if_neg hb2,ho];rfl
 have hLE:lapE D S tl=if 0<(scanO D 3 S.2.2.1 NX.1.2.2.2.2.2).length then 50 else 0:=by
  unfold lapE;rw[hlap,if_neg (λk=>k h),if_neg (λk=>k hoR2)]
 rw[drw_def];have s3:=s2.drew;refine s3.L 1 rfl (p:=S.2.2.1) rfl ?_;refine s3.L 0 rfl (p:=NX.1.2.2.2.2.2) rfl ?_;refine callF_of (V146 (hh.mod s3.gro λ_ _ h=>h) hd (by omega)) ?_;rintro o w4 (⟨e5,_⟩|⟨_,q,s',t,xs2,rfl,hx2,k4⟩)
 ·exact absurd hoR2 e5
 have s4:St noF w w4 (ringO q dp 3 S.2.2.1 NX.1.2.2.2.2.2 s' xs2++[SlA 5 t (rcs xs2),BoxA b (pcells NX.1),BoxA x (refC dp S P g false false ⟨none,0,0⟩),BoxA g (ringC dp 3 S.2.2.1 S.2.2.2.2.2 sr),SlA 5 sr (rcs xs),bts xs,SlA 5 u (rcs zs),bts zs]):=s3.call0 k4;have htl2:=(St.sel [3,2] 11 s4).rl.len;have hxl2:xs2.length=(scanO D 3 S.2.2.1 NX.1.2.2.2.2.2).length:=by rw[<-hx2,List.length_map]
 refine jn_of (λc W=>c=decide (0<xs2.length)/\W=w4) (br_f rfl ⟨?_,rfl⟩) ?_
 ·exact decide_eq_decide.2 (by rw[htl2];omega)
 rintro _ _ ⟨rfl,rfl⟩;refine br_of (λh3=>?_) λh3=>?_
 ·have h3:=of_decide_eq_true h3
  have hl:lapE D S tl=50:=by rw[hLE,if_pos (by omega)]
  have hE:openT D=(50,D):=by rw[eT,hl];rfl
  exact .inl ⟨by rw[hE];exact(λh=>by cases h),by rw[hE],by rw[hE];exact s0.grow s4.gro⟩
 have h3:xs2=[]:=List.eq_nil_of_length_eq_zero (by have:=of_decide_eq_false h3;omega);subst h3;have hl:lapE D S tl=0:=by rw[hLE,if_neg (by rw[<-hxl2];simp)]
 rw[hl,if_neg (λk=>k rfl)]at eT;have hzs2:zs.length<=R.length:=by have:=com_size R;rw[<-hzs,List.length_map]at this;exact this
 have rlz:=(St.sel [9,10] 11 s4).rl;refine callF_of (C26 u zs _ rlz (by rw[rlz.len];omega)) ?_;rintro tb w5 ⟨hb5,g5⟩;have s5:=s4.mksl g5 hb5;have s6:=s0.call0 s5;have s6:St F w w5 (DiskA dp D::SlA 1 tb (ints (blocksV (zs.map rv)))::SlA 5 u (rcs zs)::bts zs::[BoxA q (ringC dp 3 S.2.2.1 NX.1.2.2.2.2.2 s'),SlA 5 s' (rcs []),bts [],BoxA b (pcells NX.1),BoxA x (refC dp S P g false false ⟨none,0,0⟩)]):=s6.sel [12,0,10,11,1,2,3,5,6] 13;have hks:(blocksV (zs.map rv)).length<=100000:=by have:=blocks_len zs;omega
 have hokv:∀v∈zs.map rv,okV v=true:=by
  rw[hzs];intro v hv;have h9:=(com_mem hv).2;rw[<-hRR]at h9;exact scan_okv h9
 rw[<-hzs]at eT;unfold redoD at eT;refine redo_loop s6 hd (by omega) hks (by omega) hokv (λe D' W he hX st=>?_) λD' W hd' hX st=>?_
 ·rw[hX]at eT
  have hE:openT D=(e,D'):=by rw[eT,if_pos he]
  exact .inl ⟨by rw[hE];exact he,by rw[hE],by rw[hE];exact st.sel [0] 9⟩
 ·rw[hX]at eT
  have hdf:=flushD_dg hd';refine flR st hd' (by omega) λW2 st2=>?_;refine br_of (λhe=>?_) λhe=>?_
  ·have he:(flushD D').1≠0:=by simpa using he
   rw[if_pos he]at eT;exact .inl ⟨by rw[eT];exact he,by rw[eT],by rw[eT];exact st2.sel [0] 9⟩
  have he:(flushD D').1=0:=by simpa using he
  rw[if_neg (λk=>k he)]at eT;refine st2.LA 7 rfl (p:=NX.1) rfl ?_;obtain⟨G,H,k2,_,_,_,gc⟩:=St.call [DiskA dp (flushD D').2] st2;refine callF_of (V89 (s:=NX.1) k2 hdf.db (by omega)) ?_;rintro _ W3 ⟨rfl,st3⟩;have st3:=gc _ _ st3;have st3:St F w W3 (DiskA dp (noteD (flushD D').2 NX.1).2::SlA 1 tb (ints (blocksV (zs.map rv)))::SlA 5 u (rcs zs)::bts zs::[BoxA q (ringC dp 3 S.2.2.1 NX.1.2.2.2.2.2 s'),SlA 5 s' (rcs []),bts [],BoxA b (pcells NX.1),BoxA x (refC dp S P g false false ⟨none,0,0⟩)]):=st3;refine br_of (λhf=>?_) λhf=>?_
  ·have hf:(noteD (flushD D').2 NX.1).1≠0:=by simpa using hf
   exact .inl ⟨by rw[eT];exact hf,by rw[eT],by rw[eT];exact st3.sel [0] 9⟩
  have hf:(noteD (flushD D').2 NX.1).1=0:=by simpa using hf
  rw[drw_def];have st4:=st3.drew;refine st4.LA 7 rfl (p:=NX.1) rfl ?_;have hrow:Row W3.drew (bA x 7) (valA [.int .i64,.int .i64,.int .i64,.int .i64,.int .i64,.int .i64] P):=((st4.bring 8).box.row.drop 7).take 6;refine ldA_of (p:=P) (readsAt_row.2 hrow) ?_;refine St.nw st4 λc W4 st5 _ _=>?_;refine .inr ⟨by rw[eT];exact hf,c,q,s',NX.1,rfl,rfl,?_⟩;rw[eT];exact st5.sel [0,5,6,7,1] 10
theorem subSl_zero(t:Sl):subSl t 0=t:=by
 obtain⟨a,n,c⟩:=t;unfold subSl;cases a with
 |none=>simp
 |some ad=>simp[add_zero']
theorem cpy_row{F0:Nat->Prop}{w0 w:World}{L:List HA}{t src:Sl}{vs l:List UInt8}{k:Pr}(h:St F0 w0 w (SlA 1 t (vs.map ub)::L))(hs:BS w src l)(h1:vs.length<=l.length)
 (hk:∀w',St F0 w0 w' (SlA 1 t ((l.take vs.length).map ub)::L)->k w'):cpy 1 t src k w:=by
 have hl:=slA_len1 h.sl;rw[List.length_map]at hl;have hsl:=hs.len;refine cpy_min ?_;rw[show Nat.min src.len t.len=vs.length by rw[hsl,hl];exact Nat.min_eq_right h1];have h2:=BS.cut hs vs.length 0 (by omega);have e:(l.take vs.length).length=vs.length:=by rw[List.length_take];omega
 rw[<-subSl_zero t];refine cpy_sub h h2 (by omega) λw' s=>hk w' ?_;have:lay vs 0 (l.take vs.length)=l.take vs.length:=by
  unfold lay;rw[e,List.take_zero,List.nil_append,Nat.zero_add,List.drop_length,List.append_nil]
 rw[<-this];exact s
def chk(l:List UInt8)(i:Nat):List UInt8:=(l.drop (256*i)).take 256
def chunks(l:List UInt8):List (List UInt8):=(List.range (l.length/256)).map (chk l)
def ofD(l:List UInt8):DM:=⟨chunks l,[],false,0,0,[]⟩
def okI(l:List UInt8):Prop:=l.length%256=0/\1<=l.length/256/\l.length/256<=2048
instance(l:List UInt8):Decidable (okI l):=by unfold okI;exact inferInstance
def half(l:List UInt8)(n j:Nat)(bl:List (List UInt8)):Prop:=∀i,bl[i]? =if i<n then some (if i<j then chk l i else zero256)else none
theorem ofD_ok{l:List UInt8}(h:okI l):(ofD l).ok:=by
 obtain⟨h1,h2,h3⟩:=h;refine⟨λb hb=>?_,λx hx=>by simp[ofD]at hx,by simpa[ofD,chunks]using h2,by simpa[ofD,chunks]using h3⟩;simp only[ofD,chunks,List.mem_map,List.mem_range]at hb;obtain⟨i,hi,rfl⟩:=hb;unfold chk;rw[List.length_take,List.length_drop];omega
section
variable{w W:World}{p n j:Nat}{q:Sl}{l:List UInt8}{dk:DI}
theorem half_done(hn:l.length/256=n)(h:half l n n (dk.bl.map (·.2))):dk.bl.map (·.2)=chunks l:=by
 refine List.ext_getElem? λi=>?_;rw[h i,chunks,List.getElem?_map,hn];by_cases hi:i<n
 ·rw[if_pos hi,if_pos hi,List.getElem?_range hi];rfl
 ·rw[if_neg hi,List.getElem?_eq_none (by simp;omega)];rfl
theorem of_step{K:Pr}(s:St noF w W (dpc p (newD n) dk))(hq:BS w q l)(hqc:q.len<=q.cap)(hj:j<n)(hl:n*256<=l.length)(hn:n<=2048)(hh:half l n j (dk.bl.map (·.2)))
 (hK:∀w',St noF w w' (dpc p (newD n) (setBl dk j (chk l j)))->half l n (j+1) ((setBl dk j (chk l j)).bl.map (·.2))->K w'):
 drw (ldS (bA p 0) λt33=>el t33 (j:Int) 1 λa=>ldS a λt36=>slc 1 q (some (w64 ((j:Int)*256))) none none λt40=>cpy 1 t36 t40 K) W:=by
 rw[drw_def];have sd:=s.drew;have hq':=(⟨hq,λ_ _ _ h=>h⟩:Rd w noF q l).at sd;obtain⟨x,hx⟩:∃x,dk.bl[j]? =some x:=by
  have:=hh j;rw[if_pos hj,List.getElem?_map]at this;cases hb:dk.bl[j]?with
  |none=>rw[hb]at this;cases this
  |some x=>exact⟨x,rfl⟩
 have hx2:x.2=zero256:=by
  have:=hh j;rw[if_pos hj,if_neg (by omega),List.getElem?_map,hx]at this;simpa using this
 have hil:=(split_at hx).2;have hbl:dk.bl.length=n:=by
  have h1:=hh n;rw[if_neg (by omega),List.getElem?_map]at h1;have h2:=hh (n-1);rw[if_pos (by omega),List.getElem?_map]at h2;rcases Nat.lt_trichotomy dk.bl.length n with h|h|h
  ·rw[List.getElem?_eq_none (by omega)]at h2;cases h2
  ·exact h
  ·rw[List.getElem?_eq_getElem h]at h1;cases h1
 refine sd.L 0 rfl (p:=dk.bs) rfl ?_;have hbsl:=slA_len1 (sd.bring 1).sl;rw[List.length_map]at hbsl;have hbs2:dk.bs.len=dk.bl.length:=hbsl;refine⟨⟨by omega,by show(j:Int)<(dk.bs.len:Int);omega⟩,?_⟩;refine at_own (sd.bring 1).sl (p:=x.1) (by rw[Int.toNat_natCast,List.getElem?_map,hx];rfl) ?_;have sp:=(sd.bring 4).pick (i:=j) (A:=bytA x) (by rw[List.getElem?_map,hx];rfl);rw[w64_of ⟨by omega,by omega⟩,show(j:Int)*256=((256*j:Nat):Int) by omega];refine slc_from hq' hqc (by omega) λr hr _ _ _ _=>?_;have sp:St noF w W.drew (SlA 1 x.1 (x.2.map ub)::bigA ((dk.bl.map bytA).eraseIdx j)::_):=sp;have hxl:x.2.length=256:=by rw[hx2];exact List.length_replicate
 refine cpy_row sp hr (by rw[hxl,List.length_drop];omega) λw2 s2=>?_;rw[hxl]at s2;have s3:=St.unpick (A:=bytA (x.1,chk l j)) s2 (by rw[List.length_map];exact hil);have hm:dk.bl.set j (x.1,chk l j)=dk.bl.modify j λx=>(x.1,chk l j):=by
  refine List.ext_getElem? λi=>?_;rw[List.getElem?_set,List.getElem?_modify];by_cases hi:j=i
  ·subst hi;rw[if_pos rfl,hx];simp[hil]
  ·rw[if_neg hi];simp[hi]
 have e1:(dk.bl.map bytA).set j (bytA (x.1,chk l j))=(setBl dk j (chk l j)).bl.map bytA:=by rw[setBl,<-hm,List.map_set]
 have e2:(dk.bl.map λx=>slV x.1)=(setBl dk j (chk l j)).bl.map λx=>slV x.1:=by
  rw[setBl,<-hm,List.map_set];refine List.ext_getElem? λi=>?_;rw[List.getElem?_set];by_cases hi:j=i
  ·subst hi;rw[if_pos rfl,List.getElem?_map,hx];simp[hil]
  ·rw[if_neg hi]
 rw[e1]at s3;rw[e2]at s3;refine hK w2 (s3.sel [1,2,3,4,0,5] 6) ?_;have hset:(setBl dk j (chk l j)).bl.map (·.2)=(dk.bl.map (·.2)).set j (chk l j):=modify_map2;rw[hset];intro i;rw[List.getElem?_set,hh i,List.length_map];by_cases hi:j=i
 ·subst hi;rw[if_pos rfl,if_pos hil,if_pos hj,if_pos (by omega)]
 ·rw[if_neg hi]
  by_cases h2:i<n
  ·rw[if_pos h2,if_pos h2]
   by_cases h3:i<j
   ·rw[if_pos h3,if_pos (by omega)]
   ·rw[if_neg h3,if_neg (by omega)]
  ·rw[if_neg h2,if_neg h2]
theorem half_zero{di:DI}(hb:(newD n).blocks=di.bl.map (·.2)):half l n 0 (di.bl.map (·.2)):=by
 rw[<-hb];intro i;show(List.replicate n zero256)[i]? =_;rw[List.getElem?_replicate];by_cases h:i<n
 ·rw[if_pos h,if_pos h,if_neg (by omega)]
 ·rw[if_neg h,if_neg h]
theorem of_end{di:DI}(hw:(newD n).wait=di.wl.map λx=>(x.1,x.2.2))(hs:SameDI di dk)(hn:l.length/256=n)(h:half l n n (dk.bl.map (·.2)))(s:St noF w W (dpc p (newD n) dk)):St noF w W [DiskA p (ofD l)]:=by
 refine mkDisk (D:=ofD l) dk (half_done hn h).symm (by rw[hs.wl];exact hw) ?_;exact s
def PostOf(w:World)(l:List UInt8)(r:Option Addr×Int)(w':World):Prop:=
 (okI l/\r.2=0/\∃p,r.1=some ⟨p,0,none⟩/\St noF w w' [DiskA p (ofD l)])\/(¬okI l/\r=(none,1)/\Grow w w')
theorem V35(h:BS w q l)(hc:q.len<=q.cap)(hl:l.length<=100000000):Calls Tryz.prog 35 #[slV q] w (RetT [.c .ptr,.c (.int .i64)] (PostOf w l)):=by
 refine F35_calls _ _ _ ?_;unfold F35;have hql:=h.len;refine⟨by decide,?_⟩;rw[w64_of ⟨by rw[Int.tdiv_eq_ediv_of_nonneg (by omega)];omega,by rw[Int.tdiv_eq_ediv_of_nonneg (by omega)];omega⟩];rw[show(q.len:Int).tdiv 256=((l.length/256:Nat):Int) by rw[Int.tdiv_eq_ediv_of_nonneg (by omega)];omega];have hmod:(((q.len:Int).tmod 256)!=0)=decide (l.length%256≠0):=by
  rw[Int.tmod_eq_emod_of_nonneg (by omega),Bool.eq_iff_iff];simp only[bne_iff_ne,decide_eq_true_eq];omega
 refine callF_of (C30 _ w) ?_;rintro⟨r,e⟩ w1 hr;by_cases hn:1<=((l.length/256:Nat):Int)/\((l.length/256:Nat):Int)<=2048
 ·rw[if_pos hn]at hr
  obtain⟨he,p,hp,s1⟩:=hr;dsimp only at he hp⊢;subst he hp;rw[Int.toNat_natCast]at s1;generalize hN:l.length/256=n at hn s1;refine jn_of (λb W=>b=decide (l.length%256≠0)/\W=w1) (br_f rfl ⟨by decide,hmod,rfl⟩) ?_;rintro _ _ ⟨rfl,rfl⟩;refine br_of (λhm=>?_) λhm=>?_
  ·exact .inr ⟨λhk=>absurd hk.1 (of_decide_eq_true hm),rfl,s1.gro⟩
  have hm:l.length%256=0:=Classical.not_not.1 (of_decide_eq_false hm);simp only[deref_some'];obtain⟨di,s1⟩:=s1.ex;obtain⟨⟨hb,hw⟩,s1⟩:=s1.p;have s1:St noF w _ (dpc p (newD n) di):=s1;refine s1.L 0 rfl (p:=di.bs) rfl ?_;have hbsl:=slA_len1 (s1.bring 1).sl;rw[List.length_map]at hbsl;have hbn:di.bs.len=n:=by
   have:di.bs.len=di.bl.length:=hbsl;rw[this,<-List.length_map (f:=(·.2)),<-hb];exact List.length_replicate
  rw[hbn];refine loop_of (λz W=>∃(j:Nat) (dk:DI),z=j/\j<=n/\SameDI di dk/\half l n j (dk.bl.map (·.2))/\St noF w W (dpc p (newD n) dk)) (λz _=>n-z.toNat) ⟨0,di,rfl,by omega,⟨rfl,rfl,rfl,rfl⟩,half_zero hb,s1⟩ ?_;rintro _ W ⟨j,dk,rfl,hj,hs,hh,sW⟩;refine br_of (λhlt=>?_) λhge=>?_
  ·simp only[decide_eq_true_eq]at hlt
   refine of_step sW h hc (by omega) (by omega) (by omega) hh λw2 s2 h2=>?_;rw[w64_succ (by omega)];exact⟨⟨j+1,setBl dk j (chk l j),rfl,by omega,⟨hs.bs,hs.ws,hs.ps,hs.wl⟩,h2,s2⟩,by omega⟩
  ·simp only[decide_eq_false_iff_not]at hge
   have:j=n:=by omega
   subst this;exact .inl ⟨⟨hm,by omega,by omega⟩,rfl,p,rfl,of_end hw hs hN hh sW⟩
 ·rw[if_neg hn]at hr
  obtain⟨hr,rfl⟩:=hr;cases hr;refine jn_of (λb W=>b=true/\W=w) (br_t rfl ⟨rfl,rfl⟩) ?_;rintro _ _ ⟨rfl,rfl⟩;refine br_t rfl ?_;exact .inr ⟨λhk=>hn ⟨by have:=hk.2.1;omega,by have:=hk.2.2;omega⟩,rfl,Mod.refl _ _⟩
theorem V36(h:BS w q l)(hc:q.len<=q.cap)(hl:l.length<=100000000):Calls Tryz.prog 36 #[slV q] w (RetT [.c .ptr,.c (.int .i64)] (PostOf w l)):=by
 refine F36_calls _ _ _ ?_;unfold F36;have hql:=h.len;have hmod:(((q.len:Int).tmod 256)!=0)=decide (l.length%256≠0):=by
  rw[Int.tmod_eq_emod_of_nonneg (by omega),Bool.eq_iff_iff];simp only[bne_iff_ne,decide_eq_true_eq];omega
 refine⟨by decide,?_⟩;rw[hmod];refine br_of (λhm=>?_) λhm=>⟨by decide,?_⟩
 ·exact .inr ⟨λhk=>absurd hk.1 (of_decide_eq_true hm),rfl,Mod.refl _ _⟩
 have hm:l.length%256=0:=Classical.not_not.1 (of_decide_eq_false hm);rw[w64_of ⟨by rw[Int.tdiv_eq_ediv_of_nonneg (by omega)];omega,by rw[Int.tdiv_eq_ediv_of_nonneg (by omega)];omega⟩];rw[show(q.len:Int).tdiv 256=((l.length/256:Nat):Int) by rw[Int.tdiv_eq_ediv_of_nonneg (by omega)];omega];refine callF_of (C43 _ w) ?_;rintro⟨r,e⟩ w1 hr;by_cases hn:1<=((l.length/256:Nat):Int)/\((l.length/256:Nat):Int)<=2048
 ·rw[if_pos hn]at hr
  obtain⟨he,p,hp,s1⟩:=hr;dsimp only at he hp⊢;subst he hp;rw[Int.toNat_natCast]at s1;generalize hN:l.length/256=n at hn s1;refine br_f rfl ?_;simp only[deref_some'];obtain⟨di,s1⟩:=s1.ex;obtain⟨⟨hb,hw⟩,s1⟩:=s1.p;have s1:St noF w _ (dpc p (newD n) di):=s1;have hbsl:=slA_len1 (s1.bring 1).sl;rw[List.length_map]at hbsl;have hbn:di.bs.len=n:=by
   have:di.bs.len=di.bl.length:=hbsl;rw[this,<-List.length_map (f:=(·.2)),<-hb];exact List.length_replicate
  refine loop_of (λz W=>∃(j:Nat) (dk:DI),z=j/\j<=n/\SameDI di dk/\half l n j (dk.bl.map (·.2))/\St noF w W (dpc p (newD n) dk)) (λz _=>n-z.toNat) ⟨0,di,rfl,by omega,⟨rfl,rfl,rfl,rfl⟩,half_zero hb,s1⟩ ?_;rintro _ W ⟨j,dk,rfl,hj,hs,hh,sW⟩;refine sW.L 0 rfl (p:=dk.bs) rfl ?_;rw[hs.bs,hbn];refine br_of (λhlt=>?_) λhge=>?_
  ·simp only[decide_eq_true_eq]at hlt
   refine of_step sW h hc (by omega) (by omega) (by omega) hh λw2 s2 h2=>?_;rw[w64_succ (by omega)];exact⟨⟨j+1,setBl dk j (chk l j),rfl,by omega,⟨hs.bs,hs.ws,hs.ps,hs.wl⟩,h2,s2⟩,by omega⟩
  ·simp only[decide_eq_false_iff_not]at hge
   have:j=n:=by omega
   subst this;exact .inl ⟨⟨hm,by omega,by omega⟩,rfl,p,rfl,of_end hw hs hN hh sW⟩
 ·rw[if_neg hn]at hr
  obtain⟨hr,rfl⟩:=hr;cases hr;refine br_t rfl ?_;exact .inr ⟨λhk=>hn ⟨by have:=hk.2.1;omega,by have:=hk.2.2;omega⟩,rfl,Mod.refl _ _⟩
end
set_option maxRecDepth 100000
def an41:An:=(.sq .z (.sq .z (.sq .z (.sq (.sq .z (.br (.sq .z .z) .z)) (.sq (.sq .z (.bl (.rf [.c (.int .i64),.c .slice] (.sq .z .z) (.bl (.sq (.sq (.jn [(57,.c .bool)] .z) (.br (.sq .z .z) .z)) .z))))) (.sq (.rj [⟨false,[15,16],[15,16,17,18,19,20,21,22,23,24],[(84,.c .bool)]⟩,⟨true,[15,16],[15,16,17,18,19,20,21,22,23,24],[]⟩,⟨false,[31,32],[31,32,33,34,35,36,37,38,39],[(99,.c .bool)]⟩,⟨true,[31,32],[31,32,33,34,35,36,37,38,39],[]⟩,⟨false,[46,47],[46,47,48,49,50],[(106,.c .slice),(110,.c .ptr)]⟩,⟨true,[46,47],[46,47,48,49,50],[]⟩]) .z))))))
def F41(p0:Option Addr)(Q:Bool->Pr):Pr:=
 owe (NotAgg (.pointer p0))<|nw (.cells #[(.pointer p0)] 79) λr=>
 owe (NotAgg (.bool false))<|nw (.cells #[(.bool false)] 4) λr_1=>
 owe (NotAgg (iv 0))<|nw (.cells #[(iv 0)] 3) λr_2=>
 st (bA r_2 0) (iv 0)<|
 ldP (bA r 0) λt7=>
 deref t7 λa_2=>
 ldP (a_2.add 0) λt10=>
 callF Tryz.prog 90 [(.pointer t10)] [.c .any] λ(t11:Value)=>
 owe (okFn t11\/t11=Value.nilFunc)<|
 br (isNilF t11) (
 st (bA r_1 0) (.bool false)<|
 ldB (bA r_1 0) λres=>
 Q res) (
 rngE Tryz.prog t11 [.c I64,.c .slice] (λl (z:Int×Sl) bg nx lv=>
 bg (
 jn (S:=Bool) (λR=>
 drw<|
 ldI (bA r_2 0) λt17=>
 ldP (bA r 0) λt18=>
 deref t18 λa_9=>
 ldP (a_9.add 2) λt21=>
 deref t21 λa_12=>
 ldS (a_12.add 1) λt24=>
 br (decide (t17>=(t24.len:Int))) (
 R true) (
 ldP (bA r 0) λt28=>
 deref t28 λa_16=>
 ldP (a_16.add 2) λt31=>
 deref t31 λa_19=>
 ldS (a_19.add 1) λt34=>
 ldI (bA r_2 0) λt35=>
 el t34 t35 2 λa_23=>
 ldI (a_23.add 0) λt38=>
 br (t38 !=z.1) (
 R true) (
 ldP (bA r 0) λt43=>
 deref t43 λa_27=>
 ldP (a_27.add 2) λt46=>
 deref t46 λa_30=>
 ldS (a_30.add 1) λt49=>
 ldI (bA r_2 0) λt50=>
 el t49 t50 2 λa_34=>
 ldS (a_34.add 1) λt53=>
 callF Tryz.prog 26 [(slV t53),(slV z.2)] [.c .bool] λ(t55:Bool)=>
 R (!t55)))) λs=>
 br s (
 st (bA r_1 0) (.bool false)<|
 lv none) (
 ldI (bA r_2 0) λt58=>
 st (bA r_2 0) (iv (w64 (t58+1)))<|
 nx))) (λD=>
 drw<|
 ldI (bA r_2 0) λt60=>
 ldP (bA r 0) λt61=>
 deref t61 λa_42=>
 ldP (a_42.add 2) λt64=>
 deref t64 λa_45=>
 ldS (a_45.add 1) λt67=>
 br (t60==(t67.len:Int)) (
 ldP (bA r 0) λt71=>
 deref t71 λa_49=>
 ldP (a_49.add 0) λt74=>
 jn (S:=Bool) (λR_1=>
 both (
 callF Tryz.prog 53 [(.pointer t74)] [.c .bool] λ(t75:Bool)=>
 ldP (bA r 0) λt76=>
 deref t76 λa_53=>
 ldP (a_53.add 2) λt79=>
 deref t79 λa_56=>
 ldB (a_56.add 2) λt82=>
 owe True<|
 R_1 ((t75==(!t82)))) (
 ldP (bA r 0) λt76_1=>
 deref t76_1 λa_60=>
 both (
 callF Tryz.prog 53 [(.pointer t74)] [.c .bool] λ(t75_1:Bool)=>
 ldP (a_60.add 2) λt79_1=>
 deref t79_1 λa_63=>
 ldB (a_63.add 2) λt82_1=>
 owe True<|
 R_1 ((t75_1==(!t82_1)))) (
 ldP (a_60.add 2) λt79_2=>
 deref t79_2 λa_67=>
 both (
 callF Tryz.prog 53 [(.pointer t74)] [.c .bool] λ(t75_2:Bool)=>
 ldB (a_67.add 2) λt82_2=>
 owe True<|
 R_1 ((t75_2==(!t82_2)))) (
 ldB (a_67.add 2) λt82_3=>
 callF Tryz.prog 53 [(.pointer t74)] [.c .bool] λ(t75_3:Bool)=>
 owe True<|
 R_1 ((t75_3==(!t82_3))))))) λs_1=>
 br s_1 (
 ldP (bA r 0) λt87=>
 deref t87 λa_72=>
 ldP (a_72.add 0) λt90=>
 jn (S:=Bool) (λR_2=>
 both (
 callF Tryz.prog 91 [(.pointer t90)] [.c I64] λ(t91:Int)=>
 ldP (bA r 0) λt92=>
 deref t92 λa_76=>
 ldP (a_76.add 2) λt95=>
 deref t95 λa_79=>
 ldI (a_79.add 3) λt98=>
 R_2 ((t91==t98))) (
 ldP (bA r 0) λt92_1=>
 deref t92_1 λa_83=>
 both (
 callF Tryz.prog 91 [(.pointer t90)] [.c I64] λ(t91_1:Int)=>
 ldP (a_83.add 2) λt95_1=>
 deref t95_1 λa_86=>
 ldI (a_86.add 3) λt98_1=>
 R_2 ((t91_1==t98_1))) (
 ldP (a_83.add 2) λt95_2=>
 deref t95_2 λa_90=>
 both (
 callF Tryz.prog 91 [(.pointer t90)] [.c I64] λ(t91_2:Int)=>
 ldI (a_90.add 3) λt98_2=>
 R_2 ((t91_2==t98_2))) (
 ldI (a_90.add 3) λt98_3=>
 callF Tryz.prog 91 [(.pointer t90)] [.c I64] λ(t91_3:Int)=>
 R_2 ((t91_3==t98_3)))))) λs_2=>
 br s_2 (
 ldP (bA r 0) λt102=>
 deref t102 λa_95=>
 ldP (a_95.add 0) λt105=>
 jn (S:=Sl×Option Addr) (λR_3=>
 both (
 callF Tryz.prog 25 [(.pointer t105)] [.c .slice] λ(t106:Sl)=>
 ldP (bA r 0) λt107=>
 deref t107 λa_99=>
 ldP (a_99.add 2) λt110=>
 R_3 (t106,t110)) (
 ldP (bA r 0) λt107_1=>
 deref t107_1 λa_103=>
 both (
 callF Tryz.prog 25 [(.pointer t105)] [.c .slice] λ(t106_1:Sl)=>
 ldP (a_103.add 2) λt110_1=>
 R_3 (t106_1,t110_1)) (
 ldP (a_103.add 2) λt110_2=>
 callF Tryz.prog 25 [(.pointer t105)] [.c .slice] λ(t106_2:Sl)=>
 R_3 (t106_2,t110_2)))) λs_3=>
 callF Tryz.prog 92 [(.pointer s_3.2)] [.c .slice] λ(t111:Sl)=>
 callF Tryz.prog 26 [(slV s_3.1),(slV t111)] [.c .bool] λ(t112:Bool)=>
 st (bA r_1 0) (.bool t112)<|
 takes [D]<|
 ldB (bA r_1 0) λres_1=>
 Q res_1) (
 jn (S:=Unit) (λR_4=>
 both (
 R_4 ()) (
 both (
 R_4 ()) (
 R_4 ()))) λs_4=>
 st (bA r_1 0) (.bool false)<|
 takes [D]<|
 ldB (bA r_1 0) λres_2=>
 Q res_2)) (
 jn (S:=Unit) (λR_5=>
 both (
 R_5 ()) (
 both (
 R_5 ()) (
 both (
 R_5 ()) (
 R_5 ())))) λs_5=>
 jn (S:=Unit) (λR_6=>
 both (
 R_6 ()) (
 both (
 R_6 ()) (
 R_6 ()))) λs_6=>
 st (bA r_1 0) (.bool false)<|
 takes [D]<|
 ldB (bA r_1 0) λres_3=>
 Q res_3)) (
 jn (S:=Unit) (λR_7=>
 both (
 R_7 ()) (
 both (
 R_7 ()) (
 both (
 R_7 ()) (
 R_7 ())))) λs_7=>
 jn (S:=Unit) (λR_8=>
 both (
 R_8 ()) (
 both (
 R_8 ()) (
 both (
 R_8 ()) (
 R_8 ())))) λs_8=>
 jn (S:=Unit) (λR_9=>
 both (
 R_9 ()) (
 both (
 R_9 ()) (
 R_9 ()))) λs_9=>
 st (bA r_1 0) (.bool false)<|
 takes [D]<|
 ldB (bA r_1 0) λres_4=>
 Q res_4)) (λD=>
 takes [D]<|
 ldB (bA r_1 0) λres_5=>
 Q res_5) (λD=>[]))
theorem F41_calls(p0:Option Addr)(Q:Bool->Pr)(w:World)(h:F41 p0 Q w):Calls Tryz.prog 41 #[(.pointer p0)] w (RetT [.c .bool] Q):=cF (an:=an41) Tryz.func41 (by kernel_rfl) h
set_option maxRecDepth 20000
abbrev WL:=List (Int×Sl×List UInt8)
theorem wcells_na(wl:WL):∀v∈wl.flatMap wcells,NotAgg v:=by
 intro v hv;rw[List.mem_flatMap]at hv;obtain⟨x,_,hx⟩:=hv;simp only[wcells,List.mem_cons,List.not_mem_nil,or_false]at hx;rcases hx with rfl|rfl<;>trivial
theorem wcells_size(wl:WL):(wl.flatMap wcells).length=wl.length*2:=flatMap_len wcells_len wl
theorem V140(s:Sl)(wl:WL)(w:World)(h:WS w s wl)(hl:s.len<=1000000):Calls Tryz.prog 140 #[slV s] w (RetT [.c .slice] λr w'=>OwnS w' w.heap.size 2 r (wl.flatMap wcells)/\Grow w w'):=by
 refine F140_calls s _ _ ?_;unfold F140;have hsl:=h.len;have hlen:=wcells_size wl;refine⟨trivial,br_of (λhn=>?_) (λhn=>?_)⟩
 ·have ha:s.a=none:=by simpa using hn
  have h0:=h.none_len wcells_len (by decide) ha;have hl0:wl=[]:=List.eq_nil_of_length_eq_zero (by omega);subst hl0;exact⟨OwnS.nil _ _ _,Mod.refl _ _⟩
 ·have ha:s.a≠none:=λh=>by simp[h]at hn
  refine app_own (n0:=w.heap.size) (vs:=[]) (new:=wl.flatMap wcells) ⟨by simp,by simp,.inr ⟨w.heap.size,0,[],rfl,Nat.le_refl _,by simp,λo=>by simp,Row.nil _ _,rfl⟩⟩ (by simp) (λ_=>by omega) (λhx=>absurd hx ha)
   (h.row.grow ((Mod.refl _ w).alloc _)) (wcells_na _) rfl (by decide) (by simp;omega) ?_
  intro r w' h1 h2 h3 h4 h5;refine⟨by simpa using h1,Mod.trans ((Mod.refl _ w).alloc _) h5 ?_⟩;rintro b hb ⟨ad,had,rfl⟩;simp only[Option.some.injEq]at had;subst had;exact absurd hb (Nat.lt_irrefl _)
def WaitM(r:Nat)(t:Sl)(wl:WL)(w:World):Prop:=Box w r [slV t]/\WS w t wl/\∀x∈wl,BS w x.2.1 x.2.2
def WaitX(wl:WL)(j:Nat)(x:Int×Sl)(w:World):Prop:=∃y,wl[j]? =some y/\x.1=y.1/\BS w x.2 y.2.2
theorem iter_wait(r:Nat)(t:Sl)(wl:WL)(hl:wl.length<=1000000)(hb:∀x∈wl,x.2.2.length<=1000000):IterE Tryz.prog (.func (.func 141) #[] #[P0 r]) [.c (.int .i64),.c .slice] wl.length (WaitX wl) (WaitM r t wl):=by
 refine⟨141,_,rfl,by kernel_rfl,λy w I D hM hG h0 hr=>?_⟩;refine F141_calls y _ _ _ ?_;unfold F141;rw[deref_some'];refine ldC_of (s:=.slice) (p:=t) (hM _ _ h0).1.cell0 ?_;have hsl:=(hM _ _ h0).2.1.len;refine loop_of (λz W=>∃j:Nat,z=(j:Int)/\j<=wl.length/\I j W) (λz _=>wl.length-z.toNat) ⟨0,rfl,by omega,h0⟩ ?_;rintro _ W ⟨j,rfl,hj,hI⟩;refine br_of (λhlt=>?_) λhge=>?_
 ·simp only[decide_eq_true_eq]at hlt
  have hjl:j<wl.length:=by omega
  obtain⟨x,hx⟩:∃x,wl[j]? =some x:=⟨wl[j],by simp[hjl]⟩;have hxm:=List.mem_of_getElem? hx;have hxb:=hb x hxm;refine(hM _ _ hI).2.1.eld wcells_len (n:=2) (cs:=[.int .i64,.slice]) (p:=(x.1,x.2.1)) hx (by decide) rfl ?_;refine(St.init0 W).nvs (vs:=[iv x.1,slV x.2.1]) rfl (by simp) λr2 w2 s2=>?_;refine jn_of (λb W'=>if b=true then D W' else I (j+1) W') ?_ ?_
  ·rw[drw_def]
   have s3:=s2.drew;have hI3:=hG _ _ _ hI s3.gro;refine s3.L 0 rfl (p:=x.2.1) rfl ?_;have hbs:=(hM _ _ hI3).2.2 x hxm;have fin:∀(u:Sl) w4,OwnS w4 w2.drew.heap.size 1 u (x.2.2.map ub)/\(x.2.1.a=none->u.a=none)/\Grow w2.drew w4->callV Tryz.prog y [iv x.1,slV u] [.c .bool] (λt17 W'=>if(!t17)=true then D W' else I (j+1) W') w4:=by
    rintro u w4 ⟨h1,_,g⟩;refine callV_mono (λc W' hc=>?_) (hr j (x.1,u) w4 ⟨x,hx,rfl,h1.bs⟩ (hG _ _ _ hI3 g));cases c
    ·rw[if_neg (by decide)]at hc;exact(if_pos rfl).mpr hc
    ·rw[if_pos rfl]at hc;exact(if_neg (by decide)).mpr hc
   refine⟨?_,?_⟩
   ·refine s3.L 0 rfl (p:=x.1) rfl ?_
    refine callF_of (C15 x.2.1 x.2.2 _ hbs (by rw[hbs.len];omega)) ?_;exact fin
   ·refine callF_of (C15 x.2.1 x.2.2 _ hbs (by rw[hbs.len];omega)) λu w4 h=>?_
    have s4:=s3.grow h.2.2;refine s4.L 0 rfl (p:=x.1) rfl ?_;exact fin u w4 h
  rintro b W' hb';cases b
  ·rw[if_neg (by decide)]at hb'
   refine br_f rfl ?_;rw[w64_succ (by omega)];exact⟨⟨j+1,rfl,hjl,hb'⟩,by omega⟩
  ·rw[if_pos rfl]at hb'
   exact br_t rfl (.inr hb')
 ·simp only[decide_eq_false_iff_not]at hge
  have:j=wl.length:=by omega
  subst this;exact .inl hI
theorem V90{p:Nat}{D:DM}{di:DI}{w:World}{F:Nat->Prop}(hh:Has (dpc p D di) w F)(hl:di.wl.length<=1000000):
 Calls Tryz.prog 90 #[P0 p] w (RetT [.c .any] λv w'=>∃r t,v=.func (.func 141) #[] #[P0 r]/\St noF w w' [BoxA r [slV t],SlA 2 t (di.wl.flatMap wcells)]):=by
 refine F90_calls _ _ _ ?_;unfold F90;refine⟨trivial,St.nw (St.init0 w) λr w1 s1 _ _=>?_⟩;have s1:St noF w w1 [BoxA r [slV ⟨none,0,0⟩]]:=s1;have s0:St F w w (dpc p D di):=St.init hh;refine jn_of (λ_ W=>∃t,St noF w W [BoxA r [slV t],SlA 2 t (di.wl.flatMap wcells)]) ?_ ?_
 ·refine⟨trivial,br_t rfl ?_⟩
  simp only[deref_some'];refine(s0.grow s1.gro).L 0 rfl (p:=di.ws) rfl ?_;have hss:WS w1 di.ws di.wl:=OwnS.ss (f:=wcells) wcells_len (by decide) ((s0.grow s1.gro).bring 2).sl;refine callF_of (V140 di.ws di.wl w1 hss (by rw[hss.len];exact hl)) ?_;rintro t w2 ⟨h1,g⟩;have s2:=s1.mksl g h1;exact(s2.bring 1).S 0 rfl (by simp) trivial λw3 s3=>⟨t,s3⟩
 ·rintro⟨⟩ W ⟨t,s⟩
  exact⟨r,t,rfl,s⟩
theorem V91{p:Nat}{D:DM}{di:DI}{w:World}{F:Nat->Prop}(hh:Has (dpc p D di) w F):Calls Tryz.prog 91 #[P0 p] w (RetT [.c (.int .i64)] λr w'=>r=D.ops/\w=w'):=by
 refine F91_calls _ _ _ ?_;unfold F91;refine⟨trivial,br_f rfl ?_⟩;simp only[deref_some'];have s0:St F w w (dpc p D di):=St.init hh;exact s0.L 0 rfl (p:=D.ops) rfl ⟨rfl,rfl⟩
section
variable{pp d dd:Nat}{sp ssp:Value}{D:DM}{w0 w:World}{F0 F:Nat->Prop}
abbrev PairA(pp d dd:Nat)(sp ssp:Value):HA:=BoxA pp [P0 d,sp,P0 dd,ssp]
abbrev dsL(r2 rc r1 r pp d dd:Nat)(sp ssp:Value)(j:Nat)(t:Sl)(D:DM)(di dj:DI)(b:Bool):List HA:=
 BoxA r2 [iv j]::BoxA rc [slV t]::SlA 2 t (di.wl.flatMap wcells)::BoxA r1 [.bool b]::BoxA r [P0 pp]::PairA pp d dd sp ssp::(dpc d D di++dpc dd D dj)
theorem dsL_bs{r2 rc r1 r j:Nat}{t:Sl}{di dj:DI}{b:Bool}{L:List HA}(h:St F0 w0 w (dsL r2 rc r1 r pp d dd sp ssp j t D di dj b++L)):
 (∀x∈di.wl,BS w x.2.1 x.2.2)/\∀x∈dj.wl,BS w x.2.1 x.2.2:=by
 refine⟨λx hx=>?_,λx hx=>?_⟩
 ·obtain⟨i,hi,rfl⟩:=List.mem_iff_getElem.1 hx
  exact((St.bring 11 h).pick (i:=i) (A:=bytA (di.wl[i].2)) (by rw[List.getElem?_map,List.getElem?_eq_getElem hi];rfl)).sl.bs
 ·obtain⟨i,hi,rfl⟩:=List.mem_iff_getElem.1 hx
  exact((St.bring 17 h).pick (i:=i) (A:=bytA (dj.wl[i].2)) (by rw[List.getElem?_map,List.getElem?_eq_getElem hi];rfl)).sl.bs
theorem V41(hh:Has [PairA pp d dd sp ssp,DiskA d D,DiskA dd D] w F)(hok:D.ok)(hwl:D.wait.length<=1000000)(hwb:∀x∈D.wait,x.2.length=256):
 Calls Tryz.prog 41 #[P0 pp] w (RetT [.c .bool] λb w'=>b=true/\St F w w' [PairA pp d dd sp ssp,DiskA d D,DiskA dd D]):=by
 refine F41_calls _ _ _ ?_;unfold F41;refine⟨trivial,St.nw (St.init hh) λr w1 s1 _ _=>⟨trivial,St.nw s1 λr1 w2 s2 _ _=>⟨trivial,St.nw s2 λr2 w3 s3 _ _=>?_⟩⟩⟩;have s3:St F w w3 [BoxA r2 [iv 0],BoxA r1 [.bool false],BoxA r [P0 pp],PairA pp d dd sp ssp,DiskA d D,DiskA dd D]:=s3;refine s3.S 0 rfl (by simp) trivial λw4 s4=>?_;have s4:St F w w4 [BoxA r2 [iv 0],BoxA r1 [.bool false],BoxA r [P0 pp],PairA pp d dd sp ssp,DiskA d D,DiskA dd D]:=s4;obtain⟨di,s5⟩:=(s4.sel [4,0,1,2,3,5] 6).ex;obtain⟨⟨hbi,hwi⟩,s5⟩:=s5.p;have s5:St F w w4 (dpc d D di++[BoxA r2 [iv 0],BoxA r1 [.bool false],BoxA r [P0 pp],PairA pp d dd sp ssp,DiskA dd D]):=s5;obtain⟨dj,s6⟩:=(s5.sel [10,0,1,2,3,4,5,6,7,8,9] 11).ex;obtain⟨⟨hbj,hwj⟩,s6⟩:=s6.p;have s6:St F w w4 (dpc dd D dj++(dpc d D di++[BoxA r2 [iv 0],BoxA r1 [.bool false],BoxA r [P0 pp],PairA pp d dd sp ssp])):=s6;have s7:St F w w4 (dpc d D di++([BoxA r2 [iv 0],BoxA r1 [.bool false],BoxA r [P0 pp],PairA pp d dd sp ssp]++dpc dd D dj)):=s6.sel [6,7,8,9,10,11,12,13,14,15,0,1,2,3,4,5] 16;refine s7.L 8 rfl (p:=some ⟨pp,0,none⟩) rfl ?_;refine s7.L 9 rfl (p:=some ⟨d,0,none⟩) rfl ?_;obtain⟨G,H,g1,_⟩:=St.call (dpc d D di) s7;have hli:di.wl.length=D.wait.length:=by rw[hwi,List.length_map]
 have hlj:dj.wl.length=D.wait.length:=by rw[hwj,List.length_map]
 refine callF_of (V90 g1 (by omega)) ?_;rintro v w5 ⟨rc,t,rfl,k5⟩;have s8:=s7.call0 k5;have s8:St F w w5 (dsL r2 rc r1 r pp d dd sp ssp 0 t D di dj false):=s8.sel [8,0,1,9,10,11,2,3,4,5,6,7,12,13,14,15,16,17] 18;refine⟨.inl trivial,br_f rfl ?_⟩;refine rng_st (iter_wait rc t di.wl (by omega) (λx hx=>by
  have:=hwb (x.1,x.2.2) (by rw[hwi];exact List.mem_map.2 ⟨x,hx,rfl⟩);dsimp only at this;omega)) (F0:=F) (w0:=w)
  (λj:Nat=>dsL r2 rc r1 r pp d dd sp ssp j t D di dj false) (λj s=>j=s/\j<=di.wl.length) (λ_:Unit=>[]) (λ_ _=>False) 0 ⟨rfl,by omega⟩ s8 ?_ ?_ ?_ ?_
 ·rintro j _ W T ⟨rfl,_⟩ hs
  exact⟨(St.bring 1 hs).box,OwnS.ss (f:=wcells) wcells_len (by decide) (St.bring 2 hs).sl,(dsL_bs hs).1⟩
 ·rintro l m Ro j ⟨xk,xb⟩ _ W bg nx lv ⟨y,hy,hyk,hyb⟩ ⟨rfl,hjl⟩ hs hbg hnx _
  dsimp only at hyk hyb;refine hbg _ _ _ hs λW2 hpb sA=>?_;have hyb:=hpb _ _ hyb;have hjl2:=get?_lt hy;obtain⟨z,hz⟩:∃z,dj.wl[j]? =some z:=⟨dj.wl[j]'(by omega),by simp⟩;have hyz:(y.1,y.2.2)=(z.1,z.2.2):=by
   have h1:D.wait[j]? =some (y.1,y.2.2):=by rw[hwi,List.getElem?_map,hy];rfl
   have h2:D.wait[j]? =some (z.1,z.2.2):=by rw[hwj,List.getElem?_map,hz];rfl
   rw[h1]at h2;exact Option.some.inj h2
  obtain⟨e1,e2⟩:=Prod.mk.inj hyz;refine jn_of (λb W'=>b=false/\St F w W' (dsL r2 rc r1 r pp d dd sp ssp j t D di dj false++[ObjA l (Ro .busy),ObjA m ddO])) ?_ ?_
  ·rw[drw_def]
   have sB:=sA.drew;have hyb:=hyb.grow ((Mod.refl _ W2).drew);have hss:WS W2.drew dj.ws dj.wl:=OwnS.ss (f:=wcells) wcells_len (by decide) (St.bring 14 sB).sl;have hwsl:=hss.len;refine St.L 0 sB rfl (p:=(j:Int)) rfl ?_;refine St.L 4 sB rfl (p:=some ⟨pp,0,none⟩) rfl ?_;refine St.L 5 sB rfl (p:=some ⟨dd,0,none⟩) rfl ?_;refine St.L 12 sB rfl (p:=dj.ws) rfl ?_;refine br_f (by simp;omega) ?_;refine St.L 4 sB rfl (p:=some ⟨pp,0,none⟩) rfl ?_;refine St.L 5 sB rfl (p:=some ⟨dd,0,none⟩) rfl ?_;refine St.L 12 sB rfl (p:=dj.ws) rfl ?_;refine St.L 0 sB rfl (p:=(j:Int)) rfl ?_;refine hss.elc wcells_len (n:=2) (i:=0) (p:=z.1) hz (by decide) rfl ?_;refine br_f (by simp[hyk,e1]) ?_;refine St.L 4 sB rfl (p:=some ⟨pp,0,none⟩) rfl ?_;refine St.L 5 sB rfl (p:=some ⟨dd,0,none⟩) rfl ?_;refine St.L 12 sB rfl (p:=dj.ws) rfl ?_;refine St.L 0 sB rfl (p:=(j:Int)) rfl ?_;refine hss.elc wcells_len (n:=2) (i:=1) (p:=z.2.1) hz (by decide) rfl ?_;refine callF_of (C18 z.2.1 xb z.2.2 y.2.2 _ ((dsL_bs sB).2 z (List.mem_of_getElem? hz)) hyb) ?_;rintro _ _ ⟨rfl,rfl⟩;exact⟨by simp[e2],sB⟩
  rintro _ W3 ⟨rfl,sC⟩;refine br_f rfl ?_;refine St.L 0 sC rfl (p:=(j:Int)) rfl ?_;rw[w64_succ (by omega)];refine St.S 0 sC rfl (by simp) trivial λW4 sD=>?_;exact hnx (j+1) W4 ⟨rfl,hjl2⟩ sD
 ·rintro m _ W ⟨rfl,_⟩ sA
  have sB:=sA.drew;rw[drw_def];have sB:St F w W.drew (dsL r2 rc r1 r pp d dd sp ssp di.wl.length t D di dj false++[ObjA m ddO]):=sB;have hss:WS W.drew dj.ws dj.wl:=OwnS.ss (f:=wcells) wcells_len (by decide) (St.bring 14 sB).sl;have hwsl:=hss.len;have toD:∀{W':World},St F w W' (dsL r2 rc r1 r pp d dd sp ssp di.wl.length t D di dj false++[ObjA m ddO])->St F w W' [DiskA d D,DiskA dd D,BoxA r1 [.bool false],ObjA m ddO,PairA pp d dd sp ssp,BoxA r [P0 pp]]:=by
   intro W' h;have h1:St F w W' (dpc d D di++(dpc dd D dj++[BoxA r1 [.bool false],ObjA m ddO,PairA pp d dd sp ssp,BoxA r [P0 pp]])):=h.sel [6,7,8,9,10,11,12,13,14,15,16,17,3,18,5,4] 19;have h2:St F w W' (DiskA d D::(dpc dd D dj++[BoxA r1 [.bool false],ObjA m ddO,PairA pp d dd sp ssp,BoxA r [P0 pp]])):=mkDisk di hbi hwi h1;exact(mkDisk (D:=D) dj hbj hwj (h2.sel [1,2,3,4,5,6,0,7,8,9,10] 11)).sel [1,0,2,3,4,5] 6
  have on:∀{W':World} {k:Bool->Pr},St F w W' (dsL r2 rc r1 r pp d dd sp ssp di.wl.length t D di dj false++[ObjA m ddO])->k (!D.off) W'->callF Tryz.prog 53 [P0 d] [.c .bool] k W':=by
   intro W' k h hk;obtain⟨G,H,g2,_⟩:=St.call [DiskA d D] (toD h);exact callF_of (V53 d D W' G g2 hok) λ_ _ ⟨e,e'⟩=>by subst e e';exact hk
  have ops:∀{W':World} {k:Int->Pr},St F w W' (dsL r2 rc r1 r pp d dd sp ssp di.wl.length t D di dj false++[ObjA m ddO])->k D.ops W'->callF Tryz.prog 91 [P0 d] [.c (.int .i64)] k W':=by
   intro W' k h hk;have h1:St F w W' (dpc d D di++[]):=h.sel [6,7,8,9,10,11] 19;obtain⟨G,H,g2,_⟩:=St.call (dpc d D di) h1;exact callF_of (V91 g2) λ_ _ ⟨e,e'⟩=>by subst e e';exact hk
  refine St.L 0 sB rfl (p:=(di.wl.length:Int)) rfl ?_;refine St.L 4 sB rfl (p:=some ⟨pp,0,none⟩) rfl ?_;refine St.L 5 sB rfl (p:=some ⟨dd,0,none⟩) rfl ?_;refine St.L 12 sB rfl (p:=dj.ws) rfl ?_;refine br_t (by simp;omega) ?_;refine St.L 4 sB rfl (p:=some ⟨pp,0,none⟩) rfl ?_;refine St.L 5 sB rfl (p:=some ⟨d,0,none⟩) rfl ?_;refine jn_of (λb W'=>b=true/\W'=W.drew) ?_ ?_
  ·have fin:((!D.off)==(!D.off))=true:=by simp
   refine⟨on sB ?_,?_⟩
   ·refine St.L 4 sB rfl (p:=some ⟨pp,0,none⟩) rfl ?_
    refine St.L 5 sB rfl (p:=some ⟨dd,0,none⟩) rfl ?_;exact St.L 12 sB rfl (p:=D.off) rfl ⟨trivial,fin,rfl⟩
   refine St.L 4 sB rfl (p:=some ⟨pp,0,none⟩) rfl ?_;rw[deref_some'];refine⟨on sB ?_,?_⟩
   ·refine St.L 5 sB rfl (p:=some ⟨dd,0,none⟩) rfl ?_
    exact St.L 12 sB rfl (p:=D.off) rfl ⟨trivial,fin,rfl⟩
   refine St.L 5 sB rfl (p:=some ⟨dd,0,none⟩) rfl ?_;rw[deref_some'];refine⟨on sB ?_,?_⟩
   ·exact St.L 12 sB rfl (p:=D.off) rfl ⟨trivial,fin,rfl⟩
   refine St.L 12 sB rfl (p:=D.off) rfl ?_;exact on sB ⟨trivial,fin,rfl⟩
  rintro _ _ ⟨rfl,rfl⟩;refine br_t rfl ?_;refine St.L 4 sB rfl (p:=some ⟨pp,0,none⟩) rfl ?_;refine St.L 5 sB rfl (p:=some ⟨d,0,none⟩) rfl ?_;refine jn_of (λb W'=>b=true/\W'=W.drew) ?_ ?_
  ·have fin:(D.ops==D.ops)=true:=by simp
   refine⟨ops sB ?_,?_⟩
   ·refine St.L 4 sB rfl (p:=some ⟨pp,0,none⟩) rfl ?_
    refine St.L 5 sB rfl (p:=some ⟨dd,0,none⟩) rfl ?_;exact St.L 12 sB rfl (p:=D.ops) rfl ⟨fin,rfl⟩
   refine St.L 4 sB rfl (p:=some ⟨pp,0,none⟩) rfl ?_;rw[deref_some'];refine⟨ops sB ?_,?_⟩
   ·refine St.L 5 sB rfl (p:=some ⟨dd,0,none⟩) rfl ?_
    exact St.L 12 sB rfl (p:=D.ops) rfl ⟨fin,rfl⟩
   refine St.L 5 sB rfl (p:=some ⟨dd,0,none⟩) rfl ?_;rw[deref_some'];refine⟨ops sB ?_,?_⟩
   ·exact St.L 12 sB rfl (p:=D.ops) rfl ⟨fin,rfl⟩
   refine St.L 12 sB rfl (p:=D.ops) rfl ?_;exact ops sB ⟨fin,rfl⟩
  rintro _ _ ⟨rfl,rfl⟩;refine br_t rfl ?_;refine St.L 4 sB rfl (p:=some ⟨pp,0,none⟩) rfl ?_;refine St.L 5 sB rfl (p:=some ⟨d,0,none⟩) rfl ?_;have sC:=toD sB;clear sB;have img:∀{W':World} {k:Sl->Pr},St F w W' [DiskA d D,DiskA dd D,BoxA r1 [.bool false],ObjA m ddO,PairA pp d dd sp ssp,BoxA r [P0 pp]]->
   (∀u W2,St F w W2 [SlA 1 u (D.blocks.flatten.map ub),DiskA d D,DiskA dd D,BoxA r1 [.bool false],ObjA m ddO,PairA pp d dd sp ssp,BoxA r [P0 pp]]->k u W2)->callF Tryz.prog 25 [P0 d] [.c .slice] k W':=by
   intro W' k h hk;obtain⟨G,H,g2,_⟩:=St.call [DiskA d D] h;exact callF_of (C54 d D W' G g2 hok) λu W2 s6=>hk u W2 (h.call0 s6)
  refine jn_of (λ(z:Sl×Option Addr) W'=>z.2=some ⟨dd,0,none⟩/\St F w W' [SlA 1 z.1 (D.blocks.flatten.map ub),DiskA d D,DiskA dd D,BoxA r1 [.bool false],ObjA m ddO,PairA pp d dd sp ssp,BoxA r [P0 pp]]) ?_ ?_
  ·refine⟨img sC λu W2 sD=>?_,?_⟩
   ·refine St.L 6 sD rfl (p:=some ⟨pp,0,none⟩) rfl ?_
    exact St.L 5 sD rfl (p:=some ⟨dd,0,none⟩) rfl ⟨rfl,sD⟩
   refine St.L 5 sC rfl (p:=some ⟨pp,0,none⟩) rfl ?_;rw[deref_some'];refine⟨img sC λu W2 sD=>?_,?_⟩
   ·exact St.L 5 sD rfl (p:=some ⟨dd,0,none⟩) rfl ⟨rfl,sD⟩
   refine St.L 4 sC rfl (p:=some ⟨dd,0,none⟩) rfl ?_;exact img sC λu W2 sD=>⟨rfl,sD⟩
  rintro⟨u,_⟩ W2 ⟨rfl,sD⟩;dsimp only at sD⊢;obtain⟨G,H,g2,_⟩:=St.call [DiskA dd D] (sD.sel [2,0,1,3,4,5,6] 7);refine callF_of (C55 dd D W2 G g2 hok) λu2 W3 s6=>?_;have sE:=sD.call0 s6;have sE:St F w W3 [SlA 1 u2 (D.blocks.flatten.map ub),SlA 1 u (D.blocks.flatten.map ub),DiskA d D,DiskA dd D,BoxA r1 [.bool false],ObjA m ddO,PairA pp d dd sp ssp,BoxA r [P0 pp]]:=sE;refine callF_of (C18 u u2 _ _ W3 (sE.bring 1).sl.bs sE.sl.bs) ?_;rintro _ _ ⟨rfl,rfl⟩;refine sE.S 4 rfl (by simp) trivial λW4 sF=>?_;rw[beq_self_eq_true]at sF;refine takesAt (V:=[SlA 1 u2 (D.blocks.flatten.map ub),SlA 1 u (D.blocks.flatten.map ub),DiskA d D,DiskA dd D,BoxA r1 [.bool true]]) (T:=[PairA pp d dd sp ssp,BoxA r [P0 pp]]) sF λW5 sG=>?_;refine St.L 4 sG rfl (p:=true) rfl ⟨rfl,?_⟩;exact sG.sel [5,2,3] 7
 ·rintro m q _ W hq _
  exact hq.elim
end
set_option maxRecDepth 100000
def an42:An:=(.sq .z (.sq .z (.sq .z (.sq .z (.sq .z .z)))))
def F42(p0:Option Addr)(Q:Bool->Pr):Pr:=
 deref p0 λa=>
 ldP (a.add 0) λt11=>
 callF Tryz.prog 24 [(.pointer t11)] [.c .ptr,.c I64] λ(t12:(Option Addr)×Int)=>
 deref p0 λa_3=>
 ldP (a_3.add 2) λt19=>
 callF Tryz.prog 93 [(.pointer t19)] [.c .ptr,.c I64] λ(t20:(Option Addr)×Int)=>
 deref p0 λa_6=>
 st (a_6.add 1) (.pointer t12.1)<|
 deref p0 λa_9=>
 st (a_9.add 3) (.pointer t20.1)<|
 br (t12.2==t20.2) (
 owe True<|
 owe True<|
 owe True<|
 br ((Option.isNone t12.1)==(Option.isNone t20.1)) (
 owe True<|
 owe True<|
 Q (((Option.isNone t12.1)==(t12.2 !=0)))) (
 Q false)) (
 Q false)
theorem F42_calls(p0:Option Addr)(Q:Bool->Pr)(w:World)(h:F42 p0 Q w):Calls Tryz.prog 42 #[(.pointer p0)] w (RetT [.c .bool] Q):=cF (an:=an42) Tryz.func42 (by kernel_rfl) h
def an8:An:=(.sq .z (.sq (.sq (.jn [(25,.c .bool)] .z) (.br (.sq .z .z) .z)) (.sq .z (.sq .z (.sq (.sq (.jn [(46,.c .bool)] .z) (.br (.sq .z .z) .z)) (.sq (.sq .z (.br (.sq .z (.sq .z .z)) .z)) (.sq .z (.sq (.sq (.jn [(75,.c .bool)] .z) (.br (.sq .z .z) .z)) (.sq .z .z)))))))))
def F8(p0:Sl)(p1:Int)(p2:Sl)(Q:Bool->Pr):Pr:=
 jn (S:=Bool) (λR=>
 callF Tryz.prog 11 [] [.c .bool] λ(t14:Bool)=>
 br (!t14) (
 R true) (
 br (decide ((p0.len:Int)>76800)) (
 R true) (
 R ((decide ((p2.len:Int)>2000)))))) λs=>
 br s (
 callF Tryz.prog 11 [] [.c .bool] λ(t26:Bool)=>
 Q t26) (
 callF Tryz.prog 35 [(slV p0)] [.c .ptr,.c I64] λ(t29:(Option Addr)×Int)=>
 callF Tryz.prog 36 [(slV p0)] [.c .ptr,.c I64] λ(t34:(Option Addr)×Int)=>
 jn (S:=Bool) (λR_1=>
 br (t29.2 !=t34.2) (
 R_1 true) (
 owe True<|
 owe True<|
 owe True<|
 R_1 ((!((Option.isNone t29.1)==(Option.isNone t34.1)))))) λs_1=>
 br s_1 (
 Q false) (
 owe True<|
 br (Option.isNone t29.1) (
 callF Tryz.prog 24 [(.pointer none)] [.c .ptr,.c I64] λ(t50:(Option Addr)×Int)=>
 owe True<|
 br (Option.isNone t50.1) (
 Q ((t50.2==2))) (
 Q false)) (
 nw (.cells #[(.pointer t29.1),(.pointer none),(.pointer t34.1),(.pointer none)] 82) λr=>
 jn (S:=Bool) (λR_2=>
 br (decide (p1>0)) (
 callF Tryz.prog 38 [(.pointer t29.1),(iv p1),(slV p2)] [.c I64] λ(t69:Int)=>
 callF Tryz.prog 39 [(.pointer t34.1),(iv p1),(slV p2)] [.c I64] λ(t73:Int)=>
 R_2 ((t69 !=t73))) (
 R_2 false)) λs_2=>
 br s_2 (
 Q false) (
 callF Tryz.prog 42 [(.pointer (some ⟨r,0,none⟩))] [.c .bool] λ(t77:Bool)=>
 br t77 (
 callF Tryz.prog 43 [(.pointer (some ⟨r,0,none⟩))] [.c .bool] λ(t80:Bool)=>
 br t80 (
 callF Tryz.prog 41 [(.pointer (some ⟨r,0,none⟩))] [.c .bool] λ(t84:Bool)=>
 Q t84) (
 Q false)) (
 Q false)))))
theorem F8_calls(p0:Sl)(p1:Int)(p2:Sl)(Q:Bool->Pr)(w:World)(h:F8 p0 p1 p2 Q w):Calls Tryz.prog 8 #[(slV p0),(iv p1),(slV p2)] w (RetT [.c .bool] Q):=cF (an:=an8) Tryz.func8 (by kernel_rfl) h
set_option maxRecDepth 20000
section
variable{pp d dd N:Nat}{sp ssp:Value}{D:DM}{w w0:World}{F0:Nat->Prop}{L:List HA}
abbrev RefN(y dd g:Nat)(s:Sl)(D:DM):List HA:=BoxA y (refC dd (T0 D).S (T0 D).P g false false ⟨none,0,0⟩)::ringO g dd 3 (chosenS D).1.2.2.1 (T0 D).S.2.2.2.2.2 s []
theorem refOpenC{K:Option Addr×Int->Pr}(h:St F0 w0 w (DiskA dd D::L))(hD:DB N D)(hN:N<=700000)
 (h1:∀w',(openT D).1≠0->St F0 w0 w' (DiskA dd (openT D).2::L)->K (none,(openT D).1) w')
 (h2:∀y g s w',(openT D).1=0->St F0 w0 w' (RefN y dd g s D++(DiskA dd (openT D).2::L))->K (some ⟨y,0,none⟩,0) w'):callF Tryz.prog 93 [P0 dd] [.c .ptr,.c (.int .i64)] K w:=by
 obtain⟨G,H,g2,_,_,_,gc⟩:=St.call [DiskA dd D] h;refine callF_of (V93 g2 hD hN) ?_;rintro r w1 (⟨e,rfl,s⟩|⟨e,y,g,s,S,rfl,hS,st⟩)
 ·exact h1 w1 e (gc _ _ s)
 ·have:=gc _ _ st
  rw[List.append_assoc]at this;subst hS;exact h2 y g s w1 e this
theorem openPC{K:Bool->Pr}(h:St F0 w0 w (DiskA d D::DiskA dd D::PairA pp d dd (.pointer none) (.pointer none)::L))(hD:DB N D)(hN:N<=700000)
 (h1:∀w',(openT D).1≠0->St F0 w0 w' (DiskA d (openT D).2::DiskA dd (openT D).2::PairA pp d dd (.pointer none) (.pointer none)::L)->K true w')
 (h2:∀x y g s w',(openT D).1=0->St F0 w0 w' (RefN y dd g s D++(TxA x d 0 (T0 D)::DiskA d (openT D).2::DiskA dd (openT D).2::PairA pp d dd (P0 x) (P0 y)::L))->K true w'):
 callF Tryz.prog 42 [P0 pp] [.c .bool] K w:=by
 obtain⟨KK,hKK⟩:∃KK:Bool->Pr,KK=K:=⟨_,rfl⟩;refine callF_of (post:=K) (F42_calls _ _ _ ?_) λ_ _ h=>h;unfold F42;simp only[deref_some'];refine h.L 2 rfl (p:=(some ⟨d,0,none⟩:Option Addr)) rfl ?_;refine openC h hD (by omega) (λhe w1 s1=>?_) λhe x w1 s1=>?_
 ·refine s1.L 2 rfl (p:=(some ⟨dd,0,none⟩:Option Addr)) rfl ?_
  refine refOpenC (s1.bring 1) hD hN (λw2 _ s2=>?_) λy g s w2 hy _=>absurd hy he;refine s2.S 2 rfl (by simp) trivial λw3 s3=>?_;refine s3.S 2 rfl (by simp[setA]) trivial λw4 s4=>?_;refine br_t (by simp) ⟨trivial,trivial,trivial,br_t rfl ⟨trivial,trivial,?_⟩⟩;have e:((Option.isNone (none:Option Addr))==((openT D).1 !=0))=true:=by simp[he]
  dsimp only;rw[e];exact h1 w4 he (St.bring 1 s4)
 ·refine s1.L 3 rfl (p:=(some ⟨dd,0,none⟩:Option Addr)) rfl ?_
  refine refOpenC (s1.bring 2) hD hN (λw2 hy _=>absurd he hy) λy g s w2 _ s2=>?_;have s2:St F0 w0 w2 (BoxA y (refC dd (T0 D).S (T0 D).P g false false ⟨none,0,0⟩)::BoxA g (ringC dd 3 (chosenS D).1.2.2.1 (T0 D).S.2.2.2.2.2 s)::SlA 5 s (rcs [])::bts []::DiskA dd (openT D).2::TxA x d 0 (T0 D)::DiskA d (openT D).2::PairA pp d dd (.pointer none) (.pointer none)::L):=s2;refine s2.S 7 rfl (by simp) trivial λw3 s3=>?_;refine s3.S 7 rfl (by simp[setA]) trivial λw4 s4=>?_;refine br_t rfl ⟨trivial,trivial,trivial,br_t rfl ⟨trivial,trivial,?_⟩⟩;have s4:St F0 w0 w4 (BoxA y (refC dd (T0 D).S (T0 D).P g false false ⟨none,0,0⟩)::BoxA g (ringC dd 3 (chosenS D).1.2.2.1 (T0 D).S.2.2.2.2.2 s)::SlA 5 s (rcs [])::bts []::DiskA dd (openT D).2::TxA x d 0 (T0 D)::DiskA d (openT D).2::PairA pp d dd (P0 x) (P0 y)::L):=s4;have s5:=St.bring 4 s4;exact h2 x y g s w4 he ((St.bring 6 (St.bring 6 (St.bring 6 (St.bring 6 (St.bring 6 (St.bring 6 s5)))))))
end
end Go.Proofs
