import Derived.Test.YtlkkmnlbldafpaaGreatX1
import Derived.Test.YtlkkmnlbldafpaaGreatX2
import Derived.Test.YtlkkmnlbldafpaaGreatX3
import Derived.Test.YtlkkmnlbldafpaaGreatX4
import Derived.Below
import GoSem.Claim
import Derived.OpenShut
import Derived.ChangeAt
import Derived.ChangeSlices
import Derived.Deep.Slices
set_option linter.unusedVariables false
set_option linter.unusedSimpArgs false
set_option linter.unusedSectionVars false
set_option maxRecDepth 20000
namespace Go.Proofs
open Go.Eng
section
variable{F0:Nat->Prop}{w w0:World}{m:List En}{L:List HA}
theorem abK(n:Nat)(w:World)(hn:n<=1000000):Calls Pq 330 #[.int .u64 1,.int .u64 (n:Int)] w (aj [.c (.int .u64),.c (.int .u64)] λr w'=>r=(0,(n:Int))/\w=w'):=by
 refine D0 _ _ _ _ ?_;unfold Xe;refine⟨by decide,by decide,by decide,by decide,by decide,?_,rfl⟩;have e1:dJ .u64 1 32=0:=by decide
 have e2:gP .u64 1 4294967295=1:=by decide
 have e3:dJ .u64 (n:Int) 32=0:=by
  have:=iV .u64 n 32;rw[show min 32 IntKind.u64.bits=32 from rfl]at this;rw[show(32:Int)=((32:Nat):Int)from rfl,this];omega
 have e4:gP .u64 (n:Int) 4294967295=(n:Int):=by
  unfold gP;rw[BitVec.toNat_and];show IntKind.wrap .u64 (((BitVec.ofInt 64 (n:Int)).toNat&&&(BitVec.ofInt 64 ((4294967295:Nat):Int)).toNat:Nat):Int)=_;rw[dQ,dQ,Nat.mod_eq_of_lt (show n<2^64 by omega),Nat.mod_eq_of_lt (by decide),show(4294967295:Nat)=2^32-1 from rfl,Nat.and_two_pow_sub_one_eq_mod,iQ];omega
 have e5:dJ .u64 0 32=0:=by decide
 have e6:gP .u64 0 4294967295=0:=by decide
 have u0:dH 0=0:=by decide
 have un:dH (n:Int)=(n:Int):=gL (by omega);simp only[e1,e2,e3,e4,Int.zero_mul,Int.one_mul,u0,un,e5,e6,Int.add_zero,Int.zero_add,Int.mul_zero]
theorem YB(n:Nat):zc [iv 0,wv 0] n=bX (List.replicate n (0,0)):=by
 induction n with
 |zero=>rfl
 |
  succ n ih=>
  show _=iv 0::wv 0::bX (List.replicate n (0,0));rw[<-ih];rfl
theorem yx(a b:List En):bX (a++b)=bX a++bX b:=List.flatMap_append
theorem vu:∀(l:List En) (i:Nat),(bX l).take (i*2)=bX (l.take i)
 |[],_=>by simp[bX]
 |x::l,0=>rfl
 |
  x::l,i+1=>by
  have:=vu l i;rw[Nat.add_mul,List.take_succ_cons];show List.take (i*2+2) (iv _::wv _::bX l)=iv _::wv _::bX (l.take i);rw[<-this];rfl
theorem vv:∀(l:List En) (i:Nat),(bX l).drop (i*2)=bX (l.drop i)
 |[],_=>by simp[bX]
 |x::l,0=>rfl
 |
  x::l,i+1=>by
  have:=vv l i;rw[Nat.add_mul,List.drop_succ_cons,<-this];rfl
theorem Kw{A B:En}{n k d:Nat}(hk:k+d<=n)(hd:d<=k):(bX (List.replicate k A++List.replicate (n-k) B)).take (k*2)++bX (List.replicate d A)++(bX (List.replicate k A++List.replicate (n-k) B)).drop (k*2+(bX (List.replicate d A)).length)=bX (List.replicate (k+d) A++List.replicate (n-(k+d)) B):=by
 rw[iO,kj,<-Nat.add_mul,vu,vv,<-yx,<-yx]
 congr 1
 rw[List.take_append_of_le_length (by simp),List.take_of_length_le (by simp),List.replicate_append_replicate,List.drop_append,List.drop_of_length_le (by simp),List.nil_append,List.drop_replicate,kj]
 congr 2;omega
theorem abL(n:Nat)(w:World)(hn:n<=1000000):Calls Pq 316 #[.int .u64 1,.int .u64 (n:Int)] w (aj [.c (.int .u64),.c (.int .u64)] λr w'=>r=(0,(n:Int))/\w=w'):=by
 refine DZ _ _ _ _ ?_;unfold Xc;exact aa (abK n _ hn) λr w' h=>h
theorem YC{n:Nat}{t src:Sl}{vs new:LV}{k:Pr}(hn:n≠0)(h:St F0 w0 w (az n t vs::L))(hr:VS n w src new)(hle:src.len<=t.len)(hna:∀v∈new,aE v)
 (hk:∀w',St F0 w0 w' (az n t (new++vs.drop new.length)::L)->k w'):mo n t src k w:=by
 refine pn (o:=0) h.sl (Nat.zero_le _) (.inl (by rw[Nat.zero_mul,gq])) rfl hr.row (λ_=>hr.len) (hr.cQ hn) hle hna λw' k1 k2 _=>hk w' (h.HD k2 ?_ λ_ h=>.inl h);rw[Nat.zero_mul,List.take_zero,List.nil_append,Nat.zero_add]at k1;exact k1
theorem abM(s:Sl)(e:En)(n:Nat)(w:World)(hs:SS iN w s [e])(h1:1<=n)(hn:n<=1000000):Calls Pq 292 #[slV s,iv (n:Int)] w (aj [.c .slice] λr w'=>St aM w w' [az 2 r (bX (List.replicate n e))]):=by
 refine DX _ _ _ _ ?_;unfold WY;have hl:s.len=1:=hs.len;refine aF (λ_ W=>W=w) (aB (by simp) rfl) ?_;rintro _ W0 hW0;have hs:=hW0▸hs;rw[hl,gL (n:=(n:Int)) (by omega)];have hu1:dH ((1:Nat):Int)=1:=by decide
 rw[hu1];refine aa (abL n W0 hn) ?_;rintro z _ ⟨hz,rfl⟩;subst hz;refine aF (λ_ W=>W=W0) ?_ ?_
 ·refine aF (λb W=>b=false/\W=W0) ?_ ?_
  ·exact aB rfl ⟨decide_eq_false (by show¬(n:Int)>_;omega),rfl⟩
  rintro _ W' ⟨rfl,h⟩;exact aB rfl h
 rintro _ W1 hW1;rw[hW1];rw[aH (n:=(n:Int)) (by omega)];refine(St.bh W0).yT (k:=2) n rfl rfl (by omega) (by omega) λt w1 s1 qw=>?_;rw[YB]at s1;have hs1:=hs.grow s1.cw;have e0:List.replicate n ((0,0):En)=List.replicate 0 e++List.replicate (n-0) (0,0):=by simp
 rw[e0]at s1;refine tg ?_;have hm0:Nat.min s.len t.len=1:=by show min s.len t.len=1;omega
 rw[hm0];have hv1:VS 2 w1 ⟨s.a,1,0⟩ (bX (List.replicate 1 e)):=by
  have:=(hs1.vs gN).take (o:=1) (by omega) 0;exact this
 refine YC (by decide) s1 hv1 (by dsimp only;omega) (Kh _) λw2 s2=>?_;have h3:bX (List.replicate 1 e)++(bX (List.replicate 0 e++List.replicate (n-0) ((0,0):En))).drop (bX (List.replicate 1 e)).length=bX (List.replicate 1 e++List.replicate (n-1) (0,0)):=by
  rw[iO,kj,vv,<-yx]
  congr 1
  simp[List.drop_replicate]
 rw[h3]at s2;refine aU (λz W=>∃k:Nat,z=(k:Int)/\1<=k/\k<=n/\St aM W0 W [az 2 t (bX (List.replicate k e++List.replicate (n-k) (0,0)))]) (λz _=>((n:Int)-z).toNat) ⟨1,by rw[show Nat.min 1 t.len=1 by show min 1 t.len=1;omega],Nat.le_refl _,h1,s2⟩ ?_;rintro _ W ⟨k,rfl,HC,hkn,s3⟩;have htn:t.len=n:=by have:=s3.sl.len;rw[iO]at this;simp at this;omega
 by_cases hlt:k<n
 rotate_left
 ·refine aB (by simp;omega) ?_
  have:k=n:=by omega
  subst this;rw[Nat.sub_self]at s3;show St aM w W [az 2 t (bX (List.replicate k e))];rw[<-hW0];rwa[List.replicate_zero,List.append_nil]at s3
 refine bz (by simp;omega) ?_;rw[aX];have s4:=s3.drew;have hle:=s4.sl.le;refine ep (by omega) (oT (by omega) ?_);refine tg ?_;have hmin:Nat.min k (mM 2 t k).len=min k (n-k):=by show min k (t.len-k)=_;rw[htn]
 dsimp only;rw[hmin];have hd:min k (n-k)<=k:=Nat.min_le_left ..;have F1:k+min k (n-k)<=n:=by omega
 have hd3:1<=min k (n-k):=by omega
 generalize min k (n-k)=d at *;have hv:VS 2 W.drew ⟨t.a,d,0⟩ (bX (List.replicate d e)):=by
  have:=s4.sl.vs.take (o:=d) (by omega) 0;rwa[vu,List.take_append_of_le_length (by simp;omega),List.take_replicate,Nat.min_eq_left hd]at this
 refine St.Kx (by decide) s4 hv (by dsimp only;omega) (Kh _) λw5 s5=>?_;rw[Kw F1 hd]at s5;rw[nS (by omega) (by omega)];exact⟨⟨k+d,rfl,by omega,F1,s5⟩,by omega⟩
theorem abN(n:Nat)(w:World)(h1:1<=n)(hn:n<=256):Calls Pq 237 #[iv (n:Int)] w (aj [.agg [.slice],.c (.int .i64)] λr w'=>r.2=0/\St aM w w' [az 2 r.1 (bX (List.replicate n (-1,0)))]):=by
 refine DP _ _ _ ?_;unfold WE;refine St.nw (St.bh w) λr w1 s1 _ _=>?_;refine aF (λb W=>b=false/\W=w1) ?_ ?_
 ·exact aB (by simp;omega) ⟨by simp;omega,rfl⟩
 rintro _ _ ⟨rfl,rfl⟩;refine aB rfl ?_;refine St.nw s1 λb w2 s2 _ _=>?_;have s2:St aM w w2 [ag b (iN (-1,0)),ag r [.slice none 0 0]]:=s2;have hs:SS iN w2 ⟨some ⟨b,0,none⟩,1,1⟩ [(-1,0)]:=⟨rfl,ay.2 s2.box.row⟩;have h:=abM ⟨some ⟨b,0,none⟩,1,1⟩ (-1,0) n w2 hs h1 (by omega);refine aa (args:=[.slice (some ⟨b,0,none⟩) 1 1,iv (n:Int)]) h ?_;intro t w3 k3;have s3:=s2.bC k3;refine St.S 2 s3 rfl (by simp) trivial λw4 s4=>?_;refine St.LA 2 s4 rfl (cs:=[.slice]) (p:=t) rfl ⟨rfl,?_⟩;exact s4.bp [0] 3
theorem abO(n:Nat)(w:World)(hn:n<=1000000):Calls Pq 238 #[iv (n:Int)] w (aj [.c (.int .i64)] λr w'=>r=(((n+31)/32:Nat):Int)/\w=w'):=by
 refine DQ _ _ _ ?_;unfold WH;refine⟨by decide,?_,rfl⟩;rw[aH (n:=(n:Int)+32) (by omega),aH (n:=(n:Int)+32-1) (by omega),show(n:Int)+32-1=((n+31:Nat):Int) by omega];have:((n+31:Nat):Int).tdiv 32=(((n+31)/32:Nat):Int):=Aq _ 32;rw[this,aH (by omega)]
theorem PK{a:Nat}(h:a<4294967296):AF .u32 (AF .u32 (AF .u32 (xM (((UInt8.ofNat a).toNat:Nat):Int)) (iW .u32 (xM (((UInt8.ofNat (a/256)).toNat:Nat):Int)) 8)) (iW .u32 (xM (((UInt8.ofNat (a/65536)).toNat:Nat):Int)) 16)) (iW .u32 (xM (((UInt8.ofNat (a/16777216)).toNat:Nat):Int)) 24)=(a:Int):=by
 have u:∀n:Nat,xM (((UInt8.ofNat n).toNat:Nat):Int)=((n%256:Nat):Int):=λn=>by
  rw[UInt8.toNat_ofNat'];show IntKind.wrap .u32 _=_;rw[fc];omega
 have sh:∀n k:Nat,k<=24->n<256->iW .u32 (n:Int) (k:Int)=((n*2^k:Nat):Int):=λn k hk hn=>by
  unfold iW;rw[jl,fc,show min k IntKind.u32.bits=k from Nat.min_eq_left (by show k<=32;omega),show(n:Int)*2^k=((n*2^k:Nat):Int) by simp];have h1:n*2^k<=255*2^24:=Nat.mul_le_mul (by omega) (Nat.pow_le_pow_right (by decide) hk);generalize n*2^k=z at h1;omega
 rw[u,u,u,u];have b1:=sh (a/256%256) 8 (by decide) (by omega);have b2:=sh (a/65536%256) 16 (by decide) (by omega);have b3:=sh (a/16777216%256) 24 (by decide) (by omega);rw[show(8:Int)=((8:Nat):Int)from rfl,show(16:Int)=((16:Nat):Int)from rfl,show(24:Int)=((24:Nat):Int)from rfl,b1,b2,b3];have o1:=qx (x:=a%256) (y:=a/256%256) (i:=8) (by omega);have o2:=qx (x:=a%65536) (y:=a/65536%256) (i:=16) (by omega);have o3:=qx (x:=a%16777216) (y:=a/16777216%256) (i:=24) (by omega);rw[tK (by omega) (by omega),o1,show a%256+a/256%256*2^8=a%65536 by omega,tK (by omega) (by omega),o2,show a%65536+a/65536%256*2^16=a%16777216 by omega,tK (by omega) (by omega),o3];omega
theorem abP(s:Sl)(e:En)(w:World)(hs:BS w s (ta e))(he:p9 e):Calls Pq 239 #[slV s] w (aj [.agg [.int .i64,.int .u32],.c (.int .i64)] λr w'=>r=((e.1,(e.2:Int)),0)/\Grow w w'):=by
 refine DR _ _ _ ?_;unfold WK;have hl:s.len=8:=hs.len;refine St.nw (St.bh w) λr w1 s1 _ _=>?_;have s1:St aM w w1 [ag r (iN (0,0))]:=s1;refine aF (λ_ _=>False) ?_ (λ_ _ h=>h.elim);refine bz (by rw[hl];rfl) ?_;rw[aX];have s2:=s1.drew;have rJ:=hs.grow s2.cw;refine rJ.nO (j:=0) (x:=UInt8.ofNat (e.1+1).toNat) rfl ?_;refine rJ.nO (j:=4) (x:=UInt8.ofNat e.2) rfl ?_;refine rJ.nO (j:=5) (x:=UInt8.ofNat (e.2/256)) rfl ⟨by decide,?_⟩;refine rJ.nO (j:=6) (x:=UInt8.ofNat (e.2/65536)) rfl ⟨by decide,?_⟩;refine rJ.nO (j:=7) (x:=UInt8.ofNat (e.2/16777216)) rfl ⟨by decide,?_⟩;rw[PK he.lt];have hc:aO (aO (((UInt8.ofNat (e.1+1).toNat).toNat:Nat):Int)-1)=e.1:=by
  obtain⟨h1,h2,_⟩:=he;rw[UInt8.toNat_ofNat',aH (n:=(((e.1+1).toNat%2^8:Nat):Int)) (by omega),aH (by omega)];omega
 rw[hc];refine s2.eM (T:=141) rfl (vs:=iN e) (by intro v hv;simp only[iN,List.mem_cons,List.not_mem_nil,or_false]at hv;rcases hv with rfl|rfl<;>trivial) λr1 w3 s3=>?_;refine St.LA 0 s3 rfl (cs:=[.int .i64,.int .u32]) (p:=(e.1,(e.2:Int))) rfl ?_;refine aa (Yv e w3 he) ?_;rintro⟨b,z⟩ w4 ⟨hz,k4⟩;dsimp only at hz k4;subst hz;have s4:=s3.bC k4;have s4:St aM w w4 [az 1 b ((ta e).map ub),ag r1 (iN e),ag r (iN (0,0))]:=s4;refine aF (λc W=>c=true/\W=w4) ?_ ?_
 ·refine bz rfl ?_
  refine aa (QD b s _ _ w4 s4.sl.bs (hs.grow s4.cw)) ?_;rintro q _ ⟨rfl,rfl⟩;exact⟨by simp,rfl⟩
 rintro _ _ ⟨rfl,rfl⟩;refine bz rfl ?_;refine St.LA 1 s4 rfl (cs:=[.int .i64,.int .u32]) (p:=(e.1,(e.2:Int))) rfl ?_;refine St.S 2 s4 rfl (by simp[iN]) trivial λw5 s5=>?_;refine St.S 2 s5 rfl (by simp[iN]) trivial λw6 s6=>?_;exact St.LA 2 s6 rfl (cs:=[.int .i64,.int .u32]) (p:=(e.1,(e.2:Int))) rfl ⟨rfl,s6.cw⟩
end
def ig(m:List En)(j:Nat):En:=(m[j]?).getD (-1,0)
def cont(m:List En)(j:Nat):List En:=m.take j++List.replicate (m.length-j) (-1,0)
theorem Ky(m:List En)(j:Nat):(cont m j).length=m.length:=by unfold cont;simp;omega
theorem Kz{m:List En}{j:Nat}(h:j<m.length):(cont m j).set j m[j]=cont m (j+1):=by
 unfold cont;rw[show m.length-j=(m.length-(j+1))+1 by omega,List.replicate_succ,List.set_append_right _ _ (by simp;omega),jt,Nat.min_eq_left (by omega),Nat.sub_self,List.set_cons_zero,List.take_succ_eq_append_getElem h,ju];rfl
theorem yy{m:List En}{j:Nat}(h:m.length<=j):cont m j=m:=by
 unfold cont;rw[List.take_of_length_le h,show m.length-j=0 by omega];simp
def NR(m:List En)(ps:List (Sl×LB)):Prop:=ps.length=(m.length+31)/32/\∀i k x,ps[i]? =some x->k<32->x.2.length=256/\(x.2.drop (8*k)).take 8=ta (ig m (32*i+k))
theorem abQ(p:Sl)(ps:List (Sl×LB))(m:List En)(w:World)(hs:MS slV w p (ps.map (·.1)))(hb:∀x∈ps,BS w x.1 x.2/\x.1.len<=x.1.cap)(hm:lW m)(ht:NR m ps):
 Calls Pq 161 #[iv (m.length:Int),slV p] w (aj [.agg [.slice],.c (.int .i64)] λr w'=>r.2=0/\St aM w w' [az 2 r.1 (bX m)]):=by
 refine Eo _ _ _ _ ?_;unfold X0;have hml:=hm.le;have hlen:p.len=ps.length:=by have:=hs.len;rwa[je]at this
 have qw:=ht.1;refine St.nw (St.bh w) λr w1 s1 _ _=>?_;have s1:St aM w w1 [ag r [slV ⟨none,0,0⟩]]:=s1;refine aa (abN m.length w1 hm.pos hm.le) ?_;rintro⟨t,z⟩ w2 ⟨hz,k2⟩;dsimp only at hz k2;subst hz;have s2:=s1.bC k2;refine s2.eM (T:=50) rfl (vs:=[slV t]) (by intro v hv;rw[jq.1 hv];trivial) λr1 w3 s3=>?_;have e0:List.replicate m.length ((-1,0):En)=cont m 0:=by unfold cont;simp
 rw[e0]at s3;have s3:St aM w w3 [az 2 t (bX (cont m 0)),ag r1 [slV t],ag r [slV ⟨none,0,0⟩]]:=s3.bp [1,0,2] 3;refine aB rfl ?_;refine aa (abO m.length w3 (by omega)) ?_;rintro N _ ⟨(hN:N=_),rfl⟩;subst hN;refine aB (by rw[hlen,qw];simp) ?_;have okD:p9 (-1,0):=by decide
 have abR:∀j,p9 (ig m j):=λj=>by
  unfold ig;cases h:m[j]?with
  |none=>exact okD
  |some e=>exact hm.all e (jj h)
 refine aU (λz W=>∃i:Nat,z=(i:Int)/\i<=ps.length/\St aM w W [az 2 t (bX (cont m (32*i))),ag r1 [slV t],ag r [slV ⟨none,0,0⟩]]) (λz _=>((ps.length:Int)-z).toNat) ⟨0,rfl,Nat.zero_le _,s3⟩ ?_;rintro _ W ⟨i,rfl,hi,s4⟩;by_cases hil:i<ps.length
 rotate_left
 ·refine aB (by simp;omega) ?_
  refine St.LA 1 s4 rfl (cs:=[.slice]) (p:=t) rfl ?_;refine St.S 2 s4 rfl (by simp) trivial λw5 s5=>?_;refine St.LA 2 s5 rfl (cs:=[.slice]) (p:=t) rfl ⟨rfl,?_⟩;rw[yy (by omega)]at s5;exact s5.bp [0] 3
 refine bz (by simp;omega) ?_;have hx:ps[i]? =some ps[i]:=jo hil;generalize ps[i]=x at hx;have Lt:=jj hx;refine(hs.grow s4.cw).nO (c:=.slice) (p:=x.1) (by rw[jf,hx];rfl) rfl ?_;obtain⟨HN,hcx⟩:=hb x Lt;have EG:=(ht.2 i 0 x hx (by decide)).1;have iF:=HN.len;refine aB (by rw[iF,EG];rfl) ?_;refine aU (λz W=>∃k:Nat,z=(k:Int)/\k<=32/\St aM w W [az 2 t (bX (cont m (32*i+k))),ag r1 [slV t],ag r [slV ⟨none,0,0⟩]]) (λz _=>((32:Int)-z).toNat) ⟨0,rfl,Nat.zero_le _,s4⟩ ?_;rintro _ W2 ⟨k,rfl,hk,s5⟩;by_cases HH:k<32
 rotate_left
 ·refine aB (by simp;omega) ?_
  have:k=32:=by omega
  subst this;rw[bE (by omega)];refine⟨⟨i+1,rfl,hil,?_⟩,by omega⟩;rw[show 32*(i+1)=32*i+32 by omega];exact s5
 refine bz (by simp;omega) ?_;refine aF (λ_ W=>St aM w W [az 2 t (bX (cont m (32*i+(k+1)))),ag r1 [slV t],ag r [slV ⟨none,0,0⟩]]) ?_ ?_
 rotate_left
 ·rintro _ W3 s6
  rw[bE (by omega)];exact⟨⟨k+1,rfl,HH,s6⟩,by omega⟩
 rw[bE (j:=k) (by omega),aH (n:=8*(k:Int)) (by omega),aH (n:=8*((k+1:Nat):Int)) (by omega)];have hbW:=HN.grow s5.cw;refine Jz hbW hcx (by omega) (by omega) (by omega) λq hq _=>?_;have e1:(x.2.take (8*((k+1:Nat):Int)).toNat).drop (8*(k:Int)).toNat=ta (ig m (32*i+k)):=by
  rw[<-(ht.2 i k x hx HH).2,show(8*((k+1:Nat):Int)).toNat=8*k+8 by omega,show(8*(k:Int)).toNat=8*k by omega,List.drop_take]
  congr 1;omega
 rw[e1]at hq;refine aa (abP q _ _ hq (abR _)) ?_;rintro z w4 ⟨hz,g4⟩;subst hz;have s6:=s5.grow g4;refine s6.eM (T:=141) rfl (vs:=iN (ig m (32*i+k))) (by intro v hv;simp only[iN,List.mem_cons,List.not_mem_nil,or_false]at hv;rcases hv with rfl|rfl<;>trivial) λr2 w5 s7=>?_;have e2:aO (aO (32*(i:Int))+(k:Int))=((32*i+k:Nat):Int):=by rw[aH (n:=32*(i:Int)) (by omega),aH (by omega)];omega
 rw[e2];refine aF (λc W=>c=false/\W=w5) ?_ ?_
 ·refine aB rfl ?_
  refine ax (λh=>?_) λh=>⟨rfl,rfl⟩;have h:=jv h;refine St.LA 0 s7 rfl (cs:=[.int .i64,.int .u32]) (p:=((ig m (32*i+k)).1,((ig m (32*i+k)).2:Int))) rfl ⟨?_,rfl⟩;have:ig m (32*i+k)=(-1,0):=by unfold ig;rw[List.getElem?_eq_none (by omega)];rfl
  rw[this];rfl
 rintro _ W5 ⟨rfl,hW5⟩;subst hW5;refine aB rfl ?_;by_cases hlt:32*i+k<m.length
 ·refine bz (by simp;omega) ?_
  refine St.L 2 s7 rfl (p:=t) rfl ?_;refine St.LA 0 s7 rfl (cs:=[.int .i64,.int .u32]) (p:=((ig m (32*i+k)).1,((ig m (32*i+k)).2:Int))) rfl ?_;have YD:ig m (32*i+k)=m[32*i+k]:=by unfold ig;rw[jo hlt];rfl
  have vV:=Ky m (32*i+k);have s8:=s7.aq 1;refine s8.Zj (n:=2) (j:=32*i+k) (by rw[iO,vV];omega) λad had=>?_;refine s8.vh had (by rw[add_add]) (i:=(32*i+k)*2+0) (by rw[iO,vV];omega) trivial λw6 s9=>?_;refine s9.vh had (by rw[add_add]) (i:=(32*i+k)*2+1) (by rw[List.length_set,iO,vV];omega) trivial λw7 eC=>?_;rw[MF _ _ (ig m (32*i+k)) (by omega),YD,Kz hlt]at eC;exact eC.del 1
 ·refine aB (by simp;omega) ?_
  have e3:cont m (32*i+(k+1))=cont m (32*i+k):=by rw[yy (by omega),yy (by omega)]
  rw[e3];exact s7.drop
def MG(m:List En):Prop:=∀e∈m,e.2=0
section
variable{F0:Nat->Prop}{w w0:World}{s x dp N f:Nat}{P:cx}{T:TM}{sm:Sl}{la:Int}{was:LV}{m:List En}{L:List HA}
theorem MH(a b:Nat)(t:Sl)(m:List En)(hm:lW m)(h0m:MG m):E3 Pq (.func (.func 217) #[] #[P0 a,P0 b]) [.c (.int .i64),.c (.int .i64)] [] (λw=>gH w a [slV t]/\gH w b [.bool true]/\SS iN w t m):=by
 refine⟨217,_,rfl,by kernel_rfl,?_⟩;intro y w I D hM hG h0 hr;have hml:=hm.le;refine DL y _ _ _ _ ?_;unfold Wy;rw[ah];refine eA (s:=.slice) (p:=t) (show _=some (cu .slice t)from(hM _ _ h0).1.yQ) ?_;have fV:=(hM _ _ h0).2.2.len;refine aU (λz W=>∃i:Nat,z=(i:Int)/\i<=m.length/\I 0 W) (λz _=>((m.length:Int)-z).toNat) ⟨0,rfl,Nat.zero_le _,h0⟩ ?_;rintro _ W ⟨i,rfl,hi,hI⟩;by_cases hil:i<m.length
 rotate_left
 ·exact aB (by simp;omega) (.inl hI)
 refine bz (by simp;omega) ?_;have hx:m[i]? =some m[i]:=jo hil;have hx0:=h0m _ (List.getElem_mem hil);generalize m[i]=x at hx hx0;refine(hM _ _ hI).2.2.nO gN hx (by decide) (Ki _) ?_;refine St.eM (St.bh W) rfl (vs:=iN x) (by intro v hv;simp only[iN,List.mem_cons,List.not_mem_nil,or_false]at hv;rcases hv with rfl|rfl<;>trivial) λr w1 s1=>?_;refine aU (λz W2=>∃k:Nat,z=(k:Int)/\k<=32/\St aM W W2 [ag r (iN x)]) (λz _=>((32:Int)-z).toNat) ⟨0,rfl,Nat.zero_le _,s1⟩ ?_;rintro _ W2 ⟨k,rfl,hk,s2⟩;by_cases HH:k<32
 rotate_left
 ·refine aB (by simp;omega) ?_
  rw[bE (by omega)];exact⟨⟨i+1,rfl,hil,hG _ _ _ hI s2.cw⟩,by omega⟩
 refine bz (by simp;omega) ?_;refine aF (λc W3=>c=false/\St aM W W3 [ag r (iN x)]) ?_ ?_
 rotate_left
 ·rintro _ W3 ⟨rfl,s3⟩
  refine aB rfl ?_;rw[bE (by omega)];exact⟨⟨k+1,rfl,HH,s3⟩,by omega⟩
 rw[ah];refine eA (s:=.bool) (p:=true) (show _=some (cu .bool true)from(hM _ _ (hG _ _ _ hI s2.cw)).2.1.yQ) ?_;refine bz rfl ?_;refine St.LA 0 s2 rfl (cs:=[.int .i64,.int .u32]) (p:=(x.1,(x.2:Int))) rfl ?_;refine aa (Hx x.1 x.2 _ (by rw[hx0];decide)) ?_;rintro t2 W3 k3;have s3:=s2.bC k3;refine aa (PB t2 (nX x.2) k W3 k3.sl.bs (by omega)) ?_;rintro _ _ ⟨rfl,rfl⟩;have:vP (nX x.2) (k:Int)=false:=by
  rw[qs (by rw[hx0];decide),hx0,Nat.zero_testBit,Bool.and_false]
 rw[this];exact aB rfl ⟨rfl,s3.drop⟩
theorem abT(t:Sl)(m:List En)(w:World)(hs:SS iN w t m)(hm:lW m):Calls Pq 148 #[.agg #[slV t]] w (aj [.c .any] λr w'=>∃a b u,r=.func (.func 217) #[] #[P0 a,P0 b]/\St aM w w' [ag a [slV u],az 2 u (bX m),ag b [.bool true]]):=by
 refine El _ _ _ ?_;unfold XV;have hml:=hm.le;refine St.nw (St.bh w) λr w1 s1 _ _=>?_;have s1:St aM w w1 [ag r [slV t]]:=s1;refine St.LA 0 s1 rfl (cs:=[.slice]) (p:=t) rfl ?_;refine aa (PC t m w1 (hs.grow s1.cw) hm) ?_;rintro(z:Int) w2 ⟨(hz:z=0),g2⟩;subst hz;have s2:=s1.grow g2;refine⟨trivial,St.nw s2 λb w3 s3 _ _=>?_⟩;refine St.S 0 s3 rfl (by simp) trivial λw4 s4=>?_;refine St.L 1 s4 rfl (p:=t) rfl ?_;refine aa (YF t m w4 (hs.grow s4.cw) hm.pos (by omega)) ?_;intro u w5 k5;have s5:=s4.bC k5;refine⟨trivial,St.nw s5 λa w6 s6 _ _=>?_⟩;refine St.S 0 s6 rfl (by simp) trivial λw7 s7=>?_;exact⟨a,b,u,rfl,s7.bp [0,1,2] 4⟩
theorem PL{K:Int->Pr}(h:St F0 w0 w (ag s (c8 x P f sm la was)::az 2 sm (bX m)::L))(hm:lW m)(h0:MG m)(hK:∀w',St F0 w0 w' (ag s (c8 x P f sm la was)::az 2 sm (bX m)::L)->K 0 w'):av Pq 86 [P0 s] [.c (.int .i64)] K w:=by
 refine aa (post:=K) (Hi _ _ _ ?_) λ_ _ h=>h;unfold F86;refine⟨trivial,St.nw h λr w1 s1 _ _=>⟨trivial,St.nw s1 λr1 w2 s2 _ _=>?_⟩⟩;refine St.Ci (T:=ec) s2 λmp w3 s3=>⟨trivial,St.nw s3 λr3 w4 s4 _ _=>?_⟩;refine St.S 0 s4 rfl (by simp) trivial λw5 s5=>?_;refine St.L 3 s5 rfl (i:=0) (p:=some ⟨s,0,none⟩) rfl ?_;rw[ah];refine St.MA 4 s5 rfl (o:=8) (pre:=[P0 x,iv P.1,iv P.2.1,iv P.2.2.1,iv P.2.2.2.1,iv P.2.2.2.2.1,iv P.2.2.2.2.2,P0 f]) (cs:=[.slice]) (p:=sm) rfl rfl ?_;refine aa (abT sm m w5 (s5.aq 5).sl.en hm) ?_;rintro v w6 ⟨a,b,u,rfl,k6⟩;have s6:=s5.bC k6;have s7:St F0 w0 w6 (ag a [slV u]::az 2 u (bX m)::ag b [.bool true]::ag r1 [iv 0]::ag s (c8 x P f sm la was)::az 2 sm (bX m)::L):=s6.bp [0,1,2,5,7,8] 9;refine x4 (MH a b u m hm h0) (λ_:Unit=>ag a [slV u]::az 2 u (bX m)::ag b [.bool true]::ag r1 [iv 0]::ag s (c8 x P f sm la was)::az 2 sm (bX m)::L) (λ_ _=>True)
  (λ_:Unit=>[]) (λ_ _=>False) () trivial s7 ?_ ?_ ?_ (λ_ _ _ _ h=>h.elim)
 ·intro j _ W T _ hs
  have hs:St F0 w0 W (ag a [slV u]::az 2 u (bX m)::ag b [.bool true]::ag r1 [iv 0]::ag s (c8 x P f sm la was)::az 2 sm (bX m)::(L++T)):=hs;exact⟨hs.box,(hs.aq 2).box,(hs.aq 1).sl.en⟩
 ·intro l m' Ro j z _ W bg nx lv hx
  cases hx
 ·intro D _ W _ hs
  have hs:St F0 w0 W (ag a [slV u]::az 2 u (bX m)::ag b [.bool true]::ag r1 [iv 0]::ag s (c8 x P f sm la was)::az 2 sm (bX m)::(L++[cm D q5])):=hs;refine St.S 3 hs rfl (by simp) trivial λW3 s9=>?_;refine nP (V:=ag a [slV u]::az 2 u (bX m)::ag b [.bool true]::ag r1 [iv 0]::ag s (c8 x P f sm la was)::az 2 sm (bX m)::L) (T:=[]) s9 λW5 eU=>?_;rw[List.append_nil]at eU;refine St.L 3 eU rfl (p:=(0:Int)) rfl ?_;exact hK W5 (eU.bp [4,5] 6)
end
structure PM(T:TM)(m:List En)(last:Nat):Prop where
 tab:∀j,j<32*((m.length+31)/32)->mC (dw T) (oN T.P j) 8=ta (ig m j)
 gen:mC (dw T) 544 8=aZ 8 last
 le:last<=1099511627776
 ext:(cZ T.S).2.2.2=(m.length:Int)
 mrk:T.P.2.2.1=T.P.2.1+(((m.length+31)/32:Nat):Int)
section
variable{F0:Nat->Prop}{w w0:World}{s x dp N last:Nat}{T:TM}{m:List En}{L:List HA}
abbrev Ay(x:Nat)(P:cx):LV:=[P0 x]++[iv P.1,iv P.2.1,iv P.2.2.1,iv P.2.2.2.1,iv P.2.2.2.2.1,iv P.2.2.2.2.2]++([.pointer none,.slice none 0 0,iv 0]++[.pointer none,.slice none 0 0,iv 0])
theorem PN{K:Int->Pr}(h:St F0 w0 w (ag s (Ay x T.P)::dK x dp N T::au dp T.D::L))(hu:T.up)(hw:T.D.wait.length<=10000000)(hN:N<=800000000)(hP:Gw T.P m.length)(hm:lW m)(ht:PM T m last)
 (hK:∀f sm w',St F0 w0 w' (ag s (c8 x T.P f sm (last:Int) [.pointer none,.slice none 0 0,iv 0])::dK x dp (N+3000) T::au dp T.D::eR f m::az 2 sm (bX m)::L)->K 0 w'):av Pq 85 [P0 s] [.c (.int .i64)] K w:=by
 refine aa (post:=K) (Hh _ _ _ ?_) λ_ _ h=>h;unfold F85;simp only[ah];have hml:=hm.le;have hP':=hP;obtain⟨p1,p2,p3,p4,p5⟩:=hP;obtain⟨tt,htt⟩:=Int.eq_ofNat_of_zero_le (show 0<=T.P.2.1 by omega);have AL:=ht.mrk;have hnp:(m.length+31)/32<=8:=by omega
 refine St.L 0 h rfl (i:=2) (p:=T.P.2.1) rfl ?_;refine aU (λz W=>∃(j:Nat) (q:Sl) (pl:List (Sl×LB)),z=(q,T.P.2.1+(j:Int))/\j<=(m.length+31)/32/\pl.length=j/\(∀i y,pl[i]? =some y->y.2=mC (dw T) (256*(tt+i)) 256)/\
  St F0 w0 W (az 1 q (pl.map λy=>slV y.1)::ck (pl.map er)::ag s (Ay x T.P)::dK x dp (N+256*j) T::au dp T.D::L)) (λz _=>(T.P.2.2.1-z.2).toNat)
  ⟨0,⟨none,0,0⟩,[],by simp,Nat.zero_le _,rfl,(λi y hy=>by simp at hy),(h.pE).gh 1⟩ ?_
 rintro _ W ⟨j,q,pl,rfl,hj,yK,hpy,s1⟩;dsimp only;refine St.L 2 s1 rfl (i:=3) (p:=T.P.2.2.1) rfl ?_;by_cases hjl:j<(m.length+31)/32
 ·refine bz (by simp;omega) ?_
  rw[Qw];have fG:∀K:Sl×Int->Pr,av Pq 160 [P0 s,iv ((tt+j:Nat):Int),iv ((0:Nat):Int),iv ((256:Nat):Int)] [.c .slice,.c (.int .i64)] K W->av Pq 160 [P0 s,iv (T.P.2.1+(j:Int)),iv 0,iv 256] [.c .slice,.c (.int .i64)] K W:=λK h=>by
   rw[show T.P.2.1+(j:Int)=((tt+j:Nat):Int) by omega];exact h
  refine fG _ ?_;refine Kk (s1.bp [2,3,4,0,1] 5) hu hw (by omega) (by omega) (by decide) (by decide) ?_ λt w1 s2=>?_
  ·intro k hk
   right;omega
  refine aB rfl ?_;refine St.nw s2 λr w2 s3 _ _=>?_;have s3:St F0 w0 w2 (ag r [slV t]::az 1 t ((mC (dw T) (256*(tt+j)+0) 256).map ub)::ag s (Ay x T.P)::dK x dp (N+256*j+256) T::au dp T.D::az 1 q (pl.map λy=>slV y.1)::ck (pl.map er)::L):=s3;have ZM:q.len=j:=by have:=bS (s3.aq 5).sl;rw[je]at this;omega
  refine(s3.aq 5).app (new:=[slV t]) (λ_=>rfl) (λh=>by cases h) (ay.2 s3.box.row) (by intro v hv;rw[jq.1 hv];trivial) rfl (by decide) (by dsimp only;omega) λq2 w3 s4 _=>?_;have s5:St F0 w0 w3 (az 1 t ((mC (dw T) (256*(tt+j)+0) 256).map ub)::ck (pl.map er)::az 1 q2 ((pl.map λy=>slV y.1)++[slV t])::ag s (Ay x T.P)::dK x dp (N+256*j+256) T::au dp T.D::L):=s4.bp [2,6,0,3,4,5] 7;have s6:=St.push (A:=er (t,mC (dw T) (256*(tt+j)+0) 256)) s5;rw[aH (by omega)];refine⟨⟨j+1,q2,pl++[(t,mC (dw T) (256*(tt+j)+0) 256)],by rw[show T.P.2.1+(j:Int)+1=T.P.2.1+((j+1:Nat):Int) by omega],hjl,by simp[yK],λi y hy=>?_,?_⟩,by omega⟩
  ·rw[List.getElem?_append]at hy
   split at hy
   ·exact hpy i y hy
   ·rename_i h1
    cases hi:i-pl.length with
    |
     zero=>
     rw[hi]at hy;cases hy;rw[show i=j by omega];rfl
    |succ n=>rw[hi]at hy;cases hy
  ·rw[jk,jk]
   exact(s6.bp [1,0,2,3,4] 5)
 ·refine aB (by simp;omega) ?_
  have Lc:j=(m.length+31)/32:=by omega
  rw[Qw];have fG:∀K:Sl×Int->Pr,av Pq 160 [P0 s,iv ((2:Nat):Int),iv ((32:Nat):Int),iv ((8:Nat):Int)] [.c .slice,.c (.int .i64)] K W->av Pq 160 [P0 s,iv 2,iv 32,iv 8] [.c .slice,.c (.int .i64)] K W:=λK h=>h;refine fG _ ?_;refine Kk (s1.bp [2,3,4,0,1] 5) hu hw (by omega) (by decide) (by decide) (by decide) (uZ T.P) λt w1 s2=>?_;have abU:mC (dw T) (256*2+32) 8=aZ 8 last:=ht.gen;rw[abU]at s2;refine aB rfl ?_;have s2:St F0 w0 w1 (az 1 t ((aZ 8 last).map ub)::ag s (Ay x T.P)::dK x dp (N+256*j+8) T::au dp T.D::az 1 q (pl.map λy=>slV y.1)::ck (pl.map er)::L):=s2;refine St.L 1 s2 rfl (i:=0) (p:=some ⟨x,0,none⟩) rfl ?_;obtain⟨k,hp,s3⟩:=(s2.aq 2).nG;refine aa (V33 s3.box) ?_;rintro z w2 ⟨hz,g2⟩;subst hz;rw[ht.ext];have s4:=s2.grow g2;have R5:MS slV w2 q (pl.map (·.1)):=by
   have:=(s4.aq 4).sl;have e:(pl.map λy=>slV y.1)=(pl.map (·.1)).map slV:=by rw[List.map_map];rfl
   rw[e]at this;exact this.ms
  have KN:∀y∈pl,BS w2 y.1 y.2/\y.1.len<=y.1.cap:=λy hy=>by
   obtain⟨i,hi,rfl⟩:=List.getElem_of_mem hy;have h1:=((s4.aq 5).pick (i:=i) (A:=er pl[i]) (by simp[hi])).sl;exact⟨h1.bs,h1.le⟩
  have hit:NR m pl:=by
   refine⟨by omega,λi k y hy hk=>?_⟩;have hil:=(aC hy).2;rw[hpy i y hy];refine⟨j7 ..,?_⟩;rw[tE _ (by omega),<-ht.tab (32*i+k) (by omega)];unfold oN
   congr 1;omega
  refine aa (abQ q pl m w2 R5 KN hm hit) ?_;rintro⟨sm,z⟩ w3 ⟨hz,k3⟩;dsimp only at hz k3;subst hz;have s5:=s4.bC k3;refine s5.eM (T:=50) rfl (vs:=[slV sm]) (by intro v hv;rw[jq.1 hv];trivial) λr1 w4 s6=>?_;have s6:St F0 w0 w4 (ag r1 [slV sm]::az 2 sm (bX m)::az 1 t ((aZ 8 last).map ub)::ag s (Ay x T.P)::dK x dp (N+256*j+8) T::au dp T.D::az 1 q (pl.map λy=>slV y.1)::ck (pl.map er)::L):=s6;have h3:=VM t (aZ 8 last) 0 8 w4 (s6.aq 2).sl.bs (by decide) (by decide) (by rw[bn];decide) (by rw[bn];decide);rw[List.drop_zero,List.take_of_length_le (by rw[bn];decide),qf]at h3;refine aa (args:=[slV t,iv 0,iv 8]) h3 ?_;rintro⟨(n1:Int),b1⟩ _ ⟨(Nz:n1=((last%2^(8*8):Nat):Int)),_,rfl⟩;have hle:=ht.le;have Nz:n1=(last:Int):=by omega
  subst Nz;refine aF (λc W=>c=false/\W=w4) ?_ ?_
  ·exact aB rfl ⟨decide_eq_false (by omega),rfl⟩
  rintro _ _ ⟨rfl,rfl⟩;refine aB rfl ?_;refine St.LA 0 s6 rfl (cs:=[.slice]) (p:=sm) rfl ?_;refine Yn s6 (s6.aq 1).sl.en hm λf w5 _ s7=>?_;have s7:St F0 w0 w5 (ag s (Ay x T.P)::eR f m::ag r1 [slV sm]::az 2 sm (bX m)::dK x dp (N+256*j+8) T::au dp T.D::L):=s7.bp [4,0,1,2,5,6] 9;refine s7.st (i:=7) (by simp) trivial λw6 s8=>?_;refine St.LA 2 s8 rfl (cs:=[.slice]) (p:=sm) rfl ?_;refine s8.st (i:=8) (by simp) trivial λw7 s9=>?_;refine s9.st (i:=9) (by simp) trivial λw8 eC=>?_;rw[aH (n:=(last:Int)) (by omega)]at eC;have eU:St F0 w0 w8 (ag s (c8 x T.P f sm (last:Int) [.pointer none,.slice none 0 0,iv 0])::eR f m::ag r1 [slV sm]::az 2 sm (bX m)::dK x dp (N+256*j+8) T::au dp T.D::L):=eC;have sN:St F0 w0 w8 (dK x dp (N+3000) T::ag s (c8 x T.P f sm (last:Int) [.pointer none,.slice none 0 0,iv 0])::au dp T.D::eR f m::az 2 sm (bX m)::L):=(eU.bp [4,0,5,1,3] 6).lf (by omega);exact hK f sm w8 (sN.bp [1,0] 2)
theorem PO{K:OA×Int->Pr}(h:St F0 w0 w (dK x dp N T::au dp T.D::L))(hu:T.up)(hb:T.busy=false)(hw:T.D.wait.length<=10000000)(hN:N<=800000000)(hP:Gw T.P m.length)(hm:lW m)(h0:MG m)(ht:PM T m last)
 (hK:∀s w',St F0 w0 w' (cU s dp (N+3000) T m (last:Int)::L)->K (some ⟨s,0,none⟩,0) w'):av Pq 33 [P0 x] [.c .ptr,.c (.int .i64)] K w:=by
 refine aa (post:=K) (Hg _ _ _ ?_) λ_ _ h=>h;unfold F33;obtain⟨k,hp,s0⟩:=h.nG;refine aa (V34 s0.box) ?_;rintro _ _ ⟨rfl,rfl⟩;refine⟨trivial,aB rfl ?_⟩;refine aa (V21 s0.box) ?_;rintro _ _ ⟨rfl,rfl⟩;rw[hb];refine aB rfl ?_;refine aa (V32 s0.box) ?_;rintro z w1 ⟨hz,g1⟩;subst hz;refine St.nw (h.grow g1) λr w2 s1 _ _=>?_;have s1:St F0 w0 w2 (ag r (Ay x T.P)::dK x dp N T::au dp T.D::L):=s1;refine PN s1 hu hw hN hP hm ht λf sm w3 s2=>?_;refine aF (λe W=>e=0/\St F0 w0 W (cU r dp (N+3000) T m (last:Int)::L)) ?_ ?_
 ·refine bz rfl ?_
  refine PL (s2.bp [0,4,1,2,3] 5) hm h0 λw4 s3=>⟨rfl,?_⟩;exact(s3.bp [0,2,3,4,1] 5).sC ⟨x,f,sm,[.pointer none,.slice none 0 0,iv 0]⟩ rfl
 rintro _ W ⟨rfl,s3⟩;exact aB rfl (hK r W s3)
end
def eG:mD:=(60,8,4,8)
theorem Az:fH eG=0:=by decide
def EA:List En:=List.replicate 8 (-1,0)
theorem yz:lW EA:=⟨by decide,by decide,by intro e he;rw[(List.mem_replicate.1 he).2];decide⟩
theorem KA:MG EA:=λe he=>by rw[(List.mem_replicate.1 he).2]
theorem MI:bW eG=(3,11,12,13,17,49):=by decide
structure sQ(T:TM):Prop where
 up:T.up
 busy:T.busy=false
 wait:T.D.wait=[]
 P:T.P=bW eG
 sup:cZ T.S=eG
 zero:∀a,aI T.P ((a/256:Nat):Int)->dw T a=0
theorem sQ.pl{T:TM}(h:sQ T):Gw T.P EA.length:=by
 rw[h.P];exact JK Az
theorem sQ.abV{T:TM}(h:sQ T):PM T EA 0:=by
 have hz:∀a n,Gu T.P a n->mC (dw T) a n=List.replicate n 0:=λa n hu=>by
  refine List.ext_getElem? λj=>?_;by_cases hj:j<n
  ·rw[qa hj,h.zero _ (hu j hj),List.getElem?_replicate,jd hj]
  ·rw[List.getElem?_eq_none (by rw[j7];omega),List.getElem?_eq_none (by simp;omega)]
 have hP:=h.P.trans MI;refine⟨λj hj=>?_,?_,by decide,by rw[h.sup];rfl,by rw[hP];rfl⟩
 ·have he:ig EA j=(-1,0):=by
   unfold ig EA;rw[List.getElem?_replicate];split<;>rfl
  rw[he,hz]
  ·rfl
  ·intro k hk
   right;unfold oN;rw[hP];have:j<32:=hj;show(11:Int)<=((256*11+8*j+k)/256:Nat)/\(((256*11+8*j+k)/256:Nat):Int)<49;omega
 ·rw[hz _ _ (uZ _)];rfl
section
variable{F0:Nat->Prop}{w w0:World}{s dp N last:Nat}{T:TM}{m:List En}{L:List HA}
theorem KB{K:mD->Pr}(h:St F0 w0 w L)(hK:∀w',St F0 w0 w' L->K eG w'):av Pq 9 [] [.agg [.int .i64,.int .i64,.int .i64,.int .i64]] K w:=by
 refine aa (post:=K) (Kf _ _ ?_) λ_ _ h=>h;unfold F9;refine h.eM (T:=30) rfl (vs:=fE eG) (VX eG) λr w1 s1=>?_;exact St.LA 0 s1 rfl (p:=eG) rfl (hK w1 s1.drop)
theorem Fz{K:OA×OA->Pr}(h:St F0 w0 w L)(hK:∀s dp T w',sQ T->St F0 w0 w' (cU s dp 3000 T EA 0::L)->K (some ⟨dp,0,none⟩,some ⟨s,0,none⟩) w'):av Pq 8 [eG.v] [.c .ptr,.c .ptr] K w:=by
 refine aa (post:=K) (Ke 60 8 4 8 _ _ ?_) λ_ _ h=>h;unfold F8;refine St.nw h λr w1 s1 _ _=>?_;have s1:St F0 w0 w1 (ag r (fE eG)::L):=s1;refine St.L 0 s1 rfl (i:=0) (p:=(60:Int)) rfl ?_;refine aa (C30 60 w1) ?_;rintro⟨p,e⟩ w2 hr;rw[jd (by decide)]at hr;obtain⟨rfl,dp,rfl,k1⟩:=hr;have s2:=s1.bC k1;have s2:St F0 w0 w2 (au dp (jP eG.1.toNat)::ag r (fE eG)::L):=s2;obtain⟨f1,f2,f3,f4⟩:=GC Az;have hD0:=E7 (n:=60) (by decide) (by decide);refine aF (λc W=>c=false/\St F0 w0 W (au dp (fM (jP eG.1.toNat) eG).2::L)) ?_ ?_
 ·refine aB rfl ⟨trivial,aB rfl ?_⟩
  refine St.LA 1 s2 rfl (p:=eG) rfl ?_;refine Mh (g:=eG) s2 hD0 (by omega) λw3 s3=>?_;rw[f1];exact⟨rfl,s3.del 1⟩
 generalize fM (jP eG.1.toNat) eG=A at f1 f2 f3 f4;rintro _ w3 ⟨rfl,s3⟩;refine aB rfl ?_;have hDA:=f4.db;obtain⟨ho,hog⟩:=Gz f3 hDA f2.2 (by omega);have hoc:=f2.cG;rcases ho with⟨⟨o1,o2⟩,o3,o4,o5⟩|⟨o1,_⟩
 rotate_left
 ·exact absurd o1 hoc.on
 have hfr:sQ (T0 A.2):=by
  have hP:(T0 A.2).P=bW eG:=by rw[o4.up.ok.P,o5];decide
  refine⟨o4.up,rfl,o3,hP,o5,λa ha=>?_⟩;unfold dw;have:(T0 A.2).gr ((a/256:Nat):Int)=bF:=o4.rd _ ha;rw[this];unfold bF;rw[List.getElem?_replicate];split<;>rfl
 refine aa (post:=λq W=>K (some ⟨dp,0,none⟩,q) W) (Hw _ _ _ ?_) λ_ _ h=>h;unfold F43;refine V6 s3 hDA (by omega) (λh=>absurd o1 h) λ_ x w4 s4=>?_;have s4:St F0 w0 w4 (dK x dp 0 (T0 A.2)::au dp (T0 A.2).D::L):=s4;refine aF (λc W=>c=false/\W=w4) (aB rfl ⟨trivial,rfl,rfl⟩) ?_;rintro _ _ ⟨rfl,rfl⟩;refine aB rfl ?_;have hw:(T0 A.2).D.wait.length<=10000000:=by rw[hfr.wait];decide
 refine PO (last:=0) s4 hfr.up hfr.busy hw (by decide) hfr.pl yz KA hfr.abV λs w5 s5=>?_;exact aB rfl (hK s dp _ w5 hfr s5)
theorem sQ.si{T:TM}(h:sQ T):SI {T with busy:=true} EA 0 (λ_=>none):=by
 have hu:=h.up;refine⟨⟨⟨hu.ok.D,hu.ok.P,hu.ok.g,hu.ok.len,hu.ok.h,hu.ok.R,hu.ok.ok,hu.ok.mR,hu.ok.pg,(λh=>by cases h)⟩,hu.dead,hu.off⟩,rfl,(by show T.D.wait.length<=_;rw[h.wait];decide),h.pl,yz,(λn x g hn=>by cases hn),λn e he hb=>?_⟩;have:=jj he;rw[KA e this,Nat.zero_testBit]at hb;cases hb
abbrev fU:gB:=(1,1,2)
theorem yA:vQ fU/\bw fU<=1024:=by decide
def MJ:List En:=EA.set 0 (0,1)
def PR:List En:=EA.set 0 (0,3)
theorem tk0:gm EA (mN (bw fU))=some (0,MJ):=by decide+kernel
theorem Zt:gm MJ (mN (bw fU))=some (1,PR):=by decide+kernel
theorem gv1:gu PR 1 (0,3)=MJ:=by decide+kernel
theorem abW:fT (od (od (λ_=>none) 0 (some (fU,1))) 1 (some (fU,2))) (0,0,1)=some fU:=rfl
theorem YH:fT (od (od (λ_=>none) 0 (some (fU,1))) 1 (some (fU,2))) (0,1,2)=some fU:=rfl
theorem abX:fT (od (od (od (od (λ_=>none) 0 (some (fU,1))) 1 (some (fU,2))) 1 none) 1 (some (fU,3))) (0,1,2)=none:=rfl
theorem YI{K:Bool->Pr}(h:St F0 w0 w L)(hK:∀w',St F0 w0 w' L->K true w'):av Pq 10 [] [.c .bool] K w:=by
 refine aa (post:=K) (Hv _ _ ?_) λ_ _ h=>h;unfold F10;refine KB h λw1 s1=>?_;refine Fz s1 λs dp T w2 hf s2=>?_;refine aF (λc W=>c=false/\St F0 w0 W (cU s dp 3000 {T with busy:=true} EA 0::L)) ?_ ?_
 ·refine⟨trivial,aB rfl ?_⟩
  exact Fy s2 hf.up hf.busy yz λw3 s3=>⟨rfl,s3⟩
 rintro _ w3 ⟨rfl,s3⟩;refine aB rfl ?_;have i0:=hf.si;generalize({T with busy:=true}:TM)=T1 at s3 i0;refine s3.eM (T:=24) rfl (vs:=gx fU) (fu _) λr w4 s4=>?_;have s4:St F0 w0 w4 (ag r (gx fU)::cU s dp 3000 T1 EA ((0:Nat):Int)::L):=s4;refine St.LA 0 s4 rfl (p:=fU) rfl ?_;refine yw (sh:=fU) (s4.aq 1) i0 (by decide) (by decide) (λhb=>?_) λ_ _ n m' T2 w5 ht i1 _ _ s5=>?_
 ·rcases hb with hb|hb
  ·exact absurd yA hb
  ·rw[tk0]at hb;cases hb
 rw[tk0]at ht;cases ht;refine s5.eM (T:=37) rfl (vs:=dZ (0,0,1)) (fu (0,0,1)) λr1 w6 s6=>?_;have s6:St F0 w0 w6 (ag r1 (dZ (0,0,1))::cU s dp 5000 T2 MJ ((1:Nat):Int)::ag r (gx fU)::L):=s6;refine St.LA 2 s6 rfl (p:=fU) rfl ?_;refine yw (sh:=fU) (s6.aq 1) i1 (by decide) (by decide) (λhb=>?_) λ_ _ n m' T3 w7 ht i2 _ _ s7=>?_
 ·rcases hb with hb|hb
  ·exact absurd yA hb
  ·rw[Zt]at hb;cases hb
 rw[Zt]at ht;cases ht;refine s7.eM (T:=37) rfl (vs:=dZ (0,1,2)) (fu (0,1,2)) λr2 w8 s8=>?_;have s8:St F0 w0 w8 (ag r2 (dZ (0,1,2))::cU s dp 7000 T3 PR ((2:Nat):Int)::ag r1 (dZ (0,0,1))::ag r (gx fU)::L):=s8;refine aF (λc W=>c=false/\∃T5,SI T5 MJ 2 (od (od (od (λ_=>none) 0 (some (fU,1))) 1 (some (fU,2))) 1 none)/\St F0 w0 W (cU s dp 20000 T5 MJ ((2:Nat):Int)::ag r2 (dZ (0,1,2))::ag r1 (dZ (0,0,1))::ag r (gx fU)::L)) ?_ ?_
 ·refine St.LA 2 s8 rfl (p:=((0,0,1):Rf)) rfl (aB rfl ?_)
  refine St.LA 0 s8 rfl (p:=((0,1,2):Rf)) rfl (aB rfl ?_);refine St.LA 2 s8 rfl (p:=((0,0,1):Rf)) rfl ?_;refine St.LA 0 s8 rfl (p:=((0,1,2):Rf)) rfl ?_;refine MD (r:=(0,0,1)) (to:=(0,1,2)) (p:=0) (s8.aq 1) i2 (by decide) abW YH (by decide) λT4 w9 i3 s9=>?_;refine aB rfl ?_;have s9:St F0 w0 w9 (cU s dp 11000 T4 PR ((2:Nat):Int)::ag r2 (dZ (0,1,2))::ag r1 (dZ (0,0,1))::ag r (gx fU)::L):=s9;refine St.LA 1 s9 rfl (p:=((0,1,2):Rf)) rfl ?_;refine NQ (r:=(0,1,2)) s9 i3 (by decide) (by decide) (λhn=>?_) λx hx e T5 MZ he i4 eC=>?_
  ·rw[YH]at hn;cases hn
  have he:e=(0,3):=by
   have:PR[0]? =some e:=he;exact(Option.some.inj this).symm
  subst he;have hg:gu PR (32*(0:Int).toNat+(1:Int).toNat) (0,3)=MJ:=gv1;have i4:SI T5 MJ 2 (od (od (od (λ_=>none) 0 (some (fU,1))) 1 (some (fU,2))) 1 none):=by
   rw[<-hg];exact i4
  refine⟨rfl,T5,i4,?_⟩;have eC:St F0 w0 MZ (cU s dp 13000 T5 MJ ((2:Nat):Int)::ag r2 (dZ (0,1,2))::ag r1 (dZ (0,0,1))::ag r (gx fU)::L):=by
   rw[<-hg];exact eC
  exact eC.nH (by decide)
 rintro _ w9 ⟨rfl,T5,i4,s9⟩;refine aB rfl ?_;refine St.LA 3 s9 rfl (p:=fU) rfl ?_;refine yw (sh:=fU) s9 i4 (by decide) (by decide) (λhb=>?_) λ_ _ n m' T6 MZ ht i5 _ _ eC=>?_
 ·rcases hb with hb|hb
  ·exact absurd yA hb
  ·rw[Zt]at hb;cases hb
 rw[Zt]at ht;cases ht;refine eC.eM (T:=37) rfl (vs:=dZ (0,1,3)) (fu (0,1,3)) λr3 Zm eU=>?_;have eU:St F0 w0 Zm (ag r3 (dZ (0,1,3))::cU s dp 22000 T6 PR ((3:Nat):Int)::ag r2 (dZ (0,1,2))::ag r1 (dZ (0,0,1))::ag r (gx fU)::L):=eU;refine St.LA 2 eU rfl (p:=((0,1,2):Rf)) rfl ?_;refine MC (r:=(0,1,2)) (eU.aq 1) i5 (by decide) (by decide) abX λw12 sN=>?_;refine St.LA 1 sN rfl (p:=((0,1,3):Rf)) rfl ?_;refine bz rfl (bz rfl ?_);exact hK w12 (sN.bp [] 5)
end
section
variable{F0:Nat->Prop}{w w0:World}{L:List HA}
end
structure Ox where
 d:Int
 s:gB
 aT:Bool
 aK:Int
 aR:Rf
 bT:Bool
 bK:Int
 bR:Rf
 i:Int
 x:Sl
def Ox.cells(o:Ox):LV:=[iv o.d,iv o.s.1,iv o.s.2.1,iv o.s.2.2,.bool o.aT,iv o.aK,iv o.aR.1,iv o.aR.2.1,iv o.aR.2.2,.bool o.bT,iv o.bK,iv o.bR.1,iv o.bR.2.1,iv o.bR.2.2,iv o.i,slV o.x]
theorem Ox.cH(o:Ox):o.cells.length=16:=rfl
theorem YJ(o:Ox):∀v∈o.cells,aE v:=by
 intro v hv;simp only[Ox.cells,List.mem_cons,List.not_mem_nil,or_false]at hv;rcases hv with rfl|rfl|rfl|rfl|rfl|rfl|rfl|rfl|rfl|rfl|rfl|rfl|rfl|rfl|rfl|rfl<;>trivial
abbrev tM(n:Int):Prop:= -9223372036854775808<=n/\n<=9223372036854775807
abbrev MT(r:Rf):Prop:=tM r.1/\tM r.2.1/\tM r.2.2
def OLs(w:World)(s:Sl)(xs:List (Ox×LB)):Prop:=SS Ox.cells w s (xs.map (·.1))/\∀x∈xs,MT x.1.aR/\MT x.1.bR/\tM x.1.i/\BS w x.1.x x.2/\x.1.x.len<=x.1.x.cap
abbrev xj(l:List Rf):LV:=l.flatMap dZ
theorem yB(l:List Rf):(xj l).length=l.length*3:=c6 (f:=dZ) (n:=3) (λ_=>rfl) l
theorem qv{α:Type}{f:α->LV}{n:Nat}(hf:∀r,(f r).length=n):∀(l:List α) (k:Nat),(l.flatMap f).take (k*n)=(l.take k).flatMap f
 |[],k=>by simp
 |x::l,0=>by simp
 |
  x::l,k+1=>by
  rw[List.take_succ_cons,List.flatMap_cons,List.flatMap_cons,Nat.add_mul,Nat.one_mul,Nat.add_comm,<-hf x,List.take_length_add_append,hf x,qv hf l k]
theorem SS.takeN{α:Type}{f:α->LV}{n:Nat}(hf:∀r,(f r).length=n){w:World}{s:Sl}{rs:List α}(h:SS f w s rs){k:Nat}(hk:k<=s.len)(c:Nat):SS f w ⟨s.a,k,c⟩ (rs.take k):=by
 have h1:=(h.vs hf).take hk c;have hl:=h.len;rw[qv hf]at h1;exact⟨by rw[jt];dsimp only;omega,h1.row⟩
section
variable{F0:Nat->Prop}{w w0:World}{L:List HA}
theorem abY{p:Sl}{tl:List Rf}{o:Bool}{k:Int}{r:Rf}{K:Int×Int×Int->Pr}(h:St F0 w0 w (az 3 p (xj tl)::L))(hl:tl.length<=1000000)
 (hK:∀(r':Rf) w',(r'∈tl\/r'=r)->St F0 w0 w' (az 3 p (xj tl)::L)->K r' w'):av Pq 14 [slV p,.agg #[.bool o,iv k,iv r.1,iv r.2.1,iv r.2.2]] [.agg [.int .i64,.int .i64,.int .i64]] K w:=by
 refine aa (post:=K) (Hf _ _ _ _ _ _ _ _ ?_) λ_ _ h=>h;unfold F14;have yK:p.len=tl.length:=by have:=h.sl.len;rw[yB]at this;omega
 refine St.nw h λq w1 s1 _ _=>St.nw s1 λq1 w2 s2 _ _=>?_;have s2:St F0 w0 w2 (ag q1 (dZ (0,0,0))::ag q [.bool o,iv k,iv r.1,iv r.2.1,iv r.2.2]::az 3 p (xj tl)::L):=s2;have fin:∀r':Rf,(r'∈tl\/r'=r)->(ij q1 0 [(iv r'.1),(iv r'.2.1),(iv r'.2.2)]<|aN [.int .i64,.int .i64,.int .i64] (bA q1 0) λ(res:Int×Int×Int)=>K res) w2:=λr' hr'=>by
  refine St.SB 0 s2 rfl rfl (fu r') λw3 s3=>?_;exact St.LA 0 s3 rfl (p:=r') rfl (hK r' w3 hr' (s3.bp [2] 3))
 refine aF (λc W=>c=(o&&decide (0<tl.length))/\W=w2) ?_ ?_
 ·refine St.L 1 s2 rfl (i:=0) (c:=.bool) (p:=o) rfl ?_
  cases o
  ·exact aB rfl ⟨rfl,rfl⟩
  ·refine bz rfl ⟨?_,rfl⟩
   rw[yK,Bool.true_and];exact decide_eq_decide.2 (by omega)
 rintro _ W ⟨rfl,hW⟩;rw[hW];by_cases hc:(o&&decide (0<tl.length))=true
 ·refine bz hc ?_
  rw[kf,jb]at hc;refine St.L 1 s2 rfl (i:=1) (p:=k) rfl ?_;have e1:dH (p.len:Int)=((tl.length:Nat):Int):=by rw[yK];exact gL (by omega)
  have e2:0<=dH k:=by
   show 0<=IntKind.wrap .u64 k;rw[iQ];omega
  rw[e1];refine⟨by show¬((tl.length:Nat):Int)=0;omega,?_⟩;obtain⟨n,hn⟩:=Int.eq_ofNat_of_zero_le e2;have e3:(dH k).tmod ((tl.length:Nat):Int)=((n%tl.length:Nat):Int):=by rw[hn];exact vo _ _
  have hlt:n%tl.length<tl.length:=Nat.mod_lt _ hc.2;rw[e3,aH (n:=((n%tl.length:Nat):Int)) (by omega)];have hx:tl[n%tl.length]? =some tl[n%tl.length]:=jo hlt;have KS:SS dZ w2 p tl:=(s2.aq 2).sl.ss (f:=dZ) (n:=3) (λ_=>rfl) (by decide);refine KS.nO (n:=3) (λ_=>rfl) hx (by decide) (p:=tl[n%tl.length]) rfl ?_;exact fin _ (.inl (List.getElem_mem hlt))
 ·refine aB (by simpa using hc) ?_
  refine St.MA 1 s2 (o:=2) (pre:=[.bool o,iv k]) (cs:=[.int .i64,.int .i64,.int .i64]) (p:=r) (post:=[]) rfl rfl rfl ?_;exact fin r (.inr rfl)
theorem MK{p:Sl}{tl:List Rf}{r:Rf}{K:Sl->Pr}(h:St F0 w0 w (az 3 p (xj tl)::L))(hl:tl.length<=1000000)
 (hK:∀q w',St F0 w0 w' (az 3 q (xj (tl++[r]))::L)->K q w'):(nw (.cells #[iv r.1,iv r.2.1,iv r.2.2] 37) λb=>app 37 3 24 [iv 0,iv 0,iv 0] p ⟨some ⟨b,0,none⟩,1,1⟩ K) w:=by
 refine St.nw h λb w1 s1 _ _=>?_;have s1:St F0 w0 w1 (ag b (dZ r)::az 3 p (xj tl)::L):=s1;have yK:p.len=tl.length:=by have:=h.sl.len;rw[yB]at this;omega
 refine(s1.aq 1).app (new:=dZ r) (λ_=>rfl) (λh=>by cases h) (ay.2 s1.box.row) (fu r) rfl (by decide) (by dsimp only;omega) λq w2 s2 _=>hK q w2 ?_;rw[show xj (tl++[r])=xj tl++dZ r by unfold xj;rw[List.flatMap_append];simp];exact s2.del 1
end
theorem PS(n:Nat):tM ((n%32:Nat):Int):=by have:=Nat.mod_lt n (show 32>0 by decide);exact⟨by omega,by omega⟩
abbrev PT:LV:=[.pointer none,iv 0,iv 0,iv 0,iv 0,iv 0,iv 0,.pointer none,.slice none 0 0,iv 0,.pointer none,.slice none 0 0,iv 0]
def NT(p:OA)(w:World):Prop:=p=none\/∃r,p=some ⟨r,0,none⟩/\gH w r PT
theorem NT.grow{p:OA}{w w':World}(h:NT p w)(g:Grow w w'):NT p w':=h.imp id λ⟨r,e,hb⟩=>⟨r,e,hb.grow g⟩
abbrev z3:Int×Int×Int:=(0,0,0)
section
variable{p:OA}{w:World}
end
abbrev rfV(r:Rf):Value:=.agg #[iv r.1,iv r.2.1,iv r.2.2]
theorem YK(a b c x y z:Int):uf Pq 37 (.agg #[iv a,iv b,iv c]) (.agg #[iv x,iv y,iv z])=some ((a==x)&&((b==y)&&((c==z)&&true))):=by kernel_rfl
noncomputable def oU:KG Rf where
 g:=uf Pq 37
 enc:=rfV
 same a b:=by
  obtain⟨a1,a2,a3⟩:=a;obtain⟨b1,b2,b3⟩:=b;rw[YK];simp only[jg];rw[Bool.eq_iff_iff];simp
 bits a:=by simp[rfV,Instr.sameBits]
theorem FA{K:Type}[DecidableEq K]{k:K}{v:Value}(x:K):∀{kv:List (K×Value)},k∉kv.map (·.1)->mB x (kv++[(k,v)])=if x=k then some v else mB x kv
 |[],_=>rfl
 |
  y::kv,h=>by
  simp only[List.map_cons,List.mem_cons,not_or]at h;simp only[List.cons_append,mB];by_cases h1:x=y.1
  ·rw[jd h1,jd h1,jc (λh2=>h.1 (h2.symm.trans h1))]
  ·rw[jc h1,jc h1];exact FA x h.2
theorem FB{K:Type}[DecidableEq K]{k:K}{u v:Value}(x:K):∀{kv:List (K×Value)} {j:Nat},kv[j]? =some (k,u)->(∀l y,l<j->kv[l]? =some y->y.1≠k)->mB x (kv.set j (k,v))=if x=k then some v else mB x kv
 |[],j,h,_=>by simp at h
 |
  y::kv,0,h,_=>by
  simp only[List.getElem?_cons_zero,jg]at h;subst h;simp only[List.set_cons_zero,mB];by_cases h1:x=k
  ·rw[jd h1,jd h1]
  ·rw[jc h1,jc h1,jc h1]
 |
  y::kv,j+1,h,h0=>by
  simp only[List.set_cons_succ,mB];have hy:y.1≠k:=h0 0 y (by omega) rfl;have ih:=FB (v:=v) x (kv:=kv) (j:=j) (by simpa using h) λl z hl hz=>h0 (l+1) z (by omega) (by simpa using hz);by_cases h1:x=y.1
  ·rw[jd h1,jc (λh2=>hy (h1.symm.trans h2)),jd h1]
  ·rw[jc h1,jc h1];exact ih
theorem yC{K:Type}[DecidableEq K]{k:K}:∀{kv:List (K×Value)},(mB k kv).isSome=true->k∈kv.map (·.1)
 |[],h=>by cases h
 |
  y::kv,h=>by
  unfold mB at h;by_cases h1:k=y.1
  ·rw[h1];exact List.mem_cons_self
  ·rw[jc h1]at h;exact List.mem_cons_of_mem _ (yC h)
structure Nt(kv:List (Rf×Value))(O:Nat->Option (gB×Nat))(last:Nat):Prop where
 old:∀x∈kv.map (·.1),x.2.2<=(last:Int)
 is:∀x,(mB x kv).getD (.bool false)=.bool (fT O x).isSome
 pos:∀n x g,O n=some (x,g)->g≠0
theorem FC{O:Nat->Option (gB×Nat)}{n:Nat}{v:Option (gB×Nat)}(x:Rf):fT (od O n v) x=if 0<=x.1/\0<=x.2.1/\x.2.1<32/\32*x.1.toNat+x.2.1.toNat=n then(match v with|some (s,g)=>if x.2.2=(g:Int)then some s else none|none=>none)else fT O x:=by
 unfold fT od;by_cases h:0<=x.1/\0<=x.2.1/\x.2.1<32
 ·rw[jd h,jd h]
  by_cases hn:32*x.1.toNat+x.2.1.toNat=n
  ·rw[jd hn,jd ⟨h.1,h.2.1,h.2.2,hn⟩];cases v<;>rfl
  ·rw[jc hn,jc λh'=>hn h'.2.2.2]
 ·rw[jc h,jc h,jc λh'=>h ⟨h'.1,h'.2.1,h'.2.2.1⟩]
theorem Nt.alloc{kv:List (Rf×Value)}{O:Nat->Option (gB×Nat)}{last n:Nat}{sh:gB}(h:Nt kv O last)(ho:O n=none)(hk:(((n/32:Nat):Int),((n%32:Nat):Int),((last+1:Nat):Int))∉kv.map (·.1)):
 Nt (kv++[((((n/32:Nat):Int),((n%32:Nat):Int),((last+1:Nat):Int)),.bool true)]) (od O n (some (sh,last+1))) (last+1):=by
 refine⟨λx hx=>?_,λx=>?_,λn' x g hO=>?_⟩
 rotate_right
 ·unfold od at hO
  split at hO
  ·cases hO;exact Nat.succ_ne_zero _
  ·exact h.pos _ _ _ hO
 ·rw[jk,jz]at hx
  rcases hx with hx|hx
  ·have:=h.old x hx;omega
  ·simp only[List.map_cons,List.map_nil,jq]at hx
   subst hx;exact Int.le_refl _
 ·rw[FA x hk,FC]
  by_cases hx:x=(((n/32:Nat):Int),((n%32:Nat):Int),((last+1:Nat):Int))
  ·subst hx
   rw[jd rfl,jd ⟨by dsimp only;omega,by dsimp only;omega,by dsimp only;omega,by dsimp only;omega⟩];simp
  ·rw[jc hx,h.is x]
   by_cases hc:0<=x.1/\0<=x.2.1/\x.2.1<32/\32*x.1.toNat+x.2.1.toNat=n
   ·rw[jd hc]
    have h2:x.2.2≠((last+1:Nat):Int):=λh2=>hx (by
     obtain⟨x1,x2,x3⟩:=x;dsimp only at hc h2;simp only[Prod.mk.injEq];refine⟨?_,?_,h2⟩<;>omega)
    dsimp only;rw[jc h2];unfold fT;rw[jd ⟨hc.1,hc.2.1,hc.2.2.1⟩,hc.2.2.2,ho]
   ·rw[jc hc]
theorem Nt.free{kv:List (Rf×Value)}{O:Nat->Option (gB×Nat)}{last j:Nat}{r:Rf}{s:gB}{u:Value}(h:Nt kv O last)(hr:fT O r=some s)(hj:kv[j]? =some (r,u))(h0:∀l y,l<j->kv[l]? =some y->y.1≠r):
 Nt (kv.set j (r,.bool false)) (od O (32*r.1.toNat+r.2.1.toNat) none) last:=by
 have hkeys:(kv.set j (r,.bool false)).map (·.1)=kv.map (·.1):=by
  rw[List.map_set];refine List.ext_getElem? λi=>?_;rw[List.getElem?_set];by_cases hij:j=i
  ·subst hij
   have hlt:j<kv.length:=by
    rcases Nat.lt_or_ge j kv.length with h|h
    ·exact h
    ·rw[List.getElem?_eq_none h]at hj;cases hj
   rw[jd rfl,jd (by simpa using hlt),jf,hj];rfl
  ·rw[jc hij]
 refine⟨by rw[hkeys];exact h.old,λx=>?_,λn' x g hO=>?_⟩
 rotate_right
 ·unfold od at hO
  split at hO
  ·cases hO
  ·exact h.pos _ _ _ hO
 rw[FB x hj h0,FC];have OF:0<=r.1/\0<=r.2.1/\r.2.1<32:=by
  unfold fT at hr;split at hr
  ·assumption
  ·cases hr
 by_cases hx:x=r
 ·subst hx
  rw[jd rfl,jd ⟨OF.1,OF.2.1,OF.2.2,rfl⟩];rfl
 ·rw[jc hx,h.is x]
  by_cases hc:0<=x.1/\0<=x.2.1/\x.2.1<32/\32*x.1.toNat+x.2.1.toNat=32*r.1.toNat+r.2.1.toNat
  ·rw[jd hc]
   unfold fT at hr⊢;rw[jd OF]at hr;rw[jd ⟨hc.1,hc.2.1,hc.2.2.1⟩,hc.2.2.2];split at hr
   ·rename_i y g hO
    split at hr
    ·rename_i hg
     have AG:¬x.2.2=(g:Int):=λh2=>hx (by
      obtain⟨x1,x2,x3⟩:=x;obtain⟨r1,r2,r3⟩:=r;dsimp only at hc h2 hg OF;simp only[Prod.mk.injEq];refine⟨?_,?_,h2.trans hg.symm⟩<;>omega)
     rw[jc AG]
    ·cases hr
   ·cases hr
  ·rw[jc hc]
theorem Nt.nil{O:Nat->Option (gB×Nat)}{last:Nat}(h:∀n,O n=none):Nt [] O last:=by
 refine⟨λx hx=>(by cases hx),λx=>?_,λn x g hO=>by rw[h]at hO;cases hO⟩;have:fT O x=none:=by
  unfold fT;split
  ·rw[h]
  ·rfl
 rw[this];rfl
section
variable{F0:Nat->Prop}{w w0:World}{mp last:Nat}{kv:List (Rf×Value)}{O:Nat->Option (gB×Nat)}{L:List HA}
theorem rG{k:Rf}{f:Bool->Bool->Pr}(h:St F0 w0 w (mJ oU mp kv::L))(hn:Nt kv O last)(hf:∀ok,(ok=true->k∈kv.map (·.1))->f (fT O k).isSome ok w):fQ (uf Pq 37) (some mp) (.agg #[iv k.1,iv k.2.1,iv k.2.2]) .bool (.bool false) f w:=by
 have hi:=hn.is k;refine St.fQ (T:=oU) (k:=k) h (λv hv=>?_) λhv=>?_
 ·rw[hv]at hi
  exact⟨(fT O k).isSome,hi,hf true λ_=>yC (by rw[hv];rfl)⟩
 ·rw[hv]at hi
  exact⟨(fT O k).isSome,hi,hf false λh=>by cases h⟩
end
theorem HB(n:Int):tM (IntKind.wrap .i64 n):=by
 simp only[IntKind.wrap,IntKind.signed,IntKind.bits];constructor<;>simp<;>omega
structure FR(w:World)(s dp i N mp:Nat)(q:Sl)(W:World)(R:List HA):Prop where
 ex:∃(tl:List Rf) (kv:List (Rf×Value)) (T:TM) (m:List En) (last:Nat) (O:Nat->Option (gB×Nat)),SI T m last O/\last<=i/\tl.length<=i/\(∀r∈tl,tM r.2.1)/\Nt kv O last/\St aM w W (az 3 q (xj tl)::cU s dp N T m (last:Int)::mJ oU mp kv::R)
theorem law4(p:Sl)(l:List (Ox×LB))(a:Int)(w:World)(hs:OLs w p l)(hle:p.len<=p.cap):Calls Pq 4 #[slV p,.int .u8 a] w (aj [.c .bool] λr w'=>r=true/\Grow w w'):=by
 refine Kg _ _ _ _ ?_;unfold F4;refine KB (St.bh w) λw2 s2=>?_;refine Fz s2 λs dp T w3 hf s3=>?_;refine aF (λc W=>c=false/\St aM w W [cU s dp 3000 {T with busy:=true} EA 0]) ?_ ?_
 ·refine YI s3 λw4 s4=>aB rfl ⟨trivial,aB rfl ?_⟩
  exact Fy s4 hf.up hf.busy yz λw5 s5=>⟨rfl,s5⟩
 rintro _ w4 ⟨rfl,s4⟩;refine aB rfl ?_;have i0:=hf.si;generalize({T with busy:=true}:TM)=T1 at s4 i0;refine St.aai (T:=oU) s4 λmp w5 s5=>?_;have fV:=hs.1.len;rw[je]at fV;have him:lM (p.len:Int) 60=((min p.len 60:Nat):Int):=Av p.len 60;rw[him];refine oT (by omega) ?_;have hmin:min p.len 60<=p.len:=Nat.min_le_left ..;have KS:=SS.takeN Ox.cH hs.1 hmin p.cap;have acF:min p.len 60<=60:=Nat.min_le_right ..;generalize min p.len 60=n at *;have h0:FR w s dp 0 3000 mp ⟨none,0,0⟩ w5 []:=⟨[],[],T1,EA,0,_,i0,Nat.le_refl _,Nat.le_refl _,(λr hr=>by cases hr),Nt.nil (λ_=>rfl),(s5.bp [1,0] 2).gh 3⟩;refine aU (λz W=>∃(i:Nat) (q:Sl),z=(q,(i:Int))/\i<=n/\FR w s dp i (3000+250000*i) mp q W []) (λz _=>((n:Int)-z.2).toNat) ⟨0,⟨none,0,0⟩,rfl,Nat.zero_le _,h0⟩ ?_;rintro _ W ⟨i,q,rfl,hi,hI⟩;dsimp only;by_cases hil:i<n
 rotate_left
 ·refine aB (by simp;omega) ?_
  obtain⟨tl,kv,T2,m,last,O,j1,j2,j3,j4,j5,s6⟩:=hI.ex;refine Kv (r:=(0,0,0)) s6.drop j1 (by omega) (by decide) λx e w6 he s7=>?_;refine s7.eM (T:=24) rfl (vs:=gx x) (fu x) λb w7 s8=>?_;refine⟨?_,s8.cw⟩;rcases he with⟨_,_,rfl⟩|⟨ho,_⟩
  ·rfl
  ·exfalso
   unfold fT at ho;rw[jd (by decide)]at ho;split at ho
   ·rename_i y g hO
    split at ho
    ·rename_i hg0
     exact j5.pos _ _ _ hO (by dsimp only at hg0;omega)
    ·cases ho
   ·cases ho
 refine bz (by simp;omega) ?_;obtain⟨tl,kv,T2,m,last,O,j1,j2,j3,j4,j5,s6⟩:=hI.ex;have hx:(l.map (·.1))[i]? =some l[i].1:=by rw[jf,jo (by omega)];rfl
 have hx2:=hs.2 l[i] (List.getElem_mem (by omega));generalize l[i]=o2 at hx hx2;obtain⟨o,ob⟩:=o2;dsimp only at hx hx2;have hx':((l.map (·.1)).take n)[i]? =some o:=by rw[List.getElem?_take,jd hil];exact hx
 refine(KS.grow s6.cw).nO Ox.cH hx' (by decide) (p:=(o.d,o.s.1,o.s.2.1,o.s.2.2,o.aT,o.aK,o.aR.1,o.aR.2.1,o.aR.2.2,o.bT,o.bK,o.bR.1,o.bR.2.1,o.bR.2.2,o.i,o.x)) rfl ?_;refine s6.eM (T:=42) rfl (vs:=o.cells) (YJ o) λb w5 s6=>?_;have s6:St aM w w5 [ag b o.cells,az 3 q (xj tl),cU s dp (3000+250000*i) T2 m (last:Int),mJ oU mp kv]:=s6;refine aF (λq' W'=>FR w s dp (i+1) (3000+250000*i+2000) mp q' W' []) ?_ ?_
 ·
  refine St.L 0 s6 rfl (i:=0) (p:=o.d) rfl ?_;refine ax (λhd=>?_) λhd=>?_
  ·refine St.MA 0 s6 (o:=1) (pre:=[iv o.d]) (cs:=[.int .i64,.int .i64,.int .i64]) (p:=o.s) rfl rfl rfl ?_
   refine yw (sh:=o.s) (s6.bp [2,1,3,0] 4) j1 (by omega) (by omega) (λhb w6 s8=>?_) λ_ _ n2 m' T4 w6 ht i4 ho _ s8=>?_
   ·refine s8.eM (T:=37) rfl (vs:=dZ (0,0,0)) (fu (0,0,0)) λb2 w7 s9=>?_
    refine aB ?_ ⟨tl,kv,T2,m,last,O,j1,by omega,by omega,j4,j5,?_⟩
    ·dsimp only
     split
     ·split<;>rfl
     ·rfl
    ·have eC:=(s9.bp [1,2,3] 5).nH (M:=3000+250000*i+2000) (by omega)
     exact eC.bp [1,0,2] 3
   ·generalize hr:((((n2/32:Nat):Int),((n2%32:Nat):Int),((last+1:Nat):Int)):Rf)=r at *
    have Qd:r.2.2=((last+1:Nat):Int):=by rw[<-hr]
    refine s8.eM (T:=37) rfl (vs:=dZ r) (fu _) λb2 w7 s9=>?_;refine bz rfl ?_;have s9:St aM w w7 [ag b2 (dZ r),cU s dp (3000+250000*i+2000) T4 m' ((last+1:Nat):Int),az 3 q (xj tl),mJ oU mp kv,ag b o.cells]:=s9;refine St.LA 0 s9 rfl (p:=r) rfl ?_;have hnew:r∉kv.map (·.1):=λh=>by have:=j5.old r h;omega
    refine rG (k:=r) (s9.aq 3) j5 λok hok=>?_;refine aB (by cases ok with|false=>rfl|true=>exact absurd (hok rfl) hnew) ?_;refine St.LA 0 s9 rfl (p:=r) rfl ?_;refine MK (r:=r) (s9.bp [2,1,3,4,0] 5) (by omega) λq3 w8 eC=>?_;have eC:St aM w w8 [az 3 q3 (xj (tl++[r])),cU s dp (3000+250000*i+2000) T4 m' ((last+1:Nat):Int),mJ oU mp kv,ag b o.cells,ag b2 (dZ r)]:=eC;refine St.LA 4 eC rfl (p:=r) rfl ?_;refine St.jZ (T:=oU) (k:=r) (eC.aq 2) (λj u w9 hj _ _=>absurd (ki.2 ⟨_,jj hj,rfl⟩) hnew) λ_ w9 eU=>?_;refine⟨tl++[r],kv++[(r,.bool true)],T4,m',last+1,_,i4,by omega,by rw[jh];simp;omega,λr' hr'=>?_,?_,?_⟩
    ·rcases jz.1 hr' with h|h
     ·exact j4 r' h
     ·rw[jq.1 h,<-hr];exact PS n2
    ·rw[<-hr];exact j5.alloc ho (by rw[hr];exact hnew)
    ·exact eU.bp [1,2,0] 5
  ·have keep:∀W',St aM w W' [az 3 q (xj tl),cU s dp (3000+250000*i+2000) T2 m (last:Int),mJ oU mp kv]->FR w s dp (i+1) (3000+250000*i+2000) mp q W' []:=λW' k2=>
    ⟨tl,kv,T2,m,last,O,j1,by omega,by omega,j4,j5,k2⟩
   refine ax (λhd4=>?_) λhd4=>?_
   ·refine St.MA 0 s6 (o:=4) (pre:=[iv o.d,iv o.s.1,iv o.s.2.1,iv o.s.2.2]) (cs:=[.bool,.int .i64,.int .i64,.int .i64,.int .i64]) (p:=(o.aT,o.aK,o.aR)) rfl rfl rfl ?_
    refine abY (o:=o.aT) (k:=o.aK) (r:=o.aR) (s6.bp [1,2,3,0] 4) (by omega) λr' w6 hr' s7=>?_;have Qx:tM r'.2.1:=by
     rcases hr' with h|h
     ·exact j4 r' h
     ·rw[h];exact hx2.1.2.1
    refine s7.eM (T:=37) rfl (vs:=dZ r') (fu r') λb3 w7 s8=>?_;have s8:St aM w w7 [ag b3 (dZ r'),az 3 q (xj tl),cU s dp (3000+250000*i) T2 m (last:Int),mJ oU mp kv,ag b o.cells]:=s8;refine St.LA 0 s8 rfl (p:=r') rfl ?_;refine NQ (r:=r') (s8.bp [2,0,1,3] 5) j1 (by omega) Qx (λhno w8 s9=>?_) λx hsome e T3 w8 _ i3 s9=>?_
    ·refine aF (λc W'=>c=false/\W'=w8) ?_ ?_
     ·refine St.LA 1 s9 rfl (p:=r') rfl ?_
      refine rG (k:=r') (s9.aq 3) j5 λok _=>?_;rw[hno];exact⟨trivial,aB rfl (bz rfl ⟨rfl,rfl⟩)⟩
     rintro _ _ ⟨rfl,rfl⟩;refine aB rfl ?_;refine St.LA 1 s9 rfl (p:=r') rfl ?_;refine rG (k:=r') (s9.aq 3) j5 λok _=>?_;rw[hno];exact aB rfl (keep _ (s9.bp [2,0,3] 4))
    ·refine aF (λc W'=>c=false/\W'=w8) ?_ ?_
     ·refine St.LA 1 s9 rfl (p:=r') rfl ?_
      refine rG (k:=r') (s9.aq 3) j5 λok _=>?_;rw[hsome];exact⟨trivial,aB rfl (aB rfl ⟨rfl,rfl⟩)⟩
     rintro _ _ ⟨rfl,rfl⟩;refine aB rfl ?_;refine St.LA 1 s9 rfl (p:=r') rfl ?_;refine rG (k:=r') (s9.aq 3) j5 λok _=>?_;rw[hsome];refine bz rfl ?_;refine St.LA 1 s9 rfl (p:=r') rfl ?_;refine St.jZ (T:=oU) (k:=r') (s9.aq 3) (λj u w9 hj abZ eC=>?_) λhnot w9 _=>?_
     ·exact⟨tl,kv.set j (r',.bool false),T3,_,last,_,i3,by omega,by omega,j4,j5.free hsome hj abZ,eC.bp [3,1,0] 4⟩
     ·exfalso
      have h1:=j5.is r';rw[hsome]at h1;cases hl:mB r' kv with
      |none=>rw[hl]at h1;cases h1
      |some v=>exact hnot (yC (by rw[hl];rfl))
   ·exact keep w5 ((s6.bp [2,1,3] 4).nH (by omega)|>.bp [1,0,2] 3)
 clear j1 j2 j3 j4 j5 s6 hI;intro q' W' hJ;obtain⟨tl,kv,T2,m,last,O,j1,j2,j3,j4,j5,s6⟩:=hJ.ex;have ZM:q'.len=tl.length:=by have:=s6.sl.len;rw[yB]at this;omega
 refine aU (λz W=>∃(j:Nat),z=(j:Int)/\j<=tl.length/\St aM w W (az 3 q' (xj tl)::cU s dp (3000+250000*i+2000+4096*j) T2 m (last:Int)::[mJ oU mp kv])) (λz _=>((tl.length:Int)-z).toNat) ⟨0,rfl,Nat.zero_le _,s6⟩ ?_;rintro _ W2 ⟨j,rfl,hj,s7⟩;by_cases hjl:j<tl.length
 rotate_left
 ·refine aB (by simp;omega) ?_
  rw[bE (by omega)];refine⟨⟨i+1,q',rfl,hil,tl,kv,T2,m,last,O,j1,j2,j3,j4,j5,?_⟩,by omega⟩;exact((s7.aq 1).nH (M:=3000+250000*(i+1)) (by omega)).bp [1,0,2] 3
 refine bz (by simp;omega) ?_;have hrx:tl[j]? =some tl[j]:=jo hjl;have Qx:=j4 _ (List.getElem_mem hjl);generalize tl[j]=r at hrx Qx;have hsq:SS dZ W2 q' tl:=s7.sl.ss (f:=dZ) (n:=3) (λ_=>rfl) (by decide);refine hsq.nO (n:=3) (λ_=>rfl) hrx (by decide) (p:=r) rfl ?_;refine s7.eM (T:=37) rfl (vs:=dZ r) (fu r) λb5 w7 s8=>?_;refine aU (λz W=>∃(k:Nat),z=(k:Int)/\k<=4/\St aM w W (ag b5 (dZ r)::az 3 q' (xj tl)::cU s dp (3000+250000*i+2000+4096*j+1024*k) T2 m (last:Int)::[mJ oU mp kv])) (λz _=>((4:Int)-z).toNat) ⟨0,rfl,Nat.zero_le _,s8⟩ ?_;rintro _ W3 ⟨k,rfl,hk,s9⟩;by_cases hk4:k<4
 rotate_left
 ·refine aB (by simp;omega) ?_
  obtain rfl:k=4:=by omega
  rw[bE (by omega)];refine⟨⟨j+1,rfl,hjl,?_⟩,by omega⟩;exact((s9.bp [2,1,3] 4).nH (M:=3000+250000*i+2000+4096*(j+1)) (by omega)).bp [1,0,2] 3
 refine bz (by simp;omega) ?_;refine St.LA 0 s9 rfl (p:=r) rfl ?_;refine s9.eM (T:=37) rfl (vs:=dZ r) (fu r) λb6 w8 eC=>?_;refine aF (λ_ W'=>∃x:Rf,tM x.2.1/\St aM w W' (ag b6 (dZ x)::ag b5 (dZ r)::az 3 q' (xj tl)::cU s dp (3000+250000*i+2000+4096*j+1024*k) T2 m (last:Int)::[mJ oU mp kv])) ?_ ?_
 ·refine ax (λ_=>?_) λ_=>?_
  ·refine St.L 0 eC rfl (i:=2) (p:=r.2.2) rfl ⟨by decide,?_⟩
   exact eC.S 0 rfl (i:=2) (show 2<3 by decide) trivial λw9 eU=>⟨(r.1,r.2.1,aO (r.2.2+aO (1+aO (a.tmod 3)))),Qx,eU⟩
  refine ax (λ_=>?_) λ_=>?_
  ·refine St.L 0 eC rfl (i:=1) (p:=r.2.1) rfl ⟨by decide,?_⟩
   exact eC.S 0 rfl (i:=1) (show 1<3 by decide) trivial λw9 eU=>⟨(r.1,_,r.2.2),HB _,eU⟩
  refine ax (λ_=>?_) λ_=>?_
  ·refine St.L 0 eC rfl (i:=0) (p:=r.1) rfl ⟨by decide,?_⟩
   exact eC.S 0 rfl (i:=0) (show 0<3 by decide) trivial λw9 eU=>⟨(sR .i64 r.1 (aO (1+aO (a.tmod 3))),r.2.1,r.2.2),Qx,eU⟩
  ·exact⟨r,Qx,eC⟩
 rintro _ w9 ⟨x,hxr,eU⟩;refine St.LA 0 eU rfl (p:=x) rfl ?_;refine Kv (r:=x) (eU.aq 3) j1 (by omega) hxr λy e wa he sN=>?_;refine sN.eM (T:=24) rfl (vs:=gx y) (fu y) λb7 wb nW=>?_;have nW:St aM w wb [ag b7 (gx y),cU s dp (3000+250000*i+2000+4096*j+1024*k+1024) T2 m (last:Int),ag b6 (dZ x),ag b5 (dZ r),az 3 q' (xj tl),mJ oU mp kv]:=nW;refine aF (λc W'=>c=false/\W'=wb) ?_ ?_
 ·refine St.LA 2 nW rfl (p:=x) rfl ?_
  refine rG (k:=x) (nW.aq 5) j5 λok _=>?_;rcases he with⟨ho,_,rfl⟩|⟨ho,rfl⟩
  ·rw[ho];exact⟨trivial,aB rfl (bz rfl ⟨rfl,rfl⟩)⟩
  ·rw[ho];exact⟨trivial,aB rfl (aB rfl ⟨rfl,rfl⟩)⟩
 rintro _ _ ⟨rfl,rfl⟩;refine aB rfl ?_;rw[bE (by omega)];refine⟨⟨k+1,rfl,hk4,?_⟩,by omega⟩;exact((nW.bp [1,3,4,5] 6).nH (M:=3000+250000*i+2000+4096*j+1024*(k+1)) (by omega)).bp [1,2,0,3] 4
end Go.Proofs

namespace Go.Eng
open Go.RowKit
theorem Grow.below{w w':World}(h:Grow w w'):Below w.heap.size w w':=⟨h.rest.1,h.rest.2.1,h.rest.2.2,h.size,λk hk=>h.same k hk λh=>h⟩
theorem K4{n:Int}(h:(Lit.int .u8 n).wf=true):(Value.int .u8 n)=ub (UInt8.ofNat n.toNat):=by
 have h2:0<=n/\n<=255:=by
  simp only[Lit.wf,IntKind.min,IntKind.max,IntKind.signed,IntKind.bits,kf,jb]at h;simpa using h
 have h3:((UInt8.ofNat n.toNat).toNat:Int)=n:=by simp;omega
 rw[ub,h3]
end Go.Eng

set_option maxRecDepth 100000
namespace Go.Proofs
open Go.Eng Go.ChangeShapes Go.WideShapes Go.ChangeAt Go.RowKit Go.Deep
theorem xl{α:Type}[Inhabited α]{n:Nat}{p:Nat->α->Prop}(h:∀i,i<n->∃x,p i x):∃f:Nat->α,∀i,i<n->p i (f i):=by
 classical
 refine⟨λi=>if hi:i<n then(h i hi).choose else default,λi hi=>?_⟩;dsimp only;rw[dif_pos hi];exact(h i hi).choose_spec
theorem wf_i64{n:Int}(h:(Lit.int .i64 n).wf=true): -9223372036854775808<=n/\n<=9223372036854775807:=by
 simp only[Lit.wf,IntKind.min,IntKind.max,IntKind.signed,IntKind.bits,kf,jb]at h;simpa using h
structure Tw where
 d:Int
 k:Int
 o:Int
 n:Int
 b:Sl
 p:Sl
def Tw.cells(x:Tw):LV:=[iv x.d,iv x.k,iv x.o,iv x.n,slV x.b,slV x.p]
section
variable{H:Type}{enc:TypeId×Value->H}{W:World}{sp:Nat->Bool}
theorem yG{fuel:Nat}{v:Value}{x:DataW H×List MemPlace}(h:DataW.trod enc Pq W 0 sp true fuel 40 [v]=some x):
 ∃(s:Sl) (l:LB),v=slV s/\BS W s l/\s.len<=s.cap:=by
 rcases open_ints Tryz.underlying40 Tryz.underlying5 (by kernel_rfl) h with⟨hcs,_⟩|⟨x,l,c,zs,hcs,_,hl,hm,hz,hr,hcell,hwz⟩
 ·simp only[List.cons.injEq,and_true]at hcs
  exact⟨⟨none,0,0⟩,[],hcs,BS.nil _ _,Nat.le_refl _⟩
 ·simp only[List.cons.injEq,and_true]at hcs
  have NZ:l<=zs.length:=by rw[hz];split<;>omega
  refine⟨⟨some x,l,c⟩,(zs.take l).map λn=>UInt8.ofNat n.toNat,hcs,⟨by simp;omega,ay.2 λj v hj=>?_⟩,hl⟩;simp only[List.map_map,jf,List.getElem?_take]at hj;split at hj
  ·rename_i hlt
   have hjl:j<zs.length:=by omega
   rw[hcell j hjl];simp only[hjl,jo,Option.map_some,jg,Function.comp_apply]at hj;subst hj;rw[show zs.getD j 0=zs[j] by simp[List.getD,hjl]];exact congrArg some (K4 (hwz _ (List.getElem_mem hjl)))
  ·cases hj
end
section
variable{H:Type}{enc:TypeId×Value->H}{W:World}{sp:Nat->Bool}
theorem FD{fuel:Nat}{cs:LV}{x:DataW H×List MemPlace}(h:DataW.trod enc Pq W 0 sp true fuel 24 cs=some x):
 ∃s:gB,cs=gx s:=by
 obtain⟨xs,n,_,_,hl,iF,hf⟩:=DataW.trod_struct Tryz.underlying24 h;have h5:Pq.cellsOf 24=3:=by kernel_rfl
 have h3:Pq.cellsOf 3=1:=by kernel_rfl
 rw[h5]at hl;have NW:xs.length=3:=iF
 match cs,hl with
 |
  [v0,v1,v2],_=>
  have u0:DataW.trod enc Pq W 0 sp true n 3 (([v0,v1,v2].drop 0).take (Pq.cellsOf 3))=xs[0]? :=hf 0 _ rfl;have u1:DataW.trod enc Pq W 0 sp true n 3 (([v0,v1,v2].drop 1).take (Pq.cellsOf 3))=xs[1]? :=hf 1 _ rfl;have u2:DataW.trod enc Pq W 0 sp true n 3 (([v0,v1,v2].drop 2).take (Pq.cellsOf 3))=xs[2]? :=hf 2 _ rfl;rw[jo (by omega),h3]at u0 u1 u2;simp only[List.drop,List.take]at u0 u1 u2;obtain⟨q0,e0,_,_⟩:=DataW.trod_int Tryz.underlying3 u0;obtain⟨q1,e1,_,_⟩:=DataW.trod_int Tryz.underlying3 u1;obtain⟨q2,e2,_,_⟩:=DataW.trod_int Tryz.underlying3 u2;simp only[List.cons.injEq,and_true]at e0 e1 e2;subst e0 e1 e2;exact⟨(q0,q1,q2),rfl⟩
theorem HK{fuel:Nat}{cs:LV}{x:DataW H×List MemPlace}(h:DataW.trod enc Pq W 0 sp true fuel 37 cs=some x):
 ∃r:Rf,cs=dZ r/\MT r:=by
 obtain⟨xs,n,_,_,hl,iF,hf⟩:=DataW.trod_struct Tryz.underlying37 h;have h5:Pq.cellsOf 37=3:=by kernel_rfl
 have h3:Pq.cellsOf 3=1:=by kernel_rfl
 have h2:Pq.cellsOf 2=1:=by kernel_rfl
 rw[h5]at hl;have NW:xs.length=3:=iF
 match cs,hl with
 |
  [v0,v1,v2],_=>
  have u0:DataW.trod enc Pq W 0 sp true n 3 (([v0,v1,v2].drop 0).take (Pq.cellsOf 3))=xs[0]? :=hf 0 _ rfl;have u1:DataW.trod enc Pq W 0 sp true n 3 (([v0,v1,v2].drop 1).take (Pq.cellsOf 3))=xs[1]? :=hf 1 _ rfl;have u2:DataW.trod enc Pq W 0 sp true n 2 (([v0,v1,v2].drop 2).take (Pq.cellsOf 2))=xs[2]? :=hf 2 _ rfl;rw[jo (by omega),h3]at u0 u1;rw[jo (by omega),h2]at u2;simp only[List.drop,List.take]at u0 u1 u2;obtain⟨q0,e0,z0,y0⟩:=DataW.trod_int Tryz.underlying3 u0;obtain⟨q1,e1,z1,y1⟩:=DataW.trod_int Tryz.underlying3 u1;obtain⟨q2,e2,z2,y2⟩:=DataW.trod_int Tryz.underlying2 u2;simp only[List.cons.injEq,and_true]at e0 e1 e2;subst e0 e1 e2;exact⟨(q0,q1,q2),rfl,wf_i64 y0,wf_i64 y1,wf_i64 y2⟩
theorem vS{fuel:Nat}{cs:LV}{x:DataW H×List MemPlace}(h:DataW.trod enc Pq W 0 sp true fuel 39 cs=some x):
 ∃(o:Bool) (k:Int) (r:Rf),cs=[.bool o,iv k,iv r.1,iv r.2.1,iv r.2.2]/\MT r:=by
 obtain⟨xs,n,_,_,hl,iF,hf⟩:=DataW.trod_struct Tryz.underlying39 h;have h5:Pq.cellsOf 39=5:=by kernel_rfl
 have h3:Pq.cellsOf 3=1:=by kernel_rfl
 have h4:Pq.cellsOf 4=1:=by kernel_rfl
 have h37:Pq.cellsOf 37=3:=by kernel_rfl
 rw[h5]at hl;have NW:xs.length=3:=iF
 match cs,hl with
 |
  [v0,v1,v2,v3,v4],_=>
  have u0:DataW.trod enc Pq W 0 sp true n 4 (([v0,v1,v2,v3,v4].drop 0).take (Pq.cellsOf 4))=xs[0]? :=hf 0 _ rfl;have u1:DataW.trod enc Pq W 0 sp true n 3 (([v0,v1,v2,v3,v4].drop 1).take (Pq.cellsOf 3))=xs[1]? :=hf 1 _ rfl;have u2:DataW.trod enc Pq W 0 sp true n 37 (([v0,v1,v2,v3,v4].drop 2).take (Pq.cellsOf 37))=xs[2]? :=hf 2 _ rfl;rw[jo (by omega),h4]at u0;rw[jo (by omega),h3]at u1;rw[jo (by omega),h37]at u2;simp only[List.drop,List.take]at u0 u1 u2;obtain⟨q0,e0,_⟩:=DataW.trod_bool Tryz.underlying4 u0;obtain⟨q1,e1,_,_⟩:=DataW.trod_int Tryz.underlying3 u1;obtain⟨r,e2,hr⟩:=HK u2;simp only[List.cons.injEq,and_true]at e0 e1 e2;obtain⟨e2,e3,e4⟩:=e2;subst e0 e1 e2 e3 e4;exact⟨q0,q1,r,rfl,hr⟩
theorem HL{fuel:Nat}{cs:LV}{x:DataW H×List MemPlace}(h:DataW.trod enc Pq W 0 sp true fuel 42 cs=some x):
 ∃o:Ox×LB,cs=o.1.cells/\MT o.1.aR/\MT o.1.bR/\tM o.1.i/\BS W o.1.x o.2/\o.1.x.len<=o.1.x.cap:=by
 obtain⟨xs,n,_,_,hl,iF,hf⟩:=DataW.trod_struct Tryz.underlying42 h;have h5:Pq.cellsOf 42=16:=by kernel_rfl
 have h3:Pq.cellsOf 3=1:=by kernel_rfl
 have h24:Pq.cellsOf 24=3:=by kernel_rfl
 have h39:Pq.cellsOf 39=5:=by kernel_rfl
 have h40:Pq.cellsOf 40=1:=by kernel_rfl
 rw[h5]at hl;have NW:xs.length=6:=iF
 match cs,hl with
 |
  [v0,v1,v2,v3,v4,v5,v6,v7,v8,v9,v10,v11,v12,P7,P8,P9],_=>
  have u0:DataW.trod enc Pq W 0 sp true n 3 (([v0,v1,v2,v3,v4,v5,v6,v7,v8,v9,v10,v11,v12,P7,P8,P9].drop 0).take (Pq.cellsOf 3))=xs[0]? :=hf 0 _ rfl;have u1:DataW.trod enc Pq W 0 sp true n 24 (([v0,v1,v2,v3,v4,v5,v6,v7,v8,v9,v10,v11,v12,P7,P8,P9].drop 1).take (Pq.cellsOf 24))=xs[1]? :=hf 1 _ rfl;have u2:DataW.trod enc Pq W 0 sp true n 39 (([v0,v1,v2,v3,v4,v5,v6,v7,v8,v9,v10,v11,v12,P7,P8,P9].drop 4).take (Pq.cellsOf 39))=xs[2]? :=hf 2 _ rfl;have u3:DataW.trod enc Pq W 0 sp true n 39 (([v0,v1,v2,v3,v4,v5,v6,v7,v8,v9,v10,v11,v12,P7,P8,P9].drop 9).take (Pq.cellsOf 39))=xs[3]? :=hf 3 _ rfl;have u4:DataW.trod enc Pq W 0 sp true n 3 (([v0,v1,v2,v3,v4,v5,v6,v7,v8,v9,v10,v11,v12,P7,P8,P9].drop 14).take (Pq.cellsOf 3))=xs[4]? :=hf 4 _ rfl;have u5:DataW.trod enc Pq W 0 sp true n 40 (([v0,v1,v2,v3,v4,v5,v6,v7,v8,v9,v10,v11,v12,P7,P8,P9].drop 15).take (Pq.cellsOf 40))=xs[5]? :=hf 5 _ rfl;rw[jo (by omega),h3]at u0;rw[jo (by omega),h24]at u1;rw[jo (by omega),h39]at u2;rw[jo (by omega),h39]at u3;rw[jo (by omega),h3]at u4;rw[jo (by omega),h40]at u5;simp only[List.drop,List.take]at u0 u1 u2 u3 u4 u5;obtain⟨d,e0,_,_⟩:=DataW.trod_int Tryz.underlying3 u0;obtain⟨sh,e1⟩:=FD u1;obtain⟨ao,ak,ar,e2,hr⟩:=vS u2;obtain⟨bo,bk,br,e3,NY⟩:=vS u3
  obtain⟨i,e4,_,y4⟩:=DataW.trod_int Tryz.underlying3 u4;obtain⟨s,l,e5,hs,hsc⟩:=yG u5;simp only[List.cons.injEq,and_true]at e0 e1 e2 e3 e4;obtain⟨Qa,e11,e12⟩:=e1;obtain⟨e20,e21,e22,e23,Zv⟩:=e2;obtain⟨e30,e31,e32,e33,e34⟩:=e3;subst e0 Qa e11 e12 e20 e21 e22 e23 Zv e30 e31 e32 e33 e34 e4 e5;exact⟨(⟨d,sh,ao,ak,ar,bo,bk,br,i,s⟩,l),rfl,hr,NY,wf_i64 y4,hs,hsc⟩
theorem open_opsS{fuel:Nat}{v:Value}{x:DataW H×List MemPlace}(h:DataW.trod enc Pq W 0 sp true fuel 22 [v]=some x):
 ∃(s:Sl) (xs:List (Ox×LB)),v=slV s/\OLs W s xs/\s.len<=s.cap:=by
 rcases open_slice Tryz.underlying22 h with⟨hcs,_⟩|⟨a,len,cap,m,n,D,Pl,hcs,hb,hl,hm,hmm,_,hx⟩
 ·simp only[List.cons.injEq,and_true]at hcs
  exact⟨⟨none,0,0⟩,[],hcs,⟨SS.nil _ _,by simp⟩,Nat.le_refl _⟩
 ·simp only[List.cons.injEq,and_true]at hcs
  have hlm:len<=m:=by rw[hmm];split<;>omega
  have h5:Pq.cellsOf 42=16:=by kernel_rfl
  have:Inhabited (Ox×LB):=⟨(⟨0,(0,0,0),false,0,(0,0,0),false,0,(0,0,0),0,⟨none,0,0⟩⟩,[])⟩;have each:∀i,i<len->∃r:Ox×LB,Row W (a.add (i*16)) r.1.cells/\MT r.1.aR/\MT r.1.bR/\tM r.1.i/\BS W r.1.x r.2/\r.1.x.len<=r.1.x.cap:=by
   intro i hi;obtain⟨cs',h1,h2⟩:=hx i (by omega);rw[h5]at h1;obtain⟨_,hlen,hcell⟩:=World.cells?_some h1;obtain⟨r,rfl,hr⟩:=HL h2;refine⟨r,λj v hj=>?_,hr⟩;have hj5:j<16:=by
    rcases Nat.lt_or_ge j 16 with h'|h'
    ·exact h'
    ·rw[List.getElem?_eq_none (by rw[Ox.cH];exact h')]at hj;cases hj
   rw[hcell j hj5,hj]
  obtain⟨f,hf⟩:=xl each;refine⟨⟨some a,len,cap⟩,(List.range len).map f,hcs,⟨⟨by simp,?_⟩,λx hx=>?_⟩,hl⟩
  ·refine ay.2 ((mP Ox.cH).2 λi r hi=>?_)
   have hil:i<len:=by
    rcases Nat.lt_or_ge i len with h'|h'
    ·exact h'
    ·rw[List.getElem?_eq_none (by simpa using h')]at hi;cases hi
   simp[hil]at hi;subst hi;exact(hf i hil).1
  ·obtain⟨i,hi,rfl⟩:=ki.1 hx
   exact(hf i (List.mem_range.1 hi)).2
end
end Go.Proofs
