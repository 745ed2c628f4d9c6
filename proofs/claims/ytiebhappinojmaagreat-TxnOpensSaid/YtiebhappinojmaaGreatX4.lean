import Derived.Test.YtiebhappinojmaaGreatX1
import Derived.Test.YtiebhappinojmaaGreatX2
import Derived.Test.YtiebhappinojmaaGreatX3
import Derived.Test.YtiebhappinojmaaGreatProg
set_option linter.unusedVariables false
set_option linter.unusedSimpArgs false
set_option linter.unusedSectionVars false
set_option maxRecDepth 20000
namespace Go.Proofs
open Go.Eng
structure DB(N:Nat)(D:DM):Prop where
 ok:D.ok
 bd:D.bd N
theorem DB.le{N M:Nat}{D:DM}(h:DB N D)(hm:N<=M):DB M D:=⟨h.ok,h.bd.armed,by have:=h.bd.ops;omega,by have:=h.bd.wait;omega⟩
theorem pbit15{k:Nat}(h:k<4):pbit 15 k=true:=by
 obtain rfl|rfl|rfl|rfl:k=0\/k=1\/k=2\/k=3:=by omega
 all_goals rfl
theorem reach15{b l:List UInt8}(hb:b.length=256)(hl:l.length=256):∀k,k<=4->reachB b l 15 k=l.take (64*k)++b.drop (64*k)
 |0,_=>by simp[reachB]
 |k+1,hk=>by
  unfold reachB;rw[if_pos (pbit15 (by omega)),reach15 hb hl k (by omega)];unfold lay;have h1:(l.take (64*k)).length=64*k:=by rw[List.length_take];omega
  have h2:((l.drop (64*k)).take 64).length=64:=by rw[List.length_take,List.length_drop];omega
  rw[h2,List.take_append_of_le_length (by omega),List.take_of_length_le (by omega)];have h3:(l.take (64*k)++b.drop (64*k)).drop (64*k+64)=b.drop (64*(k+1)):=by
   rw[List.drop_append,h1,List.drop_eq_nil_of_le (by omega),List.nil_append,List.drop_drop]
   congr 1;omega
  rw[h3,show 64*(k+1)=64*k+64 by omega,List.take_add]
theorem reach_all{b l:List UInt8}(hb:b.length=256)(hl:l.length=256):reachB b l 15 4=l:=by
 rw[reach15 hb hl 4 (by omega),List.take_of_length_le (by omega),List.drop_eq_nil_of_le (by omega),List.append_nil]
def flushB(bs:List (List UInt8))(ws:List (Int×List UInt8)):List (List UInt8):=ws.foldl (λb x=>b.set x.1.toNat x.2) bs
def flushD(D:DM):Int×DM:=if D.off then(5,D)else if(goesD D).1 then(5,(goesD D).2)else(0,{(goesD D).2 with blocks:=flushB D.blocks D.wait,wait:=[]})
def crashD(D:DM)(pl:List UInt8):Int×DM:=if D.off then(5,D)else(0,fallsD D pl)
theorem goesD_no{D:DM}(h:(goesD D).1=false):(goesD D).2.blocks=D.blocks/\(goesD D).2.wait=D.wait/\(goesD D).2.off=D.off/\(goesD D).2.ops=D.ops+1/\(goesD D).2.picks=D.picks/\(D.armed=0/\(goesD D).2.armed=0\/D.armed>1/\(goesD D).2.armed=D.armed-1):=by
 unfold goesD at h⊢;split
 ·rename_i h0;exact⟨rfl,rfl,rfl,rfl,rfl,.inl ⟨h0,h0⟩⟩
 ·split
  ·rename_i h1;exact⟨rfl,rfl,rfl,rfl,rfl,.inr ⟨h1,rfl⟩⟩
  ·rename_i h0 h1;rw[if_neg h0,if_neg h1]at h;cases h
theorem goesD_ok'{D:DM}(hok:D.ok)(h:(goesD D).1=false):(goesD D).2.ok:=by
 obtain⟨h1,h2,_⟩:=goesD_no h;exact⟨by rw[h1];exact hok.len,by rw[h1,h2];exact hok.wlen,by rw[h1];exact hok.pos,by rw[h1];exact hok.le⟩
theorem V112(p:Nat)(D:DM)(N:Nat)(w:World)(F:Nat->Prop)(h:Has [DiskA p D] w F)(hd:DB N D)(hN:N<=10000000):
 Calls Tryz.prog 112 #[P0 p] w (RetT [.c (.int .i64)] λr w'=>r=(flushD D).1/\St F w w' [DiskA p (flushD D).2]):=by
 refine F112_calls _ _ _ ?_;unfold F112;have hwl:=hd.bd.wait;have hop:=hd.bd.ops;refine callF_of (C83 p D w F h hd.ok) ?_;rintro _ _ ⟨rfl,rfl⟩;unfold canE flushD;refine br_of (λh1=>?_) λh1=>?_
 ·have:D.off=true:=by cases hh:D.off<;>simp[hh]at h1⊢
  rw[this];exact⟨rfl,St.init h⟩
 have hoff:D.off=false:=by cases hh:D.off<;>simp[hh]at h1⊢
 rw[hoff,if_neg (by simp)];refine callF_of (C76 p D w F h hd.ok (by omega) hd.bd.armed.1 hd.bd.armed.2 (by omega)) ?_;rintro _ w1 ⟨rfl,s1⟩;refine br_of (λhg=>?_) λhg=>?_
 ·rw[if_pos hg];exact⟨rfl,s1⟩
 rw[if_neg (by simp[hg])];have hok:=goesD_ok' hd.ok hg;obtain⟨g1,g2,g3,_⟩:=goesD_no hg;rw[<-g1,<-g2];rw[<-g2]at hwl;generalize(goesD D).2=E at s1 hok hwl⊢;clear g1 g2 g3 hg hd;obtain⟨di,s1⟩:=s1.ex;obtain⟨⟨hb,hw⟩,s1⟩:=s1.p;have s1:St F w w1 (dpc p E di):=s1;simp only[deref_some'];have hwn:di.wl.length<=10000000:=by rw[hw,List.length_map]at hwl;omega
 have hwsl:di.ws.len=di.wl.length:=(OwnS.ss (f:=wcells) wcells_len (by decide) (s1.bring 2).sl).len;refine s1.L 0 rfl (p:=di.ws) rfl ?_;refine loop_of (λz W=>∃(j:Nat) (dj:DI),z=j/\j<=di.wl.length/\SameDI di dj/\(dj.bl.map (·.2)).length=E.blocks.length/\(∀b∈dj.bl.map (·.2),b.length=256)/\dj.bl.map (·.2)=flushB E.blocks (E.wait.take j)/\St F w W (dpc p E dj)) (λz _=>di.wl.length-z.toNat)
  ⟨0,di,rfl,by omega,⟨rfl,rfl,rfl,rfl⟩,by rw[hb],by rw[<-hb];exact hok.len,by rw[hb];rfl,s1⟩ ?_
 rintro _ W ⟨j,dj,rfl,hj,hsame,hbl,hb256,hgo,sW⟩;refine br_of (λhlt=>?_) (λhge=>?_)
 ·simp only[decide_eq_true_eq]at hlt
  have hjl:j<di.wl.length:=by omega
  obtain⟨x,hxx⟩:∃x,di.wl[j]? =some x:=⟨di.wl[j],by simp[hjl]⟩;have hDj:E.wait[j]? =some (x.1,x.2.2):=by rw[hw,List.getElem?_map,hxx];rfl
  have hxw:=hok.wlen _ (List.mem_of_getElem? hDj);dsimp only at hxw;have hss:WS W di.ws di.wl:=by have:=OwnS.ss (f:=wcells) wcells_len (by decide) (sW.bring 2).sl;rw[hsame.ws,hsame.wl]at this;exact this
  refine hss.eld wcells_len (n:=2) (cs:=[.int .i64,.slice]) (p:=(x.1,x.2.1)) hxx (by decide) rfl ?_;refine sW.nvs (vs:=[iv x.1,slV x.2.1]) rfl (by simp) λr w2 s2=>?_;refine s2.LA 0 rfl (p:=(x.1,x.2.1)) rfl ?_;have s3:St F w w2 (dpc p E dj):=s2.drop;obtain⟨G,H,k1,_,_,_,gc⟩:=St.call (dpc p E dj) (l:=[]) s3;obtain⟨i,hi⟩:=Int.eq_ofNat_of_zero_le hxw.1;have hil:i<dj.bl.length:=by rw[List.length_map]at hbl;omega
  obtain⟨y,hy⟩:∃y,dj.bl[i]? =some y:=⟨dj.bl[i],by simp[hil]⟩;have hy256:y.2.length=256:=hb256 _ (List.mem_map.2 ⟨y,List.mem_of_getElem? hy,rfl⟩);have hxj:dj.wl[j]? =some ((i:Int),x.2.1,x.2.2):=by rw[hsame.wl,hxx,<-hi]
  dsimp only;rw[hi];refine callF_of (C103 p E dj i j x.2.1 x.2.2 y 15 _ G k1 hy hxj hy256 hxw.2.2) ?_;rintro⟨⟩ w6 s6;have s7:=gc _ _ s6;rw[reach_all hy256 hxw.2.2,List.append_nil]at s7;have hset:(setBl dj i x.2.2).bl.map (·.2)=(dj.bl.map (·.2)).set i x.2.2:=modify_map2;rw[w64_succ (by omega)];refine⟨⟨j+1,setBl dj i x.2.2,rfl,hjl,⟨hsame.bs,hsame.ws,hsame.ps,hsame.wl⟩,?_,?_,?_,s7⟩,by omega⟩
  ·rw[hset,List.length_set];exact hbl
  ·intro b hbm
   rw[hset]at hbm;rcases List.mem_or_eq_of_mem_set hbm with h|rfl
   ·exact hb256 b h
   ·exact hxw.2.2
  ·have ht:E.wait.take (j+1)=E.wait.take j++[(x.1,x.2.2)]:=by rw[List.take_add_one,hDj];rfl
   rw[hset,hgo,ht];unfold flushB;rw[List.foldl_append];show _=(List.foldl _ E.blocks (List.take j E.wait)).set x.1.toNat x.2.2;rw[hi];rfl
 ·simp only[decide_eq_false_iff_not]at hge
  have:j=di.wl.length:=by omega
  have hall:E.wait.take j=E.wait:=List.take_of_length_le (by rw[hw,List.length_map];omega);rw[hall]at hgo;refine sW.S 0 rfl (by simp) trivial λw2 s2=>⟨trivial,?_⟩;refine mkDisk (D:={E with blocks:=flushB E.blocks E.wait,wait:=[]}) ⟨dj.bs,⟨none,0,0⟩,dj.ps,dj.bl,[]⟩ hgo.symm rfl ?_;exact((s2.nosl 2).nobig).sel [2,3,1,5,6,0] 8
theorem V22(p:Nat)(D:DM)(q:Sl)(pl:List UInt8)(N:Nat)(w:World)(F:Nat->Prop)(h:Has [DiskA p D] w F)(hq:Rd w F q pl)(hd:DB N D)(hN:N<=10000000):
 Calls Tryz.prog 22 #[P0 p,slV q] w (RetT [.c (.int .i64)] λr w'=>r=(crashD D pl).1/\St F w w' [DiskA p (crashD D pl).2]):=by
 refine F22_calls _ _ _ _ ?_;unfold F22;have hwl:=hd.bd.wait;refine callF_of (C83 p D w F h hd.ok) ?_;rintro _ _ ⟨rfl,rfl⟩;unfold canE crashD;refine br_of (λh1=>?_) λh1=>?_
 ·have:D.off=true:=by cases hh:D.off<;>simp[hh]at h1⊢
  rw[this];exact⟨rfl,St.init h⟩
 have hoff:D.off=false:=by cases hh:D.off<;>simp[hh]at h1⊢
 rw[hoff,if_neg (by simp)];obtain⟨di,s1⟩:=(St.init h).ex;obtain⟨⟨hb,hw⟩,s1⟩:=s1.p;obtain⟨G,H,k1,_,_,k4,gc⟩:=St.call (dpc p D di) (l:=[]) s1;refine callF_of (C95 p D di q pl w G k1 hb hw hd.ok (by omega) λW dj L _ hs=>(hq.go (St.init h) (λb hb=>k4 b hb)).at hs) ?_;rintro⟨⟩ w2 s2;exact⟨rfl,gc _ _ s2⟩
theorem V53(p:Nat)(D:DM)(w:World)(F:Nat->Prop)(h:Has [DiskA p D] w F)(hok:D.ok):Calls Tryz.prog 53 #[P0 p] w (RetT [.c .bool] λr w'=>r= !D.off/\w=w'):=by
 refine F53_calls _ _ _ ?_;unfold F53;refine callF_of (C83 p D w F h hok) ?_;rintro _ _ ⟨rfl,rfl⟩;refine⟨?_,rfl⟩;unfold canE;cases D.off<;>rfl
abbrev ringC(dp:Nat)(st n h:Int)(s:Sl):List Value:=[P0 dp,iv st,iv n,iv h,slV s]
abbrev RP(r:Nat):Value:=.pointer (some ⟨r,0,none⟩)
theorem V111{r dp:Nat}{st n h:Int}{s:Sl}{w:World}(hb:Box w r (ringC dp st n h s))(hn:0<=n/\n<=256):
 Calls Tryz.prog 111 #[RP r] w (RetT [.c (.int .i64)] λx w'=>x=4*n/\w=w'):=by
 refine F111_calls _ _ _ ?_;unfold F111;simp only[deref_some'];refine hb.ld (i:=2) (s:=.int .i64) (p:=n) rfl ?_;exact⟨w64_of ⟨by omega,by omega⟩,rfl⟩
def placeB(st n q:Int):Int:=st+q%(4*n)/4
def placeO(n q:Int):Int:=q%(4*n)%4*64
theorem V125{r dp:Nat}{st n h q:Int}{s:Sl}{w:World}(hb:Box w r (ringC dp st n h s))(hn:1<=n/\n<=256)(hst:0<=st/\st<=2048)(hq:0<=q):
 Calls Tryz.prog 125 #[RP r,iv q] w (RetT [.c (.int .i64),.c (.int .i64)] λx w'=>x=(placeB st n q,placeO n q)/\w=w'):=by
 refine F125_calls _ _ _ _ ?_;unfold F125;refine callF_of (V111 hb ⟨by omega,hn.2⟩) ?_;rintro _ _ ⟨rfl,rfl⟩;refine⟨by omega,?_⟩;simp only[deref_some'];refine hb.ld (i:=1) (s:=.int .i64) (p:=st) rfl ?_;refine⟨by omega,by omega,?_,rfl⟩;have h1:q.tmod (4*n)=q%(4*n):=Int.tmod_eq_emod_of_nonneg hq;have h2:=Int.emod_nonneg q (b:=4*n) (by omega);have h3:=Int.emod_lt_of_pos q (b:=4*n) (by omega);rw[h1,Int.tdiv_eq_ediv_of_nonneg h2,Int.tmod_eq_emod_of_nonneg h2];unfold placeB placeO;rw[w64_of (n:=q%(4*n)/4) ⟨by omega,by omega⟩,w64_of (n:=st+_) ⟨by omega,by omega⟩,w64_of (n:=q%(4*n)%4*64) ⟨by omega,by omega⟩]
theorem placeB_le{st n q:Int}(hn:1<=n):st<=placeB st n q/\placeB st n q<st+n:=by
 have h2:=Int.emod_nonneg q (b:=4*n) (by omega);have h3:=Int.emod_lt_of_pos q (b:=4*n) (by omega);unfold placeB;omega
theorem placeO_le(n q:Int):0<=placeO n q/\placeO n q<=192/\placeO n q%64=0:=by
 unfold placeO;omega
theorem V107{r dp:Nat}{st n h:Int}{s:Sl}{w:World}(hb:Box w r (ringC dp st n h s)):
 Calls Tryz.prog 107 #[RP r] w (RetT [.c .bool] λx w'=>x=false/\w=w'):=by
 refine F107_calls _ _ _ ?_;unfold F107;refine⟨trivial,br_f rfl ?_⟩;simp only[deref_some'];refine hb.ld (i:=0) (s:=.ptr) (p:=some ⟨dp,0,none⟩) rfl ?_;exact⟨trivial,rfl,rfl⟩
theorem V58{r dp:Nat}{st n h:Int}{s:Sl}{w:World}(hb:Box w r (ringC dp st n h s)):
 Calls Tryz.prog 58 #[RP r] w (RetT [.c (.int .i64)] λx w'=>x=h/\w=w'):=by
 refine F58_calls _ _ _ ?_;unfold F58;refine callF_of (V107 hb) ?_;rintro _ _ ⟨rfl,rfl⟩;refine br_f rfl ?_;simp only[deref_some'];exact hb.ld (i:=3) (s:=.int .i64) (p:=h) rfl ⟨rfl,rfl⟩
theorem V57{r dp:Nat}{st n h:Int}{s:Sl}{w:World}(hb:Box w r (ringC dp st n h s))(hh:0<=h/\h<=2305843009213693952)(hs:s.len<=1000000):
 Calls Tryz.prog 57 #[RP r] w (RetT [.c (.int .i64)] λx w'=>x=h+s.len/\Grow w w'):=by
 refine F57_calls _ _ _ ?_;unfold F57;refine callF_of (V107 hb) ?_;rintro _ _ ⟨rfl,rfl⟩;refine br_f rfl ?_;rw[drw_def];have hg:Grow w w.drew:=(Mod.refl _ w).drew;simp only[deref_some'];refine(hb.grow hg).ld (i:=3) (s:=.int .i64) (p:=h) rfl ?_;refine(hb.grow hg).ld (i:=4) (s:=.slice) (p:=s) rfl ?_;exact⟨w64_of ⟨by omega,by omega⟩,hg⟩
theorem V62{r dp:Nat}{st n h:Int}{s:Sl}{w:World}(hb:Box w r (ringC dp st n h s))(hn:0<=n/\n<=256)(hs:s.len<=1000000):
 Calls Tryz.prog 62 #[RP r] w (RetT [.c (.int .i64)] λx w'=>x=4*n-s.len/\Grow w w'):=by
 refine F62_calls _ _ _ ?_;unfold F62;refine callF_of (V107 hb) ?_;rintro _ _ ⟨rfl,rfl⟩;refine br_f rfl ?_;rw[drw_def];have hg:Grow w w.drew:=(Mod.refl _ w).drew;have hb:=hb.grow hg;simp only[deref_some'];have e:w64 (4*n-(s.len:Int))=4*n-s.len:=w64_of ⟨by omega,by omega⟩;refine⟨?_,?_⟩
 ·refine callF_of (V111 hb hn) ?_
  rintro _ _ ⟨rfl,rfl⟩;exact hb.ld (i:=4) (s:=.slice) (p:=s) rfl ⟨e,hg⟩
 ·refine hb.ld (i:=4) (s:=.slice) (p:=s) rfl ?_
  refine callF_of (V111 hb hn) ?_;rintro _ _ ⟨rfl,rfl⟩;exact⟨e,hg⟩
def lapV(h n:Int):Int:=if n<1\/n>256\/h<0\/h>1152921504606846976 then 0 else h+4*n
theorem V130(h n:Int)(w:World):Calls Tryz.prog 130 #[iv h,iv n] w (RetT [.c (.int .i64)] λx w'=>x=lapV h n/\w=w'):=by
 refine F130_calls _ _ _ _ ?_;unfold F130;refine jn_of (λb W=>b=decide (n<1\/n>256\/h<0\/h>1152921504606846976)/\W=w) ?_ ?_
 ·refine br_of (λa=>⟨by simp at a;simp[a],rfl⟩) λa=>br_of (λb=>⟨by simp at b;simp[b],rfl⟩) λb=>br_of (λc=>⟨by simp at c;simp[c],rfl⟩) λc=>⟨?_,rfl⟩
  simp only[decide_eq_false_iff_not]at a b c;exact decide_eq_decide.2 (by omega)
 rintro _ _ ⟨rfl,rfl⟩;unfold lapV;refine br_of (λa=>?_) λa=>?_
 ·rw[if_pos (by simpa using a)];exact⟨rfl,rfl⟩
 ·have a':=of_decide_eq_false a
  rw[if_neg a'];refine⟨?_,rfl⟩;rw[w64_of (n:=4*n) ⟨by omega,by omega⟩,w64_of ⟨by omega,by omega⟩]
def layR(n:Int):Int->List UInt8->List Rv->Int×List UInt8
 |_,l,[]=>(0,l)
 |q,l,x::xs=>if recEx q x≠0 then(recEx q x,l)else layR n (q+1) (lay l (placeO n q).toNat (secX q x)) xs
def layD(D:DM)(n blk q:Int)(xs:List Rv):Int×DM:=
 if placeE D blk≠0 then(placeE D blk,D)else if(layR n q (rdD D blk) xs).1≠0 then((layR n q (rdD D blk) xs).1,D)else writeD D blk (layR n q (rdD D blk) xs).2
theorem secX_len{q:Int}{x:Rv}(h:recEx q x=0):(secX q x).length=64:=by
 have hc:checkB x.1 x.2.1 x.2.2.1 x.2.2.2.1 x.2.2.2.2.length=true:=by
  by_cases h2:checkB x.1 x.2.1 x.2.2.1 x.2.2.2.1 x.2.2.2.2.length=true
  ·exact h2
  ·unfold recEx recE at h
   split at h
   ·cases h
   ·cases h
 have:=secB_len (n:=q) (k:=x.1) (b:=x.2.1) (o:=x.2.2.1) (m:=x.2.2.2.1) (checkB_num hc).2.1;unfold secX secR;rw[List.length_append,this,numB_len]
theorem V168{r dp:Nat}{D:DM}{st n h:Int}{s:Sl}{blk q:Int}{p:Sl}{xs:List Rc}{N:Nat}{w:World}{F:Nat->Prop}(hh:Has [BoxA r (ringC dp st n h s),DiskA dp D] w F)
 (hd:DB N D)(hN:N<=10000000)(hn:1<=n/\n<=256)(hst:0<=st/\st<=2048)(hq:0<=q/\q<=2305843009213693952)(hr:RL w p xs)(hp:p.len<=1000000):
 Calls Tryz.prog 168 #[RP r,iv blk,iv q,slV p] w (RetT [.c (.int .i64)] λx w'=>x=(layD D n blk q (xs.map rv)).1/\St F w w' [BoxA r (ringC dp st n h s),DiskA dp (layD D n blk q (xs.map rv)).2]):=by
 refine F168_calls _ _ _ _ _ _ ?_;unfold F168;have hpl:=hr.len;have s0:=St.init hh;have hW:∀{W},Grow w W->Has [BoxA r (ringC dp st n h s),DiskA dp D] W F:=λg=>hh.mod g λ_ _ h=>h;have hB:∀{W},Grow w W->Box W r (ringC dp st n h s):=λg=>(St.init (hW g)).box;simp only[deref_some'];refine(hB (Mod.refl _ w)).ld (i:=0) (s:=.ptr) (p:=some ⟨dp,0,none⟩) rfl ?_;have hbd:=hd.bd.wait;obtain⟨F1,hd1⟩:∃F1,Has [DiskA dp D] w F1:=by
  obtain⟨G,H,g2,_⟩:=St.call [DiskA dp D] (s0.sel [1,0] 2);exact⟨G,g2⟩
 refine callF_of (C35 dp D blk w F1 hd1 hd.ok (by omega)) ?_;rintro⟨t,e⟩ w1 ⟨he,t1⟩;dsimp only at he t1;subst he;unfold layD;refine br_of (λhne=>?_) λheq=>?_
 ·have hne:placeE D blk≠0:=by simpa using hne
  rw[if_pos hne];exact⟨rfl,s0.grow t1.gro⟩
 have heq:placeE D blk=0:=by simpa using heq
 rw[if_neg (by simpa using heq)];rw[if_pos heq]at t1;have hrd:0<=blk/\blk<D.blocks.length:=by
  unfold placeE at heq;split at heq
  ·cases heq
  ·split at heq
   ·cases heq
   ·omega
 have hl0:=rdD_len hd.ok hrd.1 hrd.2;generalize rdD D blk=l0 at t1 hl0;refine loop_of (λi W=>∃(j:Nat) (l:List UInt8),i=j/\j<=xs.length/\l.length=256/\layR n q l0 (xs.map rv)=layR n (q+j) l ((xs.drop j).map rv)/\St noF w W [SlA 1 t (l.map ub)]) (λi _=>xs.length-i.toNat) ⟨0,l0,rfl,by omega,hl0,by simp,t1⟩ ?_;rintro _ W ⟨j,l,rfl,hj,hl,hR,t2⟩;refine br_of (λhlt=>?_) λhge=>?_
 ·have hlt:j<xs.length:=by simpa[hpl]using hlt
  have hx:xs[j]? =some xs[j]:=by simp[hlt]
  rw[List.drop_eq_getElem_cons hlt,List.map_cons]at hR;have hbs:=hr.2 _ (List.getElem_mem hlt);refine SS.eld Rw.cells_len (hr.1.grow t2.gro) (r:=xs[j].1) (by rw[List.getElem?_map,hx];rfl) (by decide) (p:=xs[j].1.p) rfl ?_;generalize xs[j]=x at hbs hR;refine St.nvs t2 rfl (λv hv=>by simp at hv;rcases hv with rfl|rfl|rfl|rfl|rfl<;>trivial) λb W2 t3=>?_;refine t3.LA 0 rfl (p:=x.1.p) rfl ?_;rw[show w64 (q+(j:Int))=q+j from w64_of ⟨by omega,by omega⟩];refine callF_of (V204 (q+j) x.1.k x.1.b x.1.o x.1.m x.1.s x.2 W2 (hbs.grow t3.gro)) ?_;rintro⟨u,e⟩ W3 ⟨he,hP⟩;dsimp only at he hP;change e=recEx (q+j) (rv x)at he;change(recEx (q+j) (rv x)≠0/\_/\_)\/recEx (q+j) (rv x)=0/\St noF W2 W3 [SlA 1 u ((secX (q+j) (rv x)).map ub)]at hP;rw[layR]at hR;rcases hP with⟨h1,rfl,g4⟩|⟨h1,k4⟩
  ·rw[if_pos h1]at hR
   refine br_t (by simpa[he]using h1) ?_;rw[hR,if_pos h1];exact⟨he,s0.grow (t3.grow g4).gro⟩
  ·rw[if_neg (by simpa using h1)]at hR
   refine br_f (by simp[he,h1]) ?_;have hsl:=secX_len h1;have t4:=t3.call0 k4;refine callF_of (V125 (hB t4.gro) hn hst (by omega)) ?_;rintro _ _ ⟨rfl,rfl⟩;have hpo:=placeO_le n (q+j);obtain⟨o,ho⟩:∃o:Nat,placeO n (q+j)=o:=⟨(placeO n (q+j)).toNat,by omega⟩;rw[ho]at hR hpo⊢;rw[Int.toNat_natCast]at hR;have htl:=slA_len1 t2.sl;rw[List.length_map]at htl;refine slc_sub (t:=t) (by omega) ?_;refine cpy_sub (t4.sel [2,0,1] 3) t4.sl.bs (by rw[hsl];omega) λW5 t5=>?_;rw[w64_succ (by omega)];refine⟨⟨j+1,_,rfl,hlt,?_,?_,t5.sel [0] 3⟩,?_⟩
   ·rw[lay_len (by rw[hsl];omega),hl]
   ·rw[hR];congr 1;push_cast;omega
   ·show xs.length-(((j+1:Nat):Int)).toNat<xs.length-((j:Int)).toNat
    omega
 ·have hge:j=xs.length:=by simp[hpl]at hge;omega
  subst hge;rw[List.drop_length]at hR;rw[hR];refine(hB t2.gro).ld (i:=0) (s:=.ptr) (p:=some ⟨dp,0,none⟩) rfl ?_;have s3:=(s0.call0 t2).sel [2,0,1] 3;obtain⟨G,H,g2,g3,g4,_,gc⟩:=St.call [DiskA dp D] s3;refine callF_of (C40' dp D blk t l W G g2 (Rd.own g3 g4) hd.ok (by omega) hd.bd.armed.1 hd.bd.armed.2 ⟨hd.bd.ops.1,by have:=hd.bd.ops.2;omega⟩) ?_;rintro e w2 ⟨he,s6⟩;exact⟨he,(gc _ _ s6).sel [2,0] 3⟩
theorem RL.sub{w:World}{s:Sl}{xs:List Rc}(h:RL w s xs){o n:Nat}(ho:o+n<=xs.length){a:Option Addr}{c:Nat}(ha:a=s.a.map (·.add (o*5))\/n=0)(hz:n=0->a=none\/a.isSome):RL w ⟨a,n,c⟩ ((xs.drop o).take n):=by
 refine⟨⟨by simp;omega,?_⟩,λx hx=>h.2 x (List.mem_of_mem_drop (List.mem_of_mem_take hx))⟩;rcases Nat.eq_zero_or_pos n with h0|h0
 ·subst h0
  simp only[List.take_zero,List.map_nil,List.flatMap_nil];cases a with
  |none=>rfl
  |some _=>trivial
 ·have ha:=ha.resolve_right (by omega)
  have hrow:=h.1.row;rw[<-rcs_map]at hrow⊢;have e:rcs ((xs.drop o).take n)=((rcs xs).drop (o*5)).take (n*5):=by
   have h1:rcs xs=rcs (xs.take o)++(rcs ((xs.drop o).take n)++rcs ((xs.drop o).drop n)):=by
    rw[<-rcs_append,List.take_append_drop,<-rcs_append,List.take_append_drop]
   rw[h1,List.drop_left' (by rw[rcs_len,List.length_take];congr 1;omega),List.take_left' (by rw[rcs_len,List.length_take,List.length_drop];congr 1;omega)]
  rw[e];cases hs:s.a with
  |none=>
   rw[hs]at hrow;have h0:rcs xs=[]:=hrow;have:=rcs_len xs;rw[h0]at this;simp at this;omega
  |some ad=>
   rw[hs]at hrow ha;subst ha;exact readsAt_row.2 (((readsAt_row.1 hrow).drop _).take _)
abbrev sub5(s:Sl)(o:Nat):Sl:=⟨if s.cap=o then s.a else s.a.map (·.add (o*5)),s.len-o,s.cap-o⟩
theorem RL.from{w:World}{s:Sl}{xs:List Rc}(h:RL w s xs)(hle:s.len<=s.cap){o:Nat}(ho:o<=xs.length):RL w (sub5 s o) (xs.drop o):=by
 have hl:=h.len;have:=h.sub (o:=o) (n:=s.len-o) (c:=s.cap-o) (by omega) (a:=if s.cap=o then s.a else s.a.map (·.add (o*5)))
  (by by_cases hc:s.cap=o
      ·exact .inr (by omega)
      ·exact .inl (by rw[if_neg hc])) (λ_=>opt_ns _)
 rw[List.take_of_length_le (by rw[List.length_drop];omega)]at this;exact this
theorem sub5_blk{s:Sl}{o b:Nat}(h:(sub5 s o).blk b):s.blk b:=by
 obtain⟨ad,ha,rfl⟩:=h;unfold sub5 at ha;by_cases hc:s.cap=o
 ·rw[if_pos hc]at ha;exact⟨ad,ha,rfl⟩
 ·rw[if_neg hc]at ha
  obtain⟨a0,h1,h2⟩:=Option.map_eq_some_iff.1 ha;exact⟨a0,h1,by rw[<-h2];simp⟩
theorem slc_sub5{w:World}{s:Sl}{o:Nat}{k:Sl->Pr}(ho:o<=s.len)(hk:k (sub5 s o) w):slc 5 s (some (o:Int)) none none k w:=slc_lo (by omega) (by omega) hk
theorem V116{r dp:Nat}{D:DM}{st n h:Int}{s:Sl}{N:Nat}{w:World}{F:Nat->Prop}(hh:Has [BoxA r (ringC dp st n h s),DiskA dp D] w F)(hd:DB N D)(hN:N<=10000000):
 Calls Tryz.prog 116 #[RP r] w (RetT [.c (.int .i64)] λx w'=>x=(flushD D).1/\St F w w' [BoxA r (ringC dp st n h s),DiskA dp (flushD D).2]):=by
 refine F116_calls _ _ _ ?_;unfold F116;have s0:=St.init hh;refine callF_of (V107 s0.box) ?_;rintro _ _ ⟨rfl,rfl⟩;refine br_f rfl ?_;simp only[deref_some'];refine s0.box.ld (i:=0) (s:=.ptr) (p:=some ⟨dp,0,none⟩) rfl ?_;obtain⟨G,H,g2,_,_,_,gc⟩:=St.call [DiskA dp D] (s0.sel [1,0] 2);refine callF_of (V112 dp D N w G g2 hd hN) ?_;rintro e w2 ⟨he,s6⟩;exact⟨he,(gc _ _ s6).sel [1,0] 2⟩
theorem bts_drop{F0:Nat->Prop}{w0 w:World}{L:List HA}{xs:List Rc}(k:Nat)(h:St F0 w0 w (bts xs::L)):St F0 w0 w (bts (xs.drop k)::L):=by
 have e:bts xs=bigA ((xs.take k).map (λx=>bytA (x.1.s,x.2))++(xs.drop k).map (λx=>bytA (x.1.s,x.2))):=by rw[<-List.map_append,List.take_append_drop]
 rw[e]at h;have h:=h.big;rw[List.append_assoc]at h;exact h.dropL.mkbig
abbrev ringO(r dp:Nat)(st n h:Int)(s:Sl)(xs:List Rc):List HA:=[BoxA r (ringC dp st n h s),SlA 5 s (rcs xs),bts xs]
theorem V114{r dp:Nat}{st n h q:Int}{s:Sl}{xs:List Rc}{w:World}{F:Nat->Prop}(hh:Has (ringO r dp st n h s xs) w F)(hs:xs.length<=1000000)(hr:0<=h/\h<=2305843009213693952):
 Calls Tryz.prog 114 #[RP r,iv q] w (RetT [.c (.int .i64)] λx w'=>∃t,(h<=q/\q<=h+xs.length/\x=0/\St F w w' (ringO r dp st n q t (xs.drop (q-h).toNat)))\/¬(h<=q/\q<=h+xs.length)/\x=1/\St F w w' (ringO r dp st n h s xs)):=by
 refine F114_calls _ _ _ _ ?_;unfold F114;have s0:St F w w (ringO r dp st n h s xs):=St.init hh;refine callF_of (V107 s0.box) ?_;rintro _ _ ⟨rfl,rfl⟩;refine br_f rfl ?_;have rl:=(s0.sel [1,2] 3).rl;have hl:=rl.len;refine jn_of (λb W=>b=decide (¬(h<=q/\q<=h+xs.length))/\Grow w W) ?_ ?_
 ·simp only[deref_some']
  refine s0.box.ld (i:=3) (s:=.int .i64) (p:=h) rfl ?_;refine br_of (λa=>⟨by simp at a;exact dec_true (by omega),Mod.refl _ w⟩) λa=>?_;simp only[decide_eq_false_iff_not]at a;refine callF_of (V57 s0.box hr (by omega)) ?_;rintro _ W ⟨rfl,g⟩;exact⟨decide_eq_decide.2 (by omega),g⟩
 rintro _ W ⟨rfl,g⟩;have s1:=s0.grow g;refine br_of (λa=>?_) λa=>?_
 ·exact⟨s,.inr ⟨of_decide_eq_true a,rfl,s1⟩⟩
 have a:h<=q/\q<=h+xs.length:=by simpa using a
 have s2:=s1.drew;rw[drw_def];simp only[deref_some'];refine s2.box.ld (i:=4) (s:=.slice) (p:=s) rfl ?_;refine s2.box.ld (i:=3) (s:=.int .i64) (p:=h) rfl ?_;obtain⟨k,hk⟩:∃k:Nat,q-h=k:=⟨(q-h).toNat,by omega⟩;rw[w64_of (n:=q-h) ⟨by omega,by omega⟩,hk,Int.toNat_natCast];have hle:=(s2.sel [1,0,2] 3).sl.le;refine slc_sub5 (by omega) ?_;have rl2:=(s2.sel [1,2] 3).rl.from hle (o:=k) (by omega);refine callF_of (C56 (sub5 s k) (xs.drop k) _ rl2 (by show s.len-k<=1000000;omega)) ?_;rintro t W2 ⟨ht,g2⟩;have s3:=s2.mksl g2 ht;have s4:=bts_drop k (s3.sel [3,0,1] 4);have s4:St F w W2 [bts (xs.drop k),SlA 5 t (rcs (xs.drop k)),BoxA r (ringC dp st n h s)]:=s4;refine s4.S 2 rfl (by simp) (by simp) λw5 s5=>?_;refine s5.S 2 rfl (by simp[setA]) trivial λw6 s6=>?_;have s7:=s6.sel [2,1,0] 3;have e:h+k=q:=by omega
 exact⟨t,.inl ⟨a.1,a.2,trivial,s7⟩⟩
structure RdL(w:World)(F:Nat->Prop)(s:Sl)(xs:List Rc):Prop where
 rl:RL w s xs
 no:∀b,xs≠[]->s.blk b->¬F b
 no2:∀x∈xs,∀b,x.2≠[]->x.1.s.blk b->¬F b
theorem RdL.at{w0 w:World}{F0:Nat->Prop}{s:Sl}{xs:List Rc}{L:List HA}(h:RdL w0 F0 s xs)(hs:St F0 w0 w L):RL w s xs:=
 ⟨⟨h.rl.1.len,h.rl.1.row.mod hs.1 λad ha hne hF=>h.no _ (λhx=>hne (by simp[hx])) ⟨ad,ha,rfl⟩ hF⟩,λx hx=>(h.rl.2 x hx).mod hs.1 λad ha hl hF=>h.no2 x hx _ hl ⟨ad,ha,rfl⟩ hF⟩
theorem RdL.from{w:World}{F:Nat->Prop}{s:Sl}{xs:List Rc}(h:RdL w F s xs)(hle:s.len<=s.cap){o:Nat}(ho:o<=xs.length):RdL w F (sub5 s o) (xs.drop o):=
 ⟨h.rl.from hle ho,λb hx hb=>h.no b (λh0=>hx (by simp[h0])) (sub5_blk hb),λx hx=>h.no2 x (List.mem_of_mem_drop hx)⟩
theorem RdL.own{w:World}{F H:Nat->Prop}{s:Sl}{xs:List Rc}{L:List HA}(h:Has (SlA 5 s (rcs xs)::bts xs::L) w H)(hd:∀b,F b->¬H b):RdL w F s xs:=by
 have s0:=St.init h;refine⟨s0.rl,λb _ hb hF=>?_,λx hx b _ hb hF=>?_⟩
 ·obtain⟨G,H',⟨_,h2⟩,_,_,h5⟩:=h
  exact hd b hF ((h5 b).2 (.inl ((h2 b).2 hb)))
 ·obtain⟨i,hi,rfl⟩:=List.getElem_of_mem hx
  have s1:=s0.drop.pick (i:=i) (A:=bytA (xs[i].1.s,xs[i].2)) (by simp[hi]);obtain⟨G,H',h1,_,_,_,h4,_⟩:=St.call1 s1;rcases h4 b ((h1.2 b).2 hb)with h6|h6
  ·exact hd b hF h6
  ·have:=OwnS.blk_lt h1.1 hb
   omega
theorem two_big{F0:Nat->Prop}{w0 w:World}{L A B:List HA}(h:St F0 w0 w (bigA A::bigA B::L)):St F0 w0 w (bigA (A++B)::L):=by
 have h1:=h.big;have h2:St F0 w0 w (bigA B::(A++L)):=h1.perm List.perm_middle;refine St.mkbig (h2.big.perm ?_);rw[List.append_assoc];exact List.perm_append_comm_assoc ..
def appD(n st:Int):Nat->DM->Int->List Rv->Int×DM
 |0,D,_,_=>(0,D)
 |f+1,D,q,ys=>if ys=[]then(0,D)else
  if(layD D n (placeB st n q) q (ys.take (imin ys.length (4-placeO n q/64)).toNat)).1≠0 then layD D n (placeB st n q) q (ys.take (imin ys.length (4-placeO n q/64)).toNat)
  else appD n st f (layD D n (placeB st n q) q (ys.take (imin ys.length (4-placeO n q/64)).toNat)).2 (q+(imin ys.length (4-placeO n q/64)).toNat) (ys.drop (imin ys.length (4-placeO n q/64)).toNat)
def appX(D:DM)(st n h:Int)(R ys:List Rv):Int×DM:=
 if ys.all okV=false then(60,D)else if(ys.length:Int)>4*n-R.length then(70,D)else if(ys.length:Int)>1152921504606846976-(h+R.length)then(3,D)else appD n st ys.length D (h+R.length) ys
theorem appD_succ{n st:Int}{f m:Nat}{D:DM}{q:Int}{ys:List Rv}(h:ys≠[])(hm:imin ys.length (4-placeO n q/64)=(m:Int)):
 appD n st (f+1) D q ys=if(layD D n (placeB st n q) q (ys.take m)).1≠0 then layD D n (placeB st n q) q (ys.take m)else appD n st f (layD D n (placeB st n q) q (ys.take m)).2 (q+m) (ys.drop m):=by
 rw[appD,if_neg h,hm,Int.toNat_natCast]
theorem layD_db{D:DM}{N:Nat}(hd:DB N D){n blk q:Int}{xs:List Rv}:DB (N+2) (layD D n blk q xs).2:=by
 unfold layD;split
 ·exact hd.le (by omega)
 ·split
  ·exact hd.le (by omega)
  ·have h:=writeD_ok hd.ok hd.bd blk (layR n q (rdD D blk) xs).2
   exact⟨h.1,h.2.1⟩
theorem V115{r dp:Nat}{D:DM}{st n h:Int}{s p:Sl}{xs ys:List Rc}{N:Nat}{w:World}{F:Nat->Prop}(hh:Has (ringO r dp st n h s xs++[DiskA dp D]) w F)
 (hd:DB N D)(hN:N+2*ys.length<=10000000)(hn:1<=n/\n<=256)(hst:0<=st/\st<=2048)(hq:0<=h/\h<=2305843009213693952)(hx:xs.length<=1000000)(hr:RdL w F p ys)(hle:p.len<=p.cap)(hp:p.len<=1000000):
 Calls Tryz.prog 115 #[RP r,slV p] w (RetT [.c (.int .i64)] λx w'=>∃t zs,x=(appX D st n h (xs.map rv) (ys.map rv)).1/\zs.map rv=(if x=0 then xs.map rv++ys.map rv else xs.map rv)/\
  St F w w' (ringO r dp st n h t zs++[DiskA dp (appX D st n h (xs.map rv) (ys.map rv)).2])):=by
 refine F115_calls _ _ _ _ ?_;unfold F115;have s0:St F w w [BoxA r (ringC dp st n h s),SlA 5 s (rcs xs),bts xs,DiskA dp D]:=St.init hh;refine callF_of (V107 s0.box) ?_;rintro _ _ ⟨rfl,rfl⟩;refine br_f rfl ?_;have rl:=(s0.sel [1,2] 4).rl;have hsl:=rl.len;have hpl:=hr.rl.len;have ok1:∀{y:Rc},y∈ys->okV (rv y)=checkB y.1.k y.1.b y.1.o y.1.m y.1.s.len:=λ{y} hy=>by
  rw[(hr.rl.2 y hy).len];rfl
 have out:∀{W} {e:Int} {D':DM},e≠0->appX D st n h (xs.map rv) (ys.map rv)=(e,D')->St F w W [BoxA r (ringC dp st n h s),SlA 5 s (rcs xs),bts xs,DiskA dp D']->
  ∃t zs,e=(appX D st n h (xs.map rv) (ys.map rv)).1/\zs.map rv=(if e=0 then xs.map rv++ys.map rv else xs.map rv)/\St F w W (ringO r dp st n h t zs++[DiskA dp (appX D st n h (xs.map rv) (ys.map rv)).2]):=λhe h1 h2=>⟨s,xs,by rw[h1],by rw[if_neg he],by rw[h1];exact h2⟩
 refine loop_of (λi W=>∃j:Nat,i=j/\j<=ys.length/\(∀y∈ys.take j,okV (rv y)=true)/\Grow w W) (λi _=>ys.length-i.toNat) ⟨0,rfl,by omega,by simp,Mod.refl _ w⟩ ?_;rintro _ W ⟨j,rfl,hj,hok,g⟩;refine br_of (λhlt=>?_) λhge=>?_
 ·have hlt:j<ys.length:=by simpa[hpl]using hlt
  have hy:ys[j]? =some ys[j]:=by simp[hlt]
  refine SS.eld Rw.cells_len (hr.rl.1.grow g) (r:=ys[j].1) (by rw[List.getElem?_map,hy];rfl) (by decide) (p:=ys[j].1.p) rfl ?_;refine St.nvs (St.init0 W) rfl (λv hv=>by simp at hv;rcases hv with rfl|rfl|rfl|rfl|rfl<;>trivial) λb W2 t3=>?_;refine t3.LA 0 rfl (p:=ys[j].1.p) rfl ?_;refine callF_of (C59 ys[j].1.k ys[j].1.b ys[j].1.o ys[j].1.m ys[j].1.s W2) ?_;rintro e W3 ⟨he,g3⟩;have g4:=(g.trans t3.gro).trans g3;rw[<-ok1 (List.getElem_mem hlt)]at he;refine br_of (λhne=>?_) λheq=>?_
  ·have hb:okV (rv ys[j])=false:=by
    cases hb:okV (rv ys[j])
    ·rfl
    ·rw[hb]at he;simp[he]at hne
   rw[hb]at he;refine out (by rw[he];decide) ?_ (s0.grow g4);unfold appX;rw[if_pos,he]
   ·rfl
   ·rw[List.all_eq_false]
    exact⟨_,List.mem_map.2 ⟨_,List.getElem_mem hlt,rfl⟩,by simp[hb]⟩
  ·rw[w64_succ (by omega)]
   refine⟨⟨j+1,rfl,hlt,?_,g4⟩,?_⟩
   ·intro y hy'
    rw[List.take_add_one,hy,List.mem_append]at hy';rcases hy' with h'|h'
    ·exact hok y h'
    ·simp at h'
     subst h';cases hb:okV (rv ys[j])
     ·rw[hb]at he;simp[he]at heq
     ·rfl
   ·show ys.length-(((j+1:Nat):Int)).toNat<ys.length-((j:Int)).toNat
    omega
 have hge:j=ys.length:=by simp[hpl]at hge;omega
 subst hge;rw[List.take_length]at hok;have hall:(ys.map rv).all okV=true:=by
  rw[List.all_eq_true];intro v hv;obtain⟨y,hy,rfl⟩:=List.mem_map.1 hv;exact hok y hy
 have s1:=s0.grow g;refine callF_of (V62 s1.box (by omega) (by omega)) ?_;rintro _ W2 ⟨rfl,g2⟩;have s2:=s1.grow g2;have eX:appX D st n h (xs.map rv) (ys.map rv)=if(ys.length:Int)>4*n-xs.length then(70,D)else if(ys.length:Int)>1152921504606846976-(h+xs.length)then(3,D)else appD n st ys.length D (h+xs.length) (ys.map rv):=by
  unfold appX;rw[if_neg (by simp[hall]),List.length_map,List.length_map]
 refine br_of (λa=>?_) λa=>?_
 ·have a:(ys.length:Int)>4*n-xs.length:=by simp[hpl,hsl]at a;omega
  exact out (by decide) (by rw[eX,if_pos a]) s2
 have a:¬(ys.length:Int)>4*n-xs.length:=by simp[hpl,hsl]at a;omega
 rw[if_neg a]at eX;refine callF_of (V57 s2.box hq (by omega)) ?_;rintro _ W3 ⟨rfl,g3⟩;have s3:=s2.grow g3;rw[w64_of (n:=1152921504606846976-(h+(s.len:Int))) ⟨by omega,by omega⟩];refine br_of (λb=>?_) λb=>?_
 ·have b:(ys.length:Int)>1152921504606846976-(h+xs.length):=by simp[hpl,hsl]at b;omega
  exact out (by decide) (by rw[eX,if_pos b]) s3
 have b:¬(ys.length:Int)>1152921504606846976-(h+xs.length):=by simp[hpl,hsl]at b;omega
 rw[if_neg b]at eX;refine callF_of (V57 s3.box hq (by omega)) ?_;rintro _ W4 ⟨rfl,g4⟩;have s4:=s3.grow g4;refine loop_of (λc W=>∃(k f:Nat) (Dk:DM),c.1=h+xs.length+k/\k<=ys.length/\RdL w F c.2 (ys.drop k)/\c.2.len<=c.2.cap/\DB (N+2*k) Dk/\ys.length-k<=f/\
  appD n st ys.length D (h+xs.length) (ys.map rv)=appD n st f Dk (h+xs.length+k) ((ys.drop k).map rv)/\St F w W [BoxA r (ringC dp st n h s),SlA 5 s (rcs xs),bts xs,DiskA dp Dk]) (λc _=>c.2.len)
  ⟨0,ys.length,D,by rw[hsl];simp,by omega,hr,hle,hd,by omega,by simp,s4⟩ ?_
 rintro⟨q,u⟩ W5 ⟨k,f,Dk,rfl,hk,hu,hul,hdk,hf,hX,s5⟩;dsimp only at hu hul⊢;have hulen:=hu.rl.len;rw[List.length_drop]at hulen;refine br_of (λc=>?_) λc=>?_
 ·have c:0<u.len:=by simp at c;omega
  obtain⟨f,rfl⟩:∃f',f=f'+1:=⟨f-1,by omega⟩;simp only[deref_some'];refine callF_of (V125 s5.box hn hst (by omega)) ?_;rintro _ _ ⟨rfl,rfl⟩;dsimp only;have hpo:=placeO_le n (h+xs.length+k);have hpb:=placeB_le (st:=st) (q:=h+xs.length+k) hn.1;have hYne:(ys.drop k).map rv≠[]:=by
   intro h0;have:=congrArg List.length h0;simp at this;omega
  have hYl:(((ys.drop k).map rv).length:Int)=(u.len:Int):=by simp;omega
  have hm1:=appD_succ (n:=n) (st:=st) (f:=f) (D:=Dk) (q:=h+xs.length+k) hYne (m:=(imin u.len (4-placeO n (h+xs.length+k)/64)).toNat) (by
   rw[hYl,Int.toNat_of_nonneg];unfold imin;split<;>omega)
  generalize placeO n (h+xs.length+k)=o at hpo hm1⊢;generalize placeB st n (h+xs.length+k)=blk at hpb hm1⊢;have e1:w64 (4-w64 (o.tdiv 64))=4-o/64:=by
   rw[Int.tdiv_eq_ediv_of_nonneg hpo.1,w64_of (n:=o/64) ⟨by omega,by omega⟩,w64_of ⟨by omega,by omega⟩]
  rw[e1];have hm2:1<=imin u.len (4-o/64)/\imin u.len (4-o/64)<=u.len:=by unfold imin;split<;>omega
  obtain⟨m,hm⟩:∃m:Nat,imin u.len (4-o/64)=m:=⟨_,(Int.toNat_of_nonneg (by omega)).symm⟩;rw[hm]at hm1 hm2⊢;rw[Int.toNat_natCast]at hm1;rw[hm1]at hX;refine⟨by decide,?_⟩;refine slc_rl (hu.at s5) hul (by omega) hm2.2 λrlm=>?_;rw[Int.toNat_natCast]at rlm⊢;have s6:=s5.sel [0,3,1,2] 4;obtain⟨G,H,g2,_,_,_,gc⟩:=St.call [BoxA r (ringC dp st n h s),DiskA dp Dk] s6;refine callF_of (V168 (N:=N+2*k) (blk:=blk) (q:=h+xs.length+k) g2 hdk (by omega) hn hst (by omega) rlm (by show m<=1000000;omega)) ?_;rw[List.map_take];rintro e W6 ⟨he,s7⟩;have s8:=(gc _ _ s7).sel [0,2,3,1] 4;refine br_of (λhne=>?_) λheq=>?_
  ·have hne:e≠0:=by simpa using hne
   rw[he]at hne;rw[if_pos hne]at hX;rw[he];exact out hne (by rw[eX,hX]) s8
  ·have heq:e=0:=by simpa using heq
   rw[he]at heq;rw[if_neg (λhn0=>hn0 heq)]at hX;refine slc_sub5 (by omega) ?_;rw[w64_of (n:=h+xs.length+k+m) ⟨by omega,by omega⟩];refine⟨⟨k+m,f,_,by push_cast;omega,by omega,?_,by show u.len-m<=u.cap-m;omega,(layD_db hdk).le (by omega),by omega,?_,s8⟩,by show u.len-m<u.len;omega⟩
   ·have:=hu.from hul (o:=m) (by rw[List.length_drop];omega)
    rwa[List.drop_drop]at this
   ·rw[hX,<-List.map_drop,List.drop_drop]
    congr 1;push_cast;omega
 ·have c:u.len=0:=by simp at c;omega
  have hk:k=ys.length:=by omega
  subst hk;rw[List.drop_length,List.map_nil]at hX;have hX:appX D st n h (xs.map rv) (ys.map rv)=(0,Dk):=by
   rw[eX,hX];cases f<;>simp[appD]
  rw[drw_def];have s6:=s5.drew;have hb:∀y∈ys,y.1.s.len<=100000000000000:=by
   intro y hy;have h1:=hok y hy;rw[ok1 hy]at h1;have:=(checkB_num h1).2.1;omega
  simp only[deref_some'];refine jn_of (λc W=>∃t zs,c=((some ⟨r,0,none⟩:Option Addr),s,t)/\zs.map rv=ys.map rv/\St F w W (SlA 5 t (rcs zs)::bts zs::[BoxA r (ringC dp st n h s),SlA 5 s (rcs xs),bts xs,DiskA dp Dk])) ⟨?_,?_⟩ ?_
  ·refine s6.box.ld (i:=4) (s:=.slice) (p:=s) rfl ?_
   refine callF_of (V127 p ys _ (hr.at s6) hp hb) ?_;rintro t W6 ⟨zs,hz,s7⟩;exact⟨t,zs,rfl,hz,s6.call0 s7⟩
  ·refine callF_of (V127 p ys _ (hr.at s6) hp hb) ?_
   rintro t W6 ⟨zs,hz,s7⟩;have s8:=s6.call0 s7;refine(s8.bring 2).box.ld (i:=4) (s:=.slice) (p:=s) rfl ?_;exact⟨t,zs,rfl,hz,s8⟩
  rintro _ W6 ⟨t,zs,rfl,hz,s7⟩;have hzl:zs.length=ys.length:=by simpa using congrArg List.length hz
  have tl:=s7.sl.len;have tr:=s7.sl.reads;have tn:t.a=none->t.len=0:=λha=>by
   have:=s7.ss.none_len Rw.cells_len (by decide) ha;exact this
  rw[rcs_len]at tl;dsimp only;refine St.app (s7.sel [3,0,1,2,4,5] 6) (new:=rcs zs) (λ_=>by rw[rcs_len];exact tl) tn tr (rcs_na zs) rfl (by decide) (by omega) λr2 W7 s8 _=>?_;rw[<-rcs_append]at s8;have s9:=two_big (s8.sel [4,2,0,3,5] 6);rw[<-List.map_append]at s9;have s9:St F w W7 [bts (xs++zs),SlA 5 r2 (rcs (xs++zs)),BoxA r (ringC dp st n h s),DiskA dp Dk]:=s9;rw[deref_some'];refine s9.S 2 rfl (by simp) (by simp) λW8 s10=>?_;rw[hX];exact⟨r2,xs++zs,rfl,by simp[hz],s10.sel [2,1,0,3] 4⟩
theorem slc_bsc{w:World}{s:Sl}{l:List UInt8}{i e:Int}{k:Sl->Pr}(h:BS w s l)(hle:s.len<=s.cap)(h0:0<=i)(h1:i<=e)(h2:e<=(s.len:Int))(hk:∀r,BS w r ((l.take e.toNat).drop i.toNat)->r.len<=r.cap->k r w):slc 1 s (some i) (some e) none k w:=by
 obtain⟨a1,a2,a3,a4,b⟩:=slc_bs (k:=λr W=>BS w r ((l.take e.toNat).drop i.toNat)/\r.len=e.toNat-i.toNat) h hle h0 h1 h2 λr hb hl=>⟨hb,hl⟩;exact⟨a1,a2,a3,a4,hk _ b.1 (by simp;omega)⟩
def slotR(D:DM)(st n q:Int):List UInt8:=((rdD D (placeB st n q)).take (placeO n q+64).toNat).drop (placeO n q).toNat
def scanR(D:DM)(st n:Int):Nat->Int->List Rv
 |0,_=>[]
 |f+1,q=>if(takeR (slotR D st n q) q).2≠0 then[]else(takeR (slotR D st n q) q).1::scanR D st n f (q+1)
def badO(D:DM)(st n h:Int):Prop:=n<1\/n>256\/st<0\/n>D.blocks.length\/st>D.blocks.length-n\/h<0\/h>1152921504606846976
instance(D:DM)(st n h:Int):Decidable (badO D st n h):=by unfold badO;exact inferInstance
def openR(D:DM)(st n h:Int):Int:=if badO D st n h then 1 else if D.off then 5 else 0
abbrev scanO(D:DM)(st n h:Int):List Rv:=scanR D st n (4*n).toNat h
theorem scanR_len{D:DM}{st n:Int}:∀(f:Nat) (q:Int),(scanR D st n f q).length<=f
 |0,_=>by simp[scanR]
 |f+1,q=>by
  unfold scanR;split
  ·simp
  ·have:=scanR_len (D:=D) (st:=st) (n:=n) f (q+1)
   simp;omega
theorem takeR_dat(B:List UInt8)(q:Int):(takeR B q).1.2.2.2.2.length<=255:=by
 have hb:=byteN_lt B 1;have h0:(recF B).2.2.2.2.length<=255:=by
  unfold recF;split
  ·dsimp only;rw[List.length_take];omega
  ·simp
 have h1:(parseR B).1.2.2.2.2.length<=255:=by
  unfold parseR;split
  ·exact h0
  ·simp
 unfold takeR;split
 ·simp
 ·split
  ·simp
  ·exact h1
theorem scanR_dat{D:DM}{st n:Int}:∀(f:Nat) (q:Int),∀v∈scanR D st n f q,v.2.2.2.2.length<=255
 |0,_=>by simp[scanR]
 |f+1,q=>by
  unfold scanR;split
  ·simp
  ·intro v hv
   rcases List.mem_cons.1 hv with h|h
   ·subst h;exact takeR_dat _ _
   ·exact scanR_dat f (q+1) v h
def OpenQ(D:DM)(dp:Nat)(st n h:Int)(w:World)(r:Option Addr×Sl×Int)(w':World):Prop:=
 (openR D st n h≠0/\r=(none,⟨none,0,0⟩,openR D st n h)/\Grow w w')\/
 (openR D st n h=0/\∃(b:Nat) (s t:Sl) (xs ys:List Rc),r=(some ⟨b,0,none⟩,t,0)/\xs.map rv=scanO D st n h/\ys.map rv=scanO D st n h/\St noF w w' (ringO b dp st n h s xs++[SlA 5 t (rcs ys),bts ys]))
theorem V72{dp:Nat}{D:DM}{st n h:Int}{N:Nat}{w:World}{F:Nat->Prop}(hh:Has [DiskA dp D] w F)(hd:DB N D)(hN:N<=10000000):
 Calls Tryz.prog 72 #[P0 dp,iv st,iv n,iv h] w (RetT [.c .ptr,.c .slice,.c (.int .i64)] (OpenQ D dp st n h w)):=by
 refine F72_calls _ _ _ _ _ _ ?_;unfold F72;have hbl:=hd.ok.pos;have hble:=hd.ok.le;have hwl:=hd.bd.wait;have lenC:∀{W:World} {k:Int->Pr},Grow w W->k D.blocks.length W->callF Tryz.prog 83 [P0 dp] [.c (.int .i64)] k W:=λg hk=>callF_of (C67 dp D _ F (hh.mod g λ_ _ h=>h)) λ_ _ ⟨e,e'⟩=>by subst e e';exact hk
 refine lenC (Mod.refl _ w) (br_f (beq_eq_false_iff_ne.2 (by omega)) ?_);refine jn_of (λb W=>b=decide (badO D st n h)/\W=w) ?_ ?_
 ·unfold badO
  refine br_of (λa=>⟨dec_true (.inl (by simpa using a)),rfl⟩) λa=>?_;refine br_of (λb=>⟨dec_true (.inr (.inl (by simpa using b))),rfl⟩) λb=>?_;refine br_of (λc=>⟨dec_true (.inr (.inr (.inl (by simpa using c)))),rfl⟩) λc=>?_;refine lenC (Mod.refl _ w) (br_of (λd=>⟨dec_true (.inr (.inr (.inr (.inl (by simpa using d))))),rfl⟩) λd=>?_);simp only[decide_eq_false_iff_not]at a b c d;refine lenC (Mod.refl _ w) ?_;rw[w64_of (n:=(D.blocks.length:Int)-n) ⟨by omega,by omega⟩];refine(br_of (λe=>⟨dec_true (.inr (.inr (.inr (.inr (.inl (of_decide_eq_true e)))))),rfl⟩) λe=>?_);refine br_of (λf=>⟨dec_true (.inr (.inr (.inr (.inr (.inr (.inl (of_decide_eq_true f))))))),rfl⟩) λf=>⟨?_,rfl⟩;simp only[decide_eq_false_iff_not]at e f;exact decide_eq_decide.2 (by omega)
 rintro _ w ⟨rfl,rfl⟩;unfold OpenQ openR;refine br_of (λa=>?_) λa=>?_
 ·rw[if_pos (of_decide_eq_true a)]
  exact .inl ⟨by decide,rfl,Mod.refl _ w⟩
 have a:=of_decide_eq_false a;rw[if_neg a];unfold badO at a;have hn:1<=n/\n<=256:=by omega
 have hst:0<=st/\st+n<=D.blocks.length:=by omega
 have hq:0<=h/\h<=1152921504606846976:=by omega
 refine St.nw (St.init0 w) λr w1 s1 _ _=>?_;have s1:St noF w w1 [BoxA r (ringC dp st n h ⟨none,0,0⟩)]:=s1;have s2:=((s1.nosl 5).nobig).sel [2,1,0] 3;have s2:St noF w w1 (ringO r dp st n h ⟨none,0,0⟩ []):=s2;refine jn_of (λ_ W=>D.off=false/\∃s xs,xs.map rv=scanO D st n h/\St noF w W (ringO r dp st n h s xs)) ?_ ?_
 ·refine callF_of (V111 s1.box ⟨by omega,by omega⟩) ?_
  rintro _ _ ⟨rfl,rfl⟩;refine loop_of (λc W=>∃(j:Nat) (s:Sl) (xs:List Rc) (l:List UInt8),c.2.2=j/\xs.length=j/\(j:Int)<=4*n/\(c.2.1= -1\/D.off=false/\0<=c.2.1/\c.2.1<D.blocks.length/\l=rdD D c.2.1)/\
   xs.map rv++scanR D st n ((4*n).toNat-j) (h+j)=scanO D st n h/\((4*n).toNat=j->D.off=false)/\St noF w W (SlA 1 c.1 (l.map ub)::ringO r dp st n h s xs)) (λc _=>(4*n).toNat-c.2.2.toNat)
   ⟨0,⟨none,0,0⟩,[],[],rfl,rfl,by omega,.inl rfl,by simp[scanO],by omega,s2.nosl 1⟩ ?_
  rintro⟨u,cur,i⟩ W ⟨j,s,xs,l,rfl,hxl,hj,hcur,hX,hoff,s3⟩;dsimp only at hcur s3⊢;refine br_of (λhlt=>?_) λhge=>?_
  ·have hlt:(j:Int)<4*n:=by simpa using hlt
   have hf:(4*n).toNat-j=((4*n).toNat-(j+1))+1:=by omega
   rw[hf,scanR]at hX;have s4:=(s3.drew).bring 1;rw[drw_def];have hs:=(s4.bring 2).sl.len;rw[rcs_len]at hs;have hsj:s.len=j:=by omega
   refine callF_of (V57 s4.box (by omega) (by omega)) ?_;rintro _ W2 ⟨rfl,g2⟩;have s5:=s4.grow g2;rw[show h+(s.len:Int)=h+j by omega];refine callF_of (V125 s5.box hn (by omega) (by omega)) ?_;rintro _ _ ⟨rfl,rfl⟩;have hpo:=placeO_le n (h+j);have hpb:=placeB_le (st:=st) (q:=h+j) hn.1;have hslot:slotR D st n (h+j)=((rdD D (placeB st n (h+j))).take (placeO n (h+j)+64).toNat).drop (placeO n (h+j)).toNat:=rfl;dsimp only;generalize placeO n (h+j)=o at hpo hslot⊢;generalize placeB st n (h+j)=blk at hpb hslot⊢;have s5:St noF w W2 [BoxA r (ringC dp st n h s),SlA 1 u (l.map ub),SlA 5 s (rcs xs),bts xs]:=s5;refine jn_of (λc W=>∃v,c=(v,blk)/\D.off=false/\St noF w W [BoxA r (ringC dp st n h s),SlA 1 v ((rdD D blk).map ub),SlA 5 s (rcs xs),bts xs]) ?_ ?_
   ·refine br_of (λhne=>?_) λheq=>?_
    ·refine callF_of (C35 dp D blk W2 F (hh.mod s5.gro λ_ _ h=>h) hd.ok (by omega)) ?_
     rintro⟨v,e⟩ W3 ⟨he,t1⟩;dsimp only at he t1;subst he;have hpe:placeE D blk=if D.off then 5 else 0:=by
      unfold placeE;rw[if_neg (show¬(blk<0\/blk>=D.blocks.length) by omega)]
     cases ho:D.off
     ·rw[ho]at hpe
      have hpe:placeE D blk=0:=hpe;rw[if_pos hpe]at t1;refine br_f (by simp[hpe]) ⟨v,rfl,rfl,?_⟩;exact(s5.call0 t1).sel [1,0,3,4] 5
     ·rw[ho]at hpe
      have hpe:placeE D blk=5:=hpe;refine br_t (by simp[hpe]) ?_;refine .inl ⟨by simp,?_,(s5.call0 t1).gro⟩;rw[hpe];rfl
    ·have heq:blk=cur:=by simpa using heq
     rcases hcur with h1|⟨h1,_,_,h2⟩
     ·omega
     ·subst heq
      subst h2;exact⟨u,rfl,h1,s5⟩
   rintro _ W3 ⟨v,rfl,ho,s6⟩;have hrl:=rdD_len hd.ok (i:=blk) (by omega) (by omega);generalize hB:slotR D st n (h+j)=B at hslot hX;have hBl:B.length<=1000000:=by rw[hslot,List.length_drop,List.length_take];omega
   generalize hP:takeR B (h+j)=P at hX;rw[w64_of (n:=o+64) ⟨by omega,by omega⟩];refine jn_of (λc W=>∃b sd,c=((some ⟨b,0,none⟩:Option Addr),P.2)/\St noF w W [BoxA b (rcl (recT P.1 sd)),SlA 1 sd (P.1.2.2.2.2.map ub),BoxA r (ringC dp st n h s),SlA 1 v ((rdD D blk).map ub),SlA 5 s (rcs xs),bts xs]) ?_ ?_
   ·rw[drw_def]
    have s7:=s6.drew;have hvl:=slA_len1 (s7.bring 1).sl;rw[List.length_map]at hvl;refine slc_bsc (s:=v) (s7.bring 1).sl.bs (s7.bring 1).sl.le (by omega) (by omega) (by omega) λp hp hpc=>?_;rw[<-hslot]at hp;have hb5:=s7.box;have hsl5:s.len<=1000000:=by omega
    generalize W3.drew=W5 at s7 hp hb5;refine jn_of (λc W=>∃b sd,c=((some ⟨b,0,none⟩:Option Addr),recT P.1 sd,P.2)/\St noF W5 W [BoxA b (rcl rT0),SlA 1 sd (P.1.2.2.2.2.map ub)]) ?_ ?_
    ·generalize hRR:(λ(c:Option Addr×(Int×Int×Int×Sl×Int)×Int) W=>∃b sd,c=((some ⟨b,0,none⟩:Option Addr),recT P.1 sd,P.2)/\St noF W5 W [BoxA b (rcl rT0),SlA 1 sd (P.1.2.2.2.2.map ub)])=RR
     have fin1:∀{b sd W},St noF W5 W [BoxA b (rcl rT0),SlA 1 sd (P.1.2.2.2.2.map ub)]->RR ((some ⟨b,0,none⟩:Option Addr),recT P.1 sd,P.2) W:=λ{b sd W} t=>by rw[<-hRR];exact⟨b,sd,rfl,t⟩
     have fin2:∀{b sd W},St noF W5 W [SlA 1 sd (P.1.2.2.2.2.map ub),BoxA b (rcl rT0)]->RR ((some ⟨b,0,none⟩:Option Addr),recT P.1 sd,P.2) W:=λt=>fin1 (t.sel [1,0] 2);clear hRR;have t0:=St.init0 W5;have c57:∀{W L} {k:Int->Pr},St noF W5 W L->(∀W',St noF W5 W' L->k (h+j) W')->callF Tryz.prog 57 [RP r] [.c (.int .i64)] k W:=λ{W L k} t hk=>by
      refine callF_of (V57 (hb5.grow t.gro) (by omega) hsl5) ?_;rintro x W' ⟨hx,g⟩;have:x=h+j:=by rw[hx,hsj]
      subst this;exact hk W' (t.grow g)
     have c126:∀{W L} {k:(Int×Int×Int×Sl×Int)×Int->Pr},St noF W5 W L->(∀sd W',St noF W5 W' (SlA 1 sd (P.1.2.2.2.2.map ub)::L)->k (recT P.1 sd,P.2) W')->callF Tryz.prog 126 [slV p,iv (h+j)] [.agg [.int .i64,.int .i64,.int .i64,.slice,.int .i64],.c (.int .i64)] k W:=λ{W L k} t hk=>by
      refine callF_of (V126 p (h+j) B W (hp.grow t.gro) hpc hBl) ?_;rw[hP];rintro x W' ⟨sd,hx,t2⟩;subst hx;exact hk sd W' (t.call0 t2)
     have cnw:∀{W L} {k:Nat->Pr},St noF W5 W L->(∀b W',St noF W5 W' (BoxA b (rcl rT0)::L)->k b W')->nw (.cells #[iv 0,iv 0,iv 0,.slice none 0 0,iv 0] 109) k W:=λt hk=>St.nw t λb W' t' _ _=>hk b W' t'
     repeat' first
      |with_reducible refine both_of ?_ ?_
      |with_reducible refine c57 (by assumption) λ_ _=>?_
      |with_reducible refine c126 (by assumption) λ_ _ _=>?_
      |with_reducible refine cnw (by assumption) λ_ _ _=>?_
      |exact fin1 (by assumption)
      |exact fin2 (by assumption)
    rintro _ W6 ⟨b,sd,rfl,t1⟩;have s8:=s7.call0 t1;have s8:St noF w W6 [BoxA b (rcl rT0),SlA 1 sd (P.1.2.2.2.2.map ub),BoxA r (ringC dp st n h s),SlA 1 v ((rdD D blk).map ub),SlA 5 s (rcs xs),bts xs]:=s8;rw[deref_some'];refine s8.S 0 rfl (by simp) trivial λ_ s9=>?_;refine s9.S 0 rfl (by simp[setA]) trivial λ_ s10=>?_;refine s10.S 0 rfl (by simp[setA]) trivial λ_ s11=>?_;refine s11.S 0 rfl (by simp[setA]) (by simp) λ_ s12=>?_;refine s12.S 0 rfl (by simp[setA]) trivial λ_ s13=>?_;exact⟨b,sd,rfl,s13⟩
   rintro _ W4 ⟨b,sd,rfl,s7⟩;refine br_of (λhne=>?_) λheq=>?_
   ·rw[if_pos (by simpa using hne),List.append_nil]at hX
    exact⟨ho,s,xs,hX,s7.sel [2,4,5] 6⟩
   ·have heq:P.2=0:=by simpa using heq
    rw[if_neg (λh=>h heq)]at hX;rw[drw_def];have s8:=s7.drew;refine(s8.bring 2).box.ld (i:=4) (s:=.slice) (p:=s) rfl ?_;rw[deref_some'];refine s8.LA 0 rfl (p:=recT P.1 sd) rfl ?_;refine St.nw s8 λr4 W5 s9 _ _=>?_;have s9:St noF w W5 [BoxA r4 (rcl (recT P.1 sd)),BoxA b (rcl (recT P.1 sd)),SlA 1 sd (P.1.2.2.2.2.map ub),BoxA r (ringC dp st n h s),SlA 1 v ((rdD D blk).map ub),SlA 5 s (rcs xs),bts xs]:=s9;refine(s9.sel [5,0,2,3,4,6] 7).app (new:=rcl (recT P.1 sd)) (λ_=>rfl) (λh=>by cases h) (readsAt_row.2 s9.box.row) (na_r _) rfl (by decide) (by dsimp only;omega) λr2 W6 s10 _=>?_;refine s10.S 3 rfl (by simp) (by simp) λW7 s11=>?_;have e1:rcs xs++rcl (recT P.1 sd)=rcs (xs++[(⟨P.1.1,P.1.2.1,P.1.2.2.1,sd,P.1.2.2.2.1⟩,P.1.2.2.2.2)]):=by rw[rcs_append,rcs_one];rfl
    have e2:∀y:Rc,bts (xs++[y])=bigA (xs.map (λx=>bytA (x.1.s,x.2))++[bytA (y.1.s,y.2)]):=λy=>by simp[bts]
    have s12:=(s11.sel [2,5,0,3,4] 6).push;rw[w64_succ (by omega)];refine⟨⟨j+1,r2,xs++[(⟨P.1.1,P.1.2.1,P.1.2.2.1,sd,P.1.2.2.2.1⟩,P.1.2.2.2.2)],rdD D blk,rfl,by simp[hxl],by omega,.inr ⟨ho,by omega,by omega,rfl⟩,?_,λ_=>ho,?_⟩,?_⟩
    ·rw[List.map_append,List.append_assoc]
     rw[show h+((j+1:Nat):Int)=h+j+1 by push_cast;omega];exact hX
    ·have s13:St noF w W7 [SlA 1 v ((rdD D blk).map ub),BoxA r (ringC dp st n h r2),SlA 5 r2 (rcs xs++rcl (recT P.1 sd)),bigA (xs.map (λx=>bytA (x.1.s,x.2))++[bytA (sd,P.1.2.2.2.2)])]:=s12.sel [3,2,1,0] 4
     rw[e1,<-e2 (⟨P.1.1,P.1.2.1,P.1.2.2.1,sd,P.1.2.2.2.1⟩,P.1.2.2.2.2)]at s13;exact s13
    ·show(4*n).toNat-(((j+1:Nat):Int)).toNat<(4*n).toNat-((j:Int)).toNat
     omega
  ·have hge:(j:Int)=4*n:=by simp at hge;omega
   rw[show(4*n).toNat-j=0 by omega,scanR,List.append_nil]at hX;exact⟨hoff (by omega),s,xs,hX,s3.drop⟩
 rintro⟨⟩ W ⟨hoff,s,xs,hx,s3⟩;rw[hoff];have hxl:=congrArg List.length hx;rw[List.length_map]at hxl;have hsc:(scanO D st n h).length<=(4*n).toNat:=scanR_len _ _;refine s3.box.ld (i:=4) (s:=.slice) (p:=s) rfl ?_;have rl:=(s3.sel [1,2] 3).rl;have hsl:=rl.len;refine callF_of (V127 s xs W rl (by omega) ?_) ?_
 ·intro x hx'
  have h1:=(rl.2 x hx').len;have h2:=scanR_dat (4*n).toNat h (rv x) (hx▸List.mem_map.2 ⟨x,hx',rfl⟩);have h2:x.2.length<=255:=h2;omega
 rintro t W2 ⟨ys,hy,s4⟩;refine .inr ⟨rfl,r,s,t,xs,ys,rfl,hx,hy.trans hx,?_⟩;exact(s3.call0 s4).sel [2,3,4,0,1] 5
def fldS(l:List UInt8)(i:Nat):Int:=(leN ((l.drop (8+4*i)).take 4):Nat)
def fieldS(l:List UInt8):Sup:=(w64 (leN (l.take 8):Nat),fldS l 0,fldS l 1,fldS l 2,fldS l 3,w64 (leN ((l.drop 24).take 8):Nat))
def parseS(b:List UInt8):Sup×Int:=if b.length=256/\supE (fieldS (b.drop 8))=0/\bytesS (fieldS (b.drop 8))=b then(fieldS (b.drop 8),0)else(Sup0,50)
theorem fldS_lt(l:List UInt8)(i:Nat):0<=fldS l i/\fldS l i<4294967296:=by
 unfold fldS;have h:=leN_lt ((l.drop (8+4*i)).take 4);have h2:((l.drop (8+4*i)).take 4).length<=4:=by rw[List.length_take];omega
 have h3:2^(8*((l.drop (8+4*i)).take 4).length)<=2^32:=Nat.pow_le_pow_right (by decide) (by omega);omega
def fjS(E:Int)(f:Nat->Int)(j:Nat):List Value:=[iv E,iv (if 0<j then f 0 else 0),iv (if 1<j then f 1 else 0),iv (if 2<j then f 2 else 0),iv (if 3<j then f 3 else 0),iv 0]
theorem V208(s:Sl)(l:List UInt8)(w:World)(h:BS w s l)(hl:s.len<=1000000):Calls Tryz.prog 208 #[slV s] w (RetT [.c .ptr] λr w'=>∃rd t,r=some ⟨rd,0,none⟩/\St noF w w' (rdA rd t l 0)):=by
 refine F208_calls _ _ _ ?_;unfold F208;refine callF_of (C15 s l w h (by omega)) ?_;rintro t w1 ⟨h1,_,h3⟩;exact St.nw ((St.init0 w).mksl h3 h1) λr w2 s2 _ _=>⟨r,t,rfl,s2⟩
theorem V175(b:Sl)(B:List UInt8)(w:World)(hs:BS w b B)(hc:b.len<=b.cap)(hB:B.length<=1000000):
 Calls Tryz.prog 175 #[slV b] w (RetT [.agg [.int .i64,.int .i64,.int .i64,.int .i64,.int .i64,.int .i64],.c (.int .i64)] λr w'=>r=parseS B/\Grow w w'):=by
 refine F175_calls _ _ _ ?_;unfold F175 parseS;have hbl:=hs.len;refine St.nw (St.init0 w) λr w1 s1 _ _=>?_;refine br_of (λh=>?_) λh=>?_
 ·have h:B.length≠256:=by simp at h;omega
  refine s1.SB 0 rfl rfl (na_p Sup0) λw2 s2=>St.LA 0 s2 rfl (p:=Sup0) rfl ⟨?_,s2.gro⟩;rw[if_neg λh'=>h h'.1]
 have hl256:B.length=256:=by simp at h;omega
 refine slc_from (o:=8) (hs.grow s1.gro) hc (by omega) λu hu hul _ _ _=>?_;generalize hl:B.drop 8=l at hu⊢;have hll:l.length=248:=by rw[<-hl,List.length_drop];omega
 refine callF_of (V208 u l w1 hu (by omega)) ?_;rintro _ w2 ⟨rd,t,rfl,k2⟩;have s2:St noF w w2 [BoxA rd (rdC t 0),SlA 1 t (l.map ub),BoxA r (pcells Sup0)]:=s1.call0 k2;refine St.nw s2 λr1 w3 s3 _ _=>?_;have s3:St noF w w3 [BoxA r1 (pcells Sup0),BoxA rd (rdC t 0),SlA 1 t (l.map ub),BoxA r (pcells Sup0)]:=s3;have num:∀{W L} (p n:Nat) (k:Int->Pr),1<=n->n<=8->p+n<=248->St noF w W ([BoxA rd (rdC t p),SlA 1 t (l.map ub)]++L)->
  (∀W',St noF w W' ([BoxA rd (rdC t (p+n)),SlA 1 t (l.map ub)]++L)->k ((leN ((l.drop p).take n):Nat):Int) W')->
  callV Tryz.prog (.func (.func 209) #[.pointer (some ⟨rd,0,none⟩)] #[]) [iv n] [.c (.int .u64)] k W:=by
  intro W L p n k h1 h8 hp st hk;obtain⟨F,H,h2,_,_,_,h5⟩:=St.call (rdA rd t l p) st;refine callV_m rfl (by kernel_rfl) (V209 rd t l p n W F h2 h1 h8 (by omega) (by omega)) ?_;rintro _ W' ⟨rfl,k3⟩;exact hk W' (h5 _ _ k3)
 refine num 0 8 _ (by decide) (by decide) (by decide) (s3.sel [1,2,0,3] 4) λw4 s4=>?_;have s4:St noF w w4 [BoxA rd (rdC t 8),SlA 1 t (l.map ub),BoxA r1 (pcells Sup0),BoxA r (pcells Sup0)]:=s4;rw[List.drop_zero];refine s4.S 2 rfl (by simp) trivial λw5 s5=>?_;generalize hE:w64 (leN (l.take 8):Nat)=E at s5;refine St.nw s5 λr2 w6 s6 _ _=>?_;have s6:St noF w w6 [BoxA r2 ((List.range 4).map λi=>.pointer (some (bA r1 (i+1)))),BoxA rd (rdC t 8),SlA 1 t (l.map ub),BoxA r1 (fjS E (fldS l) 0),BoxA r (pcells Sup0)]:=s6;refine loop_of (λz W=>∃j:Nat,z=(j:Int)/\j<=4/\St noF w W [BoxA r2 ((List.range 4).map λi=>.pointer (some (bA r1 (i+1)))),BoxA rd (rdC t (8+4*j)),SlA 1 t (l.map ub),BoxA r1 (fjS E (fldS l) j),BoxA r (pcells Sup0)])
  (λz _=>4-z.toNat) ⟨0,rfl,by omega,s6⟩ ?_
 rintro _ W ⟨j,rfl,hj,sW⟩;refine br_of (λhlt=>?_) λhge=>?_
 ·simp only[decide_eq_true_eq]at hlt
  refine⟨⟨by omega,by omega⟩,?_⟩;rw[Int.toNat_natCast,Nat.mul_one];obtain⟨_,hb,_⟩:=sW.isAt 0 rfl;have hj4:j<4:=by omega
  rw[bA,add_zero'];refine hb.ld (i:=j) (s:=.ptr) (p:=some (bA r1 (j+1))) (by rw[List.getElem?_map,List.getElem?_range hj4];rfl) ?_;refine num (8+4*j) 4 _ (by decide) (by decide) (by omega) (sW.sel [1,2,0,3,4] 5) λW2 k2=>?_;have k2:St noF w W2 [BoxA rd (rdC t (8+4*j+4)),SlA 1 t (l.map ub),BoxA r2 ((List.range 4).map λi=>.pointer (some (bA r1 (i+1)))),BoxA r1 (fjS E (fldS l) j),BoxA r (pcells Sup0)]:=k2;rw[deref_some'];have hf:((leN ((l.drop (8+4*j)).take 4):Nat):Int)=fldS l j:=rfl;have hlt4:=fldS_lt l j;rw[hf,w64_of ⟨by omega,by omega⟩,w64_succ (by omega)];refine k2.S 3 rfl (by simp[fjS];omega) trivial λW3 k3=>⟨⟨j+1,rfl,by omega,?_⟩,by omega⟩;have e:(fjS E (fldS l) j).set (j+1) (iv (fldS l j))=fjS E (fldS l) (j+1):=by
   obtain rfl|rfl|rfl|rfl:j=0\/j=1\/j=2\/j=3:=by omega
   all_goals rfl
  rw[e]at k3;exact k3.sel [2,0,1,3,4] 5
 ·simp only[decide_eq_false_iff_not]at hge
  have:j=4:=by omega
  subst this;refine num 24 8 _ (by decide) (by decide) (by decide) (sW.sel [1,2,0,3,4] 5) λW2 k2=>?_;have k2:St noF w W2 [BoxA rd (rdC t 32),SlA 1 t (l.map ub),BoxA r2 ((List.range 4).map λi=>.pointer (some (bA r1 (i+1)))),BoxA r1 (fjS E (fldS l) 4),BoxA r (pcells Sup0)]:=k2;refine k2.S 3 rfl (by simp[fjS]) trivial λW3 k3=>?_;have hfs:((fjS E (fldS l) 4).set 5 (iv (w64 (leN ((l.drop 24).take 8):Nat))))=pcells (fieldS l):=by
   rw[<-hE];rfl
  rw[hfs]at k3;have k3:St noF w W3 [BoxA rd (rdC t 32),SlA 1 t (l.map ub),BoxA r2 ((List.range 4).map λi=>.pointer (some (bA r1 (i+1)))),BoxA r1 (pcells (fieldS l)),BoxA r (pcells Sup0)]:=k3;generalize fieldS l=S at k3⊢;refine k3.LA 3 rfl (p:=S) rfl ?_;refine callF_of (V133 S W3) ?_;rintro⟨x,e⟩ W4 ⟨he,hP⟩;dsimp only at he;subst he;refine jn_of (λb W=>b=decide (¬(supE S=0/\bytesS S=B))/\St noF w W [BoxA r1 (pcells S),BoxA r (pcells Sup0)]) ?_ ?_
  ·rcases hP with⟨h1,rfl,g4⟩|⟨h1,k4⟩
   ·exact br_t (by simpa using h1) ⟨dec_true λh'=>h1 h'.1,(k3.grow g4).sel [3,4] 5⟩
   ·have k5:=k3.call0 k4
    refine br_f (by simp[h1]) ?_;refine callF_of (C18 x b (bytesS S) B W4 k5.sl.bs (hs.grow k5.gro)) ?_;rintro _ _ ⟨rfl,rfl⟩;refine⟨?_,k5.sel [4,5] 6⟩;by_cases hbb:bytesS S=B<;>simp[hbb,h1]
  rintro _ W5 ⟨rfl,s5⟩;refine br_of (λh=>?_) λh=>?_
  ·simp only[decide_eq_true_eq]at h
   refine s5.SB 1 rfl rfl (na_p Sup0) λw6 s6=>St.LA 1 s6 rfl (p:=Sup0) rfl ⟨?_,s6.gro⟩;rw[if_neg λh'=>h ⟨h'.2.1,h'.2.2⟩]
  ·simp only[decide_eq_false_iff_not,Classical.not_not]at h
   refine s5.LA 0 rfl (p:=S) rfl ?_;refine s5.SB 1 rfl rfl (na_p S) λw6 s6=>St.LA 1 s6 rfl (p:=S) rfl ⟨?_,s6.gro⟩;rw[if_pos ⟨hl256,h.1,h.2⟩]
abbrev enumL{α:Type}(xs:List α):List (Int×α):=xs.zipIdx.map λx=>((x.2:Int),x.1)
theorem enumL_at{α:Type}{xs:List α}{j:Nat}{x:α}(h:xs[j]? =some x):(enumL xs)[j]? =some ((j:Int),x):=by
 simp[enumL,List.getElem?_map,List.getElem?_zipIdx,h]
theorem iter_all(b:Nat)(s:Sl)(xs:List Sl)(hl:xs.length<=1000000):IterL Tryz.prog (.func (.func 207) #[] #[P0 b]) [.c (.int .i64),.c .slice] (enumL xs) (λw=>Box w b [slV s]/\MS slV w s xs):=by
 refine⟨207,_,rfl,by kernel_rfl,?_⟩;intro y w I D hM hG h0 hr;refine F207_calls y _ _ _ ?_;unfold F207;rw[deref_some'];refine ldC_of (s:=.slice) (p:=s) (hM _ _ h0).1.cell0 ?_;have hsl:=(hM _ _ h0).2.len;refine loop_of (λz W=>∃j:Nat,z=(j:Int)/\j<=xs.length/\I j W) (λz _=>xs.length-z.toNat) ⟨0,rfl,by omega,h0⟩ ?_;rintro _ W ⟨j,rfl,hj,hI⟩;refine br_of (λhlt=>?_) λhge=>?_
 ·simp only[decide_eq_true_eq]at hlt
  have hjl:j<xs.length:=by omega
  refine(hM _ _ hI).2.eld (x:=xs[j]) (c:=.slice) (p:=xs[j]) (by simp[hjl]) rfl ?_;refine callV_mono (λc W' hc=>?_) (hr j ((j:Int),xs[j]) W (enumL_at (by simp[hjl])) hI);refine br_of (λhf=>?_) λhf=>?_
  ·simp only[Bool.not_eq_true']at hf
   subst hf;rw[if_neg (by simp)]at hc;exact .inr hc
  ·simp only[Bool.not_eq_false']at hf
   subst hf;rw[if_pos rfl]at hc;rw[w64_succ (by omega)];exact⟨⟨j+1,rfl,hjl,hc⟩,by omega⟩
 ·simp only[decide_eq_false_iff_not]at hge
  have:j=xs.length:=by omega
  subst this;exact .inl (by simpa[enumL]using hI)
def oneS(A:List UInt8)(i:Int):Prop:=(parseS A).2=0/\slotS (parseS A).1=i
instance(A:List UInt8)(i:Int):Decidable (oneS A i):=by unfold oneS;exact inferInstance
def chooseS(A B:List UInt8):Sup×Int:=
 if oneS A 0/\(¬oneS B 1\/(parseS A).1.1>(parseS B).1.1)then((parseS A).1,0)else if oneS B 1 then((parseS B).1,0)else(Sup0,50)
def bestS(C:List UInt8)(i:Int)(s:Sup):Sup:=if oneS C i/\(parseS C).1.1>s.1 then(parseS C).1 else s
theorem parseS_ok{A:List UInt8}(h:(parseS A).2=0):supE (parseS A).1=0/\A.length=256/\bytesS (parseS A).1=A:=by
 unfold parseS at h⊢;split at h
 ·rename_i h';rw[if_pos h'];exact⟨h'.2.1,h'.1,h'.2.2⟩
 ·cases h
theorem parseS_pos{A:List UInt8}(h:(parseS A).2=0):1<=(parseS A).1.1:=(supE_ok (parseS_ok h).1).2.1
theorem choose_best(A B:List UInt8):chooseS A B=(if(bestS B 1 (bestS A 0 Sup0)).1=0 then(Sup0,50)else(bestS B 1 (bestS A 0 Sup0),0)):=by
 unfold chooseS bestS;by_cases ha:oneS A 0<;>by_cases hb:oneS B 1
 ·have pa:=parseS_pos ha.1
  have pb:=parseS_pos hb.1;have hne:(parseS A).1.1≠(parseS B).1.1:=by
   intro he;have h1:=ha.2;have h2:=hb.2;unfold slotS at h1 h2;rw[if_neg (by omega)]at h1 h2;rw[he]at h1;omega
  rw[if_pos (⟨ha,by show _>0;omega⟩:oneS A 0/\(parseS A).1.1>Sup0.1)];by_cases hgt:(parseS A).1.1>(parseS B).1.1
  ·rw[if_pos ⟨ha,.inr hgt⟩,if_neg (c:=oneS B 1/\_) (by omega),if_neg (by omega)]
  ·rw[if_neg (by rintro⟨_,h|h⟩;exact h hb;exact hgt h),if_pos hb,if_pos (c:=oneS B 1/\_) ⟨hb,by omega⟩,if_neg (by omega)]
 ·have pa:=parseS_pos ha.1
  rw[if_pos (⟨ha,by show _>0;omega⟩:oneS A 0/\(parseS A).1.1>Sup0.1),if_pos ⟨ha,.inl hb⟩,if_neg (c:=oneS B 1/\_) (λh=>hb h.1),if_neg (by omega)]
 ·have pb:=parseS_pos hb.1
  rw[if_neg (c:=oneS A 0/\(¬_\/_)) (λh=>ha h.1),if_pos hb,if_neg (c:=oneS A 0/\_) (λh=>ha h.1),if_pos (⟨hb,by show _>0;omega⟩:oneS B 1/\(parseS B).1.1>Sup0.1),if_neg (by omega)]
 ·rw[if_neg (c:=oneS A 0/\(¬_\/_)) (λh=>ha h.1),if_neg hb,if_neg (c:=oneS A 0/\_) (λh=>ha h.1),if_neg (c:=oneS B 1/\_) (λh=>hb h.1),if_pos rfl]
theorem V174(s:Sl)(w:World):Calls Tryz.prog 174 #[slV s] w (RetT [.c .any] λr w'=>∃b,r=.func (.func 207) #[] #[P0 b]/\St noF w w' [BoxA b [slV s]]):=by
 refine F174_calls _ _ _ ?_;unfold F174;exact⟨trivial,St.nw (St.init0 w) λr w1 s1 _ _=>⟨r,rfl,s1⟩⟩
theorem bestS_zero{C:List UInt8}{i:Int}{s:Sup}(hs:s.1=0->s=Sup0)(h:(bestS C i s).1=0):bestS C i s=Sup0:=by
 unfold bestS at h⊢;split at h
 ·rename_i h'
  have:=parseS_pos h'.1.1;omega
 ·rename_i h'
  rw[if_neg h'];exact hs h
theorem bestS_eq(C:List UInt8)(i:Int)(s:Sup):bestS C i s=if((parseS C).2=0/\slotS (parseS C).1=i)/\(parseS C).1.1>s.1 then(parseS C).1 else s:=by
 unfold bestS oneS;by_cases h:((parseS C).2=0/\slotS (parseS C).1=i)/\(parseS C).1.1>s.1
 ·rw[if_pos h]
 ·rw[if_neg h]
def bestJ(A B:List UInt8):Nat->Sup
 |0=>Sup0
 |1=>bestS A 0 Sup0
 |_+2=>bestS B 1 (bestS A 0 Sup0)
theorem bestJ_0(A B:List UInt8):bestJ A B 0=Sup0:=rfl
theorem bestJ_1(A B:List UInt8):bestJ A B 1=bestS A 0 Sup0:=rfl
theorem bestJ_2(A B:List UInt8):bestJ A B 2=bestS B 1 (bestS A 0 Sup0):=rfl
theorem V122(p q:Sl)(A B:List UInt8)(w:World)(hp:BS w p A)(hq:BS w q B)(hpc:p.len<=p.cap)(hqc:q.len<=q.cap)(hA:A.length<=1000000)(hB:B.length<=1000000):
 Calls Tryz.prog 122 #[slV p,slV q] w (RetT [.agg [.int .i64,.int .i64,.int .i64,.int .i64,.int .i64,.int .i64],.c (.int .i64)] λr w'=>r=chooseS A B/\Grow w w'):=by
 refine F122_calls _ _ _ _ ?_;unfold F122;refine St.nw (St.init0 w) λr w1 s1 _ _=>St.nw s1 λr1 w2 s2 _ _=>St.nw s2 λr2 w3 s3 _ _=>?_;refine callF_of (V174 ⟨some ⟨r2,0,none⟩,2,2⟩ w3) ?_;rintro _ w4 ⟨b,rfl,k4⟩;have s4:St noF w w4 [BoxA b [slV ⟨some ⟨r2,0,none⟩,2,2⟩],BoxA r2 [slV p,slV q],BoxA r1 (pcells Sup0),BoxA r (pcells Sup0)]:=s3.call0 k4;refine rng_st (iter_all b ⟨some ⟨r2,0,none⟩,2,2⟩ [p,q] (by show 2<=1000000;omega)) (F0:=noF) (w0:=w)
  (λs:Sup=>[BoxA b [slV ⟨some ⟨r2,0,none⟩,2,2⟩],BoxA r2 [slV p,slV q],BoxA r1 (pcells s),BoxA r (pcells Sup0)]) (λj s=>s=bestJ A B j) (λ_:Unit=>[]) (λ_ _=>False) Sup0 rfl s4 ?_ ?_ ?_ ?_
 ·intro j s W T _ hs
  have hs:St noF w W (BoxA b [slV ⟨some ⟨r2,0,none⟩,2,2⟩]::BoxA r2 [slV p,slV q]::BoxA r1 (pcells s)::BoxA r (pcells Sup0)::T):=hs;exact⟨hs.box,rfl,readsAt_row.2 (hs.bring 1).box.row⟩
 ·intro l m Ro j x s W bg nx lv hx hj hs hbg hnx _
  refine hbg _ _ _ hs λW2 _ s5=>?_;have s5:St noF w W2 [BoxA b [slV ⟨some ⟨r2,0,none⟩,2,2⟩],BoxA r2 [slV p,slV q],BoxA r1 (pcells s),BoxA r (pcells Sup0),ObjA l (Ro .busy),ObjA m ddO]:=s5;obtain⟨C,u,hxu,hu,huc,hC,hb⟩:∃C u,x=((j:Int),u)/\BS W2 u C/\u.len<=u.cap/\C.length<=1000000/\bestJ A B (j+1)=bestS C j s:=by
   rcases j with _|_|j
   ·exact⟨A,p,by simpa[enumL]using hx.symm,hp.grow s5.gro,hpc,hA,by rw[hj,Nat.zero_add,bestJ_1,bestJ_0];exact congrArg (bestS A · Sup0) (Int.natCast_zero).symm⟩
   ·exact⟨B,q,by simpa[enumL]using hx.symm,hq.grow s5.gro,hqc,hB,by rw[hj,Nat.zero_add,bestJ_1,bestJ_2];exact congrArg (bestS B · _) (Int.natCast_one).symm⟩
   ·simp[enumL]at hx
  subst hxu;clear hx hj;refine callF_of (V175 u C W2 hu huc hC) ?_;rintro e W3 ⟨he,g3⟩;have hsl:=bestS_eq C j s;rw[<-he]at hsl;rw[hsl]at hb;clear he hsl;refine(s5.grow g3).nvs rfl (na_p e.1) λr3 W4 s6=>?_;refine jn_of (λd W=>d=decide ((e.2=0/\slotS e.1=(j:Int))/\e.1.1>s.1)/\
   St noF w W [BoxA r3 (pcells e.1),BoxA b [slV ⟨some ⟨r2,0,none⟩,2,2⟩],BoxA r2 [slV p,slV q],BoxA r1 (pcells s),BoxA r (pcells Sup0),ObjA l (Ro .busy),ObjA m ddO]) ?_ ?_
  ·refine br_of (λh=>?_) λh=>⟨?_,s6⟩
   rotate_left
   ·symm;rw[decide_eq_false_iff_not];intro h';simp[h'.1.1]at h
   have h:e.2=0:=by simpa using h
   refine s6.LA 0 rfl (p:=e.1) rfl ?_;refine callF_of (V134 e.1 W4) ?_;rintro i W5 ⟨hi,g5⟩;have s7:=s6.grow g5;refine br_of (λh2=>?_) λh2=>⟨?_,s7⟩
   rotate_left
   ·symm;rw[decide_eq_false_iff_not];intro h';rw[<-hi]at h';simp[h'.1.2]at h2
   have h2:i=(j:Int):=by simpa using h2
   refine s7.L 0 rfl (p:=e.1.1) rfl ?_;refine s7.L 3 rfl (p:=s.1) rfl ⟨?_,s7⟩;exact decide_eq_decide.2 ⟨λh'=>⟨⟨h,by rw[<-hi,h2]⟩,h'⟩,λh'=>h'.2⟩
  rintro d W5 ⟨hd,s7⟩;refine br_of (λh=>?_) λh=>?_
  ·rw[hd,decide_eq_true_eq]at h
   refine s7.LA 0 rfl (p:=e.1) rfl ?_;refine s7.SB 3 rfl rfl (na_p e.1) λW6 s8=>hnx e.1 W6 ?_ (St.drop s8);rw[hb,if_pos h]
  ·rw[hd,decide_eq_false_iff_not]at h
   refine hnx s W5 ?_ (St.drop s7);rw[hb,if_neg h]
 ·intro m s W hj hs
  have hs:St noF w W [BoxA b [slV ⟨some ⟨r2,0,none⟩,2,2⟩],BoxA r2 [slV p,slV q],BoxA r1 (pcells s),BoxA r (pcells Sup0),ObjA m ddO]:=hs;have hj:s=bestS B 1 (bestS A 0 Sup0):=hj;have hc:chooseS A B=if s.1=0 then(Sup0,50)else(s,0):=by rw[choose_best,hj]
  have hz:s.1=0->s=Sup0:=λh=>by
   rw[hj]at h⊢;exact bestS_zero (bestS_zero λ_=>rfl) h
  clear hj;rw[hc];have fin:∀W2 (L:PlanT),St noF w W2 [BoxA b [slV ⟨some ⟨r2,0,none⟩,2,2⟩],BoxA r2 [slV p,slV q],BoxA r1 (pcells s),BoxA r (pcells L),ObjA m ddO]->∀(k:PlanT->Pr),(∀W3,Grow w W3->k L W3)->
   takes [m] (ldA [.int .i64,.int .i64,.int .i64,.int .i64,.int .i64,.int .i64] (bA r 0) k) W2:=by
   intro W2 L st k hk;refine takesAt (V:=[BoxA b [slV ⟨some ⟨r2,0,none⟩,2,2⟩],BoxA r2 [slV p,slV q],BoxA r1 (pcells s),BoxA r (pcells L)]) (T:=[]) st λW3 s3=>?_;exact s3.LA 3 rfl (p:=L) rfl (hk W3 s3.gro)
  refine hs.LA 2 rfl (p:=s) rfl ?_;refine br_of (λh=>?_) λh=>?_
  ·have h0:s.1=0:=by simp only[Bool.and_eq_true,beq_iff_eq]at h;exact h.1
   rw[if_pos h0];have:=hz h0;subst this;refine hs.LA 2 rfl (p:=Sup0) rfl ?_;refine hs.SB 3 rfl rfl (na_p Sup0) λW2 s2=>fin W2 Sup0 s2 _ λW3 g=>⟨rfl,g⟩
  ·have h0:s.1≠0:=λh0=>by rw[hz h0]at h;cases h
   rw[if_neg h0];refine hs.LA 2 rfl (p:=s) rfl ?_;refine hs.SB 3 rfl rfl (na_p s) λW2 s2=>fin W2 s s2 _ λW3 g=>⟨rfl,g⟩
 ·intro m q t W h;exact h.elim
set_option maxRecDepth 100000
def an77:An:=(.sq .z (.sq .z (.sq (.sq .z (.br (.sq .z .z) .z)) (.sq (.sq .z (.sq .z (.br (.sq .z .z) .z))) (.sq .z .z)))))
def F77(p0:Option Addr)(p1_0:Int)(p1_1:Int)(p1_2:Int)(p1_3:Int)(p1_4:Int)(p1_5:Int)(Q:Int->Pr):Pr:=
 nw (.cells #[(iv p1_0),(iv p1_1),(iv p1_2),(iv p1_3),(iv p1_4),(iv p1_5)] 61) λr=>
 ldA [I64,I64,I64,I64,I64,I64] (bA r 0) λ(t9:Int×Int×Int×Int×Int×Int)=>
 callF Tryz.prog 133 [(.agg #[(iv t9.1),(iv t9.2.1),(iv t9.2.2.1),(iv t9.2.2.2.1),(iv t9.2.2.2.2.1),(iv t9.2.2.2.2.2)])] [.c .slice,.c I64] λ(t10:Sl×Int)=>
 br (t10.2 !=0) (
 Q t10.2) (
 ldA [I64,I64,I64,I64,I64,I64] (bA r 0) λ(t17:Int×Int×Int×Int×Int×Int)=>
 callF Tryz.prog 134 [(.agg #[(iv t17.1),(iv t17.2.1),(iv t17.2.2.1),(iv t17.2.2.2.1),(iv t17.2.2.2.2.1),(iv t17.2.2.2.2.2)])] [.c I64] λ(t18:Int)=>
 callF Tryz.prog 132 [(.pointer p0),(iv t18),(slV t10.1)] [.c I64] λ(t20:Int)=>
 br (t20 !=0) (
 Q t20) (
 callF Tryz.prog 112 [(.pointer p0)] [.c I64] λ(t25:Int)=>
 Q t25))
theorem F77_calls(p0:Option Addr)(p1_0:Int)(p1_1:Int)(p1_2:Int)(p1_3:Int)(p1_4:Int)(p1_5:Int)(Q:Int->Pr)(w:World)(h:F77 p0 p1_0 p1_1 p1_2 p1_3 p1_4 p1_5 Q w):Calls Tryz.prog 77 #[(.pointer p0),(.agg #[(iv p1_0),(iv p1_1),(iv p1_2),(iv p1_3),(iv p1_4),(iv p1_5)])] w (RetT [.c I64] Q):=cF (an:=an77) Tryz.func77 (by kernel_rfl) h
def an84:An:=(.sq .z (.sq (.sq .z (.bl (.lp [(7,.c (.int .i64))] (.sq (.sq .z (.br .z .z)) (.sq (.bl (.sq .z (.sq .z (.br (.sq .z .z) .z)))) .z))))) (.sq .z .z)))
def F84(p0:Option Addr)(p1:Int)(p2:Int)(Q:Int->Pr):Pr:=
 loopE (S:=Int) (λX s=>
 br (decide (s<p2)) (
 mkS 5 1 [(uv 0)] 256 256 λt17=>
 callF Tryz.prog 132 [(.pointer p0),(iv s),(slV t17)] [.c I64] λ(t18:Int)=>
 br (t18 !=0) (
 Q t18) (
 X ((w64 (s+1))))) (
 callF Tryz.prog 112 [(.pointer p0)] [.c I64] λ(t23:Int)=>
 Q t23)) p1
theorem F84_calls(p0:Option Addr)(p1:Int)(p2:Int)(Q:Int->Pr)(w:World)(h:F84 p0 p1 p2 Q w):Calls Tryz.prog 84 #[(.pointer p0),(iv p1),(iv p2)] w (RetT [.c I64] Q):=cF (an:=an84) Tryz.func84 (by kernel_rfl) h
def an69:An:=(.sq .z (.sq (.bl (.sq .z (.br (.sq .z .z) (.sq .z (.br (.sq .z .z) .z))))) (.sq .z .z)))
def F69(p0:Option Addr)(Q:Int->Pr):Pr:=
 callF Tryz.prog 83 [(.pointer p0)] [.c I64] λ(t5:Int)=>
 br (t5==0) (
 Q 2) (
 callF Tryz.prog 53 [(.pointer p0)] [.c .bool] λ(t9:Bool)=>
 br (!t9) (
 Q 5) (
 Q 0))
theorem F69_calls(p0:Option Addr)(Q:Int->Pr)(w:World)(h:F69 p0 Q w):Calls Tryz.prog 69 #[(.pointer p0)] w (RetT [.c I64] Q):=cF (an:=an69) Tryz.func69 (by kernel_rfl) h
def an37:An:=(.sq .z (.sq (.sq .z (.sq .z (.br (.sq .z .z) .z))) (.sq .z (.sq (.bl (.sq .z (.br (.sq .z .z) (.sq (.jn [(25,.c .bool)] .z) (.br (.sq .z .z) .z))))) (.sq (.sq .z (.sq .z (.br (.sq .z .z) .z))) (.sq (.sq .z (.sq .z (.br (.sq .z .z) .z))) (.sq .z (.sq (.sq .z (.br (.sq .z .z) .z)) (.sq .z .z)))))))))
def F37(p0:Option Addr)(p1_0:Int)(p1_1:Int)(p1_2:Int)(p1_3:Int)(Q:Int->Pr):Pr:=
 nw (.cells #[(iv p1_0),(iv p1_1),(iv p1_2),(iv p1_3)] 23) λr=>
 callF Tryz.prog 69 [(.pointer p0)] [.c I64] λ(t12:Int)=>
 br (t12 !=0) (
 Q t12) (
 ldA [I64,I64,I64,I64] (bA r 0) λ(t17:Int×Int×Int×Int)=>
 callF Tryz.prog 71 [(.agg #[(iv t17.1),(iv t17.2.1),(iv t17.2.2.1),(iv t17.2.2.2)])] [.agg [I64,I64,I64,I64,I64,I64],.c I64] λ(t18:(Int×Int×Int×Int×Int×Int)×Int)=>
 nvs 38 [(iv 0),(iv 0),(iv 0),(iv 0),(iv 0),(iv 0)] [(iv t18.1.1),(iv t18.1.2.1),(iv t18.1.2.2.1),(iv t18.1.2.2.2.1),(iv t18.1.2.2.2.2.1),(iv t18.1.2.2.2.2.2)] λr_1=>
 br (t18.2 !=0) (
 Q t18.2) (
 jn (S:=Bool) (λR=>
 drw<|
 both (
 callF Tryz.prog 83 [(.pointer p0)] [.c I64] λ(t27:Int)=>
 ldI (bA r 0) λt29=>
 R ((t27 !=t29))) (
 ldI (bA r 0) λt29_1=>
 callF Tryz.prog 83 [(.pointer p0)] [.c I64] λ(t27_1:Int)=>
 R ((t27_1 !=t29_1)))) λs=>
 br s (
 Q 1) (
 callF Tryz.prog 84 [(.pointer p0),(iv 0),(iv 2)] [.c I64] λ(t32:Int)=>
 br (t32 !=0) (
 Q t32) (
 ldI (bA r_1 4) λt38=>
 callF Tryz.prog 84 [(.pointer p0),(iv 2),(iv t38)] [.c I64] λ(t39:Int)=>
 br (t39 !=0) (
 Q t39) (
 ldA [I64,I64,I64,I64] (bA r 0) λ(t44:Int×Int×Int×Int)=>
 callF Tryz.prog 85 [(.agg #[(iv t44.1),(iv t44.2.1),(iv t44.2.2.1),(iv t44.2.2.2)])] [.agg [I64,I64,I64,I64,I64,I64],.c I64] λ(t45:(Int×Int×Int×Int×Int×Int)×Int)=>
 nvs 61 [(iv 0),(iv 0),(iv 0),(iv 0),(iv 0),(iv 0)] [(iv t45.1.1),(iv t45.1.2.1),(iv t45.1.2.2.1),(iv t45.1.2.2.2.1),(iv t45.1.2.2.2.2.1),(iv t45.1.2.2.2.2.2)] λr_2=>
 br (t45.2 !=0) (
 Q t45.2) (
 ldA [I64,I64,I64,I64,I64,I64] (bA r_2 0) λ(t52:Int×Int×Int×Int×Int×Int)=>
 callF Tryz.prog 77 [(.pointer p0),(.agg #[(iv t52.1),(iv t52.2.1),(iv t52.2.2.1),(iv t52.2.2.2.1),(iv t52.2.2.2.2.1),(iv t52.2.2.2.2.2)])] [.c I64] λ(t53:Int)=>
 Q t53))))))
theorem F37_calls(p0:Option Addr)(p1_0:Int)(p1_1:Int)(p1_2:Int)(p1_3:Int)(Q:Int->Pr)(w:World)(h:F37 p0 p1_0 p1_1 p1_2 p1_3 Q w):Calls Tryz.prog 37 #[(.pointer p0),(.agg #[(iv p1_0),(iv p1_1),(iv p1_2),(iv p1_3)])] w (RetT [.c I64] Q):=cF (an:=an37) Tryz.func37 (by kernel_rfl) h
def an70:An:=(.sq .z (.sq (.sq .z (.br (.sq .z .z) .z)) (.sq .z (.sq .z (.sq (.sq (.jn [(28,.c .bool)] .z) (.br (.sq .z .z) .z)) (.sq .z (.sq (.jn [(5,.c (.int .i64))] (.sq (.jn [(45,.c .bool)] .z) (.br .z .z))) (.sq .z .z))))))))
def F70(p0:Option Addr)(Q:(Int×Int×Int×Int×Int×Int)×Int->Pr):Pr:=
 nw (.cells #[(iv 0),(iv 0),(iv 0),(iv 0),(iv 0),(iv 0)] 61) λr=>
 callF Tryz.prog 83 [(.pointer p0)] [.c I64] λ(t10:Int)=>
 br (decide (t10<2)) (
 stB r 0 [(iv 0),(iv 0),(iv 0),(iv 0),(iv 0),(iv 0)]<|
 ldA [I64,I64,I64,I64,I64,I64] (bA r 0) λ(res:Int×Int×Int×Int×Int×Int)=>
 Q (res,50)) (
 callF Tryz.prog 121 [(.pointer p0),(iv 0)] [.c .slice,.c I64] λ(t15:Sl×Int)=>
 callF Tryz.prog 121 [(.pointer p0),(iv 1)] [.c .slice,.c I64] λ(t20:Sl×Int)=>
 jn (S:=Bool) (λR=>
 br (t15.2 !=0) (
 R true) (
 R ((t20.2 !=0)))) λs=>
 br s (
 stB r 0 [(iv 0),(iv 0),(iv 0),(iv 0),(iv 0),(iv 0)]<|
 ldA [I64,I64,I64,I64,I64,I64] (bA r 0) λ(res_1:Int×Int×Int×Int×Int×Int)=>
 Q (res_1,5)) (
 callF Tryz.prog 122 [(slV t15.1),(slV t20.1)] [.agg [I64,I64,I64,I64,I64,I64],.c I64] λ(t33:(Int×Int×Int×Int×Int×Int)×Int)=>
 nvs 61 [(iv 0),(iv 0),(iv 0),(iv 0),(iv 0),(iv 0)] [(iv t33.1.1),(iv t33.1.2.1),(iv t33.1.2.2.1),(iv t33.1.2.2.2.1),(iv t33.1.2.2.2.2.1),(iv t33.1.2.2.2.2.2)] λr_1=>
 jn (S:=Int) (λR_1=>
 jn (S:=Bool) (λR_2=>
 drw<|
 br (t33.2==0) (
 both (
 callF Tryz.prog 83 [(.pointer p0)] [.c I64] λ(t40:Int)=>
 ldI (bA r_1 1) λt43=>
 R_2 ((t40 !=t43))) (
 ldI (bA r_1 1) λt43_1=>
 callF Tryz.prog 83 [(.pointer p0)] [.c I64] λ(t40_1:Int)=>
 R_2 ((t40_1 !=t43_1)))) (
 both (
 R_2 false) (
 R_2 false))) λs_2=>
 br s_2 (
 R_1 50) (
 R_1 t33.2)) λs_1=>
 ldA [I64,I64,I64,I64,I64,I64] (bA r_1 0) λ(t46:Int×Int×Int×Int×Int×Int)=>
 stB r 0 [(iv t46.1),(iv t46.2.1),(iv t46.2.2.1),(iv t46.2.2.2.1),(iv t46.2.2.2.2.1),(iv t46.2.2.2.2.2)]<|
 ldA [I64,I64,I64,I64,I64,I64] (bA r 0) λ(res_2:Int×Int×Int×Int×Int×Int)=>
 Q (res_2,s_1)))
theorem F70_calls(p0:Option Addr)(Q:(Int×Int×Int×Int×Int×Int)×Int->Pr)(w:World)(h:F70 p0 Q w):Calls Tryz.prog 70 #[(.pointer p0)] w (RetT [.agg [I64,I64,I64,I64,I64,I64],.c I64] Q):=cF (an:=an70) Tryz.func70 (by kernel_rfl) h
def an74:An:=(.sq .z (.sq .z .z))
def F74(p0_0:Int)(p0_1:Int)(p0_2:Int)(p0_3:Int)(p0_4:Int)(p0_5:Int)(p1:Int)(Q:Bool->Pr):Pr:=
 nw (.cells #[(iv p0_0),(iv p0_1),(iv p0_2),(iv p0_3),(iv p0_4),(iv p0_5)] 38) λr=>
 br (p1==2) (
 Q true) (
 ldI (bA r 1) λt10=>
 br (decide (p1>=t10)) (
 ldI (bA r 5) λt15=>
 Q ((decide (p1<t15)))) (
 Q false))
theorem F74_calls(p0_0:Int)(p0_1:Int)(p0_2:Int)(p0_3:Int)(p0_4:Int)(p0_5:Int)(p1:Int)(Q:Bool->Pr)(w:World)(h:F74 p0_0 p0_1 p0_2 p0_3 p0_4 p0_5 p1 Q w):Calls Tryz.prog 74 #[(.agg #[(iv p0_0),(iv p0_1),(iv p0_2),(iv p0_3),(iv p0_4),(iv p0_5)]),(iv p1)] w (RetT [.c .bool] Q):=cF (an:=an74) Tryz.func74 (by kernel_rfl) h
def an76:An:=(.sq .z (.sq (.sq .z (.bl (.rf [.c (.int .i64)] .z (.bl (.sq .z (.sq (.sq .z (.br (.sq .z .z) .z)) (.sq .z (.sq (.sq .z (.br (.sq .z .z) .z)) (.sq (.sq .z (.br .z .z)) (.sq .z (.sq .z (.br (.sq .z .z) .z)))))))))))) (.sq .z .z)))
def F76(p0:Option Addr)(p1:Sl)(Q:Int->Pr):Pr:=
 owe (NotAgg (.pointer p0))<|nw (.cells #[(.pointer p0)] 39) λr=>
 owe (NotAgg (slV p1))<|nw (.cells #[(slV p1)] 103) λr_1=>
 owe (NotAgg (iv 0))<|nw (.cells #[(iv 0)] 29) λr_2=>
 ldS (bA r_1 0) λt10=>
 callF Tryz.prog 117 [(slV t10)] [.c .any] λ(t11:Value)=>
 rngE Tryz.prog t11 [.c I64] (λl (z:Int) bg nx lv=>
 bg (
 ldP (bA r 0) λt14=>
 callF Tryz.prog 121 [(.pointer t14),(iv z)] [.c .slice,.c I64] λ(t16:Sl×Int)=>
 br (t16.2 !=0) (
 st (bA r_2 0) (iv t16.2)<|
 lv none) (
 ldS (bA r_1 0) λt25=>
 callF Tryz.prog 131 [(slV t16.1),(iv z),(slV t25)] [.c .slice,.c I64] λ(t26:Sl×Int)=>
 br (t26.2 !=0) (
 st (bA r_2 0) (iv t26.2)<|
 lv none) (
 callF Tryz.prog 26 [(slV t16.1),(slV t26.1)] [.c .bool] λ(t34:Bool)=>
 br t34 (
 nx) (
 ldP (bA r 0) λt35=>
 callF Tryz.prog 132 [(.pointer t35),(iv z),(slV t26.1)] [.c I64] λ(t38:Int)=>
 br (t38 !=0) (
 st (bA r_2 0) (iv t38)<|
 lv none) (
 nx)))))) (λD=>
 ldP (bA r 0) λt42=>
 callF Tryz.prog 112 [(.pointer t42)] [.c I64] λ(t43:Int)=>
 st (bA r_2 0) (iv t43)<|
 takes [D]<|
 ldI (bA r_2 0) λres=>
 Q res) (λD=>
 takes [D]<|
 ldI (bA r_2 0) λres_1=>
 Q res_1) (λD=>[])
theorem F76_calls(p0:Option Addr)(p1:Sl)(Q:Int->Pr)(w:World)(h:F76 p0 p1 Q w):Calls Tryz.prog 76 #[(.pointer p0),(slV p1)] w (RetT [.c I64] Q):=cF (an:=an76) Tryz.func76 (by kernel_rfl) h
def an75:An:=(.sq .z (.sq (.jn [(9,.c .ptr),(10,.c (.int .i64))] (.rj [⟨false,[0,5,10],[0,5,6,7,8,9,10],[(9,.c .ptr),(21,.agg [(.int .i64),(.int .i64),(.int .i64),(.int .i64),(.int .i64),(.int .i64)]),(22,.c (.int .i64))]⟩])) (.sq (.sq .z (.br (.sq .z .z) .z)) (.sq .z (.sq (.jn [(10,.c (.int .i64))] (.sq (.jn [(43,.c .bool)] .z) (.br .z .z))) (.sq .z .z))))))
def F75(p0:Option Addr)(p1_0:Int)(p1_1:Int)(p1_2:Int)(p1_3:Int)(p1_4:Int)(p1_5:Int)(p2:Int)(Q:(Int×Int×Int×Int×Int×Int)×(Option Addr)×Int->Pr):Pr:=
 nw (.cells #[(iv p1_0),(iv p1_1),(iv p1_2),(iv p1_3),(iv p1_4),(iv p1_5)] 61) λr=>
 nw (.cells #[(iv 0),(iv 0),(iv 0),(iv 0),(iv 0),(iv 0)] 61) λr_1=>
 jn (S:=(Option Addr)×Int) (λR=>
 drw<|
 ldI (bA r 2) λt18=>
 jn (S:=(Option Addr)×(Int×Int×Int×Int×Int×Int)×Int) (λR_1=>
 both (
 ldA [I64,I64,I64,I64,I64,I64] (bA r 0) λ(t14:Int×Int×Int×Int×Int×Int)=>
 both (
 callF Tryz.prog 130 [(iv p2),(iv t18)] [.c I64] λ(t19:Int)=>
 both (
 callF Tryz.prog 113 [(.agg #[(iv t14.1),(iv t14.2.1),(iv t14.2.2.1),(iv t14.2.2.2.1),(iv t14.2.2.2.2.1),(iv t14.2.2.2.2.2)]),(iv t19)] [.agg [I64,I64,I64,I64,I64,I64],.c I64] λ(t20:(Int×Int×Int×Int×Int×Int)×Int)=>
 nw (.cells #[(iv 0),(iv 0),(iv 0),(iv 0),(iv 0),(iv 0)] 61) λr_2=>
 R_1 ((some ⟨r_2,0,none⟩),(t20.1.1,t20.1.2.1,t20.1.2.2.1,t20.1.2.2.2.1,t20.1.2.2.2.2.1,t20.1.2.2.2.2.2),t20.2)) (
 nw (.cells #[(iv 0),(iv 0),(iv 0),(iv 0),(iv 0),(iv 0)] 61) λr_3=>
 callF Tryz.prog 113 [(.agg #[(iv t14.1),(iv t14.2.1),(iv t14.2.2.1),(iv t14.2.2.2.1),(iv t14.2.2.2.2.1),(iv t14.2.2.2.2.2)]),(iv t19)] [.agg [I64,I64,I64,I64,I64,I64],.c I64] λ(t20_1:(Int×Int×Int×Int×Int×Int)×Int)=>
 R_1 ((some ⟨r_3,0,none⟩),(t20_1.1.1,t20_1.1.2.1,t20_1.1.2.2.1,t20_1.1.2.2.2.1,t20_1.1.2.2.2.2.1,t20_1.1.2.2.2.2.2),t20_1.2))) (
 nw (.cells #[(iv 0),(iv 0),(iv 0),(iv 0),(iv 0),(iv 0)] 61) λr_4=>
 callF Tryz.prog 130 [(iv p2),(iv t18)] [.c I64] λ(t19_1:Int)=>
 callF Tryz.prog 113 [(.agg #[(iv t14.1),(iv t14.2.1),(iv t14.2.2.1),(iv t14.2.2.2.1),(iv t14.2.2.2.2.1),(iv t14.2.2.2.2.2)]),(iv t19_1)] [.agg [I64,I64,I64,I64,I64,I64],.c I64] λ(t20_2:(Int×Int×Int×Int×Int×Int)×Int)=>
 R_1 ((some ⟨r_4,0,none⟩),(t20_2.1.1,t20_2.1.2.1,t20_2.1.2.2.1,t20_2.1.2.2.2.1,t20_2.1.2.2.2.2.1,t20_2.1.2.2.2.2.2),t20_2.2))) (
 both (
 callF Tryz.prog 130 [(iv p2),(iv t18)] [.c I64] λ(t19_2:Int)=>
 ldA [I64,I64,I64,I64,I64,I64] (bA r 0) λ(t14_1:Int×Int×Int×Int×Int×Int)=>
 both (
 callF Tryz.prog 113 [(.agg #[(iv t14_1.1),(iv t14_1.2.1),(iv t14_1.2.2.1),(iv t14_1.2.2.2.1),(iv t14_1.2.2.2.2.1),(iv t14_1.2.2.2.2.2)]),(iv t19_2)] [.agg [I64,I64,I64,I64,I64,I64],.c I64] λ(t20_3:(Int×Int×Int×Int×Int×Int)×Int)=>
 nw (.cells #[(iv 0),(iv 0),(iv 0),(iv 0),(iv 0),(iv 0)] 61) λr_5=>
 R_1 ((some ⟨r_5,0,none⟩),(t20_3.1.1,t20_3.1.2.1,t20_3.1.2.2.1,t20_3.1.2.2.2.1,t20_3.1.2.2.2.2.1,t20_3.1.2.2.2.2.2),t20_3.2)) (
 nw (.cells #[(iv 0),(iv 0),(iv 0),(iv 0),(iv 0),(iv 0)] 61) λr_6=>
 callF Tryz.prog 113 [(.agg #[(iv t14_1.1),(iv t14_1.2.1),(iv t14_1.2.2.1),(iv t14_1.2.2.2.1),(iv t14_1.2.2.2.2.1),(iv t14_1.2.2.2.2.2)]),(iv t19_2)] [.agg [I64,I64,I64,I64,I64,I64],.c I64] λ(t20_4:(Int×Int×Int×Int×Int×Int)×Int)=>
 R_1 ((some ⟨r_6,0,none⟩),(t20_4.1.1,t20_4.1.2.1,t20_4.1.2.2.1,t20_4.1.2.2.2.1,t20_4.1.2.2.2.2.1,t20_4.1.2.2.2.2.2),t20_4.2))) (
 nw (.cells #[(iv 0),(iv 0),(iv 0),(iv 0),(iv 0),(iv 0)] 61) λr_7=>
 both (
 ldA [I64,I64,I64,I64,I64,I64] (bA r 0) λ(t14_2:Int×Int×Int×Int×Int×Int)=>
 callF Tryz.prog 130 [(iv p2),(iv t18)] [.c I64] λ(t19_3:Int)=>
 callF Tryz.prog 113 [(.agg #[(iv t14_2.1),(iv t14_2.2.1),(iv t14_2.2.2.1),(iv t14_2.2.2.2.1),(iv t14_2.2.2.2.2.1),(iv t14_2.2.2.2.2.2)]),(iv t19_3)] [.agg [I64,I64,I64,I64,I64,I64],.c I64] λ(t20_5:(Int×Int×Int×Int×Int×Int)×Int)=>
 R_1 ((some ⟨r_7,0,none⟩),(t20_5.1.1,t20_5.1.2.1,t20_5.1.2.2.1,t20_5.1.2.2.2.1,t20_5.1.2.2.2.2.1,t20_5.1.2.2.2.2.2),t20_5.2)) (
 callF Tryz.prog 130 [(iv p2),(iv t18)] [.c I64] λ(t19_4:Int)=>
 ldA [I64,I64,I64,I64,I64,I64] (bA r 0) λ(t14_3:Int×Int×Int×Int×Int×Int)=>
 callF Tryz.prog 113 [(.agg #[(iv t14_3.1),(iv t14_3.2.1),(iv t14_3.2.2.1),(iv t14_3.2.2.2.1),(iv t14_3.2.2.2.2.1),(iv t14_3.2.2.2.2.2)]),(iv t19_4)] [.agg [I64,I64,I64,I64,I64,I64],.c I64] λ(t20_6:(Int×Int×Int×Int×Int×Int)×Int)=>
 R_1 ((some ⟨r_7,0,none⟩),(t20_6.1.1,t20_6.1.2.1,t20_6.1.2.2.1,t20_6.1.2.2.2.1,t20_6.1.2.2.2.2.1,t20_6.1.2.2.2.2.2),t20_6.2))))) λs_1=>
 deref s_1.1 λa_7=>
 st (a_7.add 0) (iv s_1.2.1.1)<|
 st (a_7.add 1) (iv s_1.2.1.2.1)<|
 st (a_7.add 2) (iv s_1.2.1.2.2.1)<|
 st (a_7.add 3) (iv s_1.2.1.2.2.2.1)<|
 st (a_7.add 4) (iv s_1.2.1.2.2.2.2.1)<|
 st (a_7.add 5) (iv s_1.2.1.2.2.2.2.2)<|
 R (s_1.1,s_1.2.2)) λs=>
 br (s.2 !=0) (
 deref s.1 λa_8=>
 ldA [I64,I64,I64,I64,I64,I64] a_8 λ(t25:Int×Int×Int×Int×Int×Int)=>
 stB r_1 0 [(iv t25.1),(iv t25.2.1),(iv t25.2.2.1),(iv t25.2.2.2.1),(iv t25.2.2.2.2.1),(iv t25.2.2.2.2.2)]<|
 ldA [I64,I64,I64,I64,I64,I64] (bA r_1 0) λ(res:Int×Int×Int×Int×Int×Int)=>
 Q (res,none,6)) (
 ldI (bA r 2) λt30=>
 deref s.1 λa_14=>
 ldI (a_14.add 5) λt32=>
 callF Tryz.prog 72 [(.pointer p0),(iv 3),(iv t30),(iv t32)] [.c .ptr,.c .slice,.c I64] λ(t33:(Option Addr)×Sl×Int)=>
 jn (S:=Int) (λR_2=>
 jn (S:=Bool) (λR_3=>
 br (t33.2.2==0) (
 R_3 ((decide ((t33.2.1.len:Int)>0)))) (
 R_3 false)) λs_3=>
 br s_3 (
 R_2 50) (
 R_2 t33.2.2)) λs_2=>
 deref s.1 λa_16=>
 ldA [I64,I64,I64,I64,I64,I64] a_16 λ(t44:Int×Int×Int×Int×Int×Int)=>
 stB r_1 0 [(iv t44.1),(iv t44.2.1),(iv t44.2.2.1),(iv t44.2.2.2.1),(iv t44.2.2.2.2.1),(iv t44.2.2.2.2.2)]<|
 ldA [I64,I64,I64,I64,I64,I64] (bA r_1 0) λ(res_1:Int×Int×Int×Int×Int×Int)=>
 Q (res_1,t33.1,s_2))
theorem F75_calls(p0:Option Addr)(p1_0:Int)(p1_1:Int)(p1_2:Int)(p1_3:Int)(p1_4:Int)(p1_5:Int)(p2:Int)(Q:(Int×Int×Int×Int×Int×Int)×(Option Addr)×Int->Pr)(w:World)(h:F75 p0 p1_0 p1_1 p1_2 p1_3 p1_4 p1_5 p2 Q w):Calls Tryz.prog 75 #[(.pointer p0),(.agg #[(iv p1_0),(iv p1_1),(iv p1_2),(iv p1_3),(iv p1_4),(iv p1_5)]),(iv p2)] w (RetT [.agg [I64,I64,I64,I64,I64,I64],.c .ptr,.c I64] Q):=cF (an:=an75) Tryz.func75 (by kernel_rfl) h
def an24:An:=(.sq .z (.sq (.sq .z (.sq .z (.br (.sq .z .z) .z))) (.sq .z (.sq (.sq .z (.br (.sq .z .z) .z)) (.sq .z (.sq (.sq .z (.br (.sq .z .z) .z)) (.sq .z (.sq (.sq .z (.br (.sq .z .z) .z)) (.sq .z (.sq (.sq .z (.bl (.lp [(58,.c (.int .i64))] (.sq .z (.sq (.br .z .z) (.sq (.bl (.sq .z (.sq .z (.br (.sq .z .z) .z)))) .z)))))) (.sq (.jn [(6,.c (.int .i64)),(8,.c .ptr),(12,.c .ptr)] (.rj [⟨false,[1,3,9],[1,3,4,5,6,7,8,9],[(12,.c .ptr),(74,.agg [(.int .i64),(.int .i64),(.int .i64),(.int .i64),(.int .i64),(.int .i64)]),(75,.c .ptr),(76,.c (.int .i64))]⟩])) (.sq (.sq .z (.br (.sq .z .z) .z)) (.sq (.sq .z (.sq .z (.br (.sq .z .z) .z))) (.sq (.sq .z (.sq .z (.br (.sq .z .z) .z))) (.sq .z (.sq (.sq .z (.br (.sq .z .z) .z)) (.sq .z .z)))))))))))))))))
def F24(p0:Option Addr)(Q:(Option Addr)×Int->Pr):Pr:=
 callF Tryz.prog 69 [(.pointer p0)] [.c I64] λ(t17:Int)=>
 br (t17 !=0) (
 Q (none,t17)) (
 callF Tryz.prog 70 [(.pointer p0)] [.agg [I64,I64,I64,I64,I64,I64],.c I64] λ(t23:(Int×Int×Int×Int×Int×Int)×Int)=>
 nvs 61 [(iv 0),(iv 0),(iv 0),(iv 0),(iv 0),(iv 0)] [(iv t23.1.1),(iv t23.1.2.1),(iv t23.1.2.2.1),(iv t23.1.2.2.2.1),(iv t23.1.2.2.2.2.1),(iv t23.1.2.2.2.2.2)] λr=>
 br (t23.2 !=0) (
 Q (none,t23.2)) (
 ldA [I64,I64,I64,I64] (bA r 1) λ(t31:Int×Int×Int×Int)=>
 callF Tryz.prog 71 [(.agg #[(iv t31.1),(iv t31.2.1),(iv t31.2.2.1),(iv t31.2.2.2)])] [.agg [I64,I64,I64,I64,I64,I64],.c I64] λ(t32:(Int×Int×Int×Int×Int×Int)×Int)=>
 nvs 38 [(iv 0),(iv 0),(iv 0),(iv 0),(iv 0),(iv 0)] [(iv t32.1.1),(iv t32.1.2.1),(iv t32.1.2.2.1),(iv t32.1.2.2.2.1),(iv t32.1.2.2.2.2.1),(iv t32.1.2.2.2.2.2)] λr_1=>
 br (t32.2 !=0) (
 Q (none,50)) (
 ldI (bA r 2) λt41=>
 ldI (bA r 5) λt43=>
 callF Tryz.prog 72 [(.pointer p0),(iv 3),(iv t41),(iv t43)] [.c .ptr,.c .slice,.c I64] λ(t44:(Option Addr)×Sl×Int)=>
 br (t44.2.2 !=0) (
 Q (none,t44.2.2)) (
 callF Tryz.prog 73 [(slV t44.2.1)] [.c .slice,.c I64] λ(t53:Sl×Int)=>
 loopE (S:=Int) (λX s=>
 br (decide (s<(t53.1.len:Int))) (
 el t53.1 s 5 λa_9=>
 ldA [I64,I64,I64,.slice,I64] a_9 λ(t61:Int×Int×Int×Sl×Int)=>
 nvs 109 [(iv 0),(iv 0),(iv 0),(.slice none 0 0),(iv 0)] [(iv t61.1),(iv t61.2.1),(iv t61.2.2.1),(slV t61.2.2.2.1),(iv t61.2.2.2.2)] λr_2=>
 ldA [I64,I64,I64,I64,I64,I64] (bA r_1 0) λ(t62:Int×Int×Int×Int×Int×Int)=>
 ldI (bA r_2 1) λt64=>
 callF Tryz.prog 74 [(.agg #[(iv t62.1),(iv t62.2.1),(iv t62.2.2.1),(iv t62.2.2.2.1),(iv t62.2.2.2.2.1),(iv t62.2.2.2.2.2)]),(iv t64)] [.c .bool] λ(t65:Bool)=>
 br (!t65) (
 Q (none,50)) (
 X ((w64 (s+1))))) (
 jn (S:=Int×(Option Addr)×Option Addr) (λR=>
 drw<|
 jn (S:=(Option Addr)×(Int×Int×Int×Int×Int×Int)×(Option Addr)×Int) (λR_1=>
 both (
 ldA [I64,I64,I64,I64,I64,I64] (bA r 0) λ(t70:Int×Int×Int×Int×Int×Int)=>
 both (
 callF Tryz.prog 57 [(.pointer t44.1)] [.c I64] λ(t72:Int)=>
 both (
 callF Tryz.prog 75 [(.pointer p0),(.agg #[(iv t70.1),(iv t70.2.1),(iv t70.2.2.1),(iv t70.2.2.2.1),(iv t70.2.2.2.2.1),(iv t70.2.2.2.2.2)]),(iv t72)] [.agg [I64,I64,I64,I64,I64,I64],.c .ptr,.c I64] λ(t73:(Int×Int×Int×Int×Int×Int)×(Option Addr)×Int)=>
 nw (.cells #[(iv 0),(iv 0),(iv 0),(iv 0),(iv 0),(iv 0)] 61) λr_3=>
 R_1 ((some ⟨r_3,0,none⟩),(t73.1.1,t73.1.2.1,t73.1.2.2.1,t73.1.2.2.2.1,t73.1.2.2.2.2.1,t73.1.2.2.2.2.2),t73.2.1,t73.2.2)) (
 nw (.cells #[(iv 0),(iv 0),(iv 0),(iv 0),(iv 0),(iv 0)] 61) λr_4=>
 callF Tryz.prog 75 [(.pointer p0),(.agg #[(iv t70.1),(iv t70.2.1),(iv t70.2.2.1),(iv t70.2.2.2.1),(iv t70.2.2.2.2.1),(iv t70.2.2.2.2.2)]),(iv t72)] [.agg [I64,I64,I64,I64,I64,I64],.c .ptr,.c I64] λ(t73_1:(Int×Int×Int×Int×Int×Int)×(Option Addr)×Int)=>
 R_1 ((some ⟨r_4,0,none⟩),(t73_1.1.1,t73_1.1.2.1,t73_1.1.2.2.1,t73_1.1.2.2.2.1,t73_1.1.2.2.2.2.1,t73_1.1.2.2.2.2.2),t73_1.2.1,t73_1.2.2))) (
 nw (.cells #[(iv 0),(iv 0),(iv 0),(iv 0),(iv 0),(iv 0)] 61) λr_5=>
 callF Tryz.prog 57 [(.pointer t44.1)] [.c I64] λ(t72_1:Int)=>
 callF Tryz.prog 75 [(.pointer p0),(.agg #[(iv t70.1),(iv t70.2.1),(iv t70.2.2.1),(iv t70.2.2.2.1),(iv t70.2.2.2.2.1),(iv t70.2.2.2.2.2)]),(iv t72_1)] [.agg [I64,I64,I64,I64,I64,I64],.c .ptr,.c I64] λ(t73_2:(Int×Int×Int×Int×Int×Int)×(Option Addr)×Int)=>
 R_1 ((some ⟨r_5,0,none⟩),(t73_2.1.1,t73_2.1.2.1,t73_2.1.2.2.1,t73_2.1.2.2.2.1,t73_2.1.2.2.2.2.1,t73_2.1.2.2.2.2.2),t73_2.2.1,t73_2.2.2))) (
 both (
 callF Tryz.prog 57 [(.pointer t44.1)] [.c I64] λ(t72_2:Int)=>
 ldA [I64,I64,I64,I64,I64,I64] (bA r 0) λ(t70_1:Int×Int×Int×Int×Int×Int)=>
 both (
 callF Tryz.prog 75 [(.pointer p0),(.agg #[(iv t70_1.1),(iv t70_1.2.1),(iv t70_1.2.2.1),(iv t70_1.2.2.2.1),(iv t70_1.2.2.2.2.1),(iv t70_1.2.2.2.2.2)]),(iv t72_2)] [.agg [I64,I64,I64,I64,I64,I64],.c .ptr,.c I64] λ(t73_3:(Int×Int×Int×Int×Int×Int)×(Option Addr)×Int)=>
 nw (.cells #[(iv 0),(iv 0),(iv 0),(iv 0),(iv 0),(iv 0)] 61) λr_6=>
 R_1 ((some ⟨r_6,0,none⟩),(t73_3.1.1,t73_3.1.2.1,t73_3.1.2.2.1,t73_3.1.2.2.2.1,t73_3.1.2.2.2.2.1,t73_3.1.2.2.2.2.2),t73_3.2.1,t73_3.2.2)) (
 nw (.cells #[(iv 0),(iv 0),(iv 0),(iv 0),(iv 0),(iv 0)] 61) λr_7=>
 callF Tryz.prog 75 [(.pointer p0),(.agg #[(iv t70_1.1),(iv t70_1.2.1),(iv t70_1.2.2.1),(iv t70_1.2.2.2.1),(iv t70_1.2.2.2.2.1),(iv t70_1.2.2.2.2.2)]),(iv t72_2)] [.agg [I64,I64,I64,I64,I64,I64],.c .ptr,.c I64] λ(t73_4:(Int×Int×Int×Int×Int×Int)×(Option Addr)×Int)=>
 R_1 ((some ⟨r_7,0,none⟩),(t73_4.1.1,t73_4.1.2.1,t73_4.1.2.2.1,t73_4.1.2.2.2.1,t73_4.1.2.2.2.2.1,t73_4.1.2.2.2.2.2),t73_4.2.1,t73_4.2.2))) (
 nw (.cells #[(iv 0),(iv 0),(iv 0),(iv 0),(iv 0),(iv 0)] 61) λr_8=>
 both (
 ldA [I64,I64,I64,I64,I64,I64] (bA r 0) λ(t70_2:Int×Int×Int×Int×Int×Int)=>
 callF Tryz.prog 57 [(.pointer t44.1)] [.c I64] λ(t72_3:Int)=>
 callF Tryz.prog 75 [(.pointer p0),(.agg #[(iv t70_2.1),(iv t70_2.2.1),(iv t70_2.2.2.1),(iv t70_2.2.2.2.1),(iv t70_2.2.2.2.2.1),(iv t70_2.2.2.2.2.2)]),(iv t72_3)] [.agg [I64,I64,I64,I64,I64,I64],.c .ptr,.c I64] λ(t73_5:(Int×Int×Int×Int×Int×Int)×(Option Addr)×Int)=>
 R_1 ((some ⟨r_8,0,none⟩),(t73_5.1.1,t73_5.1.2.1,t73_5.1.2.2.1,t73_5.1.2.2.2.1,t73_5.1.2.2.2.2.1,t73_5.1.2.2.2.2.2),t73_5.2.1,t73_5.2.2)) (
 callF Tryz.prog 57 [(.pointer t44.1)] [.c I64] λ(t72_4:Int)=>
 ldA [I64,I64,I64,I64,I64,I64] (bA r 0) λ(t70_3:Int×Int×Int×Int×Int×Int)=>
 callF Tryz.prog 75 [(.pointer p0),(.agg #[(iv t70_3.1),(iv t70_3.2.1),(iv t70_3.2.2.1),(iv t70_3.2.2.2.1),(iv t70_3.2.2.2.2.1),(iv t70_3.2.2.2.2.2)]),(iv t72_4)] [.agg [I64,I64,I64,I64,I64,I64],.c .ptr,.c I64] λ(t73_6:(Int×Int×Int×Int×Int×Int)×(Option Addr)×Int)=>
 R_1 ((some ⟨r_8,0,none⟩),(t73_6.1.1,t73_6.1.2.1,t73_6.1.2.2.1,t73_6.1.2.2.2.1,t73_6.1.2.2.2.2.1,t73_6.1.2.2.2.2.2),t73_6.2.1,t73_6.2.2))))) λs_2=>
 deref s_2.1 λa_19=>
 st (a_19.add 0) (iv s_2.2.1.1)<|
 st (a_19.add 1) (iv s_2.2.1.2.1)<|
 st (a_19.add 2) (iv s_2.2.1.2.2.1)<|
 st (a_19.add 3) (iv s_2.2.1.2.2.2.1)<|
 st (a_19.add 4) (iv s_2.2.1.2.2.2.2.1)<|
 st (a_19.add 5) (iv s_2.2.1.2.2.2.2.2)<|
 R (s_2.2.2.2,s_2.2.2.1,s_2.1)) λs_1=>
 br (s_1.1 !=0) (
 Q (none,s_1.1)) (
 callF Tryz.prog 76 [(.pointer p0),(slV t53.1)] [.c I64] λ(t82:Int)=>
 br (t82 !=0) (
 Q (none,t82)) (
 deref s_1.2.2 λa_20=>
 ldA [I64,I64,I64,I64,I64,I64] a_20 λ(t87:Int×Int×Int×Int×Int×Int)=>
 callF Tryz.prog 77 [(.pointer p0),(.agg #[(iv t87.1),(iv t87.2.1),(iv t87.2.2.1),(iv t87.2.2.2.1),(iv t87.2.2.2.2.1),(iv t87.2.2.2.2.2)])] [.c I64] λ(t88:Int)=>
 br (t88 !=0) (
 Q (none,t88)) (
 callF Tryz.prog 78 [(.pointer p0),(iv 256)] [.c .ptr,.c I64] λ(t94:(Option Addr)×Int)=>
 br (t94.2 !=0) (
 Q (none,t94.2)) (
 nw (.cells #[(.pointer s_1.2.1),(.pointer t94.1)] 102) λr_9=>
 deref s_1.2.2 λa_21=>
 ldA [I64,I64,I64,I64,I64,I64] a_21 λ(t105:Int×Int×Int×Int×Int×Int)=>
 ldA [I64,I64,I64,I64,I64,I64] (bA r_1 0) λ(t106:Int×Int×Int×Int×Int×Int)=>
 nw (.map #[] 0) λr_10=>
 nw (.cells #[(.pointer (some ⟨r_9,0,none⟩)),(.pointer p0),(iv t105.1),(iv t105.2.1),(iv t105.2.2.1),(iv t105.2.2.2.1),(iv t105.2.2.2.2.1),(iv t105.2.2.2.2.2),(iv t106.1),(iv t106.2.1),(iv t106.2.2.1),(iv t106.2.2.2.1),(iv t106.2.2.2.2.1),(iv t106.2.2.2.2.2),(.bool false),(.bool false),(.map (some r_10))] 64) λr_11=>
 Q ((some ⟨r_11,0,none⟩),0))))))) 0))))
theorem F24_calls(p0:Option Addr)(Q:(Option Addr)×Int->Pr)(w:World)(h:F24 p0 Q w):Calls Tryz.prog 24 #[(.pointer p0)] w (RetT [.c .ptr,.c I64] Q):=cF (an:=an24) Tryz.func24 (by kernel_rfl) h
def an56:An:=(.sq .z (.sq .z .z))
def F56(p0:Option Addr)(Q:Bool->Pr):Pr:=
 owe True<|
 br (Option.isNone p0) (
 Q true) (
 deref p0 λa=>
 ldP (a.add 0) λt9=>
 owe True<|
 Q ((Option.isNone t9)))
theorem F56_calls(p0:Option Addr)(Q:Bool->Pr)(w:World)(h:F56 p0 Q w):Calls Tryz.prog 56 #[(.pointer p0)] w (RetT [.c .bool] Q):=cF (an:=an56) Tryz.func56 (by kernel_rfl) h
def an59:An:=(.sq .z (.sq (.bl (.sq .z (.br (.sq .z .z) (.sq (.jn [(6,.c .bool)] .z) (.br (.sq .z (.sq .z .z)) .z))))) (.sq .z .z)))
def F59(p0:Option Addr)(Q:Int->Pr):Pr:=
 callF Tryz.prog 56 [(.pointer p0)] [.c .bool] λ(t5:Bool)=>
 br t5 (
 Q 2) (
 jn (S:=Bool) (λR=>
 deref p0 λa=>
 ldB (a.add 15) λt10=>
 br t10 (
 R true) (
 deref p0 λa_3=>
 ldP (a_3.add 1) λt15=>
 callF Tryz.prog 53 [(.pointer t15)] [.c .bool] λ(t16:Bool)=>
 R (!t16))) λs=>
 br s (
 deref p0 λa_6=>
 st (a_6.add 15) (.bool true)<|
 Q 5) (
 Q 0))
theorem F59_calls(p0:Option Addr)(Q:Int->Pr)(w:World)(h:F59 p0 Q w):Calls Tryz.prog 59 #[(.pointer p0)] w (RetT [.c I64] Q):=cF (an:=an59) Tryz.func59 (by kernel_rfl) h
def an109:An:=(.sq .z (.sq (.sq .z (.br .z .z)) (.sq .z .z)))
def F109(p0:Option Addr)(p1:Int)(Q:Int->Pr):Pr:=
 br (p1==5) (
 deref p0 λa=>
 st (a.add 15) (.bool true)<|
 Q p1) (
 Q p1)
theorem F109_calls(p0:Option Addr)(p1:Int)(Q:Int->Pr)(w:World)(h:F109 p0 p1 Q w):Calls Tryz.prog 109 #[(.pointer p0),(iv p1)] w (RetT [.c I64] Q):=cF (an:=an109) Tryz.func109 (by kernel_rfl) h
def an28:An:=(.sq .z (.sq (.sq .z (.sq .z (.br (.sq .z .z) .z))) (.sq (.sq .z (.br (.sq .z .z) .z)) (.sq .z (.sq .z .z)))))
def F28(p0:Option Addr)(Q:Int->Pr):Pr:=
 callF Tryz.prog 59 [(.pointer p0)] [.c I64] λ(t5:Int)=>
 br (t5 !=0) (
 Q t5) (
 deref p0 λa=>
 ldB (a.add 14) λt12=>
 br t12 (
 Q 7) (
 deref p0 λa_3=>
 st (a_3.add 14) (.bool true)<|
 Q 0))
theorem F28_calls(p0:Option Addr)(Q:Int->Pr)(w:World)(h:F28 p0 Q w):Calls Tryz.prog 28 #[(.pointer p0)] w (RetT [.c I64] Q):=cF (an:=an28) Tryz.func28 (by kernel_rfl) h
def an60:An:=(.sq .z (.sq .z (.bl (.lp [] (.sq .z (.sq (.br .z .z) (.bl (.sq .z .z))))))))
def F60(p0:Option Addr)(Q:Unit->Pr):Pr:=
 deref p0 λa=>
 st (a.add 14) (.bool false)<|
 deref p0 λa_3=>
 ldM (a_3.add 16) λt9=>
 mrange t9 λit=>
 loopE (S:=Unit) (λX s=>
 mnext (bA it 0) (
 Q ()) λen=>
 mentry (bA it 0) λen_1=>
 sayC I64 en_1.key λ(key:Int)=>
 deref p0 λa_8=>
 ldM (a_8.add 16) λt18=>
 mapDel (.int .i64) t18 (iv key)<|
 X ()) ()
theorem F60_deferred(p0:Option Addr)(u:FrameMode)(Q:Unit->Pr)(w:World)(h:F60 p0 Q w):CallsDIn (wf none) 0 Tryz.prog 60 #[(.pointer p0)] u w (λe u' w'=>u'=u/\RetT [] Q e w'):=
 deferred_of_compile (an:=an60) (args:=[(.pointer p0)]) (shs:=[]) Tryz.func60 (by
  have e:compileS Tryz.prog Tryz.f60 an60 [(.pointer p0)] [] Q=F60 p0 Q:=by kernel_rfl
  rw[e];exact h)
def an21:An:=(.sq .z (.sq .z .z))
def F21(p0:Option Addr)(Q:Bool->Pr):Pr:=
 callF Tryz.prog 56 [(.pointer p0)] [.c .bool] λ(t4:Bool)=>
 br (!t4) (
 deref p0 λa=>
 ldB (a.add 14) λt10=>
 Q t10) (
 Q false)
theorem F21_calls(p0:Option Addr)(Q:Bool->Pr)(w:World)(h:F21 p0 Q w):Calls Tryz.prog 21 #[(.pointer p0)] w (RetT [.c .bool] Q):=cF (an:=an21) Tryz.func21 (by kernel_rfl) h
def an80:An:=(.sq .z (.sq .z .z))
def F80(p0:Option Addr)(p1:Int)(p2:Int)(p3:Int)(Q:Bool->Pr):Pr:=
 deref p0 λa=>
 ldA [I64,I64,I64,I64,I64,I64] (a.add 8) λ(t12:Int×Int×Int×Int×Int×Int)=>
 callF Tryz.prog 74 [(.agg #[(iv t12.1),(iv t12.2.1),(iv t12.2.2.1),(iv t12.2.2.2.1),(iv t12.2.2.2.2.1),(iv t12.2.2.2.2.2)]),(iv p1)] [.c .bool] λ(t14:Bool)=>
 br t14 (
 br (decide (p2>=0)) (
 br (decide (p2<=256)) (
 br (decide (p3>=0)) (
 Q ((decide (p3<=(w64 (256-p2)))))) (
 Q false)) (
 Q false)) (
 Q false)) (
 Q false)
theorem F80_calls(p0:Option Addr)(p1:Int)(p2:Int)(p3:Int)(Q:Bool->Pr)(w:World)(h:F80 p0 p1 p2 p3 Q w):Calls Tryz.prog 80 #[(.pointer p0),(iv p1),(iv p2),(iv p3)] w (RetT [.c .bool] Q):=cF (an:=an80) Tryz.func80 (by kernel_rfl) h
def an81:An:=(.sq .z (.sq (.sq .z (.sq .z (.br (.sq .z .z) .z))) (.sq .z (.sq .z .z))))
def F81(p0:Option Addr)(p1:Int)(Q:Sl×Int->Pr):Pr:=
 deref p0 λa=>
 ldM (a.add 16) λt14=>
 mapAt (.int .i64) t14 (iv p1) .slice (.slice none 0 0) λ(t16:Sl) (t16ok:Bool)=>
 br t16ok (
 Q (t16,0)) (
 deref p0 λa_3=>
 ldP (a_3.add 0) λt25=>
 deref t25 λa_6=>
 ldP (a_6.add 1) λt28=>
 callF Tryz.prog 108 [(.pointer t28),(iv p1)] [.c .slice,.c I64] λ(t30:Sl×Int)=>
 callF Tryz.prog 109 [(.pointer p0),(iv t30.2)] [.c I64] λ(t36:Int)=>
 Q (t30.1,t36))
theorem F81_calls(p0:Option Addr)(p1:Int)(Q:Sl×Int->Pr)(w:World)(h:F81 p0 p1 Q w):Calls Tryz.prog 81 #[(.pointer p0),(iv p1)] w (RetT [.c .slice,.c I64] Q):=cF (an:=an81) Tryz.func81 (by kernel_rfl) h
def an27:An:=(.sq .z (.sq (.sq .z (.sq .z (.br (.sq .z .z) .z))) (.sq (.sq .z (.br (.sq .z .z) .z)) (.sq .z (.sq (.sq .z (.br (.sq .z .z) .z)) (.sq .z .z))))))
def F27(p0:Option Addr)(p1:Int)(p2:Int)(p3:Int)(Q:Sl×Int->Pr):Pr:=
 callF Tryz.prog 59 [(.pointer p0)] [.c I64] λ(t14:Int)=>
 br (t14 !=0) (
 Q (⟨none,0,0⟩,t14)) (
 callF Tryz.prog 80 [(.pointer p0),(iv p1),(iv p2),(iv p3)] [.c .bool] λ(t22:Bool)=>
 br (!t22) (
 Q (⟨none,0,0⟩,1)) (
 callF Tryz.prog 81 [(.pointer p0),(iv p1)] [.c .slice,.c I64] λ(t27:Sl×Int)=>
 br (t27.2 !=0) (
 Q (⟨none,0,0⟩,t27.2)) (
 slc 1 t27.1 (some p2) (some (w64 (p2+p3))) none λt38=>
 callF Tryz.prog 82 [(slV t38)] [.c .slice] λ(t39:Sl)=>
 Q (t39,0))))
theorem F27_calls(p0:Option Addr)(p1:Int)(p2:Int)(p3:Int)(Q:Sl×Int->Pr)(w:World)(h:F27 p0 p1 p2 p3 Q w):Calls Tryz.prog 27 #[(.pointer p0),(iv p1),(iv p2),(iv p3)] w (RetT [.c .slice,.c I64] Q):=cF (an:=an27) Tryz.func27 (by kernel_rfl) h
def an31:An:=(.sq .z (.sq (.sq .z (.sq .z (.br (.sq .z .z) .z))) (.sq (.bl (.sq .z (.br (.sq .z .z) (.sq .z (.br (.sq .z .z) (.sq .z (.br (.sq .z .z) .z))))))) (.sq .z (.sq (.sq .z (.br (.sq .z .z) .z)) (.sq .z (.sq .z (.sq .z (.sq .z .z)))))))))
def F31(p0:Option Addr)(p1:Int)(p2:Int)(p3:Sl)(Q:Int->Pr):Pr:=
 callF Tryz.prog 59 [(.pointer p0)] [.c I64] λ(t14:Int)=>
 br (t14 !=0) (
 Q t14) (
 deref p0 λa=>
 ldB (a.add 14) λt22=>
 br (!t22) (
 Q 100) (
 callF Tryz.prog 80 [(.pointer p0),(iv p1),(iv p2),(iv (p3.len:Int))] [.c .bool] λ(t30:Bool)=>
 br (!t30) (
 Q 1) (
 br ((p3.len:Int)==0) (
 Q 0) (
 callF Tryz.prog 81 [(.pointer p0),(iv p1)] [.c .slice,.c I64] λ(t39:Sl×Int)=>
 br (t39.2 !=0) (
 Q t39.2) (
 callF Tryz.prog 82 [(slV t39.1)] [.c .slice] λ(t46:Sl)=>
 slc 1 t46 (some p2) none none λt49=>
 cpy 1 t49 p3<|
 deref p0 λa_3=>
 ldM (a_3.add 16) λt55=>
 mapPut (.int .i64) t55 (iv p1) (slV t46)<|
 Q 0)))))
theorem F31_calls(p0:Option Addr)(p1:Int)(p2:Int)(p3:Sl)(Q:Int->Pr)(w:World)(h:F31 p0 p1 p2 p3 Q w):Calls Tryz.prog 31 #[(.pointer p0),(iv p1),(iv p2),(slV p3)] w (RetT [.c I64] Q):=cF (an:=an31) Tryz.func31 (by kernel_rfl) h
def an55:An:=(.sq .z (.sq (.sq (.jn [(11,.c .bool)] .z) (.br (.sq .z .z) .z)) (.sq .z .z)))
def F55(p0:Option Addr)(Q:Sl->Pr):Pr:=
 jn (S:=Bool) (λR=>
 callF Tryz.prog 56 [(.pointer p0)] [.c .bool] λ(t4:Bool)=>
 br t4 (
 R true) (
 deref p0 λa=>
 ldB (a.add 14) λt9=>
 R (!t9))) λs=>
 br s (
 Q (⟨none,0,0⟩)) (
 deref p0 λa_3=>
 ldM (a_3.add 16) λt15=>
 callF Tryz.prog 106 [(.map t15)] [.c .any] λ(t16:Value)=>
 callF Tryz.prog 105 [t16] [.c .slice] λ(t17:Sl)=>
 Q t17)
theorem F55_calls(p0:Option Addr)(Q:Sl->Pr)(w:World)(h:F55 p0 Q w):Calls Tryz.prog 55 #[(.pointer p0)] w (RetT [.c .slice] Q):=cF (an:=an55) Tryz.func55 (by kernel_rfl) h
def an18:An:=(.sq .z (.sq .z .z))
def F18(p0:Option Addr)(Q:Value->Pr):Pr:=
 callF Tryz.prog 55 [(.pointer p0)] [.c .slice] λ(t4:Sl)=>
 callF Tryz.prog 54 [(slV t4)] [.c .any] λ(t5:Value)=>
 Q t5
theorem F18_calls(p0:Option Addr)(Q:Value->Pr)(w:World)(h:F18 p0 Q w):Calls Tryz.prog 18 #[(.pointer p0)] w (RetT [.c .any] Q):=cF (an:=an18) Tryz.func18 (by kernel_rfl) h
def an61:An:=(.sq .z (.sq .z (.sq (.sq .z (.bl (.lp [(4,.c .slice),(13,.c (.int .i64))] (.sq .z (.sq (.br .z .z) (.sq (.bl (.sq .z (.sq .z (.sq (.sq .z (.br (.sq .z .z) .z)) (.sq .z (.sq (.sq .z (.br (.sq .z .z) .z)) .z)))))) .z)))))) (.sq .z .z))))
def F61(p0:Option Addr)(Q:Sl×Int->Pr):Pr:=
 callF Tryz.prog 55 [(.pointer p0)] [.c .slice] λ(t11:Sl)=>
 loopE (S:=Sl×Int) (λX s=>
 br (decide (s.2<(t11.len:Int))) (
 el t11 s.2 1 λa=>
 ldI a λt16=>
 deref p0 λa_2=>
 ldP (a_2.add 0) λt21=>
 deref t21 λa_5=>
 ldP (a_5.add 1) λt24=>
 callF Tryz.prog 108 [(.pointer t24),(iv t16)] [.c .slice,.c I64] λ(t26:Sl×Int)=>
 br (t26.2 !=0) (
 callF Tryz.prog 109 [(.pointer p0),(iv t26.2)] [.c I64] λ(t33:Int)=>
 Q (⟨none,0,0⟩,t33)) (
 deref p0 λa_8=>
 ldM (a_8.add 16) λt40=>
 mapAt (.int .i64) t40 (iv t16) .slice (.slice none 0 0) λ(t42:Sl) (t42ok:Bool)=>
 callF Tryz.prog 110 [(iv t16),(slV t26.1),(slV t42)] [.c .slice,.c I64] λ(t43:Sl×Int)=>
 br (t43.2 !=0) (
 Q (⟨none,0,0⟩,t43.2)) (
 app 109 5 56 [(iv 0),(iv 0),(iv 0),(.slice none 0 0),(iv 0)] s.1 t43.1 λt51=>
 X (t51,(w64 (s.2+1)))))) (
 Q (s.1,0))) (⟨none,0,0⟩,0)
theorem F61_calls(p0:Option Addr)(Q:Sl×Int->Pr)(w:World)(h:F61 p0 Q w):Calls Tryz.prog 61 #[(.pointer p0)] w (RetT [.c .slice,.c I64] Q):=cF (an:=an61) Tryz.func61 (by kernel_rfl) h
def an64:An:=(.sq .z (.sq .z (.sq .z (.bl (.sq .z (.br (.sq .z .z) (.sq .z (.br (.sq .z .z) (.sq .z .z)))))))))
def F64(p0:Option Addr)(p1:Sl)(Q:Int->Pr):Pr:=
 deref p0 λa=>
 ldP (a.add 0) λt9=>
 deref t9 λa_3=>
 ldP (a_3.add 0) λt12=>
 callF Tryz.prog 115 [(.pointer t12),(slV p1)] [.c I64] λ(t14:Int)=>
 br (t14==0) (
 deref p0 λa_6=>
 ldP (a_6.add 0) λt25=>
 deref t25 λa_9=>
 ldP (a_9.add 0) λt28=>
 callF Tryz.prog 116 [(.pointer t28)] [.c I64] λ(t29:Int)=>
 callF Tryz.prog 109 [(.pointer p0),(iv t29)] [.c I64] λ(t30:Int)=>
 Q t30) (
 br (t14==3) (
 Q 6) (
 callF Tryz.prog 109 [(.pointer p0),(iv t14)] [.c I64] λ(t18:Int)=>
 Q t18))
theorem F64_calls(p0:Option Addr)(p1:Sl)(Q:Int->Pr)(w:World)(h:F64 p0 p1 Q w):Calls Tryz.prog 64 #[(.pointer p0),(slV p1)] w (RetT [.c I64] Q):=cF (an:=an64) Tryz.func64 (by kernel_rfl) h
def an66:An:=(.sq .z (.sq (.sq .z (.bl (.rf [.c (.int .i64)] .z (.bl (.sq (.sq .z (.sq .z (.br (.sq .z .z) .z))) (.sq .z (.sq .z (.br (.sq .z .z) .z)))))))) (.sq .z .z)))
def F66(p0:Option Addr)(p1:Sl)(Q:Int->Pr):Pr:=
 owe (NotAgg (.pointer p0))<|nw (.cells #[(.pointer p0)] 40) λr=>
 owe (NotAgg (iv 0))<|nw (.cells #[(iv 0)] 29) λr_1=>
 callF Tryz.prog 117 [(slV p1)] [.c .any] λ(t9:Value)=>
 rngE Tryz.prog t9 [.c I64] (λl (z:Int) bg nx lv=>
 bg (
 drw<|
 ldP (bA r 0) λt11=>
 deref t11 λa_1=>
 ldP (a_1.add 0) λt14=>
 deref t14 λa_4=>
 ldP (a_4.add 1) λt17=>
 ldP (bA r 0) λt19=>
 deref t19 λa_8=>
 ldM (a_8.add 16) λt22=>
 mapAt (.int .i64) t22 (iv z) .slice (.slice none 0 0) λ(t24:Sl) (t24ok:Bool)=>
 callF Tryz.prog 118 [(.pointer t17),(iv z),(iv 0),(slV t24)] [.c I64] λ(t25:Int)=>
 br (t25 !=0) (
 ldP (bA r 0) λt28=>
 callF Tryz.prog 109 [(.pointer t28),(iv t25)] [.c I64] λ(t30:Int)=>
 st (bA r_1 0) (iv t30)<|
 lv none) (
 ldP (bA r 0) λt31=>
 deref t31 λa_14=>
 ldP (a_14.add 0) λt34=>
 deref t34 λa_17=>
 ldP (a_17.add 1) λt37=>
 callF Tryz.prog 119 [(.pointer t37)] [.c I64] λ(t38:Int)=>
 br (t38 !=0) (
 ldP (bA r 0) λt41=>
 callF Tryz.prog 109 [(.pointer t41),(iv t38)] [.c I64] λ(t43:Int)=>
 st (bA r_1 0) (iv t43)<|
 lv none) (
 nx)))) (λD=>
 st (bA r_1 0) (iv 0)<|
 takes [D]<|
 ldI (bA r_1 0) λres=>
 Q res) (λD=>
 takes [D]<|
 ldI (bA r_1 0) λres_1=>
 Q res_1) (λD=>[])
theorem F66_calls(p0:Option Addr)(p1:Sl)(Q:Int->Pr)(w:World)(h:F66 p0 p1 Q w):Calls Tryz.prog 66 #[(.pointer p0),(slV p1)] w (RetT [.c I64] Q):=cF (an:=an66) Tryz.func66 (by kernel_rfl) h
def an20:An:=(.sq .z (.sq (.sq .z (.sq .z (.br (.sq .z .z) .z))) (.sq (.sq .z (.br (.sq .z .z) .z)) (.sq .z (.sq .z (.sq (.bl (.sq .z (.br (.sq .z .z) (.sq .z (.br (.sq .z .z) (.sq .z (.br (.sq .z .z) .z))))))) (.sq (.jn [] (.sq .z (.br (.sq .z (.sq .z (.br (.sq .z .z) .z))) .z))) (.sq (.sq .z (.sq .z (.br (.sq .z .z) .z))) (.sq .z .z)))))))))
def F20(p0:Option Addr)(Q:Int->Pr):Pr:=
 callF Tryz.prog 59 [(.pointer p0)] [.c I64] λ(t9:Int)=>
 br (t9 !=0) (
 Q t9) (
 deref p0 λa=>
 ldB (a.add 14) λt16=>
 br (!t16) (
 Q 100) (
 callF Tryz.prog 61 [(.pointer p0)] [.c .slice,.c I64] λ(t21:Sl×Int)=>
 br (t21.2 !=0) (
 callD Tryz.prog .returning 60 [(.pointer p0)]<|
 Q t21.2) (
 br ((t21.1.len:Int)==0) (
 callD Tryz.prog .returning 60 [(.pointer p0)]<|
 Q 0) (
 deref p0 λa_3=>
 ldI (a_3.add 4) λt40=>
 br (decide ((t21.1.len:Int)>=(w64 (4*t40)))) (
 callD Tryz.prog .returning 60 [(.pointer p0)]<|
 Q 101) (
 jn (S:=Unit) (λR=>
 deref p0 λa_8=>
 ldP (a_8.add 0) λt49=>
 deref t49 λa_11=>
 ldP (a_11.add 0) λt52=>
 callF Tryz.prog 62 [(.pointer t52)] [.c I64] λ(t53:Int)=>
 br (decide ((w64 ((t21.1.len:Int)+1))>t53)) (
 callF Tryz.prog 63 [(.pointer p0)] [.c I64] λ(t56:Int)=>
 br (t56 !=0) (
 callD Tryz.prog .returning 60 [(.pointer p0)]<|
 Q t56) (
 R ())) (
 R ())) λs=>
 callF Tryz.prog 65 [(slV t21.1)] [.c .slice] λ(t62:Sl)=>
 nw (.cells #[(iv 2),(iv 0),(iv 0),(.slice none 0 0),(iv (t21.1.len:Int))] 109) λr=>
 app 109 5 56 [(iv 0),(iv 0),(iv 0),(.slice none 0 0),(iv 0)] t62 ⟨(some ⟨r,0,none⟩),1,1⟩ λt67=>
 callF Tryz.prog 64 [(.pointer p0),(slV t67)] [.c I64] λ(t68:Int)=>
 br (t68 !=0) (
 callD Tryz.prog .returning 60 [(.pointer p0)]<|
 Q t68) (
 callF Tryz.prog 66 [(.pointer p0),(slV t21.1)] [.c I64] λ(t74:Int)=>
 callD Tryz.prog .returning 60 [(.pointer p0)]<|
 Q t74))))))
theorem F20_calls(p0:Option Addr)(Q:Int->Pr)(w:World)(h:F20 p0 Q w):Calls Tryz.prog 20 #[(.pointer p0)] w (RetT [.c I64] Q):=cF (an:=an20) Tryz.func20 (by kernel_rfl) h
def an63:An:=(.sq .z (.sq (.sq .z (.br (.sq .z .z) .z)) (.sq (.sq .z (.sq .z (.br (.sq .z .z) .z))) (.sq .z (.sq .z (.sq (.sq .z (.br (.sq .z .z) .z)) (.sq (.sq .z (.sq .z (.br (.sq .z .z) .z))) (.sq .z (.sq .z .z)))))))))
def F63(p0:Option Addr)(Q:Int->Pr):Pr:=
 callF Tryz.prog 19 [(.pointer p0)] [.c I64] λ(t9:Int)=>
 br (t9==0) (
 Q 0) (
 deref p0 λa=>
 ldP (a.add 1) λt14=>
 callF Tryz.prog 112 [(.pointer t14)] [.c I64] λ(t15:Int)=>
 br (t15 !=0) (
 callF Tryz.prog 109 [(.pointer p0),(iv t15)] [.c I64] λ(t20:Int)=>
 Q t20) (
 deref p0 λa_3=>
 ldP (a_3.add 0) λt24=>
 deref t24 λa_6=>
 ldP (a_6.add 0) λt27=>
 callF Tryz.prog 57 [(.pointer t27)] [.c I64] λ(t28:Int)=>
 deref p0 λa_9=>
 ldA [I64,I64,I64,I64,I64,I64] (a_9.add 2) λ(t33:Int×Int×Int×Int×Int×Int)=>
 callF Tryz.prog 113 [(.agg #[(iv t33.1),(iv t33.2.1),(iv t33.2.2.1),(iv t33.2.2.2.1),(iv t33.2.2.2.2.1),(iv t33.2.2.2.2.2)]),(iv t28)] [.agg [I64,I64,I64,I64,I64,I64],.c I64] λ(t35:(Int×Int×Int×Int×Int×Int)×Int)=>
 nvs 61 [(iv 0),(iv 0),(iv 0),(iv 0),(iv 0),(iv 0)] [(iv t35.1.1),(iv t35.1.2.1),(iv t35.1.2.2.1),(iv t35.1.2.2.2.1),(iv t35.1.2.2.2.2.1),(iv t35.1.2.2.2.2.2)] λr=>
 br (t35.2 !=0) (
 Q 6) (
 drw<|
 deref p0 λa_13=>
 ldP (a_13.add 1) λt43=>
 ldA [I64,I64,I64,I64,I64,I64] (bA r 0) λ(t44:Int×Int×Int×Int×Int×Int)=>
 callF Tryz.prog 77 [(.pointer t43),(.agg #[(iv t44.1),(iv t44.2.1),(iv t44.2.2.1),(iv t44.2.2.2.1),(iv t44.2.2.2.2.1),(iv t44.2.2.2.2.2)])] [.c I64] λ(t45:Int)=>
 br (t45 !=0) (
 callF Tryz.prog 109 [(.pointer p0),(iv t45)] [.c I64] λ(t50:Int)=>
 Q t50) (
 ldA [I64,I64,I64,I64,I64,I64] (bA r 0) λ(t52:Int×Int×Int×Int×Int×Int)=>
 deref p0 λa_18=>
 st (a_18.add 2) (iv t52.1)<|
 st (a_18.add 3) (iv t52.2.1)<|
 st (a_18.add 4) (iv t52.2.2.1)<|
 st (a_18.add 5) (iv t52.2.2.2.1)<|
 st (a_18.add 6) (iv t52.2.2.2.2.1)<|
 st (a_18.add 7) (iv t52.2.2.2.2.2)<|
 deref p0 λa_21=>
 ldP (a_21.add 0) λt58=>
 deref t58 λa_24=>
 ldP (a_24.add 0) λt61=>
 callF Tryz.prog 114 [(.pointer t61),(iv t28)] [.c I64] λ(t63:Int)=>
 Q t63))))
theorem F63_calls(p0:Option Addr)(Q:Int->Pr)(w:World)(h:F63 p0 Q w):Calls Tryz.prog 63 #[(.pointer p0)] w (RetT [.c I64] Q):=cF (an:=an63) Tryz.func63 (by kernel_rfl) h
def an19:An:=(.sq .z (.sq (.sq .z (.br (.sq .z .z) .z)) (.sq (.rj [⟨false,[7,11],[7,11,12,13,14],[(12,.c (.int .i64)),(19,.c .ptr)]⟩]) .z)))
def F19(p0:Option Addr)(Q:Int->Pr):Pr:=
 callF Tryz.prog 56 [(.pointer p0)] [.c .bool] λ(t4:Bool)=>
 br t4 (
 Q 0) (
 drw<|
 deref p0 λa=>
 ldP (a.add 0) λt8=>
 deref t8 λa_3=>
 ldP (a_3.add 0) λt11=>
 deref p0 λa_6=>
 jn (S:=Int×Option Addr) (λR=>
 both (
 callF Tryz.prog 57 [(.pointer t11)] [.c I64] λ(t12:Int)=>
 ldP (a_6.add 0) λt16=>
 deref t16 λa_9=>
 ldP (a_9.add 0) λt19=>
 R (t12,t19)) (
 ldP (a_6.add 0) λt16_1=>
 deref t16_1 λa_13=>
 both (
 callF Tryz.prog 57 [(.pointer t11)] [.c I64] λ(t12_1:Int)=>
 ldP (a_13.add 0) λt19_1=>
 R (t12_1,t19_1)) (
 ldP (a_13.add 0) λt19_2=>
 callF Tryz.prog 57 [(.pointer t11)] [.c I64] λ(t12_2:Int)=>
 R (t12_2,t19_2)))) λs=>
 callF Tryz.prog 58 [(.pointer s.2)] [.c I64] λ(t20:Int)=>
 Q ((w64 (s.1-t20))))
theorem F19_calls(p0:Option Addr)(Q:Int->Pr)(w:World)(h:F19 p0 Q w):Calls Tryz.prog 19 #[(.pointer p0)] w (RetT [.c I64] Q):=cF (an:=an19) Tryz.func19 (by kernel_rfl) h
def an32:An:=(.sq .z (.sq (.sq .z (.br (.sq .z .z) .z)) (.sq .z .z)))
def F32(p0:Option Addr)(Q:Int×Int×Int×Int×Int×Int->Pr):Pr:=
 nw (.cells #[(iv 0),(iv 0),(iv 0),(iv 0),(iv 0),(iv 0)] 38) λr=>
 callF Tryz.prog 56 [(.pointer p0)] [.c .bool] λ(t4:Bool)=>
 br t4 (
 stB r 0 [(iv 0),(iv 0),(iv 0),(iv 0),(iv 0),(iv 0)]<|
 ldA [I64,I64,I64,I64,I64,I64] (bA r 0) λ(res:Int×Int×Int×Int×Int×Int)=>
 Q (res)) (
 deref p0 λa_2=>
 ldA [I64,I64,I64,I64,I64,I64] (a_2.add 8) λ(t9:Int×Int×Int×Int×Int×Int)=>
 stB r 0 [(iv t9.1),(iv t9.2.1),(iv t9.2.2.1),(iv t9.2.2.2.1),(iv t9.2.2.2.2.1),(iv t9.2.2.2.2.2)]<|
 ldA [I64,I64,I64,I64,I64,I64] (bA r 0) λ(res_1:Int×Int×Int×Int×Int×Int)=>
 Q (res_1))
theorem F32_calls(p0:Option Addr)(Q:Int×Int×Int×Int×Int×Int->Pr)(w:World)(h:F32 p0 Q w):Calls Tryz.prog 32 #[(.pointer p0)] w (RetT [.agg [I64,I64,I64,I64,I64,I64]] Q):=cF (an:=an32) Tryz.func32 (by kernel_rfl) h
def an33:An:=(.sq .z (.sq (.sq .z (.br (.sq .z .z) .z)) (.sq .z .z)))
def F33(p0:Option Addr)(Q:Int×Int×Int×Int->Pr):Pr:=
 nw (.cells #[(iv 0),(iv 0),(iv 0),(iv 0)] 23) λr=>
 callF Tryz.prog 56 [(.pointer p0)] [.c .bool] λ(t4:Bool)=>
 br t4 (
 stB r 0 [(iv 0),(iv 0),(iv 0),(iv 0)]<|
 ldA [I64,I64,I64,I64] (bA r 0) λ(res:Int×Int×Int×Int)=>
 Q (res)) (
 deref p0 λa_2=>
 ldA [I64,I64,I64,I64] (a_2.add 3) λ(t10:Int×Int×Int×Int)=>
 stB r 0 [(iv t10.1),(iv t10.2.1),(iv t10.2.2.1),(iv t10.2.2.2)]<|
 ldA [I64,I64,I64,I64] (bA r 0) λ(res_1:Int×Int×Int×Int)=>
 Q (res_1))
theorem F33_calls(p0:Option Addr)(Q:Int×Int×Int×Int->Pr)(w:World)(h:F33 p0 Q w):Calls Tryz.prog 33 #[(.pointer p0)] w (RetT [.agg [I64,I64,I64,I64]] Q):=cF (an:=an33) Tryz.func33 (by kernel_rfl) h
def an34:An:=(.sq .z (.sq (.sq .z (.br (.sq .z .z) .z)) (.sq .z .z)))
def F34(p0:Option Addr)(Q:Option Addr->Pr):Pr:=
 callF Tryz.prog 56 [(.pointer p0)] [.c .bool] λ(t4:Bool)=>
 br t4 (
 Q none) (
 deref p0 λa=>
 ldP (a.add 1) λt8=>
 Q t8)
theorem F34_calls(p0:Option Addr)(Q:Option Addr->Pr)(w:World)(h:F34 p0 Q w):Calls Tryz.prog 34 #[(.pointer p0)] w (RetT [.c .ptr] Q):=cF (an:=an34) Tryz.func34 (by kernel_rfl) h
def an106:An:=(.sq .z (.sq .z .z))
def F106(p0:Option Nat)(Q:Value->Pr):Pr:=
 owe (NotAgg (.map p0))<|nw (.cells #[(.map p0)] 62) λr=>
 Q ((.func (.func 163) #[] #[(.pointer (some ⟨r,0,none⟩))]))
theorem F106_calls(p0:Option Nat)(Q:Value->Pr)(w:World)(h:F106 p0 Q w):Calls Tryz.prog 106 #[(.map p0)] w (RetT [.c .any] Q):=cF (an:=an106) Tryz.func106 (by kernel_rfl) h
def an163:An:=(.sq .z (.bl (.lp [] (.sq .z (.sq (.br .z .z) (.bl (.sq .z (.sq .z (.br .z .z)))))))))
def F163(p0:Value)(p1:Option Addr)(Q:Unit->Pr):Pr:=
 deref p1 λa=>
 ldM a λt4=>
 mrange t4 λit=>
 loopE (S:=Unit) (λX s=>
 mnext (bA it 0) (
 Q ()) λen=>
 mentry (bA it 0) λen_1=>
 sayC I64 en_1.key λ(key:Int)=>
 callV Tryz.prog p0 [(iv key)] [.c .bool] λ(t12:Bool)=>
 br (!t12) (
 Q ()) (
 X ())) ()
theorem F163_calls(p0:Value)(p1:Option Addr)(Q:Unit->Pr)(w:World)(h:F163 p0 p1 Q w):Calls Tryz.prog 163 #[p0,(.pointer p1)] w (RetT [] Q):=cF (an:=an163) Tryz.func163 (by kernel_rfl) h
set_option maxRecDepth 20000
structure DG(D D':DM)(N M:Nat):Prop where
 db:DB (N+M) D'
 len:D'.blocks.length=D.blocks.length
theorem DG.refl{D:DM}{N:Nat}(h:DB N D)(M:Nat):DG D D N M:=⟨h.le (by omega),rfl⟩
theorem DG.trans{D E F:DM}{N M K:Nat}(h:DG D E N M)(k:DG E F (N+M) K):DG D F N (M+K):=⟨k.db.le (by omega),k.len.trans h.len⟩
theorem DG.mono{D E:DM}{N M K:Nat}(h:DG D E N M)(hm:M<=K):DG D E N K:=⟨h.db.le (by omega),h.len⟩
theorem writeD_dg{D:DM}{N:Nat}(h:DB N D)(i:Int)(l:List UInt8):DG D (writeD D i l).2 N 2:=
 let⟨a,b,c⟩:=writeD_ok h.ok h.bd i l
 ⟨⟨a,b⟩,c⟩
theorem flushB_len:∀(ws:List (Int×List UInt8)) (bs:List (List UInt8)),(flushB bs ws).length=bs.length
 |[],_=>rfl
 |x::ws,bs=>by
  show(flushB (bs.set x.1.toNat x.2) ws).length=_;rw[flushB_len ws,List.length_set]
theorem flushB_256:∀(ws:List (Int×List UInt8)) (bs:List (List UInt8)),(∀b∈bs,b.length=256)->(∀x∈ws,x.2.length=256)->∀b∈flushB bs ws,b.length=256
 |[],_,h,_=>h
 |x::ws,bs,h,hw=>by
  refine flushB_256 ws (bs.set x.1.toNat x.2) (λb hb=>?_) λy hy=>hw y (List.mem_cons_of_mem _ hy);rcases List.mem_or_eq_of_mem_set hb with h1|h1
  ·exact h b h1
  ·rw[h1];exact hw x (List.mem_cons_self ..)
theorem flushD_dg{D:DM}{N:Nat}(h:DB N D):DG D (flushD D).2 N 1:=by
 obtain⟨g1,g2,g3⟩:=goesD_ok h.ok h.bd;unfold flushD;split
 ·exact .refl h 1
 ·split
  ·exact⟨⟨g1,g2⟩,g3⟩
  ·refine⟨⟨⟨flushB_256 _ _ h.ok.len λx hx=>(h.ok.wlen x hx).2.2,λx hx=>by simp at hx,?_,?_⟩,⟨g2.armed,g2.ops,by simp⟩⟩,flushB_len ..⟩
   ·show 1<=(flushB _ _).length
    rw[flushB_len];exact h.ok.pos
   ·show(flushB _ _).length<=2048
    rw[flushB_len];exact h.ok.le
theorem wrC'{dp:Nat}{D:DM}{i:Int}{b:Sl}{l:List UInt8}{N:Nat}{w0 w:World}{F0:Nat->Prop}{L:List HA}{k:Int->Pr}(h:St F0 w0 w (DiskA dp D::SlA 1 b (l.map ub)::L))(hd:DB N D)(hN:N<=10000000)
 (hk:∀w',St F0 w0 w' (DiskA dp (writeD D i l).2::SlA 1 b (l.map ub)::L)->k (writeD D i l).1 w'):callF Tryz.prog 132 [P0 dp,iv i,slV b] [.c (.int .i64)] k w:=by
 obtain⟨G,H,g2,g3,g4,_,gc⟩:=St.call [DiskA dp D] h;refine callF_of (C40' dp D i b l w G g2 (Rd.own g3 g4) hd.ok (by have:=hd.bd.wait;omega) hd.bd.armed.1 hd.bd.armed.2 ⟨hd.bd.ops.1,by have:=hd.bd.ops.2;omega⟩) ?_;rintro e w2 ⟨he,s6⟩;subst he;exact hk w2 (gc _ _ s6)
theorem flC'{dp:Nat}{D:DM}{N:Nat}{w0 w:World}{F0:Nat->Prop}{L:List HA}{k:Int->Pr}(h:St F0 w0 w (DiskA dp D::L))(hd:DB N D)(hN:N<=10000000)
 (hk:∀w',St F0 w0 w' (DiskA dp (flushD D).2::L)->k (flushD D).1 w'):callF Tryz.prog 112 [P0 dp] [.c (.int .i64)] k w:=by
 obtain⟨G,H,g2,g3,g4,_,gc⟩:=St.call [DiskA dp D] h;refine callF_of (V112 dp D N w G g2 hd hN) ?_;rintro e w2 ⟨he,s6⟩;subst he;exact hk w2 (gc _ _ s6)
theorem rdC'{dp:Nat}{D:DM}{i:Int}{N:Nat}{w0 w:World}{F0:Nat->Prop}{L:List HA}{k:Sl×Int->Pr}(h:St F0 w0 w (DiskA dp D::L))(hd:DB N D)(hN:N<=10000000)
 (hk:∀b w',St F0 w0 w' (SlA 1 b ((if placeE D i=0 then rdD D i else[]).map ub)::DiskA dp D::L)->k (b,placeE D i) w'):callF Tryz.prog 121 [P0 dp,iv i] [.c .slice,.c (.int .i64)] k w:=by
 obtain⟨G,H,g2,g3,g4,_,gc⟩:=St.call [DiskA dp D] h;refine callF_of (C35 dp D i w G g2 hd.ok (by have:=hd.bd.wait;omega)) ?_;rintro⟨b,e⟩ w2 ⟨he,s6⟩;dsimp only at he s6;subst he;exact hk b w2 (h.call0 s6)
theorem lnC'{dp:Nat}{D:DM}{w0 w:World}{F0:Nat->Prop}{L:List HA}{k:Int->Pr}(h:St F0 w0 w (DiskA dp D::L))(hk:k D.blocks.length w):callF Tryz.prog 83 [P0 dp] [.c (.int .i64)] k w:=by
 obtain⟨G,H,g2,_⟩:=St.call [DiskA dp D] h;exact callF_of (C67 dp D w G g2) λ_ _ ⟨e,e'⟩=>by subst e e';exact hk
def noteD(D:DM)(s:Sup):Int×DM:=if supE s≠0 then(supE s,D)else if(writeD D (slotS s) (bytesS s)).1≠0 then writeD D (slotS s) (bytesS s)else flushD (writeD D (slotS s) (bytesS s)).2
theorem noteD_dg{D:DM}{N:Nat}(h:DB N D)(s:Sup):DG D (noteD D s).2 N 3:=by
 have h1:=writeD_dg h (slotS s) (bytesS s);unfold noteD;split
 ·exact .refl h 3
 ·split
  ·exact h1.mono (by omega)
  ·exact h1.trans (flushD_dg h1.db)
theorem V77{dp:Nat}{D:DM}{s:Sup}{N:Nat}{w:World}{F:Nat->Prop}(hh:Has [DiskA dp D] w F)(hd:DB N D)(hN:N<=1000000):
 Calls Tryz.prog 77 #[P0 dp,s.v] w (RetT [.c (.int .i64)] λx w'=>x=(noteD D s).1/\St F w w' [DiskA dp (noteD D s).2]):=by
 refine F77_calls _ s.1 s.2.1 s.2.2.1 s.2.2.2.1 s.2.2.2.2.1 s.2.2.2.2.2 _ _ ?_;unfold F77 noteD;refine St.nw (St.init hh) λr w1 s1 _ _=>?_;have s1:St F w w1 [BoxA r (pcells s),DiskA dp D]:=s1;refine s1.LA 0 rfl (p:=s) rfl ?_;refine callF_of (V133 s w1) ?_;rintro⟨t,e⟩ w2 ⟨he,hP⟩;dsimp only at he hP;subst he;rcases hP with⟨h1,rfl,g⟩|⟨h1,k⟩
 ·rw[if_pos h1]
  exact br_t (by simpa using h1) ⟨rfl,(s1.grow g).drop⟩
 ·rw[if_neg (λh=>h h1)]
  refine br_f (by simp[h1]) ?_;have s2:=s1.call0 k;have s2:St F w w2 [SlA 1 t ((bytesS s).map ub),BoxA r (pcells s),DiskA dp D]:=s2;refine s2.LA 1 rfl (p:=s) rfl ?_;refine callF_of (V134 s w2) ?_;rintro _ w3 ⟨rfl,g3⟩;have s3:=(s2.grow g3).sel [2,0] 3;refine wrC' s3 hd (by omega) λw4 s4=>?_;have h1:=writeD_dg hd (slotS s) (bytesS s);refine br_of (λhne=>?_) λheq=>?_
  ·rw[if_pos (by simpa using hne)]
   exact⟨rfl,s4.sel [0] 2⟩
  ·rw[if_neg (by simpa using heq)]
   refine flC' s4 h1.db (by omega) λw5 s5=>⟨rfl,s5.sel [0] 2⟩
def noughtD:Nat->DM->Int->Int×DM
 |0,D,_=>flushD D
 |f+1,D,i=>if(writeD D i zero256).1≠0 then writeD D i zero256 else noughtD f (writeD D i zero256).2 (i+1)
theorem noughtD_dg:∀(f:Nat) {D:DM} {N:Nat} (_:DB N D) (i:Int),DG D (noughtD f D i).2 N (2*f+1)
 |0,_,_,h,_=>flushD_dg h
 |f+1,D,N,h,i=>by
  have h1:=writeD_dg h i zero256;unfold noughtD;split
  ·exact h1.mono (by omega)
  ·exact(h1.trans (noughtD_dg f h1.db (i+1))).mono (by omega)
theorem V84{dp:Nat}{D:DM}{i j:Int}{N:Nat}{w:World}{F:Nat->Prop}(hh:Has [DiskA dp D] w F)(hd:DB N D)(hN:N<=1000000)(hi:0<=i)(hij:j<=100000):
 Calls Tryz.prog 84 #[P0 dp,iv i,iv j] w (RetT [.c (.int .i64)] λx w'=>x=(noughtD (j-i).toNat D i).1/\St F w w' [DiskA dp (noughtD (j-i).toNat D i).2]):=by
 refine F84_calls _ _ _ _ _ ?_;unfold F84;refine loop_of (λc W=>∃(D':DM) (N':Nat),i<=c/\(c<=j\/c=i)/\DB N' D'/\N'+2*(j-c).toNat<=N+2*(j-i).toNat/\noughtD (j-i).toNat D i=noughtD (j-c).toNat D' c/\St F w W [DiskA dp D']) (λc _=>(j-c).toNat)
  ⟨D,N,by omega,.inr rfl,hd,by omega,rfl,St.init hh⟩ ?_
 rintro c W ⟨D',N',h1,h2,hd',hb,hX,s1⟩;refine br_of (λhlt=>?_) λhge=>?_
 ·have hlt:c<j:=by simpa using hlt
  have hf:(j-c).toNat=(j-(c+1)).toNat+1:=by omega
  rw[hf,noughtD]at hX;refine s1.mkSi 256 rfl rfl (by decide) (by decide) λt w2 s2 _=>?_;rw[show zc [uv 0] 256=zero256.map ub from zc_u8 256]at s2;refine wrC' (s2.sel [1,0] 2) hd' (by omega) λw3 s3=>?_;refine br_of (λhne=>?_) λheq=>?_
  ·rw[if_pos (by simpa using hne)]at hX
   rw[hX];exact⟨rfl,s3.sel [0] 2⟩
  ·rw[if_neg (by simpa using heq)]at hX
   rw[w64_of (n:=c+1) ⟨by omega,by omega⟩];exact⟨⟨_,N'+2,by omega,by omega,(writeD_dg hd' _ _).db,by omega,hX,s3.sel [0] 2⟩,by omega⟩
 ·have hge:j<=c:=by simpa using hge
  rw[show(j-c).toNat=0 by omega,noughtD]at hX;rw[hX];exact flC' s1 hd' (by omega) λw5 s5=>⟨rfl,s5⟩
def readyE(D:DM):Int:=if D.off then 5 else 0
theorem V69{dp:Nat}{D:DM}{w:World}{F:Nat->Prop}(hh:Has [DiskA dp D] w F)(hd:D.ok):
 Calls Tryz.prog 69 #[P0 dp] w (RetT [.c (.int .i64)] λx w'=>x=readyE D/\w=w'):=by
 refine F69_calls _ _ _ ?_;unfold F69;have:=hd.pos;refine lnC' (St.init hh) (br_f (beq_eq_false_iff_ne.2 (by omega)) ?_);refine callF_of (V53 dp D w F hh hd) ?_;rintro _ _ ⟨rfl,rfl⟩;unfold readyE;cases D.off
 ·exact br_f rfl ⟨rfl,rfl⟩
 ·exact br_t rfl ⟨rfl,rfl⟩
def chosenS(D:DM):Sup×Int:=
 if D.blocks.length<2 then(Sup0,50)else if D.off then(Sup0,5)else
  ((chooseS (rdD D 0) (rdD D 1)).1,if(chooseS (rdD D 0) (rdD D 1)).2=0/\(D.blocks.length:Int)≠(chooseS (rdD D 0) (rdD D 1)).1.2.1 then 50 else(chooseS (rdD D 0) (rdD D 1)).2)
theorem V70{dp:Nat}{D:DM}{N:Nat}{w:World}{F:Nat->Prop}(hh:Has [DiskA dp D] w F)(hd:DB N D)(hN:N<=1000000):
 Calls Tryz.prog 70 #[P0 dp] w (RetT [.agg [.int .i64,.int .i64,.int .i64,.int .i64,.int .i64,.int .i64],.c (.int .i64)] λx w'=>x=chosenS D/\Grow w w'):=by
 refine F70_calls _ _ _ ?_;unfold F70 chosenS;refine St.nw (St.init0 w) λr w1 s1 _ _=>?_;have s1:St noF w w1 [BoxA r (pcells Sup0)]:=s1;have hwl:=hd.bd.wait;have lenC:∀{W:World} {k:Int->Pr},Grow w W->k D.blocks.length W->callF Tryz.prog 83 [P0 dp] [.c (.int .i64)] k W:=λg hk=>callF_of (C67 dp D _ F (hh.mod g λ_ _ h=>h)) λ_ _ ⟨e,e'⟩=>by subst e e';exact hk
 refine lenC s1.gro (br_of (λh=>?_) λh=>?_)
 ·rw[if_pos (by have:=of_decide_eq_true h;omega)]
  exact s1.SB 0 rfl rfl (na_p Sup0) λw2 s2=>St.LA 0 s2 rfl (p:=Sup0) rfl ⟨rfl,s2.gro⟩
 have h2:¬D.blocks.length<2:=by have:=of_decide_eq_false h;omega
 rw[if_neg h2];have hpe:∀i:Int,0<=i->i<2->placeE D i=if D.off then 5 else 0:=λi h0 h1=>by
  unfold placeE;rw[if_neg (show¬(i<0\/i>=D.blocks.length) by omega)]
 refine callF_of (C35 dp D 0 w1 F (hh.mod s1.gro λ_ _ h=>h) hd.ok (by omega)) ?_;rintro⟨t0,e0⟩ w2 ⟨he0,k2⟩;dsimp only at he0 k2;rw[hpe 0 (by omega) (by omega)]at he0 k2;have s2:=s1.call0 k2;refine callF_of (C35 dp D 1 w2 F (hh.mod s2.gro λ_ _ h=>h) hd.ok (by omega)) ?_;rintro⟨t1,e1⟩ w3 ⟨he1,k3⟩;dsimp only at he1 k3;rw[hpe 1 (by omega) (by omega)]at he1 k3;have s3:=s2.call0 k3;cases ho:D.off
 ·rw[ho]at he0 he1 k2 k3 s3
  have he0:e0=0:=he0;have he1:e1=0:=he1;subst he0 he1;have s3:St noF w w3 [SlA 1 t1 ((rdD D 1).map ub),SlA 1 t0 ((rdD D 0).map ub),BoxA r (pcells Sup0)]:=s3;refine jn_of (λb W=>b=false/\W=w3) ⟨rfl,rfl⟩ ?_;rintro _ _ ⟨rfl,rfl⟩;refine br_f rfl ?_;have l0:=rdD_len hd.ok (i:=0) (by omega) (by omega);have l1:=rdD_len hd.ok (i:=1) (by omega) (by omega);rw[if_neg (by decide)];refine callF_of (V122 t0 t1 _ _ _ (s3.bring 1).sl.bs s3.sl.bs (s3.bring 1).sl.le s3.sl.le (by omega) (by omega)) ?_;rintro C w4 ⟨hC,g4⟩;rw[<-hC];refine((s3.grow g4).sel [2] 3).nvs rfl (na_p C.1) λr1 w5 s5=>?_;have s5:St noF w w5 [BoxA r1 (pcells C.1),BoxA r (pcells Sup0)]:=s5;refine jn_of (λe W=>e=(if C.2=0/\(D.blocks.length:Int)≠C.1.2.1 then 50 else C.2)/\St noF w W [BoxA r1 (pcells C.1),BoxA r (pcells Sup0)]) ?_ ?_
  ·refine jn_of (λb W=>b=decide (C.2=0/\(D.blocks.length:Int)≠C.1.2.1)/\St noF w W [BoxA r1 (pcells C.1),BoxA r (pcells Sup0)]) ?_ ?_
   ·rw[drw_def]
    have s6:=s5.drew;refine br_of (λh=>?_) λh=>?_
    ·have h:C.2=0:=by simpa using h
     have fin:((D.blocks.length:Int)!=C.1.2.1)=decide (C.2=0/\(D.blocks.length:Int)≠C.1.2.1):=by
      by_cases hl:(D.blocks.length:Int)=C.1.2.1<;>simp[h,hl]
     refine⟨lenC s6.gro (s6.L 0 rfl (p:=C.1.2.1) rfl ⟨fin,s6⟩),s6.L 0 rfl (p:=C.1.2.1) rfl (lenC s6.gro ⟨fin,s6⟩)⟩
    ·have h:C.2≠0:=by simpa using h
     exact⟨⟨by simp[h],s6⟩,⟨by simp[h],s6⟩⟩
   rintro _ w6 ⟨rfl,s6⟩;refine br_of (λh=>?_) λh=>?_
   ·rw[if_pos (of_decide_eq_true h)];exact⟨rfl,s6⟩
   ·rw[if_neg (of_decide_eq_false h)];exact⟨rfl,s6⟩
  rintro e w6 ⟨rfl,s6⟩;refine s6.LA 0 rfl (p:=C.1) rfl ?_;exact s6.SB 1 rfl rfl (na_p C.1) λw7 s7=>St.LA 1 s7 rfl (p:=C.1) rfl ⟨rfl,s7.gro⟩
 ·rw[ho]at he0 he1
  have he0:e0=5:=he0;subst he0;refine jn_of (λb W=>b=true/\W=w3) ⟨rfl,rfl⟩ ?_;rintro _ _ ⟨rfl,rfl⟩;refine br_t rfl ?_;rw[if_pos rfl];exact(s3.sel [2] 3).SB 0 rfl rfl (na_p Sup0) λw4 s4=>St.LA 0 s4 rfl (p:=Sup0) rfl ⟨rfl,s4.gro⟩
def usableS(p:PlanT)(b:Int):Prop:=b=2\/p.2.1<=b/\b<p.2.2.2.2.2
instance(p:PlanT)(b:Int):Decidable (usableS p b):=by unfold usableS;exact inferInstance
theorem V74(p:PlanT)(b:Int)(w:World):Calls Tryz.prog 74 #[.agg #[iv p.1,iv p.2.1,iv p.2.2.1,iv p.2.2.2.1,iv p.2.2.2.2.1,iv p.2.2.2.2.2],iv b] w (RetT [.c .bool] λx w'=>x=decide (usableS p b)/\Grow w w'):=by
 refine F74_calls p.1 p.2.1 p.2.2.1 p.2.2.2.1 p.2.2.2.2.1 p.2.2.2.2.2 b _ _ ?_;unfold F74;refine St.nw (St.init0 w) λr w1 s1 _ _=>?_;have s1:St noF w w1 [BoxA r (pcells p)]:=s1;unfold usableS;refine br_of (λh=>?_) λh=>?_
 ·have h:b=2:=by simpa using h
  exact⟨(dec_true (.inl h)),s1.gro⟩
 ·have h:b≠2:=by simpa using h
  refine s1.L 0 rfl (p:=p.2.1) rfl ?_;refine br_of (λk=>?_) λk=>?_
  ·have k:=of_decide_eq_true k
   exact s1.L 0 rfl (p:=p.2.2.2.2.2) rfl ⟨decide_eq_decide.2 (by omega),s1.gro⟩
  ·have k:=of_decide_eq_false k
   exact⟨(decide_eq_false (by omega:¬(b=2\/p.2.1<=b/\b<p.2.2.2.2.2))).symm,s1.gro⟩
theorem planT_le{g:Geo}(h:geoE g=0):(planT g).2.2.2.2.1<=2048:=by
 have hR:=geoE_R h;unfold geoE at h;split at h
 ·rename_i h'
  have h1:=h'.2.1;have h2:=h'.2.2;unfold geoR at hR;simp only[planT]at h1⊢;omega
 ·cases h
def formatD(D:DM)(g:Geo):Int×DM:=
 if D.off then(5,D)else if geoE g≠0 then(40,D)else if(D.blocks.length:Int)≠g.1 then(1,D)else
 let a:=noughtD 2 D 0
 if a.1≠0 then a else
 let b:=noughtD ((planT g).2.2.2.2.1-2).toNat a.2 2
 if b.1≠0 then b else noteD b.2 (firstS g).1
theorem V37{dp:Nat}{D:DM}{g:Geo}{N:Nat}{w:World}{F:Nat->Prop}(hh:Has [DiskA dp D] w F)(hd:DB N D)(hN:N<=500000):
 Calls Tryz.prog 37 #[P0 dp,g.v] w (RetT [.c (.int .i64)] λx w'=>x=(formatD D g).1/\St F w w' [DiskA dp (formatD D g).2]):=by
 refine F37_calls _ g.1 g.2.1 g.2.2.1 g.2.2.2 _ _ ?_;unfold F37 formatD;refine St.nw (St.init hh) λr w1 s1 _ _=>?_;have s1:St F w w1 [BoxA r (gcells g),DiskA dp D]:=s1;obtain⟨G,H,g2,_⟩:=St.call [DiskA dp D] (s1.sel [1,0] 2);refine callF_of (V69 g2 hd.ok) ?_;rintro _ _ ⟨rfl,rfl⟩;unfold readyE;refine br_of (λh=>?_) λh=>?_
 ·have ho:D.off=true:=by cases hx:D.off<;>simp_all
  rw[ho];exact⟨rfl,s1.sel [1] 2⟩
 have ho:D.off=false:=by cases hx:D.off<;>simp_all
 rw[ho,if_neg (by decide)];refine s1.LA 0 rfl (p:=g) rfl ?_;refine callF_of (V71 g w1) ?_;rintro P w2 ⟨hP,k2⟩;have hP2:P.2=if geoE g=0 then 0 else 40:=by rw[hP];unfold ofG;split<;>rfl
 refine(s1.grow k2).nvs rfl (na_p P.1) λr1 w3 s3=>?_;have s3:St F w w3 [BoxA r1 (pcells P.1),BoxA r (gcells g),DiskA dp D]:=s3;refine br_of (λh=>?_) λh=>?_
 ·have h:P.2≠0:=by simpa using h
  have hg:geoE g≠0:=λh0=>h (by rw[hP2,if_pos h0]);rw[if_pos hg,hP2,if_neg hg];exact⟨rfl,s3.sel [2] 3⟩
 have hg:geoE g=0:=by
  by_cases hg:geoE g=0
  ·exact hg
  ·rw[hP2,if_neg hg]at h;simp at h
 rw[if_neg (λh0=>h0 hg)];have hp:=planT_le hg;have hP1:P.1=planT g:=by rw[hP];unfold ofG;rw[if_pos hg]
 clear hP hP2;refine jn_of (λb W=>b=decide ((D.blocks.length:Int)≠g.1)/\St F w W [BoxA r1 (pcells P.1),BoxA r (gcells g),DiskA dp D]) ?_ ?_
 ·rw[drw_def]
  have s4:=s3.drew;have fin:((D.blocks.length:Int)!=g.1)=decide ((D.blocks.length:Int)≠g.1):=by
   by_cases hl:(D.blocks.length:Int)=g.1<;>simp[hl]
  exact⟨lnC' (s4.sel [2,0,1] 3) (s4.L 1 rfl (p:=g.1) rfl ⟨fin,s4⟩),s4.L 1 rfl (p:=g.1) rfl (lnC' (s4.sel [2,0,1] 3) ⟨fin,s4⟩)⟩
 rintro _ w4 ⟨rfl,s4⟩;refine br_of (λh=>?_) λh=>?_
 ·rw[if_pos (of_decide_eq_true h)]
  exact⟨rfl,s4.sel [2] 3⟩
 rw[if_neg (of_decide_eq_false h)];obtain⟨G1,H1,g3,_,_,_,gc⟩:=St.call [DiskA dp D] (s4.sel [2,0,1] 3);refine callF_of (V84 (i:=0) (j:=2) g3 hd (by omega) (by omega) (by omega)) ?_;rw[show(2-0:Int).toNat=2 from rfl];rintro _ w5 ⟨rfl,s5⟩;have s5:=gc _ _ s5;have d1:=noughtD_dg 2 hd 0;generalize noughtD 2 D 0=A at d1 s5⊢;dsimp only;have s5:St F w w5 [DiskA dp A.2,BoxA r1 (pcells P.1),BoxA r (gcells g)]:=s5;refine br_of (λh=>?_) λh=>?_
 ·rw[if_pos (by simpa using h)]
  exact⟨rfl,s5.sel [0] 3⟩
 rw[if_neg (by simpa using h)];refine s5.L 1 rfl (p:=P.1.2.2.2.2.1) rfl ?_;rw[hP1];obtain⟨G2,H2,g4,_,_,_,gc2⟩:=St.call [DiskA dp A.2] s5;refine callF_of (V84 (i:=2) (j:=(planT g).2.2.2.2.1) g4 d1.db (by omega) (by omega) (by omega)) ?_;rintro _ w6 ⟨rfl,s6⟩;have s6:=gc2 _ _ s6;have d2:=noughtD_dg ((planT g).2.2.2.2.1-2).toNat d1.db 2;generalize noughtD ((planT g).2.2.2.2.1-2).toNat A.2 2=B at d2 s6⊢;have s6:St F w w6 [DiskA dp B.2,BoxA r1 (pcells P.1),BoxA r (gcells g)]:=s6;refine br_of (λh=>?_) λh=>?_
 ·rw[if_pos (by simpa using h)]
  exact⟨rfl,s6.sel [0] 3⟩
 rw[if_neg (by simpa using h)];refine s6.LA 2 rfl (p:=g) rfl ?_;refine callF_of (V85 g w6) ?_;rintro S w7 ⟨hS,k7⟩;refine(s6.grow k7).nvs rfl (na_p S.1) λr2 w8 s8=>?_;have s8:St F w w8 [BoxA r2 (pcells S.1),DiskA dp B.2,BoxA r1 (pcells P.1),BoxA r (gcells g)]:=s8;have hS2:S.2=0:=by rw[hS];unfold firstS;rw[if_pos hg]
 refine br_f (by simp[hS2]) ?_;refine s8.LA 0 rfl (p:=S.1) rfl ?_;obtain⟨G3,H3,g5,_,_,_,gc3⟩:=St.call [DiskA dp B.2] (s8.sel [1,0,2,3] 4);refine callF_of (V77 (s:=S.1) g5 d2.db (by omega)) ?_;rw[hS];rintro _ w9 ⟨rfl,s9⟩;exact⟨rfl,(gc3 _ _ s9).sel [0] 4⟩
theorem OpenQ.split{D:DM}{dp:Nat}{st n h:Int}{w w':World}{o:Option Addr×Sl×Int}(k:OpenQ D dp st n h w o w'):∃L,St noF w w' L/\∀w0 w2,St noF w0 w2 L->OpenQ D dp st n h w0 o w2:=by
 rcases k with⟨h1,h2,h3⟩|⟨h1,b,s,t,xs,ys,h2,h3,h4,h5⟩
 ·exact⟨[],(St.init0 w).grow h3,λw0 w2 k=>.inl ⟨h1,h2,k.gro⟩⟩
 ·exact⟨_,h5,λw0 w2 k=>.inr ⟨h1,b,s,t,xs,ys,h2,h3,h4,k⟩⟩
def lapS(s:Sup)(t:Int):Sup×Int:=nextS s (lapV t s.2.2.1)
def LapsQ(D:DM)(dp:Nat)(s:Sup)(t:Int)(w:World)(x:Sup×(Option Addr)×Int)(w':World):Prop:=
 ((lapS s t).2≠0/\x=((lapS s t).1,none,6)/\Grow w w')\/
 ((lapS s t).2=0/\∃o,OpenQ D dp 3 s.2.2.1 (lapS s t).1.2.2.2.2.2 w o w'/\x=((lapS s t).1,o.1,if o.2.2=0/\0<o.2.1.len then 50 else o.2.2))
theorem V75{dp:Nat}{D:DM}{s:Sup}{t:Int}{N:Nat}{w:World}{F:Nat->Prop}(hh:Has [DiskA dp D] w F)(hd:DB N D)(hN:N<=10000000):
 Calls Tryz.prog 75 #[P0 dp,s.v,iv t] w (RetT [.agg [.int .i64,.int .i64,.int .i64,.int .i64,.int .i64,.int .i64],.c .ptr,.c (.int .i64)] (LapsQ D dp s t w)):=by
 refine F75_calls _ s.1 s.2.1 s.2.2.1 s.2.2.2.1 s.2.2.2.2.1 s.2.2.2.2.2 t _ _ ?_;unfold F75;refine St.nw (St.init0 w) λr w1 s1 _ _=>St.nw s1 λr1 w2 s2 _ _=>?_;have s2:St noF w w2 [BoxA r1 (pcells Sup0),BoxA r (pcells s)]:=s2;obtain⟨S,hS⟩:∃S,lapS s t=S:=⟨_,rfl⟩;unfold LapsQ;rw[hS];refine jn_of (λc W=>∃b,c=((some ⟨b,0,none⟩:Option Addr),S.2)/\St noF w W [BoxA b (pcells S.1),BoxA r1 (pcells Sup0),BoxA r (pcells s)]) ?_ ?_
 ·rw[drw_def]
  have s3:=s2.drew;refine s3.L 1 rfl (p:=s.2.2.1) rfl ?_;have hbr:=(s3.bring 1).box;generalize w2.drew=W5 at s3 hbr;refine jn_of (λc W=>∃b,c=((some ⟨b,0,none⟩:Option Addr),S.1,S.2)/\St noF W5 W [BoxA b (pcells Sup0)]) ?_ ?_
  ·generalize hRR:(λ(c:Option Addr×Sup×Int) W=>∃b,c=((some ⟨b,0,none⟩:Option Addr),S.1,S.2)/\St noF W5 W [BoxA b (pcells Sup0)])=RR
   have fin:∀{b W},St noF W5 W [BoxA b (pcells Sup0)]->RR ((some ⟨b,0,none⟩:Option Addr),S.1,S.2) W:=λ{b W} u=>by rw[<-hRR];exact⟨b,rfl,u⟩
   clear hRR;have t0:=St.init0 W5;have c130:∀{W L} {k:Int->Pr},St noF W5 W L->k (lapV t s.2.2.1) W->callF Tryz.prog 130 [iv t,iv s.2.2.1] [.c (.int .i64)] k W:=λ{W L k} u hk=>
    callF_of (V130 t s.2.2.1 W) λ_ _ ⟨e,e'⟩=>by subst e e';exact hk
   have c113:∀{W L} {k:Sup×Int->Pr},St noF W5 W L->(∀W',St noF W5 W' L->k S W')->callF Tryz.prog 113 [s.v,iv (lapV t s.2.2.1)] [.agg [.int .i64,.int .i64,.int .i64,.int .i64,.int .i64,.int .i64],.c (.int .i64)] k W:=λ{W L k} u hk=>by
    refine callF_of (V113 s (lapV t s.2.2.1) W) ?_;rintro e W' ⟨he,g⟩;have:e=S:=he.trans hS;subst this;exact hk W' (u.grow g)
   have cnw:∀{W L} {k:Nat->Pr},St noF W5 W L->(∀b W',St noF W5 W' (BoxA b (pcells Sup0)::L)->k b W')->nw (.cells #[iv 0,iv 0,iv 0,iv 0,iv 0,iv 0] 61) k W:=λu hk=>St.nw u λb W' t' _ _=>hk b W' t';have cld:∀{W L} {k:Sup->Pr},St noF W5 W L->k s W->ldA [.int .i64,.int .i64,.int .i64,.int .i64,.int .i64,.int .i64] (bA r 0) k W:=λ{W L k} u hk=>(hbr.grow u.gro).ldA hk
   repeat' first
    |with_reducible refine both_of ?_ ?_
    |with_reducible refine c130 (by assumption) ?_
    |with_reducible refine c113 (by assumption) λ_ _=>?_
    |with_reducible refine cnw (by assumption) λ_ _ _=>?_
    |with_reducible refine cld (by assumption) ?_
    |exact fin (by assumption)
  rintro _ W6 ⟨b,rfl,t1⟩;have s8:St noF w W6 [BoxA b (pcells Sup0),BoxA r1 (pcells Sup0),BoxA r (pcells s)]:=s3.call0 t1;rw[deref_some'];refine s8.S 0 rfl (by simp) trivial λ_ s9=>?_;refine s9.S 0 rfl (by simp[setA]) trivial λ_ s10=>?_;refine s10.S 0 rfl (by simp[setA]) trivial λ_ s11=>?_;refine s11.S 0 rfl (by simp[setA]) trivial λ_ s12=>?_;refine s12.S 0 rfl (by simp[setA]) trivial λ_ s13=>?_;refine s13.S 0 rfl (by simp[setA]) trivial λ_ s14=>?_;exact⟨b,rfl,s14⟩
 rintro _ w3 ⟨b,rfl,s3⟩;refine br_of (λh=>?_) λh=>?_
 ·have h:S.2≠0:=by simpa using h
  rw[deref_some'];refine s3.LA 0 rfl (p:=S.1) rfl ?_;exact s3.SB 1 rfl rfl (na_p S.1) λw4 s4=>St.LA 1 s4 rfl (p:=S.1) rfl (.inl ⟨h,rfl,s4.gro⟩)
 ·have h:S.2=0:=by simpa using h
  refine s3.L 2 rfl (p:=s.2.2.1) rfl ?_;rw[deref_some'];refine s3.L 0 rfl (p:=S.1.2.2.2.2.2) rfl ?_;refine callF_of (V72 (hh.mod s3.gro λ_ _ h=>h) hd hN) ?_;rintro o w4 ho;obtain⟨L,k4,hL⟩:=ho.split;have s4:St noF w w4 (BoxA b (pcells S.1)::BoxA r1 (pcells Sup0)::BoxA r (pcells s)::L):=(s3.call0 k4).perm List.perm_append_comm;refine jn_of (λe W=>e=(if o.2.2=0/\0<o.2.1.len then 50 else o.2.2)/\W=w4) ?_ ?_
  ·refine jn_of (λb W=>b=decide (o.2.2=0/\0<o.2.1.len)/\W=w4) ?_ ?_
   ·refine br_of (λh=>⟨?_,rfl⟩) λh=>⟨?_,rfl⟩
    ·have h:o.2.2=0:=by simpa using h
     exact decide_eq_decide.2 ⟨λh'=>⟨h,Int.ofNat_lt.1 h'⟩,λh'=>Int.ofNat_lt.2 h'.2⟩
    ·have h:o.2.2≠0:=by simpa using h
     exact(decide_eq_false (λh'=>h h'.1)).symm
   rintro _ _ ⟨rfl,rfl⟩;refine br_of (λh=>?_) λh=>?_
   ·rw[if_pos (of_decide_eq_true h)];exact⟨rfl,rfl⟩
   ·rw[if_neg (of_decide_eq_false h)];exact⟨rfl,rfl⟩
  rintro _ _ ⟨rfl,rfl⟩;rw[deref_some'];refine s4.LA 0 rfl (p:=S.1) rfl ?_;exact s4.SB 1 rfl rfl (na_p S.1) λw5 s5=>St.LA 1 s5 rfl (p:=S.1) rfl (.inr ⟨h,o,hL _ _ s5.drop.drop.drop,rfl⟩)
theorem find_int(k:Int):∀(es:List MapEntry) (ks:List Int) (i:Nat),es.map (·.key)=ints ks->
 (k∉ks/\Instr.findNow (.int .i64) (.int .i64 k) es i=some none)\/(k∈ks/\∃j e,es[j]? =some e/\e.key=.int .i64 k/\Instr.findNow (.int .i64) (.int .i64 k) es i=some (some (i+j,e.val)))
 |[],ks,i,h=>by
  have:ks=[]:=by
   have:=congrArg List.length h;simp at this;exact List.eq_nil_of_length_eq_zero this.symm
  subst this;exact .inl ⟨by simp,rfl⟩
 |e::es,[],i,h=>by simp[ints]at h
 |e::es,x::ks,i,h=>by
  have h':e.key=.int .i64 x/\es.map (·.key)=ints ks:=by simpa[ints]using h
  have hs:Instr.sameNow (.int .i64) (.int .i64 k) e.key=some (k==x):=by rw[h'.1];simp[Instr.sameNow]
  unfold Instr.findNow;rw[hs];cases hkx:(k==x)with
  |true=>
   rw[beq_iff_eq]at hkx;subst hkx;exact .inr ⟨by simp,0,e,rfl,h'.1,by simp⟩
  |false=>
   have hne:k≠x:=by simpa using hkx
   rcases find_int k es ks (i+1) h'.2 with⟨h1,h2⟩|⟨h1,j,e',h2,h3,h4⟩
   ·exact .inl ⟨by simp[hne,h1],h2⟩
   ·refine .inr ⟨by simp[h1],j+1,e',by simpa using h2,h3,?_⟩
    rw[show i+(j+1)=i+1+j by omega];exact h4
def addB(ks:List Int)(k:Int):List Int:=if k∈ks then ks else ks++[k]
theorem put_int{w:World}{m:Nat}{es:Array MapEntry}{clock:Nat}{ks:List Int}{k:Int}{v:Value}{f:Pr}(h:MapI w m es clock ks)
 (hk:∀w' es' clock',MapI w' m es' clock' (addB ks k)->Mod (·=m) w w'->w'.heap.size=w.heap.size->f w'):mapPut (.int .i64) (some m) (.int .i64 k) v f w:=by
 have hlt:m<w.heap.size:=by
  rcases Nat.lt_or_ge m w.heap.size with h'|h'
  ·exact h'
  ·have:=h.heap;rw[Array.getElem?_eq_none h']at this;cases this
 have hput:∀o,(({w with heap:=w.heap.setIfInBounds m o}:World)).heap[m]? =some o:=λo=>by simp[hlt]
 have hmod:∀o,Mod (·=m) w ({w with heap:=w.heap.setIfInBounds m o}:World):=λo=>(Mod.refl _ w).putObj (.inl rfl);rcases find_int k es.toList ks 0 h.keys with⟨h1,h2⟩|⟨h1,j,e,h2,h3,h4⟩
 ·refine⟨m,es,clock,none,rfl,h.heap,h2,?_⟩
  refine hk _ (es.push {key:=.int .i64 k,val:=v,born:=clock}) (clock+1) ⟨hput _,?_,?_,?_,?_⟩ (hmod _) (by simp)
  ·intro e he
   rw[Array.toList_push]at he;rcases List.mem_append.1 he with he|he
   ·have:=h.born e he;omega
   ·rw[List.mem_singleton]at he;subst he;exact Nat.lt_succ_self _
  ·rw[Array.toList_push,List.map_append,List.nodup_append]
   refine⟨h.nod,by simp,λa ha b hb=>?_⟩;obtain⟨e,he,rfl⟩:=List.mem_map.1 ha;have:=h.born e he;simp at hb;omega
  ·rw[Array.toList_push,List.map_append,h.keys]
   unfold addB;rw[if_neg h1,ints_append];rfl
  ·unfold addB
   rw[if_neg h1,List.nodup_append];refine⟨h.knod,by simp,λa ha b hb=>?_⟩;rw[List.mem_singleton]at hb;rintro rfl;exact h1 (hb▸ha)
 ·refine⟨m,es,clock,some (0+j,e.val),rfl,h.heap,h4,?_⟩
  have hje:es[0+j]? =some e:=by rw[Nat.zero_add];simpa using h2
  refine⟨?_,?_⟩
  ·rw[hje]
   simp[h3,Instr.sameBits]
  ·have hkeys:∀g:MapEntry->MapEntry,(∀x,(g x).born=x.born)->(g e).key=e.key->(es.modify (0+j) g).toList.map (·.born)=es.toList.map (·.born)/\(es.modify (0+j) g).toList.map (·.key)=es.toList.map (·.key):=by
    intro g hg1 hg2;constructor
    ·refine List.ext_getElem? λi=>?_
     simp only[List.getElem?_map,Array.getElem?_toList,Array.getElem?_modify];split
     ·cases es[i]? <;>simp[hg1]
     ·rfl
    ·refine List.ext_getElem? λi=>?_
     simp only[List.getElem?_map,Array.getElem?_toList,Array.getElem?_modify];split
     ·rename_i hi
      rw[<-hi,hje];simp[hg2]
     ·rfl
   obtain⟨hb1,hb2⟩:=hkeys (λe=>{e with key:=.int .i64 k,val:=v}) (λ_=>rfl) (by simp[h3]);refine hk _ (es.modify (0+j) λe=>{e with key:=.int .i64 k,val:=v}) clock ⟨hput _,?_,by rw[hb1];exact h.nod,by rw[hb2,h.keys];unfold addB;rw[if_pos h1],by unfold addB;rw[if_pos h1];exact h.knod⟩ (hmod _) (by simp);intro x hx;have:x.born∈es.toList.map (·.born):=by rw[<-hb1];exact List.mem_map.2 ⟨x,hx,rfl⟩
   obtain⟨y,hy,hyx⟩:=List.mem_map.1 this;rw[<-hyx];exact h.born y hy
def setB(vs:List Rv):List Int:=vs.foldl (λks v=>if v.1=1 then addB ks v.2.1 else ks) []
def blocksV(vs:List Rv):List Int:=sortI (setB vs)
theorem addB_len(ks:List Int)(k:Int):(addB ks k).length<=ks.length+1:=by unfold addB;split<;>simp
theorem setB_snoc(vs:List Rv)(v:Rv):setB (vs++[v])=if v.1=1 then addB (setB vs) v.2.1 else setB vs:=by simp[setB,List.foldl_append]
theorem setB_len:∀(vs:List Rv),(setB vs).length<=vs.length:=by
 intro vs;unfold setB
 suffices∀(vs:List Rv) (ks:List Int),(vs.foldl (λks v=>if v.1=1 then addB ks v.2.1 else ks) ks).length<=ks.length+vs.length by simpa using this vs []
 intro vs
 induction vs with
 |nil=>intro ks;simp
 |cons v vs ih=>
  intro ks;rw[List.foldl_cons,List.length_cons];have h1:=ih (if v.1=1 then addB ks v.2.1 else ks);have h2:=addB_len ks v.2.1;have h3:(if v.1=1 then addB ks v.2.1 else ks).length<=ks.length+1:=by split<;>omega
  omega
theorem V54s(s:Sl)(w:World):Calls Tryz.prog 54 #[slV s] w (RetT [.c .any] λr w'=>∃b,r=.func (.func 104) #[] #[.pointer (some ⟨b,0,none⟩)]/\St noF w w' [BoxA b [slV s]]):=by
 refine F54_calls s _ _ ?_;unfold F54;exact⟨trivial,St.nw (St.init0 w) λb w1 s1 _ _=>⟨b,rfl,s1⟩⟩
theorem V117(s:Sl)(xs:List Rc)(w:World)(h:RL w s xs)(hl:s.len<=1000000):Calls Tryz.prog 117 #[.slice s.a s.len s.cap] w
 (RetT [.c .any] λr w'=>∃b t,r=.func (.func 104) #[] #[.pointer (some ⟨b,0,none⟩)]/\St noF w w' [BoxA b [slV t],SlA 1 t (ints (blocksV (xs.map rv)))]):=by
 refine F117_calls s _ _ ?_;unfold F117;rw[nw_def];have hsl:=h.len;have hgm:Grow w (w.alloc (.map #[] 0)):=(Mod.refl _ w).alloc _;refine loop_of (λi W=>∃j:Nat,i=j/\j<=xs.length/\Grow w W/\∃es clock,MapI W w.heap.size es clock (setB ((xs.take j).map rv))) (λi _=>xs.length-i.toNat)
  ⟨0,rfl,by omega,hgm,#[],0,heap_alloc_new _ _,by simp,by simp,by simp[setB,ints],by simp[setB]⟩ ?_
 rintro _ W ⟨j,rfl,hj,hg,es,clock,hm⟩;refine br_of (λhlt=>?_) (λhge=>?_)
 ·simp only[decide_eq_true_eq]at hlt
  have hjl:j<xs.length:=by omega
  have hstep:setB ((xs.take (j+1)).map rv)=if xs[j].1.k=1 then addB (setB ((xs.take j).map rv)) xs[j].1.b else setB ((xs.take j).map rv):=by
   rw[take_succ' hjl,List.map_append,List.map_cons,List.map_nil,setB_snoc];rfl
  refine jn_of (λ_ W'=>Grow w W'/\∃es clock,MapI W' w.heap.size es clock (setB ((xs.take (j+1)).map rv))) ?_ ?_
  rotate_left
  ·rintro⟨⟩ W' ⟨h1,h2⟩
   rw[wrap_succ (by omega)];exact⟨⟨j+1,rfl,hjl,h1,h2⟩,by omega⟩
  refine rec_of (⟨h.1.grow hg,λx hx=>(h.2 x hx).grow hg⟩:RL _ s xs) hjl ?_;refine nw_of λr w2 g2 e2 s2 bx=>?_;simp only[deref_some'];have hgst:∀{w4 w5:World},Grow W w4->Mod (·=r) w4 w5->Grow W w5:=λh4 h5=>Mod.trans h4 h5 λc hc1 hc2=>by omega
  refine bx.st (by simp) trivial λw3 k3 m3 s3=>?_;refine k3.st (by simp) trivial λw4 k4 m4 s4=>?_;refine k4.st (by simp) trivial λw5 k5 m5 s5=>?_;refine k5.st (by simp) trivial λw6 k6 m6 s6=>?_;refine k6.st (by simp) trivial λw7 k7 m7 s7=>?_;have g7:Grow W w7:=hgst (hgst (hgst (hgst (hgst g2 m3) m4) m5) m6) m7;have hmlt:w.heap.size<W.heap.size:=by
   rcases Nat.lt_or_ge w.heap.size W.heap.size with h'|h'
   ·exact h'
   ·have:=hm.heap;rw[Array.getElem?_eq_none h']at this;cases this
  have hm7:MapI w7 w.heap.size es clock (setB ((xs.take j).map rv)):=⟨(g7.same _ hmlt λh=>h).trans hm.heap,hm.born,hm.nod,hm.keys,hm.knod⟩;have hg7:=Grow.trans hg g7;refine k7.ld (i:=0) (s:=.int .i64) (p:=xs[j].1.k) rfl ?_;refine br_of (λhk1=>?_) (λhk1=>?_)
  ·simp only[beq_iff_eq]at hk1
   refine k7.ld (i:=1) (s:=.int .i64) (p:=xs[j].1.b) rfl ?_;refine put_int hm7 λw8 es' clock' h8 m8 _=>?_;refine⟨Mod.trans hg7 m8 λc hc1 hc2=>by omega,es',clock',?_⟩;rw[hstep,if_pos hk1];exact h8
  ·simp only[beq_eq_false_iff_ne]at hk1
   refine⟨hg7,es,clock,?_⟩;rw[hstep,if_neg hk1];exact hm7
 ·simp only[decide_eq_false_iff_not]at hge
  rw[List.take_of_length_le (by omega)]at hm;refine callF_of (C66 (some w.heap.size) W) ?_;rintro v W1 ⟨b,rfl,hb,g1⟩;have hmlt:w.heap.size<W.heap.size:=by
   rcases Nat.lt_or_ge w.heap.size W.heap.size with h'|h'
   ·exact h'
   ·have:=hm.heap;rw[Array.getElem?_eq_none h']at this;cases this
  have hsb:=setB_len (xs.map rv);rw[List.length_map]at hsb;refine callF_of (C65 (iter_keys ⟨b,0,none⟩ w.heap.size es clock (setB (xs.map rv)) hm.born hm.nod hm.keys hm.knod) W1 (λW' hg'=>⟨(hb.grow hg').row 0 _ rfl,((Grow.trans g1 hg').same _ hmlt λh=>h).trans hm.heap⟩) (by omega)) ?_;rintro t W2 ⟨ht,g2⟩;have s2:=((St.init0 w).grow (Grow.trans hg g1)).mksl g2 ht;refine callF_of (V54s t W2) ?_;rintro v W3 ⟨b3,rfl,k3⟩;exact⟨b3,t,rfl,s2.call0 k3⟩
theorem blocks_len(xs:List Rc):(blocksV (xs.map rv)).length<=xs.length:=by
 have hsb:=setB_len (xs.map rv);rw[List.length_map]at hsb;unfold blocksV;rw[(sortI_perm _).length_eq];exact hsb
theorem C27(s t:Sl)(a b:List Int)(w:World)(hs:IS w s a)(ht:IS w t b)(hb:s.len<=1000000000):Calls Tryz.prog 95 #[.slice s.a s.len s.cap,.slice t.a t.len t.cap] w
 (RetT [.c .bool] λr w'=>r=decide (a=b)/\Grow w w'):=by
 refine F95_calls s t _ _ ?_;unfold F95;have hsl:=hs.len;have htl:=ht.len;refine br_of (λh=>⟨?_,Mod.refl _ _⟩) (λh=>?_)
 ·simp only[bne_iff_ne,ne_eq]at h
  symm
  rw[decide_eq_false_iff_not];rintro rfl;omega
 have hl:a.length=b.length:=by
  simp only[bne_eq_false_iff_eq]at h;omega
 refine loop_of (λi w'=>∃j:Nat,i=j/\j<=a.length/\Grow w w'/\∀k (h:k<j) (h1:k<a.length) (h2:k<b.length),a[k]=b[k]) (λi _=>a.length-i.toNat)
  ⟨0,rfl,by omega,Mod.refl _ _,λk h=>by omega⟩ ?_
 rintro _ w1 ⟨j,rfl,hj,hg,hall⟩;refine br_of (λhlt=>?_) (λhge=>⟨?_,hg⟩)
 ·simp only[decide_eq_true_eq]at hlt
  have hja:j<a.length:=by omega
  have hjb:j<b.length:=by omega
  have hgd:=Mod.drew hg;refine iat_of (i:=(j:Int)) (b:=a[j]) (hs.grow hgd) (by omega) (by simp) ?_;refine iat_of (i:=(j:Int)) (b:=b[j]) (ht.grow hgd) (by omega) (by simp) ?_;refine br_of (λhne=>⟨?_,hgd⟩) (λheq=>?_)
  ·simp only[bne_iff_ne,ne_eq]at hne
   symm
   rw[decide_eq_false_iff_not];rintro rfl;exact hne rfl
  ·simp only[bne_eq_false_iff_eq]at heq
   rw[wrap_succ (by omega)];refine⟨⟨j+1,rfl,hja,hgd,λk h h1 h2=>?_⟩,by omega⟩;rcases Nat.lt_or_ge k j with h'|h'
   ·exact hall k h' h1 h2
   ·have:k=j:=by omega
    subst this;exact heq
 ·simp only[decide_eq_false_iff_not]at hge
  symm
  rw[decide_eq_true_eq];exact List.ext_getElem hl λk h1 h2=>hall k (by omega) h1 h2
def putGo:List Int->Int->Bool->List Int
 |[],n,done=>if done=true then[]else[n]
 |x::xs,n,done=>
  if(done||x==n)=false/\n<x then n::x::putGo xs n true else x::putGo xs n (done||x==n)
theorem putGo_cons(x:Int)(xs:List Int)(n:Int)(done:Bool):putGo (x::xs) n done=if(done||x==n)=false/\n<x then n::x::putGo xs n true else x::putGo xs n (done||x==n):=rfl
theorem putGo_true:∀(l:List Int) (n:Int),putGo l n true=l
 |[],n=>rfl
 |x::xs,n=>by
  unfold putGo;rw[Bool.true_or,if_neg (by simp),putGo_true xs n]
theorem putGo_spec:∀(l:List Int) (n:Int),l.Pairwise (·<·)->(putGo l n false).Pairwise (·<·)/\(putGo l n false).Perm (addB l n)
 |[],n,_=>by simp[putGo,addB]
 |x::xs,n,h=>by
  rw[List.pairwise_cons]at h;unfold putGo;rw[Bool.false_or];by_cases hxn:x=n
  ·subst hxn
   rw[if_neg (by simp),beq_self_eq_true,putGo_true];refine⟨List.pairwise_cons.2 h,?_⟩;unfold addB;rw[if_pos (by simp)]
  ·have hb:(x==n)=false:=by rw[beq_eq_false_iff_ne];exact hxn
   rw[hb];by_cases hlt:n<x
   ·rw[if_pos ⟨rfl,hlt⟩,putGo_true]
    have hn:n∉x::xs:=by
     intro hm;rcases List.mem_cons.1 hm with h1|h1
     ·omega
     ·have:=h.1 n h1;omega
    refine⟨List.pairwise_cons.2 ⟨λy hy=>?_,List.pairwise_cons.2 h⟩,?_⟩
    ·rcases List.mem_cons.1 hy with h1|h1
     ·omega
     ·have:=h.1 y h1;omega
    ·unfold addB
     rw[if_neg hn];exact(List.perm_append_singleton n (x::xs)).symm
   ·rw[if_neg (λh=>hlt h.2)]
    obtain⟨h1,h2⟩:=putGo_spec xs n h.2;refine⟨List.pairwise_cons.2 ⟨λy hy=>?_,h1⟩,?_⟩
    ·have hy2:=h2.subset hy
     unfold addB at hy2;split at hy2
     ·exact h.1 y hy2
     ·rcases List.mem_append.1 hy2 with h3|h3
      ·exact h.1 y h3
      ·rw[List.mem_singleton]at h3;omega
    ·refine(h2.cons x).trans ?_
     unfold addB;by_cases hm:n∈xs
     ·rw[if_pos hm,if_pos (by simp[hm])]
     ·rw[if_neg hm,if_neg (by simp[hm,Ne.symm hxn])]
      rfl
def refB(vs:List Rv):List Int:=vs.foldl (λks v=>if v.1=1 then putGo ks v.2.1 false else ks) []
theorem refB_snoc(vs:List Rv)(v:Rv):refB (vs++[v])=if v.1=1 then putGo (refB vs) v.2.1 false else refB vs:=by simp[refB,List.foldl_append]
theorem addB_perm{a b:List Int}(h:a.Perm b)(k:Int):(addB a k).Perm (addB b k):=by
 unfold addB;by_cases hk:k∈a
 ·rw[if_pos hk,if_pos (h.subset hk)];exact h
 ·rw[if_neg hk,if_neg (λh2=>hk (h.symm.subset h2))];exact h.append_right _
theorem fold_same:∀(vs:List Rv) (a b:List Int),a.Pairwise (·<·)->a.Perm b->
 (vs.foldl (λks v=>if v.1=1 then putGo ks v.2.1 false else ks) a).Pairwise (·<·)/\(vs.foldl (λks v=>if v.1=1 then putGo ks v.2.1 false else ks) a).Perm (vs.foldl (λks v=>if v.1=1 then addB ks v.2.1 else ks) b)
 |[],a,b,h1,h2=>⟨h1,h2⟩
 |v::vs,a,b,h1,h2=>by
  rw[List.foldl_cons,List.foldl_cons];split
  ·obtain⟨h3,h4⟩:=putGo_spec a v.2.1 h1
   exact fold_same vs _ _ h3 (h4.trans (addB_perm h2 _))
  ·exact fold_same vs _ _ h1 h2
theorem refB_eq(vs:List Rv):refB vs=blocksV vs:=by
 obtain⟨h1,h2⟩:=fold_same vs [] [] List.Pairwise.nil (List.Perm.refl _);exact sorted_eq (h2.trans (sortI_perm _).symm) (h1.imp λh=>by omega) (sortI_sorted _)
theorem C63(s:Sl)(l:List Int)(n:Int)(w:World)(hs:IS w s l)(hl:l.length<=1000000):Calls Tryz.prog 195 #[.slice s.a s.len s.cap,.int .i64 n] w
 (RetT [.c .slice] λr w'=>OwnS w' w.heap.size 1 r (ints (putGo l n false))/\Grow w w'):=by
 refine F195_calls s n _ _ ?_;unfold F195;have hsl:=hs.len;have hone:∀{W:World} {t:Sl} {xs:List Int} {z:Int} {k:Sl->Pr},OwnS W w.heap.size 1 t (ints xs)->Grow w W->xs.length<=1000000000->
  (∀r W',OwnS W' w.heap.size 1 r (ints (xs++[z]))->Grow w W'->k r W')->nw (.cells #[(.int .i64 z)] 3) (λr=>app 3 1 8 [(.int .i64 0)] t ⟨(some ⟨r,0,none⟩),1,1⟩ k) W:=by
  intro W t xs z k ho hg hx hk;refine nw_of λb W1 g1 _ _ bx=>?_;have hsz:=(Grow.trans hg g1).size;refine app_one (ho.grow g1) hsz bx hx λr W2 h2 m2 _=>hk r W2 h2 ?_;exact Mod.trans (Grow.trans hg g1) m2 λc hc hS=>by have:=OwnS.blk_le ho hS;omega
 refine loop_of (λt W=>∃(j:Nat) (out:List Int),t.2.2=j/\j<=l.length/\out.length<=2*j/\OwnS W w.heap.size 1 t.1 (ints out)/\out++putGo (l.drop j) n t.2.1=putGo l n false/\Grow w W) (λt _=>l.length-t.2.2.toNat)
  ⟨0,[],rfl,by omega,by simp,OwnS.nil _ _ _,rfl,Mod.refl _ _⟩ ?_
 rintro⟨t,done,_⟩ W ⟨j,out,rfl,hj,hol,ho,he,hg⟩;dsimp only at ho he⊢;refine br_of (λhlt=>?_) (λhge=>?_)
 ·simp only[decide_eq_true_eq]at hlt
  have hjl:j<l.length:=by omega
  have hd:l.drop j=l[j]::l.drop (j+1):=List.drop_eq_getElem_cons hjl;rw[hd]at he;refine jn_of (λd W'=>d=(done||l[j]==n)/\W=W') ?_ ?_
  ·refine iat_of (i:=(j:Int)) (b:=l[j]) (hs.grow hg) (by omega) (by simp) ?_
   refine br_of (λh=>⟨by rw[h,Bool.or_true],rfl⟩) (λh=>⟨by rw[h,Bool.or_false],rfl⟩)
  rintro _ _ ⟨rfl,rfl⟩;refine jn_of (λq W'=>∃out',OwnS W' w.heap.size 1 q.1 (ints out')/\Grow w W'/\out'.length<=2*j+1/\(out'++[l[j]])++putGo (l.drop (j+1)) n q.2=putGo l n false) ?_ ?_
  rotate_left
  ·rintro⟨t2,d2⟩ W' ⟨out',h1,h2,h3,h4⟩
   dsimp only at h1 h4⊢;refine iat_of (i:=(j:Int)) (b:=l[j]) (hs.grow h2) (by omega) (by simp) ?_;refine hone h1 h2 (by omega) λr W2 h5 h6=>?_;rw[wrap_succ (by omega)];refine⟨⟨j+1,_,rfl,hjl,?_,h5,h4,h6⟩,?_⟩
   ·simp only[List.length_append,List.length_singleton];omega
   ·omega
  refine jn_of (λc W'=>c=decide ((done||l[j]==n)=false/\n<l[j])/\W=W') ?_ ?_
  ·refine br_of (λh=>?_) (λh=>?_)
   ·simp only[Bool.not_eq_true']at h
    refine iat_of (i:=(j:Int)) (b:=l[j]) (hs.grow hg) (by omega) (by simp) ?_;refine⟨?_,rfl⟩;rw[h];simp
   ·simp only[Bool.not_eq_false']at h
    refine⟨?_,rfl⟩;rw[h];simp
  rintro _ _ ⟨rfl,rfl⟩;rw[putGo_cons]at he;refine br_of (λhc=>?_) (λhc=>?_)
  ·rw[decide_eq_true_eq]at hc
   rw[if_pos hc]at he;refine hone ho hg (by omega) λr W2 h5 h6=>?_;refine⟨out++[n],h5,h6,by simp only[List.length_append,List.length_singleton];omega,?_⟩;rw[<-he];simp
  ·rw[decide_eq_false_iff_not]at hc
   rw[if_neg hc]at he;refine⟨out,ho,hg,by omega,?_⟩;rw[<-he];simp
 ·simp only[decide_eq_false_iff_not]at hge
  rw[List.drop_eq_nil_of_le (by omega)]at he;refine br_of (λhd=>?_) (λhd=>?_)
  ·simp only[Bool.not_eq_true']at hd
   rw[hd]at he;refine hone ho hg (by omega) λr W2 h5 h6=>?_;have he':out++[n]=putGo l n false:=he;rw[<-he'];exact⟨h5,h6⟩
  ·simp only[Bool.not_eq_false']at hd
   rw[hd]at he;have he':out++[]=putGo l n false:=he;rw[<-he',List.append_nil];exact⟨ho,hg⟩
theorem refB_len(vs:List Rv):(refB vs).length<=vs.length:=by
 have h:(refB vs).length=(setB vs).length:=(fold_same vs [] [] List.Pairwise.nil (List.Perm.refl _)).2.length_eq;rw[h];exact setB_len vs
theorem C26(s:Sl)(xs:List Rc)(w:World)(h:RL w s xs)(hl:s.len<=1000000):Calls Tryz.prog 147 #[.slice s.a s.len s.cap] w
 (RetT [.c .slice] λr w'=>OwnS w' w.heap.size 1 r (ints (blocksV (xs.map rv)))/\Grow w w'):=by
 refine F147_calls s _ _ ?_;unfold F147;have hsl:=h.len;refine loop_of (λt W=>∃j:Nat,t.2=j/\j<=xs.length/\Grow w W/\OwnS W w.heap.size 1 t.1 (ints (refB ((xs.take j).map rv)))) (λt _=>xs.length-t.2.toNat)
  ⟨0,rfl,by omega,Mod.refl _ _,OwnS.nil _ _ _⟩ ?_
 rintro⟨t,_⟩ W ⟨j,rfl,hj,hg,ho⟩;dsimp only at ho⊢;refine br_of (λhlt=>?_) (λhge=>?_)
 ·simp only[decide_eq_true_eq]at hlt
  have hjl:j<xs.length:=by omega
  have hstep:refB ((xs.take (j+1)).map rv)=if xs[j].1.k=1 then putGo (refB ((xs.take j).map rv)) xs[j].1.b false else refB ((xs.take j).map rv):=by
   rw[take_succ' hjl,List.map_append,List.map_cons,List.map_nil,refB_snoc];rfl
  refine jn_of (λt' W'=>Grow w W'/\OwnS W' w.heap.size 1 t' (ints (refB ((xs.take (j+1)).map rv)))) ?_ ?_
  rotate_left
  ·rintro t' W' ⟨h1,h2⟩
   rw[wrap_succ (by omega)];exact⟨⟨j+1,rfl,hjl,h1,h2⟩,by omega⟩
  have hrl:RL W s xs:=⟨h.1.grow hg,λx hx=>(h.2 x hx).grow hg⟩;refine fld_of (j:=j) (i:=0) (c:=.int .i64) (p:=xs[j].1.k) hrl hjl rfl ?_;refine br_of (λhk1=>?_) (λhk1=>?_)
  ·simp only[beq_iff_eq]at hk1
   refine fld_of (j:=j) (i:=1) (c:=.int .i64) (p:=xs[j].1.b) hrl hjl rfl ?_;have hb:=refB_len ((xs.take j).map rv);rw[List.length_map,List.length_take]at hb;refine callF_of (C63 t _ xs[j].1.b W (owns_ints ho) (by omega)) ?_;rintro r W2 ⟨h2,g2⟩;refine⟨Grow.trans hg g2,?_⟩;rw[hstep,if_pos hk1];exact h2.weaken hg.size
  ·simp only[beq_eq_false_iff_ne]at hk1
   refine⟨hg,?_⟩;rw[hstep,if_neg hk1];exact ho
 ·simp only[decide_eq_false_iff_not]at hge
  rw[List.take_of_length_le (by omega),refB_eq]at ho;exact⟨ho,hg⟩
theorem C25(s:Sl)(xs:List Rc)(w:World)(h:RL w s xs)(hl:s.len<=1000000):Calls Tryz.prog 191 #[.slice s.a s.len s.cap] w (RetT [.c .slice,.c (.int .i64)] λr w'=>ComQ w xs r.1 r.2 w'):=by
 refine F191_calls s _ _ ?_;unfold F191;have hsl:=h.len;refine loop_of (λt w'=>ComI w xs t.2.1 t.1 t.2.2.1 t.2.2.2 w') (λt _=>xs.length-t.2.2.2.toNat)
  ⟨0,0,rfl,by omega,rfl,Mod.refl _ _,[],[],Two.nil _ _,by simp,rfl⟩ ?_
 rintro⟨b,a,_,_⟩ w1 ⟨j,m,rfl,hj,rfl,hg,xo,xw,ht,hxl,he⟩;dsimp only;refine br_of (λhlt=>?_) (λhge=>?_)
 rotate_left
 ·simp only[decide_eq_false_iff_not]at hge
  have:j=xs.length:=by omega
  subst this;refine com_done ht hg he ?_;simp[comGo]
 simp only[decide_eq_true_eq]at hlt;have hjl:j<xs.length:=by omega
 have hbj:=h.2 xs[j] (by simp);refine jn_of (λt w'=>ComI w xs t.2.1 t.1 t.2.2 ((j+1:Nat):Int) w') ?_ ?_
 rotate_left
 ·rintro t w' g1
  rw[wrap_succ (by omega)];refine⟨g1,?_⟩;omega
 rw[com_step hjl]at he;have hrl:RL w1 s xs:=⟨h.1.grow hg,λx hx=>(h.2 x hx).grow hg⟩;refine rec_of hrl hjl ?_;refine callF_of (C23 _ _ _ _ _ _) ?_;rintro c w8 ⟨rfl,g18⟩;have gw8:=Grow.trans hg g18;have hrl8:RL w8 s xs:=⟨h.1.grow gw8,λx hx=>(h.2 x hx).grow gw8⟩;have hok:checkB xs[j].1.p.1 xs[j].1.p.2.1 xs[j].1.p.2.2.1 xs[j].1.p.2.2.2.2 xs[j].1.p.2.2.2.1.len=xs[j].1.ok:=rfl;rw[hok];have hokv:=okV_rv hbj;refine br_of (λhc=>?_) (λhc=>?_)
 ·have:xs[j].1.ok=false:=by
   cases hh:xs[j].1.ok
   ·rfl
   ·rw[hh]at hc;simp at hc
  rw[hokv,if_pos this]at he;exact⟨by rw[<-he],⟨xo,ht.o.grow g18,by rw[<-he]⟩,gw8⟩
 have hokt:xs[j].1.ok=true:=by
  cases hh:xs[j].1.ok
  ·rw[hh]at hc;simp at hc
  ·rfl
 rw[hokv,if_neg (by simp[hokt])]at he;refine fld_of (j:=j) (i:=0) (c:=.int .i64) (p:=xs[j].1.k) hrl8 hjl rfl ?_;refine br_of (λhk1=>?_) (λhk1=>?_)
 ·simp only[beq_iff_eq]at hk1
  rw[if_pos hk1]at he;refine rec_of hrl8 hjl ?_;have hb8:=hbj.grow gw8;have hbd:=ok_bounds hokt;refine callF_of (C62 xs[j] _ hb8 (by omega)) ?_;rintro q w9 ⟨⟨d,rfl,hd⟩,g9⟩;rw[nw_def];refine Two.push (w0:=w8) (x:=(({xs[j].1 with s:=d}:Rw),xs[j].2)) (ht.grow g18) gw8.size g9 hd (by omega) ?_;intro r' w10 h10 m10;refine⟨j+1,m,rfl,hjl,rfl,?_,xo,_,h10,by simp only[List.length_append,List.length_singleton];omega,?_⟩
  ·exact Mod.trans (Grow.trans gw8 g9) m10 λc hc1 hc2=>absurd (OwnS.blk_le ht.p.own hc2) (by omega)
  ·rw[List.map_append,<-he]
   rfl
 ·simp only[beq_eq_false_iff_ne]at hk1
  rw[if_neg hk1]at he;refine fld_of (j:=j) (i:=4) (c:=.int .i64) (p:=xs[j].1.m) hrl8 hjl rfl ?_;have hwl:=ht.p.len;refine br_of (λhm=>?_) (λhm=>?_)
  ·simp only[bne_iff_ne,ne_eq]at hm
   have hm':¬xs[j].1.m=(b.len:Int):=hm;have hm2:xs[j].1.m≠((xw.map rv).length:Int):=by rw[List.length_map,<-hwl];exact hm'
   rw[if_pos hm2]at he;exact⟨by rw[<-he],⟨xo,ht.o.grow g18,by rw[<-he]⟩,gw8⟩
  ·simp only[bne_eq_false_iff_eq]at hm
   have hm':xs[j].1.m=(b.len:Int):=hm;have hm2:¬xs[j].1.m≠((xw.map rv).length:Int):=by rw[List.length_map,<-hwl];exact λh=>h hm'
   rw[if_neg hm2]at he;refine Two.join (ht.grow g18) gw8.size (by omega) ?_;intro r' w10 h10 m10;rw[wrap_succ (by omega)];refine⟨j+1,j+1,rfl,hjl,rfl,?_,_,_,h10,by simp only[List.length_append,List.length_nil];omega,?_⟩
   ·exact Mod.trans gw8 m10 λc hc1 hc2=>absurd (OwnS.blk_le ht.o.own hc2) (by omega)
   ·rw[List.map_append,<-he]
    rfl
def fits(vs:List Rv):Prop:=∀v∈vs,v.2.2.1.toNat+v.2.2.2.2.length<=256
def cov(blk:Int)(vs:List Rv)(i:Nat):Prop:=∃v∈vs,v.2.1=blk/\v.2.2.1.toNat<=i/\i<v.2.2.1.toNat+v.2.2.2.2.length
theorem redoV_cons(blk:Int)(p:List UInt8)(v:Rv)(vs:List Rv):redoV blk p (v::vs)=redoV blk (if v.2.1=blk then lay p v.2.2.1.toNat v.2.2.2.2 else p) vs:=rfl
theorem redoV_len(blk:Int):∀(vs:List Rv) (p:List UInt8),p.length=256->fits vs->(redoV blk p vs).length=256
 |[],p,hp,_=>hp
 |v::vs,p,hp,h=>by
  rw[redoV_cons];refine redoV_len blk vs _ ?_ (λx hx=>h x (by simp[hx]));split
  ·rw[lay_len (by have:=h v (by simp);omega)];exact hp
  ·exact hp
theorem redoV_out(blk:Int)(i:Nat):∀(vs:List Rv) (p:List UInt8),p.length=256->fits vs->¬cov blk vs i->(redoV blk p vs)[i]? =p[i]?
 |[],p,_,_,_=>rfl
 |v::vs,p,hp,h,hc=>by
  have hv:=h v (by simp);rw[redoV_cons];have hc2:¬cov blk vs i:=λ⟨x,hx,h2⟩=>hc ⟨x,by simp[hx],h2⟩;split
  ·rename_i hb
   rw[redoV_out blk i vs _ (by rw[lay_len (by omega)];exact hp) (λx hx=>h x (by simp[hx])) hc2,lay_get (by omega),if_neg];exact λh3=>hc ⟨v,by simp,hb,h3.1,h3.2⟩
  ·exact redoV_out blk i vs _ hp (λx hx=>h x (by simp[hx])) hc2
theorem redoV_agree(blk:Int):∀(vs:List Rv) (p q:List UInt8),p.length=256->q.length=256->fits vs->(∀i:Nat,p[i]? =q[i]?∨cov blk vs i)->redoV blk p vs=redoV blk q vs
 |[],p,q,_,_,_,h=>by
  refine List.ext_getElem? λi=>?_;rcases h i with h1|⟨v,hv,_⟩
  ·exact h1
  ·cases hv
 |v::vs,p,q,hp,hq,hf,h=>by
  have hv:=hf v (by simp);rw[redoV_cons,redoV_cons];have hf2:fits vs:=λx hx=>hf x (by simp[hx]);split
  ·rename_i hb
   refine redoV_agree blk vs _ _ (by rw[lay_len (by omega)];exact hp) (by rw[lay_len (by omega)];exact hq) hf2 λi=>?_;rw[lay_get (by omega),lay_get (by omega)];split
   ·exact .inl rfl
   ·rename_i hn
    rcases h i with h1|⟨x,hx,h2,h3⟩
    ·exact .inl h1
    ·rcases List.mem_cons.1 hx with hxv|hx
     ·subst hxv;exact absurd h3 hn
     ·exact .inr ⟨x,hx,h2,h3⟩
  ·rename_i hb
   refine redoV_agree blk vs _ _ hp hq hf2 λi=>?_;rcases h i with h1|⟨x,hx,h2,h3⟩
   ·exact .inl h1
   ·rcases List.mem_cons.1 hx with hxv|hx
    ·subst hxv;exact absurd h2 hb
    ·exact .inr ⟨x,hx,h2,h3⟩
theorem redoV_twice(blk:Int)(vs:List Rv)(p:List UInt8)(hp:p.length=256)(hf:fits vs):redoV blk (redoV blk p vs) vs=redoV blk p vs:=by
 refine(redoV_agree blk vs _ _ (redoV_len blk vs p hp hf) hp hf λi=>?_);rcases Classical.em (cov blk vs i)with h|h
 ·exact .inr h
 ·exact .inl (redoV_out blk i vs p hp hf h)
theorem redoE_of{p:List UInt8}{vs:List Rv}(h1:p.length=256)(h2:∀v∈vs,okV v=true):redoEV p vs=0:=by
 unfold redoEV;rw[if_neg (by omega),if_neg];rw[List.any_eq_true];rintro⟨v,hv,hb⟩;rw[h2 v hv]at hb;cases hb
theorem okV_fits{v:Rv}(h:okV v=true):v.2.2.1.toNat+v.2.2.2.2.length<=256/\(v.1=1\/v.2.2.2.2=[]):=by
 unfold okV at h;simp only[checkB,patchB,Bool.or_eq_true,Bool.and_eq_true,beq_iff_eq,decide_eq_true_eq]at h;rcases h with h|h
 ·exact⟨by omega,.inl h.1⟩
 ·exact⟨by omega,.inr (List.eq_nil_of_length_eq_zero (by omega))⟩
theorem fits_ok{vs:List Rv}(h:∀v∈vs,okV v=true):fits vs:=λv hv=>(okV_fits (h v hv)).1
theorem mem_addB{ks:List Int}{k x:Int}:x∈addB ks k↔x∈ks\/x=k:=by
 unfold addB;split
 ·constructor
  ·exact .inl
  ·rintro(h|rfl)<;>assumption
 ·simp
theorem mem_setB{vs:List Rv}{b:Int}:b∈setB vs↔∃v∈vs,v.1=1/\v.2.1=b:=by
 unfold setB
 suffices∀(vs:List Rv) (ks:List Int),b∈vs.foldl (λks v=>if v.1=1 then addB ks v.2.1 else ks) ks↔b∈ks\/∃v∈vs,v.1=1/\v.2.1=b by simpa using this vs []
 intro vs
 induction vs with
 |nil=>intro ks;simp
 |cons v vs ih=>
  intro ks;rw[List.foldl_cons,ih];by_cases h1:v.1=1
  ·rw[if_pos h1,mem_addB]
   constructor
   ·rintro((h|rfl)|⟨x,hx,h⟩)
    ·exact .inl h
    ·exact .inr ⟨v,by simp,h1,rfl⟩
    ·exact .inr ⟨x,by simp[hx],h⟩
   ·rintro(h|⟨x,hx,h2,h3⟩)
    ·exact .inl (.inl h)
    ·rcases List.mem_cons.1 hx with rfl|hx
     ·exact .inl (.inr h3.symm)
     ·exact .inr ⟨x,hx,h2,h3⟩
  ·rw[if_neg h1]
   constructor
   ·rintro(h|⟨x,hx,h⟩)
    ·exact .inl h
    ·exact .inr ⟨x,by simp[hx],h⟩
   ·rintro(h|⟨x,hx,h2,h3⟩)
    ·exact .inl h
    ·rcases List.mem_cons.1 hx with rfl|hx
     ·exact absurd h2 h1
     ·exact .inr ⟨x,hx,h2,h3⟩
theorem redoV_other(blk:Int)(vs:List Rv)(p:List UInt8)(hok:∀v∈vs,okV v=true)(hb:blk∉blocksV vs):redoV blk p vs=p:=by
 have hb2:blk∉setB vs:=λh=>hb ((sortI_perm _).symm.subset h)
 induction vs generalizing p with
 |nil=>rfl
 |cons v vs ih=>
  rw[redoV_cons];have hv:=okV_fits (hok v (by simp));have hp:(if v.2.1=blk then lay p v.2.2.1.toNat v.2.2.2.2 else p)=p:=by
   split
   ·rename_i h1
    rcases hv.2 with h2|h2
    ·exact absurd (mem_setB.2 ⟨v,by simp,h2,h1⟩) hb2
    ·rw[h2,lay_nil]
   ·rfl
  rw[hp];have hb3:blk∉setB vs:=λh=>by
   obtain⟨x,hx,h2⟩:=mem_setB.1 h;exact hb2 (mem_setB.2 ⟨x,by simp[hx],h2⟩)
  exact ih p (λx hx=>hok x (by simp[hx])) (λh=>hb3 ((sortI_perm _).subset h)) hb3
theorem C16v(pg s:Sl)(blk:Int)(l:List UInt8)(xs:List Rc)(w:World)(hp:BS w pg l)(hs:RL w s xs)(hl:s.len<=1000000):
 Calls Tryz.prog 131 #[.slice pg.a pg.len pg.cap,.int .i64 blk,.slice s.a s.len s.cap] w (RetT [.c .slice,.c (.int .i64)] λr w'=>
  r.2=redoEV l (xs.map rv)/\OwnS w' w.heap.size 1 r.1 ((if redoEV l (xs.map rv)=0 then redoV blk l (xs.map rv)else[]).map ub)/\Grow w w'):=by
 refine Calls.mono (C16 pg s blk l xs w hp hs hl) ?_;rintro e w' ⟨r,he,h⟩;refine⟨r,he,?_⟩;rwa[redoE_rv hs,redoF_rv]at h
theorem IterI.L{v:Value}{M:World->Prop}{xs:List Int}(h:IterI v M (λl=>l=xs) false):IterL Tryz.prog v [.c (.int .i64)] xs M:=by
 obtain⟨f,caps,e,hc,h⟩:=h;refine⟨f,caps,e,hc,λy w I D hM hG h0 hr=>?_⟩;refine Calls.mono (h y w (λpre W=>I pre.length W) D (hM _ _ h0) h0 (λo=>hG _ _ _ h0 ((Mod.refl _ w).alloc _)) (λh=>by cases h) (λpre W hI=>hG _ _ _ hI (Mod.refl _ W).drew) (λpre W hI=>hM _ _ hI) ?_) ?_
 ·rintro pre k W hI _ ⟨suf,hs⟩
  have hk:xs[pre.length]? =some k:=by rw[<-hs];simp
  refine callV_mono (λb W' hb=>?_) (hr pre.length k W hk hI);by_cases hbt:b=true
  ·rw[if_pos hbt]at hb⊢
   exact⟨by rw[List.length_append];exact hb,λh=>by cases h⟩
  ·rw[if_neg hbt]at hb⊢
   exact hb
 ·rintro e w' ⟨r,he,hp⟩
  refine⟨r,he,?_⟩;rcases hp with⟨l,rfl,hI⟩|hD
  ·exact .inl hI
  ·exact .inr hD
def redoB(vs:List Rv):List Int->DM->Int×DM
 |[],D=>flushD D
 |k::ks,D=>if placeE D k≠0 then(placeE D k,D)else if redoEV (rdD D k) vs≠0 then(redoEV (rdD D k) vs,D)else if redoV k (rdD D k) vs=rdD D k then redoB vs ks D
  else if(writeD D k (redoV k (rdD D k) vs)).1≠0 then writeD D k (redoV k (rdD D k) vs)else redoB vs ks (writeD D k (redoV k (rdD D k) vs)).2
def redoD(vs:List Rv)(D:DM):Int×DM:=redoB vs (blocksV vs) D
theorem redoB_dg(vs:List Rv):∀(ks:List Int) {D:DM} {N:Nat} (_:DB N D),DG D (redoB vs ks D).2 N (2*ks.length+1)
 |[],_,_,h=>flushD_dg h
 |k::ks,D,N,h=>by
  have h1:=writeD_dg h k (redoV k (rdD D k) vs);unfold redoB;rw[List.length_cons];split
  ·exact .refl h _
  ·split
   ·exact .refl h _
   ·split
    ·exact(redoB_dg vs ks h).mono (by omega)
    ·split
     ·exact h1.mono (by omega)
     ·exact(h1.trans (redoB_dg vs ks h1.db)).mono (by omega)
theorem V76{dp:Nat}{D:DM}{p:Sl}{xs:List Rc}{N:Nat}{w:World}{F:Nat->Prop}(hh:Has [DiskA dp D] w F)(hd:DB N D)(hN:N<=1000000)(hr:RdL w F p xs)(hp:p.len<=1000000):
 Calls Tryz.prog 76 #[P0 dp,slV p] w (RetT [.c (.int .i64)] λx w'=>x=(redoD (xs.map rv) D).1/\St F w w' [DiskA dp (redoD (xs.map rv) D).2]):=by
 refine F76_calls _ _ _ _ ?_;unfold F76 redoD;have hpl:=hr.rl.len;refine⟨trivial,St.nw (St.init hh) λr w1 s1 _ _=>⟨by simp,St.nw s1 λr1 w2 s2 _ _=>⟨trivial,St.nw s2 λr2 w3 s3 _ _=>?_⟩⟩⟩;have s3:St F w w3 [BoxA r2 [iv 0],BoxA r1 [slV p],BoxA r [P0 dp],DiskA dp D]:=s3;refine s3.L 1 rfl (p:=p) rfl ?_;refine callF_of (V117 p xs w3 (hr.at s3) hp) ?_;rintro _ w4 ⟨b,t,rfl,k4⟩;have s4:St F w w4 [BoxA b [slV t],SlA 1 t (ints (blocksV (xs.map rv))),BoxA r2 [iv 0],BoxA r1 [slV p],BoxA r [P0 dp],DiskA dp D]:=s3.call0 k4;have hbl:=blocks_len xs;obtain⟨vs,hvs⟩:∃vs,xs.map rv=vs:=⟨_,rfl⟩;rw[hvs]at s4 hbl⊢;refine rng_st (shs:=[.c (.int .i64)]) (IterI.L (iter_values ⟨b,0,none⟩ t (blocksV vs) (by omega))) (F0:=F) (w0:=w)
  (λD':DM=>[BoxA b [slV t],SlA 1 t (ints (blocksV vs)),BoxA r2 [iv 0],BoxA r1 [slV p],BoxA r [P0 dp],DiskA dp D'])
  (λj D'=>DB (N+2*j) D'/\redoB vs (blocksV vs) D=redoB vs ((blocksV vs).drop j) D')
  (λe:Int×DM=>[BoxA b [slV t],SlA 1 t (ints (blocksV vs)),BoxA r2 [iv e.1],BoxA r1 [slV p],BoxA r [P0 dp],DiskA dp e.2])
  (λq e=>q=none/\redoB vs (blocksV vs) D=e) D ⟨hd,rfl⟩ s4 ?_ ?_ ?_ ?_
 ·intro j s W T _ hs
  have hs:St F w W (BoxA b [slV t]::SlA 1 t (ints (blocksV vs))::BoxA r2 [iv 0]::BoxA r1 [slV p]::BoxA r [P0 dp]::DiskA dp s::T):=hs;exact⟨hs.box.row 0 _ rfl,owns_ints (hs.bring 1).sl⟩
 ·rintro l m Ro j x s W bg nx lv hx ⟨hds,hX⟩ hs hbg hnx hlv
  refine hbg _ _ _ hs λW2 _ s5=>?_;have s5:St F w W2 [BoxA b [slV t],SlA 1 t (ints (blocksV vs)),BoxA r2 [iv 0],BoxA r1 [slV p],BoxA r [P0 dp],DiskA dp s,ObjA l (Ro .busy),ObjA m ddO]:=s5;have hlt:j<(blocksV vs).length:=(List.getElem?_eq_some_iff.1 hx).1;have hxe:(blocksV vs)[j]=x:=(List.getElem?_eq_some_iff.1 hx).2;rw[List.drop_eq_getElem_cons hlt,hxe,redoB]at hX;refine s5.L 4 rfl (p:=(some ⟨dp,0,none⟩:Option Addr)) rfl ?_;have s6:St F w W2 [DiskA dp s,BoxA b [slV t],SlA 1 t (ints (blocksV vs)),BoxA r2 [iv 0],BoxA r1 [slV p],BoxA r [P0 dp],ObjA l (Ro .busy),ObjA m ddO]:=s5.sel [5,0,1,2,3,4,6,7] 8;refine rdC' s6 hds (by omega) λu W3 s7=>?_;refine br_of (λh=>?_) λh=>?_
  ·rw[if_pos (by simpa using h)]at hX
   refine s7.S 4 rfl (by simp) trivial λW4 s8=>?_;exact hlv none (placeE s x,s) W4 ⟨rfl,hX⟩ (s8.sel [2,3,4,5,6,1,7,8] 9)
  have h0:placeE s x=0:=by simpa using h
  rw[if_neg (λh=>h h0)]at hX;rw[if_pos h0]at s7;refine s7.L 5 rfl (p:=p) rfl ?_;refine callF_of (C16v u p x (rdD s x) xs W3 s7.sl.bs (hr.at s7) hp) ?_;rw[hvs];rintro⟨v,e⟩ W4 ⟨he,hv,g⟩;dsimp only at he hv;have s8:=s7.mksl g hv;subst he;refine br_of (λh=>?_) λh=>?_
  ·rw[if_pos (by simpa using h)]at hX
   refine s8.S 5 rfl (by simp) trivial λW5 s9=>?_;exact hlv none (redoEV (rdD s x) vs,s) W5 ⟨rfl,hX⟩ (s9.sel [3,4,5,6,7,2,8,9] 10)
  have h1:redoEV (rdD s x) vs=0:=by simpa using h
  rw[if_neg (λh=>h h1)]at hX;rw[if_pos h1]at s8;refine callF_of (C18 u v _ _ W4 (s8.bring 1).sl.bs s8.sl.bs) ?_;rintro q W5 ⟨rfl,rfl⟩;refine br_of (λh=>?_) λh=>?_
  ·have h:redoV x (rdD s x) vs=rdD s x:=(eq_of_beq h).symm
   rw[if_pos h]at hX;exact hnx s _ ⟨hds.le (by omega),hX⟩ (s8.sel [3,4,5,6,7,2,8,9] 10)
  have h:redoV x (rdD s x) vs≠rdD s x:=λh'=>by rw[h']at h;simp at h
  rw[if_neg h]at hX;refine s8.L 7 rfl (p:=(some ⟨dp,0,none⟩:Option Addr)) rfl ?_;have s9:=s8.sel [2,0,3,4,5,6,7,8,9] 10;refine wrC' s9 hds (by omega) λW6 s10=>?_;refine br_of (λh=>?_) λh=>?_
  ·rw[if_pos (by simpa using h)]at hX
   refine s10.S 4 rfl (by simp) trivial λW7 s11=>?_;exact hlv none _ W7 ⟨rfl,hX⟩ (s11.sel [2,3,4,5,6,0,7,8] 9)
  ·rw[if_neg (by simpa using h)]at hX
   exact hnx _ W6 ⟨(writeD_dg hds _ _).db,hX⟩ (s10.sel [2,3,4,5,6,0,7,8] 9)
 ·rintro m s W ⟨hds,hX⟩ hs
  have hs:St F w W [BoxA b [slV t],SlA 1 t (ints (blocksV vs)),BoxA r2 [iv 0],BoxA r1 [slV p],BoxA r [P0 dp],DiskA dp s,ObjA m ddO]:=hs;rw[List.drop_length,redoB]at hX;refine hs.L 4 rfl (p:=(some ⟨dp,0,none⟩:Option Addr)) rfl ?_;have s6:St F w W [DiskA dp s,BoxA b [slV t],SlA 1 t (ints (blocksV vs)),BoxA r2 [iv 0],BoxA r1 [slV p],BoxA r [P0 dp],ObjA m ddO]:=hs.sel [5,0,1,2,3,4,6] 7;refine flC' s6 hds (by omega) λW2 s7=>?_;refine s7.S 3 rfl (by simp) trivial λW3 s8=>?_;refine takesAt (V:=[DiskA dp (flushD s).2,BoxA b [slV t],SlA 1 t (ints (blocksV vs)),BoxA r2 [iv (flushD s).1],BoxA r1 [slV p],BoxA r [P0 dp]]) (T:=[]) s8 λW4 s9=>?_;refine s9.L 3 rfl (p:=(flushD s).1) rfl ?_;rw[hX];exact⟨rfl,s9.sel [0] 6⟩
 ·rintro m q e W ⟨rfl,hX⟩ hs
  refine takesAt (V:=[BoxA b [slV t],SlA 1 t (ints (blocksV vs)),BoxA r2 [iv e.1],BoxA r1 [slV p],BoxA r [P0 dp],DiskA dp e.2]) (T:=[]) hs λW4 s9=>?_;refine s9.L 2 rfl (p:=e.1) rfl ?_;rw[hX];exact⟨rfl,s9.sel [5] 6⟩
theorem has_bts{w:World}:∀(ys:List Rc),(∀x∈ys,OwnS w 0 1 x.1.s (x.2.map ub))->(ys.Pairwise λx y=>Apart x.1.s y.1.s)->Has (ys.map λx=>bytA (x.1.s,x.2)) w (λb=>∃x∈ys,x.1.s.blk b)
 |[],_,_=>λb ⟨_,h,_⟩=>by simp at h
 |x::ys,h,hp=>by
  rw[List.pairwise_cons]at hp;refine⟨λb=>x.1.s.blk b,_,⟨h x (List.mem_cons_self ..),λ_=>Iff.rfl⟩,has_bts ys (λy hy=>h y (List.mem_cons_of_mem _ hy)) hp.2,λb hb=>?_,λb=>?_⟩
  ·rintro⟨y,hy,hyb⟩
   exact hp.1 y hy b hb hyb
  ·constructor
   ·rintro⟨y,hy,hyb⟩
    rcases List.mem_cons.1 hy with rfl|hy
    ·exact .inl hyb
    ·exact .inr ⟨y,hy,hyb⟩
   ·rintro(hb|⟨y,hy,hyb⟩)
    ·exact⟨x,List.mem_cons_self ..,hb⟩
    ·exact⟨y,List.mem_cons_of_mem _ hy,hyb⟩
theorem OwnRs.st{w w':World}{a:Sl}{ys:List Rc}(h:OwnRs w' w.heap.size a ys)(g:Grow w w'):St noF w w' [SlA 5 a (rcs ys),bts ys]:=by
 refine⟨g,λb=>a.blk b\/∃x∈ys,x.1.s.blk b,⟨λb=>a.blk b,λb=>∃x∈ys,x.1.s.blk b,⟨h.own.weaken (Nat.zero_le _),λ_=>Iff.rfl⟩,?_,?_,λb=>Iff.rfl⟩,?_⟩
 ·exact⟨_,noF,has_bts ys (λx hx=>(h.dat x hx).weaken (Nat.zero_le _)) h.pw,λ_ h=>h,λ_ _ h=>h,λb=>⟨.inl,λh=>h.elim id λh=>h.elim⟩⟩
 ·rintro b hb ⟨x,hx,hxb⟩
  exact h.dis x hx b hb hxb
 ·rintro b (hb|⟨x,hx,hxb⟩)
  ·exact .inr (OwnS.blk_le h.own hb)
  ·exact .inr (OwnS.blk_le (h.dat x hx) hxb)
theorem V73(s:Sl)(xs:List Rc)(w:World)(h:RL w s xs)(hl:s.len<=1000000):Calls Tryz.prog 73 #[slV s] w (RetT [.c .slice,.c (.int .i64)] λr w'=>r.2=(com (xs.map rv)).2/\∃ys:List Rc,ys.map rv=(com (xs.map rv)).1/\St noF w w' [SlA 5 r.1 (rcs ys),bts ys]):=by
 refine Calls.mono (C24 s xs w h hl) ?_;rintro e w' ⟨r,he,h1,⟨ys,h2,h3⟩,h4⟩;exact⟨r,he,h1,ys,h3,h2.st h4⟩
abbrev storeC(b dp:Nat)(S:Sup)(P:PlanT)(busy dead:Bool)(m:Nat):List Value:=
 [P0 b,P0 dp,iv S.1,iv S.2.1,iv S.2.2.1,iv S.2.2.2.1,iv S.2.2.2.2.1,iv S.2.2.2.2.2,iv P.1,iv P.2.1,iv P.2.2.1,iv P.2.2.2.1,iv P.2.2.2.2.1,iv P.2.2.2.2.2,.bool busy,.bool dead,.map (some m)]
def lapE(D:DM)(s:Sup)(t:Int):Int:=
 if(lapS s t).2≠0 then 6 else if openR D 3 s.2.2.1 (lapS s t).1.2.2.2.2.2≠0 then openR D 3 s.2.2.1 (lapS s t).1.2.2.2.2.2 else if 0<(scanO D 3 s.2.2.1 (lapS s t).1.2.2.2.2.2).length then 50 else 0
def openT(D:DM):Int×DM:=
 if D.off then(5,D)else if(chosenS D).2≠0 then((chosenS D).2,D)else if(ofG (supG (chosenS D).1)).2≠0 then(50,D)else
 if openR D 3 (chosenS D).1.2.2.1 (chosenS D).1.2.2.2.2.2≠0 then(openR D 3 (chosenS D).1.2.2.1 (chosenS D).1.2.2.2.2.2,D)else
 let R:=scanO D 3 (chosenS D).1.2.2.1 (chosenS D).1.2.2.2.2.2
 if(com R).1.all (λv=>decide (usableS (ofG (supG (chosenS D).1)).1 v.2.1))=false then(50,D)else
 let t:=(chosenS D).1.2.2.2.2.2+R.length
 if lapE D (chosenS D).1 t≠0 then(lapE D (chosenS D).1 t,D)else
 if(redoD (com R).1 D).1≠0 then redoD (com R).1 D else noteD (redoD (com R).1 D).2 (lapS (chosenS D).1 t).1
def StoreQ(dp:Nat)(D:DM)(F:Nat->Prop)(w:World)(r:Option Addr×Int)(w':World):Prop:=
 ((openT D).1≠0/\r=(none,(openT D).1)/\St F w w' [DiskA dp (openT D).2])\/
 ((openT D).1=0/\∃(x b g c m:Nat) (s:Sl) (S:Sup),r=(some ⟨x,0,none⟩,0)/\S=(lapS (chosenS D).1 ((chosenS D).1.2.2.2.2.2+(scanO D 3 (chosenS D).1.2.2.1 (chosenS D).1.2.2.2.2.2).length)).1/\
   St F w w' ([BoxA x (storeC b dp S (ofG (supG (chosenS D).1)).1 false false m),BoxA b [P0 g,P0 c]]++ringO g dp 3 (chosenS D).1.2.2.1 S.2.2.2.2.2 s []++[CacheA c dp ⟨256,0,[]⟩,MapA intKT m [],DiskA dp (openT D).2]))
def OpenL(D:DM)(dp:Nat)(st n h:Int)(o:Option Addr×Sl×Int)(L:List HA):Prop:=
 (openR D st n h≠0/\o=(none,⟨none,0,0⟩,openR D st n h)/\L=[])\/
 (openR D st n h=0/\∃(b:Nat) (s t:Sl) (xs ys:List Rc),o=(some ⟨b,0,none⟩,t,0)/\xs.map rv=scanO D st n h/\ys.map rv=scanO D st n h/\t.len=ys.length/\L=ringO b dp st n h s xs++[SlA 5 t (rcs ys),bts ys])
theorem OpenQ.L{D:DM}{dp:Nat}{st n h:Int}{w w':World}{o:Option Addr×Sl×Int}(k:OpenQ D dp st n h w o w'):∃L,St noF w w' L/\OpenL D dp st n h o L:=by
 rcases k with⟨h1,h2,h3⟩|⟨h1,b,s,t,xs,ys,h2,h3,h4,h5⟩
 ·exact⟨[],(St.init0 w).grow h3,.inl ⟨h1,h2,rfl⟩⟩
 ·have h5':St noF w w' [BoxA b (ringC dp st n h s),SlA 5 s (rcs xs),bts xs,SlA 5 t (rcs ys),bts ys]:=h5
  have hl:=(h5'.sel [3,4] 5).rl.len;exact⟨_,h5,.inr ⟨h1,b,s,t,xs,ys,h2,h3,h4,hl,rfl⟩⟩
def LapsL(D:DM)(dp:Nat)(s:Sup)(t:Int)(x:Sup×(Option Addr)×Int)(L:List HA):Prop:=
 ((lapS s t).2≠0/\x=((lapS s t).1,none,6)/\L=[])\/
 ((lapS s t).2=0/\∃o,OpenL D dp 3 s.2.2.1 (lapS s t).1.2.2.2.2.2 o L/\x=((lapS s t).1,o.1,if o.2.2=0/\0<o.2.1.len then 50 else o.2.2))
theorem LapsQ.L{D:DM}{dp:Nat}{s:Sup}{t:Int}{w w':World}{x:Sup×(Option Addr)×Int}(k:LapsQ D dp s t w x w'):∃L,St noF w w' L/\LapsL D dp s t x L:=by
 rcases k with⟨h1,h2,h3⟩|⟨h1,o,h2,h3⟩
 ·exact⟨[],(St.init0 w).grow h3,.inl ⟨h1,h2,rfl⟩⟩
 ·obtain⟨L,h4,h5⟩:=h2.L
  exact⟨L,h4,.inr ⟨h1,o,h5,h3⟩⟩
theorem LapsL.e{D:DM}{dp:Nat}{s:Sup}{t:Int}{x:Sup×(Option Addr)×Int}{L:List HA}(k:LapsL D dp s t x L):x.2.2=lapE D s t/\x.1=(lapS s t).1:=by
 unfold lapE;rcases k with⟨h1,rfl,_⟩|⟨h1,o,ho,rfl⟩
 ·rw[if_pos h1];exact⟨rfl,rfl⟩
 ·refine⟨?_,rfl⟩
  rcases ho with⟨h2,rfl,_⟩|⟨h2,b,s',t',xs,ys,rfl,_,hy,hl,_⟩
  ·simp[h1,h2]
  ·simp[h1,h2,hl,<-hy]
theorem LapsL.ok{D:DM}{dp:Nat}{s:Sup}{t:Int}{x:Sup×(Option Addr)×Int}{L:List HA}(k:LapsL D dp s t x L)(h0:x.2.2=0):
 ∃g sr t2,x=((lapS s t).1,some ⟨g,0,none⟩,0)/\L=ringO g dp 3 s.2.2.1 (lapS s t).1.2.2.2.2.2 sr []++[SlA 5 t2 (rcs []),bts []]:=by
 rcases k with⟨h1,rfl,_⟩|⟨h1,o,ho,rfl⟩
 ·cases h0
 ·rcases ho with⟨h2,rfl,_⟩|⟨h2,b,s',t',xs,ys,rfl,hx,hy,hl,rfl⟩
  ·simp[h2]at h0
  ·have hz:ys.length=0:=by
    dsimp only at h0;rw[hl]at h0;by_cases h:0<ys.length
    ·simp[h]at h0
    ·omega
   have hy0:ys=[]:=List.eq_nil_of_length_eq_zero hz;subst hy0;have hx0:xs=[]:=by rw[<-hy]at hx;simpa using hx
   subst hx0;refine⟨b,s',t',?_,rfl⟩;simp[hl]
theorem V24{dp:Nat}{D:DM}{N:Nat}{w:World}{F:Nat->Prop}(hh:Has [DiskA dp D] w F)(hd:DB N D)(hN:N<=900000):
 Calls Tryz.prog 24 #[P0 dp] w (RetT [.c .ptr,.c (.int .i64)] (StoreQ dp D F w)):=by
 refine F24_calls _ _ _ ?_;unfold F24;have s0:=St.init hh;have bad:∀{W:World} {e:Int} {D':DM},e≠0->openT D=(e,D')->St F w W [DiskA dp D']->StoreQ dp D F w (none,e) W:=λhe h1 h2=>.inl ⟨by rw[h1];exact he,by rw[h1],by rw[h1];exact h2⟩;refine callF_of (V69 hh hd.ok) ?_;rintro _ w ⟨rfl,rfl⟩;unfold readyE;refine br_of (λh=>?_) λh=>?_
 ·have ho:D.off=true:=by cases hx:D.off<;>simp_all
  refine bad (by rw[ho];decide) (by unfold openT;rw[ho];rfl) s0
 have ho:D.off=false:=by cases hx:D.off<;>simp_all
 refine callF_of (V70 hh hd (by omega)) ?_;rintro(C:Sup×Int) w1 ⟨hC,g1⟩;have eT:=openT.eq_1 D;dsimp only at eT;rw[ho,if_neg (by decide),<-hC]at eT;refine((St.init0 w).grow g1).nvs rfl (na_p C.1) λr w2 s2=>?_;have s2:St noF w w2 [BoxA r (pcells C.1)]:=s2;refine br_of (λh=>?_) λh=>?_
 ·have h:C.2≠0:=by simpa using h
  exact bad h (by rw[eT,if_pos h]) (s0.grow s2.gro)
 have h:C.2=0:=by simpa using h
 rw[if_neg (λh'=>h' h)]at eT;have hbr:=s2.box;have hgr:Row w2 (bA r 1) (valA [.int .i64,.int .i64,.int .i64,.int .i64] (supG C.1)):=(hbr.row.drop 1).take 4;refine ldA_of (p:=supG C.1) (readsAt_row.2 hgr) ?_;refine callF_of (V71 (supG C.1) w2) ?_;rintro(P:PlanT×Int) w3 ⟨hP,g3⟩;rw[<-hP]at eT;refine(s2.grow g3).nvs rfl (na_p P.1) λr1 w4 s4=>?_;have s4:St noF w w4 [BoxA r1 (pcells P.1),BoxA r (pcells C.1)]:=s4;refine br_of (λh=>?_) λh=>?_
 ·have h:P.2≠0:=by simpa using h
  exact bad (by decide) (by rw[eT,if_pos h]) (s0.grow s4.gro)
 have h:P.2=0:=by simpa using h
 rw[if_neg (λh'=>h' h)]at eT;refine s4.L 1 rfl (p:=C.1.2.2.1) rfl ?_;refine s4.L 1 rfl (p:=C.1.2.2.2.2.2) rfl ?_;refine callF_of (V72 (hh.mod s4.gro λ_ _ h=>h) hd (by omega)) ?_;rintro o w5 ho5;obtain⟨L,k5,hL⟩:=ho5.split;have g5:=(s4.call0 k5).gro;rcases ho5 with⟨e5,rfl,_⟩|⟨e5,q,sr,t,xs,ys,rfl,hxs,hys,k5⟩
 ·exact br_t (by simpa using e5) (bad e5 (by rw[eT,if_pos e5]) (s0.grow g5))
 rw[if_neg (λh'=>h' e5)]at eT;refine br_f rfl ?_;have s5:St noF w w5 [BoxA q (ringC dp 3 C.1.2.2.1 C.1.2.2.2.2.2 sr),SlA 5 sr (rcs xs),bts xs,SlA 5 t (rcs ys),bts ys,BoxA r1 (pcells P.1),BoxA r (pcells C.1)]:=s4.call0 k5;have hsc:(scanO D 3 C.1.2.2.1 C.1.2.2.2.2.2).length<=(4*C.1.2.2.1).toNat:=scanR_len _ _;have hbO:¬badO D 3 C.1.2.2.1 C.1.2.2.2.2.2:=λhb=>by unfold openR at e5;rw[if_pos hb]at e5;cases e5
 unfold badO at hbO;have rly:=(s5.sel [3,4] 7).rl;have hyl:ys.length=(scanO D 3 C.1.2.2.1 C.1.2.2.2.2.2).length:=by rw[<-hys,List.length_map]
 have hxl:xs.length=(scanO D 3 C.1.2.2.1 C.1.2.2.2.2.2).length:=by rw[<-hxs,List.length_map]
 have htl:=rly.len;have hsrl:=(s5.sel [1,2] 7).rl.len;refine callF_of (V73 t ys w5 rly (by omega)) ?_;rw[hys];rintro⟨u,nn⟩ w6 ⟨_,zs,hz,k6⟩;dsimp only at hz k6;obtain⟨R,hR⟩:∃R,scanO D 3 C.1.2.2.1 C.1.2.2.2.2.2=R:=⟨_,rfl⟩;rw[hR]at eT hz hsc hyl hxl;have s6:St noF w w6 [SlA 5 u (rcs zs),bts zs,BoxA q (ringC dp 3 C.1.2.2.1 C.1.2.2.2.2.2 sr),SlA 5 sr (rcs xs),bts xs,SlA 5 t (rcs ys),bts ys,BoxA r1 (pcells P.1),BoxA r (pcells C.1)]:=s5.call0 k6;have hzl:zs.length<=R.length:=by have:=com_size R;rw[<-hz,List.length_map]at this;exact this
 have hul:=s6.ss.len;rw[List.length_map]at hul;refine loop_of (λi W=>∃j:Nat,i=j/\j<=zs.length/\(∀z∈zs.take j,usableS P.1 z.1.b)/\St noF w W [SlA 5 u (rcs zs),bts zs,BoxA q (ringC dp 3 C.1.2.2.1 C.1.2.2.2.2.2 sr),SlA 5 sr (rcs xs),bts xs,SlA 5 t (rcs ys),bts ys,BoxA r1 (pcells P.1),BoxA r (pcells C.1)]) (λi _=>zs.length-i.toNat)
  ⟨0,rfl,by omega,by simp,s6⟩ ?_
 rintro _ W ⟨j,rfl,hj,hu,s6⟩;refine br_of (λhlt=>?_) λhge=>?_
 ·have hlt:j<zs.length:=by simpa[hul]using hlt
  have hzj:zs[j]? =some zs[j]:=by simp[hlt]
  refine SS.eld Rw.cells_len s6.ss (r:=zs[j].1) (by rw[List.getElem?_map,hzj];rfl) (by decide) (p:=zs[j].1.p) rfl ?_;refine s6.nvs rfl (λv hv=>by simp at hv;rcases hv with rfl|rfl|rfl|rfl|rfl<;>trivial) λb2 W2 s7=>?_;refine s7.LA 8 rfl (p:=P.1) rfl ?_;refine s7.L 0 rfl (p:=zs[j].1.b) rfl ?_;refine callF_of (V74 P.1 zs[j].1.b W2) ?_;rintro _ W3 ⟨rfl,g⟩;have s8:=s7.grow g;refine br_of (λh=>?_) λh=>?_
  ·have h:¬usableS P.1 zs[j].1.b:=by simpa using h
   refine bad (by decide) (by
    rw[eT,if_pos];rw[<-hz,List.all_eq_false];exact⟨rv zs[j],List.mem_map.2 ⟨_,List.getElem_mem hlt,rfl⟩,by rw[decide_eq_true_eq];exact h⟩) (s0.grow s8.gro)
  ·have h:usableS P.1 zs[j].1.b:=by simpa using h
   rw[w64_succ (by omega)];refine⟨⟨j+1,rfl,hlt,?_,s8.drop⟩,?_⟩
   ·intro z hz'
    rw[List.take_add_one,hzj,List.mem_append]at hz';rcases hz' with h'|h'
    ·exact hu z h'
    ·simp at h';subst h';exact h
   ·show zs.length-(((j+1:Nat):Int)).toNat<zs.length-((j:Int)).toNat
    omega
 have hge:j=zs.length:=by simp[hul]at hge;omega
 subst hge;rw[List.take_length]at hu;rw[if_neg (by
  rw[<-hz,Bool.not_eq_false,List.all_eq_true];intro v hv;obtain⟨z,hz',rfl⟩:=List.mem_map.1 hv;exact decide_eq_true (hu z hz'))]at eT
 obtain⟨tl,htl⟩:∃tl:Int,C.1.2.2.2.2.2+R.length=tl:=⟨_,rfl⟩;rw[htl]at eT;have hsl:C.1.2.2.2.2.2+(sr.len:Int)=tl:=by rw[<-htl,hsrl,hxl]
 refine jn_of (λc W=>∃b x L2,c=(x.2.2,x.2.1,(some ⟨b,0,none⟩:Option Addr))/\LapsL D dp C.1 tl x L2/\St noF w W (BoxA b (pcells x.1)::SlA 5 u (rcs zs)::bts zs::BoxA r1 (pcells P.1)::L2)) ?_ ?_
 ·rw[drw_def]
  have s7:=s6.drew;have hbr:=(s7.bring 8).box;have hbq:=(s7.bring 2).box;have hhW:=hh.mod s7.gro λ_ _ h=>h;have s7:=s7.sel [0,1,7] 9;generalize W.drew=W5 at s7 hbr hbq hhW;refine jn_of (λc W=>∃b x L2,c=((some ⟨b,0,none⟩:Option Addr),x.1,x.2.1,x.2.2)/\LapsL D dp C.1 tl x L2/\St noF W5 W (BoxA b (pcells Sup0)::L2)) ?_ ?_
  ·generalize hRR:(λ(c:Option Addr×Sup×(Option Addr)×Int) W=>∃b x L2,c=((some ⟨b,0,none⟩:Option Addr),x.1,x.2.1,x.2.2)/\LapsL D dp C.1 tl x L2/\St noF W5 W (BoxA b (pcells Sup0)::L2))=RR
   have fin1:∀{b W L2} {x:Sup×(Option Addr)×Int},LapsL D dp C.1 tl x L2->St noF W5 W (BoxA b (pcells Sup0)::(L2++[]))->RR ((some ⟨b,0,none⟩:Option Addr),x.1,x.2.1,x.2.2) W:=λ{b W L2 x} hl t=>by rw[<-hRR];rw[List.append_nil]at t;exact⟨b,x,L2,rfl,hl,t⟩
   have fin2:∀{b W L2} {x:Sup×(Option Addr)×Int},LapsL D dp C.1 tl x L2->St noF W5 W (L2++[BoxA b (pcells Sup0)])->RR ((some ⟨b,0,none⟩:Option Addr),x.1,x.2.1,x.2.2) W:=λ{b W L2 x} hl t=>fin1 hl (t.perm (by rw[List.append_nil];exact List.perm_append_comm));clear hRR;have t0:=St.init0 W5;have c57:∀{W L} {k:Int->Pr},St noF W5 W L->(∀W',St noF W5 W' L->k tl W')->callF Tryz.prog 57 [RP q] [.c (.int .i64)] k W:=λ{W L k} t hk=>by
    refine callF_of (V57 (hbq.grow t.gro) (by omega) (by omega)) ?_;rintro x W' ⟨hx,g⟩;have:x=tl:=hx.trans hsl;subst this;exact hk W' (t.grow g)
   have c75:∀{W L} {k:Sup×(Option Addr)×Int->Pr},St noF W5 W L->(∀x L2 W',LapsL D dp C.1 tl x L2->St noF W5 W' (L2++L)->k x W')->callF Tryz.prog 75 [P0 dp,Sup.v C.1,iv tl] [.agg [.int .i64,.int .i64,.int .i64,.int .i64,.int .i64,.int .i64],.c .ptr,.c (.int .i64)] k W:=λ{W L k} t hk=>by
    refine callF_of (V75 (hhW.mod t.gro λ_ _ h=>h) hd (by omega)) ?_;rintro x W' hx;obtain⟨L2,h1,h2⟩:=hx.L;exact hk x L2 W' h2 (t.call0 h1)
   have cnw:∀{W L} {k:Nat->Pr},St noF W5 W L->(∀b W',St noF W5 W' (BoxA b (pcells Sup0)::L)->k b W')->nw (.cells #[iv 0,iv 0,iv 0,iv 0,iv 0,iv 0] 61) k W:=λu hk=>St.nw u λb W' t' _ _=>hk b W' t';have cld:∀{W L} {k:Sup->Pr},St noF W5 W L->k C.1 W->ldA [.int .i64,.int .i64,.int .i64,.int .i64,.int .i64,.int .i64] (bA r 0) k W:=λ{W L k} u hk=>(hbr.grow u.gro).ldA hk
   repeat' first
    |with_reducible refine both_of ?_ ?_
    |with_reducible refine c57 (by assumption) λ_ _=>?_
    |with_reducible refine c75 (by assumption) λ_ _ _ _ _=>?_
    |with_reducible refine cnw (by assumption) λ_ _ _=>?_
    |with_reducible refine cld (by assumption) ?_
    |exact fin1 (by assumption) (by assumption)
    |exact fin2 (by assumption) (by assumption)
  rintro _ W6 ⟨b,x,L2,rfl,hL2,t1⟩;have s8:St noF w W6 (BoxA b (pcells Sup0)::(L2++[SlA 5 u (rcs zs),bts zs,BoxA r1 (pcells P.1)])):=s7.call0 t1;have s8:St noF w W6 (BoxA b (pcells Sup0)::([SlA 5 u (rcs zs),bts zs,BoxA r1 (pcells P.1)]++L2)):=s8.perm (List.Perm.cons _ List.perm_append_comm);rw[deref_some'];refine s8.S 0 rfl (by simp) trivial λ_ s9=>?_;refine s9.S 0 rfl (by simp[setA]) trivial λ_ s10=>?_;refine s10.S 0 rfl (by simp[setA]) trivial λ_ s11=>?_;refine s11.S 0 rfl (by simp[setA]) trivial λ_ s12=>?_;refine s12.S 0 rfl (by simp[setA]) trivial λ_ s13=>?_;refine s13.S 0 rfl (by simp[setA]) trivial λ_ s14=>?_;exact⟨b,x,L2,rfl,hL2,s14⟩
 rintro _ w7 ⟨b,x,L2,rfl,hL2,s7⟩;have hxe:=hL2.e;refine br_of (λh=>?_) λh=>?_
 ·have h:x.2.2≠0:=by simpa using h
  exact bad h (by rw[eT,<-hxe.1,if_pos h]) (s0.grow s7.gro)
 have h:x.2.2=0:=by simpa using h
 rw[<-hxe.1,if_neg (λh'=>h' h)]at eT;obtain⟨g,sg,t2,rfl,rfl⟩:=hL2.ok h;obtain⟨S,hS⟩:∃S,(lapS C.1 tl).1=S:=⟨_,rfl⟩;rw[hS]at eT s7;have s8:St F w w7 [BoxA b (pcells S),SlA 5 u (rcs zs),bts zs,BoxA r1 (pcells P.1),BoxA g (ringC dp 3 C.1.2.2.1 S.2.2.2.2.2 sg),SlA 5 sg (rcs []),bts [],SlA 5 t2 (rcs []),bts [],DiskA dp D]:=s0.call0 s7;have s9:=s8.sel [9,1,2,0,3,4,5,6] 10;obtain⟨G,H,g2,g3,g4,_,gc⟩:=St.call [DiskA dp D] s9;refine callF_of (V76 g2 hd (by omega) (RdL.own g3 g4) (by show u.len<=1000000;omega)) ?_;rw[hz];rintro _ w8 ⟨rfl,s10⟩;have s10:St F w w8 [DiskA dp (redoD (com R).1 D).2,SlA 5 u (rcs zs),bts zs,BoxA b (pcells S),BoxA r1 (pcells P.1),BoxA g (ringC dp 3 C.1.2.2.1 S.2.2.2.2.2 sg),SlA 5 sg (rcs []),bts []]:=gc _ _ s10;have hdb:=redoB_dg (com R).1 (blocksV (com R).1) hd;have hbk:=blocks_len zs;rw[hz]at hbk;change DG D (redoD (com R).1 D).2 N _ at hdb;generalize redoD (com R).1 D=E at eT s10 hdb⊢;refine br_of (λh=>?_) λh=>?_
 ·have h:E.1≠0:=by simpa using h
  exact bad h (by rw[eT,if_pos h]) (s10.sel [0] 8)
 have h:E.1=0:=by simpa using h
 rw[if_neg (λh'=>h' h)]at eT;rw[deref_some'];refine s10.LA 3 rfl (p:=S) rfl ?_;obtain⟨G2,H2,g5,_,_,_,gc2⟩:=St.call [DiskA dp E.2] s10;refine callF_of (V77 (s:=S) g5 hdb.db (by omega)) ?_;rintro _ w9 ⟨rfl,s11⟩;have s11:=gc2 _ _ s11;have hdb2:=noteD_dg hdb.db S;generalize noteD E.2 S=E2 at eT s11 hdb2⊢;have s11:St F w w9 [DiskA dp E2.2,SlA 5 u (rcs zs),bts zs,BoxA b (pcells S),BoxA r1 (pcells P.1),BoxA g (ringC dp 3 C.1.2.2.1 S.2.2.2.2.2 sg),SlA 5 sg (rcs []),bts []]:=s11;refine br_of (λh=>?_) λh=>?_
 ·have h:E2.1≠0:=by simpa using h
  exact bad h eT (s11.sel [0] 8)
 have h:E2.1=0:=by simpa using h
 obtain⟨G3,H3,g6,_⟩:=St.call [DiskA dp E2.2] s11;refine callF_of (C32 dp E2.2 256 w9 G3 g6 hdb2.db.ok) ?_;rintro⟨c,e⟩ w10 hc;rw[if_pos (by decide)]at hc;obtain⟨rfl,c,rfl,k12⟩:=hc;have s12:=s11.call0 k12;refine br_f rfl ?_;refine s12.nw λb9 w11 s13 _ _=>?_;rw[deref_some'];have s13:St F w w11 [BoxA b9 [P0 g,P0 c],CacheA c dp ⟨256,0,[]⟩,DiskA dp E2.2,SlA 5 u (rcs zs),bts zs,BoxA b (pcells S),BoxA r1 (pcells P.1),BoxA g (ringC dp 3 C.1.2.2.1 S.2.2.2.2.2 sg),SlA 5 sg (rcs []),bts []]:=s13;refine s13.LA 5 rfl (p:=S) rfl ?_;refine s13.LA 6 rfl (p:=P.1) rfl ?_;refine s13.newMap (T:=intKT) λm w12 s14=>?_;refine s14.nw λx w13 s15 _ _=>?_;have s15:St F w w13 [BoxA x (storeC b9 dp S P.1 false false m),MapA intKT m [],BoxA b9 [P0 g,P0 c],CacheA c dp ⟨256,0,[]⟩,DiskA dp E2.2,SlA 5 u (rcs zs),bts zs,BoxA b (pcells S),BoxA r1 (pcells P.1),BoxA g (ringC dp 3 C.1.2.2.1 S.2.2.2.2.2 sg),SlA 5 sg (rcs []),bts []]:=s15;refine .inr ⟨by rw[eT];exact h,x,b9,g,c,m,sg,S,rfl,?_,?_⟩
 ·rw[<-hC,hR,htl,hS]
 ·rw[eT,<-hC,<-hP]
  exact s15.sel [0,2,9,10,11,3,1,4] 12
theorem V56{x b dp m:Nat}{S:Sup}{P:PlanT}{busy dead:Bool}{w:World}(hb:Box w x (storeC b dp S P busy dead m)):
 Calls Tryz.prog 56 #[P0 x] w (RetT [.c .bool] λr w'=>r=false/\w=w'):=by
 refine F56_calls _ _ _ ?_;unfold F56;refine⟨trivial,br_f rfl ?_⟩;rw[deref_some'];refine hb.ld (i:=0) (s:=.ptr) (p:=some ⟨b,0,none⟩) rfl ?_;exact⟨trivial,rfl,rfl⟩
def mayE(dead:Bool)(D:DM):Int:=if dead||D.off then 5 else 0
theorem V59{x b dp m:Nat}{S:Sup}{P:PlanT}{busy dead:Bool}{D:DM}{w:World}{F:Nat->Prop}(hh:Has [BoxA x (storeC b dp S P busy dead m),DiskA dp D] w F)(hd:D.ok):
 Calls Tryz.prog 59 #[P0 x] w (RetT [.c (.int .i64)] λr w'=>r=mayE dead D/\St F w w' [BoxA x (storeC b dp S P busy (dead||D.off) m),DiskA dp D]):=by
 refine F59_calls _ _ _ ?_;unfold F59;have s0:St F w w [BoxA x (storeC b dp S P busy dead m),DiskA dp D]:=St.init hh;refine callF_of (V56 s0.box) ?_;rintro _ _ ⟨rfl,rfl⟩;refine br_f rfl ?_;unfold mayE;refine jn_of (λc W=>c=(dead||D.off)/\W=w) ?_ ?_
 ·rw[deref_some']
  refine s0.L 0 rfl (p:=dead) rfl ?_;refine br_of (λh=>⟨by rw[h];rfl,rfl⟩) λh=>?_;rw[deref_some'];refine s0.L 0 rfl (p:=(some ⟨dp,0,none⟩:Option Addr)) rfl ?_;obtain⟨G,H,g2,_⟩:=St.call [DiskA dp D] (s0.sel [1,0] 2);refine callF_of (V53 dp D w G g2 hd) ?_;rintro _ _ ⟨rfl,rfl⟩;exact⟨by rw[h];cases D.off<;>rfl,rfl⟩
 rintro _ w ⟨rfl,rfl⟩;refine br_of (λh=>?_) λh=>?_
 ·rw[if_pos h,h,deref_some']
  exact s0.S 0 rfl (by simp) trivial λw2 s2=>⟨rfl,s2⟩
 ·rw[if_neg (by rw[h];decide),h]
  have hdead:dead=false:=by cases dead<;>simp_all
  subst hdead;exact⟨rfl,s0⟩
theorem V109{x b dp m:Nat}{S:Sup}{P:PlanT}{busy dead:Bool}{e:Int}{w:World}{F:Nat->Prop}(hh:Has [BoxA x (storeC b dp S P busy dead m)] w F):
 Calls Tryz.prog 109 #[P0 x,iv e] w (RetT [.c (.int .i64)] λr w'=>r=e/\St F w w' [BoxA x (storeC b dp S P busy (dead||e==5) m)]):=by
 refine F109_calls _ _ _ _ ?_;unfold F109;have s0:St F w w [BoxA x (storeC b dp S P busy dead m)]:=St.init hh;refine br_of (λh=>?_) λh=>?_
 ·rw[deref_some']
  refine s0.S 0 rfl (by simp) trivial λw2 s2=>⟨rfl,?_⟩;rw[h,Bool.or_true];exact s2
 ·refine⟨rfl,?_⟩
  rw[h,Bool.or_false];exact s0
def beginE(busy dead:Bool)(D:DM):Int:=if dead||D.off then 5 else if busy then 7 else 0
theorem V28{x b dp m:Nat}{S:Sup}{P:PlanT}{busy dead:Bool}{D:DM}{w:World}{F:Nat->Prop}(hh:Has [BoxA x (storeC b dp S P busy dead m),DiskA dp D] w F)(hd:D.ok):
 Calls Tryz.prog 28 #[P0 x] w (RetT [.c (.int .i64)] λr w'=>r=beginE busy dead D/\St F w w' [BoxA x (storeC b dp S P (busy|| !(dead||D.off)) (dead||D.off) m),DiskA dp D]):=by
 refine F28_calls _ _ _ ?_;unfold F28;refine callF_of (V59 hh hd) ?_;rintro _ w1 ⟨rfl,s1⟩;unfold beginE mayE;cases hx:(dead||D.off)
 ·rw[hx]at s1
  refine br_f rfl ?_;rw[deref_some'];refine s1.L 0 rfl (p:=busy) rfl ?_;refine br_of (λh=>?_) λh=>?_
  ·subst h
   exact⟨rfl,s1⟩
  ·rw[deref_some']
   refine s1.S 0 rfl (by simp) trivial λw2 s2=>?_;subst h;exact⟨rfl,s2⟩
 ·rw[hx]at s1
  refine br_t rfl ⟨rfl,?_⟩;rw[Bool.not_true,Bool.or_false];exact s1
theorem V21{x b dp m:Nat}{S:Sup}{P:PlanT}{busy dead:Bool}{w:World}(hb:Box w x (storeC b dp S P busy dead m)):
 Calls Tryz.prog 21 #[P0 x] w (RetT [.c .bool] λr w'=>r=busy/\w=w'):=by
 refine F21_calls _ _ _ ?_;unfold F21;refine callF_of (V56 hb) ?_;rintro _ _ ⟨rfl,rfl⟩;refine br_t rfl ?_;rw[deref_some'];exact hb.ld (i:=14) (s:=.bool) (p:=busy) rfl ⟨rfl,rfl⟩
def withinS(P:PlanT)(b o n:Int):Prop:=usableS P b/\0<=o/\o<=256/\0<=n/\n<=256-o
instance(P:PlanT)(b o n:Int):Decidable (withinS P b o n):=by unfold withinS;exact inferInstance
theorem V80{x b dp m:Nat}{S:Sup}{P:PlanT}{busy dead:Bool}{i o n:Int}{w:World}(hb:Box w x (storeC b dp S P busy dead m)):
 Calls Tryz.prog 80 #[P0 x,iv i,iv o,iv n] w (RetT [.c .bool] λr w'=>r=decide (withinS P i o n)/\Grow w w'):=by
 refine F80_calls _ _ _ _ _ _ ?_;unfold F80;rw[deref_some'];have hg:Row w ((⟨x,0,none⟩:Addr).add 8) (valA [.int .i64,.int .i64,.int .i64,.int .i64,.int .i64,.int .i64] P):=(hb.row.drop 8).take 6;refine ldA_of (p:=P) (readsAt_row.2 hg) ?_;refine callF_of (V74 P i w) ?_;rintro _ w1 ⟨rfl,g⟩;have no:∀{k:Prop} [Decidable k],¬k->false=decide k:=λh=>(decide_eq_false h).symm;refine br_of (λh1=>?_) λh1=>⟨no λh=>of_decide_eq_false h1 h.1,g⟩;refine br_of (λh2=>?_) λh2=>⟨no λh=>of_decide_eq_false h2 h.2.1,g⟩;refine br_of (λh3=>?_) λh3=>⟨no λh=>of_decide_eq_false h3 h.2.2.1,g⟩;refine br_of (λh4=>?_) λh4=>⟨no λh=>of_decide_eq_false h4 h.2.2.2.1,g⟩;have h1:=of_decide_eq_true h1;have h2:=of_decide_eq_true h2;have h3:=of_decide_eq_true h3;have h4:=of_decide_eq_true h4;rw[w64_of (n:=256-o) ⟨by omega,by omega⟩];exact⟨decide_eq_decide.2 ⟨λh=>⟨h1,h2,h3,h4,h⟩,λh=>h.2.2.2.2⟩,g⟩
theorem V32{x b dp m:Nat}{S:Sup}{P:PlanT}{busy dead:Bool}{w:World}(hb:Box w x (storeC b dp S P busy dead m)):
 Calls Tryz.prog 32 #[P0 x] w (RetT [.agg [.int .i64,.int .i64,.int .i64,.int .i64,.int .i64,.int .i64]] λr w'=>r=P/\Grow w w'):=by
 refine F32_calls _ _ _ ?_;unfold F32;refine St.nw (St.init0 w) λr w1 s1 _ _=>?_;have s1:St noF w w1 [BoxA r (pcells Sup0)]:=s1;have hb1:=hb.grow s1.gro;refine callF_of (V56 hb1) ?_;rintro _ _ ⟨rfl,rfl⟩;refine br_f rfl ?_;rw[deref_some'];have hg:Row w1 ((⟨x,0,none⟩:Addr).add 8) (valA [.int .i64,.int .i64,.int .i64,.int .i64,.int .i64,.int .i64] P):=(hb1.row.drop 8).take 6;refine ldA_of (p:=P) (readsAt_row.2 hg) ?_;exact s1.SB 0 rfl rfl (na_p P) λw2 s2=>St.LA 0 s2 rfl (p:=P) rfl ⟨rfl,s2.gro⟩
theorem V33{x b dp m:Nat}{S:Sup}{P:PlanT}{busy dead:Bool}{w:World}(hb:Box w x (storeC b dp S P busy dead m)):
 Calls Tryz.prog 33 #[P0 x] w (RetT [.agg [.int .i64,.int .i64,.int .i64,.int .i64]] λr w'=>r=supG S/\Grow w w'):=by
 refine F33_calls _ _ _ ?_;unfold F33;refine St.nw (St.init0 w) λr w1 s1 _ _=>?_;have s1:St noF w w1 [BoxA r (gcells (0,0,0,0))]:=s1;have hb1:=hb.grow s1.gro;refine callF_of (V56 hb1) ?_;rintro _ _ ⟨rfl,rfl⟩;refine br_f rfl ?_;rw[deref_some'];have hg:Row w1 ((⟨x,0,none⟩:Addr).add 3) (valA [.int .i64,.int .i64,.int .i64,.int .i64] (supG S)):=(hb1.row.drop 3).take 4;refine ldA_of (p:=supG S) (readsAt_row.2 hg) ?_;exact s1.SB 0 rfl rfl (na_g (supG S)) λw2 s2=>St.LA 0 s2 rfl (p:=supG S) rfl ⟨rfl,s2.gro⟩
theorem V34{x b dp m:Nat}{S:Sup}{P:PlanT}{busy dead:Bool}{w:World}(hb:Box w x (storeC b dp S P busy dead m)):
 Calls Tryz.prog 34 #[P0 x] w (RetT [.c .ptr] λr w'=>r=(some ⟨dp,0,none⟩:Option Addr)/\w=w'):=by
 refine F34_calls _ _ _ ?_;unfold F34;refine callF_of (V56 hb) ?_;rintro _ _ ⟨rfl,rfl⟩;refine br_f rfl ?_;rw[deref_some'];exact hb.ld (i:=1) (s:=.ptr) (p:=some ⟨dp,0,none⟩) rfl ⟨rfl,rfl⟩
end Go.Proofs

namespace Go.Eng
section
variable{K:Type}[DecidableEq K](T:KT K)
def MapDA(m it:Nat)(kv:List (K×Value)):HA:=
 exA λi:Array MapEntry×Nat×Array Nat=>[pA (Ents T i.1 i.2.1 kv/\∀e∈i.1.toList,e.born∉i.2.2.toList),ObjA m (.map i.1 i.2.1),ObjA it (.mapIter (some m) i.2.1 i.2.2 i.2.1)]
def MapDC(m it:Nat)(kv:List (K×Value))(c:Nat):HA:=
 exA λi:Array MapEntry×Nat×Array Nat×MapEntry=>[pA (Ents T i.1 i.2.1 kv/\i.1.toList[c]? =some i.2.2.2/\i.2.2.1.toList.getLast? =some i.2.2.2.born/\∀(j:Nat) e,j≠c->i.1.toList[j]? =some e->e.born∉i.2.2.1.toList),ObjA m (.map i.1 i.2.1),ObjA it (.mapIter (some m) i.2.1 i.2.2.1 i.2.1)]
variable{T}
variable{F0:Nat->Prop}{w0 w:World}{L:List HA}{m it c:Nat}{kv:List (K×Value)}
theorem St.mrangeD(h:St F0 w0 w (MapA T m kv::L)){k:Nat->Pr}(hk:∀it w',St F0 w0 w' (MapDA T m it kv::L)->k it w'):Eng.mrange (some m) k w:=by
 obtain⟨es,clock,he,h⟩:=h.mapOpen;refine⟨es,clock,h.obj,hk _ _ ?_⟩;have h2:=h.mkobj (.mapIter (some m) clock #[] clock);exact St.mkex (f:=λi:Array MapEntry×Nat×Array Nat=>[pA (Ents T i.1 i.2.1 kv/\∀e∈i.1.toList,e.born∉i.2.2.toList),ObjA m (.map i.1 i.2.1),ObjA w.heap.size (.mapIter (some m) i.2.1 i.2.2 i.2.1)]) (es,clock,#[]) ((h2.bring 1).mkp ⟨he,by simp⟩)
def mapSz(m:Nat)(w:World):Nat:=match w.heap[m]?with|some (.map es _)=>es.size|_=>0
theorem St.szD(h:St F0 w0 w (MapDA T m it kv::L)):mapSz m w=kv.length:=by
 obtain⟨⟨es,clock,seen⟩,h⟩:=h.ex;obtain⟨⟨he,_⟩,h⟩:=h.p;unfold mapSz;rw[h.obj];exact he.len
theorem St.mnextD{k0:Pr}{k1:MapEntry->Pr}(h:St F0 w0 w (MapDA T m it kv::L))(h0:kv=[]->∀w',St F0 w0 w' (MapA T m []::L)->k0 w')
 (h1:∀i en w',i<kv.length->St F0 w0 w' (MapDC T m it kv i::L)->k1 en w'):Eng.mnext ⟨it,0,none⟩ k0 k1 w:=by
 obtain⟨⟨es,clock,seen⟩,h⟩:=h.ex;obtain⟨⟨he,hs⟩,st⟩:=h.p;have st:St F0 w0 w (ObjA m (.map es clock)::ObjA it (.mapIter (some m) clock seen clock)::L):=st;dsimp only at he hs;have hsz:=he.len;refine⟨rfl,.inr ⟨m,clock,seen,clock,es,clock,(st.bring 1).obj,st.obj,?_,λw1 hw1=>?_⟩⟩
 ·cases hes:es.toList with
  |nil=>
   have:es= #[]:=by apply Array.ext';simpa using hes
   simp[this]
  |cons e l=>
   have h1:=he.born e (by rw[hes];simp);have:es.all (λx=>decide (x.born>=clock))=false:=by
    rw[<-Array.all_toList,hes,List.all_cons,decide_eq_false (by omega),Bool.false_and]
   rw[this,Bool.and_false]
 have st1:St F0 w0 w1 (ObjA m (.map es clock)::ObjA it (.mapIter (some m) clock seen clock)::L):=by rcases hw1 with rfl|rfl;exact st;exact st.drew
 refine⟨λhall=>?_,λe hes hns=>?_⟩
 ·have hnil:es.toList=[]:=by
   cases hes:es.toList with
   |nil=>rfl
   |cons e l=>
    have hm:e∈es.toList:=by rw[hes];simp
    have:=hall e hm (he.born e hm);rw[Array.contains_iff_mem,<-Array.mem_toList_iff]at this;exact absurd this (hs e hm)
  have hkv:kv=[]:=by
   have h2:=congrArg List.length hnil;rw[Array.length_toList]at h2;exact List.eq_nil_of_length_eq_zero (by rw[<-hsz];simpa using h2)
  refine h0 hkv w1 ?_;rw[<-hkv];exact(st1.del 1).mapClose he
 ·obtain⟨i,hi,hie⟩:=List.getElem_of_mem hes
  have hie2:es.toList[i]? =some e:=by rw[List.getElem?_eq_getElem hi,hie]
  have hil:i<kv.length:=by simpa[hsz]using hi
  refine h1 i e _ hil ?_;have st2:=((st1.bring 1).putObj (.mapIter (some m) clock (seen.push e.born) clock)).bring 1;refine St.mkex (es,clock,seen.push e.born,e) (st2.mkp ⟨he,hie2,by simp,λj x hj hx=>?_⟩);rw[Array.toList_push,List.mem_append,List.mem_singleton];rintro(h4|h4)
  ·exact hs x (List.mem_of_getElem? hx) h4
  ·refine hj ?_
   have h5:(es.toList.map (·.born))[j]? =some e.born:=by rw[List.getElem?_map,hx,<-h4];rfl
   have h6:(es.toList.map (·.born))[i]? =some e.born:=by rw[List.getElem?_map,hie2];rfl
   exact(List.getElem?_inj (split_at h5).2 he.nod).1 (h5.trans h6.symm)
theorem St.mentryD{k:MapEntry->Pr}(h:St F0 w0 w (MapDC T m it kv c::L))(hk:∀en x,kv[c]? =some x->en.key=T.enc x.1->en.val=x.2->k en w):Eng.mentry ⟨it,0,none⟩ k w:=by
 obtain⟨⟨es,clock,seen,e⟩,h⟩:=h.ex;obtain⟨⟨he,h1,h2,h3⟩,st⟩:=h.p;have st:St F0 w0 w (ObjA m (.map es clock)::ObjA it (.mapIter (some m) clock seen clock)::L):=st;dsimp only at he h1 h2 h3;have hkve:=congrArg (·[c]?) he.kvs;simp only[List.getElem?_map,h1,Option.map_some]at hkve;obtain⟨x,hx,hxe⟩:=Option.map_eq_some_iff.1 hkve.symm;simp only[Prod.mk.injEq]at hxe;refine⟨rfl,m,clock,seen,clock,es,clock,e.born,e,(st.bring 1).obj,?_,st.obj,rfl,?_,hk _ _ hx hxe.1.symm hxe.2.symm⟩
 ·have:seen.back? =seen.toList.getLast? :=by simp
  rw[this,h2]
 ·rw[<-Array.find?_toList]
  refine Go.Proofs.find_unique (List.mem_of_getElem? h1) (by simp) λx hx hb=>?_;obtain⟨j,hj,hjx⟩:=List.getElem_of_mem hx;have h4:(es.toList.map (·.born))[j]? =some e.born:=by
   rw[List.getElem?_map,List.getElem?_eq_getElem hj,hjx];simpa using hb
  have h5:(es.toList.map (·.born))[c]? =some e.born:=by rw[List.getElem?_map,h1];rfl
  have:=(List.getElem?_inj (split_at h4).2 he.nod).1 (h4.trans h5.symm);subst this;rw[List.getElem?_eq_getElem hj,hjx]at h1;exact Option.some.inj h1
theorem St.mapDelD(h:St F0 w0 w (MapDC T m it kv c::L)){x:K×Value}{f:Pr}(hx:kv[c]? =some x)(hn:(kv.map (·.1)).Nodup)(h1:∀w',St F0 w0 w' (MapDA T m it (kv.eraseIdx c)::L)->f w'):Eng.mapDel T.kd (some m) (T.enc x.1) f w:=by
 obtain⟨⟨es,clock,seen,e⟩,h⟩:=h.ex;obtain⟨⟨he,g1,g2,g3⟩,st⟩:=h.p;have st:St F0 w0 w (ObjA m (.map es clock)::ObjA it (.mapIter (some m) clock seen clock)::L):=st;dsimp only at he g1 g2 g3;rcases find_kv x.1 es.toList kv 0 he.kvs with⟨k1,_⟩|⟨j,v,k1,k2,_,k4⟩
 ·exact absurd (List.mem_map.2 ⟨x,List.mem_of_getElem? hx,rfl⟩) k1
 ·have hjc:j=c:=by
   have h4:(kv.map (·.1))[j]? =some x.1:=by rw[List.getElem?_map,k1];rfl
   have h5:(kv.map (·.1))[c]? =some x.1:=by rw[List.getElem?_map,hx];rfl
   exact(List.getElem?_inj (split_at h4).2 hn).1 (h4.trans h5.symm)
  subst hjc;refine⟨m,es,clock,some (0+j,v),rfl,st.obj,k4,h1 _ ?_⟩;have hl:(es.eraseIdxIfInBounds (0+j)).toList=es.toList.eraseIdx j:=by rw[Nat.zero_add,Array.toList_eraseIdxIfInBounds]
  refine St.mkex (es.eraseIdxIfInBounds (0+j),clock,seen) ((st.putObj (.map (es.eraseIdxIfInBounds (0+j)) clock)).mkp ⟨⟨λe he'=>?_,?_,?_⟩,λy hy=>?_⟩)
  ·rw[hl]at he'
   exact he.born e (List.mem_of_mem_eraseIdx he')
  ·rw[hl,eraseIdx_map]
   exact he.nod.sublist (List.eraseIdx_sublist _ _)
  ·rw[hl,eraseIdx_map,he.kvs,eraseIdx_map]
  ·dsimp only at hy
   rw[hl]at hy;obtain⟨b,hb,hby⟩:=List.mem_eraseIdx_iff_getElem?.1 hy;exact g3 b y hb hby
end
end Go.Eng
namespace Go.Proofs
open Go.Eng
theorem V106{m:Nat}{kv:List (Int×Value)}{w:World}{F:Nat->Prop}(hh:Has [MapA intKT m kv] w F)(hn:(kv.map (·.1)).Nodup):
 Calls Tryz.prog 106 #[.map (some m)] w (RetT [.c .any] λr w'=>Grow w w'/\∃M,IterI r M (λxs=>xs.Perm (kv.map (·.1))) true/\∀W,Grow w' W->M W):=by
 refine F106_calls _ _ _ ?_;unfold F106;refine⟨trivial,nw_of λb w1 g1 _ _ bx=>⟨g1,?_⟩⟩;obtain⟨es,clock,he,st⟩:=(St.init hh).mapOpen;have hm:=st.obj;have hlt:m<w.heap.size:=by
  rcases Nat.lt_or_ge m w.heap.size with h'|h'
  ·exact h'
  ·rw[Array.getElem?_eq_none h']at hm;cases hm
 refine⟨λW=>W.cell? ⟨b,0,none⟩=some (.map (some m))/\W.heap[m]? =some (.map es clock),?_,λW g=>⟨(bx.grow g).row 0 _ rfl,((Grow.trans g1 g).same _ hlt λh=>h).trans hm⟩⟩;refine⟨163,_,rfl,by kernel_rfl,?_⟩;intro y w I D hM h0 hal hst hdr hMM hbody;have hk:es.toList.map (·.key)=ints (kv.map (·.1)):=by
  have h1:=congrArg (List.map Prod.fst) he.kvs;simp only[List.map_map]at h1;unfold ints;rw[List.map_map];exact h1
 refine F163_calls _ _ _ _ ?_;have hF:∀Q,F163 y (some ⟨b,0,none⟩) Q w=F205 y (some ⟨b,0,none⟩) Q w:=λQ=>by
  unfold F163 F205;simp only[deref_some'];rfl
 rw[hF];exact F205_ok y ⟨b,0,none⟩ m es clock (kv.map (·.1)) w hM.1 ⟨hM.2,he.born,he.nod,hk,hn⟩ I D hal (hst rfl) hdr (λpre W h=>(hMM pre W h).2.trans hM.2.symm) λpre k W h1 h2 h3=>callV_mono (λb W' hb=>by
  by_cases hbt:b=true
  ·rw[if_pos hbt]at hb⊢;exact⟨hb.1,hb.2 rfl⟩
  ·rw[if_neg hbt]at hb⊢;exact hb) (hbody pre k W h1 (λ_=>h2) h3)
def cs(j:Nat):CM:=match j with
 |0=>⟨2,0,[]⟩
 |1=>⟨2,1,[⟨5,zero256,false,1⟩]⟩
 |2=>⟨2,2,[⟨5,zero256,false,1⟩,⟨6,zero256,false,2⟩]⟩
 |3=>⟨2,3,[⟨5,zero256,false,3⟩,⟨6,zero256,false,2⟩]⟩
 |_=>⟨2,4,[⟨5,zero256,false,3⟩,⟨7,zero256,false,4⟩]⟩
structure Ow where
 d:Int
 k:Int
 o:Int
 b:Sl
def Ow.cells(x:Ow):List Value:=[.int .i64 x.d,.int .i64 x.k,.int .i64 x.o,slV x.b]
@[simp]theorem Ow.cells_len(x:Ow):x.cells.length=4:=rfl
abbrev Oc:=Ow×List UInt8
def OL(w:World)(s:Sl)(xs:List Oc):Prop:=SS Ow.cells w s (xs.map (·.1))/\∀x∈xs,BS w x.1.b x.2
theorem OL.grow{w w':World}{s:Sl}{xs:List Oc}(h:OL w s xs)(hm:Grow w w'):OL w' s xs:=⟨h.1.grow hm,λx hx=>(h.2 x hx).grow hm⟩
theorem OL.len{w:World}{s:Sl}{xs:List Oc}(h:OL w s xs):s.len=xs.length:=by rw[h.1.len];simp
def isD(C:CM)(k:Int):Prop:=∃x∈C.l,x.key=k/\x.dirty=true
theorem mem_set_self{α:Type}{l:List α}{j:Nat}{x:α}(a:α)(h:l[j]? =some x):a∈l.set j a:=List.mem_of_getElem? (i:=j) (by rw[List.getElem?_set_self (split_at h).2])
theorem ComesQ.isD{C C':CM}{D:DM}{i e:Int}{j:Nat}(h:ComesQ C D i e C' j)(k:Int):isD C' k↔isD C k:=by
 cases h with
 |hit _ x h1 h2=>
  constructor
  ·rintro⟨y,hy,g1,g2⟩
   rcases set_getElem?_mem hy with h|rfl
   ·exact⟨y,h,g1,g2⟩
   ·exact⟨x,List.mem_of_getElem? h1,g1,g2⟩
  ·rintro⟨y,hy,g1,g2⟩
   obtain⟨a,ha⟩:=List.getElem?_of_mem hy;by_cases haj:j=a
   ·subst haj
    rw[h1]at ha;cases ha;exact⟨{x with asked:=C.asked+1},mem_set_self _ h1,g1,g2⟩
   ·exact⟨y,List.mem_of_getElem? (i:=a) (show(C.l.set j _)[a]? =some _ by rw[List.getElem?_set_ne haj];exact ha),g1,g2⟩
 |full no hf hd=>exact Iff.rfl
 |err no he hc=>exact Iff.rfl
 |more no hp hf=>
  constructor
  ·rintro⟨y,hy,g1,g2⟩
   rcases List.mem_append.1 hy with h|h
   ·exact⟨y,h,g1,g2⟩
   ·rw[List.mem_singleton]at h;subst h;cases g2
  ·rintro⟨y,hy,g1,g2⟩
   exact⟨y,List.mem_append_left _ hy,g1,g2⟩
 |swap no hp hf a y h1 h2 h3=>
  constructor
  ·rintro⟨z,hz,g1,g2⟩
   rcases List.mem_append.1 hz with h|h
   ·exact⟨z,List.mem_of_mem_eraseIdx h,g1,g2⟩
   ·rw[List.mem_singleton]at h;subst h;cases g2
  ·rintro⟨z,hz,g1,g2⟩
   refine⟨z,List.mem_append_left _ ?_,g1,g2⟩;obtain⟨b,hb⟩:=List.getElem?_of_mem hz;have hne:b≠a:=by
    rintro rfl;rw[h1]at hb;cases hb;rw[h2]at g2;cases g2
   rw[List.eraseIdx_eq_take_drop_succ];rcases Nat.lt_or_ge b a with h'|h'
   ·exact List.mem_append_left _ (List.mem_of_getElem? (i:=b) (by rw[List.getElem?_take,if_pos h'];exact hb))
   ·exact List.mem_append_right _ (List.mem_of_getElem? (i:=b-(a+1)) (by rw[List.getElem?_drop,show a+1+(b-(a+1))=b by omega];exact hb))
theorem WriteQ.ok{C C':CM}{D:DM}{i off e:Int}{l:List UInt8}(h:WriteQ C D i off l e C')(hok:C.ok D.blocks.length)(hD:D.ok):C'.ok D.blocks.length/\C'.asked<=C.asked+1:=by
 rcases h with⟨_,_,rfl⟩|⟨_,_,_,rfl⟩|⟨_,hlo,C1,j,hq,⟨_,rfl⟩|⟨_,_,x,hx,rfl⟩⟩
 ·exact⟨hok,by omega⟩
 ·exact⟨hok,by omega⟩
 ·exact⟨hq.ok hok hD,by rw[hq.asked.1];exact Int.le_refl _⟩
 ·have h1:=hq.ok hok hD
  have hm:=List.mem_of_getElem? hx;refine⟨⟨?_,?_,?_,h1.room,?_,?_,?_,h1.small⟩,by show C1.asked<=_;rw[hq.asked.1];exact Int.le_refl _⟩
  ·show((C1.l.set j _).map (·.key)).Nodup
   rw[map_set_same (·.key) (a:={x with b:=lay x.b off.toNat l,dirty:=true}) hx rfl];exact h1.nod
  ·intro y hy
   rcases set_getElem?_mem hy with h|rfl
   ·exact h1.len y h
   ·have:=h1.len x hm
    show(lay x.b off.toNat l).length=256;rw[lay_len (by omega)];exact this
  ·intro y hy
   rcases set_getElem?_mem hy with h|rfl
   ·exact h1.key y h
   ·exact h1.key x hm
  ·show(((C1.l.set j _).length:Nat):Int)<=C1.room
   rw[List.length_set];exact h1.le
  ·intro y hy
   rcases set_getElem?_mem hy with h|rfl
   ·exact h1.age y h
   ·exact h1.age x hm
  ·show((C1.l.set j _).map (·.asked)).Nodup
   rw[map_set_same (·.asked) (a:={x with b:=lay x.b off.toNat l,dirty:=true}) hx rfl];exact h1.ages
theorem WriteQ.isD{C C':CM}{D:DM}{i off e:Int}{l:List UInt8}(h:WriteQ C D i off l e C')(k:Int):isD C' k↔(isD C k\/(e=0/\l≠[]/\k=i)):=by
 rcases h with⟨_,h1,rfl⟩|⟨_,_,h1,rfl⟩|⟨_,hlo,C1,j,hq,⟨h1,rfl⟩|⟨he,hl,x,hx,rfl⟩⟩
 ·exact⟨.inl,λh=>h.elim id λh=>by omega⟩
 ·exact⟨.inl,λh=>h.elim id λh=>by omega⟩
 ·rw[hq.isD]
  exact⟨.inl,λh=>h.elim id λh=>by rcases h1 with h1|h1;exact absurd h.1 h1;exact absurd h1 h.2.1⟩
 ·subst he
  obtain⟨x',hx',hk⟩:=hq.at;rw[hx]at hx';cases hx';rw[<-hq.isD];constructor
  ·rintro⟨y,hy,g1,g2⟩
   rcases set_getElem?_mem hy with h|rfl
   ·exact .inl ⟨y,h,g1,g2⟩
   ·exact .inr ⟨rfl,hl,g1.symm.trans hk⟩
  ·rintro(⟨y,hy,g1,g2⟩|⟨_,_,rfl⟩)
   ·obtain⟨a,ha⟩:=List.getElem?_of_mem hy
    by_cases haj:j=a
    ·subst haj
     rw[hx]at ha;cases ha;exact⟨{x with b:=lay x.b off.toNat l,dirty:=true},mem_set_self _ hx,g1,rfl⟩
    ·exact⟨y,List.mem_of_getElem? (i:=a) (show(C1.l.set j _)[a]? =some _ by rw[List.getElem?_set_ne haj];exact ha),g1,g2⟩
   ·exact⟨{x with b:=lay x.b off.toNat l,dirty:=true},mem_set_self _ hx,hk,rfl⟩
theorem ReadQ.ok{C C':CM}{D:DM}{i e:Int}{out:List UInt8}(h:ReadQ C D i e C' out)(hok:C.ok D.blocks.length)(hD:D.ok):C'.ok D.blocks.length/\C'.asked<=C.asked+1/\∀k,isD C' k↔isD C k:=by
 rcases h with⟨_,_,rfl,_⟩|⟨_,j,hq,_⟩
 ·exact⟨hok,by omega,λ_=>Iff.rfl⟩
 ·exact⟨hq.ok hok hD,by rw[hq.asked.1];exact Int.le_refl _,hq.isD⟩
theorem mem_dirtyK{C:CM}{k:Int}:k∈dirtyK C↔isD C k:=by
 unfold dirtyK isD;rw[(sortI_perm _).mem_iff,List.mem_map];constructor
 ·rintro⟨x,hx,rfl⟩
  exact⟨x,(List.mem_filter.1 hx).1,rfl,(List.mem_filter.1 hx).2⟩
 ·rintro⟨x,hx,rfl,hd⟩
  exact⟨x,List.mem_filter.2 ⟨hx,hd⟩,rfl⟩
theorem dirtyK_nodup{C:CM}(h:(C.l.map (·.key)).Nodup):(dirtyK C).Nodup:=by
 unfold dirtyK;rw[(sortI_perm _).nodup_iff];exact h.sublist ((List.filter_sublist (l:=C.l)).map _)
def coh(C:CM)(D:DM):Prop:=∀x∈C.l,x.dirty=false->x.b=rdD D x.key
def vis(C:CM)(D:DM)(k:Int)(v:List UInt8):Prop:=(∃x∈C.l,x.key=k/\v=x.b)\/((∀x∈C.l,x.key≠k)/\v=rdD D k)
theorem key_uniq{C:CM}{n:Nat}(h:C.ok n){x y:Bm}(hx:x∈C.l)(hy:y∈C.l)(hk:x.key=y.key):x=y:=by
 obtain⟨a,ha⟩:=List.getElem?_of_mem hx;obtain⟨b,hb⟩:=List.getElem?_of_mem hy;have:=key_inj h ha hb hk;subst this;rw[ha]at hb;exact Option.some.inj hb
theorem vis_of{C:CM}{D:DM}{n:Nat}(h:C.ok n){x:Bm}(hx:x∈C.l){v:List UInt8}(hv:vis C D x.key v):v=x.b:=by
 rcases hv with⟨y,hy,hk,rfl⟩|⟨hno,_⟩
 ·rw[key_uniq h hy hx hk]
 ·exact absurd rfl (hno x hx)
theorem mem_set_iff{l:List Bm}{j:Nat}{x a y:Bm}(h:l[j]? =some x)(hn:(l.map (·.key)).Nodup):y∈l.set j a↔y=a\/(y∈l/\y.key≠x.key):=by
 constructor
 ·intro hy
  obtain⟨b,hb⟩:=List.getElem?_of_mem hy;rw[List.getElem?_set]at hb;split at hb
  ·rename_i hjb
   split at hb
   ·exact .inl (Option.some.inj hb).symm
   ·cases hb
  ·rename_i hjb
   refine .inr ⟨List.mem_of_getElem? hb,λhk=>hjb ?_⟩;have e1:(l.map (·.key))[j]? =some x.key:=by rw[List.getElem?_map,h];rfl
   have e2:(l.map (·.key))[b]? =some x.key:=by rw[List.getElem?_map,hb,<-hk];rfl
   exact(List.getElem?_inj (split_at e1).2 hn).1 (e1.trans e2.symm)
 ·rintro(rfl|⟨hy,hk⟩)
  ·exact mem_set_self _ h
  ·obtain⟨b,hb⟩:=List.getElem?_of_mem hy
   have hjb:j≠b:=by
    rintro rfl;rw[h]at hb;exact hk (by rw[Option.some.inj hb])
   exact List.mem_of_getElem? (i:=b) (by rw[List.getElem?_set_ne hjb];exact hb)
theorem mem_erase_iff{l:List Bm}{j:Nat}{x y:Bm}(h:l[j]? =some x)(hn:(l.map (·.key)).Nodup):y∈l.eraseIdx j↔y∈l/\y.key≠x.key:=by
 have h1:=split_at h;have hn2:=hn;rw[h1.1,List.map_append,List.map_cons,List.nodup_append,List.nodup_cons]at hn2;rw[List.eraseIdx_eq_take_drop_succ];constructor
 ·intro hy
  rcases List.mem_append.1 hy with h2|h2
  ·exact⟨List.mem_of_mem_take h2,λhk=>hn2.2.2 y.key (List.mem_map.2 ⟨y,h2,rfl⟩) x.key (by simp) hk⟩
  ·exact⟨List.mem_of_mem_drop h2,λhk=>hn2.2.1.1 (List.mem_map.2 ⟨y,h2,hk⟩)⟩
 ·rintro⟨hy,hk⟩
  rw[h1.1]at hy;rcases List.mem_append.1 hy with h2|h2
  ·exact List.mem_append_left _ h2
  ·rcases List.mem_cons.1 h2 with rfl|h2
   ·exact absurd rfl hk
   ·exact List.mem_append_right _ h2
theorem ComesQ.coh{C C':CM}{D:DM}{i e:Int}{j:Nat}(h:ComesQ C D i e C' j)(hok:C.ok D.blocks.length)(hc:coh C D):coh C' D/\∀k v,vis C D k v->vis C' D k v:=by
 cases h with
 |hit _ x h1 h2=>
  have hm:=List.mem_of_getElem? h1;constructor
  ·intro y hy hd
   rcases(mem_set_iff h1 hok.nod).1 hy with rfl|⟨hy,_⟩
   ·exact hc x hm hd
   ·exact hc y hy hd
  ·rintro k v (⟨y,hy,hk,rfl⟩|⟨hno,rfl⟩)
   ·by_cases hyk:y.key=x.key
    ·have:=key_uniq hok hy hm hyk
     subst this;exact .inl ⟨{y with asked:=C.asked+1},mem_set_self _ h1,hk,rfl⟩
    ·exact .inl ⟨y,(mem_set_iff h1 hok.nod).2 (.inr ⟨hy,hyk⟩),hk,rfl⟩
   ·refine .inr ⟨λy hy=>?_,rfl⟩
    rcases(mem_set_iff h1 hok.nod).1 hy with rfl|⟨hy,_⟩
    ·exact hno x hm
    ·exact hno y hy
 |full no hf hd=>exact⟨hc,λ_ _ h=>h⟩
 |err no he hc'=>exact⟨hc,λ_ _ h=>h⟩
 |more no hp hf=>
  constructor
  ·intro y hy hd
   rcases List.mem_append.1 hy with h|h
   ·exact hc y h hd
   ·rw[List.mem_singleton]at h;subst h;rfl
  ·rintro k v (⟨y,hy,hk,rfl⟩|⟨hno,rfl⟩)
   ·exact .inl ⟨y,List.mem_append_left _ hy,hk,rfl⟩
   ·by_cases hki:i=k
    ·subst hki
     exact .inl ⟨newB C D i,List.mem_append_right _ (by simp),rfl,rfl⟩
    ·refine .inr ⟨λy hy=>?_,rfl⟩
     rcases List.mem_append.1 hy with h|h
     ·exact hno y h
     ·rw[List.mem_singleton]at h;subst h;exact hki
 |swap no hp hf a y h1 h2 h3=>
  have hm:=List.mem_of_getElem? h1;constructor
  ·intro z hz hd
   rcases List.mem_append.1 hz with h|h
   ·exact hc z (List.mem_of_mem_eraseIdx h) hd
   ·rw[List.mem_singleton]at h;subst h;rfl
  ·rintro k v (⟨z,hz,hk,rfl⟩|⟨hno,rfl⟩)
   ·by_cases hzy:z.key=y.key
    ·have:=key_uniq hok hz hm hzy
     subst this;refine .inr ⟨λu hu=>?_,?_⟩
     ·rcases List.mem_append.1 hu with h|h
      ·rw[<-hk];exact((mem_erase_iff h1 hok.nod).1 h).2
      ·rw[List.mem_singleton]at h;subst h
       exact λhi=>no z hz (hk.trans hi.symm)
     ·rw[hc z hz h2,hk]
    ·exact .inl ⟨z,List.mem_append_left _ ((mem_erase_iff h1 hok.nod).2 ⟨hz,hzy⟩),hk,rfl⟩
   ·by_cases hki:i=k
    ·subst hki
     exact .inl ⟨newB C D i,List.mem_append_right _ (by simp),rfl,rfl⟩
    ·refine .inr ⟨λu hu=>?_,rfl⟩
     rcases List.mem_append.1 hu with h|h
     ·exact hno u (List.mem_of_mem_eraseIdx h)
     ·rw[List.mem_singleton]at h;subst h;exact hki
theorem ReadQ.coh{C C':CM}{D:DM}{i e:Int}{out:List UInt8}(h:ReadQ C D i e C' out)(hok:C.ok D.blocks.length)(hc:coh C D):coh C' D/\∀k v,vis C D k v->vis C' D k v:=by
 rcases h with⟨_,_,rfl,_⟩|⟨_,j,hq,_⟩
 ·exact⟨hc,λ_ _ h=>h⟩
 ·exact hq.coh hok hc
theorem ReadQ.val{C C':CM}{D:DM}{i:Int}{out:List UInt8}(h:ReadQ C D i 0 C' out)(hok:C.ok D.blocks.length)(hD:D.ok)(hc:Go.Proofs.coh C D){v:List UInt8}(hv:vis C D i v):out=v:=by
 rcases h with⟨_,he,_⟩|⟨_,j,hq,⟨he,_⟩|⟨_,x,hx,rfl⟩⟩
 ·cases he
 ·exact absurd rfl he
 ·obtain⟨x',hx',hk⟩:=hq.at
  rw[hx]at hx';cases hx';subst hk;exact(vis_of (hq.ok hok hD) (List.mem_of_getElem? hx) ((hq.coh hok hc).2 _ _ hv)).symm
theorem WriteQ.coh{C C':CM}{D:DM}{i off e:Int}{l:List UInt8}(h:WriteQ C D i off l e C')(hok:C.ok D.blocks.length)(hD:D.ok)(hc:Go.Proofs.coh C D):
 Go.Proofs.coh C' D/\(∀k v,vis C D k v->(e≠0\/k≠i)->vis C' D k v)/\(e=0->(0<=off/\off+l.length<=256)/\∀v,vis C D i v->vis C' D i (lay v off.toNat l)):=by
 rcases h with⟨_,h1,rfl⟩|⟨_,_,h1,rfl⟩|⟨_,hlo,C1,j,hq,⟨h1,rfl⟩|⟨he,hl,x,hx,rfl⟩⟩
 ·exact⟨hc,λ_ _ h _=>h,λh=>by omega⟩
 ·exact⟨hc,λ_ _ h _=>h,λh=>by omega⟩
 ·obtain⟨g1,g2⟩:=hq.coh hok hc
  refine⟨g1,λk v h _=>g2 k v h,λhe=>⟨hlo,λv hv=>?_⟩⟩;have:l=[]:=h1.resolve_left λh=>h he;subst this;rw[lay_nil];exact g2 i v hv
 ·subst he
  obtain⟨g1,g2⟩:=hq.coh hok hc;have h1:=hq.ok hok hD;obtain⟨x',hx',hk⟩:=hq.at;rw[hx]at hx';cases hx';subst hk;have hm:=List.mem_of_getElem? hx;refine⟨?_,?_,λ_=>⟨hlo,λv hv=>?_⟩⟩
  ·intro y hy hd
   rcases(mem_set_iff hx h1.nod).1 hy with rfl|⟨hy,_⟩
   ·cases hd
   ·exact g1 y hy hd
  ·intro k v hv hki
   have hki:k≠x.key:=hki.resolve_left λh=>h rfl;rcases g2 k v hv with⟨y,hy,hk,rfl⟩|⟨hno,rfl⟩
   ·exact .inl ⟨y,(mem_set_iff hx h1.nod).2 (.inr ⟨hy,by rw[hk];exact hki⟩),hk,rfl⟩
   ·refine .inr ⟨λy hy=>?_,rfl⟩
    rcases(mem_set_iff hx h1.nod).1 hy with rfl|⟨hy,_⟩
    ·exact hno x hm
    ·exact hno y hy
  ·have:=vis_of h1 hm (g2 _ _ hv)
   subst this;exact .inl ⟨{x with b:=lay x.b off.toNat l,dirty:=true},mem_set_self _ hx,rfl,rfl⟩
theorem rdD_addW(D:DM)(i:Int)(l:List UInt8)(k:Int):rdD (addW D i l) k=if i=k then l else rdD D k:=by
 unfold rdD addW;rw[List.reverse_append,List.reverse_singleton,List.singleton_append,List.find?_cons];by_cases h:i=k
 ·rw[if_pos h,h];simp
 ·rw[if_neg h]
  have:((i,l).1==k)=false:=by simpa using h
  rw[this]
structure Calm(D:DM)(n N:Nat):Prop where
 ok:D.ok
 off:D.off=false
 armed:D.armed=0
 len:D.blocks.length=n
 ops:0<=D.ops/\D.ops<=N
 wait:D.wait.length<=N
theorem Calm.bd{D:DM}{n N:Nat}(h:Calm D n N):D.bd N:=⟨by rw[h.armed];decide,h.ops,h.wait⟩
theorem Calm.place{D:DM}{n N:Nat}(h:Calm D n N){i:Int}(hi:0<=i/\i<n):placeE D i=0:=by
 unfold placeE;rw[h.off,if_neg (by simp),if_neg (by rw[h.len];omega)]
theorem Calm.write{D:DM}{n N:Nat}(h:Calm D n N){i:Int}(hi:0<=i/\i<n){l:List UInt8}(hl:l.length=256):
 (writeD D i l).1=0/\Calm (writeD D i l).2 n (N+1)/\∀k,rdD (writeD D i l).2 k=if i=k then l else rdD D k:=by
 have hg:goesD (addW D i l)=(false,{addW D i l with ops:=D.ops+1}):=by
  unfold goesD;rw[if_pos (show(addW D i l).armed=0 from h.armed)];rfl
 unfold writeD;rw[if_neg (by simp[h.place hi]),if_neg (by simp[hl]),hg];have h1:=addW_ok h.ok (i:=i) (l:=l) (by rw[h.len];exact hi) hl;have:=h.ops;have:=h.wait;refine⟨rfl,⟨⟨h1.len,h1.wlen,h1.pos,h1.le⟩,h.off,h.armed,h.len,⟨by dsimp only;omega,by dsimp only;omega⟩,by show(D.wait++[_]).length<=_;rw[List.length_append,List.length_singleton];omega⟩,λk=>?_⟩;exact rdD_addW D i l k
theorem bytesAt_of{C:CM}{n:Nat}(h:C.ok n){x:Bm}(hx:x∈C.l):bytesAt C x.key=x.b:=by
 obtain⟨i,hi⟩:=List.getElem?_of_mem hx;unfold bytesAt;rw[find_at h.nod hi];rfl
theorem setClean_ok{C:CM}{n:Nat}(h:C.ok n)(k:Int):(setClean C k).ok n:=by
 have hm:∀y∈(setClean C k).l,∃x∈C.l,y.key=x.key/\y.b=x.b/\y.asked=x.asked:=by
  intro y hy;obtain⟨x,hx,rfl⟩:=List.mem_map.1 hy;refine⟨x,hx,?_⟩;split<;>exact⟨rfl,rfl,rfl⟩
 refine⟨by rw[setClean_keys];exact h.nod,?_,?_,h.room,?_,?_,?_,h.small⟩
 ·intro y hy;obtain⟨x,hx,_,h2,_⟩:=hm y hy;rw[h2];exact h.len x hx
 ·intro y hy;obtain⟨x,hx,h1,_,_⟩:=hm y hy;rw[h1];exact h.key x hx
 ·show(((C.l.map _).length:Nat):Int)<=C.room
  rw[List.length_map];exact h.le
 ·intro y hy;obtain⟨x,hx,_,_,h3⟩:=hm y hy;rw[h3];exact h.age x hx
 ·unfold setClean
  rw[List.map_map];have:C.l.map ((λx=>x.asked)∘λx=>if x.key=k then{x with dirty:=false}else x)=C.l.map (·.asked):=List.map_congr_left λx _=>by
   show(if x.key=k then _ else _:Bm).asked=x.asked;split<;>rfl
  rw[this];exact h.ages
def sec(l:List UInt8)(k:Nat):List UInt8:=(l.drop (64*k)).take 64
theorem sec_get(l:List UInt8)(k o:Nat)(h:o<64):(sec l k)[o]? =l[64*k+o]? :=by
 unfold sec;rw[List.getElem?_take_of_lt h,List.getElem?_drop]
theorem sec_len{l:List UInt8}(h:l.length=256){k:Nat}(hk:k<4):(sec l k).length=64:=by
 unfold sec;rw[List.length_take,List.length_drop];omega
theorem sec_ext{a b:List UInt8}(ha:a.length=256)(hb:b.length=256)(h:∀k,k<4->sec a k=sec b k):a=b:=by
 refine List.ext_getElem? λi=>?_;by_cases hi:i<256
 ·have h1:=h (i/64) (by omega)
  have h2:=congrArg (·[i%64]?) h1;simp only[sec_get _ _ _ (Nat.mod_lt i (by decide:64>0))]at h2;rwa[show 64*(i/64)+i%64=i by omega]at h2
 ·rw[List.getElem?_eq_none (by omega),List.getElem?_eq_none (by omega)]
theorem sec_reach{b l:List UInt8}{p:Int}(hb:b.length=256)(hl:l.length=256){k:Nat}(hk:k<4):∀m,m<=4->sec (reachB b l p m) k=if k<m/\pbit p k=true then sec l k else sec b k
 |0,_=>by simp[reachB]
 |m+1,hm=>by
  have ih:=sec_reach hb hl (p:=p) hk m (by omega);unfold reachB;by_cases hp:pbit p m=true
  ·rw[if_pos hp]
   have hlen:=reachB_len (p:=p) hb hl m (by omega);have hsl:(sec l m).length=64:=sec_len hl (by omega);by_cases hkm:k=m
   ·subst hkm
    rw[if_pos ⟨by omega,hp⟩];show sec (lay (reachB b l p k) (64*k) (sec l k)) k=sec l k;refine List.ext_getElem? λi=>?_;by_cases hi:i<64
    ·rw[sec_get _ _ _ hi,lay_get (by omega),if_pos ⟨by omega,by omega⟩]
     congr 1;omega
    ·rw[List.getElem?_eq_none (by rw[sec_len (by rw[lay_len (by omega)];exact hlen) hk];omega),List.getElem?_eq_none (by omega)]
   ·have:(k<m+1/\pbit p k=true)↔(k<m/\pbit p k=true):=⟨λh=>⟨by omega,h.2⟩,λh=>⟨by omega,h.2⟩⟩
    rw[show(if k<m+1/\pbit p k=true then sec l k else sec b k)=sec (reachB b l p m) k by rw[ih];simp only[this]];show sec (lay (reachB b l p m) (64*m) (sec l m)) k=sec (reachB b l p m) k;refine List.ext_getElem? λi=>?_;by_cases hi:i<64
    ·rw[sec_get _ _ _ hi,sec_get _ _ _ hi,lay_get (by omega),if_neg (by omega)]
    ·rw[List.getElem?_eq_none (by rw[sec_len (by rw[lay_len (by omega)];exact hlen) hk];omega),List.getElem?_eq_none (by rw[sec_len hlen hk];omega)]
  ·rw[if_neg hp,ih]
   have:(k<m+1/\pbit p k=true)↔(k<m/\pbit p k=true):=⟨λh=>⟨by rcases Nat.lt_or_ge k m with h'|h';exact h';exact absurd (show pbit p m=true by rw[<-show k=m by omega];exact h.2) hp,h.2⟩,λh=>⟨by omega,h.2⟩⟩;simp only[this]
def Sv(D:DM)(b:Int)(k:Nat)(v:List UInt8):Prop:=(∃l,D.blocks[b.toNat]? =some l/\v=sec l k)\/∃x∈D.wait,x.1=b/\v=sec x.2 k
theorem fallGo_sv{b:Int}(h0:0<=b){k:Nat}(hk:k<4){l':List UInt8}:∀(ws:List (Int×List UInt8)) (ps:List UInt8) (bl:List (List UInt8)),(∀b∈bl,b.length=256)->(∀x∈ws,0<=x.1/\x.1<(bl.length:Int)/\x.2.length=256)->(fallGo bl ws ps)[b.toNat]? =some l'->
 (∃l,bl[b.toNat]? =some l/\sec l' k=sec l k)\/∃x∈ws,x.1=b/\sec l' k=sec x.2 k
 |[],_,bl,_,_,h=>by unfold fallGo at h;exact .inl ⟨l',h,rfl⟩
 |_::_,[],bl,_,_,h=>by unfold fallGo at h;exact .inl ⟨l',h,rfl⟩
 |x::ws,p::ps,bl,hl,hw,h=>by
  unfold fallGo at h;have hx:=hw x (by simp);have hi:x.1.toNat<bl.length:=by omega
  have hb256:=hl _ (List.getElem_mem hi);rw[List.getElem?_eq_getElem hi]at h;have hr:=reachB_len (p:=p.toNat) hb256 hx.2.2 4 (by omega);rcases fallGo_sv h0 hk ws ps _ (λc hc=>by
   rcases List.mem_or_eq_of_mem_set hc with h1|rfl
   ·exact hl c h1
   ·exact hr) (λy hy=>by
   have:=hw y (by simp[hy]);rw[List.length_set];exact this) h with⟨l,h1,h2⟩|⟨y,h1,h2,h3⟩
  ·rw[List.getElem?_set]at h1
   split at h1
   ·rename_i he
    rw[Option.some.injEq]at h1;subst h1;have e:=sec_reach (p:=p.toNat) hb256 hx.2.2 hk 4 (by omega);change sec (reachB ((some bl[x.1.toNat]).getD []) x.2 p.toNat 4) k=_ at e;rw[h2,e];have hbe:x.1=b:=by omega
    split
    ·exact .inr ⟨x,by simp,hbe,rfl⟩
    ·exact .inl ⟨bl[x.1.toNat],by rw[<-hbe];simp[hi],rfl⟩
   ·exact .inl ⟨l,h1,h2⟩
  ·exact .inr ⟨y,by simp[h1],h2,h3⟩
theorem falls_sv{D:DM}(hD:D.ok){pl:List UInt8}{b:Int}(h0:0<=b){k:Nat}(hk:k<4){v:List UInt8}(h:Sv (fallsD D pl) b k v):Sv D b k v:=by
 rcases h with⟨l,h1,rfl⟩|⟨x,h1,_⟩
 ·exact fallGo_sv h0 hk _ _ _ hD.len (λx hx=>hD.wlen x hx) h1
 ·cases h1
theorem rd_none{D:DM}(h:D.wait=[])(b:Int):rdD D b=(D.blocks[b.toNat]?).getD []:=by
 unfold rdD;rw[h];rfl
theorem sv_quiet{D:DM}(h:D.wait=[]){b:Int}{k:Nat}{v:List UInt8}(hs:Sv D b k v):v=sec (rdD D b) k:=by
 rcases hs with⟨l,h1,rfl⟩|⟨x,h1,_⟩
 ·rw[rd_none h,h1];rfl
 ·rw[h]at h1;cases h1
theorem rd_sv{D:DM}{b:Int}(h0:0<=b/\b<D.blocks.length)(k:Nat):Sv D b k (sec (rdD D b) k):=by
 unfold rdD;cases hf:D.wait.reverse.find? (·.1==b)with
 |none=>
  refine .inl ⟨D.blocks[b.toNat]'(by omega),by simp,?_⟩;rw[List.getElem?_eq_getElem (by omega)];rfl
 |some x=>
  have h1:=List.mem_of_find?_eq_some hf;have h2:=List.find?_some hf;exact .inr ⟨x,List.mem_reverse.1 h1,by simpa using h2,rfl⟩
theorem goes_cases(D:DM):((goesD D).1=false/\(∀b k v,Sv (goesD D).2 b k v->Sv D b k v)/\(∀b,rdD (goesD D).2 b=rdD D b)/\(goesD D).2.off=D.off)\/
 ((goesD D).1=true/\(D.ok->∀b k v,0<=b->k<4->Sv (goesD D).2 b k v->Sv D b k v)/\(goesD D).2.off=true/\(goesD D).2.wait=[]):=by
 unfold goesD;split
 ·exact .inl ⟨rfl,λ_ _ _ h=>h,λ_=>rfl,rfl⟩
 ·split
  ·exact .inl ⟨rfl,λ_ _ _ h=>h,λ_=>rfl,rfl⟩
  ·exact .inr ⟨rfl,λhD b k v h0 hk h=>falls_sv (D:={D with ops:=D.ops+1}) ⟨hD.len,hD.wlen,hD.pos,hD.le⟩ h0 hk h,rfl,rfl⟩
theorem write_cases{D:DM}(hD:D.ok){i:Int}{l:List UInt8}(ho:D.off=false)(hi:0<=i/\i<D.blocks.length)(hl:l.length=256):
 ((writeD D i l).1=0/\(writeD D i l).2.off=false/\∀b,rdD (writeD D i l).2 b=if i=b then l else rdD D b)\/((writeD D i l).1=5/\(writeD D i l).2.off=true/\(writeD D i l).2.wait=[]):=by
 have hp:placeE D i=0:=by unfold placeE;rw[ho,if_neg (by simp),if_neg (by omega)]
 unfold writeD;rw[if_neg (by simp[hp]),if_neg (by simp[hl])];rcases goes_cases (addW D i l)with⟨h1,_,h3,h4⟩|⟨h1,_,h3,h4⟩
 ·rw[h1]
  exact .inl ⟨rfl,h4.trans ho,λb=>(h3 b).trans (rdD_addW' D i l b)⟩
 ·rw[h1]
  exact .inr ⟨rfl,h3,h4⟩
where
 rdD_addW' (D:DM) (i:Int) (l:List UInt8) (k:Int):rdD (addW D i l) k=if i=k then l else rdD D k:=by
  unfold rdD addW;rw[List.reverse_append,List.reverse_singleton,List.singleton_append,List.find?_cons];by_cases h:i=k
  ·rw[if_pos h,h];simp
  ·rw[if_neg h]
   have:((i,l).1==k)=false:=by simpa using h
   rw[this]
theorem write_sv{D:DM}(hD:D.ok){i:Int}{l:List UInt8}{b:Int}{k:Nat}{v:List UInt8}(h0:0<=b)(hk:k<4)(h:Sv (writeD D i l).2 b k v):Sv D b k v\/(i=b/\v=sec l k):=by
 unfold writeD at h;split at h
 ·exact .inl h
 ·rename_i hp
  split at h
  ·exact .inl h
  ·rename_i hl
   have hi:=place0 (Classical.not_not.1 hp);have h2:Sv (addW D i l) b k v:=by
    rcases goes_cases (addW D i l)with⟨_,h2,_⟩|⟨_,h2,_⟩
    ·exact h2 _ _ _ h
    ·exact h2 (addW_ok hD ⟨hi.2.1,hi.2.2⟩ (Classical.not_not.1 hl)) _ _ _ h0 hk h
   rcases h2 with h3|⟨x,h3,h4,h5⟩
   ·exact .inl (.inl h3)
   ·rcases List.mem_append.1 h3 with h6|h6
    ·exact .inl (.inr ⟨x,h6,h4,h5⟩)
    ·rw[List.mem_singleton]at h6;subst h6;exact .inr ⟨h4,h5⟩
theorem flushB_get:∀(ws:List (Int×List UInt8)) (bs:List (List UInt8)) (b:Int),(∀x∈ws,0<=x.1/\x.1<(bs.length:Int))->0<=b->((flushB bs ws)[b.toNat]?).getD []=((ws.reverse.find? (·.1==b)).map (·.2)).getD ((bs[b.toNat]?).getD [])
 |[],bs,b,_,_=>rfl
 |x::ws,bs,b,hw,h0=>by
  show((flushB (bs.set x.1.toNat x.2) ws)[b.toNat]?).getD []=_;rw[flushB_get ws _ b (λy hy=>by rw[List.length_set];exact hw y (by simp[hy])) h0,List.reverse_cons,List.find?_append];have hx:=hw x (by simp);cases ws.reverse.find? (·.1==b)with
  |some y=>rfl
  |none=>
   by_cases h:x.1=b
   ·subst h
    simp[List.getElem?_set_self (show x.1.toNat<bs.length by omega)]
   ·have:(x.1==b)=false:=beq_eq_false_iff_ne.2 h
    simp[this,List.getElem?_set_ne (show x.1.toNat≠b.toNat by omega)]
theorem flush_cases{D:DM}(hD:D.ok)(ho:D.off=false):
 ((flushD D).1=0/\(flushD D).2.off=false/\(flushD D).2.wait=[]/\∀b,0<=b->rdD (flushD D).2 b=rdD D b)\/((flushD D).1=5/\(flushD D).2.off=true/\(flushD D).2.wait=[]):=by
 unfold flushD;rw[ho,if_neg (by decide)];rcases goes_cases D with⟨h1,_,h3,h4⟩|⟨h1,_,h3,h4⟩
 ·rw[h1,if_neg (by decide)]
  refine .inl ⟨rfl,h4.trans ho,rfl,λb hb=>?_⟩;rw[rd_none rfl];exact flushB_get _ _ _ (λx hx=>let h:=hD.wlen x hx;⟨h.1,h.2.1⟩) hb
 ·rw[h1,if_pos rfl]
  exact .inr ⟨rfl,h3,h4⟩
theorem flush_sv{D:DM}(hD:D.ok){b:Int}{k:Nat}{v:List UInt8}(h0:0<=b)(hk:k<4)(h:Sv (flushD D).2 b k v):Sv D b k v:=by
 unfold flushD at h;split at h
 ·exact h
 ·rcases goes_cases D with⟨h1,h2,h3,_⟩|⟨h1,h2,_⟩
  ·rw[h1,if_neg (by decide)]at h
   rcases h with⟨l,h4,rfl⟩|⟨x,h4,_⟩
   ·dsimp only at h4
    have hlen:b.toNat<D.blocks.length:=by
     rw[<-flushB_len D.wait D.blocks];exact(split_at h4).2
    have h5:=flushB_get D.wait D.blocks b (λx hx=>let h:=hD.wlen x hx;⟨h.1,h.2.1⟩) h0;rw[h4]at h5;have h6:=rd_sv (D:=D) (b:=b) ⟨h0,by omega⟩ k;unfold rdD at h6;rw[<-h5]at h6;exact h6
   ·cases h4
  ·rw[h1,if_pos rfl]at h
   exact h2 hD _ _ _ h0 hk h
structure Pg where
 k:Int
 s:Sl
 b:List UInt8
def Pg.m(x:Pg):Int×List UInt8:=(x.k,x.b)
def Pg.kv(x:Pg):Int×Value:=(x.k,slV x.s)
def Pg.A(x:Pg):HA:=SlA 1 x.s (x.b.map ub)
structure TM where
 D:DM
 S:Sup
 P:PlanT
 busy:Bool
 dead:Bool
 R:List Rv
 pg:List (Int×List UInt8)
abbrev TM.n(T:TM):Int:=T.S.2.2.1
abbrev TM.h(T:TM):Int:=T.S.2.2.2.2.2
structure TH where
 b:Nat
 g:Nat
 c:Nat
 m:Nat
 s:Sl
 xs:List Rc
 C:CM
 pl:List Pg
structure CC(N:Nat)(P:PlanT)(C:CM)(D:DM):Prop where
 ok:C.ok D.blocks.length
 room:C.room=256
 clean:∀x∈C.l,x.dirty=false
 coh:coh C D
 ask:C.asked<=N
 use:∀x∈C.l,usableS P x.key
structure TxP(N:Nat)(T:TM)(i:TH):Prop where
 xs:i.xs.map rv=T.R
 pl:i.pl.map Pg.m=T.pg
 cc:T.dead=false->CC N T.P i.C T.D
abbrev txO(x dp:Nat)(T:TM)(i:TH):List HA:=[BoxA x (storeC i.b dp T.S T.P T.busy T.dead i.m),BoxA i.b [P0 i.g,P0 i.c],BoxA i.g (ringC dp 3 T.n T.h i.s),SlA 5 i.s (rcs i.xs),bts i.xs,CacheA i.c dp i.C,MapA intKT i.m (i.pl.map Pg.kv),bigA (i.pl.map Pg.A)]
def TxA(x dp N:Nat)(T:TM):HA:=exA λi:TH=>pA (TxP N T i)::txO x dp T i
section
variable{F0:Nat->Prop}{w0 w:World}{L:List HA}{x dp N:Nat}{T:TM}
theorem _root_.Go.Eng.St.tOpen(h:St F0 w0 w (TxA x dp N T::L)):∃i,TxP N T i/\St F0 w0 w (BoxA x (storeC i.b dp T.S T.P T.busy T.dead i.m)::BoxA i.b [P0 i.g,P0 i.c]::BoxA i.g (ringC dp 3 T.n T.h i.s)::SlA 5 i.s (rcs i.xs)::bts i.xs::CacheA i.c dp i.C::MapA intKT i.m (i.pl.map Pg.kv)::bigA (i.pl.map Pg.A)::L):=by
 obtain⟨i,h⟩:=h.ex;obtain⟨h1,h⟩:=h.p;exact⟨i,h1,h⟩
theorem _root_.Go.Eng.St.tClose{i:TH}(h:St F0 w0 w (BoxA x (storeC i.b dp T.S T.P T.busy T.dead i.m)::BoxA i.b [P0 i.g,P0 i.c]::BoxA i.g (ringC dp 3 T.n T.h i.s)::SlA 5 i.s (rcs i.xs)::bts i.xs::CacheA i.c dp i.C::MapA intKT i.m (i.pl.map Pg.kv)::bigA (i.pl.map Pg.A)::L))(hp:TxP N T i):St F0 w0 w (TxA x dp N T::L):=
 St.mkex (f:=λi:TH=>pA (TxP N T i)::txO x dp T i) i (h.mkp hp)
theorem TxP.mono{N M:Nat}{T:TM}{i:TH}(h:TxP N T i)(hm:N<=M):TxP M T i:=⟨h.xs,h.pl,λhd=>let c:=h.cc hd;⟨c.ok,c.room,c.clean,c.coh,by have:=c.ask;omega,c.use⟩⟩
theorem _root_.Go.Eng.St.tMono{M:Nat}(h:St F0 w0 w (TxA x dp N T::L))(hm:N<=M):St F0 w0 w (TxA x dp M T::L):=by
 obtain⟨i,hp,s⟩:=h.tOpen;exact s.tClose (hp.mono hm)
end
structure TM.ok(T:TM):Prop where
 D:T.D.ok
 P:T.P=(ofG (supG T.S)).1
 g:(ofG (supG T.S)).2=0
 len:(T.D.blocks.length:Int)=T.S.2.1
 h:0<=T.h/\T.h<=1152921504606846976
 R:(T.R.length:Int)<=4*T.n
 ok:T.R.all okV=true
 nod:(T.pg.map (·.1)).Nodup
 pg:∀p∈T.pg,usableS T.P p.1/\p.2.length=256
 idle:T.busy=false->T.pg=[]
def TM.mark(T:TM):TM:={T with dead:=T.dead||T.D.off}
def TM.told(T:TM)(e:Int):TM:={T with dead:=T.dead||e==5}
def TM.ends(T:TM):TM:={T with busy:=false,pg:=[]}
def TM.page(T:TM)(i:Int):List UInt8:=match T.pg.find? (·.1==i)with|some p=>p.2|none=>rdD T.D i
theorem pg_keys(pl:List Pg):(pl.map Pg.kv).map (·.1)=(pl.map Pg.m).map (·.1):=by simp[List.map_map,Pg.kv,Pg.m,Function.comp_def]
theorem F60_ok{x dp N:Nat}{T:TM}{w:World}{F:Nat->Prop}(hh:Has [TxA x dp N T] w F)(hn:(T.pg.map (·.1)).Nodup):F60 (some ⟨x,0,none⟩) (λ_ w'=>St F w w' [TxA x dp N T.ends]) w:=by
 unfold F60;obtain⟨i,hp,s0⟩:=(St.init hh).tOpen;simp only[deref_some'];refine s0.S 0 rfl (by simp) trivial λw1 s1=>?_;refine s1.L 0 rfl (p:=some i.m) rfl ?_;have hn0:((i.pl.map Pg.kv).map (·.1)).Nodup:=by rw[pg_keys,hp.pl];exact hn
 refine St.mrangeD (T:=intKT) (s1.sel [6,0,1,2,3,4,5] 8) λit w2 s2=>?_;refine loop_of (λ_ W=>∃kv:List (Int×Value),(kv.map (·.1)).Nodup/\St F w W [MapDA intKT i.m it kv,BoxA x (storeC i.b dp T.S T.P false T.dead i.m),BoxA i.b [P0 i.g,P0 i.c],BoxA i.g (ringC dp 3 T.n T.h i.s),SlA 5 i.s (rcs i.xs),bts i.xs,CacheA i.c dp i.C]) (λ_ W=>mapSz i.m W)
  ⟨_,hn0,s2⟩ ?_
 rintro _ W ⟨kv,hkn,s3⟩;have hsz:=s3.szD;refine St.mnextD s3 (λ_ w' s4=>?_) λc en w' hc s4=>?_
 ·exact St.tClose (T:=T.ends) (i:={i with pl:=[]}) (s4.nobig.sel [2,3,4,5,6,7,1,0] 8) ⟨hp.xs,rfl,hp.cc⟩
 ·refine s4.mentryD λen2 y hy hk _=>?_
  refine⟨y.1,hk,?_⟩;refine s4.L 1 rfl (p:=some i.m) rfl ?_;refine s4.mapDelD hy hkn λw5 s5=>⟨⟨_,?_,s5⟩,?_⟩
  ·rw[eraseIdx_map]
   exact hkn.sublist (List.eraseIdx_sublist _ _)
  ·rw[s5.szD,hsz,List.length_eraseIdx_of_lt hc]
   omega
theorem endsD{x dp N:Nat}{T:TM}{w w0:World}{F0:Nat->Prop}{L:List HA}{k:Pr}(h:St F0 w0 w (TxA x dp N T::L))(hn:(T.pg.map (·.1)).Nodup)(hk:∀w',St F0 w0 w' (TxA x dp N T.ends::L)->k w'):
 callD Tryz.prog .returning 60 [P0 x] k w:=by
 obtain⟨G,H,_,g2,_,_,_,gc⟩:=h.call1;refine CallsDIn.mono (F60_deferred _ .returning _ _ (F60_ok g2 hn)) ?_;rintro e u' w' ⟨rfl,⟨p,rfl,h'⟩⟩;exact⟨⟨_,rfl⟩,rfl,hk w' (gc _ _ h')⟩
theorem mayC{x dp N:Nat}{T:TM}{w w0:World}{F0:Nat->Prop}{L:List HA}{k:Int->Pr}(h:St F0 w0 w (TxA x dp N T::DiskA dp T.D::L))(hd:T.D.ok)(hk:∀w',St F0 w0 w' (TxA x dp N T.mark::DiskA dp T.D::L)->k (mayE T.dead T.D) w'):
 callF Tryz.prog 59 [P0 x] [.c (.int .i64)] k w:=by
 obtain⟨i,hp,s0⟩:=h.tOpen;obtain⟨G,H,g2,_,_,_,gc⟩:=St.call [BoxA x (storeC i.b dp T.S T.P T.busy T.dead i.m),DiskA dp T.D] (s0.perm (m:=BoxA x (storeC i.b dp T.S T.P T.busy T.dead i.m)::DiskA dp T.D::BoxA i.b [P0 i.g,P0 i.c]::BoxA i.g (ringC dp 3 T.n T.h i.s)::SlA 5 i.s (rcs i.xs)::bts i.xs::CacheA i.c dp i.C::MapA intKT i.m (i.pl.map Pg.kv)::bigA (i.pl.map Pg.A)::L) (List.Perm.cons _ (bring_perm 7 _)));refine callF_of (V59 g2 hd) ?_;rintro _ w1 ⟨rfl,s1⟩;have s2:=gc _ _ s1;refine hk w1 ((s2.perm (List.Perm.cons _ (bring_perm 7 (_::_::_::_::_::_::_::DiskA dp T.D::L)).symm)).tClose (T:=T.mark) (i:=i) ⟨hp.xs,hp.pl,λhd=>hp.cc ?_⟩);have:(T.dead||T.D.off)=false:=hd;cases hx:T.dead<;>simp_all
theorem toldC{x dp N:Nat}{T:TM}{e:Int}{w w0:World}{F0:Nat->Prop}{L:List HA}{k:Int->Pr}(h:St F0 w0 w (TxA x dp N T::L))(hk:∀w',St F0 w0 w' (TxA x dp N (T.told e)::L)->k e w'):
 callF Tryz.prog 109 [P0 x,iv e] [.c (.int .i64)] k w:=by
 obtain⟨i,hp,s0⟩:=h.tOpen;obtain⟨G,H,g1,g2,_,_,_,gc⟩:=s0.call1;refine callF_of (V109 (e:=e) g2) ?_;rintro r w1 ⟨he,s1⟩;rw[he];refine hk w1 ((gc _ _ s1).tClose (T:=T.told e) (i:=i) ⟨hp.xs,hp.pl,λhd=>hp.cc ?_⟩);have:(T.dead||e==5)=false:=hd;cases hx:T.dead<;>simp_all
theorem lkp_pg(k:Int):∀(pl:List Pg),(lkp k (pl.map Pg.kv)=none/\(pl.map Pg.m).find? (·.1==k)=none)\/∃(j:Nat) (x:Pg),pl[j]? =some x/\x.k=k/\lkp k (pl.map Pg.kv)=some (slV x.s)/\(pl.map Pg.m).find? (·.1==k)=some x.m
 |[]=>.inl ⟨rfl,rfl⟩
 |x::pl=>by
  by_cases h:k=x.k
  ·subst h
   exact .inr ⟨0,x,rfl,rfl,by simp[lkp,Pg.kv],by simp[Pg.m]⟩
  ·have h':(x.k==k)=false:=beq_eq_false_iff_ne.2 λe=>h e.symm
   rcases lkp_pg k pl with⟨h1,h2⟩|⟨j,y,h1,h2,h3,h4⟩
   ·exact .inl ⟨by simp[lkp,Pg.kv,h];exact h1,by rw[List.map_cons,List.find?_cons];show(match(x.k==k)with|true=>_|false=>_)=_;rw[h'];exact h2⟩
   ·exact .inr ⟨j+1,y,by simpa using h1,h2,by simp[lkp,Pg.kv,h];exact h3,by rw[List.map_cons,List.find?_cons];show(match(x.k==k)with|true=>_|false=>_)=_;rw[h'];exact h4⟩
theorem ofG_ok{g:Geo}(h:(ofG g).2=0):geoR g/\(planT g).2.2.2.2.2<=g.1/\g.1<=2048/\(ofG g).1=planT g:=by
 unfold ofG at h⊢;by_cases hg:geoE g=0
 ·rw[if_pos hg]
  unfold geoE at hg;by_cases h2:geoR g/\(planT g).2.2.2.2.2<=g.1/\g.1<=2048
  ·exact⟨h2.1,h2.2.1,h2.2.2,rfl⟩
  ·rw[if_neg h2]at hg;cases hg
 ·rw[if_neg hg]at h;cases h
theorem usable_lt{T:TM}(ht:T.ok){i:Int}(h:usableS T.P i):0<=i/\i<T.D.blocks.length:=by
 obtain⟨⟨g1,g2,g3⟩,h2,h3,h4⟩:=ofG_ok ht.g;rw[ht.P,h4]at h;have hl:=ht.len;unfold planT at h h2;unfold usableS at h;dsimp only at h h2 g1 g2 g3;omega
theorem CC.rd{N:Nat}{P:PlanT}{C:CM}{D:DM}(h:CC N P C D)(k:Int):vis C D k (rdD D k):=by
 by_cases hk:∀x∈C.l,x.key≠k
 ·exact .inr ⟨hk,rfl⟩
 ·obtain⟨x,hx⟩:=Classical.not_forall.1 hk
  obtain⟨hx,hxk⟩:=Classical.not_imp.1 hx;have hxk:=Classical.not_not.1 hxk;exact .inl ⟨x,hx,hxk,by rw[h.coh x hx (h.clean x hx),hxk]⟩
theorem clean_isD{C:CM}:(∀x∈C.l,x.dirty=false)↔∀k,¬isD C k:=by
 constructor
 ·rintro h k ⟨x,hx,_,hd⟩
  rw[h x hx]at hd;cases hd
 ·intro h x hx
  cases hd:x.dirty with
  |false=>rfl
  |true=>exact absurd ⟨x,hx,rfl,hd⟩ (h x.key)
theorem ComesQ.keys{C C':CM}{D:DM}{k e:Int}{j:Nat}(hq:ComesQ C D k e C' j):∀y∈C'.l,y.key=k\/∃z∈C.l,z.key=y.key:=by
 intro y hy;cases hq with
 |hit _ x h1 h2=>
  rcases List.mem_or_eq_of_mem_set hy with h|rfl
  ·exact .inr ⟨y,h,rfl⟩
  ·exact .inl h2
 |full=>exact .inr ⟨y,hy,rfl⟩
 |err=>exact .inr ⟨y,hy,rfl⟩
 |more=>
  rcases List.mem_append.1 hy with h|h
  ·exact .inr ⟨y,h,rfl⟩
  ·rw[List.mem_singleton]at h;subst h;exact .inl rfl
 |swap=>
  rcases List.mem_append.1 hy with h|h
  ·exact .inr ⟨y,List.mem_of_mem_eraseIdx h,rfl⟩
  ·rw[List.mem_singleton]at h;subst h;exact .inl rfl
theorem CC.comes{N:Nat}{P:PlanT}{C C':CM}{D:DM}{k e:Int}{j:Nat}(h:CC N P C D)(hD:D.ok)(ho:D.off=false)(hk:0<=k/\k<D.blocks.length)(hu:usableS P k)(hq:ComesQ C D k e C' j):e=0/\CC (N+1) P C' D:=by
 have hpl:placeE D k=0:=by unfold placeE;rw[ho,if_neg (by simp),if_neg (by omega)]
 have he:e=0:=by
  cases hq with
  |hit=>rfl
  |full no hf hd=>
   have h1:=h.room;cases hl:C.l with
   |nil=>rw[hl,h1]at hf;simp at hf
   |cons x l=>
    have h2:=hd x (by rw[hl];simp);rw[h.clean x (by rw[hl];simp)]at h2;cases h2
  |err no he=>exact absurd hpl he
  |more=>rfl
  |swap=>rfl
 have h3:=hq.asked;refine⟨he,hq.ok h.ok hD,h3.2.trans h.room,clean_isD.2 λi hi=>clean_isD.1 h.clean i ((hq.isD i).1 hi),(hq.coh h.ok h.coh).1,by have:=h.ask;rw[h3.1];omega,λy hy=>by rcases hq.keys y hy with h|⟨z,hz,he⟩;exact h▸hu;exact he▸h.use z hz⟩
theorem cacheRd{c dp N:Nat}{P:PlanT}{C:CM}{D:DM}{k:Int}{w w0:World}{F0:Nat->Prop}{L:List HA}{K:Sl×Int->Pr}(s0:St F0 w0 w (CacheA c dp C::DiskA dp D::L))(hc:CC N P C D)(hD:D.ok)(hw:D.wait.length<=10000000)(hN:N<=1000000000)
 (ho:D.off=false)(hk:0<=k/\k<D.blocks.length)(hu:usableS P k)(hK:∀t C' w',CC (N+1) P C' D->St F0 w0 w' (SlA 1 t ((rdD D k).map ub)::CacheA c dp C'::DiskA dp D::L)->K (t,0) w'):
 callF Tryz.prog 108 [P0 c,iv k] [.c .slice,.c (.int .i64)] K w:=by
 obtain⟨G,H,g2,_,_,_,gc⟩:=St.call [CacheA c dp C,DiskA dp D] s0;refine callF_of (C34 c dp C D k w G g2 hc.ok hD (by omega) (by have:=hc.ask;omega)) ?_;rintro⟨t,e⟩ w1 ⟨C',out,hq,s1⟩;dsimp only at hq s1;have s1:=gc _ _ s1;have h1:e=0/\CC (N+1) P C' D:=by
  rcases hq with⟨h1,_⟩|⟨_,j,h2,_⟩
  ·exact absurd hk h1
  ·exact hc.comes hD ho hk hu h2
 obtain⟨rfl,h2⟩:=h1;have h3:=ReadQ.val hq hc.ok hD hc.coh (hc.rd k);subst h3;exact hK t C' w1 h2 s1
theorem cacheWr{c dp N M:Nat}{P:PlanT}{C:CM}{D:DM}{k:Int}{t:Sl}{l:List UInt8}{w w0:World}{F0:Nat->Prop}{L:List HA}{K:Int->Pr}(s0:St F0 w0 w (CacheA c dp C::DiskA dp D::SlA 1 t (l.map ub)::L))(hc:CC N P C D)(hD:DB M D)(hM:M<=1000000)(hN:N<=1000000000)
 (ho:D.off=false)(hk:0<=k/\k<D.blocks.length)(hu:usableS P k)(hl:l.length=256)
 (hK:∀C1 w1,St F0 w0 w1 (CacheA c dp C1::DiskA dp D::SlA 1 t (l.map ub)::L)->callF Tryz.prog 119 [P0 c] [.c (.int .i64)] (λe w'=>e=(writeD D k l).1/\∃C2,((writeD D k l).1=0->CC (N+1) P C2 (writeD D k l).2)/\St F0 w0 w' (CacheA c dp C2::DiskA dp (writeD D k l).2::SlA 1 t (l.map ub)::L)) w1->K 0 w1):
 callF Tryz.prog 118 [P0 c,iv k,iv 0,slV t] [.c (.int .i64)] K w:=by
 obtain⟨G,H,g2,g3,g4,_,gc⟩:=St.call [CacheA c dp C,DiskA dp D] s0;have hwl:=hD.bd.wait;refine callF_of (C33 c dp C D k 0 t l w G g2 (Rd.own g3 g4) hc.ok hD.ok (by omega) (by have:=hc.ask;omega)) ?_;rintro e w1 ⟨C1,hq,s1⟩;have s1:=gc _ _ s1;have hok:=hq.ok hc.ok hD.ok;have hd:=hq.isD;have hcoh:=hq.coh hc.ok hD.ok hc.coh;have he:e=0/\C1.room=256/\(∀y∈C1.l,usableS P y.key)/\∃x∈C1.l,x.key=k/\x.b=l:=by
  rcases hq with⟨h1,_⟩|⟨_,h1,_⟩|⟨_,_,C0,j,h2,h3⟩
  ·exact absurd hk h1
  ·exact absurd ⟨by omega,by omega⟩ h1
  ·obtain⟨rfl,h4⟩:=hc.comes hD.ok ho hk hu h2
   rcases h3 with⟨h3,_⟩|⟨_,_,x,hx,rfl⟩
   ·rcases h3 with h3|h3
    ·exact absurd rfl h3
    ·rw[h3]at hl;cases hl
   ·obtain⟨x',hx',hxk⟩:=h2.at
    rw[hx]at hx';cases hx';refine⟨rfl,h4.room,λy hy=>?_,_,mem_set_self _ hx,hxk,?_⟩
    ·rcases List.mem_or_eq_of_mem_set hy with h|rfl
     ·exact h4.use y h
     ·exact h4.use x (List.mem_of_getElem? hx)
    have hxl:=h4.ok.len x (List.mem_of_getElem? hx);show lay x.b 0 l=l;unfold lay;rw[List.take_zero,List.nil_append,List.drop_eq_nil_of_le (by omega),List.append_nil]
 obtain⟨rfl,hroom,huse,x,hx,hxk,hxb⟩:=he;have hask:=hok.2;have hok:=hok.1;refine hK C1 w1 s1 ?_;have hne:l≠[]:=λh=>by rw[h]at hl;cases hl
 have hdk:dirtyK C1=[k]:=by
  have h1:∀q,q∈dirtyK C1↔q=k:=λq=>by
   rw[mem_dirtyK,hd];exact⟨λh=>h.elim (λh=>absurd h (clean_isD.1 hc.clean q)) λh=>h.2.2,λh=>.inr ⟨rfl,hne,h⟩⟩
  have h2:=dirtyK_nodup hok.nod;cases hds:dirtyK C1 with
  |nil=>have:=(h1 k).2 rfl;rw[hds]at this;simp at this
  |cons a ds=>
   rw[hds]at h1 h2;have ha:=(h1 a).1 (by simp);subst ha;cases ds with
   |nil=>rfl
   |cons b ds=>
    have hb:=(h1 b).1 (by simp);subst hb;simp at h2
 obtain⟨G,H,g2,_,_,_,gc⟩:=St.call [CacheA c dp C1,DiskA dp D] s1;have hlen:C1.l.length<=1000:=by have:=hok.le;omega
 refine callF_of (C42 c dp C1 D w1 G g2 hok.nod hlen hD.ok M hD.bd hM) ?_;rw[hdk];have hba:bytesAt C1 k=l:=by rw[<-hxk,bytesAt_of hok hx,hxb]
 have hcg:cleanGo [k] C1 D=if(writeD D k l).1≠0 then((writeD D k l).1,C1,(writeD D k l).2)else(0,setClean C1 k,(writeD D k l).2):=by
  rw[cleanGo_cons,hba];rfl
 rw[hcg];rintro e w2 ⟨rfl,s2⟩;have s2:=gc _ _ s2;by_cases hw:(writeD D k l).1≠0
 ·rw[if_pos hw]at s2⊢
  exact⟨rfl,C1,λh=>absurd h hw,s2⟩
 ·rw[if_neg hw]at s2⊢
  have hw:=Classical.not_not.1 hw;refine⟨hw.symm,_,λ_=>?_,s2⟩;have hlen2:(writeD D k l).2.blocks.length=D.blocks.length:=(writeD_ok hD.ok hD.bd k l).2.2;have hrd:∀b,rdD (writeD D k l).2 b=if k=b then l else rdD D b:=by
   rcases write_cases hD.ok ho hk hl with⟨_,_,h⟩|⟨h,_⟩
   ·exact h
   ·rw[hw]at h;cases h
  have hcl:∀y∈(setClean C1 k).l,y.dirty=false/\∃z∈C1.l,z.key=y.key/\z.b=y.b:=by
   intro y hy;obtain⟨z,hz,rfl⟩:=List.mem_map.1 hy;by_cases hzk:z.key=k
   ·rw[if_pos hzk];exact⟨rfl,z,hz,rfl,rfl⟩
   ·rw[if_neg hzk]
    refine⟨?_,z,hz,rfl,rfl⟩;cases hzd:z.dirty with
    |false=>rfl
    |true=>
     have:=mem_dirtyK.2 ⟨z,hz,rfl,hzd⟩;rw[hdk,List.mem_singleton]at this;exact absurd this hzk
  refine⟨by rw[hlen2];exact setClean_ok hok k,hroom,λy hy=>(hcl y hy).1,λy hy _=>?_,by have:=hc.ask;show C1.asked<=_;omega,λy hy=>let⟨_,z,hz,h1,_⟩:=hcl y hy;h1▸huse z hz⟩;obtain⟨_,z,hz,h1,h2⟩:=hcl y hy;rw[hrd,<-h1,<-h2];by_cases hzk:z.key=k
  ·rw[if_pos hzk.symm,key_uniq hok hz hx (hzk.trans hxk.symm),hxb]
  ·rw[if_neg λh=>hzk h.symm]
   refine hcoh.1 z hz ?_;cases hzd:z.dirty with
   |false=>rfl
   |true=>
    have:=mem_dirtyK.2 ⟨z,hz,rfl,hzd⟩;rw[hdk,List.mem_singleton]at this;exact absurd this hzk
section
variable{x dp N:Nat}{T:TM}{w w0:World}{F0:Nat->Prop}{L:List HA}
theorem pgAt{pl:List Pg}{j:Nat}{p:Pg}{M:List HA}(hs:St F0 w0 w (bigA (pl.map Pg.A)::M))(hj:pl[j]? =some p):BS w p.s p.b/\p.s.len<=p.s.cap:=by
 have h1:=(hs.pick (i:=j) (A:=p.A) (by simp[hj])).sl;exact⟨h1.bs,h1.le⟩
theorem pageC{i:Int}{K:Sl×Int->Pr}(h:St F0 w0 w (TxA x dp N T::DiskA dp T.D::L))(ht:T.ok)(hd:T.dead=false)(ho:T.D.off=false)(hu:usableS T.P i)(hw:T.D.wait.length<=10000000)(hN:N<=1000000000)
 (hK:∀t w',BS w' t (T.page i)->t.len<=t.cap->St F0 w0 w' (TxA x dp (N+1) T::DiskA dp T.D::L)->K (t,0) w'):callF Tryz.prog 81 [P0 x,iv i] [.c .slice,.c (.int .i64)] K w:=by
 refine callF_of (post:=K) (F81_calls _ _ _ _ ?_) λ_ _ h=>h;unfold F81;obtain⟨I,hp,s0⟩:=h.tOpen;rw[deref_some'];refine s0.L 0 rfl (p:=some I.m) rfl ?_;have hr:=usable_lt ht hu;have cc:=hp.cc hd;refine St.mapAt (T:=intKT) (s0.bring 6) (k:=i) (λv hv=>?_) λhv=>?_
 ·rcases lkp_pg i I.pl with⟨h1,_⟩|⟨j,p,h1,h2,h3,h4⟩
  ·rw[h1]at hv;cases hv
  ·rw[h3,Option.some.injEq]at hv
   refine⟨p.s,hv.symm,br_t rfl ?_⟩;have hb:=pgAt (s0.bring 7) h1;have hpg:T.page i=p.b:=by unfold TM.page;rw[<-hp.pl,h4];rfl
   refine hK p.s w (by rw[hpg];exact hb.1) hb.2 (s0.tClose (hp.mono (by omega)))
 ·rcases lkp_pg i I.pl with⟨_,h1⟩|⟨j,p,h1,h2,h3,h4⟩
  ·refine⟨⟨none,0,0⟩,rfl,br_f rfl ?_⟩
   have hpg:T.page i=rdD T.D i:=by unfold TM.page;rw[<-hp.pl,h1]
   rw[deref_some'];refine s0.L 0 rfl (p:=some ⟨I.b,0,none⟩) rfl ?_;rw[deref_some'];refine s0.L 1 rfl (p:=some ⟨I.c,0,none⟩) rfl ?_;have s1:=(s0.bring 8).bring 6;refine cacheRd s1 cc ht.D hw hN ho hr hu λt C' w1 hc s2=>?_;have s3:=s2.sel [3,4,5,6,7,1,8,9,0,2] 10;have s4:St F0 w0 w1 (TxA x dp (N+1) T::SlA 1 t ((rdD T.D i).map ub)::DiskA dp T.D::L):=St.tClose (i:={I with C:=C'}) s3 ⟨hp.xs,hp.pl,λ_=>hc⟩;refine toldC s4 λw2 s5=>?_;have e0:T.told 0=T:=by unfold TM.told;simp
   rw[e0]at s5;have hb:=(s5.bring 1).sl;exact hK t w2 (by rw[hpg];exact hb.bs) hb.le (s5.sel [0,2] 3)
  ·rw[h3]at hv;cases hv
theorem TM.page_len(ht:T.ok){i:Int}(hu:usableS T.P i):(T.page i).length=256:=by
 have hr:=usable_lt ht hu;unfold TM.page;cases hf:T.pg.find? (·.1==i)with
 |none=>exact rdD_len ht.D hr.1 hr.2
 |some p=>exact(ht.pg p (List.mem_of_find?_eq_some hf)).2
def TM.read(T:TM)(i o n:Int):Int×List UInt8:=
 if mayE T.dead T.D≠0 then(mayE T.dead T.D,[])else if withinS T.P i o n then(0,((T.page i).take (o+n).toNat).drop o.toNat)else(1,[])
theorem may0{T:TM}(h:mayE T.dead T.D=0):T.dead=false/\T.D.off=false/\T.mark=T:=by
 unfold mayE at h;cases h1:T.dead<;>cases h2:T.D.off<;>simp[h1,h2]at h;refine⟨rfl,rfl,?_⟩;unfold TM.mark;rw[h1,h2,Bool.or_false,<-h1]
theorem withinC{T':TM}{i o n:Int}{K:Bool->Pr}(h:St F0 w0 w (TxA x dp N T'::L))(hK:∀w',St F0 w0 w' (TxA x dp N T'::L)->K (decide (withinS T'.P i o n)) w'):callF Tryz.prog 80 [P0 x,iv i,iv o,iv n] [.c .bool] K w:=by
 obtain⟨I,hp,s0⟩:=h.tOpen;refine callF_of (V80 s0.box) ?_;rintro _ w1 ⟨rfl,g⟩;exact hK w1 ((s0.grow g).tClose hp)
theorem V27{i o n:Int}{F:Nat->Prop}(hh:Has [TxA x dp N T,DiskA dp T.D] w F)(ht:T.ok)(hw:T.D.wait.length<=10000000)(hN:N<=1000000000):
 Calls Tryz.prog 27 #[P0 x,iv i,iv o,iv n] w (RetT [.c .slice,.c (.int .i64)] λr w'=>r.2=(T.read i o n).1/\St F w w' [TxA x dp (N+1) T.mark,DiskA dp T.D,SlA 1 r.1 ((T.read i o n).2.map ub)]):=by
 refine F27_calls _ _ _ _ _ _ ?_;unfold F27 TM.read;refine mayC (St.init hh) ht.D λw1 s1=>?_;refine br_of (λh=>?_) λh=>?_
 ·rw[if_pos (by simpa using h)]
  exact⟨rfl,((s1.tMono (M:=N+1) (by omega)).nosl 1).sel [1,2,0] 3⟩
 have h:mayE T.dead T.D=0:=by simpa using h
 rw[if_neg (by simpa using h)];obtain⟨hd,ho,hm⟩:=may0 h;rw[hm]at s1⊢;refine withinC s1 λw2 s2=>?_;by_cases hwi:withinS T.P i o n
 rotate_left
 ·rw[if_neg hwi]
  exact br_t (by simp[hwi]) ⟨rfl,((s2.tMono (M:=N+1) (by omega)).nosl 1).sel [1,2,0] 3⟩
 rw[if_pos hwi];refine br_f (by simp[hwi]) ?_;have hpl:=TM.page_len ht hwi.1;refine pageC s2 ht hd ho hwi.1 hw hN λt w3 hb hle s3=>br_f rfl ?_;obtain⟨hu,h1,h2,h3,h4⟩:=hwi;have htl:=hb.len;rw[w64_of (n:=o+n) ⟨by omega,by omega⟩];dsimp only;refine slc_bsc hb hle h1 (by omega) (by omega) λr hr hrc=>?_;have hrl:=hr.len;rw[List.length_drop,List.length_take]at hrl;refine callF_of (C15 r _ w3 hr (by omega)) ?_;rintro u w4 ⟨hu,_,g5⟩;exact⟨rfl,(s3.mksl g5 hu).sel [1,2,0] 3⟩
def putP(i:Int)(b:List UInt8):List (Int×List UInt8)->List (Int×List UInt8)
 |[]=>[(i,b)]
 |p::l=>if p.1=i then(i,b)::l else p::putP i b l
theorem putP_set(i:Int)(b:List UInt8):∀(l:List (Int×List UInt8)) (j:Nat) (u:List UInt8),l[j]? =some (i,u)->(∀k x,k<j->l[k]? =some x->x.1≠i)->putP i b l=l.set j (i,b)
 |[],_,_,h,_=>by simp at h
 |p::l,0,u,h,_=>by simp at h;subst h;simp[putP]
 |p::l,j+1,u,h,hn=>by
  have:=hn 0 p (by omega) rfl;rw[putP,if_neg this,putP_set i b l j u (by simpa using h) λk x hk hx=>hn (k+1) x (by omega) (by simpa using hx),List.set_cons_succ]
theorem putP_new(i:Int)(b:List UInt8):∀(l:List (Int×List UInt8)),i∉l.map (·.1)->putP i b l=l++[(i,b)]
 |[],_=>rfl
 |p::l,h=>by
  simp only[List.map_cons,List.mem_cons,not_or]at h;rw[putP,if_neg λe=>h.1 e.symm,putP_new i b l h.2];rfl
def TM.write(T:TM)(i o:Int)(l:List UInt8):Int×TM:=
 if mayE T.dead T.D≠0 then(mayE T.dead T.D,T.mark)else if T.busy=false then(100,T)else if withinS T.P i o l.length then(0,if l=[]then T else{T with pg:=putP i (lay (T.page i) o.toNat l) T.pg})else(1,T)
theorem V31{i o:Int}{p:Sl}{l:List UInt8}{F:Nat->Prop}(hh:Has [TxA x dp N T,DiskA dp T.D] w F)(ht:T.ok)(hw:T.D.wait.length<=10000000)(hN:N<=1000000000)(hb:Rd w F p l):
 Calls Tryz.prog 31 #[P0 x,iv i,iv o,slV p] w (RetT [.c (.int .i64)] λr w'=>r=(T.write i o l).1/\St F w w' [TxA x dp (N+1) (T.write i o l).2,DiskA dp T.D]):=by
 refine F31_calls _ _ _ _ _ _ ?_;unfold F31 TM.write;have hpl:=hb.bs.len;refine mayC (St.init hh) ht.D λw1 s1=>?_;refine br_of (λh=>?_) λh=>?_
 ·rw[if_pos (by simpa using h)]
  exact⟨rfl,s1.tMono (M:=N+1) (by omega)⟩
 have h:mayE T.dead T.D=0:=by simpa using h
 rw[if_neg (by simpa using h)];obtain⟨hd,ho,hm⟩:=may0 h;rw[hm]at s1;obtain⟨I,hp,s2⟩:=s1.tOpen;rw[deref_some'];refine s2.L 0 rfl (p:=T.busy) rfl ?_;refine br_of (λh=>?_) λh=>?_
 ·rw[if_pos (by simpa using h)]
  exact⟨rfl,s1.tMono (M:=N+1) (by omega)⟩
 rw[if_neg (by simpa using h),hpl];refine withinC s1 λw2 s2=>?_;by_cases hwi:withinS T.P i o l.length
 rotate_left
 ·rw[if_neg hwi]
  exact br_t (by simp[hwi]) ⟨rfl,s2.tMono (M:=N+1) (by omega)⟩
 rw[if_pos hwi];refine br_f (by simp[hwi]) ?_;by_cases hl:l=[]
 ·rw[if_pos hl]
  exact br_t (by simp[hl]) ⟨rfl,s2.tMono (M:=N+1) (by omega)⟩
 rw[if_neg hl];refine br_f (by simp[hl]) ?_;have hgl:=TM.page_len ht hwi.1;refine pageC s2 ht hd ho hwi.1 hw hN λt w3 hb3 hle s3=>br_f rfl ?_;obtain⟨hu,h1,h2,h3,h4⟩:=hwi;have htl:=hb3.len;refine callF_of (C15 t _ w3 hb3 (by omega)) ?_;rintro u w4 ⟨hu4,_,g5⟩;have s4:=s3.mksl g5 hu4;obtain⟨o,rfl⟩:=Int.eq_ofNat_of_zero_le h1;have hul:=slA_len1 s4.sl;rw[List.length_map]at hul;refine slc_sub (by omega) ?_;refine cpy_sub s4 (hb.at s4) (by omega) λw5 s5=>?_;rw[Int.toNat_natCast];obtain⟨I,hp,s6⟩:=(s5.bring 1).tOpen;rw[deref_some'];refine s6.L 0 rfl (p:=some I.m) rfl ?_;have hkv:∀{j:Nat} {v:Value},(I.pl.map Pg.kv)[j]? =some (i,v)->∃q:Pg,I.pl[j]? =some q/\q.k=i:=λ{j v} hj=>by
  rw[List.getElem?_map]at hj;obtain⟨q,h1,h2⟩:=Option.map_eq_some_iff.1 hj;exact⟨q,h1,congrArg Prod.fst h2⟩
 refine St.mapPut (T:=intKT) (k:=i) (s6.bring 6) (λj v w7 hj hn s7=>?_) λhno w7 s7=>?_
 ·obtain⟨q,hq,hqk⟩:=hkv hj
  have hjl:=(split_at hq).2;have hjm:T.pg[j]? =some (i,q.b):=by rw[<-hp.pl,List.getElem?_map,hq,<-hqk];rfl
  rw[putP_set i _ T.pg j q.b hjm λk y hk hy=>by
   rw[<-hp.pl,List.getElem?_map]at hy;obtain⟨z,h1,rfl⟩:=Option.map_eq_some_iff.1 hy;exact hn k z.kv hk (by rw[List.getElem?_map,h1];rfl)]
  have s8:=(s7.bring 7).pick (i:=j) (A:=q.A) (by simp[hq]);have s9:=s8.sel [9,1,2,3,4,5,6,7,8,10] 11;have s10:=St.unpick (A:=SlA 1 u ((lay (T.page i) o l).map ub)) s9 (by simpa using hjl);have e1:(I.pl.map Pg.A).set j (SlA 1 u ((lay (T.page i) o l).map ub))=(I.pl.set j ⟨i,u,lay (T.page i) o l⟩).map Pg.A:=by rw[List.map_set];rfl
  have e2:(I.pl.map Pg.kv).set j (i,slV u)=(I.pl.set j ⟨i,u,lay (T.page i) o l⟩).map Pg.kv:=by rw[List.map_set];rfl
  rw[e1,e2]at s10;exact⟨rfl,St.tClose (T:={T with pg:=_}) (i:={I with pl:=I.pl.set j ⟨i,u,lay (T.page i) o l⟩}) (s10.sel [2,3,4,5,6,7,1,0,8] 9) ⟨hp.xs,by show _=T.pg.set j _;rw[<-hp.pl,List.map_set];rfl,hp.cc⟩⟩
 ·rw[pg_keys,hp.pl]at hno
  rw[putP_new i _ T.pg hno];have s8:=(s7.sel [8,7,0,1,2,3,4,5,6,9] 10).push;have e1:I.pl.map Pg.A++[SlA 1 u ((lay (T.page i) o l).map ub)]=(I.pl++[(⟨i,u,lay (T.page i) o l⟩:Pg)]).map Pg.A:=by rw[List.map_append];rfl
  have e2:I.pl.map Pg.kv++[(i,slV u)]=(I.pl++[(⟨i,u,lay (T.page i) o l⟩:Pg)]).map Pg.kv:=by rw[List.map_append];rfl
  rw[e1,e2]at s8;exact⟨rfl,St.tClose (T:={T with pg:=_}) (i:={I with pl:=I.pl++[⟨i,u,lay (T.page i) o l⟩]}) (s8.sel [2,3,4,5,6,7,1,0,8] 9) ⟨hp.xs,by show _=T.pg++_;rw[<-hp.pl,List.map_append];rfl,hp.cc⟩⟩
end
set_option maxRecDepth 100000
def an17:An:=(.sq .z (.sq .z (.sq (.sq .z (.br (.sq .z .z) .z)) (.sq (.jm [] (.sq .z (.bl (.rf [.c (.int .i64)] .z (.bl (.sq (.sq .z (.br .z .z)) .z)))))) (.sq .z .z)))))
def F17(p0:Value)(p1:Int)(Q:Sl->Pr):Pr:=
 owe (NotAgg (iv p1))<|nw (.cells #[(iv p1)] 3) λr=>
 owe (NotAgg (.slice none 0 0))<|nw (.cells #[(.slice none 0 0)] 46) λr_1=>
 owe (okFn p0\/p0=Value.nilFunc)<|
 br (isNilF p0) (
 Q (⟨none,0,0⟩)) (
 jn (S:=List Nat×Unit) (λR=>
 rngE Tryz.prog p0 [.c I64] (λl (z:Int) bg nx lv=>
 bg (
 ldS (bA r_1 0) λt11=>
 ldI (bA r 0) λt13=>
 br (decide ((t11.len:Int)>=t13)) (
 lv (some 0)) (
 ldS (bA r_1 0) λt15=>
 nw (.cells #[(iv z)] 3) λr_2=>
 app 3 1 8 [(iv 0)] t15 ⟨(some ⟨r_2,0,none⟩),1,1⟩ λt18=>
 st (bA r_1 0) (slV t18)<|
 nx))) (λD=>
 R ([D],())) (λD=>
 fls) (λD=>[(0,(
 R ([D],())))])) λs=>
 ldS (bA r_1 0) λt19=>
 takes s.1<|
 Q t19)
theorem F17_calls(p0:Value)(p1:Int)(Q:Sl->Pr)(w:World)(h:F17 p0 p1 Q w):Calls Tryz.prog 17 #[p0,(iv p1)] w (RetT [.c .slice] Q):=cF (an:=an17) Tryz.func17 (by kernel_rfl) h
def an11:An:=(.sq .z (.sq .z (.sq (.sq (.jn [(21,.c .bool)] .z) (.br (.sq .z .z) .z)) (.sq .z (.sq (.sq (.jn [(64,.c .bool)] .z) (.br (.sq .z .z) .z)) (.sq .z (.sq (.sq (.jn [(75,.c .bool)] .z) (.br (.sq .z .z) .z)) (.sq .z (.sq .z .z)))))))))
def F11(Q:Bool->Pr):Pr:=
 callF Tryz.prog 44 [(iv 18)] [.c .ptr,.c I64] λ(t7:(Option Addr)×Int)=>
 jn (S:=Bool) (λR=>
 br (t7.2 !=0) (
 R true) (
 owe True<|
 br (Option.isNone t7.1) (
 R true) (
 callF Tryz.prog 47 [] [.agg [I64,I64,I64,I64]] λ(t18:Int×Int×Int×Int)=>
 callF Tryz.prog 37 [(.pointer t7.1),(.agg #[(iv t18.1),(iv t18.2.1),(iv t18.2.2.1),(iv t18.2.2.2)])] [.c I64] λ(t19:Int)=>
 R ((t19 !=0))))) λs=>
 br s (
 Q false) (
 callF Tryz.prog 24 [(.pointer t7.1)] [.c .ptr,.c I64] λ(t24:(Option Addr)×Int)=>
 jn (S:=Bool) (λR_1=>
 br (t24.2 !=0) (
 R_1 true) (
 owe True<|
 br (Option.isNone t24.1) (
 R_1 true) (
 callF Tryz.prog 28 [(.pointer t24.1)] [.c I64] λ(t35:Int)=>
 br (t35 !=0) (
 R_1 true) (
 nw (.cells #[(uv 97),(uv 98)] 5) λr=>
 markS (bA r 0)<|
 callF Tryz.prog 31 [(.pointer t24.1),(iv 2),(iv 0),(.slice (some (bA r 0)) 2 2)] [.c I64] λ(t42:Int)=>
 br (t42 !=0) (
 R_1 true) (
 callF Tryz.prog 20 [(.pointer t24.1)] [.c I64] λ(t47:Int)=>
 br (t47 !=0) (
 R_1 true) (
 callF Tryz.prog 19 [(.pointer t24.1)] [.c I64] λ(t52:Int)=>
 br (t52 !=2) (
 R_1 true) (
 callF Tryz.prog 22 [(.pointer t7.1),(.slice none 0 0)] [.c I64] λ(t57:Int)=>
 br (t57 !=0) (
 R_1 true) (
 callF Tryz.prog 23 [(.pointer t7.1)] [.c I64] λ(t62:Int)=>
 R_1 ((t62 !=0)))))))))) λs_1=>
 br s_1 (
 Q false) (
 callF Tryz.prog 24 [(.pointer t7.1)] [.c .ptr,.c I64] λ(t67:(Option Addr)×Int)=>
 jn (S:=Bool) (λR_2=>
 br (t67.2 !=0) (
 R_2 true) (
 owe True<|
 R_2 ((Option.isNone t67.1)))) λs_2=>
 br s_2 (
 Q false) (
 callF Tryz.prog 27 [(.pointer t67.1),(iv 2),(iv 0),(iv 3)] [.c .slice,.c I64] λ(t78:Sl×Int)=>
 br (t78.2==0) (
 nw (.cells #[(uv 97),(uv 98),(uv 0)] 5) λr_1=>
 callF Tryz.prog 26 [(slV t78.1),(.slice (some ⟨r_1,0,none⟩) 3 3)] [.c .bool] λ(t86:Bool)=>
 Q t86) (
 Q false))))
theorem F11_calls(Q:Bool->Pr)(w:World)(h:F11 Q w):Calls Tryz.prog 11 #[] w (RetT [.c .bool] Q):=cF (an:=an11) Tryz.func11 (by kernel_rfl) h
set_option maxRecDepth 20000
def TM.changed(T:TM):List Int:=if T.busy then sortI (T.pg.map (·.1))else[]
theorem changed_len(T:TM):T.changed.length<=T.pg.length:=by
 unfold TM.changed;split
 ·rw[(sortI_perm _).length_eq,List.length_map];exact Nat.le_refl _
 ·simp
theorem nodup_range{l:List Int}{n:Nat}(h:l.Nodup)(hl:∀i∈l,0<=i/\i<n):l.length<=n:=by
 have h1:(l.map Int.toNat).Nodup:=by
  refine List.pairwise_map.2 (h.imp_of_mem λ{a b} ha hb hne e=>hne ?_);have:=hl a ha;have:=hl b hb;omega
 have:=nodup_le h1 (n:=n) λj hj=>by
  obtain⟨i,hi,rfl⟩:=List.mem_map.1 hj;have:=hl i hi;omega
 rwa[List.length_map]at this
theorem TM.ok.pgl{T:TM}(ht:T.ok):T.pg.length<=2048:=by
 have h:=nodup_range ht.nod (n:=T.D.blocks.length) λi hi=>by
  obtain⟨p,hp,rfl⟩:=List.mem_map.1 hi;exact usable_lt ht (ht.pg p hp).1
 rw[List.length_map]at h;have:=ht.D.le;omega
section
variable{x dp N:Nat}{T:TM}{w w0:World}{F0:Nat->Prop}{L:List HA}
theorem changedC{K:Sl->Pr}(h:St F0 w0 w (TxA x dp N T::L))(ht:T.ok)(hK:∀t w',St F0 w0 w' (SlA 1 t (ints T.changed)::TxA x dp N T::L)->K t w'):callF Tryz.prog 55 [P0 x] [.c .slice] K w:=by
 refine callF_of (post:=K) (F55_calls _ _ _ ?_) λ_ _ h=>h;unfold F55;obtain⟨I,hp,s0⟩:=h.tOpen;refine jn_of (λc W=>c= !T.busy/\W=w) ?_ ?_
 ·refine callF_of (V56 s0.box) ?_
  rintro _ _ ⟨rfl,rfl⟩;refine br_f rfl ?_;rw[deref_some'];exact s0.L 0 rfl (p:=T.busy) rfl ⟨rfl,rfl⟩
 rintro _ _ ⟨rfl,rfl⟩;refine br_of (λhb=>?_) λhb=>?_
 ·have hb:T.busy=false:=by simpa using hb
  have h1:=h.nosl 1;refine hK _ _ ?_;unfold TM.changed;rw[hb];exact h1
 have hb:T.busy=true:=by simpa using hb
 rw[deref_some'];refine s0.L 0 rfl (p:=some I.m) rfl ?_;obtain⟨G,H,_,g2,_⟩:=(s0.bring 6).call1;have hk:((I.pl.map Pg.kv).map (·.1))=T.pg.map (·.1):=by rw[pg_keys,hp.pl]
 refine callF_of (V106 g2 (by rw[hk];exact ht.nod)) ?_;rintro v w1 ⟨g1,M,hM,hMW⟩;rw[hk]at hM;have hpl:=ht.pgl;refine callF_of (C65 hM w1 hMW (by rw[List.length_map];omega)) ?_;rintro t w2 ⟨hs,g3⟩;refine hK t w2 ?_;unfold TM.changed;rw[hb,if_pos rfl];exact(h.grow g1).mksl g3 hs
theorem V18{F:Nat->Prop}(hh:Has [TxA x dp N T] w F)(ht:T.ok):Calls Tryz.prog 18 #[P0 x] w (RetT [.c .any] λr w'=>∃b t,r=.func (.func 104) #[] #[.pointer (some ⟨b,0,none⟩)]/\St F w w' [BoxA b [slV t],SlA 1 t (ints T.changed),TxA x dp N T]):=by
 refine F18_calls _ _ _ ?_;unfold F18;refine changedC (St.init hh) ht λt w1 s1=>?_;refine callF_of (V54s t w1) ?_;rintro _ w2 ⟨b,rfl,k2⟩;exact⟨b,t,rfl,s1.call0 k2⟩
end
theorem V17{b:Nat}{t:Sl}{xs:List Int}{most:Int}{w:World}{F:Nat->Prop}(hh:Has [BoxA b [slV t],SlA 1 t (ints xs)] w F)(hx:xs.length<=1000000)(hm:0<=most):
 Calls Tryz.prog 17 #[.func (.func 104) #[] #[P0 b],iv most] w (RetT [.c .slice] λr w'=>St F w w' [SlA 1 r (ints (xs.take most.toNat)),BoxA b [slV t],SlA 1 t (ints xs)]):=by
 refine F17_calls _ _ _ _ ?_;unfold F17;refine⟨trivial,St.nw (St.init hh) λr w1 s1 _ _=>⟨by simp,St.nw s1 λr1 w2 s2 _ _=>⟨.inl ?_,?_⟩⟩⟩
 ·trivial
 have s2:St F w w2 [BoxA r1 [slV ⟨none,0,0⟩],BoxA r [iv most],BoxA b [slV t],SlA 1 t (ints xs)]:=s2;refine br_f rfl ?_;refine jn_of (λs W=>∃D q j,s=([D],())/\j<=xs.length/\ints (xs.take j)=ints (xs.take most.toNat)/\St F w W [BoxA r1 [slV q],SlA 1 q (ints (xs.take j)),BoxA b [slV t],SlA 1 t (ints xs),ObjA D ddO]) ?_ ?_
 rotate_left
 ·rintro _ W ⟨D,q,j,rfl,hj,he,s3⟩
  refine s3.L 0 rfl (p:=q) rfl ?_;refine takesAt (V:=[BoxA r1 [slV q],SlA 1 q (ints (xs.take j)),BoxA b [slV t],SlA 1 t (ints xs)]) (T:=[]) s3 λW2 s4=>?_;rw[<-he];exact s4.sel [1,2,3] 4
 refine rng_st (shs:=[.c (.int .i64)]) (IterI.L (iter_values ⟨b,0,none⟩ t xs (by omega))) (F0:=F) (w0:=w)
  (λe:Nat×Sl=>[BoxA r1 [slV e.2],SlA 1 e.2 (ints (xs.take e.1)),BoxA r [iv most],BoxA b [slV t],SlA 1 t (ints xs)])
  (λj e=>e.1=j/\(j:Int)<=most/\j<=xs.length)
  (λe:Nat×Sl=>[BoxA r1 [slV e.2],SlA 1 e.2 (ints (xs.take e.1)),BoxA r [iv most],BoxA b [slV t],SlA 1 t (ints xs)])
  (λq e=>q=some 0/\(e.1:Int)=most/\e.1<=xs.length) (0,⟨none,0,0⟩) ⟨rfl,by omega,by omega⟩ (by rw[List.take_zero];exact(s2.nosl 1).sel [1,0,2,3,4] 5) ?_ ?_ ?_ ?_
 ·intro j s W T _ hs
  have hs:St F w W (BoxA r1 [slV s.2]::SlA 1 s.2 (ints (xs.take s.1))::BoxA r [iv most]::BoxA b [slV t]::SlA 1 t (ints xs)::T):=hs;exact⟨(hs.bring 3).box.row 0 _ rfl,owns_ints (hs.bring 4).sl⟩
 ·rintro l m Ro _ z ⟨j,q⟩ W bg nx lv hx' ⟨rfl,hjm,hjl⟩ hs hbg hnx hlv
  refine hbg _ _ _ hs λW2 _ s5=>?_;have s5:St F w W2 [BoxA r1 [slV q],SlA 1 q (ints (xs.take _)),BoxA r [iv most],BoxA b [slV t],SlA 1 t (ints xs),ObjA l (Ro .busy),ObjA m ddO]:=s5;dsimp only at hjm hjl hx' s5;have hlt:=(List.getElem?_eq_some_iff.1 hx').1;have hql:=slA_len1 (s5.bring 1).sl;unfold ints at hql;rw[List.length_map,List.length_take]at hql;refine s5.L 0 rfl (p:=q) rfl ?_;refine s5.L 2 rfl (p:=most) rfl ?_;refine br_of (λh=>?_) λh=>?_
  ·have h:=of_decide_eq_true h
   exact hlv (some 0) (_,q) W2 ⟨rfl,by dsimp only;omega,hjl⟩ s5
  ·have h:=of_decide_eq_false h
   refine s5.L 0 rfl (p:=q) rfl ?_;refine St.nw s5 λr2 W3 s6 _ _=>?_;refine(s6.bring 2).app (new:=[.int .i64 z]) (λ_=>rfl) (λh=>by cases h) (readsAt_row.2 s6.box.row) (by simp[NotAgg]) rfl (by decide) (by dsimp only;omega) λu W4 s7 _=>?_;refine s7.S 2 rfl (by simp) (by simp) λW5 s8=>?_;have e:ints (xs.take j)++[.int .i64 z]=ints (xs.take (j+1)):=by rw[List.take_add_one,hx',ints_append];rfl
   rw[e]at s8;exact hnx (j+1,u) W5 ⟨rfl,by omega,hlt⟩ (s8.sel [2,0,3,4,5,6,7] 8)
 ·rintro m ⟨_,q⟩ W ⟨rfl,h1,h2⟩ hs
  refine⟨m,q,_,rfl,h2,?_,St.sel [0,1,3,4,5] 6 hs⟩;rw[List.take_of_length_le (Nat.le_refl _),List.take_of_length_le (by omega)]
 ·rintro m q ⟨j,u⟩ W ⟨rfl,h1,h2⟩ hs
  refine⟨m,u,j,rfl,h2,?_,St.sel [0,1,3,4,5] 6 hs⟩;dsimp only at h1;rw[<-h1,Int.toNat_natCast]
section
variable{F0:Nat->Prop}{w0 w:World}{L:List HA}
theorem elI{s:Sl}{xs:List Int}{j:Nat}{x:Int}{k:Int->Pr}(h:St F0 w0 w (SlA 1 s (ints xs)::L))(hx:xs[j]? =some x)(hk:k x w):el s (j:Int) 1 (λa=>ldC (.int .i64) a k) w:=by
 have hlt:=(split_at hx).2;refine h.elA (by unfold ints;rw[List.length_map];exact hlt) λad ha=>?_;obtain⟨ad',h1,h2⟩:=h.get (i:=j) (c:=.int .i64) (p:=x) (k:=k) (by unfold ints;rw[List.getElem?_map,hx];rfl) hk;rw[ha]at h1;cases h1;rw[Nat.mul_one];exact h2
end
def TM.patV(T:TM):List Rv:=T.changed.flatMap λi=>cutV i (rdD T.D i) (T.page i)
theorem cutV_len(i:Int)(o n:List UInt8):(cutV i o n).length<=6:=pieces_len i o n 6
theorem changed_mem{T:TM}{i:Int}(h:i∈T.changed):T.busy=true/\∃p∈T.pg,p.1=i:=by
 unfold TM.changed at h;split at h
 ·rename_i hb
  obtain⟨p,hp,hpi⟩:=List.mem_map.1 ((sortI_perm _).subset h);exact⟨hb,p,hp,hpi⟩
 ·cases h
section
variable{x dp N:Nat}{T:TM}{w w0:World}{F0:Nat->Prop}{L:List HA}
theorem patC{K:Sl×Int->Pr}(h:St F0 w0 w (TxA x dp N T::DiskA dp T.D::L))(ht:T.ok)(hd:T.dead=false)(ho:T.D.off=false)(hw:T.D.wait.length<=10000000)(hN:N<=100000000)
 (hK:∀t ys w',ys.map rv=T.patV->St F0 w0 w' (SlA 5 t (rcs ys)::bts ys::TxA x dp (N+2048) T::DiskA dp T.D::L)->K (t,0) w'):callF Tryz.prog 61 [P0 x] [.c .slice,.c (.int .i64)] K w:=by
 refine callF_of (post:=K) (F61_calls _ _ _ ?_) λ_ _ h=>h;unfold F61;have hcl:=changed_len T;have hpl:=ht.pgl;refine changedC h ht λt w1 s1=>?_;have hmem:∀i∈T.changed,∃p∈T.pg,p.1=i:=λi hi=>(changed_mem hi).2;obtain⟨ch,hch⟩:∃ch,T.changed=ch:=⟨_,rfl⟩;have hpat:T.patV=ch.flatMap λi=>cutV i (rdD T.D i) (T.page i):=by unfold TM.patV;rw[hch]
 rw[hch]at s1 hcl hmem;have htl:=slA_len1 s1.sl;unfold ints at htl;rw[List.length_map]at htl;refine loop_of (λc W=>∃(j:Nat) (ys:List Rc),c.2=j/\j<=ch.length/\ys.length<=6*j/\ys.map rv=(ch.take j).flatMap (λi=>cutV i (rdD T.D i) (T.page i))/\St F0 w0 W (SlA 1 t (ints ch)::SlA 5 c.1 (rcs ys)::bts ys::TxA x dp (N+j) T::DiskA dp T.D::L)) (λc _=>ch.length-c.2.toNat)
  ⟨0,[],rfl,by omega,by simp,by simp,((s1.nobig).nosl 5).sel [2,0,1,3,4] 5⟩ ?_
 rintro⟨q,z⟩ W ⟨j,ys,rfl,hj,hyl,hys,s2⟩;dsimp only at s2⊢;refine br_of (λhlt=>?_) λhge=>?_
 ·have hlt:j<ch.length:=by simpa[htl]using hlt
  have hx:ch[j]? =some ch[j]:=by simp[hlt]
  refine elI s2 hx ?_;obtain⟨p0,hp0,hpi⟩:=hmem _ (List.getElem_mem hlt);generalize ch[j]=i at hx hpi;have hu:usableS T.P i:=by rw[<-hpi];exact(ht.pg p0 hp0).1
  have hr:=usable_lt ht hu;obtain⟨I,hp,s3⟩:=(s2.sel [3,0,1,2,4] 5).tOpen;have cc:=hp.cc hd;rw[deref_some'];refine s3.L 0 rfl (p:=some ⟨I.b,0,none⟩) rfl ?_;rw[deref_some'];refine s3.L 1 rfl (p:=some ⟨I.c,0,none⟩) rfl ?_;have s4:=s3.sel [5,11,0,1,2,3,4,6,7,8,9,10] 12;refine cacheRd s4 cc ht.D hw (by omega) ho hr hu λu C' W2 hc s5=>?_;refine br_f rfl ?_;rw[deref_some'];refine s5.L 3 rfl (p:=some I.m) rfl ?_;refine St.mapAt (T:=intKT) (s5.bring 8) (k:=i) (λv hv=>?_) λhv=>?_
  rotate_left
  ·rcases lkp_pg i I.pl with⟨_,h1⟩|⟨_,p,_,_,h3,_⟩
   ·rw[hp.pl,List.find?_eq_none]at h1
    exact absurd (by simpa using hpi) (h1 p0 hp0)
   ·rw[h3]at hv;cases hv
  rcases lkp_pg i I.pl with⟨h1,_⟩|⟨jj,p,h1,h2,h3,h4⟩
  ·rw[h1]at hv;cases hv
  rw[h3,Option.some.injEq]at hv;refine⟨p.s,hv.symm,?_⟩;have hb:=pgAt (s5.bring 9) h1;have hpg:T.page i=p.b:=by unfold TM.page;rw[<-hp.pl,h4];rfl
  have hol:(rdD T.D i).length=256:=rdD_len ht.D hr.1 hr.2;have hnl:p.b.length=256:=by rw[<-hpg];exact TM.page_len ht hu
  refine callF_of (C19 i u p.s (rdD T.D i) p.b W2 s5.sl.bs hb.1 hb.2) ?_;have hce:cutE i (rdD T.D i) p.b=0:=by
   unfold cutE;rw[if_pos ⟨hr.1,by have:=ht.D.le;omega,hol,hnl⟩]
  rw[hce];rintro⟨v2,e⟩ W3 ⟨he,⟨zs,hos,hz⟩,g3⟩;dsimp only at he hos;subst he;rw[if_pos rfl]at hz;have hzl:zs.length<=6:=by
   have:=congrArg List.length hz;rw[List.length_map]at this;have:=cutV_len i (rdD T.D i) p.b;omega
  have s6:=s5.call0 (hos.st g3);refine br_f rfl ?_;have s7:St F0 w0 W3 (SlA 5 v2 (rcs zs)::bts zs::SlA 5 q (rcs ys)::bts ys::BoxA x (storeC I.b dp T.S T.P T.busy T.dead I.m)::BoxA I.b [P0 I.g,P0 I.c]::BoxA I.g (ringC dp 3 T.n T.h I.s)::SlA 5 I.s (rcs I.xs)::bts I.xs::CacheA I.c dp C'::MapA intKT I.m (I.pl.map Pg.kv)::bigA (I.pl.map Pg.A)::SlA 1 t (ints ch)::DiskA dp T.D::L):=
   s6.sel [0,1,13,14,5,6,7,8,9,3,10,11,12,4] 15
  have tl:=s7.sl.len;have tr:=s7.sl.reads;have tn:v2.a=none->v2.len=0:=λha=>by
   have:=s7.ss.none_len Rw.cells_len (by decide) ha;exact this
  rw[rcs_len]at tl;have ql:=(s7.sel [2,0,1] 3).sl.len;rw[rcs_len]at ql;dsimp only;refine St.app (s7.sel [2,0,1,3] 4) (new:=rcs zs) (λ_=>by rw[rcs_len];exact tl) tn tr (rcs_na zs) rfl (by decide) (by omega) λr2 W4 s8 _=>?_;rw[<-rcs_append]at s8;have s9:=two_big (s8.sel [3,2,0] 4);rw[<-List.map_append]at s9;have s9:St F0 w0 W4 (bts (ys++zs)::SlA 5 r2 (rcs (ys++zs))::BoxA x (storeC I.b dp T.S T.P T.busy T.dead I.m)::BoxA I.b [P0 I.g,P0 I.c]::BoxA I.g (ringC dp 3 T.n T.h I.s)::SlA 5 I.s (rcs I.xs)::bts I.xs::CacheA I.c dp C'::MapA intKT I.m (I.pl.map Pg.kv)::bigA (I.pl.map Pg.A)::SlA 1 t (ints ch)::DiskA dp T.D::L):=s9;have s10:=s9.sel [2,3,4,5,6,7,8,9,10,1,0,11] 12;have s11:=St.tClose (N:=N+j+1) (T:=T) (i:={I with C:=C'}) s10 ⟨hp.xs,hp.pl,λ_=>hc⟩;rw[w64_succ (by omega)];refine⟨⟨j+1,ys++zs,rfl,hlt,by rw[List.length_append];omega,?_,s11.sel [1,2,3,0,4] 5⟩,by show ch.length-(((j+1:Nat):Int)).toNat<ch.length-((j:Int)).toNat;omega⟩;rw[List.take_add_one,hx,List.flatMap_append,List.map_append,hys,hz];simp[hpg]
 ·have hge:j=ch.length:=by simp[htl]at hge;omega
  subst hge;rw[List.take_length]at hys;exact hK q ys W (by rw[hpat];exact hys) ((s2.drop.sel [2,0,1,3] 4).tMono (M:=N+2048) (by omega)|>.sel [1,2,0,3] 4)
end
theorem u8_of{n:Int}(h:0<=n/\n<=255):((UInt8.ofNat n.toNat).toNat:Int)=n:=by
 rw[UInt8.toNat_ofNat'];omega
theorem num_back{n:Nat}{v:Int}(h:0<=v)(hl:v.toNat<2^(8*n)):((leN (numB n v.toNat):Nat):Int)=v:=by
 rw[leN_numB,Nat.mod_eq_of_lt hl];omega
theorem w64_num{v:Int}(h:0<=v/\v<=2305843009213693952):w64 ((leN (numB 8 v.toNat):Nat):Int)=v:=by
 rw[num_back h.1 (by have:v.toNat<=2305843009213693952:=by omega
                     exact Nat.lt_of_le_of_lt this (by decide))]
 exact w64_of ⟨by omega,by omega⟩
theorem rec_ok{n:Int}{x:Rv}:recEx n x=0↔mayL n/\okV x=true:=by
 unfold recEx recE okV;by_cases h1:mayL n
 ·rw[if_neg (not_not_intro h1)]
  by_cases h2:checkB x.1 x.2.1 x.2.2.1 x.2.2.2.1 x.2.2.2.2.length=true
  ·simp[h1,h2]
  ·simp[h2]
 ·rw[if_pos h1];simp[h1]
theorem rec_back{n:Int}{x:Rv}(hn:mayL n)(hx:okV x=true):takeR (secX n x) n=(x,0):=by
 have hr:recEx n x=0:=rec_ok.2 ⟨hn,hx⟩;have hc:checkB x.1 x.2.1 x.2.2.1 x.2.2.2.1 x.2.2.2.2.length=true:=hx;obtain⟨k,b,o,m,d⟩:=x;dsimp only at hc;obtain⟨c1,c2,c3,c4,c5⟩:=checkB_num hc;have hlen:(secX n (k,b,o,m,d)).length=64:=secX_len hr;obtain⟨B,hB⟩:∃B,secX n (k,b,o,m,d)=B:=⟨_,rfl⟩;obtain⟨S,hS⟩:∃S,numB 4 (sumM (secB n k b o m d))=S:=⟨_,rfl⟩;have hBe:B=[UInt8.ofNat k.toNat,UInt8.ofNat d.length]++(numB 8 n.toNat++(numB 4 (imax b m).toNat++([UInt8.ofNat o.toNat,0]++(d++(List.replicate (44-d.length) 0++S))))):=by
  rw[<-hB];show secB n k b o m d++numB 4 (sumM (secB n k b o m d))=_;rw[hS];unfold secB;simp only[List.append_assoc]
 have e2:B.drop 2=numB 8 n.toNat++(numB 4 (imax b m).toNat++([UInt8.ofNat o.toNat,0]++(d++(List.replicate (44-d.length) 0++S)))):=by rw[hBe];rfl
 have e10:B.drop 10=numB 4 (imax b m).toNat++([UInt8.ofNat o.toNat,0]++(d++(List.replicate (44-d.length) 0++S))):=by
  rw[show B.drop 10=(B.drop 2).drop 8 by rw[List.drop_drop],e2,List.drop_left' (by simp)]
 have e14:B.drop 14=[UInt8.ofNat o.toNat,0]++(d++(List.replicate (44-d.length) 0++S)):=by
  rw[show B.drop 14=(B.drop 10).drop 4 by rw[List.drop_drop],e10,List.drop_left' (by simp)]
 have e16:B.drop 16=d++(List.replicate (44-d.length) 0++S):=by
  rw[show B.drop 16=(B.drop 14).drop 2 by rw[List.drop_drop],e14];rfl
 have b0:byteN B 0=k:=by
  unfold byteN;rw[hBe];exact u8_of ⟨by omega,by omega⟩
 have b1:byteN B 1=d.length:=by
  unfold byteN;rw[hBe];exact u8_of (n:=(d.length:Int)) ⟨by omega,by omega⟩
 have b14:byteN B 14=o:=by
  unfold byteN;have:B[14]? =some (UInt8.ofNat o.toNat):=by
   have h:=congrArg (·[0]?) e14;simpa[List.getElem?_drop]using h
  rw[this];exact u8_of ⟨by omega,by omega⟩
 have hL:recLsn B=n:=by
  unfold recLsn;rw[e2,List.take_left' (by simp)];exact w64_num hn
 have hN:recNum B=imax b m:=by
  unfold recNum;rw[e10,List.take_left' (by simp)];have:0<=imax b m/\imax b m<=65536:=by unfold imax;split<;>omega
  exact num_back this.1 (by have h2:(imax b m).toNat<=65536:=by omega
                            exact Nat.lt_of_le_of_lt h2 (by decide))
 have hF:recF B=(k,b,o,m,d):=by
  unfold recF;rw[b0,b1,b14,hN,e16,Int.toNat_natCast,List.take_left' rfl];unfold checkB patchB at hc;simp only[Bool.or_eq_true,Bool.and_eq_true,beq_iff_eq,decide_eq_true_eq]at hc;rcases hc with⟨rfl,h2⟩|⟨rfl,h2⟩
  ·rw[if_pos rfl]
   have:imax b m=b:=by unfold imax;split<;>omega
   rw[this,h2.1]
  ·rw[if_neg (by decide)]
   obtain⟨h3,h4,h5,h6,h7⟩:=h2;have:imax b m=m:=by unfold imax;split<;>omega
   have hd:d=[]:=List.eq_nil_of_length_eq_zero (by omega);rw[this,h5,h6,hd]
 have hP:parseR B=((k,b,o,m,d),n,0):=by
  unfold parseR;rw[if_pos ⟨by rw[<-hB];exact hlen,by rw[b1];omega,by rw[hL,hF];exact hr,by rw[hL,hF];exact hB⟩,hF,hL]
 rw[hB];unfold takeR;rw[if_neg (not_not_intro hn),hP,if_neg (by simp)]
theorem take_ok{B:List UInt8}{n:Int}(h:(takeR B n).2=0):mayL n/\okV (takeR B n).1=true/\B=secX n (takeR B n).1/\parseR B=((takeR B n).1,n,0):=by
 unfold takeR at h⊢;by_cases h1:¬mayL n
 ·rw[if_pos h1]at h;cases h
 ·rw[if_neg h1]at h⊢
  by_cases h2:(parseR B).2.2=0/\(parseR B).2.1≠n
  ·rw[if_pos h2]at h;cases h
  ·rw[if_neg h2]at h⊢
   dsimp only at h⊢;have h3:(parseR B).2.1=n:=Classical.byContradiction λh'=>h2 ⟨h,h'⟩;unfold parseR at h h3⊢;by_cases h4:B.length=64/\byteN B 1<=44/\recEx (recLsn B) (recF B)=0/\secX (recLsn B) (recF B)=B
   ·rw[if_pos h4]at h3⊢
    dsimp only at h3⊢;refine⟨Classical.not_not.1 h1,(rec_ok.1 h4.2.2.1).2,by rw[<-h3];exact h4.2.2.2.symm,by rw[h3]⟩
   ·rw[if_neg h4]at h;cases h
theorem take_one{B:List UInt8}{n m:Int}(h:(takeR B n).2=0)(h':(takeR B m).2=0):n=m:=by
 have h1:=(take_ok h).2.2.2;rw[(take_ok h').2.2.2]at h1;exact(congrArg (·.2.1) h1).symm
theorem super_back{s:Sup}(h:supE s=0):parseS (bytesS s)=(s,0):=by
 obtain⟨a1,a2,a3,a4,a5,a6⟩:=supE_num h;obtain⟨E,b,l,d,x,H⟩:=s;dsimp only at a1 a2 a3 a4 a5 a6;have hf:fieldS ((bytesS (E,b,l,d,x,H)).drop 8)=(E,b,l,d,x,H):=by
  obtain⟨S,hS⟩:∃S,numB 4 (sumM (superL (E,b,l,d,x,H)++List.replicate 20 0))=S:=⟨_,rfl⟩;obtain⟨R,hR⟩:∃R,List.replicate 20 0++(S++List.replicate 192 (0:UInt8))=R:=⟨_,rfl⟩;have e0:(bytesS (E,b,l,d,x,H)).drop 8=numB 8 E.toNat++(numB 4 b.toNat++(numB 4 l.toNat++(numB 4 d.toNat++(numB 4 x.toNat++(numB 8 H.toNat++R))))):=by
   unfold bytesS sealM;rw[hS];unfold superL;simp only[List.append_assoc,hR];exact List.drop_left' rfl
  rw[e0];have n4:∀{v:Int},0<=v/\v<=2048->((leN (numB 4 v.toNat):Nat):Int)=v:=λ{v} hv=>num_back hv.1 (by
   have h2:v.toNat<=2048:=by omega
   exact Nat.lt_of_le_of_lt h2 (by decide))
  have f0:∀(A:List UInt8) (i:Nat) (v:Int) (Z:List UInt8),A.length=8+4*i->0<=v/\v<=2048->fldS (A++(numB 4 v.toNat++Z)) i=v:=λA i v Z hA hv=>by
   unfold fldS;rw[List.drop_left' hA,List.take_left' (by simp),n4 hv]
  unfold fieldS;have g1:=f0 (numB 8 E.toNat) 0 b (numB 4 l.toNat++(numB 4 d.toNat++(numB 4 x.toNat++(numB 8 H.toNat++R)))) (by simp) a2;have g2:=f0 (numB 8 E.toNat++numB 4 b.toNat) 1 l (numB 4 d.toNat++(numB 4 x.toNat++(numB 8 H.toNat++R))) (by simp) a3;have g3:=f0 (numB 8 E.toNat++numB 4 b.toNat++numB 4 l.toNat) 2 d (numB 4 x.toNat++(numB 8 H.toNat++R)) (by simp) a4;have g4:=f0 (numB 8 E.toNat++numB 4 b.toNat++numB 4 l.toNat++numB 4 d.toNat) 3 x (numB 8 H.toNat++R) (by simp) a5;simp only[List.append_assoc]at g2 g3 g4;rw[g1,g2,g3,g4,List.take_left' (by simp),w64_num ⟨by omega,by omega⟩];have e24:(numB 8 E.toNat++(numB 4 b.toNat++(numB 4 l.toNat++(numB 4 d.toNat++(numB 4 x.toNat++(numB 8 H.toNat++R)))))).drop 24=numB 8 H.toNat++R:=by
   simp only[<-List.append_assoc];rw[List.append_assoc];exact List.drop_left' (by simp)
  rw[e24,List.take_left' (by simp),w64_num ⟨by omega,by omega⟩]
 unfold parseS;rw[hf,if_pos ⟨bytesS_len _,h,rfl⟩]
theorem super_sec(s:Sup){k:Nat}(hk:1<=k/\k<4):sec (bytesS s) k=ZZ 64:=by
 have h64:(sealM (superL s++List.replicate 20 0)).length=64:=by simp[sealM,superL_len]
 unfold sec bytesS ZZ;rw[List.drop_append,h64,List.drop_eq_nil_of_le (by omega),List.nil_append,List.drop_replicate,List.take_replicate]
 congr 1;omega
theorem super_whole{A:List UInt8}(hA:A.length=256){s:Sup}(h0:sec A 0=sec (bytesS s) 0)(hz:∀k,1<=k->k<4->sec A k=ZZ 64):A=bytesS s:=
 sec_ext hA (bytesS_len s) λk hk=>by
  rcases Nat.eq_zero_or_pos k with rfl|h
  ·exact h0
  ·rw[hz k h hk,super_sec s ⟨h,hk⟩]
def At(n b:Int)(k:Nat)(q:Int):Prop:=4*(b-3)+(k:Int)=q%(4*n)
theorem at_place(n q:Int):At n (placeB 3 n q) (q%(4*n)%4).toNat q/\placeO n q=64*((q%(4*n)%4).toNat:Int):=by
 unfold At placeB placeO;omega
theorem at_iff{n b:Int}{k:Nat}(hk:k<4){q:Int}:At n b k q↔b=placeB 3 n q/\placeO n q=64*(k:Int):=by
 unfold At placeB placeO;omega
theorem at_one{n b:Int}{k:Nat}{q q':Int}(h:At n b k q)(h':At n b k q')(hd:q-q'<4*n)(hd':q'-q<4*n):q=q':=by
 unfold At at h h';have h1:q%(4*n)=q'%(4*n):=by omega
 have h2:=Int.emod_emod_of_dvd (q-q') (Int.dvd_refl (4*n));have h3:(q-q')%(4*n)=0:=Int.emod_eq_emod_iff_emod_sub_eq_zero.1 h1;obtain⟨c,hc⟩:=Int.dvd_of_emod_eq_zero h3;have:c=0:=by
  rcases Int.lt_trichotomy c 0 with h|h|h
  ·exfalso
   have:4*n*c<=4*n*(-1):=Int.mul_le_mul_of_nonneg_left (by omega) (by omega);omega
  ·exact h
  ·exfalso
   have:4*n*1<=4*n*c:=Int.mul_le_mul_of_nonneg_left (by omega) (by omega);omega
 rw[this,Int.mul_zero]at hc;omega
theorem at_blk{n b:Int}{k:Nat}(hk:k<4){q:Int}(hn:1<=n)(h:At n b k q):3<=b/\b<3+n:=by
 unfold At at h;have h2:=Int.emod_nonneg q (b:=4*n) (by omega);have h3:=Int.emod_lt_of_pos q (b:=4*n) (by omega);omega
theorem mod_add{M q i:Int}(hi:0<=i)(h:q%M+i<M)(hM:0<M):(q+i)%M=q%M+i:=by
 have h2:=Int.emod_nonneg q (b:=M) (by omega);rw[Int.add_emod,Int.emod_eq_of_lt (a:=i) hi (by omega),Int.emod_eq_of_lt (by omega) h]
theorem slot_sec{D:DM}{n b:Int}{k:Nat}(hk:k<4){q:Int}(h:At n b k q):slotR D 3 n q=sec (rdD D b) k:=by
 obtain⟨rfl,h2⟩:=(at_iff hk).1 h;unfold slotR sec;rw[h2,List.drop_take]
 congr 1
 omega
theorem layR_ok(n:Int):∀(xs:List Rv) (q:Int) (l:List UInt8),l.length=256->(∀i x,xs[i]? =some x->recEx (q+(i:Nat)) x=0)->
 (layR n q l xs).1=0/\(layR n q l xs).2.length=256/\∀k,k<4->(sec (layR n q l xs).2 k=sec l k/\∀i:Nat,i<xs.length->placeO n (q+i)≠64*(k:Int))\/∃(i:Nat) (x:Rv),xs[i]? =some x/\placeO n (q+i)=64*(k:Int)/\sec (layR n q l xs).2 k=secX (q+i) x
 |[],q,l,hl,_=>⟨rfl,hl,λk _=>.inl ⟨rfl,λi hi=>by simp at hi⟩⟩
 |x::xs,q,l,hl,hr=>by
  have h0:=hr 0 x rfl;rw[show q+((0:Nat):Int)=q by omega]at h0;have hs:=secX_len h0;have hpo:=placeO_le n q;have hl1:(lay l (placeO n q).toNat (secX q x)).length=256:=by rw[lay_len (by rw[hs];omega)];exact hl
  obtain⟨g1,g2,g3⟩:=layR_ok n xs (q+1) _ hl1 λi y hy=>by
   have:=hr (i+1) y (by simpa using hy);rwa[show q+((i+1:Nat):Int)=q+1+i by push_cast;omega]at this
  rw[layR,if_neg (not_not_intro h0)];refine⟨g1,g2,λk hk=>?_⟩;rcases g3 k hk with⟨e1,e2⟩|⟨i,y,e1,e2,e3⟩
  ·by_cases hq:placeO n q=64*(k:Int)
   ·refine .inr ⟨0,x,rfl,by simpa using hq,?_⟩
    rw[e1,show q+((0:Nat):Int)=q by omega,show(placeO n q).toNat=64*k by omega];refine List.ext_getElem? λo=>?_;by_cases ho:o<64
    ·rw[sec_get _ _ _ ho,lay_get (by rw[hs];omega),if_pos ⟨by omega,by rw[hs];omega⟩]
     congr 1;omega
    ·rw[List.getElem?_eq_none (by rw[sec_len (by rw[lay_len (by rw[hs];omega)];exact hl) hk];omega),List.getElem?_eq_none (by rw[hs];omega)]
   ·refine .inl ⟨?_,λi hi=>?_⟩
    ·rw[e1]
     refine List.ext_getElem? λo=>?_;by_cases ho:o<64
     ·rw[sec_get _ _ _ ho,sec_get _ _ _ ho,lay_get (by rw[hs];omega),if_neg (by rw[hs];omega)]
     ·rw[List.getElem?_eq_none (by rw[sec_len hl1 hk];omega),List.getElem?_eq_none (by rw[sec_len hl hk];omega)]
    ·cases i with
     |zero=>simpa using hq
     |succ i=>
      have:=e2 i (by simpa using hi);rwa[show q+((i+1:Nat):Int)=q+1+i by push_cast;omega]
  ·exact .inr ⟨i+1,y,by simpa using e1,by rw[show q+((i+1:Nat):Int)=q+1+i by push_cast;omega];exact e2,by rw[show q+((i+1:Nat):Int)=q+1+i by push_cast;omega];exact e3⟩
structure Ap(n:Int)(D D':DM)(q:Int)(ys:List Rv)(e:Int):Prop where
 sv:∀b k v,0<=b->k<4->Sv D' b k v->Sv D b k v\/∃(i:Nat) (x:Rv),ys[i]? =some x/\At n b k (q+i)/\v=secX (q+i) x
 res:(e=0/\D'.off=false/\∀b k,0<=b->k<4->(sec (rdD D' b) k=sec (rdD D b) k/\∀i:Nat,i<ys.length->¬At n b k (q+i))\/∃(i:Nat) (x:Rv),ys[i]? =some x/\At n b k (q+i)/\sec (rdD D' b) k=secX (q+i) x)\/(e=5/\D'.off=true/\D'.wait=[])
theorem layD_ap{D:DM}{n q:Int}{ys:List Rv}(hD:D.ok)(ho:D.off=false)(hn:1<=n/\n+3<=D.blocks.length)(hr:∀i x,ys[i]? =some x->recEx (q+(i:Nat)) x=0)(hl:q%(4*n)%4+ys.length<=4):
 Ap n D (layD D n (placeB 3 n q) q ys).2 q ys (layD D n (placeB 3 n q) q ys).1:=by
 have hb:=placeB_le (st:=3) (q:=q) hn.1;have hp:placeE D (placeB 3 n q)=0:=by unfold placeE;rw[ho,if_neg (by simp),if_neg (by omega)]
 have hrl:(rdD D (placeB 3 n q)).length=256:=rdD_len hD (by omega) (by omega);obtain⟨g1,g2,g3⟩:=layR_ok n ys q _ hrl hr;have hB:∀i:Nat,i<ys.length->placeB 3 n (q+i)=placeB 3 n q:=λi hi=>by
  have h2:=Int.emod_nonneg q (b:=4*n) (by omega);have h3:=Int.emod_lt_of_pos q (b:=4*n) (by omega);unfold placeB;rw[mod_add (by omega) (by omega) (by omega)];omega
 have hat:∀{b:Int} {k:Nat} (i:Nat),k<4->i<ys.length->(At n b k (q+i)↔b=placeB 3 n q/\placeO n (q+i)=64*(k:Int)):=λi hk hi=>by rw[at_iff hk,hB i hi]
 have hi:0<=placeB 3 n q/\placeB 3 n q<D.blocks.length:=by omega
 have hw:layD D n (placeB 3 n q) q ys=writeD D (placeB 3 n q) (layR n q (rdD D (placeB 3 n q)) ys).2:=by
  unfold layD;rw[if_neg (not_not_intro hp),if_neg (not_not_intro g1)]
 rw[hw];refine⟨λb k v h0 hk hs=>?_,?_⟩
 ·rcases write_sv hD h0 hk hs with h|⟨rfl,rfl⟩
  ·exact .inl h
  ·rcases g3 k hk with⟨e1,_⟩|⟨i,x,e1,e2,e3⟩
   ·rw[e1];exact .inl (rd_sv hi k)
   ·exact .inr ⟨i,x,e1,(hat i hk (split_at e1).2).2 ⟨rfl,e2⟩,e3⟩
 ·rcases write_cases hD ho hi g2 with⟨h1,h2,h3⟩|h
  ·refine .inl ⟨h1,h2,λb k h0 hk=>?_⟩
   rw[h3];by_cases hbe:placeB 3 n q=b
   ·rw[if_pos hbe]
    rcases g3 k hk with⟨e1,e2⟩|⟨i,x,e1,e2,e3⟩
    ·exact .inl ⟨by rw[e1,hbe],λi hi h=>e2 i hi ((hat i hk hi).1 h).2⟩
    ·exact .inr ⟨i,x,e1,(hat i hk (split_at e1).2).2 ⟨hbe.symm,e2⟩,e3⟩
   ·rw[if_neg hbe]
    exact .inl ⟨rfl,λi hi h=>hbe ((hat i hk hi).1 h).1.symm⟩
  ·exact .inr h
theorem appD_ap{n:Int}{N0:Nat}(hn:1<=n/\n+3<=(N0:Int)):∀(f:Nat) (D:DM) (q:Int) (ys:List Rv) (N:Nat),DB N D->D.blocks.length=N0->D.off=false->ys.length<=f->(∀i x,ys[i]? =some x->recEx (q+(i:Nat)) x=0)->
 Ap n D (appD n 3 f D q ys).2 q ys (appD n 3 f D q ys).1/\DG D (appD n 3 f D q ys).2 N (2*f)
 |0,D,q,ys,N,hD,_,ho,hl,_=>by
  have:ys=[]:=List.eq_nil_of_length_eq_zero (by omega);subst this;exact⟨⟨λb k v _ _ h=>.inl h,.inl ⟨rfl,ho,λb k _ _=>.inl ⟨rfl,λi hi=>by simp at hi⟩⟩⟩,.refl hD _⟩
 |f+1,D,q,ys,N,hD,hN,ho,hl,hr=>by
  by_cases hy:ys=[]
  ·subst hy
   rw[appD,if_pos rfl];exact⟨⟨λb k v _ _ h=>.inl h,.inl ⟨rfl,ho,λb k _ _=>.inl ⟨rfl,λi hi=>by simp at hi⟩⟩⟩,.refl hD _⟩
  ·obtain⟨m,hm⟩:∃m:Nat,imin ys.length (4-placeO n q/64)=(m:Int):=⟨(imin ys.length (4-placeO n q/64)).toNat,by
    have:=placeO_le n q;unfold imin;split<;>omega⟩
   have hyl:0<ys.length:=List.length_pos_iff.2 hy;have hpo:=placeO_le n q;have hpe:placeO n q/64=q%(4*n)%4:=by unfold placeO;omega
   have hm1:1<=m/\m<=ys.length/\q%(4*n)%4+m<=4:=by
    unfold imin at hm;split at hm<;>omega
   rw[appD_succ hy hm];have htl:(ys.take m).length=m:=by rw[List.length_take];omega
   have h1:=layD_ap (D:=D) (n:=n) (q:=q) (ys:=ys.take m) hD.ok ho ⟨hn.1,by rw[hN];exact hn.2⟩ (λi x hx=>hr i x (by
    rw[List.getElem?_take]at hx;split at hx
    ·exact hx
    ·cases hx)) (by rw[htl];omega)
   have hg:DG D (layD D n (placeB 3 n q) q (ys.take m)).2 N 2:=by
    refine⟨layD_db hD,?_⟩;unfold layD;split
    ·rfl
    ·split
     ·rfl
     ·exact(writeD_dg hD _ _).len
   generalize layD D n (placeB 3 n q) q (ys.take m)=E at h1 hg⊢;have up:∀{b:Int} {k:Nat} {v:List UInt8},(∃(i:Nat) (x:Rv),(ys.take m)[i]? =some x/\At n b k (q+i)/\v=secX (q+i) x)->∃(i:Nat) (x:Rv),ys[i]? =some x/\At n b k (q+i)/\v=secX (q+i) x:=by
    rintro b k v ⟨i,x,e1,e2⟩;refine⟨i,x,?_,e2⟩;rw[List.getElem?_take]at e1;split at e1
    ·exact e1
    ·cases e1
   rcases h1.res with⟨e0,e1,e2⟩|⟨e0,e1⟩
   ·rw[if_neg (not_not_intro e0)]
    obtain⟨k1,k2⟩:=appD_ap hn f E.2 (q+m) (ys.drop m) (N+2) hg.db (hg.len.trans hN) e1 (by rw[List.length_drop];omega) λi x hx=>by
     have:=hr (m+i) x (by rw[List.getElem?_drop]at hx;exact hx);rwa[show q+((m+i:Nat):Int)=q+m+i by push_cast;omega]at this
    generalize appD n 3 f E.2 (q+m) (ys.drop m)=G at k1 k2⊢;have up2:∀{b:Int} {k:Nat} {v:List UInt8},(∃(i:Nat) (x:Rv),(ys.drop m)[i]? =some x/\At n b k (q+m+i)/\v=secX (q+m+i) x)->∃(i:Nat) (x:Rv),ys[i]? =some x/\At n b k (q+i)/\v=secX (q+i) x:=by
     rintro b k v ⟨i,x,e1,e2⟩;refine⟨m+i,x,?_,?_⟩
     ·rw[List.getElem?_drop]at e1;exact e1
     ·rw[show q+((m+i:Nat):Int)=q+m+i by push_cast;omega];exact e2
    refine⟨⟨λb k v h0 hk hs=>?_,?_⟩,(hg.trans k2).mono (by omega)⟩
    ·rcases k1.sv b k v h0 hk hs with h|h
     ·rcases h1.sv b k v h0 hk h with h|h
      ·exact .inl h
      ·exact .inr (up h)
     ·exact .inr (up2 h)
    ·rcases k1.res with⟨f0,f1,f2⟩|h
     ·refine .inl ⟨f0,f1,λb k h0 hk=>?_⟩
      rcases f2 b k h0 hk with⟨g1,g2⟩|h
      ·rw[g1]
       rcases e2 b k h0 hk with⟨g3,g4⟩|h
       ·refine .inl ⟨g3,λi hi hat=>?_⟩
        rcases Nat.lt_or_ge i m with h|h
        ·exact g4 i (by omega) hat
        ·refine g2 (i-m) (by rw[List.length_drop];omega) ?_
         rwa[show q+(m:Int)+((i-m:Nat):Int)=q+i by omega]
       ·exact .inr (up h)
      ·exact .inr (up2 h)
     ·exact .inr h
   ·rw[if_pos (by rw[e0];decide)]
    exact⟨⟨λb k v h0 hk hs=>(h1.sv b k v h0 hk hs).imp id up,.inr ⟨e0,e1⟩⟩,hg.mono (by omega)⟩
theorem scan_is{D:DM}{n:Int}(hn:1<=n):∀(R:List Rv) (f:Nat) (q:Int),R.length<=f->(∀i x,R[i]? =some x->(∀b k,k<4->At n b k (q+(i:Nat))->sec (rdD D b) k=secX (q+(i:Nat)) x)/\recEx (q+(i:Nat)) x=0)->
 (R.length=f\/∀b k,k<4->At n b k (q+R.length)->(takeR (sec (rdD D b) k) (q+R.length)).2≠0)->scanR D 3 n f q=R
 |[],0,q,_,_,_=>rfl
 |[],f+1,q,_,_,h=>by
  have h1:=h.resolve_left (by simp);have h2:=(at_place n q).1;have hk:(q%(4*n)%4).toNat<4:=by omega
  rw[scanR,slot_sec hk h2,if_pos];have:=h1 _ _ hk (by simpa using h2);simpa using this
 |x::R,0,q,hl,_,_=>by simp at hl
 |x::R,f+1,q,hl,hr,h=>by
  obtain⟨h0,h0'⟩:=hr 0 x rfl;rw[show q+((0:Nat):Int)=q by omega]at h0 h0';have h2:=(at_place n q).1;have hk:(q%(4*n)%4).toNat<4:=by omega
  obtain⟨hm,hok⟩:=rec_ok.1 h0';rw[scanR,slot_sec hk h2,h0 _ _ hk h2,rec_back hm hok,if_neg (by simp)]
  congr 1
  refine scan_is hn R f (q+1) (by simpa using hl) (λi y hy=>?_) ?_
  ·have:=hr (i+1) y (by simpa using hy)
   rwa[show q+((i+1:Nat):Int)=q+1+i by push_cast;omega]at this
  ·rw[List.length_cons]at h
   rw[show q+((R.length+1:Nat):Int)=q+1+R.length by push_cast;omega]at h;exact h.imp (by omega) id
end Go.Proofs
