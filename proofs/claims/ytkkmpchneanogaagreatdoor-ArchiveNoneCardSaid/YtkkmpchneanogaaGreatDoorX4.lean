import Derived.Test.YtkkmpchneanogaaGreatDoorX1
import Derived.Test.YtkkmpchneanogaaGreatDoorX2
import Derived.Test.YtkkmpchneanogaaGreatDoorX3
import Derived.LaidEql
import Derived.Laws.Externs
import Derived.Stop.Asserts
import Derived.RowKitTokens
import Derived.OpenShut
import Derived.ChangeAt
import Derived.ChangeSlices
import Derived.Deep.Slices
import Derived.Test.YtkkmpchneanogaaGreatDoorRows
import Derived.ChangeVars
import Derived.LaidLaws
import Derived.LaidHandle
import Derived.Below
set_option linter.unusedVariables false
set_option linter.unusedSimpArgs false
set_option linter.unusedSectionVars false
set_option maxRecDepth 20000
namespace Go.Proofs
open Go.Eng
abbrev dA(x:Sl×LB):HA:=aq 1 x.1 (x.2.map ub)
theorem DD.own{w:World}{F H:Nat->Prop}{t:Sl}{dd:List (Sl×LB)}{L:List HA}(h:Has (aq 1 t (dd.map λx=>slV x.1)::aN (dd.map dA)::L) w H)(hd:∀b,F b->¬H b)(hl:∀x∈dd,x.2.length<=8192):DD w F t dd:=by
 obtain⟨G1,M8,RB⟩:=Has.mem h (List.mem_cons_self ..);obtain⟨G2,Rx,B2⟩:=Has.mem h (List.mem_cons_of_mem _ (List.mem_cons_self ..));refine⟨bz.ms M8.1,λ_ b hb hF=>hd b hF (RB b ((M8.2 b).2 hb)),λx hx=>?_,hl⟩;have hm:dA x∈dd.map dA:=kg.2 ⟨x,hx,rfl⟩;obtain⟨G3,M9,X0⟩:=Has.mem (show Has (dd.map dA) w G2 from Rx) hm;exact⟨M9.1.bs,λb _ hb hF=>hd b hF (B2 b (X0 b ((M9.2 b).2 hb)))⟩
theorem vJ{l:LB}{p e:Nat}(h:fo l p=.error e):dg l p=.error e:=by unfold dg;rw[h]
theorem vK{l:LB}{p e p1:Nat}{ds:List (LB)}(h:fo l p=.ok (ds,p1))(h2:eF l ds p1=.error e):dg l p=.error e:=by unfold dg;rw[h];dsimp only;rw[h2]
theorem p8{l:LB}{p e p1 p2:Nat}{ds:List (LB)}{ns:List GN}(h:fo l p=.ok (ds,p1))(h2:eF l ds p1=.ok (ns,p2))(h3:eS l p2=.error e):dg l p=.error e:=by
 unfold dg;rw[h];dsimp only;rw[h2];dsimp only;rw[h3]
theorem vL{l:LB}{p p1 p2 p3:Nat}{ds:List (LB)}{ns:List GN}{rs:List RM}(h:fo l p=.ok (ds,p1))(h2:eF l ds p1=.ok (ns,p2))(h3:eS l p2=.ok (rs,p3)):
 dg l p=if p3<l.length then .error p3 else .ok (⟨ns,rs⟩,ds):=by
 unfold dg;rw[h];dsimp only;rw[h2];dsimp only;rw[h3]
section
variable{F:Nat->Prop}{w W:World}{L:List HA}{rd:Nat}{bs:Sl}{l:LB}{p:Nat}{α:Type}{M:Except Nat α}
theorem JZ{t:Sl}{dd:List (Sl×LB)}{k:Int×Sl×Sl->Pr}(st:St F w W (iu rd bs p::aq 1 t (dd.map λx=>slV x.1)::aN (dd.map dA)::L))(hb:Rd w F bs l)(hc:bs.len<=bs.cap)(hp:p<=l.length)(hl:l.length<=1000000)
 (hlen:∀x∈dd,x.2.length<=8192)(ve:dd.length<=8192)
 (hq:∀e,ew l (dd.map (·.2)) p=.error e->M=.error e)
 (hk:∀(y:NS) (q:Nat) W',ew l (dd.map (·.2)) p=.ok (y.m,q)->q<=l.length->St F w W' (aG y::iu rd bs q::aq 1 t (dd.map λx=>slV x.1)::aN (dd.map dA)::L)->k (y.k,y.ps,y.ds) W'):
 bf Pq (λch=>rX F w rd bs M ch) 65 [.pointer (some ⟨rd,0,none⟩),.slice t.a t.len t.cap] [.agg [.int .i64,.slice,.slice]] k W:=by
 obtain⟨F',H,_,h1,h2,h3,h4,h5⟩:=st.ee;refine ck (XY rd bs l p t dd W F' h1 (hb.go st h4) hc hp hl (DD.own h2 h3 hlen) ve) (λ_ _ h=>rX.up h5 hq h) ?_;rintro _ W' ⟨y,q,hv,q8,rfl,s'⟩;exact hk y q W' hv q8 (h5 W' _ s')
end
theorem yf{l:LB}{p e:Nat}(h:jD l p=.error e):gH l p=.error e:=by unfold gH;rw[h]
theorem yg{l:LB}{p q e:Nat}{x:LB}(h:jD l p=.ok (x,q))(h2:eu l 8192 q=.error e):gH l p=.error e:=by unfold gH;rw[h];dsimp only;rw[h2]
theorem D7{l:LB}{p q r v:Nat}{x:LB}(h:jD l p=.ok (x,q))(h2:eu l 8192 q=.ok (v,r)):gH l p=.ok ((x,(v:Int)),r):=by unfold gH;rw[h];dsimp only;rw[h2]
theorem vM{F0:Nat->Prop}{w0 w:World}{L:List HA}{t:Sl}{ys:List RM}{y:RM}{k:Sl->Pr}(h:St F0 w0 w (aq 2 t (ys.flatMap ay)::L))(hl:ys.length<=1000000)
 (hk:∀r w',St F0 w0 w' (aq 2 r ((ys++[y]).flatMap ay)::L)->k r w'):
 (nw (.cells #[.string (bytesOf y.1),.int .i64 y.2] 64) λr=>app 64 2 24 [.string (⟨#[]⟩:ByteArray),.int .i64 0] t ⟨some ⟨r,0,none⟩,1,1⟩ k) w:=by
 refine St.nw h λr w1 s1 _ _=>?_;have hlen:=(s1.af 1).sl.len;rw[DC]at hlen;refine(s1.af 1).app (new:=ay y) (λ_=>rfl) (λh=>by cases h) (aF.2 s1.box.row) (by simp[aK]) rfl (by decide) (by dsimp only;omega) λr2 w2 s2 _=>?_;refine hk r2 w2 ?_;have e:(ys++[y]).flatMap ay=ys.flatMap ay++ay y:=by rw[List.flatMap_append];simp
 rw[e];have s3:St F0 w0 w2 (aq 2 r2 (ys.flatMap ay++ay y)::aa r _::L):=s2;exact(s3.af 1).drop
theorem X1(rd:Nat)(bs:Sl)(l:LB)(p:Nat)(w:World)(F:Nat->Prop)(h:Has [iu rd bs p] w F)(hb:Rd w F bs l)(hc:bs.len<=bs.cap)(hp:p<=l.length)(hl:l.length<=1000000):
 Calls Pq 29 #[.pointer (some ⟨rd,0,none⟩)] w (iL (rX F w rd bs (dg l p)) [.agg [.slice,.slice],.c .slice] λr w'=>∃(g:GS) (dd:List (Sl×LB)) (t:Sl),dg l p=.ok (g.m,dd.map (·.2))/\((g.gn,g.gr),t)=r/\St F w w' [dG g,aq 1 t (dd.map λx=>slV x.1),aN (dd.map dA)]):=by
 refine B3 (some ⟨rd,0,none⟩) _ _ _ ?_;unfold VO;simp only[ag];have vc:=hb.bs.len;refine St.nw (St.init h) λr w1 s1 _ _=>St.nw s1 λr1 w2 s2 _ _=>?_;have s2:St F w w2 [aa r1 [.slice none 0 0,.slice none 0 0],aa r [.slice none 0 0,.slice none 0 0],iu rd bs p]:=s2;refine rY (s2.af 2) hb hc hp hl (λe he=>vJ (by unfold fo;rw[he])) λm p1 w3 hm s3=>?_;have hm':=bQ hm hp;have RC:fo l p=c8 (jD l) m p1:=by unfold fo;rw[hm]
 refine aB (λz W=>∃(i q:Nat) (t:Sl) (dd:List (Sl×LB)),z=(t,(i:Int))/\i<=m/\q<=l.length/\dd.length=i/\(∀x∈dd,x.2.length<=8192)/\fo l p=pre (dd.map (·.2)) (c8 (jD l) (m-i) q)/\
  St F w W [iu rd bs q,aq 1 t (dd.map λx=>slV x.1),aN (dd.map dA),aa r1 [.slice none 0 0,.slice none 0 0],aa r [.slice none 0 0,.slice none 0 0]])
  (λz _=>m-z.2.toNat) ⟨0,p1,⟨none,0,0⟩,[],rfl,by omega,hm'.2,rfl,(by simp),by rw[RC];exact(o0 _).symm,(s3.rJ.fe 1).bE [2,0,1,3,4] 5⟩ ?_
 rintro _ W ⟨i,q,t,dd,rfl,hi,q8,ve,BQ,mC,sW⟩;dsimp only;refine ah (λhlt=>?_) λhge=>?_
 ·simp only[jb]at hlt
  have K4:i<m:=by omega
  refine JY sW hb hc q8 hl (λe he=>vJ (by rw[mC,kB K4 he])) λx q' u w4 hx s4=>?_;have hx':=mB hx q8;refine St.nw s4 λr2 w5 s5 _ _=>?_;have kq:=aT (s5.af 3).sl;rw[je]at kq;refine(s5.af 3).app (new:=[slV u]) (λ_=>rfl) (λh=>by cases h) (aF.2 s5.box.row) (by simp[aK]) rfl (by decide) (by dsimp only;omega) λt2 w6 s6 _=>?_;have s6:St F w w6 [aq 1 t2 ((dd.map λx=>slV x.1)++[slV u]),aa r2 [slV u],iu rd bs q',dA (u,x),aN (dd.map dA),aa r1 [.slice none 0 0,.slice none 0 0],aa r [.slice none 0 0,.slice none 0 0]]:=s6;have s7:St F w w6 (aN (dd.map dA++[dA (u,x)])::_):=(s6.bE [3,4,0,2,5,6] 7).push;rw[ax (by omega)];refine⟨⟨i+1,q',t2,dd++[(u,x)],rfl,by omega,hx'.1,by simp[ve],λz hz=>?_,?_,?_⟩,by omega⟩
  ·rcases jy.1 hz with hz|hz
   ·exact BQ z hz
   ·rw[jo]at hz;subst hz;exact hx'.2
  ·rw[mC,kV K4 hx,jj];rfl
  ·rw[jj,jj]
   exact s7.bE [2,1,0,3,4] 5
 simp only[ja]at hge;rw[mA (by omega)]at mC;refine rY sW hb hc q8 hl (λe he=>vK mC (by unfold eF;rw[he])) λm2 p2 w4 hm2 s4=>?_;have RD:=bQ hm2 q8;have RE:eF l (dd.map (·.2)) q=c8 (ew l (dd.map (·.2))) m2 p2:=by unfold eF;rw[hm2]
 have BP:dd.length<=8192:=by omega
 refine aB (λz W=>∃(j q2:Nat) (tn:Sl) (ys:List NS),z=(j:Int)/\j<=m2/\q2<=l.length/\ys.length=j/\eF l (dd.map (·.2)) q=pre (ys.map NS.m) (c8 (ew l (dd.map (·.2))) (m2-j) q2)/\
  St F w W [iu rd bs q2,aq 1 t (dd.map λx=>slV x.1),aN (dd.map dA),aq 3 tn (ys.flatMap aj),aN (ys.map aG),aa r1 [slV tn,.slice none 0 0],aa r [.slice none 0 0,.slice none 0 0]])
  (λz _=>m2-z.toNat) ⟨0,p2,⟨none,0,0⟩,[],rfl,by omega,RD.2,rfl,by rw[RE];exact(o0 _).symm,(s4.rJ.fe 3).bE [2,3,4,0,1,5,6] 7⟩ ?_
 rintro _ W2 ⟨j,q2,tn,ys,rfl,hj,Nc,mg,p9,iU⟩;refine ah (λhlt=>?_) λij=>?_
 ·simp only[jb]at hlt
  have nB:j<m2:=by omega
  refine aL (λ_ W'=>∃(q3:Nat) (Lm:Sl) (ys':List NS),q3<=l.length/\ys'.length=j+1/\eF l (dd.map (·.2)) q=pre (ys'.map NS.m) (c8 (ew l (dd.map (·.2))) (m2-(j+1)) q3)/\
   St F w W' [iu rd bs q3,aq 1 t (dd.map λx=>slV x.1),aN (dd.map dA),aq 3 Lm (ys'.flatMap aj),aN (ys'.map aG),aa r1 [slV Lm,.slice none 0 0],aa r [.slice none 0 0,.slice none 0 0]]) ?_ ?_
  rotate_left
  ·rintro⟨⟩ W' ⟨q3,Lm,ys',h1,h2,h3,s'⟩
   rw[ax (by omega)];exact⟨⟨j+1,q3,Lm,ys',rfl,by omega,h1,h2,h3,s'⟩,by omega⟩
  have xS:∀e,ew l (dd.map (·.2)) q2=.error e->dg l p=.error e:=λe he=>vK mC (by rw[p9,kB nB he]);have fin:∀(y:NS) (q3:Nat) W',ew l (dd.map (·.2)) q2=.ok (y.m,q3)->q3<=l.length->St F w W' [aG y,iu rd bs q3,aq 1 t (dd.map λx=>slV x.1),aN (dd.map dA),aq 3 tn (ys.flatMap aj),aN (ys.map aG),aa r1 [slV tn,.slice none 0 0],aa r [.slice none 0 0,.slice none 0 0]]->
   (nw (.cells #[.int .i64 y.k,.slice y.ps.a y.ps.len y.ps.cap,.slice y.ds.a y.ds.len y.ds.cap] 62) λr3=>app 62 3 56 [.int .i64 0,.slice none 0 0,.slice none 0 0] tn ⟨some ⟨r3,0,none⟩,1,1⟩ λt27=>Eng.st (Addr.add ⟨r1,0,none⟩ 0) (.slice t27.a t27.len t27.cap) λW'=>∃(q3:Nat) (Lm:Sl) (ys':List NS),q3<=l.length/\ys'.length=j+1/\eF l (dd.map (·.2)) q=pre (ys'.map NS.m) (c8 (ew l (dd.map (·.2))) (m2-(j+1)) q3)/\
   St F w W' [iu rd bs q3,aq 1 t (dd.map λx=>slV x.1),aN (dd.map dA),aq 3 Lm (ys'.flatMap aj),aN (ys'.map aG),aa r1 [slV Lm,.slice none 0 0],aa r [.slice none 0 0,.slice none 0 0]]) W':=by
   intro y q3 W' hy J0 s';refine gX (y:=y) (s'.bE [0,4,5,1,2,3,6,7] 8) (by omega) λX2 w5 s5=>?_;refine(s5.af 5).st (i:=0) (by simp) trivial λw6 s6=>?_;refine⟨q3,X2,ys++[y],J0,by simp[mg],?_,s6.bE [3,4,5,1,2,0,6] 7⟩;rw[p9,kV nB hy,jj];rfl
  rw[aR];have s5:=iU.drew;refine⟨?_,?_⟩
  ·refine(s5.af 5).ld (i:=0) (s:=.slice) (p:=tn) rfl ?_
   exact JZ s5 hb hc Nc hl BQ BP xS λy q3 W' hy J0 s'=>fin y q3 W' hy J0 s'
  ·refine JZ s5 hb hc Nc hl BQ BP xS λy q3 W' hy J0 s'=>?_
   refine(s'.af 6).ld (i:=0) (s:=.slice) (p:=tn) rfl ?_;exact fin y q3 W' hy J0 s'
 simp only[ja]at ij;rw[mA (by omega)]at p9;refine rY iU hb hc Nc hl (λe he=>p8 mC p9 (by unfold eS;rw[he])) λm3 p3 w5 VP s5=>?_;have RF:=bQ VP Nc;have RH:eS l q2=c8 (gH l) m3 p3:=by unfold eS;rw[VP]
 refine aB (λz W=>∃(j q3:Nat) (tr:Sl) (rs:List RM),z=(j:Int)/\j<=m3/\q3<=l.length/\rs.length=j/\eS l q2=pre rs (c8 (gH l) (m3-j) q3)/\
  St F w W [iu rd bs q3,aq 1 t (dd.map λx=>slV x.1),aN (dd.map dA),aq 3 tn (ys.flatMap aj),aN (ys.map aG),aq 2 tr (rs.flatMap ay),aa r1 [slV tn,slV tr],aa r [.slice none 0 0,.slice none 0 0]])
  (λz _=>m3-z.toNat) ⟨0,p3,⟨none,0,0⟩,[],rfl,by omega,RF.2,rfl,by rw[RH];exact(o0 _).symm,(s5.fe 2).bE [1,2,3,4,5,0,6,7] 8⟩ ?_
 rintro _ W3 ⟨j3,q3,tr,rs,rfl,Zl,J0,hrl,vN,fE⟩;refine ah (λhlt=>?_) λRI=>?_
 ·simp only[jb]at hlt
  have nB:j3<m3:=by omega
  refine aL (λ_ W'=>∃(q4:Nat) (Ln:Sl) (rs':List RM),q4<=l.length/\rs'.length=j3+1/\eS l q2=pre rs' (c8 (gH l) (m3-(j3+1)) q4)/\
   St F w W' [iu rd bs q4,aq 1 t (dd.map λx=>slV x.1),aN (dd.map dA),aq 3 tn (ys.flatMap aj),aN (ys.map aG),aq 2 Ln (rs'.flatMap ay),aa r1 [slV tn,slV Ln],aa r [.slice none 0 0,.slice none 0 0]]) ?_ ?_
  rotate_left
  ·rintro⟨⟩ W' ⟨q4,Ln,rs',h1,h2,h3,s'⟩
   rw[ax (by omega)];exact⟨⟨j3+1,q4,Ln,rs',rfl,by omega,h1,h2,h3,s'⟩,by omega⟩
  refine JY fE hb hc J0 hl (λe he=>p8 mC p9 (by rw[vN,kB nB (yf he)])) λx q4 u w6 hx s6=>?_;have hx':=mB hx J0;refine ic (s6.af 1).sl.bs ?_;rw[aR];have s7:St F w w6.drew [iu rd bs q4,aq 1 t (dd.map λx=>slV x.1),aN (dd.map dA),aq 3 tn (ys.flatMap aj),aN (ys.map aG),aq 2 tr (rs.flatMap ay),aa r1 [slV tn,slV tr],aa r [.slice none 0 0,.slice none 0 0]]:=(s6.bE [0,2,3,4,5,6,7,8] 9).drew;have xS:∀e,eu l 8192 q4=.error e->dg l p=.error e:=λe he=>p8 mC p9 (by rw[vN,kB nB (yg hx he)]);have fin:∀(v q5:Nat) W',eu l 8192 q4=.ok (v,q5)->St F w W' [iu rd bs q5,aq 1 t (dd.map λx=>slV x.1),aN (dd.map dA),aq 3 tn (ys.flatMap aj),aN (ys.map aG),aq 2 tr (rs.flatMap ay),aa r1 [slV tn,slV tr],aa r [.slice none 0 0,.slice none 0 0]]->
   (nw (.cells #[.string (bytesOf x),.int .i64 (v:Int)] 64) λr5=>app 64 2 24 [.string (⟨#[]⟩:ByteArray),.int .i64 0] tr ⟨some ⟨r5,0,none⟩,1,1⟩ λt44=>Eng.st (Addr.add ⟨r1,0,none⟩ 1) (.slice t44.a t44.len t44.cap) λW'=>∃(q4:Nat) (Ln:Sl) (rs':List RM),q4<=l.length/\rs'.length=j3+1/\eS l q2=pre rs' (c8 (gH l) (m3-(j3+1)) q4)/\
   St F w W' [iu rd bs q4,aq 1 t (dd.map λx=>slV x.1),aN (dd.map dA),aq 3 tn (ys.flatMap aj),aN (ys.map aG),aq 2 Ln (rs'.flatMap ay),aa r1 [slV tn,slV Ln],aa r [.slice none 0 0,.slice none 0 0]]) W':=by
   intro v q5 W' hv s';have D8:=bQ hv hx'.1;refine vM (y:=(x,(v:Int))) (s'.af 5) (by omega) λX3 w8 s8=>?_;refine(s8.af 6).st (i:=1) (by simp) trivial λw9 s9=>?_;refine⟨q5,X3,rs++[(x,(v:Int))],D8.2,by simp[hrl],?_,s9.bE [2,3,4,5,6,1,0,7] 8⟩;rw[vN,kV nB (D7 hx hv)]
  refine⟨?_,?_⟩
  ·refine(s7.af 6).ld (i:=1) (s:=.slice) (p:=tr) rfl ?_
   exact Ar (most:=8192) s7 hb hc hx'.1 hl (by omega) xS λv q5 W' hv s'=>fin v q5 W' hv s'
  ·refine Ar (most:=8192) s7 hb hc hx'.1 hl (by omega) xS λv q5 W' hv s'=>?_
   refine(s'.af 6).ld (i:=1) (s:=.slice) (p:=tr) rfl ?_;exact fin v q5 W' hv s'
 simp only[ja]at RI;rw[mA (by omega)]at vN;have hG:=vL mC p9 vN;refine aL (λ_ W'=>¬q3<l.length/\St F w W' [iu rd bs q3,aq 1 t (dd.map λx=>slV x.1),aN (dd.map dA),aq 3 tn (ys.flatMap aj),aN (ys.map aG),aq 2 tr (rs.flatMap ay),aa r1 [slV tn,slV tr],aa r [.slice none 0 0,.slice none 0 0]]) ?_ ?_
 ·rw[aR]
  have s8:=fE.drew;refine s8.ld (i:=1) (s:=.int .i64) (p:=(q3:Int)) rfl ?_;refine s8.ld (i:=0) (s:=.slice) (p:=bs) rfl ?_;refine ah (λhlt=>?_) λhge=>?_
  ·simp only[jb]at hlt
   refine s8.ld (i:=1) (s:=.int .i64) (p:=(q3:Int)) rfl ?_;refine ck (Nb q3 (.iface 24 (.int .i64 260)) _ trivial) ?_ λ_ _ h=>h.elim;rintro ch w' ⟨rb,rfl,k⟩;refine⟨q3,rb,q3,by rw[hG,jd (by omega)],rfl,?_⟩;exact(s8.aZ k).bE [0,1] 9
  ·simp only[ja]at hge
   exact⟨by omega,s8⟩
 ·rintro⟨⟩ W' ⟨hge,s8⟩
  rw[jc hge]at hG;refine bY.aQ (l:=[.slice,.slice]) (p:=(tn,tr)) (s8.af 6).box ?_;refine(s8.af 7).st (i:=0) (by simp) trivial λw3 s3=>s3.st (i:=1) (by simp) trivial λw4 s4=>?_;refine bY.aQ (l:=[.slice,.slice]) (p:=(tn,tr)) s4.box ?_;refine⟨⟨tn,tr,ys,rs⟩,dd,t,hG,rfl,?_⟩;exact dG.mk (s4.bE [4,5,6,2,3] 8)
set_option maxRecDepth 100000
def PY:An:=(.bl (.sq .z (.br .z (.sq .z (.br (.sq .z .z) (.sq .z .z))))))
def QB(p0:OA)(p1:OA)(v:Value)(Q:Unit->Pr):Pr:=
 aP (tK v)<|
 br (cg v) (
 Q ()) (
 Wl 131 (.agg [.ptr]) (.agg #[(.pointer none)]) v true λ(t10:OA) PZ=>
 br PZ (
 nw (.cells #[(.pointer none)] 131) λr=>
 deref (some ⟨r,0,none⟩) λa=>
 st (a.add 0) (.pointer t10)<|
 jE<|
 deref (some ⟨r,0,none⟩) λa_1=>
 deref p0 λa_2=>
 both (
 deref (some (a_1.add 0)) λbX=>
 au .ptr bX λ(t17:OA)=>
 deref (some a_2) λc6=>
 st (c6.add 0) (.slice none 0 0)<|
 st (c6.add 1) (.slice none 0 0)<|
 deref p1 λc7=>
 deref (some c7) λcV=>
 st cV (.iface 111 (.pointer t17))<|
 Q ()) (
 deref (some a_2) λdy=>
 st (dy.add 0) (.slice none 0 0)<|
 st (dy.add 1) (.slice none 0 0)<|
 deref (some (a_1.add 0)) λdO=>
 au .ptr dO λ(P1:OA)=>
 deref p1 λdP=>
 deref (some dP) λbu=>
 st bu (.iface 111 (.pointer P1))<|
 Q ())) (
 bK))
theorem mE(p0:OA)(p1:OA)(v:Value)(u:FrameMode)(Q:Unit->Pr)(w:World)(hu:(u=.returning/\v=.nilIface)\/u=.panicking [⟨v,false,false⟩])(h:QB p0 p1 v Q w):gh Pq u 26 [(.pointer p0),(.pointer p1)] (Q ()) w:=
 CQ (an:=PY) (d:=7) (id:=0) (ty:=20) (pos:= "archive.go:148") (rest:=Fb Tryz.f26) Tryz.func26 (by kernel_rfl) hu (by
  have e:wN Pq Tryz.f26 PY [(.pointer p0),(.pointer p1)] 7 v (Fb Tryz.f26) (Q ())=QB p0 p1 v Q:=by kernel_rfl
  rw[e];exact h)
set_option maxRecDepth 20000
noncomputable def eA(b:LB):Except (Nat×Int) GG:=
 if b.length<12\/b.take 8≠bU then .error (0,260)
 else if gi 4 (iT (b.take (b.length-4)))≠b.drop (b.length-4)then .error (b.length-4,11)
 else match dg (b.take (b.length-4)) 8 with
  |.error p=>.error (p,260)
  |.ok (G,ds)=>if e7 G=true/\kz G=G/\aE G=ds then .ok G else .error (b.length-4,180)
theorem mD{α:Type}{f:Nat->rW α}:∀{n p q:Nat} {xs:List α},c8 f n p=.ok (xs,q)->xs.length=n
 |
  0,p,q,xs,h=>by
  simp only[c8,Except.ok.injEq,Prod.mk.injEq]at h;rw[<-h.1];rfl
 |
  n+1,p,q,xs,h=>by
  rw[c8]at h;split at h
  ·cases h
  ·rename_i x q1 _
   cases hr:c8 f n q1 with
   |error e=>rw[hr]at h;cases h
   |
    ok y=>
    obtain⟨ys,q2⟩:=y;rw[hr]at h;simp only[pre,Except.ok.injEq,Prod.mk.injEq]at h;rw[<-h.1];have:=mD hr;simp[this]
theorem gI{α:Type}{f:Nat->rW α}{M:Nat}{R:α->Prop}(hf:∀p x q,p<=M->f p=.ok (x,q)->q<=M/\R x):∀{n p q:Nat} {xs:List α},p<=M->c8 f n p=.ok (xs,q)->q<=M/\∀x∈xs,R x
 |
  0,p,q,xs,hp,h=>by
  simp only[c8,Except.ok.injEq,Prod.mk.injEq]at h;obtain⟨rfl,rfl⟩:=h;exact⟨hp,by simp⟩
 |
  n+1,p,q,xs,hp,h=>by
  rw[c8]at h;split at h
  ·cases h
  ·rename_i x q1 hx
   have h1:=hf p x q1 hp hx;cases hr:c8 f n q1 with
   |error e=>rw[hr]at h;cases h
   |
    ok y=>
    obtain⟨ys,q2⟩:=y;rw[hr]at h;simp only[pre,Except.ok.injEq,Prod.mk.injEq]at h;obtain⟨rfl,rfl⟩:=h;have h2:=gI hf h1.1 hr;refine⟨h2.1,λz hz=>?_⟩;rcases jy.1 hz with hz|hz
    ·rw[jo]at hz;subst hz;exact h1.2
    ·exact h2.2 z hz
theorem vO{l:LB}{ds:List (LB)}{p q:Nat}{n:GN}(h:ew l ds p=.ok (n,q))(hp:p<=l.length)(hd:∀d∈ds,d.length<=8192):q<=l.length/\n.p.length<=8192/\n.d.length<=8192/\0<=n.k/\n.k<=3/\(∀x∈n.p,-1<=x)/\n.d∈ds:=by
 unfold ew at h;split at h
 ·cases h
 rename_i k p1 hk;split at h
 ·cases h
 rename_i d p2 hdn;split at h
 ·cases h
 rename_i m p3 hm;split at h
 ·cases h
 rename_i ps p4 hps;simp only[Except.ok.injEq,Prod.mk.injEq]at h;obtain⟨rfl,rfl⟩:=h;have h1:=bQ hk hp;have h2:=bQ hdn h1.2;have h3:=bQ hm h2.2;have h4:=gI (M:=l.length) (R:=λx:Int=> -1<=x) (λp x q hp hx=>⟨(th hx hp).1,(th hx hp).2.1⟩) h3.2 hps;have h5:=mD hps;have h6:(ds[d]?).getD []∈ds:=by
  rw[jl h2.1];exact List.getElem_mem h2.1
 exact⟨h4.1,by dsimp only;omega,hd _ h6,by dsimp only;omega,by dsimp only;omega,h4.2,h6⟩
theorem nJ{l:LB}{p q:Nat}{r:RM}(h:gH l p=.ok (r,q))(hp:p<=l.length):q<=l.length/\r.1.length<=8192/\0<=r.2:=by
 unfold gH at h;split at h
 ·cases h
 rename_i name q1 hn;split at h
 ·cases h
 rename_i v q2 hv;simp only[Except.ok.injEq,Prod.mk.injEq]at h;obtain⟨rfl,rfl⟩:=h;have h1:=mB hn hp;have h2:=bQ hv h1.1;exact⟨h2.2,h1.2,by dsimp only;omega⟩
theorem tj{l:LB}{p:Nat}{G:GG}{ds:List (LB)}(h:dg l p=.ok (G,ds))(hp:p<=l.length):
 ∃p1 p2 p3,fo l p=.ok (ds,p1)/\p1<=l.length/\eF l ds p1=.ok (G.n,p2)/\p2<=l.length/\eS l p2=.ok (G.r,p3)/\p3=l.length/\(∀d∈ds,d.length<=8192):=by
 unfold dg at h;split at h
 ·cases h
 rename_i ds' p1 h1;split at h
 ·cases h
 rename_i ns p2 h2;split at h
 ·cases h
 rename_i rs p3 h3;split at h
 ·cases h
 rename_i h4;simp only[Except.ok.injEq,Prod.mk.injEq]at h;obtain⟨rfl,rfl⟩:=h;have hd:p1<=l.length/\∀d∈ds',d.length<=8192:=by
  have GW:=h1;unfold fo at GW;split at GW
  ·cases GW
  rename_i m q hm;exact gI (M:=l.length) (R:=λx:LB=>x.length<=8192) (λp x q hp hx=>mB hx hp) (bQ hm hp).2 GW
 have hn:p2<=l.length:=by
  have Qz:=h2;unfold eF at Qz;split at Qz
  ·cases Qz
  rename_i m q hm;exact(gI (M:=l.length) (R:=λ_:GN=>True) (λp x q hp hx=>⟨(vO hx hp hd.2).1,trivial⟩) (bQ hm hd.1).2 Qz).1
 have hr:p3<=l.length:=by
  have Ds:=h3;unfold eS at Ds;split at Ds
  ·cases Ds
  rename_i m q hm;exact(gI (M:=l.length) (R:=λ_:RM=>True) (λp x q hp hx=>⟨(nJ hx hp).1,trivial⟩) (bQ hm hn).2 Ds).1
 exact⟨p1,p2,p3,h1,hd.1,h2,hn,h3,by omega,hd.2⟩
theorem tq{l:LB}{p:Nat}{G:GG}{ds:List (LB)}(h:dg l p=.ok (G,ds))(hp:p<=l.length):G.small/\(∀d∈ds,d.length<=8192)/\(∀n∈G.n,n.d∈ds):=by
 obtain⟨p1,p2,p3,h1,VQ,h2,Q2,h3,Nu,hd⟩:=tj h hp;have hn:G.n.length<=8192/\∀n∈G.n,n.p.length<=8192/\n.d.length<=8192/\n.d∈ds:=by
  unfold eF at h2;split at h2
  ·cases h2
  rename_i m q hm;have hm':=bQ hm VQ;have:=mD h2;exact⟨by omega,(gI (M:=l.length) (R:=λn:GN=>n.p.length<=8192/\n.d.length<=8192/\n.d∈ds) (λp x q hp hx=>let h:=vO hx hp hd;⟨h.1,h.2.1,h.2.2.1,h.2.2.2.2.2.2⟩) hm'.2 h2).2⟩
 have hr:G.r.length<=8192/\∀r∈G.r,r.1.length<=8192:=by
  unfold eS at h3;split at h3
  ·cases h3
  rename_i m q hm;have hm':=bQ hm Q2;have:=mD h3;exact⟨by omega,(gI (M:=l.length) (R:=λr:RM=>r.1.length<=8192) (λp x q hp hx=>let h:=nJ hx hp;⟨h.1,h.2.1⟩) hm'.2 h3).2⟩
 exact⟨⟨by omega,by omega,λx hx=>by have:=(hn.2 x hx).1;omega,λx hx=>by have:=(hn.2 x hx).2.1;omega,λx hx=>by have:=hr.2 x hx;omega⟩,hd,λn hn'=>(hn.2 n hn').2.2⟩
theorem X4(s t:Sl)(xs ys:List (Sl×LB))(w:World)(hs:MS (λx:Sl×LB=>slV x.1) w s xs)(ht:MS (λx:Sl×LB=>slV x.1) w t ys)(hx:∀x∈xs,BS w x.1 x.2)(hy:∀y∈ys,BS w y.1 y.2)(hl:xs.length<=1000000):
 Calls Pq 31 #[slV s,slV t,.func (.func 11) #[] #[]] w (aC [.c .bool] λr w'=>r=decide (xs.map (·.2)=ys.map (·.2))/\w=w'):=by
 refine B4 s t _ _ _ ?_;unfold VR;have h1:=hs.len;have h2:=ht.len;refine ah (λhne=>⟨?_,rfl⟩) λheq=>?_
 ·rw[decide_eq_false]
  intro he;have:=congrArg List.length he;simp only[je]at this;simp at hne;omega
 have xq:xs.length=ys.length:=by simp at heq;omega
 simp only[ag];refine aB (λz W=>∃i:Nat,z=(i:Int)/\i<=xs.length/\(xs.take i).map (·.2)=(ys.take i).map (·.2)/\w=W) (λz _=>xs.length-z.toNat) ⟨0,rfl,by omega,rfl,rfl⟩ ?_;rintro _ _ ⟨i,rfl,hi,hpre,rfl⟩;refine ah (λhlt=>?_) λhge=>?_
 ·simp only[jb]at hlt
  have hil:i<xs.length:=by omega
  have QA:i<ys.length:=by omega
  refine⟨⟨by omega,by omega⟩,?_⟩;rw[jk];refine MS.at (g:=λx:Sl×LB=>slV x.1) (c:=.slice) (p:=xs[i].1) (x:=xs[i]) hs (by simp[hil]) rfl ?_;refine⟨⟨by omega,by omega⟩,?_⟩;refine MS.at (g:=λx:Sl×LB=>slV x.1) (c:=.slice) (p:=ys[i].1) (x:=ys[i]) ht (by simp[QA]) rfl ?_;refine fL rfl (by kernel_rfl) (QV xs[i].1 ys[i].1 xs[i].2 ys[i].2 w (hx _ (List.getElem_mem hil)) (hy _ (List.getElem_mem QA))) ?_;rintro _ _ ⟨rfl,rfl⟩;refine ah (λhne=>⟨?_,rfl⟩) λheq=>?_
  ·simp only[Bool.not_eq_true',ja]at hne
   rw[decide_eq_false];intro he;have:=congrArg (·[i]?) he;simp only[jf,jl hil,jl QA,Option.map_some,jg]at this;exact hne this
  ·simp only[Bool.not_eq_false',jb]at heq
   rw[ax (by omega)];refine⟨⟨i+1,rfl,by omega,?_,rfl⟩,by omega⟩;rw[List.take_add_one,List.take_add_one,jl hil,jl QA,jj,jj,hpre];simp[heq]
 ·simp only[ja]at hge
  rw[List.take_of_length_le (by omega),List.take_of_length_le (by omega)]at hpre;exact⟨by rw[decide_eq_true hpre],rfl⟩
theorem B5{w W:World}{L:List HA}{r r1 rb:Nat}{x a b:Value}{vs:LV}{k:Pr}(st:St aA w W (aa r1 [x]::aa r [a,b]::aa rb vs::L))
 (hk:∀W',St aA w W' (aa r1 [.iface 111 (.pointer (some ⟨rb,0,none⟩))]::aa r [.slice none 0 0,.slice none 0 0]::aa rb vs::L)->k W'):
 gh Pq (.panicking (HM rb)) 26 [.pointer (some ⟨r,0,none⟩),.pointer (some ⟨r1,0,none⟩)] k W:=by
 refine mE (some ⟨r,0,none⟩) (some ⟨r1,0,none⟩) _ _ (λ_=>k) W (.inr rfl) ?_;unfold QB;simp only[ag];refine⟨trivial,ah (λh=>by cases h) λ_=>?_⟩;refine⟨some ⟨rb,0,none⟩,true,.inl ⟨rfl,rfl⟩,?_⟩;refine ah (λ_=>?_) λh=>by cases h
 refine St.nw st λrc w1 s1 _ _=>s1.st (i:=0) (by simp) trivial λw2 s2=>?_;rw[aR];have s3:=s2.drew;refine⟨?_,?_⟩
 ·refine s3.ld (i:=0) (s:=.ptr) (p:=some ⟨rb,0,none⟩) rfl ?_
  refine(s3.af 2).st (i:=0) (by simp) trivial λw4 s4=>s4.st (i:=1) (by simp) trivial λw5 s5=>?_;refine(s5.af 2).KR trivial λw6 s6=>hk w6 ?_;exact s6.bE [0,1,3] 4
 ·refine(s3.af 2).st (i:=0) (by simp) trivial λw4 s4=>s4.st (i:=1) (by simp) trivial λw5 s5=>?_
  refine(s5.af 1).ld (i:=0) (s:=.ptr) (p:=some ⟨rb,0,none⟩) rfl ?_;refine(s5.af 2).KR trivial λw6 s6=>hk w6 ?_;exact s6.bE [0,1,3] 4
theorem Lo{w:World}{s:Sl}{l:LB}{n:Nat}{k:Sl->Pr}(h:BS w s l)(hc:s.len<=s.cap)(hn:n<=l.length)(hk:∀r,BS w r (l.take n)->r.len<=r.cap->r.a=s.a->k r w):slc 1 s none (some (n:Int)) none k w:=by
 have hl:=h.len;refine lC (by omega) (by omega) ?_;simp only[jk,dU,ite_self];refine hk _ ?_ (by dsimp only;omega) rfl;have:=(MS.sub (o:=0) (n:=n) (a:=s.a) (c:=s.cap) h.ms (by omega) (.inl (by simp)) (λ_=>by cases s.a<;>simp)).bs;simpa using this
theorem J1{w:World}{s:Sl}{l:LB}{n:Nat}(h:BS w s l)(hn:n<=l.length):BS w ⟨s.a,n,s.cap⟩ (l.take n):=by
 have:=(MS.sub (o:=0) (n:=n) (a:=s.a) (c:=s.cap) h.ms (by omega) (.inl (by simp)) (λ_=>by cases s.a<;>simp)).bs;simpa using this
theorem At{w:World}{s:Sl}{n:Nat}{k:Sl->Pr}(hc:n<=s.cap)(hk:k ⟨s.a,n,s.cap⟩ w):slc 1 s none (some (n:Int)) none k w:=by
 refine lC (by omega) (by omega) ?_;simp only[jk,dU,ite_self];exact hk
def D9(l:LB)(w:World)(r:(Sl×Sl)×Value)(w':World):Prop:=
 (∃g:GS,eA l=.ok g.m/\r.1=(g.gn,g.gr)/\r.2=.nilIface/\g.small/\St aA w w' [dG g])\/
 (∃e n b,eA l=.error (e,n)/\r.1=(⟨none,0,0⟩,⟨none,0,0⟩)/\r.2=.iface 111 (.pointer (some ⟨b,0,none⟩))/\St aA w w' [bR b e n])
theorem RJ(s:Sl)(l:LB)(w:World)(hs:BS w s l)(hc:s.len<=s.cap)(hl:l.length<=1000000):Calls Pq 12 #[slV s] w (aC [.agg [.slice,.slice],.c .any] λr w'=>D9 l w r w'):=by
 refine B6 s _ _ ?_;unfold VT;simp only[ag];have jZ:=hs.len;refine St.nw (St.bp w) λr w1 s1 _ _=>⟨trivial,St.nw s1 λr1 w2 s2 _ _=>?_⟩;have s2:St aA w w2 [aa r1 [.nilIface],aa r [.slice none 0 0,.slice none 0 0]]:=s2;have QC:∀(rb e:Nat) (n:Int) W L (x a b:Value),eA l=.error (e,n)->St aA w W (aa r1 [x]::aa r [a,b]::bR rb e n::L)->
  (gh Pq (.panicking (HM rb)) 26 [.pointer (some ⟨r,0,none⟩),.pointer (some ⟨r1,0,none⟩)]<|
    aQ [.slice,.slice] ⟨r,0,none⟩ λ(res:Sl×Sl)=>au .any ⟨r1,0,none⟩ λ(cX:Value)=>(λr w'=>D9 l w r w') ((res.1,res.2),cX)) W:=by
  intro rb e n W L x a b hu st;refine B5 st λW' s'=>?_;refine bY.aQ (l:=[.slice,.slice]) (p:=(⟨none,0,0⟩,⟨none,0,0⟩)) (s'.af 1).box ?_;refine s'.Ab (s:=.any) (p:=.iface 111 (.pointer (some ⟨rb,0,none⟩))) rfl ?_;exact .inr ⟨e,n,rb,hu,rfl,rfl,St.jR (l:=[_]) (s'.af 2)⟩
 refine aL (λ_ W=>12<=l.length/\l.take 8=bU/\St aA w W [aa r1 [.nilIface],aa r [.slice none 0 0,.slice none 0 0]]) ?_ ?_
 ·refine aL (λs' W=>s'=decide (l.length<12\/l.take 8≠bU)/\St aA w W [aa r1 [.nilIface],aa r [.slice none 0 0,.slice none 0 0]]) ?_ ?_
  ·rw[show IntKind.wrap .i64 (8+4)=12 by decide]
   refine ah (λhlt=>?_) λhge=>?_
   ·simp only[jb]at hlt
    exact⟨by rw[decide_eq_true (.inl (by omega))],s2⟩
   ·simp only[ja]at hge
    refine Lo (n:=8) (hs.grow s2.bh) hc (by omega) λt ht _ _=>ic ht ⟨?_,s2⟩;rw[aS];have e:(⟨#[97,116,116,105,99,32,97,10]⟩:ByteArray).toList=bU:=by
     show(bytesOf bU).toList=bU;rw[aS]
    rw[e,Bool.eq_iff_iff];simp only[Bool.not_eq_true',beq_eq_false_iff_ne,jb];exact⟨λh=>.inr h,λh=>h.resolve_left (by omega)⟩
  ·rintro _ W ⟨rfl,sW⟩
   refine ah (λhb=>?_) λhb=>?_
   ·rw[jb]at hb
    refine ck (Nb 0 (.iface 24 (.int .i64 260)) W trivial) ?_ λ_ _ h=>h.elim;rintro ch w' ⟨rb,rfl,k⟩;exact QC rb 0 260 w' _ _ _ _ (by unfold eA;rw[jd hb]) ((sW.aZ k).bE [1,2,0] 3)
   ·rw[ja]at hb
    exact⟨by omega,Decidable.not_not.1 λh=>hb (.inr h),sW⟩
 rintro⟨⟩ W ⟨h12,RK,sW⟩;have VU:¬(l.length<12\/l.take 8≠bU):=by
  rintro(h|h)
  ·omega
  ·exact h RK
 rw[show IntKind.wrap .i64 ((s.len:Int)-4)=(s.len:Int)-4 from wrap_i64 ⟨by omega,by omega⟩];have X5:(s.len:Int)-4=((l.length-4:Nat):Int):=by omega
 rw[X5];refine aL (λ_ W=>gi 4 (iT (l.take (l.length-4)))=l.drop (l.length-4)/\St aA w W [aa r1 [.nilIface],aa r [.slice none 0 0,.slice none 0 0]]) ?_ ?_
 ·refine fO (XP s l W (hs.grow sW.bh) hc (by omega)) ?_
  rintro⟨t,e⟩ W2 ⟨he,g2⟩;have s3:=sW.grow g2;dsimp only at he⊢;unfold mz at he;rw[jc (by omega)]at he;refine ah (λhne=>?_) λheq=>?_
  ·have HN:¬gi 4 (iT (l.take (l.length-4)))=l.drop (l.length-4):=by
    intro h;rw[jd h]at he;rw[he]at hne;simp at hne
   rw[jc HN]at he;subst he;refine ck (Nb ((l.length-4:Nat):Int) (.iface 24 (.int .i64 11)) W2 trivial) ?_ λ_ _ h=>h.elim;rintro ch w' ⟨rb,rfl,k⟩;exact QC rb (l.length-4) 11 w' _ _ _ _ (by unfold eA;rw[jc VU,jd HN]) ((s3.aZ k).bE [1,2,0] 3)
  ·refine⟨?_,s3⟩
   by_cases h:gi 4 (iT (l.take (l.length-4)))=l.drop (l.length-4)
   ·exact h
   ·rw[jc h]at he
    rw[he]at heq;simp at heq
 rintro⟨⟩ W ⟨HN,sW⟩;have hun:eA l=match dg (l.take (l.length-4)) 8 with
  |.error p=>.error (p,260)
  |.ok (G,ds)=>if e7 G=true/\kz G=G/\aE G=ds then .ok G else .error (l.length-4,180):=by
  unfold eA;rw[jc VU,jc (λh=>h HN)]
  all_goals cases dg (l.take (l.length-4)) 8<;>rfl
 have NV:=J1 (n:=l.length-4) hs (by omega);refine At (n:=l.length-4) (by omega) ?_;generalize RL:(⟨s.a,l.length-4,s.cap⟩:Sl)=bs at NV⊢;have RO:bs.len<=bs.cap:=by rw[<-RL];show l.length-4<=s.cap;omega
 refine St.nw sW λrd w3 s3 _ _=>?_;have s3:St aA w w3 [iu rd bs 8,aa r1 [.nilIface],aa r [.slice none 0 0,.slice none 0 0]]:=s3;have vc:(l.take (l.length-4)).length=l.length-4:=by rw[jr];omega
 obtain⟨F',H,_,h1,h2,h3,h4,h5⟩:=s3.ee;refine ck (X1 rd bs (l.take (l.length-4)) 8 w3 F' h1 ((Rd.aA NV).go s3 h4) RO (by omega) (by omega)) ?_ ?_
 ·rintro ch w' ⟨e,rb,p,he,rfl,k⟩
  refine QC rb e 260 w' [iu rd bs p] _ _ _ (by rw[hun,he]) ((h5 w' _ k).bE [2,3,0,1] 4)
 rintro _ w4 ⟨x,dd,t,hg,rfl,k4⟩;rw[hg]at hun;dsimp only at hun;have s4:=h5 w4 _ k4;have s4:St aA w w4 [dG x,aq 1 t (dd.map λx=>slV x.1),aN (dd.map dA),aa r1 [.nilIface],aa r [.slice none 0 0,.slice none 0 0]]:=s4;clear h1 h2 h3 h4 h5 s3;have RP:=tq hg (by omega);have j4:x.small:=GS.cJ.2 RP.1;have GR:=j4.nl;have Dh:=j4.rl;refine St.nw s4 λr3 w5 s5 _ _=>s5.st (i:=0) (by simp) trivial λw6 s6=>s6.st (i:=1) (by simp) trivial λw7 s7=>?_;have s7:St aA w w7 [aa r3 [slV x.gn,slV x.gr],dG x,aq 1 t (dd.map λx=>slV x.1),aN (dd.map dA),aa r1 [.nilIface],aa r [.slice none 0 0,.slice none 0 0]]:=s7;refine bY.aQ (l:=[.slice,.slice]) (p:=(x.gn,x.gr)) s7.box ?_;refine fO (Vn x _ (St.rg (s7.af 1) j4)) ?_;refine λrr w8 hC=>?_;have keep:∃T,St aA w w8 (T++[aa r3 [slV x.gn,slV x.gr],dG x,aq 1 t (dd.map λx=>slV x.1),aN (dd.map dA),aa r1 [.nilIface],aa r [.slice none 0 0,.slice none 0 0]])/\rr.2=(if e7 x.m=true then 0 else 180)/\(e7 x.m=true->∃c:GS,T=[dG c]/\c.gn=rr.1.1/\c.gr=rr.1.2/\c.m=kz x.m):=by
  rcases hC with⟨hok,h2,c,h3,h4,h5,k⟩|⟨iX,h2,_,k⟩
  ·exact⟨[dG c],s7.aZ k,by rw[jd hok];exact h2,λ_=>⟨c,rfl,h3,h4,h5⟩⟩
  ·exact⟨[],s7.grow k,by rw[iX,jc (by simp)];exact h2,λh=>by rw[iX]at h;cases h⟩
 clear hC;obtain⟨⟨cn,cr⟩,ce⟩:=rr;obtain⟨T,s8,hce,hT⟩:=keep;dsimp only at hce hT⊢;refine St.nw s8 λr4 w9 s9 _ _=>s9.st (i:=0) (by simp) trivial λiF bH=>bH.st (i:=1) (by simp) trivial λoW cR=>?_;have cR:St aA w oW ((aa r4 [slV cn,slV cr]::T)++[aa r3 [slV x.gn,slV x.gr],dG x,aq 1 t (dd.map λx=>slV x.1),aN (dd.map dA),aa r1 [.nilIface],aa r [.slice none 0 0,.slice none 0 0]]):=cR;obtain⟨B7,og⟩:∃B7:Bool,B7=decide (e7 x.m=true/\kz x.m=x.m/\aE x.m=dd.map (·.2)):=⟨_,rfl⟩;refine aL (λ_ W=>B7=true/\∃T,St aA w W ([aa r3 [slV x.gn,slV x.gr],dG x,aa r1 [.nilIface],aa r [.slice none 0 0,.slice none 0 0]]++T)) ?_ ?_
 ·refine aL (λs' W=>s'= !B7/\∃T,St aA w W ([aa r3 [slV x.gn,slV x.gr],dG x,aa r1 [.nilIface],aa r [.slice none 0 0,.slice none 0 0]]++T)) ?_ ?_
  ·have base:∀{W T},St aA w W (T++[aa r3 [slV x.gn,slV x.gr],dG x,aq 1 t (dd.map λx=>slV x.1),aN (dd.map dA),aa r1 [.nilIface],aa r [.slice none 0 0,.slice none 0 0]])->∃T,St aA w W ([aa r3 [slV x.gn,slV x.gr],dG x,aa r1 [.nilIface],aa r [.slice none 0 0,.slice none 0 0]]++T):=
    λs=>⟨[],s.z9.bE [0,1,4,5] 6⟩
   refine ah (λhne=>?_) λheq=>?_
   ·have hb:e7 x.m=false:=by
     cases h:e7 x.m with
     |false=>rfl
     |true=>rw[hce,h]at hne;simp at hne
    exact⟨by rw[og,decide_eq_false (λh=>by rw[hb]at h;cases h.1)];rfl,base cR⟩
   have hok:e7 x.m=true:=by
    cases h:e7 x.m with
    |true=>rfl
    |false=>rw[hce,h]at heq;simp at heq
   obtain⟨c,rfl,rfl,rfl,kU⟩:=hT hok;have cR:St aA w oW [aa r4 [slV c.gn,slV c.gr],dG c,aa r3 [slV x.gn,slV x.gr],dG x,aq 1 t (dd.map λx=>slV x.1),aN (dd.map dA),aa r1 [.nilIface],aa r [.slice none 0 0,.slice none 0 0]]:=cR;refine bY.aQ (l:=[.slice,.slice]) (p:=(c.gn,c.gr)) cR.box ?_;refine bY.aQ (l:=[.slice,.slice]) (p:=(x.gn,x.gr)) (cR.af 2).box ?_;refine fO (X6 c x _ (St.rg (cR.af 1) (GS.cJ.2 (by rw[kU];exact nF hok))) (St.rg (cR.af 3) j4)) ?_;rintro _ rK ⟨rfl,Lp⟩;have eH:=cR.grow Lp;refine ah (λhne=>?_) λheq=>?_
   ·simp only[Bool.not_eq_true',ja]at hne
    exact⟨by rw[og,decide_eq_false (λh=>hne (by rw[kU];exact h.2.1))];rfl,base (T:=[_,_]) eH⟩
   ·simp only[Bool.not_eq_false',jb]at heq
    refine bY.aQ (l:=[.slice,.slice]) (p:=(x.gn,x.gr)) (eH.af 2).box ?_;refine fO (Vu x _ (St.rg (eH.af 3) j4)) ?_;rintro _ q7 ⟨db,rfl,NW⟩;have fJ:=eH.aZ NW;obtain⟨u,m,l6⟩:=oP.rd fJ;simp only[ag];refine l6.ld (i:=0) (s:=.slice) (p:=u) rfl ?_;have l6:St aA w q7 [aa db [slV u,.map (some m)],aq 1 u ((fk x.xs).map λy=>slV y.ds),er jS m (xA ((fk x.xs).map (·.d))),aa r4 [slV c.gn,slV c.gr],dG c,aa r3 [slV x.gn,slV x.gr],dG x,aq 1 t (dd.map λx=>slV x.1),aN (dd.map dA),aa r1 [.nilIface],aa r [.slice none 0 0,.slice none 0 0]]:=l6;have VV:=St.rg (l6.af 6) j4;have ve:=x7 x.xs [];rw[List.length_nil]at ve;have hu:MS (λz:Sl×LB=>slV z.1) q7 u ((fk x.xs).map λy=>(y.ds,y.d)):=by
     refine bz.ms (n0:=0) ?_;rw[List.map_map];exact(l6.af 1).sl
    have ht:MS (λz:Sl×LB=>slV z.1) q7 t dd:=bz.ms (l6.af 7).sl;have BQ:∀y∈dd,BS q7 y.1 y.2:=by
     intro y hy;obtain⟨_,F,hh,_⟩:=l6.af 8;obtain⟨G1,M8,_⟩:=Has.mem hh (List.mem_cons_self ..);obtain⟨G3,M9,_⟩:=Has.mem (show Has (dd.map dA) q7 G1 from M8) (kg.2 ⟨y,hy,rfl⟩);exact M9.1.bs
    have X7:∀z∈(fk x.xs).map (λy:NS=>(y.ds,y.d)),BS q7 z.1 z.2:=by
     intro z hz;obtain⟨y,hy,rfl⟩:=kg.1 hz;exact VV.bd y ((oY _ _ y hy).elim (λh=>by cases h) id)
    refine fO (X4 u t _ dd q7 hu ht X7 BQ (by rw[je];unfold fk;omega)) ?_;rintro _ _ ⟨rfl,rfl⟩;have e:((fk x.xs).map (λy:NS=>(y.ds,y.d))).map (·.2)=aE x.m:=by
     rw[<-oX,List.map_map];rfl
    rw[e];refine⟨?_,base (T:=[_,_,_,_,_]) l6⟩;rw[og]
    congr 1
    rw[Bool.eq_iff_iff];simp only[jb];exact⟨λh=>⟨hok,by rw[<-kU];exact heq,h⟩,λh=>h.2.2⟩
  ·rintro _ W2 ⟨rfl,T2,eH⟩
   refine ah (λhb=>?_) λhb=>?_
   ·simp only[Bool.not_eq_true']at hb
    refine ck (Nb ((l.length-4:Nat):Int) (.iface 24 (.int .i64 180)) W2 trivial) ?_ λ_ _ h=>h.elim;rintro ch w' ⟨rb,rfl,k⟩;have RQ:St aA w W2 [aa r3 [slV x.gn,slV x.gr],dG x,aa r1 [.nilIface],aa r [.slice none 0 0,.slice none 0 0]]:=eH.jR;have fJ:=RQ.aZ k;refine QC rb (l.length-4) 180 w' [] _ _ _ ?_ (fJ.bE [3,4,0] 5);rw[hun,jc];rw[og,ja]at hb;exact hb
   ·simp only[Bool.not_eq_false']at hb
    exact⟨hb,T2,eH⟩
 rintro⟨⟩ W2 ⟨KZ,T2,eH⟩;rw[KZ]at og;have og:=ju og.symm;rw[jd og]at hun;have eH:St aA w W2 [aa r3 [slV x.gn,slV x.gr],dG x,aa r1 [.nilIface],aa r [.slice none 0 0,.slice none 0 0]]:=eH.jR;refine bY.aQ (l:=[.slice,.slice]) (p:=(x.gn,x.gr)) eH.box ?_;refine(eH.af 3).st (i:=0) (by simp) trivial λq7 fJ=>fJ.st (i:=1) (by simp) trivial λK2 l6=>?_;refine(l6.af 3).KR trivial λJJ vn=>?_;refine mE (some ⟨r,0,none⟩) (some ⟨r1,0,none⟩) .nilIface .returning (λ_=>_) JJ (.inl ⟨rfl,rfl⟩) ?_;unfold QB;refine⟨trivial,ah (λ_=>?_) λh=>by cases h⟩;have vn:St aA w JJ [aa r1 [.nilIface],aa r [slV x.gn,slV x.gr],aa r3 [slV x.gn,slV x.gr],dG x]:=vn;refine bY.aQ (l:=[.slice,.slice]) (p:=(x.gn,x.gr)) (vn.af 1).box ?_;refine vn.Ab (s:=.any) (p:=.nilIface) rfl ?_;exact .inl ⟨x,hun,rfl,rfl,j4,vn.bE [3] 4⟩
abbrev Pos:=Except Nat Nat
def Pos.at(σ:Pos):Nat:=match σ with
 |.ok p=>p
 |.error e=>e
def Pos.bad(σ:Pos):Bool:=match σ with
 |.ok _=>false
 |.error _=>true
def Pos.in(l:LB)(σ:Pos):Prop:=Pos.at σ<=l.length
theorem qX{n:Nat}(h:n<256):(UInt8.ofNat n).toNat=n:=by
 rw[UInt8.toNat_ofNat'];exact Nat.mod_eq_of_lt h
theorem GD:∀(f n v i:Nat) (rest:LB),i+f=9->n<128^(f+1)->(i=9->n<=1)->(0<i->n≠0)->(0<f->i+f=9->n<2*128^f)->
 pJ (kn f n++rest) v i=(v+n*2^(7*i),i+(kn f n).length,0)
 |
  0,n,v,i,rest,hi,hn,h9,h0,_=>by
  have Za:i=9:=by omega
  have XX:=h9 Za;simp only[kn,List.cons_append,List.nil_append,List.length_cons,List.length_nil];rw[ff,qX (by omega),jc,jd (by omega)];rintro(h|h)
  ·omega
  ·exact h0 (by omega) h.2
 |
  f+1,n,v,i,rest,hi,hn,h9,h0,hb=>by
  unfold kn;by_cases hs:n<128
  ·rw[jd hs]
   simp only[List.cons_append,List.nil_append,List.length_cons,List.length_nil];rw[ff,qX (by omega),jc,jd hs];rintro(h|h)
   ·omega
   ·exact h0 h.1 h.2
  ·rw[jc hs]
   simp only[List.cons_append,List.length_cons];rw[ff,qX (by omega),jc (by omega),jc (by omega)];have hb':=hb (by omega) hi;have hd:n/128<128^(f+1):=by
    rw[Nat.div_lt_iff_lt_mul (by decide)];rw[Nat.pow_succ]at hn;exact hn
   have Dl:n/128<2*128^f:=by
    rw[Nat.div_lt_iff_lt_mul (by decide)];rw[Nat.pow_succ]at hb';omega
   rw[GD f (n/128) _ (i+1) rest (by omega) hd (λh=>by
    have:f=0:=by omega
    subst this;simp at Dl;omega) (λ_=>by omega) (λ_ _=>Dl)]
   have e:(n%128+128)%128=n%128:=by omega
   rw[e];have e2:n=n%128+128*(n/128):=by omega
   have e3:2^(7*(i+1))=128*2^(7*i):=by rw[show 7*(i+1)=7+7*i by omega,Nat.pow_add]
   rw[e3]
   congr 1
   ·have:n*2^(7*i)=(n%128)*2^(7*i)+(n/128)*(128*2^(7*i)):=by
     conv=>lhs;rw[e2]
     rw[Nat.add_mul]
     congr 1
     rw[Nat.mul_comm 128,Nat.mul_assoc]
    omega
   ·congr 1
    omega
theorem GF{n:Nat}(rest:LB)(h:n<2^62):dj (cA n++rest)=(n,(cA n).length,0):=by
 unfold dj cA;rw[GD 9 n 0 0 rest rfl (by
  have:(2:Nat)^62<=128^10:=by decide
  omega) (by omega) (by omega) (λ_ _=>by
   have:(2:Nat)^62<=2*128^9:=by decide
   omega)]
 simp
def vl(l:LB)(p q:Nat)(B:LB):Prop:=l.drop p=B++l.drop q/\q=p+B.length
theorem vl.nil(l:LB)(p:Nat):vl l p p []:=⟨rfl,rfl⟩
theorem vl.app{l:LB}{p q r:Nat}{A B:LB}(h:vl l p q A)(k:vl l q r B):vl l p r (A++B):=by
 refine⟨by rw[h.1,k.1,jt],?_⟩;rw[k.2,h.2,jh];omega
theorem vl.cut{l:LB}{p r:Nat}{A B:LB}(h:vl l p r (A++B)):vl l p (p+A.length) A/\vl l (p+A.length) r B:=by
 obtain⟨h1,h2⟩:=h;rw[jt]at h1;have e:l.drop (p+A.length)=B++l.drop r:=by
  rw[<-List.drop_drop,h1];simp
 exact⟨⟨by rw[e];exact h1,rfl⟩,e,by rw[h2,jh];omega⟩
theorem gu{l:LB}{most p v q:Nat}(h:vl l p q (cA v))(hv:v<most)(h2:v<2^62):eu l most p=.ok (v,q):=by
 unfold eu;rw[h.1,GF _ h2,jc (by simp;omega),h.2]
theorem va{l:LB}{p q:Nat}{x:LB}(h:vl l p q (fm x))(hx:x.length<8193)(hp:p<=l.length):jD l p=.ok (x,q):=by
 unfold fm at h;obtain⟨h1,h2⟩:=h.cut;have hn:=gu (most:=8193) h1 hx (by
  have:(8193:Nat)<2^62:=by decide
  omega)
 unfold jD;rw[hn];dsimp only;have hd:=h2.1;have hlen:x.length<=l.length-(p+(cA x.length).length):=by
  have:=congrArg List.length hd;rw[jh,kf]at this;omega
 rw[jc (by omega),hd,h2.2];simp
theorem nj{α:Type}{f:Nat->rW α}{B:α->LB}(l:LB):∀{xs:List α} {p q:Nat},(∀p q,∀x∈xs,vl l p q (B x)->p<=l.length->f p=.ok (x,q)/\q<=l.length)->p<=l.length->vl l p q (xs.flatMap B)->c8 f xs.length p=.ok (xs,q)
 |
  [],p,q,_,_,h=>by
  have:=h.2;simp only[List.flatMap_nil,List.length_nil,Nat.add_zero]at this;subst this;rfl
 |
  x::xs,p,q,hf,hp,h=>by
  rw[List.flatMap_cons]at h;obtain⟨h1,h2⟩:=h.cut;have h3:=hf _ _ x (List.mem_cons_self ..) h1 hp;rw[List.length_cons,c8,h3.1];dsimp only;rw[nj l (λp q y hy=>hf p q y (List.mem_cons_of_mem _ hy)) h3.2 h2];rfl
theorem JH(ds:List (LB))(n:GN):eE ds n=cA n.k.toNat++(cA (bD ds n.d)++(cA n.p.length++n.p.flatMap λp=>cA (p+1).toNat)):=by
 unfold eE ie;simp[jt]
theorem A4{l:LB}{p q:Nat}{x:Int}(h:vl l p q (cA (x+1).toNat))(h1: -1<=x/\x<=8191):j5 l p=.ok (x,q):=by
 unfold j5;rw[gu (most:=8193) h (by omega) (by
  have:(8193:Nat)<2^62:=by decide
  omega)]
 dsimp only;rw[show(((x+1).toNat:Nat):Int)-1=x by omega]
theorem GH{l:LB}{ds:List (LB)}{p q:Nat}{n:GN}(h:vl l p q (eE ds n))(hp:p<=l.length)(hk:0<=n.k/\n.k<=3)(hd:n.d∈ds)(hl:n.p.length<=8192)(ve:ds.length<=8192)(WA:∀x∈n.p,-1<=x/\x<=8191)(hq:q<=l.length):
 ew l ds p=.ok (n,q):=by
 rw[JH]at h;obtain⟨s1,h⟩:=h.cut;obtain⟨s2,h⟩:=h.cut;obtain⟨s3,s4⟩:=h.cut;have hdn:=tg hd;have Bd:(8193:Nat)<2^62:=by decide
 have e1:=gu (most:=4) s1 (by omega) (by omega);have e2:=gu (most:=ds.length) s2 hdn (by omega);have e3:=gu (most:=8193) s3 (by omega) (by omega);have hb:p+(cA n.k.toNat).length+(cA (bD ds n.d)).length+(cA n.p.length).length<=l.length:=by have:=s4.2;omega
 have e4:=nj (B:=λp:Int=>cA (p+1).toNat) (f:=j5 l) l (xs:=n.p) (λp q x hx hs hp=>⟨A4 hs (WA x hx),(th (A4 hs (WA x hx)) hp).1⟩) hb s4;unfold ew;rw[e1];dsimp only;rw[e2];dsimp only;rw[e3];dsimp only;rw[e4];dsimp only;have NU:(ds[bD ds n.d]?).getD []=n.d:=by
  rw[jl hdn];have:=List.findIdx_getElem (w:=hdn);exact eq_of_beq this
 rw[NU,show((n.k.toNat:Nat):Int)=n.k by omega]
theorem GI{l:LB}{p q:Nat}{r:RM}(h:vl l p q (cG r))(hp:p<=l.length)(hs:r.1.length<=8192)(hr:0<=r.2/\r.2<8192):gH l p=.ok (r,q):=by
 unfold cG at h;obtain⟨s1,s2⟩:=h.cut;have Bd:(8193:Nat)<2^62:=by decide
 have e1:=va s1 (by omega) hp;have e2:=gu (most:=8192) s2 (by omega) (by omega);unfold gH;rw[e1];dsimp only;rw[e2];dsimp only;rw[show((r.2.toNat:Nat):Int)=r.2 by omega]
theorem Dd{G:GG}(ht:G.nG):dg (gZ G (aE G)) 8=.ok (G,aE G):=by
 have ve:=nH G;have gy:=ht.nl;have Bd:(8193:Nat)<2^62:=by decide
 have hd:∀d∈aE G,d.length<=8192:=λd hd=>by
  obtain⟨n,hn,rfl⟩:=p6 G d hd;have:=ht.dl n hn;omega
 generalize hl:gZ G (aE G)=l;have hb:l=bU++((cA (aE G).length++(aE G).flatMap fm)++((cA G.n.length++G.n.flatMap (eE (aE G)))++(cA G.r.length++G.r.flatMap cG))):=by
  rw[<-hl];unfold gZ;simp only[jt]
 have h8:bU.length=8:=rfl;have s:vl l 8 l.length ((cA (aE G).length++(aE G).flatMap fm)++((cA G.n.length++G.n.flatMap (eE (aE G)))++(cA G.r.length++G.r.flatMap cG))):=by
  refine⟨?_,?_⟩
  ·conv=>lhs;rw[hb]
   rw[List.drop_length,List.append_nil,List.drop_append_of_le_length (by omega)];rw[show bU.drop 8=[]from rfl,List.nil_append]
  ·conv=>lhs;rw[hb]
   rw[jh,h8]
 obtain⟨s1,s⟩:=s.cut;obtain⟨s2,s3⟩:=s.cut;have QM:8+(cA (aE G).length++(aE G).flatMap fm).length+(cA G.n.length++G.n.flatMap (eE (aE G))).length<=l.length:=by have:=s3.2;omega
 generalize VQ:8+(cA (aE G).length++(aE G).flatMap fm).length=p1 at *;generalize Q2:p1+(cA G.n.length++G.n.flatMap (eE (aE G))).length=p2 at *;have Zb:p1<=l.length:=by omega
 have e1:fo l 8=.ok (aE G,p1):=by
  obtain⟨t1,t2⟩:=s1.cut;unfold fo;rw[gu (most:=8193) t1 (by omega) (by omega)];exact nj l (λp q x hx hs hp=>⟨va hs (by have:=hd x hx;omega) hp,(mB (va hs (by have:=hd x hx;omega) hp) hp).1⟩) (by have:=t2.2;omega) t2
 have e2:eF l (aE G) p1=.ok (G.n,p2):=by
  obtain⟨t1,t2⟩:=s2.cut;unfold eF;rw[gu (most:=8193) t1 (by omega) (by omega)];refine nj (B:=eE (aE G)) l (λp q x hx hs hp=>?_) (by have:=t2.2;omega) t2;have hq:q<=l.length:=by
   have h1:=congrArg List.length hs.1;rw[jh,kf,kf]at h1;have h2:=hs.2;omega
  have nq:=ht.pl x hx;exact⟨GH hs hp (ht.kk x hx) (p7 hx) (by omega) (by omega) (λy hy=>by have:=ht.pr x hx y hy;omega) hq,hq⟩
 have e3:eS l p2=.ok (G.r,l.length):=by
  obtain⟨t1,t2⟩:=s3.cut;have hrl:=ht.rl;unfold eS;rw[gu (most:=8193) t1 (by omega) (by omega)];refine nj (B:=cG) l (λp q x hx hs hp=>?_) (by have:=t2.2;omega) t2;have jZ:=ht.sl x hx;have Xh:=ht.rr x hx;have h:=GI hs hp (by omega) (by omega);exact⟨h,(nJ h hp).1⟩
 rw[vL e1 e2 e3,jc (by omega)]
set_option maxRecDepth 100000
def Ur:An:=(.sq .z (.sq (.sq (.jn [(11,.c .bool)] .z) (.br (.sq .z .z) .z)) (.sq .z (.sq .z .z))))
def RX(p0:Value)(p1:Value)(Q:Bool->Pr):Pr:=
 jn (S:=Bool) (λR=>
 aP (tK p0)<|
 br (cg p0) (
 R true) (
 aP (tK p1)<|
 R ((cg p1)))) λs=>
 br s (
 oQ Pq p0 p1 λsame=>
 Q same) (
 fP Pq 107 [p1] [.c .any] λ(t16:Value)=>
 cY Pq t16 "Comparable" [] [.c .bool] λ(t17:Bool)=>
 cB 108 [p0,p1,(.bool t17)] λt21=>
 Q t21)
theorem r8(p0:Value)(p1:Value)(Q:Bool->Pr)(w:World)(h:RX p0 p1 Q w):Calls Pq 54 #[p0,p1] w (aC [.c .bool] Q):=cF (an:=Ur) Tryz.func54 (by kernel_rfl) h
def PT:An:=(.sq .z (.bl (.lp [(0,.c .any)] (.bl (.sq (.sq (.jn [(19,.c .bool)] .z) (.br (.sq .z .z) .z)) (.sq (.sq .z (.sq (.jn [(30,.c .bool)] .z) (.br (.sq .z .z) .z))) (.sq .z (.bl (.sq .z (.br (.sq .z (.sq .z (.sq .z (.br (.sq .z .z) .z)))) (.sq .z (.br (.sq .z (.sq (.sq .z (.bl (.lp [(45,.c (.int .i64))] (.sq .z (.sq (.br .z .z) (.sq (.bl (.sq .z (.sq .z (.br (.sq .z .z) .z)))) .z)))))) (.sq .z .z))) (.sq .z (.sq .z .z))))))))))))))
def LC(p0:Value)(p1:Value)(p2:Bool)(Q:Bool->Pr):Pr:=
 aM (S:=Value) (λX s=>
 jn (S:=Bool) (λR=>
 br p2 (
 oQ Pq s p1 λsame=>
 R same) (
 R false)) λs_1=>
 br s_1 (
 Q true) (
 H6 Pq #[("Is",72)] s true λKw=>
 jn (S:=Bool) (λbG=>
 br Kw (
 cY Pq (if Kw=true then s else .nilIface) "Is" [p1] [.c .bool] λ(t29:Bool)=>
 bG t29) (
 bG false)) λs_2=>
 br s_2 (
 Q true) (
 H6 Pq #[("Unwrap",71)] s true λKx=>
 br Kx (
 cY Pq (if Kx=true then s else .nilIface) "Unwrap" [] [.c .any] λ(t36:Value)=>
 aP (tK t36)<|
 br (cg t36) (
 Q false) (
 X t36)) (
 H6 Pq #[("Unwrap",274)] s true λKy=>
 br Ky (
 cY Pq (if Ky=true then s else .nilIface) "Unwrap" [] [.c .slice] λ(t43:Sl)=>
 aM (S:=Int) (λjM dB=>
 br (decide (dB<(t43.len:Int))) (
 aP ((0:Int)<=dB/\dB<(t43.len:Int))<|
 deref t43.a λa=>
 deref (some (a.add (Int.toNat dB*1))) λa_1=>
 au .any a_1 λ(t48:Value)=>
 cB 108 [t48,p1,(.bool p2)] λt52=>
 br t52 (
 Q true) (
 jM ((IntKind.wrap .i64 (dB+1))))) (
 Q false)) 0) (
 Q false))))) p0
theorem qd(p0:Value)(p1:Value)(p2:Bool)(Q:Bool->Pr)(w:World)(h:LC p0 p1 p2 Q w):Calls Pq 108 #[p0,p1,(.bool p2)] w (aC [.c .bool] Q):=cF (an:=PT) Tryz.func108 (by kernel_rfl) h
def PU:An:=(.sq .z (.sq .z .z))
def N2(p0:OA)(Q:Value->Pr):Pr:=
 deref p0 λa=>
 deref (some a) λa_1=>
 deref (some (a_1.add 1)) λa_2=>
 au .any a_2 λ(t6:Value)=>
 Q t6
theorem yB(p0:OA)(Q:Value->Pr)(w:World)(h:N2 p0 Q w):Calls Pq 375 #[(.pointer p0)] w (aC [.c .any] Q):=cF (an:=PU) Tryz.func375 (by kernel_rfl) h
def Us:An:=(.sq .z (.sq (.sq .z (.br (.sq .z .z) .z)) (.sq (.jn [] (.sq .z (.br .z .z))) (.sq .z (.sq .z (.sq (.jn [] (.sq (.jn [(23,.c .bool)] .z) (.br .z .z))) (.sq .z (.sq (.jn [] (.sq (.jn [(35,.c .bool)] .z) (.br .z .z))) (.sq .z .z)))))))))
def RU(p0:Value)(p1:Value)(Q:Bool->Pr):Pr:=
 aP (tK p0)<|
 br (cg p0) (
 Q false) (
 jn (S:=Unit) (λR=>
 aP (tK p1)<|
 br (cg p1) (
 bK) (
 R ())) λs=>
 fP Pq 103 [p1] [.agg [.ptr,.any,(.int .u64)]] λ(t14:(OA)×Value×Int)=>
 nw (.cells #[(.pointer none),(.pointer none),(.int .u64 0)] 186) λr=>
 deref (some ⟨r,0,none⟩) λa=>
 st (a.add 0) (.pointer t14.1)<|
 st (a.add 1) t14.2.1<|
 st (a.add 2) (.int .u64 t14.2.2)<|
 deref (some ⟨r,0,none⟩) λa_1=>
 aQ [.ptr,.any,(.int .u64)] a_1 λ(t15:(OA)×Value×Int)=>
 fP Pq 104 [(.agg #[(.pointer t15.1),t15.2.1,(.int .u64 t15.2.2)])] [.c .any] λ(t16:Value)=>
 jn (S:=Unit) (λbG=>
 jn (S:=Bool) (λjN=>
 cY Pq t16 "Kind" [] [.c (.int .u8)] λ(t18:Int)=>
 br (t18 !=22) (
 jN true) (
 deref (some ⟨r,0,none⟩) λa_2=>
 aQ [.ptr,.any,(.int .u64)] a_2 λ(t21:(OA)×Value×Int)=>
 fP Pq 105 [(.agg #[(.pointer t21.1),t21.2.1,(.int .u64 t21.2.2)])] [.c .bool] λ(t22:Bool)=>
 jN t22)) λs_2=>
 br s_2 (
 bK) (
 bG ())) λs_1=>
 cY Pq t16 "Elem" [] [.c .any] λ(t26:Value)=>
 jn (S:=Unit) (λvk=>
 jn (S:=Bool) (λGZ=>
 cY Pq t26 "Kind" [] [.c (.int .u8)] λ(t28:Int)=>
 br (t28 !=20) (
 deref (some ⟨0,0,none⟩) λbX=>
 au .any bX λ(t32:Value)=>
 cY Pq t26 "Implements" [t32] [.c .bool] λ(t33:Bool)=>
 GZ (!t33)) (
 GZ false)) λbB=>
 br bB (
 bK) (
 vk ())) λdB=>
 deref (some ⟨r,0,none⟩) λc6=>
 aQ [.ptr,.any,(.int .u64)] c6 λ(t39:(OA)×Value×Int)=>
 cB 106 [p0,p1,(.agg #[(.pointer t39.1),t39.2.1,(.int .u64 t39.2.2)]),t26] λt41=>
 Q t41)
theorem rZ(p0:Value)(p1:Value)(Q:Bool->Pr)(w:World)(h:RU p0 p1 Q w):Calls Pq 53 #[p0,p1] w (aC [.c .bool] Q):=cF (an:=Us) Tryz.func53 (by kernel_rfl) h
def PV:An:=(.sq .z (.bl (.lp [(0,.c .any)] (.bl (.sq (.sq .z (.br (.sq .z (.sq .z .z)) .z)) (.sq (.sq .z (.sq (.jn [(35,.c .bool)] .z) (.br (.sq .z .z) .z))) (.sq .z (.bl (.sq .z (.br (.sq .z (.sq .z (.sq .z (.br (.sq .z .z) .z)))) (.sq .z (.br (.sq .z (.sq (.sq .z (.bl (.lp [(50,.c (.int .i64))] (.sq .z (.sq (.br .z .z) (.sq (.jn [] (.bl (.sq .z (.sq (.sq .z (.br .z .z)) (.sq .z (.br (.sq .z .z) .z)))))) .z)))))) (.sq .z .z))) (.sq .z (.sq .z .z))))))))))))))
def Ly(p0:Value)(p1:Value)(JB:OA)(JC:Value)(JD:Int)(p3:Value)(Q:Bool->Pr):Pr:=
 nw (.cells #[(.pointer JB),JC,(.int .u64 JD)] 186) λr=>
 aM (S:=Value) (λX s=>
 fP Pq 107 [s] [.c .any] λ(t17:Value)=>
 cY Pq t17 "AssignableTo" [p3] [.c .bool] λ(t19:Bool)=>
 br t19 (
 deref (some ⟨r,0,none⟩) λa=>
 aQ [.ptr,.any,(.int .u64)] a λ(t20:(OA)×Value×Int)=>
 fP Pq 161 [(.agg #[(.pointer t20.1),t20.2.1,(.int .u64 t20.2.2)])] [.agg [.ptr,.any,(.int .u64)]] λ(t21:(OA)×Value×Int)=>
 fP Pq 103 [s] [.agg [.ptr,.any,(.int .u64)]] λ(t23:(OA)×Value×Int)=>
 fP Pq 162 [(.agg #[(.pointer t21.1),t21.2.1,(.int .u64 t21.2.2)]),(.agg #[(.pointer t23.1),t23.2.1,(.int .u64 t23.2.2)])] [] λ(t24:Unit)=>
 Q true) (
 H6 Pq #[("As",270)] s true λKz=>
 jn (S:=Bool) (λR=>
 br Kz (
 cY Pq (if Kz=true then s else .nilIface) "As" [p1] [.c .bool] λ(t34:Bool)=>
 R t34) (
 R false)) λs_1=>
 br s_1 (
 Q true) (
 H6 Pq #[("Unwrap",71)] s true λKA=>
 br KA (
 cY Pq (if KA=true then s else .nilIface) "Unwrap" [] [.c .any] λ(t41:Value)=>
 aP (tK t41)<|
 br (cg t41) (
 Q false) (
 X t41)) (
 H6 Pq #[("Unwrap",274)] s true λKB=>
 br KB (
 cY Pq (if KB=true then s else .nilIface) "Unwrap" [] [.c .slice] λ(t48:Sl)=>
 aM (S:=Int) (λjM s_2=>
 br (decide (s_2<(t48.len:Int))) (
 jn (S:=Unit) (λbG=>
 aP ((0:Int)<=s_2/\s_2<(t48.len:Int))<|
 deref t48.a λa_1=>
 deref (some (a_1.add (Int.toNat s_2*1))) λa_2=>
 au .any a_2 λ(t53:Value)=>
 aP (tK t53)<|
 br (cg t53) (
 bG ()) (
 deref (some ⟨r,0,none⟩) λbX=>
 aQ [.ptr,.any,(.int .u64)] bX λ(t58:(OA)×Value×Int)=>
 cB 106 [t53,p1,(.agg #[(.pointer t58.1),t58.2.1,(.int .u64 t58.2.2)]),p3] λt60=>
 br t60 (
 Q true) (
 bG ()))) λdB=>
 jM ((IntKind.wrap .i64 (s_2+1)))) (
 Q false)) 0) (
 Q false))))) p0
theorem qc(p0:Value)(p1:Value)(JB:OA)(JC:Value)(JD:Int)(p3:Value)(Q:Bool->Pr)(w:World)(h:Ly p0 p1 JB JC JD p3 Q w):Calls Pq 106 #[p0,p1,(.agg #[(.pointer JB),JC,(.int .u64 JD)]),p3] w (aC [.c .bool] Q):=cF (an:=PV) Tryz.func106 (by kernel_rfl) h
def Ut:An:=(.sq .z (.sq (.sq .z (.br (.sq .z .z) .z)) (.sq .z (.sq .z (.sq (.sq (.jn [(33,.c .bool)] .z) (.br (.sq .z .z) .z)) (.sq .z .z))))))
def VW(p0:Value)(Q:(Int×Int)×Bool->Pr):Pr:=
 nw (.cells #[(.int .i64 0),(.int .i64 0)] 26) λr=>
 aP (tK p0)<|
 br (cg p0) (
 deref (some ⟨r,0,none⟩) λa=>
 st (a.add 0) (.int .i64 0)<|
 st (a.add 1) (.int .i64 0)<|
 deref (some ⟨r,0,none⟩) λa_1=>
 aQ [(.int .i64),(.int .i64)] a_1 λ(res:Int×Int)=>
 Q ((res.1,res.2),true)) (
 aP (aK (.pointer none))<|nw (.cells #[(.pointer none)] 111) λr_1=>
 aP (aK (.int .i64 0))<|nw (.cells #[(.int .i64 0)] 24) λr_2=>
 jn (S:=Bool) (λR=>
 cB 53 [p0,(.iface 123 (.pointer (some ⟨r_1,0,none⟩)))] λt11=>
 br (!t11) (
 R true) (
 deref (some ⟨r_1,0,none⟩) λa_2=>
 au .ptr a_2 λ(t14:OA)=>
 aP True<|
 br (Option.isNone t14) (
 R true) (
 cB 53 [p0,(.iface 125 (.pointer (some ⟨r_2,0,none⟩)))] λt20=>
 br (!t20) (
 R true) (
 deref (some ⟨r_2,0,none⟩) λbX=>
 au (.int .i64) bX λ(t24:Int)=>
 br (t24==0) (
 R true) (
 deref (some ⟨r_2,0,none⟩) λc6=>
 au (.int .i64) c6 λ(t29:Int)=>
 cB 54 [p0,(.iface 24 (.int .i64 t29))] λt31=>
 R (!t31)))))) λs=>
 br s (
 deref (some ⟨r,0,none⟩) λc7=>
 st (c7.add 0) (.int .i64 0)<|
 st (c7.add 1) (.int .i64 0)<|
 deref (some ⟨r,0,none⟩) λcV=>
 aQ [(.int .i64),(.int .i64)] cV λ(cX:Int×Int)=>
 Q ((cX.1,cX.2),false)) (
 jE<|
 deref (some ⟨r_1,0,none⟩) λdy=>
 au .ptr dy λ(t35:OA)=>
 deref t35 λdO=>
 deref (some dO) λdP=>
 deref (some (dP.add 0)) λbu=>
 au (.int .i64) bu λ(t38:Int)=>
 deref (some ⟨r_2,0,none⟩) λbF=>
 au (.int .i64) bF λ(t39:Int)=>
 deref (some ⟨r,0,none⟩) λbw=>
 st (bw.add 0) (.int .i64 t38)<|
 st (bw.add 1) (.int .i64 t39)<|
 deref (some ⟨r,0,none⟩) λbJ=>
 aQ [(.int .i64),(.int .i64)] bJ λ(kQ:Int×Int)=>
 Q ((kQ.1,kQ.2),true)))
theorem Ck(p0:Value)(Q:(Int×Int)×Bool->Pr)(w:World)(h:VW p0 Q w):Calls Pq 20 #[p0] w (aC [.agg [(.int .i64),(.int .i64)],.c .bool] Q):=cF (an:=Ut) Tryz.func20 (by kernel_rfl) h
def YQ:An:=(.sq .z (.sq .z (.sq .z .z)))
def F9(p0:Value)(gP:Int)(ga:Int)(Q:Bool->Pr):Pr:=
 nw (.cells #[(.int .i64 gP),(.int .i64 ga)] 26) λr=>
 aH Pq 20 [p0] [.agg [(.int .i64),(.int .i64)],.c .bool] λ(t9:(Int×Int)×Bool)=>
 nw (.cells #[(.int .i64 0),(.int .i64 0)] 26) λr_1=>
 deref (some ⟨r_1,0,none⟩) λa=>
 st (a.add 0) (.int .i64 t9.1.1)<|
 st (a.add 1) (.int .i64 t9.1.2)<|
 br t9.2 (
 deref (some ⟨r_1,0,none⟩) λa_1=>
 aQ [(.int .i64),(.int .i64)] a_1 λ(t14:Int×Int)=>
 deref (some ⟨r,0,none⟩) λa_2=>
 aQ [(.int .i64),(.int .i64)] a_2 λ(t15:Int×Int)=>
 Q (((t14.1==t15.1)&&((t14.2==t15.2)&&true)))) (
 Q false)
theorem Et(p0:Value)(gP:Int)(ga:Int)(Q:Bool->Pr)(w:World)(h:F9 p0 gP ga Q w):Calls Pq 9 #[p0,(.agg #[(.int .i64 gP),(.int .i64 ga)])] w (aC [.c .bool] Q):=cF (an:=YQ) Tryz.func9 (by kernel_rfl) h
set_option maxRecDepth 20000
open Go.Eng Go.RowKit Go.Extern.Stop Go.Stop Go.Extern
abbrev eT(t:Nat):Value:=.iface 264 (.agg #[.pointer (some ⟨2,t,none⟩)])
theorem tu(args:Array Value)(w:World):(callFunc 103 args).run Pq w=(((λargs=>ReflectliteValue.unpack (args.getD 0 (.tuple #[])))) args|>.run Pq w).andThen λv w'=>.ok (.value v) w':=
 run_callFunc_extern (e:=λargs=>ReflectliteValue.unpack (args.getD 0 (.tuple #[]))) Tryz.func103 (by kernel_rfl) (by kernel_rfl) (by kernel_rfl) (by kernel_rfl) args w
theorem Ea(args:Array Value)(w:World):(callFunc 104 args).run Pq w=(((ReflectliteValue.methodAny (ReflectliteValue.valueError "reflectlite.Value.Type" 0) (λt _ _ _=>ReflectliteType.toType t))) args|>.run Pq w).andThen λv w'=>.ok (.value v) w':=
 run_callFunc_extern Tryz.func104 (by kernel_rfl) (by kernel_rfl) (by kernel_rfl) (by kernel_rfl) args w
theorem Eb(args:Array Value)(w:World):(callFunc 105 args).run Pq w=(((ReflectliteValue.method (ReflectliteValue.valueError "reflectlite.Value.IsNil" 0) ReflectliteValue.isNil)) args|>.run Pq w).andThen λv w'=>.ok (.value v) w':=
 run_callFunc_extern Tryz.func105 (by kernel_rfl) (by kernel_rfl) (by kernel_rfl) (by kernel_rfl) args w
theorem Ec(args:Array Value)(w:World):(callFunc 107 args).run Pq w=(ReflectliteType.typeOf args|>.run Pq w).andThen λv w'=>.ok (.value v) w':=
 run_callFunc_extern Tryz.func107 (by kernel_rfl) (by kernel_rfl) (by kernel_rfl) (by kernel_rfl) args w
theorem Ed(args:Array Value)(w:World):(callFunc 161 args).run Pq w=(((ReflectliteValue.method (ReflectliteValue.valueError "reflectlite.Value.Elem" 0) ReflectliteValue.elem)) args|>.run Pq w).andThen λv w'=>.ok (.value v) w':=
 run_callFunc_extern Tryz.func161 (by kernel_rfl) (by kernel_rfl) (by kernel_rfl) (by kernel_rfl) args w
theorem Ee(args:Array Value)(w:World):(callFunc 162 args).run Pq w=((ReflectliteValue.set) args|>.run Pq w).andThen λv w'=>.ok (.value v) w':=
 run_callFunc_extern Tryz.func162 (by kernel_rfl) (by kernel_rfl) (by kernel_rfl) (by kernel_rfl) args w
theorem o4(args:Array Value)(w:World):(callFunc 369 args).run Pq w=(((ReflectliteType.abiMethod λt=>do pure (.int .u8 (<-Rtype.kind t)))) args|>.run Pq w).andThen λv w'=>.ok (.value v) w':=
 run_callFunc_extern Tryz.func369 (by kernel_rfl) (by kernel_rfl) (by kernel_rfl) (by kernel_rfl) args w
theorem Au(args:Array Value)(w:World):(callFunc 383 args).run Pq w=(((ReflectliteType.method ReflectliteType.elem)) args|>.run Pq w).andThen λv w'=>.ok (.value v) w':=
 run_callFunc_extern Tryz.func383 (by kernel_rfl) (by kernel_rfl) (by kernel_rfl) (by kernel_rfl) args w
theorem Av(args:Array Value)(w:World):(callFunc 384 args).run Pq w=(((ReflectliteType.relation "Implements" ReflectliteType.implements_)) args|>.run Pq w).andThen λv w'=>.ok (.value v) w':=
 run_callFunc_extern Tryz.func384 (by kernel_rfl) (by kernel_rfl) (by kernel_rfl) (by kernel_rfl) args w
theorem tv(args:Array Value)(w:World):(callFunc 381 args).run Pq w=(((ReflectliteType.relation "AssignableTo" ReflectliteType.assignableTo)) args|>.run Pq w).andThen λv w'=>.ok (.value v) w':=
 run_callFunc_extern Tryz.func381 (by kernel_rfl) (by kernel_rfl) (by kernel_rfl) (by kernel_rfl) args w
theorem HP(args:Array Value)(w:World):(callFunc 382 args).run Pq w=((ReflectliteType.method λt=>do Rtype.noPackHeld "Comparable" t;pure (.bool (<-typeInfo t).comparable)) args|>.run Pq w).andThen λv w'=>.ok (.value v) w':=
 run_callFunc_extern Tryz.func382 (by kernel_rfl) (by kernel_rfl) (by kernel_rfl) (by kernel_rfl) args w
theorem B8(w:World):(ReflectliteType.method (λt=>do Rtype.noPackHeld "Comparable" t;pure (.bool (<-typeInfo t).comparable)) #[.agg #[.pointer (some ⟨2,24,none⟩)]]).run Pq w=.ok (.bool true) w:=by kernel_rfl
theorem rq(t:Addr)(w:World):(ReflectliteValue.unpack (.iface 123 (.pointer (some t)))).run Pq w=.ok (.agg #[.pointer (some ⟨2,123,none⟩),.pointer (some ⟨w.heap.size,0,none⟩),.int .u64 150]) (w.alloc (.cells #[.pointer (some t)] 123)):=by kernel_rfl
theorem ru(t:Addr)(w:World):(ReflectliteValue.unpack (.iface 125 (.pointer (some t)))).run Pq w=.ok (.agg #[.pointer (some ⟨2,125,none⟩),.pointer (some ⟨w.heap.size,0,none⟩),.int .u64 150]) (w.alloc (.cells #[.pointer (some t)] 125)):=by kernel_rfl
theorem tw(t:Addr)(w:World):(ReflectliteValue.unpack (.iface 111 (.pointer (some t)))).run Pq w=.ok (.agg #[.pointer (some ⟨2,111,none⟩),.pointer (some ⟨w.heap.size,0,none⟩),.int .u64 150]) (w.alloc (.cells #[.pointer (some t)] 111)):=by kernel_rfl
theorem tA(n:Int)(w:World):(ReflectliteValue.unpack (.iface 24 (.int .i64 n))).run Pq w=.ok (.agg #[.pointer (some ⟨2,24,none⟩),.pointer (some ⟨w.heap.size,0,none⟩),.int .u64 130]) (w.alloc (.cells #[.int .i64 n] 24)):=by kernel_rfl
theorem yo(a:Addr)(w:World):(ReflectliteValue.methodAny (ReflectliteValue.valueError "reflectlite.Value.Type" 0) (λt _ _ _=>ReflectliteType.toType t) #[.agg #[.pointer (some ⟨2,123,none⟩),.pointer (some a),.int .u64 150]]).run Pq w=.ok (eT 123) w:=by kernel_rfl
theorem yp(a:Addr)(w:World):(ReflectliteValue.methodAny (ReflectliteValue.valueError "reflectlite.Value.Type" 0) (λt _ _ _=>ReflectliteType.toType t) #[.agg #[.pointer (some ⟨2,125,none⟩),.pointer (some a),.int .u64 150]]).run Pq w=.ok (eT 125) w:=by kernel_rfl
theorem mF(h:Value)(w:World):(Go.method (Pq.types.size+Made.depth) 264 (.agg #[h]) "Kind").run Pq w=.ok (369,h) w:=by kernel_rfl
theorem vP(h:Value)(w:World):(Go.method (Pq.types.size+Made.depth) 264 (.agg #[h]) "Elem").run Pq w=.ok (383,.agg #[h]) w:=by kernel_rfl
theorem kC(h:Value)(w:World):(Go.method (Pq.types.size+Made.depth) 264 (.agg #[h]) "Implements").run Pq w=.ok (384,.agg #[h]) w:=by kernel_rfl
theorem fq(h:Value)(w:World):(Go.method (Pq.types.size+Made.depth) 264 (.agg #[h]) "AssignableTo").run Pq w=.ok (381,.agg #[h]) w:=by kernel_rfl
theorem qa(h:Value)(w:World):(Go.method (Pq.types.size+Made.depth) 264 (.agg #[h]) "Comparable").run Pq w=.ok (382,.agg #[h]) w:=by kernel_rfl
theorem yq(h:Value)(w:World):(Go.method (Pq.types.size+Made.depth) 111 h "Unwrap").run Pq w=.ok (375,h) w:=by kernel_rfl
theorem yt(w:World):((ReflectliteType.abiMethod λt=>(λa:Nat=>Value.int IntKind.u8 (a:Int))<$>Rtype.kind t) #[.pointer (some ⟨2,123,none⟩)]).run Pq w=.ok (.int .u8 22) w:=by kernel_rfl
theorem yu(w:World):((ReflectliteType.abiMethod λt=>(λa:Nat=>Value.int IntKind.u8 (a:Int))<$>Rtype.kind t) #[.pointer (some ⟨2,125,none⟩)]).run Pq w=.ok (.int .u8 22) w:=by kernel_rfl
theorem B9(w:World):((ReflectliteType.abiMethod λt=>(λa:Nat=>Value.int IntKind.u8 (a:Int))<$>Rtype.kind t) #[.pointer (some ⟨2,111,none⟩)]).run Pq w=.ok (.int .u8 22) w:=by kernel_rfl
theorem Ca(w:World):((ReflectliteType.abiMethod λt=>(λa:Nat=>Value.int IntKind.u8 (a:Int))<$>Rtype.kind t) #[.pointer (some ⟨2,24,none⟩)]).run Pq w=.ok (.int .u8 2) w:=by kernel_rfl
theorem yw(w:World):(ReflectliteType.method ReflectliteType.elem #[.agg #[.pointer (some ⟨2,123,none⟩)]]).run Pq w=.ok (eT 111) w:=by kernel_rfl
theorem yx(w:World):(ReflectliteType.method ReflectliteType.elem #[.agg #[.pointer (some ⟨2,125,none⟩)]]).run Pq w=.ok (eT 24) w:=by kernel_rfl
theorem Cb(w:World):(ReflectliteType.relation "Implements" ReflectliteType.implements_ #[.agg #[.pointer (some ⟨2,111,none⟩)],eT 45]).run Pq w=.ok (.bool true) w:=by kernel_rfl
theorem Cc(w:World):(ReflectliteType.relation "Implements" ReflectliteType.implements_ #[.agg #[.pointer (some ⟨2,24,none⟩)],eT 45]).run Pq w=.ok (.bool true) w:=by kernel_rfl
theorem vQ(v:Value)(w:World):(ReflectliteType.typeOf #[.iface 111 v]).run Pq w=.ok (eT 111) w:=by kernel_rfl
theorem vR(v:Value)(w:World):(ReflectliteType.typeOf #[.iface 24 v]).run Pq w=.ok (eT 24) w:=by kernel_rfl
theorem Cd(w:World):(ReflectliteType.relation "AssignableTo" ReflectliteType.assignableTo #[.agg #[.pointer (some ⟨2,111,none⟩)],eT 111]).run Pq w=.ok (.bool true) w:=by kernel_rfl
theorem Ce(w:World):(ReflectliteType.relation "AssignableTo" ReflectliteType.assignableTo #[.agg #[.pointer (some ⟨2,111,none⟩)],eT 24]).run Pq w=.ok (.bool false) w:=by kernel_rfl
theorem Cf(w:World):(ReflectliteType.relation "AssignableTo" ReflectliteType.assignableTo #[.agg #[.pointer (some ⟨2,24,none⟩)],eT 24]).run Pq w=.ok (.bool true) w:=by kernel_rfl
theorem QD(z:Sem Value)(f:TypeId->Addr->Nat->Nat->Sem Value)(v:Value):
 ReflectliteValue.method z f #[v]=(do match<-ReflectliteValue.parts v with|none=>z|some (t,a,fl)=>f t a fl (fl%32)):=rfl
theorem oo(a:Addr)(w:World):(ReflectliteValue.parts (.agg #[.pointer (some ⟨2,123,none⟩),.pointer (some a),.int .u64 150])).run Pq w=.ok (some (123,a,150)) w:=by kernel_rfl
theorem oq(a:Addr)(w:World):(ReflectliteValue.parts (.agg #[.pointer (some ⟨2,125,none⟩),.pointer (some a),.int .u64 150])).run Pq w=.ok (some (125,a,150)) w:=by kernel_rfl
theorem vS(a p:Addr)(W:World)(ha:W.cell? a=some (.pointer (some p))):
 (ReflectliteValue.method (ReflectliteValue.valueError "reflectlite.Value.IsNil" 0) ReflectliteValue.isNil #[.agg #[.pointer (some ⟨2,123,none⟩),.pointer (some a),.int .u64 150]]).run Pq W=.ok (.bool false) W:=by
 rw[QD];simp only[Sem.run_bind,oo,Result.andThen];simp[ReflectliteValue.isNil,loadVar,isAgg,underlying,Tryz.underlying123,ha,Result.andThen]
theorem vT(a p:Addr)(W:World)(ha:W.cell? a=some (.pointer (some p))):
 (ReflectliteValue.method (ReflectliteValue.valueError "reflectlite.Value.IsNil" 0) ReflectliteValue.isNil #[.agg #[.pointer (some ⟨2,125,none⟩),.pointer (some a),.int .u64 150]]).run Pq W=.ok (.bool false) W:=by
 rw[QD];simp only[Sem.run_bind,oq,Result.andThen];simp[ReflectliteValue.isNil,loadVar,isAgg,underlying,Tryz.underlying125,ha,Result.andThen]
theorem tB(w:World):(Rtype.elem? 123).run Pq w=.ok (some 111) w:=by kernel_rfl
theorem tC(w:World):(Rtype.elem? 125).run Pq w=.ok (some 24) w:=by kernel_rfl
theorem HQ(p:Addr)(w:World):(ReflectliteValue.mk 111 p ReflectliteValue.flagAddr).run Pq w=.ok (.agg #[.pointer (some ⟨2,111,none⟩),.pointer (some p),.int .u64 406]) w:=by kernel_rfl
theorem HR(p:Addr)(w:World):(ReflectliteValue.mk 24 p ReflectliteValue.flagAddr).run Pq w=.ok (.agg #[.pointer (some ⟨2,24,none⟩),.pointer (some p),.int .u64 386]) w:=by kernel_rfl
theorem vU(a p:Addr)(W:World)(ha:W.cell? a=some (.pointer (some p))):
 (ReflectliteValue.method (ReflectliteValue.valueError "reflectlite.Value.Elem" 0) ReflectliteValue.elem #[.agg #[.pointer (some ⟨2,123,none⟩),.pointer (some a),.int .u64 150]]).run Pq W
   =.ok (.agg #[.pointer (some ⟨2,111,none⟩),.pointer (some p),.int .u64 406]) W:=by
 rw[QD];simp only[Sem.run_bind,oo,Result.andThen];simp[ReflectliteValue.elem,loadVar,isAgg,underlying,Tryz.underlying123,ha,Result.andThen,tB,HQ]
theorem vV(a p:Addr)(W:World)(ha:W.cell? a=some (.pointer (some p))):
 (ReflectliteValue.method (ReflectliteValue.valueError "reflectlite.Value.Elem" 0) ReflectliteValue.elem #[.agg #[.pointer (some ⟨2,125,none⟩),.pointer (some a),.int .u64 150]]).run Pq W
   =.ok (.agg #[.pointer (some ⟨2,24,none⟩),.pointer (some p),.int .u64 386]) W:=by
 rw[QD];simp only[Sem.run_bind,oq,Result.andThen];simp[ReflectliteValue.elem,loadVar,isAgg,underlying,Tryz.underlying125,ha,Result.andThen,tC,HR]
theorem rls(v x:Value):ReflectliteValue.set #[v,x]=(do
 let(some (dst,a,fl),some (src,b,_)):=(<-ReflectliteValue.parts v,<-ReflectliteValue.parts x)
  |unsupported (.noEntry "extern/(internal/reflectlite.Value).Set.zeroValue")
 if fl/ReflectliteValue.flagAddr%2==0 then unsupported (.noEntry "extern/(internal/reflectlite.Value).Set.unaddressable")
 let val<-loadVar src b
 if<-Rtype.directlyAssignable dst src then storeVar dst a val
 else if<-Rtype.implements dst src then
  if(<-Rtype.kind src)==20 then
   match val with
   |.nilIface=>unsupported (.noEntry "extern/reflectlite: a nil value of one interface type handed on as a value of another")
   |_=>storeVar dst a val
  else storeVar dst a (.iface src val)
 else panicString ("reflectlite.Set: value of type "++(<-Rtype.spelt src)++ " is not assignable to type "++(<-Rtype.spelt dst))
 pure (.tuple #[])):=rfl
theorem vW(a:Addr)(w:World):(ReflectliteValue.parts (.agg #[.pointer (some ⟨2,111,none⟩),.pointer (some a),.int .u64 406])).run Pq w=.ok (some (111,a,406)) w:=by kernel_rfl
theorem yy(a:Addr)(w:World):(ReflectliteValue.parts (.agg #[.pointer (some ⟨2,111,none⟩),.pointer (some a),.int .u64 150])).run Pq w=.ok (some (111,a,150)) w:=by kernel_rfl
theorem vX(a:Addr)(w:World):(ReflectliteValue.parts (.agg #[.pointer (some ⟨2,24,none⟩),.pointer (some a),.int .u64 386])).run Pq w=.ok (some (24,a,386)) w:=by kernel_rfl
theorem yz(a:Addr)(w:World):(ReflectliteValue.parts (.agg #[.pointer (some ⟨2,24,none⟩),.pointer (some a),.int .u64 130])).run Pq w=.ok (some (24,a,130)) w:=by kernel_rfl
theorem vY(w:World):(Rtype.directlyAssignable 111 111).run Pq w=.ok true w:=by kernel_rfl
theorem vZ(w:World):(Rtype.directlyAssignable 24 24).run Pq w=.ok true w:=by kernel_rfl
theorem Ef(ta b e:Addr)(old:Value)(W:World)(hb:W.cell? b=some (.pointer (some e)))(ht:W.cell? ta=some old)(hf:W.frozen? ta=false):
 (ReflectliteValue.set #[.agg #[.pointer (some ⟨2,111,none⟩),.pointer (some ta),.int .u64 406],.agg #[.pointer (some ⟨2,111,none⟩),.pointer (some b),.int .u64 150]]).run Pq W
   =.ok (.tuple #[]) (W.setCell ta (.pointer (some e))):=by
 rw[rls];simp only[Sem.run_bind,vW,yy,Result.andThen];simp[ReflectliteValue.flagAddr,loadVar,isAgg,underlying,Tryz.underlying111,hb,Result.andThen,vY,storeVar,Value.cells,storeCells,Addr.add];rw[run_store Pq W ta _ _ (by rfl)];simp[ht,hf]
theorem Eg(ta b:Addr)(n:Int)(old:Value)(W:World)(hb:W.cell? b=some (.int .i64 n))(ht:W.cell? ta=some old)(hf:W.frozen? ta=false):
 (ReflectliteValue.set #[.agg #[.pointer (some ⟨2,24,none⟩),.pointer (some ta),.int .u64 386],.agg #[.pointer (some ⟨2,24,none⟩),.pointer (some b),.int .u64 130]]).run Pq W
   =.ok (.tuple #[]) (W.setCell ta (.int .i64 n)):=by
 rw[rls];simp only[Sem.run_bind,vX,yz,Result.andThen];simp[ReflectliteValue.flagAddr,loadVar,isAgg,underlying,Tryz.underlying24,hb,Result.andThen,vZ,storeVar,Value.cells,storeCells,Addr.add];rw[run_store Pq W ta _ _ (by rfl)];simp[ht,hf]
theorem bV{P:Program}{f:FuncId}{args:LV}{aU:List Sh}{k:b9 aU->Pr}{w w':World}(p:b9 aU)(h:(callFunc f args.toArray).run P w=.ok (.value (dM aU p)) w')(hk:k p w'):fP P f args aU k w:=⟨p,w',h,hk⟩
theorem cM{P:Program}{t:TypeId}{u recv:Value}{name:String}{f:FuncId}{args:LV}{aU:List Sh}{k:b9 aU->Pr}{w w':World}(p:b9 aU)(hm:(Go.method (P.types.size+Made.depth) t u name).run P w=.ok (f,recv) w)
 (h:(callFunc f (#[recv]++args.toArray)).run P w=.ok (.value (dM aU p)) w')(hk:k p w'):cY P (.iface t u) name args aU k w:=⟨t,u,f,recv,rfl,hm,.inr ⟨p,w',h,hk⟩⟩
theorem HS(t:Addr)(w:World):(callFunc 103 [Value.iface 123 (.pointer (some t))].toArray).run Pq w=.ok (.value (dM [.agg [.ptr,.any,.int .u64]] (some ⟨2,123,none⟩,.pointer (some ⟨w.heap.size,0,none⟩),150))) (w.alloc (.cells #[.pointer (some t)] 123)):=by
 rw[tu]
 erw [rq];rfl
theorem HT(t:Addr)(w:World):(callFunc 103 [Value.iface 125 (.pointer (some t))].toArray).run Pq w=.ok (.value (dM [.agg [.ptr,.any,.int .u64]] (some ⟨2,125,none⟩,.pointer (some ⟨w.heap.size,0,none⟩),150))) (w.alloc (.cells #[.pointer (some t)] 125)):=by
 rw[tu]
 erw [ru];rfl
theorem Lq(t:Addr)(w:World):(callFunc 103 [Value.iface 111 (.pointer (some t))].toArray).run Pq w=.ok (.value (dM [.agg [.ptr,.any,.int .u64]] (some ⟨2,111,none⟩,.pointer (some ⟨w.heap.size,0,none⟩),150))) (w.alloc (.cells #[.pointer (some t)] 111)):=by
 rw[tu]
 erw [tw];rfl
theorem Lr(n:Int)(w:World):(callFunc 103 [Value.iface 24 (.int .i64 n)].toArray).run Pq w=.ok (.value (dM [.agg [.ptr,.any,.int .u64]] (some ⟨2,24,none⟩,.pointer (some ⟨w.heap.size,0,none⟩),130))) (w.alloc (.cells #[.int .i64 n] 24)):=by
 rw[tu]
 erw [tA];rfl
abbrev vv(t:Nat)(a:Addr)(f:Int):Value:=.agg #[.pointer (some ⟨2,t,none⟩),.pointer (some a),.int .u64 f]
theorem HU(a:Addr)(w:World):(callFunc 104 [vv 123 a 150].toArray).run Pq w=.ok (.value (dM [.c .any] (eT 123))) w:=by
 rw[Ea]
 erw [yo];rfl
theorem HV(a:Addr)(w:World):(callFunc 104 [vv 125 a 150].toArray).run Pq w=.ok (.value (dM [.c .any] (eT 125))) w:=by
 rw[Ea]
 erw [yp];rfl
theorem HW(a p:Addr)(w:World)(h:w.cell? a=some (.pointer (some p))):(callFunc 105 [vv 123 a 150].toArray).run Pq w=.ok (.value (dM [.c .bool] false)) w:=by
 rw[Eb]
 erw [vS a p w h];rfl
theorem HX(a p:Addr)(w:World)(h:w.cell? a=some (.pointer (some p))):(callFunc 105 [vv 125 a 150].toArray).run Pq w=.ok (.value (dM [.c .bool] false)) w:=by
 rw[Eb]
 erw [vT a p w h];rfl
theorem Eh(v:Value)(w:World):(callFunc 107 [Value.iface 111 v].toArray).run Pq w=.ok (.value (dM [.c .any] (eT 111))) w:=by
 rw[Ec]
 erw [vQ];rfl
theorem yA(v:Value)(w:World):(callFunc 107 [Value.iface 24 v].toArray).run Pq w=.ok (.value (dM [.c .any] (eT 24))) w:=by
 rw[Ec]
 erw [vR];rfl
theorem HY(a p:Addr)(w:World)(h:w.cell? a=some (.pointer (some p))):(callFunc 161 [vv 123 a 150].toArray).run Pq w=.ok (.value (dM [.agg [.ptr,.any,.int .u64]] (some ⟨2,111,none⟩,.pointer (some p),406))) w:=by
 rw[Ed]
 erw [vU a p w h];rfl
theorem HZ(a p:Addr)(w:World)(h:w.cell? a=some (.pointer (some p))):(callFunc 161 [vv 125 a 150].toArray).run Pq w=.ok (.value (dM [.agg [.ptr,.any,.int .u64]] (some ⟨2,24,none⟩,.pointer (some p),386))) w:=by
 rw[Ed]
 erw [vV a p w h];rfl
theorem Ls(ta b e:Addr)(old:Value)(w:World)(hb:w.cell? b=some (.pointer (some e)))(ht:w.cell? ta=some old)(hf:w.frozen? ta=false):(callFunc 162 [vv 111 ta 406,vv 111 b 150].toArray).run Pq w=.ok (.value (dM [] ())) (w.setCell ta (.pointer (some e))):=by
 rw[Ee]
 erw [Ef ta b e old w hb ht hf];rfl
theorem Lt(ta b:Addr)(n:Int)(old:Value)(w:World)(hb:w.cell? b=some (.int .i64 n))(ht:w.cell? ta=some old)(hf:w.frozen? ta=false):(callFunc 162 [vv 24 ta 386,vv 24 b 130].toArray).run Pq w=.ok (.value (dM [] ())) (w.setCell ta (.int .i64 n)):=by
 rw[Ee]
 erw [Eg ta b n old w hb ht hf];rfl
theorem Cg{k:Int->Pr}{w:World}(h:k 22 w):cY Pq (eT 123) "Kind" [] [.c (.int .u8)] k w:=cM (22:Int) (mF _ w) (by rw[o4];erw [yt];rfl) h
theorem Ch{k:Int->Pr}{w:World}(h:k 22 w):cY Pq (eT 125) "Kind" [] [.c (.int .u8)] k w:=cM (22:Int) (mF _ w) (by rw[o4];erw [yu];rfl) h
theorem Ei{k:Int->Pr}{w:World}(h:k 22 w):cY Pq (eT 111) "Kind" [] [.c (.int .u8)] k w:=cM (22:Int) (mF _ w) (by rw[o4];erw [B9];rfl) h
theorem Ej{k:Int->Pr}{w:World}(h:k 2 w):cY Pq (eT 24) "Kind" [] [.c (.int .u8)] k w:=cM (2:Int) (mF _ w) (by rw[o4];erw [Ca];rfl) h
theorem Ci{k:Value->Pr}{w:World}(h:k (eT 111) w):cY Pq (eT 123) "Elem" [] [.c .any] k w:=cM (eT 111) (vP _ w) (by rw[Au];erw [yw];rfl) h
theorem Cj{k:Value->Pr}{w:World}(h:k (eT 24) w):cY Pq (eT 125) "Elem" [] [.c .any] k w:=cM (eT 24) (vP _ w) (by rw[Au];erw [yx];rfl) h
theorem Ek{k:Bool->Pr}{w:World}(h:k true w):cY Pq (eT 111) "Implements" [eT 45] [.c .bool] k w:=cM true (kC _ w) (by rw[Av];erw [Cb];rfl) h
theorem El{k:Bool->Pr}{w:World}(h:k true w):cY Pq (eT 24) "Implements" [eT 45] [.c .bool] k w:=cM true (kC _ w) (by rw[Av];erw [Cc];rfl) h
theorem Em{k:Bool->Pr}{w:World}(h:k true w):cY Pq (eT 111) "AssignableTo" [eT 111] [.c .bool] k w:=cM true (fq _ w) (by rw[tv];erw [Cd];rfl) h
theorem En{k:Bool->Pr}{w:World}(h:k false w):cY Pq (eT 111) "AssignableTo" [eT 24] [.c .bool] k w:=cM false (fq _ w) (by rw[tv];erw [Ce];rfl) h
theorem Eo{k:Bool->Pr}{w:World}(h:k true w):cY Pq (eT 24) "AssignableTo" [eT 24] [.c .bool] k w:=cM true (fq _ w) (by rw[tv];erw [Cf];rfl) h
theorem v5{k:Bool->Pr}{w:World}(h:k true w):cY Pq (eT 24) "Comparable" [] [.c .bool] k w:=cM true (qa _ w) (by rw[HP];erw [B8];rfl) h
noncomputable def J2(want:Array (String×TypeId))(t:TypeId):Bool:=match Pq.info? t with
 |some i=> !(lacking want i.methods).isEmpty
 |none=>false
noncomputable def J3(want:Array (String×TypeId))(t:TypeId):Bool:=match Pq.info? t with
 |some i=>(Instr.missingMethod want i.methods).isNone
 |none=>false
theorem nK{want:Array (String×TypeId)}{t:TypeId}{u:Value}{k:Bool->Pr}{w:World}(h:J2 want t=true)(hk:k false w):H6 Pq want (.iface t u) true k w:=by
 unfold J2 at h;split at h
 ·rename_i i hi
  obtain⟨m,hm⟩:=missingMethod_some (want:=want) (got:=i.methods) (by intro he;rw[he]at h;cases h);exact⟨false,.inr ⟨rfl,rfl,.inr ⟨t,u,i,m,rfl,hi,hm⟩⟩,hk⟩
 ·cases h
theorem tD{want:Array (String×TypeId)}{t:TypeId}{u:Value}{k:Bool->Pr}{w:World}{ok:Bool}(h:J3 want t=true)(hk:k true w):H6 Pq want (.iface t u) ok k w:=by
 unfold J3 at h;split at h
 ·rename_i i hi
  exact⟨true,.inl ⟨rfl,t,u,i,rfl,hi,Option.isNone_iff_eq_none.1 h⟩,hk⟩
 ·cases h
theorem qb{w w':World}{v:Value}(h:Grow w w')(hc:w.cell? ⟨0,0,none⟩=some v):w'.cell? ⟨0,0,none⟩=some v:=by
 rw[mG (h.same 0 (World.block_lt_of_cell? w _ hc) (λh=>h))];exact hc
theorem lF{eb:Nat}{dH n:Int}{k:Value->Pr}{w:World}(hb:bY w eb [.int .i64 dH,.iface 24 (.int .i64 n)])(h:k (.iface 24 (.int .i64 n)) w):cY Pq (.iface 111 (.pointer (some ⟨eb,0,none⟩))) "Unwrap" [] [.c .any] k w:=by
 refine⟨111,_,375,_,rfl,yq _ w,.inl ⟨by kernel_rfl,?_⟩⟩;refine yB (some ⟨eb,0,none⟩) k w ?_;unfold N2;simp only[ag];exact hb.ld (s:=.any) (p:=.iface 24 (.int .i64 n)) (i:=1) rfl h
section
variable{w0 W:World}{L:List HA}
theorem H7{t:Addr}{k:(OA)×Value×Int->Pr}(s:St aA w0 W L)(hk:∀b W',St aA w0 W' (aa b [.pointer (some t)]::L)->k (some ⟨2,123,none⟩,.pointer (some ⟨b,0,none⟩),150) W'):
 fP Pq 103 [.iface 123 (.pointer (some t))] [.agg [.ptr,.any,.int .u64]] k W:=by
 refine bV _ (HS t W) ?_;show nw (.cells #[.pointer (some t)] 123) (λb=>k (some ⟨2,123,none⟩,.pointer (some ⟨b,0,none⟩),150)) W;exact St.nw s λb W' s' _ _=>hk b W' s'
theorem H8{t:Addr}{k:(OA)×Value×Int->Pr}(s:St aA w0 W L)(hk:∀b W',St aA w0 W' (aa b [.pointer (some t)]::L)->k (some ⟨2,125,none⟩,.pointer (some ⟨b,0,none⟩),150) W'):
 fP Pq 103 [.iface 125 (.pointer (some t))] [.agg [.ptr,.any,.int .u64]] k W:=by
 refine bV _ (HT t W) ?_;show nw (.cells #[.pointer (some t)] 125) (λb=>k (some ⟨2,125,none⟩,.pointer (some ⟨b,0,none⟩),150)) W;exact St.nw s λb W' s' _ _=>hk b W' s'
theorem Lu{t:Addr}{k:(OA)×Value×Int->Pr}(s:St aA w0 W L)(hk:∀b W',St aA w0 W' (aa b [.pointer (some t)]::L)->k (some ⟨2,111,none⟩,.pointer (some ⟨b,0,none⟩),150) W'):
 fP Pq 103 [.iface 111 (.pointer (some t))] [.agg [.ptr,.any,.int .u64]] k W:=by
 refine bV _ (Lq t W) ?_;show nw (.cells #[.pointer (some t)] 111) (λb=>k (some ⟨2,111,none⟩,.pointer (some ⟨b,0,none⟩),150)) W;exact St.nw s λb W' s' _ _=>hk b W' s'
theorem Lv{n:Int}{k:(OA)×Value×Int->Pr}(s:St aA w0 W L)(hk:∀b W',St aA w0 W' (aa b [.int .i64 n]::L)->k (some ⟨2,24,none⟩,.pointer (some ⟨b,0,none⟩),130) W'):
 fP Pq 103 [.iface 24 (.int .i64 n)] [.agg [.ptr,.any,.int .u64]] k W:=by
 refine bV _ (Lr n W) ?_;show nw (.cells #[.int .i64 n] 24) (λb=>k (some ⟨2,24,none⟩,.pointer (some ⟨b,0,none⟩),130)) W;exact St.nw s λb W' s' _ _=>hk b W' s'
theorem Lw{ta b:Nat}{e:Addr}{old:Value}{k:Unit->Pr}(s:St aA w0 W (aa ta [old]::aa b [.pointer (some e)]::L))(hk:∀W',St aA w0 W' (aa ta [.pointer (some e)]::aa b [.pointer (some e)]::L)->k () W'):
 fP Pq 162 [vv 111 ⟨ta,0,none⟩ 406,vv 111 ⟨b,0,none⟩ 150] [] k W:=by
 obtain⟨h1,h2,h3,h4⟩:=s.st (i:=0) (v:=.pointer (some e)) (k:=k ()) (by simp) trivial λW' s'=>hk W' s';exact bV () (Ls ⟨ta,0,none⟩ ⟨b,0,none⟩ e old W (s.af 1).box.fK s.box.fK h3) h4
theorem Lx{ta b:Nat}{n:Int}{old:Value}{k:Unit->Pr}(s:St aA w0 W (aa ta [old]::aa b [.int .i64 n]::L))(hk:∀W',St aA w0 W' (aa ta [.int .i64 n]::aa b [.int .i64 n]::L)->k () W'):
 fP Pq 162 [vv 24 ⟨ta,0,none⟩ 386,vv 24 ⟨b,0,none⟩ 130] [] k W:=by
 obtain⟨h1,h2,h3,h4⟩:=s.st (i:=0) (v:=.int .i64 n) (k:=k ()) (by simp) trivial λW' s'=>hk W' s';exact bV () (Lt ⟨ta,0,none⟩ ⟨b,0,none⟩ n old W (s.af 1).box.fK s.box.fK h3) h4
theorem Ep{ta eb vb:Nat}{old:Value}{k:Bool->Pr}(s:St aA w0 W (aa ta [old]::aa vb [.pointer (some ⟨ta,0,none⟩)]::L))(hk:∀W' T,St aA w0 W' (aa ta [.pointer (some ⟨eb,0,none⟩)]::L++T)->k true W'):
 aH Pq 106 [.iface 111 (.pointer (some ⟨eb,0,none⟩)),.iface 123 (.pointer (some ⟨ta,0,none⟩)),vv 123 ⟨vb,0,none⟩ 150,eT 111] [.c .bool] k W:=by
 refine qc (.iface 111 (.pointer (some ⟨eb,0,none⟩))) (.iface 123 (.pointer (some ⟨ta,0,none⟩))) (some ⟨2,123,none⟩) (.pointer (some ⟨vb,0,none⟩)) 150 (eT 111) k W ?_;unfold Ly;simp only[ag];refine St.nw s λr w1 s1 _ _=>?_;refine aB (λz W=>z=.iface 111 (.pointer (some ⟨eb,0,none⟩))/\St aA w0 W (aa r [.pointer (some ⟨2,123,none⟩),.pointer (some ⟨vb,0,none⟩),.int .u64 150]::aa ta [old]::aa vb [.pointer (some ⟨ta,0,none⟩)]::L)) (λ_ _=>0) ⟨rfl,s1⟩ ?_;rintro _ W2 ⟨rfl,s2⟩;refine bV (eT 111) (Eh _ _) (Em ?_);refine ah (λ_=>?_) λh=>by cases h
 refine bY.aQ (l:=[.ptr,.any,.int .u64]) (p:=(some ⟨2,123,none⟩,.pointer (some ⟨vb,0,none⟩),150)) s2.box ?_;refine bV _ (HY ⟨vb,0,none⟩ ⟨ta,0,none⟩ _ (s2.af 2).box.fK) ?_;refine Lu s2 λb w3 s3=>?_;refine Lw (old:=old) (s3.bE [2,0,1,3] 4) λw4 s4=>?_;refine hk w4 [aa b [.pointer (some ⟨eb,0,none⟩)],aa r [.pointer (some ⟨2,123,none⟩),.pointer (some ⟨vb,0,none⟩),.int .u64 150],aa vb [.pointer (some ⟨ta,0,none⟩)]] ?_;have s5:=s4.perm (m:=aa ta [.pointer (some ⟨eb,0,none⟩)]::(L++[aa b [.pointer (some ⟨eb,0,none⟩)],aa r [.pointer (some ⟨2,123,none⟩),.pointer (some ⟨vb,0,none⟩),.int .u64 150],aa vb [.pointer (some ⟨ta,0,none⟩)]])) (List.Perm.cons _ (List.perm_append_comm (l₁:=[_,_,_])));exact s5
theorem Er{ta eb vb:Nat}{dH n:Int}{old:Value}{k:Bool->Pr}(s:St aA w0 W (aa ta [old]::aa vb [.pointer (some ⟨ta,0,none⟩)]::bR eb dH n::L))(hk:∀W' T,St aA w0 W' (aa ta [.int .i64 n]::bR eb dH n::L++T)->k true W'):
 aH Pq 106 [.iface 111 (.pointer (some ⟨eb,0,none⟩)),.iface 125 (.pointer (some ⟨ta,0,none⟩)),vv 125 ⟨vb,0,none⟩ 150,eT 24] [.c .bool] k W:=by
 refine qc (.iface 111 (.pointer (some ⟨eb,0,none⟩))) (.iface 125 (.pointer (some ⟨ta,0,none⟩))) (some ⟨2,125,none⟩) (.pointer (some ⟨vb,0,none⟩)) 150 (eT 24) k W ?_;unfold Ly;simp only[ag];refine St.nw s λr w1 s1 _ _=>?_;refine aB (λz W=>(z=.iface 111 (.pointer (some ⟨eb,0,none⟩))\/z=.iface 24 (.int .i64 n))/\St aA w0 W (aa r [.pointer (some ⟨2,125,none⟩),.pointer (some ⟨vb,0,none⟩),.int .u64 150]::aa ta [old]::aa vb [.pointer (some ⟨ta,0,none⟩)]::bR eb dH n::L)) (λz _=>match z with|.iface 111 _=>1|_=>0) ⟨.inl rfl,s1⟩ ?_;rintro _ W2 ⟨rfl|rfl,s2⟩
 ·refine bV (eT 111) (Eh _ _) (En ?_)
  refine ah (λh=>by cases h) λ_=>?_;refine nK (by kernel_rfl) ?_;refine aL (λs' W'=>s'=false/\W'=W2) (ah (λh=>by cases h) λ_=>⟨rfl,rfl⟩) ?_;rintro _ _ ⟨rfl,rfl⟩;refine ah (λh=>by cases h) λ_=>?_;refine tD (by kernel_rfl) ?_;refine ah (λ_=>?_) λh=>by cases h
  refine lF (s2.af 3).box ⟨trivial,?_⟩;refine ah (λh=>by cases h) λ_=>?_;exact⟨⟨.inr rfl,s2⟩,Nat.zero_lt_one⟩
 ·refine bV (eT 24) (yA _ _) (Eo ?_)
  refine ah (λ_=>?_) λh=>by cases h
  refine bY.aQ (l:=[.ptr,.any,.int .u64]) (p:=(some ⟨2,125,none⟩,.pointer (some ⟨vb,0,none⟩),150)) s2.box ?_;refine bV _ (HZ ⟨vb,0,none⟩ ⟨ta,0,none⟩ _ (s2.af 2).box.fK) ?_;refine Lv s2 λb w3 s3=>?_;refine Lx (old:=old) (s3.bE [2,0,1,3,4] 5) λw4 s4=>?_;refine hk w4 [aa b [.int .i64 n],aa r [.pointer (some ⟨2,125,none⟩),.pointer (some ⟨vb,0,none⟩),.int .u64 150],aa vb [.pointer (some ⟨ta,0,none⟩)]] ?_;have s5:=s4.perm (m:=aa ta [.int .i64 n]::((bR eb dH n::L)++[aa b [.int .i64 n],aa r [.pointer (some ⟨2,125,none⟩),.pointer (some ⟨vb,0,none⟩),.int .u64 150],aa vb [.pointer (some ⟨ta,0,none⟩)]])) (List.Perm.cons _ (List.perm_append_comm (l₁:=[_,_,_])));exact s5
theorem v7{ta eb:Nat}{old:Value}{k:Bool->Pr}(hg:w0.cell? ⟨0,0,none⟩=some (eT 45))(s:St aA w0 W (aa ta [old]::L))(hk:∀W' T,St aA w0 W' (aa ta [.pointer (some ⟨eb,0,none⟩)]::L++T)->k true W'):
 aH Pq 53 [.iface 111 (.pointer (some ⟨eb,0,none⟩)),.iface 123 (.pointer (some ⟨ta,0,none⟩))] [.c .bool] k W:=by
 refine rZ (.iface 111 (.pointer (some ⟨eb,0,none⟩))) (.iface 123 (.pointer (some ⟨ta,0,none⟩))) k W ?_;unfold RU;simp only[ag];refine⟨trivial,ah (λh=>by cases h) λ_=>?_⟩;refine aL (λ_ W'=>W'=W) ⟨trivial,ah (λh=>by cases h) λ_=>rfl⟩ ?_;rintro _ _ rfl;refine H7 s λb w1 s1=>?_;refine St.nw s1 λr w2 s2 _ _=>s2.st (i:=0) (by simp) trivial λw3 s3=>s3.st (i:=1) (by simp) trivial λw4 s4=>s4.st (i:=2) (by simp) trivial λw5 s5=>?_;have s5:St aA w0 w5 (aa r [.pointer (some ⟨2,123,none⟩),.pointer (some ⟨b,0,none⟩),.int .u64 150]::aa b [.pointer (some ⟨ta,0,none⟩)]::aa ta [old]::L):=s5;refine bY.aQ (l:=[.ptr,.any,.int .u64]) (p:=(some ⟨2,123,none⟩,.pointer (some ⟨b,0,none⟩),150)) s5.box ?_;refine bV (eT 123) (HU _ _) ?_;refine aL (λ_ W'=>St aA w0 W' (aa r [.pointer (some ⟨2,123,none⟩),.pointer (some ⟨b,0,none⟩),.int .u64 150]::aa b [.pointer (some ⟨ta,0,none⟩)]::aa ta [old]::L)) ?_ ?_
 ·refine aL (λs' W'=>s'=false/\St aA w0 W' (aa r [.pointer (some ⟨2,123,none⟩),.pointer (some ⟨b,0,none⟩),.int .u64 150]::aa b [.pointer (some ⟨ta,0,none⟩)]::aa ta [old]::L)) ?_ ?_
  ·refine Cg (ah (λh=>by cases h) λ_=>?_)
   refine bY.aQ (l:=[.ptr,.any,.int .u64]) (p:=(some ⟨2,123,none⟩,.pointer (some ⟨b,0,none⟩),150)) s5.box ?_;exact bV false (HW ⟨b,0,none⟩ _ _ (s5.af 1).box.fK) ⟨rfl,s5⟩
  ·rintro _ W' ⟨rfl,s6⟩
   exact ah (λh=>by cases h) λ_=>s6
 intro _ w6 s6;refine Ci ?_;refine aL (λ_ W'=>St aA w0 W' (aa r [.pointer (some ⟨2,123,none⟩),.pointer (some ⟨b,0,none⟩),.int .u64 150]::aa b [.pointer (some ⟨ta,0,none⟩)]::aa ta [old]::L)) ?_ ?_
 ·refine aL (λs' W'=>s'=false/\St aA w0 W' (aa r [.pointer (some ⟨2,123,none⟩),.pointer (some ⟨b,0,none⟩),.int .u64 150]::aa b [.pointer (some ⟨ta,0,none⟩)]::aa ta [old]::L)) ?_ ?_
  ·refine Ei (ah (λ_=>?_) λh=>by cases h)
   refine dD (s:=.any) (p:=eT 45) (qb s6.bh hg) ?_;exact Ek ⟨rfl,s6⟩
  ·rintro _ W' ⟨rfl,s7⟩
   exact ah (λh=>by cases h) λ_=>s7
 intro _ w7 s7;refine bY.aQ (l:=[.ptr,.any,.int .u64]) (p:=(some ⟨2,123,none⟩,.pointer (some ⟨b,0,none⟩),150)) s7.box ?_;refine Ep (s7.bE [2,1,0] 3) λW' T s'=>?_;refine hk W' (aa r [.pointer (some ⟨2,123,none⟩),.pointer (some ⟨b,0,none⟩),.int .u64 150]::T) ?_;have s8:St aA w0 W' (aa ta [.pointer (some ⟨eb,0,none⟩)]::aa r [.pointer (some ⟨2,123,none⟩),.pointer (some ⟨b,0,none⟩),.int .u64 150]::(L++T)):=s';exact s8.perm (List.Perm.cons _ List.perm_middle.symm)
theorem Es{ta eb:Nat}{dH n:Int}{old:Value}{k:Bool->Pr}(hg:w0.cell? ⟨0,0,none⟩=some (eT 45))(s:St aA w0 W (aa ta [old]::bR eb dH n::L))(hk:∀W' T,St aA w0 W' (aa ta [.int .i64 n]::bR eb dH n::L++T)->k true W'):
 aH Pq 53 [.iface 111 (.pointer (some ⟨eb,0,none⟩)),.iface 125 (.pointer (some ⟨ta,0,none⟩))] [.c .bool] k W:=by
 refine rZ (.iface 111 (.pointer (some ⟨eb,0,none⟩))) (.iface 125 (.pointer (some ⟨ta,0,none⟩))) k W ?_;unfold RU;simp only[ag];refine⟨trivial,ah (λh=>by cases h) λ_=>?_⟩;refine aL (λ_ W'=>W'=W) ⟨trivial,ah (λh=>by cases h) λ_=>rfl⟩ ?_;rintro _ _ rfl;refine H8 s λb w1 s1=>?_;refine St.nw s1 λr w2 s2 _ _=>s2.st (i:=0) (by simp) trivial λw3 s3=>s3.st (i:=1) (by simp) trivial λw4 s4=>s4.st (i:=2) (by simp) trivial λw5 s5=>?_;have s5:St aA w0 w5 (aa r [.pointer (some ⟨2,125,none⟩),.pointer (some ⟨b,0,none⟩),.int .u64 150]::aa b [.pointer (some ⟨ta,0,none⟩)]::aa ta [old]::bR eb dH n::L):=s5;refine bY.aQ (l:=[.ptr,.any,.int .u64]) (p:=(some ⟨2,125,none⟩,.pointer (some ⟨b,0,none⟩),150)) s5.box ?_;refine bV (eT 125) (HV _ _) ?_;refine aL (λ_ W'=>St aA w0 W' (aa r [.pointer (some ⟨2,125,none⟩),.pointer (some ⟨b,0,none⟩),.int .u64 150]::aa b [.pointer (some ⟨ta,0,none⟩)]::aa ta [old]::bR eb dH n::L)) ?_ ?_
 ·refine aL (λs' W'=>s'=false/\St aA w0 W' (aa r [.pointer (some ⟨2,125,none⟩),.pointer (some ⟨b,0,none⟩),.int .u64 150]::aa b [.pointer (some ⟨ta,0,none⟩)]::aa ta [old]::bR eb dH n::L)) ?_ ?_
  ·refine Ch (ah (λh=>by cases h) λ_=>?_)
   refine bY.aQ (l:=[.ptr,.any,.int .u64]) (p:=(some ⟨2,125,none⟩,.pointer (some ⟨b,0,none⟩),150)) s5.box ?_;exact bV false (HX ⟨b,0,none⟩ _ _ (s5.af 1).box.fK) ⟨rfl,s5⟩
  ·rintro _ W' ⟨rfl,s6⟩
   exact ah (λh=>by cases h) λ_=>s6
 intro _ w6 s6;refine Cj ?_;refine aL (λ_ W'=>St aA w0 W' (aa r [.pointer (some ⟨2,125,none⟩),.pointer (some ⟨b,0,none⟩),.int .u64 150]::aa b [.pointer (some ⟨ta,0,none⟩)]::aa ta [old]::bR eb dH n::L)) ?_ ?_
 ·refine aL (λs' W'=>s'=false/\St aA w0 W' (aa r [.pointer (some ⟨2,125,none⟩),.pointer (some ⟨b,0,none⟩),.int .u64 150]::aa b [.pointer (some ⟨ta,0,none⟩)]::aa ta [old]::bR eb dH n::L)) ?_ ?_
  ·refine Ej (ah (λ_=>?_) λh=>by cases h)
   refine dD (s:=.any) (p:=eT 45) (qb s6.bh hg) ?_;exact El ⟨rfl,s6⟩
  ·rintro _ W' ⟨rfl,s7⟩
   exact ah (λh=>by cases h) λ_=>s7
 intro _ w7 s7;refine bY.aQ (l:=[.ptr,.any,.int .u64]) (p:=(some ⟨2,125,none⟩,.pointer (some ⟨b,0,none⟩),150)) s7.box ?_;refine Er (s7.bE [2,1,3,0] 4) λW' T s'=>?_;refine hk W' (aa r [.pointer (some ⟨2,125,none⟩),.pointer (some ⟨b,0,none⟩),.int .u64 150]::T) ?_;have s8:St aA w0 W' (aa ta [.int .i64 n]::bR eb dH n::aa r [.pointer (some ⟨2,125,none⟩),.pointer (some ⟨b,0,none⟩),.int .u64 150]::(L++T)):=s';exact s8.perm (List.Perm.cons _ (List.Perm.cons _ List.perm_middle.symm))
end
theorem Lz:(match Pq.info? 24 with|some i=>i.comparable|none=>false)=true:=by kernel_rfl
theorem Aw{a c:Int}{k:Bool->Pr}{w:World}(h:k (a==c) w):oQ Pq (.iface 24 (.int .i64 a)) (.iface 24 (.int .i64 c)) k w:=by
 have hc:=Lz;split at hc
 ·rename_i i hi
  exact⟨24,_,24,_,rfl,rfl,(a==c),.inr ⟨rfl,i,.i64,a,c,hi,hc,Tryz.underlying24,rfl,rfl,rfl⟩,h⟩
 ·cases hc
theorem Ay{u v:Value}{k:Bool->Pr}{w:World}(h:k false w):oQ Pq (.iface 111 u) (.iface 24 v) k w:=
 ⟨111,u,24,v,rfl,rfl,false,.inl ⟨by decide,rfl⟩,h⟩
section
variable{w0 W:World}{L:List HA}
theorem RV{eb:Nat}{dH n:Int}{k:Bool->Pr}(s:St aA w0 W (bR eb dH n::L))(hk:∀W',St aA w0 W' (bR eb dH n::L)->k true W'):
 aH Pq 108 [.iface 111 (.pointer (some ⟨eb,0,none⟩)),.iface 24 (.int .i64 n),.bool true] [.c .bool] k W:=by
 refine qd (.iface 111 (.pointer (some ⟨eb,0,none⟩))) (.iface 24 (.int .i64 n)) true k W ?_;unfold LC;simp only[ag];refine aB (λz W=>(z=.iface 111 (.pointer (some ⟨eb,0,none⟩))\/z=.iface 24 (.int .i64 n))/\St aA w0 W (bR eb dH n::L)) (λz _=>match z with|.iface 111 _=>1|_=>0) ⟨.inl rfl,s⟩ ?_;rintro _ W2 ⟨rfl|rfl,s2⟩
 ·refine aL (λs' W'=>s'=false/\St aA w0 W' (bR eb dH n::L)) (ah (λ_=>Ay ⟨rfl,s2⟩) λh=>by cases h) ?_
  rintro _ W3 ⟨rfl,s3⟩;refine ah (λh=>by cases h) λ_=>?_;refine nK (by kernel_rfl) ?_;refine aL (λs' W'=>s'=false/\St aA w0 W' (bR eb dH n::L)) (ah (λh=>by cases h) λ_=>⟨rfl,s3⟩) ?_;rintro _ W4 ⟨rfl,s4⟩;refine ah (λh=>by cases h) λ_=>?_;refine tD (by kernel_rfl) ?_;refine ah (λ_=>?_) λh=>by cases h
  refine lF s4.box ⟨trivial,?_⟩;refine ah (λh=>by cases h) λ_=>?_;exact⟨⟨.inr rfl,s4⟩,Nat.zero_lt_one⟩
 ·refine aL (λs' W'=>s'=true/\St aA w0 W' (bR eb dH n::L)) (ah (λ_=>Aw ⟨by simp,s2⟩) λh=>by cases h) ?_
  rintro _ W3 ⟨rfl,s3⟩;exact ah (λ_=>hk W3 s3) λh=>by cases h
theorem RW{eb:Nat}{dH n:Int}{k:Bool->Pr}(s:St aA w0 W (bR eb dH n::L))(hk:∀W',St aA w0 W' (bR eb dH n::L)->k true W'):
 aH Pq 54 [.iface 111 (.pointer (some ⟨eb,0,none⟩)),.iface 24 (.int .i64 n)] [.c .bool] k W:=by
 refine r8 (.iface 111 (.pointer (some ⟨eb,0,none⟩))) (.iface 24 (.int .i64 n)) k W ?_;unfold RX;refine aL (λs' W'=>s'=false/\St aA w0 W' (bR eb dH n::L)) ⟨trivial,ah (λh=>by cases h) λ_=>⟨trivial,rfl,s⟩⟩ ?_;rintro _ W3 ⟨rfl,s3⟩;refine ah (λh=>by cases h) λ_=>?_;refine bV (eT 24) (yA _ _) (v5 ?_);exact RV s3 hk
theorem LD{eb:Nat}{dH n:Int}{k:(Int×Int)×Bool->Pr}(hg:w0.cell? ⟨0,0,none⟩=some (eT 45))(hn:n≠0)(s:St aA w0 W (bR eb dH n::L))(hk:∀W',St aA w0 W' (bR eb dH n::L)->k ((dH,n),true) W'):
 aH Pq 20 [.iface 111 (.pointer (some ⟨eb,0,none⟩))] [.agg [.int .i64,.int .i64],.c .bool] k W:=by
 refine Ck (.iface 111 (.pointer (some ⟨eb,0,none⟩))) k W ?_;unfold VW;simp only[ag];refine St.nw s λr w1 s1 _ _=>⟨trivial,ah (λh=>by cases h) λ_=>⟨trivial,St.nw s1 λr1 w2 s2 _ _=>⟨trivial,St.nw s2 λr2 w3 s3 _ _=>?_⟩⟩⟩;have s3:St aA w0 w3 (aa r1 [.pointer none]::aa r2 [.int .i64 0]::bR eb dH n::aa r [.int .i64 0,.int .i64 0]::L):=s3.bE [1,0,3,2] 4;refine aL (λs' W'=>s'=false/\∃T,St aA w0 W' (aa r1 [.pointer (some ⟨eb,0,none⟩)]::aa r2 [.int .i64 n]::bR eb dH n::aa r [.int .i64 0,.int .i64 0]::(L++T))) ?_ ?_
 ·refine v7 hg s3 λw4 T s4=>?_
  refine ah (λh=>by cases h) λ_=>?_;have s4:St aA w0 w4 (aa r1 [.pointer (some ⟨eb,0,none⟩)]::aa r2 [.int .i64 0]::bR eb dH n::aa r [.int .i64 0,.int .i64 0]::(L++T)):=s4;refine s4.Ab (s:=.ptr) (p:=some ⟨eb,0,none⟩) rfl ⟨trivial,?_⟩;refine ah (λh=>by cases h) λ_=>?_;refine Es hg (s4.bE [1,2,0,3] 4) λw5 T2 s5=>?_;refine ah (λh=>by cases h) λ_=>?_;have s5:St aA w0 w5 (aa r2 [.int .i64 n]::bR eb dH n::aa r1 [.pointer (some ⟨eb,0,none⟩)]::aa r [.int .i64 0,.int .i64 0]::(L++T++T2)):=s5;refine s5.Ab (s:=.int .i64) (p:=n) rfl ?_;refine ah (λh=>absurd (by simpa using h) hn) λ_=>?_;refine s5.Ab (s:=.int .i64) (p:=n) rfl ?_;refine RW (s5.af 1) λw6 s6=>⟨rfl,T++T2,?_⟩;have s6:=s6.bE [2,1,0,3] 4;rw[<-jt];exact s6
 ·rintro _ W' ⟨rfl,T,s6⟩
  refine ah (λh=>by cases h) λ_=>?_;rw[aR];have s7:=s6.drew;refine s7.Ab (s:=.ptr) (p:=some ⟨eb,0,none⟩) rfl ?_;simp only[ag];refine(s7.af 2).ld (i:=0) (s:=.int .i64) (p:=dH) rfl ?_;refine(s7.af 1).Ab (s:=.int .i64) (p:=n) rfl ?_;refine(s7.af 3).st (i:=0) (by simp) trivial λw8 s8=>s8.st (i:=1) (by simp) trivial λw9 s9=>?_;refine bY.aQ (l:=[.int .i64,.int .i64]) (p:=(dH,n)) s9.box ?_;refine hk w9 ?_;have bH:St aA w0 w9 ((bR eb dH n::L)++(aa r [.int .i64 dH,.int .i64 n]::aa r1 [.pointer (some ⟨eb,0,none⟩)]::aa r2 [.int .i64 n]::T)):=by
   have cR:St aA w0 w9 (bR eb dH n::aa r [.int .i64 dH,.int .i64 n]::aa r1 [.pointer (some ⟨eb,0,none⟩)]::aa r2 [.int .i64 n]::(L++T)):=s9.bE [3,0,1,2] 4;refine cR.perm (List.Perm.cons _ ?_);have:([aa r [.int .i64 dH,.int .i64 n],aa r1 [.pointer (some ⟨eb,0,none⟩)],aa r2 [.int .i64 n]]++(L++T)).Perm (L++([aa r [.int .i64 dH,.int .i64 n],aa r1 [.pointer (some ⟨eb,0,none⟩)],aa r2 [.int .i64 n]]++T)):=by
    rw[<-jt,<-jt];exact List.Perm.append_right T List.perm_append_comm
   exact this
  exact bH.jR
theorem LF{eb:Nat}{dH n e n':Int}{k:Bool->Pr}(hg:w0.cell? ⟨0,0,none⟩=some (eT 45))(hn:n≠0)(s:St aA w0 W (bR eb dH n::L))(hk:∀W',St aA w0 W' (bR eb dH n::L)->k (decide ((dH,n)=(e,n'))) W'):
 aH Pq 9 [.iface 111 (.pointer (some ⟨eb,0,none⟩)),.agg #[.int .i64 e,.int .i64 n']] [.c .bool] k W:=by
 refine Et (.iface 111 (.pointer (some ⟨eb,0,none⟩))) e n' k W ?_;unfold F9;simp only[ag];refine St.nw s λr w1 s1 _ _=>LD hg hn (s1.af 1) λw2 s2=>?_;refine St.nw s2 λr1 w3 s3 _ _=>s3.st (i:=0) (by simp) trivial λw4 s4=>s4.st (i:=1) (by simp) trivial λw5 s5=>?_;refine ah (λ_=>?_) λh=>by cases h
 refine bY.aQ (l:=[.int .i64,.int .i64]) (p:=(dH,n)) s5.box ?_;refine bY.aQ (l:=[.int .i64,.int .i64]) (p:=(e,n')) (s5.af 2).box ?_;have h:=hk w5 (s5.bE [1,3] 4|>λs=>by first|exact s|exact(s5.af 2).drop.drop);have e':decide ((dH,n)=(e,n'))=(dH==e&&(n==n'&&true)):=by
  rw[Bool.eq_iff_iff];simp
 rw[e']at h;exact h
end
set_option maxRecDepth 100000
def YS:An:=(.sq .z (.sq .z .z))
def F6(Q:Sl×Sl->Pr):Pr:=
 nw (.cells #[(.slice none 0 0),(.slice none 0 0)] 32) λr=>
 nw (.cells #[(.int .i64 1)] 3) λr_1=>
 nw (.cells #[(.int .u8 7)] 5) λr_2=>
 nw (.cells #[(.int .u8 7)] 5) λr_3=>
 nw (.cells #[(.int .i64 1),(.slice (some ⟨r_1,0,none⟩) 1 1),(.slice (some ⟨r_2,0,none⟩) 1 1),(.int .i64 1),(.slice none 0 0),(.slice (some ⟨r_3,0,none⟩) 1 1)] 62) λnc=>
 nw (.cells #[(.string (⟨#[97]⟩:ByteArray)),(.int .i64 0)] 64) λsK=>
 deref (some ⟨r,0,none⟩) λa=>
 st (a.add 0) (.slice (some ⟨nc,0,none⟩) 2 2)<|
 st (a.add 1) (.slice (some ⟨sK,0,none⟩) 1 1)<|
 deref (some ⟨r,0,none⟩) λa_1=>
 aQ [.slice,.slice] a_1 λ(res:Sl×Sl)=>
 Q ((res.1,res.2))
theorem Eu(Q:Sl×Sl->Pr)(w:World)(h:F6 Q w):Calls Pq 6 #[] w (aC [.agg [.slice,.slice]] Q):=cF (an:=YS) Tryz.func6 (by kernel_rfl) h
def YT:An:=(.sq .z (.sq .z (.sq (.sq (.jn [(24,.c .bool)] .z) (.br (.sq .z .z) .z)) (.sq .z (.sq .z (.sq .z .z))))))
def F4(Q:Bool->Pr):Pr:=
 aH Pq 6 [] [.agg [.slice,.slice]] λ(t7:Sl×Sl)=>
 aH Pq 10 [(.agg #[(.slice t7.1.a t7.1.len t7.1.cap),(.slice t7.2.a t7.2.len t7.2.cap)])] [.c .slice,.c .any] λ(t8:Sl×Value)=>
 jn (S:=Bool) (λR=>
 aP (tK t8.2)<|
 br (!cg t8.2) (
 R true) (
 br ((t8.1.len:Int)!=27) (
 R true) (
 slc 1 t8.1 (some 8) (some 22) none λt20=>
 nw (.cells #[(.int .u8 1),(.int .u8 1),(.int .u8 7),(.int .u8 2),(.int .u8 1),(.int .u8 0),(.int .u8 1),(.int .u8 2),(.int .u8 1),(.int .u8 0),(.int .u8 0),(.int .u8 1),(.int .u8 1),(.int .u8 97)] 5) λr=>
 cB 11 [(.slice t20.a t20.len t20.cap),(.slice (some ⟨r,0,none⟩) 14 14)] λt22=>
 R (!t22)))) λs=>
 br s (
 Q false) (
 aH Pq 12 [(.slice t8.1.a t8.1.len t8.1.cap)] [.agg [.slice,.slice],.c .any] λ(t27:(Sl×Sl)×Value)=>
 nw (.cells #[(.slice none 0 0),(.slice none 0 0)] 32) λr_1=>
 deref (some ⟨r_1,0,none⟩) λa=>
 st (a.add 0) (.slice t27.1.1.a t27.1.1.len t27.1.1.cap)<|
 st (a.add 1) (.slice t27.1.2.a t27.1.2.len t27.1.2.cap)<|
 slc 1 t8.1 none (some 11) none λt32=>
 aH Pq 12 [(.slice t32.a t32.len t32.cap)] [.agg [.slice,.slice],.c .any] λ(t33:(Sl×Sl)×Value)=>
 nw (.cells #[(.slice none 0 0),(.slice none 0 0)] 32) λr_2=>
 deref (some ⟨r_2,0,none⟩) λa_1=>
 st (a_1.add 0) (.slice t33.1.1.a t33.1.1.len t33.1.1.cap)<|
 st (a_1.add 1) (.slice t33.1.2.a t33.1.2.len t33.1.2.cap)<|
 jE<|
 aP (tK t27.2)<|
 both (
 br (cg t27.2) (
 deref (some ⟨r_1,0,none⟩) λa_2=>
 aQ [.slice,.slice] a_2 λ(t39:Sl×Sl)=>
 aH Pq 6 [] [.agg [.slice,.slice]] λ(t40:Sl×Sl)=>
 cB 13 [(.agg #[(.slice t39.1.a t39.1.len t39.1.cap),(.slice t39.2.a t39.2.len t39.2.cap)]),(.agg #[(.slice t40.1.a t40.1.len t40.1.cap),(.slice t40.2.a t40.2.len t40.2.cap)])] λt41=>
 br t41 (
 cB 9 [t33.2,(.agg #[(.int .i64 0),(.int .i64 260)])] λt46=>
 Q t46) (
 Q false)) (
 Q false)) (
 br (cg t27.2) (
 aH Pq 6 [] [.agg [.slice,.slice]] λ(sN:Sl×Sl)=>
 deref (some ⟨r_1,0,none⟩) λbX=>
 aQ [.slice,.slice] bX λ(sO:Sl×Sl)=>
 cB 13 [(.agg #[(.slice sO.1.a sO.1.len sO.1.cap),(.slice sO.2.a sO.2.len sO.2.cap)]),(.agg #[(.slice sN.1.a sN.1.len sN.1.cap),(.slice sN.2.a sN.2.len sN.2.cap)])] λGk=>
 br Gk (
 cB 9 [t33.2,(.agg #[(.int .i64 0),(.int .i64 260)])] λPW=>
 Q PW) (
 Q false)) (
 Q false)))
theorem Ev(Q:Bool->Pr)(w:World)(h:F4 Q w):Calls Pq 4 #[] w (aC [.c .bool] Q):=cF (an:=YT) Tryz.func4 (by kernel_rfl) h
set_option maxRecDepth 20000
theorem SS.hd{α:Type}{f:α->LV}{w:World}{s:Sl}{rs:List α}(h:SS f w s rs){n c m:Nat}(hf:∀r,(f r).length=n):SS f w ⟨s.a,min s.len m,c⟩ (rs.take m):=by
 refine⟨by have:=h.len;simp only[jr];omega,?_⟩;have hr:=h.row;have e:rs.flatMap f=(rs.take m).flatMap f++(rs.drop m).flatMap f:=by rw[<-List.flatMap_append,List.take_append_drop]
 rw[e]at hr;cases ha:s.a with
 |
  none=>
  rw[ha]at hr;have:=List.append_eq_nil_iff.1 (show _++_=[]from hr);exact this.1
 |
  some ad=>
  rw[ha]at hr;have hr:cc w ad 0 _:=hr;rw[aF]at hr;refine aF.2 ?_;intro j v hj;exact hr j v (by rw[List.getElem?_append_left (List.getElem?_eq_some_iff.1 hj).1];exact hj)
theorem St.v8{F0:Nat->Prop}{w0 w:World}{L:List HA}{b n k:Nat}{vs:LV}(h:St F0 w0 w (aa b vs::L))(hl:vs.length=k*n):St F0 w0 w (aq n ⟨some ⟨b,0,none⟩,k,k⟩ vs::L):=by
 refine St.v9 [aa b vs] h λF hF=>?_;have h1:=hF.one;refine⟨⟨hl,Nat.le_refl _,.inr ⟨b,0,[],rfl,Nat.zero_le _,h1.1.lt,h1.1.N3,by rw[List.append_nil];exact h1.1.row,by rw[List.append_nil];exact hl⟩⟩,λc=>?_⟩;rw[h1.2];constructor
 ·rintro rfl;exact⟨_,rfl,rfl⟩
 ·rintro⟨ad,ha,rfl⟩;cases ha;rfl
def ek:GG:=⟨[⟨1,[1],[7]⟩,⟨1,[],[7]⟩],[([97],0)]⟩
theorem QE(w:World):Calls Pq 6 #[] w (aC [.agg [.slice,.slice]] λr w'=>Be ek w r w'):=by
 refine Eu _ _ ?_;unfold F6;simp only[ag];refine St.nw (St.bp w) λr w1 s1 _ _=>St.nw s1 λr1 w2 s2 _ _=>St.nw s2 λr2 w3 s3 _ _=>St.nw s3 λr3 w4 s4 _ _=>St.nw s4 λr4 w5 s5 _ _=>St.nw s5 λr5 w6 s6 _ _=>?_;refine(s6.af 5).st (i:=0) (by simp) trivial λw7 s7=>s7.st (i:=1) (by simp) trivial λw8 s8=>?_;refine bY.aQ (l:=[.slice,.slice]) (p:=(⟨some ⟨r4,0,none⟩,2,2⟩,⟨some ⟨r5,0,none⟩,1,1⟩)) s8.box ?_;have s8:St aA w w8 [aa r [.slice (some ⟨r4,0,none⟩) 2 2,.slice (some ⟨r5,0,none⟩) 1 1],aa r5 (ay ([97],0)),aa r4 ([NS.mk 1 ⟨some ⟨r1,0,none⟩,1,1⟩ [1] ⟨some ⟨r2,0,none⟩,1,1⟩ [7],NS.mk 1 ⟨none,0,0⟩ [] ⟨some ⟨r3,0,none⟩,1,1⟩ [7]].flatMap aj),aa r3 (([7]:LB).map ub),aa r2 (([7]:LB).map ub),aa r1 (([1]:List Int).map iv)]:=s8;have a1:=St.v8 (n:=1) (k:=1) (s8.af 5) rfl;have a2:=St.v8 (n:=1) (k:=1) (a1.af 5) rfl;have a3:=St.v8 (n:=1) (k:=1) (a2.af 5) rfl;have a4:=St.v8 (n:=3) (k:=2) (a3.af 5) rfl;have a5:=St.v8 (n:=2) (k:=1) (a4.af 5) rfl;have a5:St aA w w8 [aq 2 ⟨some ⟨r5,0,none⟩,1,1⟩ (ay ([97],0)),aq 3 ⟨some ⟨r4,0,none⟩,2,2⟩ ([NS.mk 1 ⟨some ⟨r1,0,none⟩,1,1⟩ [1] ⟨some ⟨r2,0,none⟩,1,1⟩ [7],NS.mk 1 ⟨none,0,0⟩ [] ⟨some ⟨r3,0,none⟩,1,1⟩ [7]].flatMap aj),aq 1 ⟨some ⟨r3,0,none⟩,1,1⟩ (([7]:LB).map ub),aq 1 ⟨some ⟨r2,0,none⟩,1,1⟩ (([7]:LB).map ub),aq 1 ⟨some ⟨r1,0,none⟩,1,1⟩ (([1]:List Int).map iv),aa r [.slice (some ⟨r4,0,none⟩) 2 2,.slice (some ⟨r5,0,none⟩) 1 1]]:=a5
 refine⟨⟨⟨some ⟨r4,0,none⟩,2,2⟩,⟨some ⟨r5,0,none⟩,1,1⟩,[NS.mk 1 ⟨some ⟨r1,0,none⟩,1,1⟩ [1] ⟨some ⟨r2,0,none⟩,1,1⟩ [7],NS.mk 1 ⟨none,0,0⟩ [] ⟨some ⟨r3,0,none⟩,1,1⟩ [7]],[([97],0)]⟩,rfl,rfl,rfl,dG.mk ?_⟩;have b1:=a5.fe 1;have b2:St aA w w8 (aG (NS.mk 1 ⟨none,0,0⟩ [] ⟨some ⟨r3,0,none⟩,1,1⟩ [7])::_):=St.eG (xs:=[aq 1 ⟨none,0,0⟩ [],aq 1 ⟨some ⟨r3,0,none⟩,1,1⟩ (([7]:LB).map ub)]) (b1.bE [0,3,1,2,4,5] 7);have b3:St aA w w8 (aG (NS.mk 1 ⟨some ⟨r1,0,none⟩,1,1⟩ [1] ⟨some ⟨r2,0,none⟩,1,1⟩ [7])::_):=St.eG (xs:=[aq 1 ⟨some ⟨r1,0,none⟩,1,1⟩ (([1]:List Int).map iv),aq 1 ⟨some ⟨r2,0,none⟩,1,1⟩ (([7]:LB).map ub)]) (b2.bE [4,3,0,1,2] 5);have b4:St aA w w8 (aN [aG (NS.mk 1 ⟨some ⟨r1,0,none⟩,1,1⟩ [1] ⟨some ⟨r2,0,none⟩,1,1⟩ [7]),aG (NS.mk 1 ⟨none,0,0⟩ [] ⟨some ⟨r3,0,none⟩,1,1⟩ [7])]::_):=St.eG (xs:=[aG (NS.mk 1 ⟨some ⟨r1,0,none⟩,1,1⟩ [1] ⟨some ⟨r2,0,none⟩,1,1⟩ [7]),aG (NS.mk 1 ⟨none,0,0⟩ [] ⟨some ⟨r3,0,none⟩,1,1⟩ [7])]) b3;exact b4.bE [2,0,1] 3
theorem nk(G:GG):(bZ G).length=(gZ G (aE G)).length+4:=by
 unfold bZ pZ;rw[jh,pH]
theorem ob(G:GG):(bZ G).take ((bZ G).length-4)=gZ G (aE G):=by
 rw[nk,Nat.add_sub_cancel];unfold bZ pZ;rw[List.take_left]
theorem De(G:GG):(bZ G).drop ((bZ G).length-4)=gi 4 (iT (gZ G (aE G))):=by
 rw[nk,Nat.add_sub_cancel];unfold bZ pZ;rw[List.drop_left]
theorem sS(G:GG)(ds:List (LB)):(gZ G ds).take 8=bU:=by
 unfold gZ;simp only[jt];exact List.take_left (l₁:=bU)
theorem GJ(G:GG)(ds:List (LB)):8<=(gZ G ds).length:=by
 have:=congrArg List.length (sS G ds);rw[jr]at this;have h8:bU.length=8:=rfl;omega
theorem ot{G:GG}(ht:G.nG)(hok:e7 G=true)(hc:kz G=G):eA (bZ G)=.ok G:=by
 have hl:=nk G;have hb:=GJ G (aE G);unfold eA;rw[jc,jc,ob,Dd ht]
 ·dsimp only
  rw[jd ⟨hok,hc,rfl⟩]
 ·rw[ob,De]
  exact λh=>h rfl
 ·rintro(h|h)
  ·omega
  ·refine h ?_
   have h2:=sS G (aE G);rw[<-ob,List.take_take,Nat.min_eq_left (by omega)]at h2;exact h2
theorem ok_two:e7 ek=true:=by decide
open Classical in
theorem Df:av ek=[true,true]:=by
 have r0:nr ek 0:=nr.root (r:=([97],0)) (by simp[ek]);have r1:nr ek 1:=nr.plain (i:=0) (n:=⟨1,[1],[7]⟩) (p:=1) r0 rfl rfl (by simp) (by decide);unfold av;show[decide (nr ek 0),decide (nr ek 1)]=_;rw[decide_eq_true r0,decide_eq_true r1]
theorem o5:kz ek=ek:=by
 have h:eP ek=ek:=by
  unfold eP dr;rw[Df];rfl
 unfold kz;rw[h];decide
theorem mH:ek.nG:=vF ok_two
theorem kW:(bZ ek).length=27:=by
 rw[nk];decide
theorem H9:((bZ ek).take 22).drop 8=[1,1,7,2,1,0,1,2,1,0,0,1,1,97]:=by
 unfold bZ pZ;rw[List.take_append_of_le_length (by decide)];decide
theorem Az:eA ((bZ ek).take 11)=.error (0,260):=by
 unfold eA;rw[jd];left;rw[jr,kW];decide
theorem qe{G:GG}(h:G.nG):G.small:=⟨by have:=h.nl;omega,by have:=h.rl;omega,λx hx=>by have:=h.pl x hx;omega,λx hx=>by have:=h.dl x hx;omega,λr hr=>by have:=h.sl r hr;omega⟩
theorem Y7(w:World)(hg:w.cell? ⟨0,0,none⟩=some (eT 45)):Calls Pq 4 #[] w (aC [.c .bool] λr w'=>r=true/\Grow w w'):=by
 refine Ev _ _ ?_;unfold F4;simp only[ag];have Ew:=qe mH;refine ak (QE w) ?_;rintro⟨a1,a2⟩ w1 ⟨g,rfl,rfl,LG,s1⟩;have RY:g.small:=GS.cJ.2 (by rw[LG];exact Ew);refine ak (XD g w1 (St.rg s1 RY)) ?_;rintro⟨q,v⟩ w2 (⟨hok,rfl,k2⟩|⟨hb,_⟩)
 rotate_left
 ·rw[LG,ok_two]at hb;cases hb
 rw[LG,o5]at k2;have s2:=s1.aZ k2;dsimp only at s2⊢;have s2:St aA w w2 [aq 1 q ((bZ ek).map ub),dG g]:=s2;have q8:=aT s2.sl;rw[je,kW]at q8;have VX:=s2.sl.le;refine aL (λs' W'=>s'=false/\∃T,St aA w W' (aq 1 q ((bZ ek).map ub)::dG g::T)) ?_ ?_
 ·refine⟨trivial,ah (λh=>by cases h) λ_=>?_⟩
  refine ah (λh=>?_) λ_=>?_
  ·rw[q8]at h;simp at h
  refine D5 (l:=bZ ek) s2.sl.bs VX (by omega) (by omega) (by omega) λt ht _=>?_;have ht':BS w2 t [1,1,7,2,1,0,1,2,1,0,0,1,1,97]:=by rw[<-H9];exact ht
  refine St.nw s2 λr w3 s3 Yb _=>?_;have hb:BS w3 ⟨some ⟨r,0,none⟩,14,14⟩ [1,1,7,2,1,0,1,2,1,0,0,1,1,97]:=⟨rfl,aF.2 s3.box.row⟩;refine ak (QV t ⟨some ⟨r,0,none⟩,14,14⟩ _ _ w3 (ht'.grow Yb) hb) ?_;rintro _ _ ⟨rfl,rfl⟩;exact⟨rfl,_,s3.bE [1,2,0] 3⟩
 rintro _ W ⟨rfl,T,s3⟩;refine ah (λh=>by cases h) λ_=>?_;have s3:St aA w W [aq 1 q ((bZ ek).map ub),dG g]:=St.jR (l:=[_,_]) s3;have hun:=ot mH ok_two o5;refine ak (RJ q (bZ ek) W s3.sl.bs VX (by rw[kW];decide)) ?_;rintro⟨⟨x1,x2⟩,e1⟩ w4 (⟨x,hx,GX,rfl,hxs,k4⟩|⟨e,n,b,hx,_⟩)
 rotate_left
 ·rw[hun]at hx;cases hx
 rw[hun]at hx;simp only[Except.ok.injEq]at hx;simp only[Prod.mk.injEq]at GX;obtain⟨rfl,rfl⟩:=GX;have s4:=s3.aZ k4;refine St.nw s4 λr1 w5 s5 _ _=>s5.st (i:=0) (by simp) trivial λw6 s6=>s6.st (i:=1) (by simp) trivial λw7 s7=>?_;have s7:St aA w w7 [aa r1 [slV x.gn,slV x.gr],dG x,aq 1 q ((bZ ek).map ub),dG g]:=s7;have Yc:BS w7 q (bZ ek):=(s7.af 2).sl.bs;refine At (n:=11) (by omega) ?_;have RZ:=J1 (n:=11) Yc (by rw[kW];decide);refine ak (RJ ⟨q.a,11,q.cap⟩ ((bZ ek).take 11) w7 RZ (by dsimp only;omega) (by rw[jr,kW];decide)) ?_;rintro⟨⟨y1,y2⟩,e2⟩ w8 (⟨y,hy,_⟩|⟨e,n,b,hy,Rn,rfl,k8⟩)
 ·rw[Az]at hy;cases hy
 rw[Az]at hy;simp only[Except.error.injEq,Prod.mk.injEq]at hy;obtain⟨rfl,rfl⟩:=hy;have s8:=s7.aZ k8;refine St.nw s8 λr2 w9 s9 _ _=>s9.st (i:=0) (by simp) trivial λiF bH=>bH.st (i:=1) (by simp) trivial λoW cR=>?_;have cR:St aA w oW [aa r2 [slV y1,slV y2],bR b ((0:Nat):Int) 260,aa r1 [slV x.gn,slV x.gr],dG x,aq 1 q ((bZ ek).map ub),dG g]:=cR;rw[aR];have eH:=cR.drew;have fin:∀W2 T,St aA w W2 (bR b ((0:Nat):Int) 260::T)->aH Pq 9 [.iface 111 (.pointer (some ⟨b,0,none⟩)),.agg #[.int .i64 0,.int .i64 260]] [.c .bool] (λt46 w'=>t46=true/\Grow w w') W2:=by
  intro W2 T s';refine LF hg (by decide) s' λW3 s''=>⟨?_,s''.bh⟩;simp
 have VY:∀W2 L,St aA w W2 L->∀h:GS,RG W2 aA x->RG W2 aA h->h.m=ek->∀k:Bool->Pr,(∀W3,Grow W2 W3->k true W3)->aH Pq 13 [x.v,h.v] [.c .bool] k W2:=by
  intro W2 L s' h hx' hh hm k hk;refine ak (Yd x h W2 hx' hh) ?_;rintro _ W3 ⟨rfl,g3⟩;rw[decide_eq_true (by rw[hm,<-hx])];exact hk W3 g3
 refine⟨trivial,?_,?_⟩
 ·refine ah (λ_=>?_) λh=>by cases h
  refine bY.aQ (l:=[.slice,.slice]) (p:=(x.gn,x.gr)) (eH.af 2).box ?_;refine ak (QE _) ?_;rintro⟨z1,z2⟩ q7 ⟨z,rfl,rfl,hz,NW⟩;have fJ:=eH.aZ NW;refine VY q7 _ fJ z (St.rg (fJ.af 4) hxs) (St.rg fJ (GS.cJ.2 (by rw[hz];exact Ew))) hz _ λW3 g3=>?_;refine ah (λ_=>?_) λh=>by cases h
  exact fin W3 _ ((fJ.grow g3).af 2)
 ·refine ah (λ_=>?_) λh=>by cases h
  refine ak (QE _) ?_;rintro⟨z1,z2⟩ q7 ⟨z,rfl,rfl,hz,NW⟩;have fJ:=eH.aZ NW;refine bY.aQ (l:=[.slice,.slice]) (p:=(x.gn,x.gr)) (fJ.af 3).box ?_;refine VY q7 _ fJ z (St.rg (fJ.af 4) hxs) (St.rg fJ (GS.cJ.2 (by rw[hz];exact Ew))) hz _ λW3 g3=>?_;refine ah (λ_=>?_) λh=>by cases h
  exact fin W3 _ ((fJ.grow g3).af 2)
end Go.Proofs

namespace Go.Eng
theorem ax{j:Nat}(h:j<1000000000000000000):IntKind.wrap .i64 ((j:Int)+1)=((j+1:Nat):Int):=by rw[wrap_i64 (by omega)];rfl
theorem GB{j:Nat}(h:j<1000000000000000000):Kf ((j:Int)+1)=((j+1:Nat):Int):=ax h
@[simp]theorem Nj(n:Int):aK (iv n)=True:=rfl
@[simp]theorem Nk(n:Int):aK (uv n)=True:=rfl
section
variable{w w':World}{s:Sl}
theorem BS.at{l:LB}(h:BS w s l){i:Nat}{k:Int->Pr}(hi:i<l.length)(hk:k (l[i].toNat:Int) w):(deref s.a λa=>au (.int .u8) (a.add (i*1)) k) w:=
 MS.at (c:=.int .u8) (p:=(l[i].toNat:Int)) (x:=l[i]) h.ms (by simp[hi]) rfl hk
theorem JG{α:Type}{l:List α}{i:Nat}{x:α}(h:l[i]? =some x):i<l.length:=(bt h).2
theorem Qd{s:Sl}{ad:Addr}{j n:Nat}{k:Addr->Pr}(ha:s.a=some ad)(hj:j<s.len)(hk:k (ad.add (j*n)) w):el s (j:Int) n k w:=by
 refine⟨⟨by omega,by omega⟩,?_⟩;rw[ha,jk];exact hk
theorem SS.Y6{α:Type}{f:α->LV}{n:Nat}{rs:List α}(hf:∀r,(f r).length=n)(h:SS f w s rs){j:Nat}{r:α}{cs:List CS}{p:kD cs}{k:kD cs->Pr}(hr:rs[j]? =some r)(hn:n≠0)(hp:f r=j0 cs p)(hk:k p w):
 el s (j:Int) n (λa=>aQ cs a k) w:=by
 obtain⟨ad,ha,hrow⟩:=h.get hf hr hn;refine Qd ha (by rw[h.len];exact JG hr) ?_;exact nC (aF.2 (hp▸hrow)) hk
end
section
variable{F0:Nat->Prop}{w0 w w':World}{l:List HA}
theorem GC{b:Nat}{k:Pr}:∀(vs:LV) {us pre:LV} {w:World},us.length=vs.length->(∀v∈vs,aK v)->St F0 w0 w (aa b (pre++us)::l)->(∀w',St F0 w0 w' (aa b (pre++vs)::l)->k w')->Oy b pre.length vs k w
 |
  [],us,pre,w,hl,_,h,hk=>by
  have:us=[]:=jx hl;subst this;exact hk w h
 |
  v::vs,us,pre,w,hl,hn,h,hk=>by
  cases us with
  |nil=>simp at hl
  |
   cons u us=>
   show Eng.st (bA b pre.length) v (Oy b (pre.length+1) vs k) w;refine h.st (by simp) (hn v (List.mem_cons_self ..)) λw1 h1=>?_;have e:(pre++u::us).set pre.length v=(pre++[v])++us:=by simp
   rw[e]at h1;have:=GC vs (pre:=pre++[v]) (by simpa using hl) (λx hx=>hn x (List.mem_cons_of_mem _ hx)) h1 λw' h'=>hk w' (by simpa using h');simpa using this
theorem St.Dm{T:TypeId}{z vs:LV}{f:Nat->Pr}(h:St F0 w0 w l)(hz:z.length=vs.length)(hn:∀v∈vs,aK v)(hk:∀b w2,St F0 w0 w2 (aa b vs::l)->f b w2):Dm T z vs f w:=
 St.nw h λr w1 s1 _ _=>GC vs (pre:=[]) hz hn s1 λw' h'=>hk r w' h'
end
theorem fc{F0:Nat->Prop}{w0 w:World}{L:List HA}{s:Sl}{pre:LB}{n:Nat}{v:Int}{k:Sl->Pr}(h:St F0 w0 w (aq 1 s (pre.map ub)::L))(hv:v=((n%256:Nat):Int))(hl:pre.length<=100000000)
 (hk:∀r w',St F0 w0 w' (aq 1 r ((pre++[UInt8.ofNat n]).map ub)::L)->k r w'):
 (nw (.cells #[(.int .u8 v)] 5) λr=>app 5 1 1 [(.int .u8 0)] s ⟨some ⟨r,0,none⟩,1,1⟩ k) w:=by
 refine St.nw h λr w1 s1 _ _=>?_;have jZ:=aT h.sl;rw[je]at jZ;refine(s1.af 1).app (new:=[.int .u8 v]) (λ_=>rfl) (λh=>by cases h) (aF.2 s1.box.row) (by simp[aK]) rfl (by decide) (by dsimp only;omega) λr2 w2 s2 _=>?_;refine hk r2 w2 ?_;rw[jj,List.map_cons,List.map_nil,pG,<-hv];exact s2.del 1
def MW:List HA->Nat->HA->List HA
 |[],_,_=>[]
 |_::l,0,B=>B::l
 |A::l,n+1,B=>A::MW l n B
theorem sR:∀{l:List HA} {n:Nat} {A B:HA},kR l n=some A->∃m,l.Perm (A::m)/\(MW l n B).Perm (B::m)
 |[],_,_,_,h=>by simp[kR]at h
 |A::l,0,_,B,h=>by simp only[kR,jg]at h;subst h;exact⟨l,.refl _,.refl _⟩
 |
  A::l,n+1,C,B,h=>by
  obtain⟨m,h1,h2⟩:=sR (B:=B) (show kR l n=some C from h);exact⟨A::m,(h1.cons A).trans (.swap _ _ _),(h2.cons A).trans (.swap _ _ _)⟩
section
variable{F0:Nat->Prop}{w0 w:World}{l:List HA}
theorem St.Qe(n:Nat)(h:St F0 w0 w l){A:HA}(hn:kR l n=some A):∃F,A.is w F:=by
 obtain⟨_,F,h2,_⟩:=h;obtain⟨f,f1,_⟩:=h2.fn;exact⟨_,f1 n A hn⟩
theorem St.L(n:Nat)(h:St F0 w0 w l){b i:Nat}{vs:LV}{c:CS}{p:dw c}{k:dw c->Pr}(hn:kR l n=some (aa b vs))(hi:vs[i]? =some (bC c p))(hk:k p w):au c (bA b i) k w:=by
 obtain⟨F,hb,_⟩:=h.Qe n hn;exact hb.ld hi hk
theorem St.LA(n:Nat)(h:St F0 w0 w l){b:Nat}{vs:LV}{cs:List CS}{p:kD cs}{k:kD cs->Pr}(hn:kR l n=some (aa b vs))(hv:vs=j0 cs p)(hk:k p w):aQ cs (bA b 0) k w:=by
 obtain⟨F,hb,_⟩:=h.Qe n hn;subst hv;have:=bY.aQ hb hk;unfold bA;rwa[add_zero']
theorem St.S(n:Nat)(h:St F0 w0 w l){b i:Nat}{vs:LV}{v:Value}{k:Pr}(hn:kR l n=some (aa b vs))(hi:i<vs.length)(hv:aK v)(hk:∀w',St F0 w0 w' (MW l n (aa b (vs.set i v)))->k w'):Eng.st (bA b i) v k w:=by
 obtain⟨m,h1,h2⟩:=sR (B:=aa b (vs.set i v)) hn;exact(h.perm h1).st hi hv λw' h'=>hk w' (h'.perm h2.symm)
end
section
variable{F0:Nat->Prop}{w0 w:World}{l:List HA}
theorem St.ct{E n b:Nat}{s:Sl}{x:ByteArray}{z:LV}{vs:LV}{k:Sl->Pr}(h:St F0 w0 w (aq n s vs::l))(hn:n=1)(hz:z.length=n)(hb:b≠0)(hbd:(2*(s.len+x.size)+192)*b<=2^48)
 (hk:∀r w',St F0 w0 w' (aq n r (vs++GU x)::l)->r.len=s.len+x.size->k r w'):ct E n b z s x k w:=by
 subst hn;have hna:∀v∈GU x,aK v:=by
  intro v hv;obtain⟨c,_,rfl⟩:=kg.1 hv;trivial
 exact qV h.sl (Nat.zero_le _) (m:=x.size) (by rw[Nat.mul_one];show(x.data.toList.map _).length=x.data.size;rw[je,Array.length_toList]) hna hz hb hbd λr w' h1 h2 _ _ h5 h6=>hk r w' (h.NP h5 h1 h6) h2
theorem St.Fi{E n b m:Nat}{s:Sl}{M:Int}{z:LV}{vs:LV}{k:Sl->Pr}(h:St F0 w0 w (aq n s vs::l))(hM:M=(m:Int))(hm:m<=1000000000)(hz:z.length=n)(Y8:∀v∈z,aK v)(hb:b≠0)(Na:b<=64)(hbd:(2*(s.len+m)+192)*b<=2^48)
 (hk:∀r w',St F0 w0 w' (aq n r (vs++zc z m)::l)->r.len=s.len+m->k r w'):Fi E n b z s M k w:=by
 subst hM;have hna:∀v∈zc z m,aK v:=by
  intro v hv;unfold zc at hv;obtain⟨c,hc,hv⟩:=List.mem_flatten.1 hv;rw[(List.mem_replicate.1 hc).2]at hv;exact Y8 v hv
 have hc:=qV (E:=E) (k:=k) h.sl (Nat.zero_le _) (m:=m) (new:=zc z m) (by rw[gA,hz]) hna hz hb hbd λr w' h1 h2 _ _ h5 h6=>hk r w' (h.NP h5 h1 h6) h2;refine⟨by omega,?_,wrap_i64 ⟨by omega,by omega⟩,?_⟩
 ·have h2:=Int.ofNat_le.2 (Nat.mul_le_mul hm Na)
  rw[Int.natCast_mul]at h2;omega
 ·rw[jk]
  refine⟨hc.1,λh1=>?_⟩;obtain⟨old,e1,e2,_,e4,e5,e6⟩:=hc.2 h1;exact⟨old,e1,e2,e4,e5,e6⟩
end
section
variable{F0:Nat->Prop}{w0 w:World}{l:List HA}
end
theorem MX{α:Type}(a:Option α):a=none\/a.isSome=true:=by cases a<;>simp
theorem vI{w:World}{s:Sl}{l:LB}{o:Nat}{k:Sl->Pr}(h:BS w s l)(hle:s.len<=s.cap)(ho:o<=l.length)(hk:∀r,BS w r (l.drop o)->r.len=l.length-o->r.len<=r.cap->(s.a=none->r.a=none)->(∀b,r.lq b->s.lq b)->k r w):slc 1 s (some (o:Int)) none none k w:=by
 have hl:=h.len;refine D4 (by omega) (by omega) ?_;rw[jk];refine hk _ ?_ (by show s.len-o=_;omega) (by show s.len-o<=s.cap-o;omega) (λha=>by show(if s.cap=o then s.a else s.a.map (·.add (o*1)))=none;rw[ha];simp) ?_
 ·have:=h.ms.sub (o:=o) (n:=s.len-o) (c:=s.cap-o) (by omega) (a:=if s.cap=o then s.a else s.a.map (·.add (o*1)))
   (by
    by_cases hc:s.cap=o
    ·exact .inr (by omega)
    ·exact .inl (by rw[jc hc])) (λ_=>MX _)
  rw[List.take_of_length_le (by rw[kf];omega)]at this;exact this.bs
 ·rintro b ⟨ad,ha,rfl⟩
  by_cases hc:s.cap=o
  ·rw[jd hc]at ha;exact⟨ad,ha,rfl⟩
  ·rw[jc hc]at ha
   obtain⟨a0,h1,h2⟩:=Option.map_eq_some_iff.1 ha;exact⟨a0,h1,by rw[<-h2];simp⟩
end Go.Eng

set_option maxRecDepth 100000
namespace Go.Proofs
open Go.Eng
def Uu:An:=(.sq .z (.sq .z .z))
def Wp(p0:OA)(Q:Bool->Pr):Pr:=
 aP True<|
 br (Option.isNone p0) (
 Q true) (
 deref p0 λa=>
 vi (a.add 0) λt9=>
 aP True<|
 Q ((Option.isNone t9)))
theorem C5(p0:OA)(Q:Bool->Pr)(w:World)(h:Wp p0 Q w):Calls Pq 74 #[(.pointer p0)] w (aC [.c .bool] Q):=cF (an:=Uu) Tryz.func74 (by kernel_rfl) h
def Uv:An:=(.sq .z (.sq (.sq .z (.br (.sq .z .z) .z)) (.sq .z (.sq .z .z))))
def Wq(p0:OA)(Q:Int->Pr):Pr:=
 cB 74 [(.pointer p0)] λt6=>
 br t6 (
 Q 2) (
 deref p0 λa=>
 vi (a.add 0) λt11=>
 deref t11 λbX=>
 vi (bX.add 0) λt14=>
 aH Pq 75 [(.pointer t14)] [.c .ptr] λ(t15:OA)=>
 cO 76 [(.pointer t15),(iv 2),(iv 0),(iv 0)] λt16=>
 Q t16.2)
theorem C6(p0:OA)(Q:Int->Pr)(w:World)(h:Wq p0 Q w):Calls Pq 41 #[(.pointer p0)] w (aC [.c vj] Q):=cF (an:=Uv) Tryz.func41 (by kernel_rfl) h
def Uw:An:=(.sq .z (.sq (.sq .z (.sq .z (.br (.sq .z .z) .z))) (.sq .z (.sq (.sq .z (.br (.sq .z .z) .z)) (.sq .z .z)))))
def Wr(p0:OA)(Q:(Sl×Sl)×Int->Pr):Pr:=
 nw (.cells #[(.slice none 0 0),(.slice none 0 0)] 32) λr=>
 cI 41 [(.pointer p0)] λt9=>
 br (t9 !=0) (
 st (bA r 0) (.slice none 0 0)<|
 st (bA r 1) (.slice none 0 0)<|
 aQ [.slice,.slice] (bA r 0) λ(res:Sl×Sl)=>
 Q (res,t9)) (
 aH Pq 42 [(.pointer p0)] [.agg [.slice,.slice],.c .slice,.c vj] λ(t16:(Sl×Sl)×Sl×Int)=>
 Dm 32 [(.slice none 0 0),(.slice none 0 0)] [(slV t16.1.1),(slV t16.1.2)] λr_1=>
 br (t16.2.2 !=0) (
 st (bA r 0) (.slice none 0 0)<|
 st (bA r 1) (.slice none 0 0)<|
 aQ [.slice,.slice] (bA r 0) λ(cX:Sl×Sl)=>
 Q (cX,t16.2.2)) (
 aQ [.slice,.slice] (bA r_1 0) λ(t24:Sl×Sl)=>
 aH Pq 43 [(.agg #[(slV t24.1),(slV t24.2)])] [.agg [.slice,.slice],.c vj] λ(t25:(Sl×Sl)×Int)=>
 st (bA r 0) (slV t25.1.1)<|
 st (bA r 1) (slV t25.1.2)<|
 aQ [.slice,.slice] (bA r 0) λ(kQ:Sl×Sl)=>
 Q (kQ,t25.2)))
theorem C7(p0:OA)(Q:(Sl×Sl)×Int->Pr)(w:World)(h:Wr p0 Q w):Calls Pq 16 #[(.pointer p0)] w (aC [.agg [.slice,.slice],.c vj] Q):=cF (an:=Uw) Tryz.func16 (by kernel_rfl) h
def YU:An:=(.sq .z (.sq .z (.sq (.sq .z (.br (.sq .z .z) .z)) (.sq .z .z))))
def F7(p0:OA)(Q:Sl×Value->Pr):Pr:=
 aH Pq 16 [(.pointer p0)] [.agg [.slice,.slice],.c vj] λ(t8:(Sl×Sl)×Int)=>
 Dm 32 [(.slice none 0 0),(.slice none 0 0)] [(slV t8.1.1),(slV t8.1.2)] λr=>
 br (t8.2 !=0) (
 aH Pq 17 [(iv 0),(.iface 24 (iv t8.2))] [.c .any] λ(t15:Value)=>
 Q (⟨none,0,0⟩,t15)) (
 aQ [.slice,.slice] (bA r 0) λ(t16:Sl×Sl)=>
 aH Pq 10 [(.agg #[(slV t16.1),(slV t16.2)])] [.c .slice,.c .any] λ(t17:Sl×Value)=>
 Q t17)
theorem Gs(p0:OA)(Q:Sl×Value->Pr)(w:World)(h:F7 p0 Q w):Calls Pq 7 #[(.pointer p0)] w (aC [.c .slice,.c .any] Q):=cF (an:=YU) Tryz.func7 (by kernel_rfl) h
def Ux:An:=(.sq .z (.sq (.sq .z (.sq .z (.br (.sq .z .z) .z))) (.sq (.sq .z (.br (.sq .z .z) .z)) (.sq .z (.sq (.sq .z (.br .z .z)) (.sq .z .z))))))
def Ws(p0:OA)(Q:Int->Pr):Pr:=
 cI 41 [(.pointer p0)] λt6=>
 br (t6 !=0) (
 Q t6) (
 deref p0 λa=>
 vi (a.add 2) λt13=>
 aH Pq 138 [(.pointer t13)] [.agg [vj,vj]] λ(t14:Int×Int)=>
 br (t14.1 !=0) (
 Q 7) (
 deref p0 λbX=>
 vi (bX.add 0) λt20=>
 deref t20 λcV=>
 vi (cV.add 0) λt23=>
 cI 139 [(.pointer t23)] λt24=>
 br (t24==0) (
 deref p0 λdP=>
 aQ [.slice] (dP.add 3) λ(t31:Sl)=>
 aH Pq 140 [(.agg #[(slV t31)])] [.agg [.slice]] λ(t32:Sl)=>
 deref p0 λbw=>
 st (bw.add 4) (slV t32)<|
 Q t24) (
 Q t24)))
theorem C8(p0:OA)(Q:Int->Pr)(w:World)(h:Ws p0 Q w):Calls Pq 89 #[(.pointer p0)] w (aC [.c vj] Q):=cF (an:=Ux) Tryz.func89 (by kernel_rfl) h
def Uy:An:=(.sq .z (.sq .z (.sq (.jn [(7,.c (.int .i64))] (.sq .z (.br (.sq (.jn [(7,.c (.int .i64))] (.sq .z (.sq .z (.br .z .z)))) (.sq (.jn [(32,.c .bool)] .z) (.br .z .z))) .z))) (.sq (.sq .z (.br (.sq .z .z) .z)) (.sq .z .z)))))
def Wt(p0:OA)(p1:Int)(p2:Value)(Q:Value->Pr):Pr:=
 deref p0 λa=>
 vi (a.add 0) λt11=>
 cI 89 [(.pointer t11)] λt12=>
 jn (S:=Int) (λR=>
 br (t12==0) (
 jn (S:=Int) (λbG=>
 cE Pq p2 [] [.c vj] λ(t16:Int)=>
 br (t16==0) (
 deref p0 λbX=>
 vi (bX.add 0) λt22=>
 cI 90 [(.pointer t22)] λt23=>
 bG t23) (
 bG t16)) λs_1=>
 jn (S:=Bool) (λjN=>
 br (s_1 !=0) (
 deref p0 λcV=>
 vi (cV.add 0) λt30=>
 cB 91 [(.pointer t30)] λt31=>
 jN t31) (
 jN false)) λs_2=>
 br s_2 (
 deref p0 λdP=>
 vi (dP.add 0) λt36=>
 cI 92 [(.pointer t36)] λt37=>
 R s_1) (
 R s_1)) (
 R t12)) λs=>
 br (s !=0) (
 aH Pq 17 [(iv p1),(.iface 24 (iv s))] [.c .any] λ(t43:Value)=>
 Q t43) (
 Q .nilIface)
theorem C9(p0:OA)(p1:Int)(p2:Value)(Q:Value->Pr)(w:World)(h:Wt p0 p1 p2 Q w):Calls Pq 44 #[(.pointer p0),(iv p1),p2] w (aC [.c .any] Q):=cF (an:=Uy) Tryz.func44 (by kernel_rfl) h
def Uz:An:=(.sq .z (.sq .z (.sq (.sq .z (.bl (.lp [(25,.c (.int .i64))] (.sq .z (.sq (.br .z .z) (.sq (.bl (.sq .z (.sq .z (.sq .z (.br (.sq .z .z) .z))))) .z)))))) (.sq (.sq .z (.bl (.lp [(44,.c (.int .i64))] (.sq .z (.sq (.br .z .z) (.sq (.jn [] (.bl (.sq .z (.sq (.sq .z (.br .z .z)) (.sq .z (.sq .z (.br (.sq .z .z) .z))))))) .z)))))) (.sq (.sq .z (.bl (.lp [(69,.c (.int .i64))] (.sq .z (.sq (.br .z .z) (.sq (.bl (.sq .z (.sq .z (.sq .z (.br (.sq .z .z) .z))))) .z)))))) (.sq .z .z))))))
def Wu(p0:OA)(Q:Value->Pr):Pr:=
 aP (aK (.pointer p0))<|nw (.cells #[(.pointer p0)] 67) λr=>
 vi (bA r 0) λt13=>
 deref t13 λa_1=>
 Ng (a_1.add 1) λt17=>
 vi (bA r 0) λt19=>
 deref t19 λcV=>
 Ng (cV.add 1) λt23=>
 aM (S:=Int) (λX s=>
 br (decide (s<(t23.len:Int))) (
 el t23 s 3 λbu=>
 aQ [vj,.slice,.slice] bu λ(t29:Int×Sl×Sl)=>
 Dm 62 [(iv 0),(.slice none 0 0),(.slice none 0 0)] [(iv t29.1),(slV t29.2.1),(slV t29.2.2)] λr_1=>
 vi (bA r 0) λt30=>
 aH Pq 44 [(.pointer t30),(iv s),(.func (.func 45) #[] #[(.pointer (some ⟨r,0,none⟩)),(.pointer (some ⟨r_1,0,none⟩))])] [.c .any] λ(t33:Value)=>
 aP (tK t33)<|
 br (!cg t33) (
 Q t33) (
 X ((Kf (s+1))))) (
 vi (bA r 0) λt38=>
 deref t38 λbS=>
 Ng (bS.add 1) λt42=>
 aM (S:=Int) (λjM s_1=>
 br (decide (s_1<(t42.len:Int))) (
 jn (S:=Unit) (λR=>
 el t42 s_1 3 λcz=>
 aQ [vj,.slice,.slice] cz λ(t48:Int×Sl×Sl)=>
 aP (aK (iv 0))<|nw (.cells #[(iv 0)] 3) λr_2=>
 nw (.cells #[(iv 0),(.slice none 0 0),(.slice none 0 0)] 62) λr_3=>
 st (bA r_2 0) (iv s_1)<|
 Oy r_3 0 [(iv t48.1),(slV t48.2.1),(slV t48.2.2)]<|
 Ng (bA r_3 1) λt50=>
 cB 47 [(slV t50),(.func (.func 48) #[] #[])] λt51=>
 br (!t51) (
 R ()) (
 vi (bA r 0) λt53=>
 YC (bA r_2 0) λt55=>
 aH Pq 44 [(.pointer t53),(iv (Kf ((t17.len:Int)+t55))),(.func (.func 49) #[] #[(.pointer (some ⟨r,0,none⟩)),(.pointer (some ⟨r_2,0,none⟩))])] [.c .any] λ(t58:Value)=>
 aP (tK t58)<|
 br (!cg t58) (
 Q t58) (
 R ()))) λs_2=>
 jM ((Kf (s_1+1)))) (
 vi (bA r 0) λt63=>
 deref t63 λfA=>
 Ng (fA.add 2) λt67=>
 aM (S:=Int) (λxh dB=>
 br (decide (dB<(t67.len:Int))) (
 el t67 dB 2 λkO=>
 aQ [.str,vj] kO λ(t73:ByteArray×Int)=>
 Dm 64 [(.string (⟨#[]⟩:ByteArray)),(iv 0)] [(.string t73.1),(iv t73.2)] λnc=>
 vi (bA r 0) λt74=>
 aH Pq 44 [(.pointer t74),(iv (Kf ((Kf (2*(t17.len:Int)))+dB))),(.func (.func 51) #[] #[(.pointer (some ⟨r,0,none⟩)),(.pointer (some ⟨nc,0,none⟩))])] [.c .any] λ(t80:Value)=>
 aP (tK t80)<|
 br (!cg t80) (
 Q t80) (
 xh ((Kf (dB+1))))) (
 Q .nilIface)) 0)) 0)) 0
theorem Da(p0:OA)(Q:Value->Pr)(w:World)(h:Wu p0 Q w):Calls Pq 18 #[(.pointer p0)] w (aC [.c .any] Q):=cF (an:=Uz) Tryz.func18 (by kernel_rfl) h
def UA:An:=(.sq .z (.sq .z (.sq .z .z)))
def Wv(p0:Value)(Q:Bool->Pr):Pr:=
 aP (aK (.pointer none))<|nw (.cells #[(.pointer none)] 111) λr=>
 cB 53 [p0,(.iface 123 (.pointer (some ⟨r,0,none⟩)))] λt6=>
 br t6 (
 cB 54 [p0,(.iface 24 (iv 260))] λt10=>
 Q (!t10)) (
 Q false)
theorem Db(p0:Value)(Q:Bool->Pr)(w:World)(h:Wv p0 Q w):Calls Pq 19 #[p0] w (aC [.c .bool] Q):=cF (an:=UA) Tryz.func19 (by kernel_rfl) h
def YV:An:=(.sq .z (.sq .z (.sq (.sq .z (.br (.sq .z .z) .z)) (.sq .z (.sq (.sq .z (.sq .z (.br (.sq .z .z) .z))) (.sq .z .z))))))
def F8(p0:OA)(p1:Sl)(Q:Int×Value->Pr):Pr:=
 aH Pq 12 [(slV p1)] [.agg [.slice,.slice],.c .any] λ(t12:(Sl×Sl)×Value)=>
 Dm 32 [(.slice none 0 0),(.slice none 0 0)] [(slV t12.1.1),(slV t12.1.2)] λr=>
 aP (tK t12.2)<|
 br (!cg t12.2) (
 Q (0,t12.2)) (
 aQ [.slice,.slice] (bA r 0) λ(t19:Sl×Sl)=>
 nw (.cells #[(.pointer p0),(slV t19.1),(slV t19.2),(.slice none 0 0)] 70) λr_1=>
 aH Pq 18 [(.pointer (some ⟨r_1,0,none⟩))] [.c .any] λ(t23:Value)=>
 cB 19 [t23] λt25=>
 br t25 (
 Q (0,t23)) (
 Ng (bA r 0) λt28=>
 Q ((t28.len:Int),.nilIface)))
theorem Gt(p0:OA)(p1:Sl)(Q:Int×Value->Pr)(w:World)(h:F8 p0 p1 Q w):Calls Pq 8 #[(.pointer p0),(slV p1)] w (aC [.c vj,.c .any] Q):=cF (an:=YV) Tryz.func8 (by kernel_rfl) h
def YW:An:=(.sq .z (.sq (.sq (.jn [(17,.c .bool)] .z) (.br (.sq .z .z) .z)) (.sq .z (.sq (.sq .z (.bl (.lp [(28,.c (.int .i64))] (.sq .z (.sq (.br .z .z) (.sq (.bl (.sq .z (.sq .z (.sq .z (.sq (.jn [(61,.c .bool)] .z) (.br (.sq .z .z) .z)))))) .z)))))) (.sq .z .z)))))
def F3(p0:Sl)(Q:Bool->Pr):Pr:=
 jn (S:=Bool) (λR=>
 cB 4 [] λt11=>
 br (!t11) (
 R true) (
 R ((decide ((p0.len:Int)>20000))))) λs=>
 br s (
 cB 4 [] λt18=>
 Q t18) (
 aH Pq 6 [] [.agg [.slice,.slice]] λ(t20:Sl×Sl)=>
 aH Pq 5 [(.agg #[(slV t20.1),(slV t20.2)])] [.c .slice,.agg [vj,vj]] λ(t21:Sl×Int×Int)=>
 Dm 26 [(iv 0),(iv 0)] [(iv t21.2.1),(iv t21.2.2)] λr=>
 nw (.cells #[(.pointer none),(.pointer none),(.pointer none),(.slice none 0 0),(.slice none 0 0)] 42) λr_1=>
 nw (.cells #[(.pointer none),(.pointer (some ⟨r_1,0,none⟩))] 34) λr_2=>
 aM (S:=Int) (λX s_1=>
 br (decide (s_1<(2:Int))) (
 aP ((0:Int)<=s_1/\s_1<(2:Int))<|
 vi ((bA r_2 0).add (Int.toNat s_1*1)) λt31=>
 aH Pq 7 [(.pointer t31)] [.c .slice,.c .any] λ(t34:Sl×Value)=>
 aH Pq 8 [(.pointer t31),(slV t21.1)] [.c vj,.c .any] λ(t40:Int×Value)=>
 jn (S:=Bool) (λbG=>
 br ((t34.1.len:Int)!=0) (
 bG true) (
 cB 9 [t34.2,(.agg #[(iv 0),(iv 2)])] λt49=>
 br (!t49) (
 bG true) (
 br (t40.1 !=0) (
 bG true) (
 cB 9 [t40.2,(.agg #[(iv 0),(iv 2)])] λt59=>
 bG (!t59))))) λs_2=>
 br s_2 (
 Q false) (
 X ((Kf (s_1+1))))) (
 Q true)) 0)
theorem Gu(p0:Sl)(Q:Bool->Pr)(w:World)(h:F3 p0 Q w):Calls Pq 3 #[(slV p0)] w (aC [.c .bool] Q):=cF (an:=YW) Tryz.func3 (by kernel_rfl) h
set_option maxRecDepth 20000
open Go.Eng Go.RowKit Go.Extern.Stop Go.Stop Go.Extern
section
variable{w0 W:World}{L:List HA}
theorem Qi{eb:Nat}{dH n n':Int}{k:Bool->Pr}(hne:n≠n')(s:St aA w0 W (bR eb dH n::L))(hk:∀W',St aA w0 W' (bR eb dH n::L)->k false W'):
 aH Pq 108 [.iface 111 (.pointer (some ⟨eb,0,none⟩)),.iface 24 (.int .i64 n'),.bool true] [.c .bool] k W:=by
 refine qd (.iface 111 (.pointer (some ⟨eb,0,none⟩))) (.iface 24 (.int .i64 n')) true k W ?_;unfold LC;simp only[ag];refine aB (λz W=>(z=.iface 111 (.pointer (some ⟨eb,0,none⟩))\/z=.iface 24 (.int .i64 n))/\St aA w0 W (bR eb dH n::L)) (λz _=>match z with|.iface 111 _=>1|_=>0) ⟨.inl rfl,s⟩ ?_;rintro _ W2 ⟨rfl|rfl,s2⟩
 ·refine aL (λs' W'=>s'=false/\St aA w0 W' (bR eb dH n::L)) (ah (λ_=>Ay ⟨rfl,s2⟩) λh=>by cases h) ?_
  rintro _ W3 ⟨rfl,s3⟩;refine ah (λh=>by cases h) λ_=>?_;refine nK (by kernel_rfl) ?_;refine aL (λs' W'=>s'=false/\St aA w0 W' (bR eb dH n::L)) (ah (λh=>by cases h) λ_=>⟨rfl,s3⟩) ?_;rintro _ W4 ⟨rfl,s4⟩;refine ah (λh=>by cases h) λ_=>?_;refine tD (by kernel_rfl) ?_;refine ah (λ_=>?_) λh=>by cases h
  refine lF s4.box ⟨trivial,?_⟩;refine ah (λh=>by cases h) λ_=>?_;exact⟨⟨.inr rfl,s4⟩,Nat.zero_lt_one⟩
 ·refine aL (λs' W'=>s'=false/\St aA w0 W' (bR eb dH n::L)) (ah (λ_=>Aw ⟨by simpa using hne,s2⟩) λh=>by cases h) ?_
  rintro _ W3 ⟨rfl,s3⟩;refine ah (λh=>by cases h) λ_=>?_;refine nK (by kernel_rfl) ?_;refine aL (λs' W'=>s'=false/\St aA w0 W' (bR eb dH n::L)) (ah (λh=>by cases h) λ_=>⟨rfl,s3⟩) ?_;rintro _ W4 ⟨rfl,s4⟩;refine ah (λh=>by cases h) λ_=>?_;refine nK (by kernel_rfl) ?_;refine ah (λh=>by cases h) λ_=>?_;refine nK (by kernel_rfl) ?_;exact ah (λh=>by cases h) λ_=>hk W4 s4
theorem Qj{eb:Nat}{dH n n':Int}{k:Bool->Pr}(hne:n≠n')(s:St aA w0 W (bR eb dH n::L))(hk:∀W',St aA w0 W' (bR eb dH n::L)->k false W'):
 aH Pq 54 [.iface 111 (.pointer (some ⟨eb,0,none⟩)),.iface 24 (.int .i64 n')] [.c .bool] k W:=by
 refine r8 (.iface 111 (.pointer (some ⟨eb,0,none⟩))) (.iface 24 (.int .i64 n')) k W ?_;unfold RX;refine aL (λs' W'=>s'=false/\St aA w0 W' (bR eb dH n::L)) ⟨trivial,ah (λh=>by cases h) λ_=>⟨trivial,rfl,s⟩⟩ ?_;rintro _ W3 ⟨rfl,s3⟩;refine ah (λh=>by cases h) λ_=>?_;refine bV (eT 24) (yA _ _) (v5 ?_);exact Qi hne s3 hk
theorem MZ{eb:Nat}{dH n:Int}{k:Bool->Pr}(hg:w0.cell? ⟨0,0,none⟩=some (eT 45))(hn:n≠260)(s:St aA w0 W (bR eb dH n::L))(hk:∀W' T,St aA w0 W' (bR eb dH n::(L++T))->k true W'):
 aH Pq 19 [.iface 111 (.pointer (some ⟨eb,0,none⟩))] [.c .bool] k W:=by
 refine Db (.iface 111 (.pointer (some ⟨eb,0,none⟩))) k W ?_;unfold Wv;refine⟨trivial,St.nw s λr w1 s1 _ _=>?_⟩;refine v7 (old:=.pointer none) hg s1 λW' T s2=>?_;refine ah (λ_=>?_) λh=>by cases h
 have s2:St aA w0 W' (aa r [.pointer (some ⟨eb,0,none⟩)]::bR eb dH n::(L++T)):=s2;exact Qj hn s2.drop λW2 s3=>hk W2 _ s3
abbrev P0(b:Nat):Value:=.pointer (some ⟨b,0,none⟩)
def KG(p:OA)(w:World):Prop:=p=none\/∃b vs,p=some ⟨b,0,none⟩/\bY w b (.pointer none::vs)
theorem KG.grow{p:OA}{w w':World}(h:KG p w)(g:Grow w w'):KG p w':=h.imp id λ⟨b,vs,h1,h2⟩=>⟨b,vs,h1,h2.grow g⟩
theorem Qk{p:OA}{k:Bool->Pr}(h:KG p W)(hk:k true W):aH Pq 74 [.pointer p] [.c .bool] k W:=by
 refine ak (post:=k) (C5 _ _ _ ?_) λ_ _ h=>h;unfold Wp;rcases h with rfl|⟨b,vs,rfl,hb⟩
 ·exact⟨trivial,oN rfl hk⟩
 ·refine⟨trivial,iK rfl ?_⟩
  rw[ag];exact hb.ld (i:=0) (s:=.ptr) (p:=none) rfl ⟨trivial,hk⟩
theorem Ql{p:OA}{k:Int->Pr}(h:KG p W)(hk:k 2 W):aH Pq 41 [.pointer p] [.c (.int .i64)] k W:=by
 refine ak (post:=k) (C6 _ _ _ ?_) λ_ _ h=>h;unfold Wq;exact Qk h (oN rfl hk)
theorem GK{n e:Int}{k:Value->Pr}(s:St aA w0 W L)(hk:∀b W',St aA w0 W' (bR b n e::L)->k (.iface 111 (.pointer (some ⟨b,0,none⟩))) W'):aH Pq 17 [.int .i64 n,.iface 24 (.int .i64 e)] [.c .any] k W:=by
 refine ak (Vw n (.iface 24 (.int .i64 e)) W trivial) ?_;rintro _ w1 ⟨b,rfl,k1⟩;exact hk b w1 (s.aZ k1)
theorem Qm{p:OA}{k:Sl×Value->Pr}(s:St aA w0 W L)(h:KG p W)(hk:∀b W',St aA w0 W' (bR b 0 2::L)->k (⟨none,0,0⟩,.iface 111 (.pointer (some ⟨b,0,none⟩))) W'):aH Pq 7 [.pointer p] [.c .slice,.c .any] k W:=by
 refine ak (post:=k) (Gs _ _ _ ?_) λ_ _ h=>h;unfold F7;refine ak (post:=λz w'=>z=((⟨none,0,0⟩,⟨none,0,0⟩),(2:Int))/\Grow W w') (C7 _ _ _ ?_) ?_
 ·unfold Wr
  refine St.nw (St.bp W) λr w1 s1 _ _=>?_;refine Ql (h.grow s1.bh) (oN rfl ?_);refine St.S 0 s1 rfl (i:=0) (by simp) trivial λw2 s2=>?_;refine St.S 0 s2 rfl (i:=1) (by simp) trivial λw3 s3=>?_;exact St.LA 0 s3 rfl (cs:=[.slice,.slice]) (p:=((⟨none,0,0⟩:Sl),(⟨none,0,0⟩:Sl))) rfl ⟨rfl,s3.bh⟩
 rintro z w1 ⟨hz,g1⟩;subst hz;refine(s.grow g1).Dm (T:=32) rfl (vs:=[.slice none 0 0,.slice none 0 0]) (by simp[aK]) λr w2 s2=>?_;refine oN rfl ?_;exact GK s2.drop hk
theorem Qn{p:OA}{q:Sl}{G:GG}{l:LB}{k:Int×Value->Pr}(hg:w0.cell? ⟨0,0,none⟩=some (eT 45))(s:St aA w0 W L)(h:∀(V:List HA) W',St aA w0 W' (V++L)->KG p W')(hb:BS W q l)(hc:q.len<=q.cap)(hl:l.length<=1000000)(hu:eA l=.ok G)(hn:G.n≠[])
 (hk:∀b W' T,St aA w0 W' (bR b 0 2::(L++T))->k (0,.iface 111 (.pointer (some ⟨b,0,none⟩))) W'):aH Pq 8 [.pointer p,slV q] [.c (.int .i64),.c .any] k W:=by
 refine ak (post:=k) (Gt _ _ _ _ ?_) λ_ _ h=>h;unfold F8;refine ak (RJ q l W hb hc hl) ?_;rintro⟨⟨x1,x2⟩,e1⟩ w1 (⟨x,hx,GX,rfl,hxs,k1⟩|⟨e,n,b,hx,_⟩)
 rotate_left
 ·rw[hu]at hx;cases hx
 rw[hu]at hx;simp only[Except.ok.injEq]at hx;simp only[Prod.mk.injEq]at GX;obtain⟨rfl,rfl⟩:=GX;have s1:St aA w0 w1 (dG x::L):=s.aZ k1;refine s1.Dm (T:=32) rfl (vs:=[slV x.gn,slV x.gr]) (by simp[slV,aK]) λr w2 s2=>?_;refine⟨trivial,iK rfl ?_⟩;refine St.LA 0 s2 rfl (cs:=[.slice,.slice]) (p:=(x.gn,x.gr)) rfl ?_;refine St.nw s2 λr1 w3 s3 _ _=>?_;have s3:St aA w0 w3 (aa r1 [.pointer p,slV x.gn,slV x.gr,.slice none 0 0]::aa r [slV x.gn,slV x.gr]::dG x::L):=s3;have ko:0<x.xs.length:=by
  have:x.m.n=x.xs.map NS.m:=rfl;rw[hx]at hn;rw[this]at hn;cases UF:x.xs with
  |nil=>rw[UF]at hn;exact absurd rfl hn
  |cons _ _=>simp
 refine ak (post:=λz W'=>∃b,z=.iface 111 (.pointer (some ⟨b,0,none⟩))/\∃T,St aA w0 W' (bR b 0 2::(L++T))) (Da _ _ _ ?_) ?_
 ·unfold Wu
  refine⟨trivial,St.nw s3 λr2 w4 s4 _ _=>?_⟩;have s4:St aA w0 w4 (aa r2 [P0 r1]::aa r1 [.pointer p,slV x.gn,slV x.gr,.slice none 0 0]::aa r [slV x.gn,slV x.gr]::dG x::L):=s4;refine St.L 0 s4 rfl (i:=0) (p:=some ⟨r1,0,none⟩) rfl ?_;simp only[ag];refine St.L 1 s4 rfl (i:=1) (p:=x.gn) rfl ?_;refine St.L 0 s4 rfl (i:=0) (p:=some ⟨r1,0,none⟩) rfl ?_;simp only[ag];refine St.L 1 s4 rfl (i:=1) (p:=x.gn) rfl ?_;have JP:=(St.rg (s4.af 3) hxs).ns;refine aB (λz W=>z=0/\W=w4) (λ_ _=>0) ⟨rfl,rfl⟩ ?_;rintro _ _ ⟨rfl,rfl⟩;have K5:x.xs[0]? =some x.xs[0]:=jl ko;refine oN (by have:=JP.len;simp;omega) ?_;refine SS.Y6 (f:=aj) (n:=3) (j:=0) (λ_=>rfl) JP K5 (by decide) (cs:=[.int .i64,.slice,.slice]) (p:=(x.xs[0].k,x.xs[0].ps,x.xs[0].ds)) rfl ?_;generalize x.xs[0]=y;refine s4.Dm (T:=62) rfl (vs:=[.int .i64 y.k,slV y.ps,slV y.ds]) (by simp[slV,aK]) λr3 w5 s5=>?_;refine St.L 1 s5 rfl (i:=0) (p:=some ⟨r1,0,none⟩) rfl ?_;have s5:St aA w0 w5 (aa r3 [.int .i64 y.k,slV y.ps,slV y.ds]::aa r2 [P0 r1]::aa r1 [.pointer p,slV x.gn,slV x.gr,.slice none 0 0]::aa r [slV x.gn,slV x.gr]::dG x::L):=s5;refine ak (post:=λz W'=>∃b,z=.iface 111 (.pointer (some ⟨b,0,none⟩))/\∃T,St aA w0 W' (bR b 0 2::(L++T))) (C9 _ _ _ _ _ ?_) ?_
  ·unfold Wt
   simp only[ag];refine St.L 2 s5 rfl (i:=0) (p:=p) rfl ?_;refine ak (post:=λz W'=>z=2/\W'=w5) (C8 _ _ _ ?_) ?_
   ·unfold Ws
    exact Ql (h [aa r3 [.int .i64 y.k,slV y.ps,slV y.ds],aa r2 [P0 r1],aa r1 [.pointer p,slV x.gn,slV x.gr,.slice none 0 0],aa r [slV x.gn,slV x.gr],dG x] w5 s5) (oN rfl ⟨rfl,rfl⟩)
   rintro z W' ⟨hz,rfl⟩;subst hz;refine aL (λz W=>z=2/\W=W') (iK rfl ⟨rfl,rfl⟩) ?_;rintro _ _ ⟨rfl,rfl⟩;refine oN rfl ?_;refine GK s5 λb W2 s6=>⟨b,rfl,[aa r3 [.int .i64 y.k,slV y.ps,slV y.ds],aa r2 [P0 r1],aa r1 [.pointer p,slV x.gn,slV x.gr,.slice none 0 0],aa r [slV x.gn,slV x.gr],dG x],?_⟩;exact s6.perm (List.Perm.cons _ (List.perm_append_comm (l₁:=[aa r3 [.int .i64 y.k,slV y.ps,slV y.ds],aa r2 [P0 r1],aa r1 [.pointer p,slV x.gn,slV x.gr,.slice none 0 0],aa r [slV x.gn,slV x.gr],dG x]) (l₂:=L)))
  rintro z W2 ⟨b,hz,T,s6⟩;subst hz;exact⟨trivial,oN rfl ⟨b,rfl,T,s6⟩⟩
 rintro z W2 ⟨b,hz,T,s6⟩;subst hz;refine MZ hg (by decide) s6 λW3 T2 s7=>?_;refine oN rfl (hk b W3 (T++T2) ?_);rwa[jt]at s7
theorem law3(q:Sl)(l:LB)(w:World)(hg:w.cell? ⟨0,0,none⟩=some (eT 45))(hb:BS w q l)(hc:q.len<=q.cap):Calls Pq 3 #[slV q] w (aC [.c .bool] λr w'=>r=true/\Grow w w'):=by
 refine Gu _ _ _ ?_;unfold F3;refine aL (λ_ W=>Grow w W) ?_ ?_
 ·refine ak (Y7 w hg) ?_
  rintro _ w1 ⟨rfl,g1⟩;exact iK rfl g1
 rintro b W gW;refine ah (λ_=>?_) λ_=>?_
 ·refine ak (Y7 W (qb gW hg)) ?_
  rintro _ w1 ⟨rfl,g1⟩;exact⟨rfl,gW.trans g1⟩
 have Ew:=qe mH;refine ak (QE W) ?_;rintro⟨a1,a2⟩ w1 ⟨g,rfl,rfl,LG,k1⟩;have s1:St aA w w1 [dG g]:=((St.bp w).grow gW).aZ k1;have RY:g.small:=GS.cJ.2 (by rw[LG];exact Ew);refine ak (XR g w1 (St.rg s1 RY)) ?_;rintro⟨y,f1,f2⟩ w2 (⟨_,hf,k2⟩|⟨Na,_⟩)
 rotate_left
 ·rw[LG,ok_two]at Na;cases Na
 simp only[Prod.mk.injEq]at hf;obtain⟨rfl,rfl⟩:=hf;rw[LG,o5]at k2;have s2:St aA w w2 [aq 1 y ((bZ ek).map ub),dG g]:=s1.aZ k2;refine s2.Dm (T:=26) rfl (vs:=[.int .i64 0,.int .i64 0]) (by simp[aK]) λr w3 s3=>?_;refine St.nw s3 λr1 w4 s4 _ _=>St.nw s4 λr2 w5 s5 _ _=>?_;have s5:St aA w w5 ([aa r2 [.pointer none,P0 r1],aa r1 [.pointer none,.pointer none,.pointer none,.slice none 0 0,.slice none 0 0],aa r [.int .i64 0,.int .i64 0],aq 1 y ((bZ ek).map ub),dG g]++[]):=s5;have hun:=ot mH ok_two o5;refine aB (λz W=>∃(j:Nat) (T:List HA),z=(j:Int)/\j<=2/\St aA w W ([aa r2 [.pointer none,P0 r1],aa r1 [.pointer none,.pointer none,.pointer none,.slice none 0 0,.slice none 0 0],aa r [.int .i64 0,.int .i64 0],aq 1 y ((bZ ek).map ub),dG g]++T)) (λz _=>(2-z).toNat) ⟨0,[],rfl,by decide,s5⟩ ?_;rintro _ W2 ⟨j,T,rfl,hj,s6⟩;by_cases hj2:j<2
 rotate_left
 ·exact iK (by simp;omega) ⟨rfl,s6.bh⟩
 refine oN (by simp;omega) ⟨⟨by omega,by omega⟩,?_⟩;obtain⟨p,hp,hno⟩:∃p:OA,([.pointer none,P0 r1]:LV)[j]? =some (bC .ptr p)/\∀(V:List HA) W',St aA w W' (V++([aa r2 [.pointer none,P0 r1],aa r1 [.pointer none,.pointer none,.pointer none,.slice none 0 0,.slice none 0 0],aa r [.int .i64 0,.int .i64 0],aq 1 y ((bZ ek).map ub),dG g]++T))->KG p W':=by
  rcases(show j=0\/j=1 by omega)with rfl|rfl
  ·exact⟨none,rfl,λ_ _ _=>.inl rfl⟩
  ·exact⟨some ⟨r1,0,none⟩,rfl,λV W' hs=>.inr ⟨r1,_,rfl,((St.z9 hs).af 1).box⟩⟩
 have QI:∀{k:OA->Pr},k p W2->au .ptr ((bA r2 0).add (Int.toNat (j:Int)*1)) k W2:=λhk=>by
  have:=St.L 0 s6 rfl (i:=j) (c:=.ptr) (p:=p) hp hk;unfold bA at this⊢;rw[add_add,jk,Nat.mul_one,Nat.zero_add];exact this
 refine QI ?_;refine Qm s6 (hno [] W2 s6) λb1 W3 s7=>?_;have mg:(bZ ek).length=27:=kW;refine Qn (q:=y) (G:=ek) hg s7 (λV W' hs=>hno (V++[_]) W' (by rw[jt];exact hs)) (s7.af 4).sl.bs (s7.af 4).sl.le (by rw[mg];decide) hun (by decide) λb2 W4 T2 s8=>?_;refine aL (λz W=>z=false/\∃T,St aA w W ([aa r2 [.pointer none,P0 r1],aa r1 [.pointer none,.pointer none,.pointer none,.slice none 0 0,.slice none 0 0],aa r [.int .i64 0,.int .i64 0],aq 1 y ((bZ ek).map ub),dG g]++T)) ?_ ?_
 ·refine iK rfl ?_
  refine LF (e:=0) (n':=2) hg (by decide) (s8.af 1) λW5 s9=>?_;refine iK (by simp) (iK rfl ?_);refine LF (e:=0) (n':=2) hg (by decide) (s9.af 1) λW6 bH=>⟨by simp,T++T2,?_⟩;exact bH.drop.drop
 rintro _ W5 ⟨rfl,T3,s9⟩;refine iK rfl ?_;rw[GB (by omega)];exact⟨⟨j+1,T3,rfl,by omega,s9⟩,by omega⟩
end
set_option maxRecDepth 100000
open Go.Eng Go.ChangeShapes Go.WideShapes Go.ChangeAt Go.RowKit Go.Deep
theorem Ib{n:Int}(h:(Lit.int .u8 n).wf=true):(Value.int .u8 n)=ub (UInt8.ofNat n.toNat):=by
 have h2:0<=n/\n<=255:=by
  simp only[Lit.wf,IntKind.min,IntKind.max,IntKind.signed,IntKind.bits,jz,jb]at h;simpa using h
 have h3:((UInt8.ofNat n.toNat).toNat:Int)=n:=by simp;omega
 rw[ub,h3]
section
variable{H:Type}{enc:TypeId×Value->H}{W:World}{sp:Nat->Bool}
theorem open_bytesZ{fuel:Nat}{v:Value}{x:DataW H×List MemPlace}(h:DataW.trod enc Pq W 0 sp true fuel 22 [v]=some x):
 ∃(s:Sl) (l:LB),v=slV s/\BS W s l/\s.len<=s.cap:=by
 rcases open_ints Tryz.underlying22 Tryz.underlying5 (by kernel_rfl) h with⟨hcs,_⟩|⟨x,l,c,zs,hcs,_,hl,hm,hz,hr,hcell,Yq⟩
 ·simp only[List.cons.injEq,and_true]at hcs
  exact⟨⟨none,0,0⟩,[],hcs,BS.nil _ _,Nat.le_refl _⟩
 ·simp only[List.cons.injEq,and_true]at hcs
  have Qy:l<=zs.length:=by rw[hz];split<;>omega
  refine⟨⟨some x,l,c⟩,(zs.take l).map λn=>UInt8.ofNat n.toNat,hcs,⟨by simp;omega,aF.2 λj v hj=>?_⟩,hl⟩;simp only[List.map_map,jf,List.getElem?_take]at hj;split at hj
  ·rename_i hlt
   have hjl:j<zs.length:=by omega
   rw[hcell j hjl];simp only[hjl,jl,Option.map_some,jg,Function.comp_apply]at hj;subst hj;rw[show zs.getD j 0=zs[j] by simp[List.getD,hjl]];exact congrArg some (Ib (Yq _ (List.getElem_mem hjl)))
  ·cases hj
end
open Go.Eng Go.ChangeShapes Go.WideShapes Go.RowKit
theorem zown:ownKnob Pq.godebug=none:=by kernel_rfl
theorem Yr:Pq.globalNamed "errors.errorType"=some 0:=by kernel_rfl
theorem Ys:(Pq.cutTypes.find? (·.1== "internal/reflectlite.rtype")).map (·.2)=some 264:=by kernel_rfl
theorem Ic:((List.range 490).filter λt=>Pq.rowNamed t [101,114,114,111,114])=[45]:=by kernel_rfl
theorem Oi:Pq.types.size=490:=by kernel_rfl
theorem handle_of_laid{W:World}(h:laidMetH Pq [("errors.errorType",YtkkmpchneanogaaGreatDoor.Rows.laid_errors_errorType)] W):W.cell? ⟨0,0,none⟩=some (eT 45):=by
 have h':laidMet Pq [] W/\handlesMet Pq _ W:=h;obtain⟨name,u,ty,e1,e2,e3,e4,e5⟩:=h'.2 _ (jo.2 rfl);have en:name=[101,114,114,111,114]:=(Option.some.inj e1).symm;subst en;obtain rfl:=Option.some.inj (Ys.symm.trans e2);have hm:ty∈(List.range 490).filter λt=>Pq.rowNamed t [101,114,114,111,114]:=List.mem_filter.2 ⟨List.mem_range.2 (by rw[<-Oi];exact e3),e4⟩;rw[Ic]at hm;obtain rfl:=jo.1 hm;have hh:typeHandle Pq 45=.pointer (some ⟨2,45,none⟩):=by kernel_rfl
 rw[hh]at e5;simpa using World.var?_cell Yr e5 0
theorem zlaidOut:laidOutB Pq=true:=by kernel_rfl
noncomputable def laidWorld(os:Os):World:=
 let w0:=World.holding Pq os ⟨#[],#[],[]⟩
 {w0 with heap:=w0.heap.modify 0 λ
   |.cells _ t frozen=>.cells #[eT 45] t frozen
   |o=>o}
theorem laidWorld_met(os:Os)(args:Array Value):laidMetH Pq [("errors.errorType",YtkkmpchneanogaaGreatDoor.Rows.laid_errors_errorType)] ((laidWorld os).forCall (λ_ _=>0) ⟨#[],args,[]⟩).memory:=
 laidMetH_of_parts ⟨[],rfl,List.nodup_nil,λ_ _ h=>by cases h⟩ (by kernel_rfl)
end Go.Proofs
namespace Go.Eng
open Go.RowKit
theorem Grow.below{w w':World}(h:Grow w w'):Below w.heap.size w w':=⟨h.rest.1,h.rest.2.1,h.rest.2.2,h.size,λk hk=>h.same k hk λh=>h⟩
end Go.Eng
