import Derived.Test.YtiebhappinojmaaGreatX1
import Derived.Test.YtiebhappinojmaaGreatX2
import Derived.Test.YtiebhappinojmaaGreatX3
import Derived.Test.YtiebhappinojmaaGreatX4
import Derived.Test.YtiebhappinojmaaGreatX5
import Derived.Test.YtiebhappinojmaaGreatProg
import Derived.Below
import GoSem.Claim
import Derived.OpenShut
import Derived.ChangeAt
import Derived.ChangeSlices
import Derived.Deep.Slices
set_option linter.unusedVariables false
set_option linter.unusedSimpArgs false
set_option linter.unusedSectionVars false
set_option maxRecDepth 20000
namespace Go.Proofs
open Go.Eng
theorem commit_R{T:TM}{M:Nat}(h:T.up)(hD:DB M T.D)(hb:T.busy=true)(h0:T.patV.length≠0)(h1:(T.patV.length:Int)<4*T.n)(h2:(T.patV.length:Int)+1<=4*T.n-T.R.length)(hc:T.commit.1=0):T.commit.2.R=T.R++(T.patV++[cmt T.patV.length]):=by
 have hmay:mayE T.dead T.D=0:=by unfold mayE;rw[h.dead,h.off];rfl
 revert hc;unfold TM.commit;rw[if_neg (not_not_intro hmay),if_neg (by rw[hb];decide),if_neg h0,if_neg (by omega)];have hX:(if(T.patV.length:Int)+1>4*T.n-T.R.length then T.cpt else(0,T))=(0,T):=if_neg (by omega);rw[hX];dsimp only;rw[if_neg (not_not_intro rfl)];obtain⟨ha,_⟩:=app_cases h hD (T.patV++[cmt T.patV.length]);generalize T.app (T.patV++[cmt T.patV.length])=A at ha⊢;rcases ha with⟨a0,_,a2⟩|⟨a0,_⟩|⟨a0,_⟩
 ·rw[if_neg (not_not_intro a0)]
  exact λ_=>a2
 ·rw[if_pos a0]
  exact λhc=>absurd hc a0
 ·rw[if_pos (by rw[a0];decide)]
  exact λhc=>by rw[a0]at hc;cases hc
theorem cut_ab:(cutV 2 zero256 (lay zero256 0 [97,98])).length=1:=by decide+kernel
theorem lay_ab:((lay zero256 0 [97,98]).take 3).drop 0=[97,98,0]:=by decide+kernel
theorem some_ok:geoE someG=0:=by decide
theorem begunC{w w0:World}{F0:Nat->Prop}{L:List HA}{K:Bool->Pr}(h:St F0 w0 w L)(hK:∀w',St F0 w0 w' L->K true w'):callF Tryz.prog 11 [] [.c .bool] K w:=by
 refine callF_of (post:=K) (F11_calls _ _ ?_) λ_ _ h=>h;unfold F11;refine callF_of (C30 18 w) ?_;rintro⟨p,e⟩ w1 hr;rw[if_pos (by decide)]at hr;obtain⟨rfl,dp,rfl,k1⟩:=hr;have s1:=h.call0 k1;have s1:St F0 w0 w1 (DiskA dp (newD someG.1.toNat)::L):=s1;obtain⟨f1,f2,f3,f4⟩:=format_ok some_ok;have hD0:=newD_db (n:=18) (by decide) (by decide);refine jn_of (λc W=>c=false/\St F0 w0 W (DiskA dp (formatD (newD someG.1.toNat) someG).2::L)) ?_ ?_
 ·refine br_f rfl ⟨trivial,br_f rfl ?_⟩
  refine callF_of (V47 w1) ?_;rintro _ w2 ⟨rfl,g2⟩;refine formatC (s1.grow g2) hD0 (by omega) λw3 s3=>?_;rw[f1];exact⟨rfl,s3⟩
 generalize formatD (newD someG.1.toNat) someG=A at f1 f2 f3 f4;rintro _ w2 ⟨rfl,s2⟩;refine br_f rfl ?_;have hDA:=f4.db;obtain⟨ho,hog⟩:=live_open f3 hDA f2.2 (by omega);have hoc:=f2.openT;rcases ho with⟨⟨o1,o2⟩,o3,o4,o5⟩|⟨o1,_⟩
 rotate_left
 ·exact absurd o1 hoc.on
 refine openC s2 hDA (by omega) (λh=>absurd o1 h) λ_ x w3 s3=>?_;obtain⟨T1,hT1⟩:∃T1,T0 A.2=T1:=⟨_,rfl⟩;have hT1D:T1.D=(openT A.2).2:=by rw[<-hT1];rfl
 have hb1:T1.busy=false:=by rw[<-hT1];rfl
 have hR1:T1.R=[]:=by rw[<-hT1];rfl
 have hpg1:T1.pg=[]:=by rw[<-hT1];rfl
 rw[hT1]at s3 o4 o5;rw[<-hT1D]at s3 hoc hog;have hP1:T1.P=planT someG:=by rw[o4.up.ok.P,o5];decide
 have hu2:usableS T1.P 2:=.inl rfl;obtain⟨T2,hT2⟩:∃T2:TM,T2={T1 with busy:=true}:=⟨_,rfl⟩;have hup2:T2.up:=by rw[hT2];exact⟨⟨o4.up.ok.D,o4.up.ok.P,o4.up.ok.g,o4.up.ok.len,o4.up.ok.h,o4.up.ok.R,o4.up.ok.ok,o4.up.ok.nod,o4.up.ok.pg,(λh=>by cases h)⟩,o4.up.dead,o4.up.off⟩
 have hl2:Live T2 3 (λ_=>zero256):=o4.part hup2 (by rw[hT2]) (by rw[hT2]) (by rw[hT2]) (by rw[hT2]) (by rw[hT2]);have hpg2:T2.page 2=zero256:=by
  unfold TM.page;rw[show T2.pg=[] by rw[hT2];exact hpg1];exact hl2.rd 2 (.inl rfl)
 have hmay2:mayE T2.dead T2.D=0:=by unfold mayE;rw[hup2.dead,hup2.off];rfl
 have hw2:T2.write 2 0 [97,98]=(0,{T2 with pg:=[(2,lay zero256 0 [97,98])]}):=by
  unfold TM.write;rw[if_neg (not_not_intro hmay2),if_neg (by rw[hT2];simp),if_pos ⟨.inl rfl,by decide,by decide,by decide,by decide⟩,if_neg (by decide),hpg2];rw[show T2.pg=[] by rw[hT2];exact hpg1];rfl
 obtain⟨T3,hT3⟩:∃T3:TM,T3={T2 with pg:=[(2,lay zero256 0 [97,98])]}:=⟨_,rfl⟩;have hlay:(lay zero256 0 [97,98]).length=256:=by rw[lay_len (by decide)];exact List.length_replicate
 have hup3:T3.up:=by
  rw[hT3];exact⟨⟨hup2.ok.D,hup2.ok.P,hup2.ok.g,hup2.ok.len,hup2.ok.h,hup2.ok.R,hup2.ok.ok,by simp,(λp hp=>by rw[List.mem_singleton]at hp;subst hp;exact⟨.inl rfl,hlay⟩),(λh=>absurd ((show T2.busy=true by rw[hT2]).symm.trans h) (by decide))⟩,hup2.dead,hup2.off⟩
 have hl3:Live T3 3 (λ_=>zero256):=hl2.part hup3 (by rw[hT3]) (by rw[hT3]) (by rw[hT3]) (by rw[hT3]) (by rw[hT3]);have hb3:T3.busy=true:=by rw[hT3,hT2]
 have hn3:T3.n=8:=by
  show T3.S.2.2.1=8;have:supG T3.S=someG:=by rw[hT3,hT2];exact o5
  exact congrArg (·.2.1) this
 have hR3:T3.R=[]:=by rw[hT3,hT2];exact hR1
 have hpat:T3.patV=cutV 2 zero256 (lay zero256 0 [97,98]):=by
  unfold TM.patV TM.changed;rw[hb3,if_pos rfl];have e1:T3.pg=[(2,lay zero256 0 [97,98])]:=by rw[hT3]
  have e2:T3.page 2=lay zero256 0 [97,98]:=by unfold TM.page;rw[e1];rfl
  have e3:rdD T3.D 2=zero256:=hl3.rd 2 (.inl rfl);rw[e1];show(sortI [2]).flatMap _=_;rw[show sortI [2]=[2]from List.mergeSort_singleton ..];simp[e2,e3]
 have hpl:T3.patV.length=1:=by rw[hpat];exact cut_ab
 have hD1:DB (0+5000+2060) T1.D:=hog.db;have hD3:DB (0+5000+2060) T3.D:=by rw[hT3,hT2];exact hD1
 have hc3:C0 T3.D:=by rw[hT3,hT2];exact hoc
 obtain⟨hcm,hcg,hcS⟩:=live_commit hl3 (by omega) hD3 hb3;have hcc:=hc3.commit;have hcm:T3.commit.1=0/\Live T3.commit.2 4 T3.page:=by
  rcases hcm with⟨h1,h2,_⟩|⟨_,_,h3⟩|⟨_,h2,_⟩
  ·exact⟨h1,h2⟩
  ·rw[hn3,hpl]at h3;exact absurd h3 (by decide)
  ·rw[hcc.2]at h2;cases h2
 have hRl:T3.commit.2.R.length=2:=by
  rw[commit_R hup3 hD3 hb3 (by omega) (by omega) (by rw[hR3,hn3,hpl];decide) hcm.1,hR3,List.length_append,List.length_append,hpl];rfl
 refine jn_of (λc W=>c=false/\St F0 w0 W (DiskA dp (onD (fallsD T3.commit.2.D []))::L)) ?_ ?_
 ·refine br_f rfl ⟨trivial,br_f rfl ?_⟩
  refine beginC s3 o4.up hb1 λw4 s4=>br_f rfl ?_;have s4:St F0 w0 w4 (TxA x dp 0 T2::DiskA dp T2.D::L):=by rw[hT2];exact s4
  refine St.nwMark s4 λr w5 s5=>?_;have s5:St F0 w0 w5 (SlA 1 ⟨some (bA r 0),2,2⟩ (([97,98]:List UInt8).map ub)::TxA x dp 0 T2::DiskA dp T2.D::L):=s5;have hwl:=hup2.ok.D;have hw2l:T2.D.wait.length<=10000000:=by have:=hD1.bd.wait;rw[hT2];show T1.D.wait.length<=_;omega
  have s5':St F0 w0 w5 (TxA x dp 0 T2::DiskA dp T2.D::SlA 1 ⟨some (bA r 0),2,2⟩ (([97,98]:List UInt8).map ub)::L):=s5.sel [1,2,0] 3;refine writeC (i:=2) (o:=0) (p:=⟨some (bA r 0),2,2⟩) (l:=[97,98]) s5' hup2.ok hw2l (by omega) (λg3 g4 g5=>Rd.own g4 g5) λw6 s6=>?_;rw[hw2,<-hT3]at s6;rw[hw2];refine br_f rfl ?_;have s6:St F0 w0 w6 (TxA x dp 1 T3::DiskA dp T3.D::SlA 1 ⟨some (bA r 0),2,2⟩ (([97,98]:List UInt8).map ub)::L):=by
   have e:T3.D=T2.D:=by rw[hT3]
   rw[e];exact s6
  refine commitC s6 hup3.ok hD3 (by omega) (by omega) λw7 s7=>?_;rw[hcm.1];refine br_f rfl ?_;refine heldC s7 hcm.2.up.ok λw8 s8=>?_;rw[hRl];refine br_f rfl ?_;have s8':St F0 w0 w8 (DiskA dp T3.commit.2.D::L):=s8.sel [1] 3;refine crashC (p:=⟨none,0,0⟩) (pl:=[]) s8' hcg.db (by omega) (λ_ _ _=>Rd.nil _ _) λw9 s9=>?_;have e1:crashD T3.commit.2.D []=(0,fallsD T3.commit.2.D []):=by unfold crashD;rw[hcm.2.up.off];rfl
  rw[e1]at s9⊢;refine br_f rfl ?_;have hfd:=falls_db hcg.db [];refine upC s9 hfd.db.ok λw10 s10=>?_;have e2:upD (fallsD T3.commit.2.D [])=(0,onD (fallsD T3.commit.2.D [])):=rfl;rw[e2]at s10⊢;exact⟨rfl,s10⟩
 rintro _ w4 ⟨rfl,s4⟩;refine br_f rfl ?_;have hfd:=falls_db hcg.db [];have hon:=onD_db hfd.db;have hgd:Good (onD (fallsD T3.commit.2.D [])) someG 4 T3.page:=by
  have h1:=(hcm.2.good.falls hcg.db.ok []).same (E:=onD (fallsD T3.commit.2.D [])) rfl rfl;have e:supG T3.commit.2.S=someG:=by rw[hcS,hT3,hT2];exact o5
  rw[e]at h1;exact h1
 obtain⟨ho2,hog2⟩:=live_open hgd hon.db rfl (by omega);have hc5:C0 (onD (fallsD T3.commit.2.D [])):=⟨rfl,rfl⟩;have hoc2:=hc5.openT;generalize onD (fallsD T3.commit.2.D [])=D5 at s4 ho2 hog2 hoc2 hon hgd;rcases ho2 with⟨⟨p1,p2⟩,p3,p4,p5⟩|⟨p1,_⟩
 rotate_left
 ·exact absurd p1 hoc2.on
 refine openC s4 hon.db (by omega) (λh=>absurd p1 h) λ_ y w5 s5=>?_;refine jn_of (λc W=>c=false/\W=w5) ?_ ?_
 ·exact br_f rfl ⟨trivial,rfl,rfl⟩
 rintro _ _ ⟨rfl,rfl⟩;refine br_f rfl ?_;have hP5:(T0 D5).P=planT someG:=by rw[p4.up.ok.P,p5];decide
 have hmay5:mayE (T0 D5).dead (T0 D5).D=0:=by unfold mayE;rw[p4.up.dead,p4.up.off];rfl
 have hrd:(T0 D5).read 2 0 3=(0,[97,98,0]):=by
  unfold TM.read;rw[if_neg (not_not_intro hmay5),if_pos ⟨.inl rfl,by decide,by decide,by decide,by decide⟩];have e:(T0 D5).page 2=lay zero256 0 [97,98]:=by
   have e1:(T0 D5).page 2=rdD (T0 D5).D 2:=rfl;rw[e1,p4.rd 2 (.inl rfl)];unfold TM.page;rw[show T3.pg=[(2,lay zero256 0 [97,98])] by rw[hT3]];rfl
  rw[e];exact congrArg (Prod.mk 0) lay_ab
 refine readC s5 p4.up.ok (by show(openT D5).2.wait.length<=_;rw[p3];simp) (by omega) λt w6 s6=>?_;rw[hrd]at s6⊢;refine br_t rfl ?_;refine St.nw s6 λr w7 s7 _ _=>?_;have s7:St F0 w0 w7 (BoxA r (([97,98,0]:List UInt8).map ub)::SlA 1 t (([97,98,0]:List UInt8).map ub)::TxA y dp 1 (T0 D5).mark::DiskA dp (T0 D5).D::L):=s7;have hbs:BS w7 ⟨some ⟨r,0,none⟩,3,3⟩ [97,98,0]:=⟨rfl,readsAt_row.2 s7.box.row⟩;refine callF_of (C18 t ⟨some ⟨r,0,none⟩,3,3⟩ _ _ w7 (s7.bring 1).sl.bs hbs) ?_;rintro q w8 ⟨rfl,rfl⟩;have:(([97,98,0]:List UInt8)==[97,98,0])=true:=by decide
 rw[this];exact hK _ (s7.sel [] 4)
abbrev storeZ:List Value:=[.pointer none,.pointer none,iv 0,iv 0,iv 0,iv 0,iv 0,iv 0,iv 0,iv 0,iv 0,iv 0,iv 0,iv 0,.bool false,.bool false,.map none]
def NS(p:Option Addr)(w:World):Prop:=p=none\/∃r,p=some ⟨r,0,none⟩/\Box w r storeZ
theorem NS.grow{p:Option Addr}{w w':World}(h:NS p w)(g:Grow w w'):NS p w':=h.imp id λ⟨r,e,hb⟩=>⟨r,e,hb.grow g⟩
section
variable{p:Option Addr}{w:World}
end
section
variable{x dp N M:Nat}{T:TM}{D:DM}{w w0:World}{F0:Nat->Prop}{L:List HA}
theorem armR{p:Sl}{l:List UInt8}{n:Int}{K:Int->Pr}(h:St F0 w0 w (DiskA dp D::L))(hD:D.ok)(hr:Rd w0 F0 p l)(hl:l.length<=1000000)(hK:∀w',St F0 w0 w' (DiskA dp (armD D n l).2::L)->K (armD D n l).1 w'):callF Tryz.prog 38 [P0 dp,iv n,slV p] [.c (.int .i64)] K w:=by
 obtain⟨G,H,g2,_,_,g5,gc⟩:=St.call [DiskA dp D] h;refine callF_of (C49 dp D n p l w G g2 (hr.go h g5) hD hl) ?_;rintro r w1 ⟨hr,s1⟩;rw[hr];exact hK w1 (gc _ _ s1)
end
section
variable{g:Geo}{dp x z N k:Nat}{a b m p2:Sl}{busy:Bool}{A:List (List UInt8)}{M:Option (List (List UInt8))}{D:DM}{pl:List UInt8}{p1:Int}{w w0:World}{F0:Nat->Prop}{L:List HA}
end
section
variable{dp N:Nat}{D:DM}{w w0:World}{F0:Nat->Prop}{L:List HA}
theorem armRR{p:Sl}{l:List UInt8}{n:Int}{K:Int->Pr}(h:St F0 w0 w (DiskA dp D::L))(hr:Rd w0 F0 p l)(hl:l.length<=1000000)(hK:∀w',St F0 w0 w' (DiskA dp (armD D n l).2::L)->K (armD D n l).1 w'):callF Tryz.prog 39 [P0 dp,iv n,slV p] [.c (.int .i64)] K w:=by
 obtain⟨G,H,g2,_,_,g5,gc⟩:=St.call [DiskA dp D] h;refine callF_of (C50 dp D n p l w G g2 (hr.go h g5) hl) ?_;rintro r w1 ⟨hr,s1⟩;rw[hr];exact hK w1 (gc _ _ s1)
end
def armedD(l:List UInt8)(n:Int)(m:List UInt8):DM:=if n>0 then(armD (ofD l) n m).2 else ofD l
theorem armedD_db{l m:List UInt8}{n:Int}(h:okI l)(hn:n<=9223372036854775807):DB 0 (armedD l n m):=by
 have hb:(ofD l).bd 0:=⟨⟨by show(0:Int)<=0;omega,by show(0:Int)<=_;omega⟩,⟨by show(0:Int)<=0;omega,by show(0:Int)<=_;omega⟩,by simp[ofD]⟩;have hok:=ofD_ok h;unfold armedD;split
 ·unfold armD
  rw[if_neg (show¬((ofD l).off=true)from λh=>by cases h),if_neg (by omega)];exact⟨⟨hok.len,hok.wlen,hok.pos,hok.le⟩,⟨⟨by show 0<=n;omega,hn⟩,hb.ops,hb.wait⟩⟩
 ·exact⟨hok,hb⟩
section
variable{q t:Sl}{l m:List UInt8}{w W:World}{L:List HA}
theorem ofsC{K:Option Addr×Int->Option Addr×Int->Pr}(h:St noF w W L)(hq:BS w q l)(hqc:q.len<=q.cap)(hl:l.length<=100000000)
 (hK:∀x y W',¬okI l->x=(none,1)->y=(none,1)->St noF w W' L->K x y W')(hK2:∀p p' W',okI l->St noF w W' (DiskA p (ofD l)::DiskA p' (ofD l)::L)->K (some ⟨p,0,none⟩,0) (some ⟨p',0,none⟩,0) W'):
 callF Tryz.prog 35 [slV q] [.c .ptr,.c (.int .i64)] (λx=>callF Tryz.prog 36 [slV q] [.c .ptr,.c (.int .i64)] λy=>K x y) W:=by
 have hr:Rd w noF q l:=⟨hq,λ_ _ _ h=>h⟩;refine callF_of (V35 (hr.at h) hqc hl) ?_;rintro x W1 (⟨hk,hx2,p,hx1,s1⟩|⟨hk,rfl,g1⟩)
 ·have s2:=h.call0 s1
  refine callF_of (V36 (hr.at s2) hqc hl) ?_;rintro y W2 (⟨_,hy2,p',hy1,s3⟩|⟨hk2,_⟩)
  ·have s4:=(s2.call0 s3).bring 1
   have ex:x=(some ⟨p,0,none⟩,0):=Prod.ext hx1 hx2;have ey:y=(some ⟨p',0,none⟩,0):=Prod.ext hy1 hy2;rw[ex,ey];exact hK2 p p' W2 hk s4
  ·exact absurd hk hk2
 ·have s2:=h.grow g1
  refine callF_of (V36 (hr.at s2) hqc hl) ?_;rintro y W2 (⟨hk2,_⟩|⟨_,rfl,g2⟩)
  ·exact absurd hk2 hk
  ·exact hK _ _ W2 hk rfl rfl (s2.grow g2)
theorem armsC{p p':Nat}{n:Int}{K:Bool->Pr}(h:St noF w W (DiskA p (ofD l)::DiskA p' (ofD l)::L))(hk:okI l)(ht:BS w t m)(hm:m.length<=1000000)
 (hK:∀W',St noF w W' (DiskA p (armedD l n m)::DiskA p' (armedD l n m)::L)->K false W'):
 (jn (S:=Bool) (λR=>br (decide (n>0)) (callF Tryz.prog 38 [P0 p,iv n,slV t] [.c (.int .i64)] λx=>callF Tryz.prog 39 [P0 p',iv n,slV t] [.c (.int .i64)] λy=>R (x !=y)) (R false)) K) W:=by
 have hr:Rd w noF t m:=⟨ht,λ_ _ _ h=>h⟩;refine jn_of (λc W'=>c=false/\St noF w W' (DiskA p (armedD l n m)::DiskA p' (armedD l n m)::L)) ?_ ?_
 ·unfold armedD
  refine br_of (λhn=>?_) λhn=>?_
  ·rw[if_pos (of_decide_eq_true hn)]
   refine armR h (ofD_ok hk) hr hm λW1 s1=>?_;refine armRR (s1.bring 1) hr hm λW2 s2=>?_;exact⟨by simp,s2.bring 1⟩
  ·rw[if_neg (of_decide_eq_false hn)]
   exact⟨rfl,h⟩
 rintro _ W' ⟨rfl,s⟩;exact hK W' s
end
theorem V69n(w:World):Calls Tryz.prog 69 #[.pointer none] w (RetT [.c (.int .i64)] λx W=>x=2/\W=w):=by
 refine F69_calls _ _ _ ?_;unfold F69;refine callF_of (post:=λ(x:Int) W=>x=0/\W=w) (F83_calls _ _ _ ?_) ?_
 ·unfold F83
  exact⟨trivial,br_t rfl ⟨rfl,rfl⟩⟩
 rintro _ _ ⟨rfl,rfl⟩;exact br_t rfl ⟨rfl,rfl⟩
theorem V24n(w:World):Calls Tryz.prog 24 #[.pointer none] w (RetT [.c .ptr,.c (.int .i64)] λr w'=>r=(none,2)/\w'=w):=by
 refine F24_calls _ _ _ ?_;unfold F24;refine callF_of (V69n w) ?_;rintro _ _ ⟨rfl,rfl⟩;exact br_t rfl ⟨rfl,rfl⟩
theorem blocksV_len(vs:List Rv):(blocksV vs).length<=vs.length:=by
 have h:=blocks_len (vs.map λv=>(⟨v.1,v.2.1,v.2.2.1,⟨none,0,0⟩,v.2.2.2.1⟩,v.2.2.2.2));have e:(vs.map λv:Rv=>((⟨v.1,v.2.1,v.2.2.1,⟨none,0,0⟩,v.2.2.2.1⟩,v.2.2.2.2):Rc)).map rv=vs:=by
  rw[List.map_map];exact List.map_id' _
 rw[e,List.length_map]at h;exact h
theorem openT_dg{D:DM}{N:Nat}(h:DB N D):DG D (openT D).2 N 3000:=by
 obtain⟨a,b⟩:=open_begins (D:=D);by_cases e:beginsE D=0
 ·obtain⟨_,_,_,hoR,eT⟩:=b e
  dsimp only at eT;have hbO:¬badO D 3 (chosenS D).1.2.2.1 (chosenS D).1.2.2.2.2.2:=λhb=>by unfold openR at hoR;rw[if_pos hb]at hoR;cases hoR
  unfold badO at hbO;have hl:(scanO D 3 (chosenS D).1.2.2.1 (chosenS D).1.2.2.2.2.2).length<=(4*(chosenS D).1.2.2.1).toNat:=scanR_len _ _;have hl4:(4*(chosenS D).1.2.2.1).toNat<=1024:=by omega
  have hc:=com_size (scanO D 3 (chosenS D).1.2.2.1 (chosenS D).1.2.2.2.2.2);have hb:=blocksV_len (com (scanO D 3 (chosenS D).1.2.2.1 (chosenS D).1.2.2.2.2.2)).1;have h1:DG D (redoD (com (scanO D 3 (chosenS D).1.2.2.1 (chosenS D).1.2.2.2.2.2)).1 D).2 N _:=redoB_dg _ _ h;rw[eT];split
  ·exact .refl h _
  ·split
   ·exact h1.mono (by omega)
   ·exact(h1.trans (noteD_dg h1.db _)).mono (by omega)
 ·rw[a e]
  exact .refl h _
structure Alike43:Prop where
 no:∀{pp d dd:Nat} {w0 w:World} {F0:Nat->Prop} {L:List HA} {K:Bool->Pr},St F0 w0 w (PairA pp d dd (.pointer none) (.pointer none)::L)->
  (∀w',St F0 w0 w' (PairA pp d dd (.pointer none) (.pointer none)::L)->K true w')->callF Tryz.prog 43 [P0 pp] [.c .bool] K w
 yes:∀{pp d dd x y g N:Nat} {s:Sl} {D:DM} {w0 w:World} {F0:Nat->Prop} {L:List HA} {K:Bool->Pr},DB N D->N<=700000->(openT D).1=0->
  St F0 w0 w (RefN y dd g s D++(TxA x d 0 (T0 D)::DiskA d (openT D).2::DiskA dd (openT D).2::PairA pp d dd (P0 x) (P0 y)::L))->
  (∀w',St F0 w0 w' (DiskA d (openT D).2::DiskA dd (openT D).2::PairA pp d dd (P0 x) (P0 y)::L)->K true w')->callF Tryz.prog 43 [P0 pp] [.c .bool] K w
theorem law8(h43:Alike43)(q:Sl)(l:List UInt8)(n:Int)(t:Sl)(m:List UInt8)(w:World)(hq:BS w q l)(hqc:q.len<=q.cap)(hn:(Lit.int .i64 n).wf=true)(ht:BS w t m):
 Calls Tryz.prog 8 #[slV q,iv n,slV t] w (RetT [.c .bool] λr w'=>r=true/\Grow w w'):=by
 refine F8_calls _ _ _ _ _ ?_;unfold F8;have hn:n<=9223372036854775807:=by
  simp only[Lit.wf,Bool.and_eq_true,decide_eq_true_eq]at hn;exact hn.2
 have hql:=hq.len;have htl:=ht.len;refine jn_of (λc W=>(c=false->l.length<=76800/\m.length<=2000)/\St noF w W []) ?_ ?_
 ·refine begunC (St.init0 w) λw2 s2=>br_f rfl ?_
  refine br_of (λ_=>⟨λh=>(by cases h),s2⟩) λh1=>⟨λh2=>?_,s2⟩;simp only[decide_eq_false_iff_not]at h1 h2;omega
 rintro c W ⟨hc,s2⟩;refine br_of (λ_=>begunC s2 λw4 s4=>⟨rfl,s4.gro⟩) λhcf=>?_;obtain⟨hl,hm⟩:=hc hcf;refine ofsC s2 hq hqc (by omega) (λx y W' _ hx hy s3=>?_) λp p' W' hk s3=>?_
 ·subst hx hy
  refine jn_of (λc W2=>c=false/\W2=W') (br_f rfl ⟨trivial,trivial,trivial,rfl,rfl⟩) ?_;rintro _ _ ⟨rfl,rfl⟩;refine br_f rfl ⟨trivial,br_t rfl ?_⟩;refine callF_of (V24n _) ?_;rintro _ _ ⟨rfl,rfl⟩;exact⟨trivial,br_t rfl ⟨rfl,s3.gro⟩⟩
 ·refine jn_of (λc W2=>c=false/\W2=W') (br_f rfl ⟨trivial,trivial,trivial,rfl,rfl⟩) ?_
  rintro _ _ ⟨rfl,rfl⟩;refine br_f rfl ⟨trivial,br_f rfl ?_⟩;refine St.nw s3 λr1 w4 s4 _ _=>?_;have s4:St noF w w4 (DiskA p (ofD l)::DiskA p' (ofD l)::[PairA r1 p p' (.pointer none) (.pointer none)]):=s4.sel [1,2,0] 3;refine armsC s4 hk ht (by omega) λw5 s5=>br_f rfl ?_;have hdb:=armedD_db (m:=m) (n:=n) hk hn;generalize armedD l n m=D at s5 hdb;have hdg:=openT_dg hdb;have fin:∀{sp ssp:Value} {W2:World},St noF w W2 [DiskA p (openT D).2,DiskA p' (openT D).2,PairA r1 p p' sp ssp]->
   callF Tryz.prog 41 [P0 r1] [.c .bool] (λ(x:Bool) W3=>x=true/\Grow w W3) W2:=by
   intro sp ssp W2 s6;obtain⟨G,H,k2,_,_,_,gc⟩:=St.call [PairA r1 p p' sp ssp,DiskA p (openT D).2,DiskA p' (openT D).2] (l:=[]) (s6.sel [2,0,1] 3);refine callF_of (V41 k2 hdg.db.ok (by have:=hdg.db.bd.wait;omega) λx hx=>(hdg.db.ok.wlen x hx).2.2) ?_;rintro _ W3 ⟨rfl,s7⟩;exact⟨rfl,(gc _ _ s7).gro⟩
  refine openPC s5 hdb (by omega) (λw6 he s6=>br_t rfl ?_) λx y g s w6 he s6=>br_t rfl ?_
  ·refine h43.no (s6.sel [2,0,1] 3) λw7 s7=>br_t rfl ?_
   exact fin (s7.sel [1,2,0] 3)
  ·refine h43.yes hdb (by omega) he s6 λw7 s7=>br_t rfl ?_
   exact fin s7
set_option maxRecDepth 100000
def an43:An:=(.sq .z (.sq (.sq .z (.br (.sq .z .z) .z)) (.sq (.rj [⟨false,[10,14],[10,14,15,16,17,18,19],[(33,.c .bool)]⟩,⟨true,[10,14],[10,14,15,16,17,18,19],[]⟩,⟨false,[24,28],[24,28],[(38,.c (.int .i64)),(42,.c .ptr)]⟩,⟨true,[24,28],[24,28],[]⟩,⟨false,[37,42],[37,38,42],[(52,.c .slice),(56,.c .ptr)]⟩,⟨true,[37,42],[37,38,42],[]⟩,⟨false,[51,55],[51,55,56,57,58,59],[(73,.c .bool)]⟩,⟨true,[51,55],[51,55,56,57,58,59],[]⟩,⟨false,[66,70],[66,70,71,72,73,74,75],[(89,.c .bool)]⟩,⟨true,[66,70],[66,70,71,72,73,74,75],[]⟩,⟨false,[82,86],[82,86,87],[(101,.c .bool)]⟩,⟨true,[82,86],[82,86,87],[]⟩]) .z)))
def F43(p0:Option Addr)(Q:Bool->Pr):Pr:=
 drw<|
 deref p0 λa=>
 ldP (a.add 1) λt6=>
 owe True<|
 deref p0 λa_3=>
 ldP (a_3.add 3) λt11=>
 owe True<|
 owe True<|
 br (!((Option.isNone t6)==(Option.isNone t11))) (
 Q false) (
 drw<|
 deref p0 λa_6=>
 ldP (a_6.add 1) λt17=>
 owe True<|
 br (Option.isNone t17) (
 jn (S:=Unit) (λR=>
 both (
 R ()) (
 both (
 R ()) (
 R ()))) λs=>
 jn (S:=Unit) (λR_1=>
 both (
 R_1 ()) (
 R_1 ())) λs_1=>
 jn (S:=Unit) (λR_2=>
 both (
 both (
 R_2 ()) (
 R_2 ())) (
 R_2 ())) λs_2=>
 jn (S:=Unit) (λR_3=>
 both (
 R_3 ()) (
 both (
 R_3 ()) (
 R_3 ()))) λs_3=>
 jn (S:=Unit) (λR_4=>
 both (
 R_4 ()) (
 both (
 R_4 ()) (
 R_4 ()))) λs_4=>
 jn (S:=Unit) (λR_5=>
 both (
 R_5 ()) (
 R_5 ())) λs_5=>
 Q true) (
 deref p0 λa_9=>
 ldP (a_9.add 1) λt23=>
 deref p0 λa_12=>
 jn (S:=Bool) (λR_6=>
 both (
 callF Tryz.prog 21 [(.pointer t23)] [.c .bool] λ(t24:Bool)=>
 ldP (a_12.add 3) λt28=>
 deref t28 λa_15=>
 ldB (a_15.add 15) λt31=>
 owe True<|
 R_6 ((t24==t31))) (
 ldP (a_12.add 3) λt28_1=>
 deref t28_1 λa_19=>
 both (
 callF Tryz.prog 21 [(.pointer t23)] [.c .bool] λ(t24_1:Bool)=>
 ldB (a_19.add 15) λt31_1=>
 owe True<|
 R_6 ((t24_1==t31_1))) (
 ldB (a_19.add 15) λt31_2=>
 callF Tryz.prog 21 [(.pointer t23)] [.c .bool] λ(t24_2:Bool)=>
 owe True<|
 R_6 ((t24_2==t31_2))))) λs_6=>
 br s_6 (
 deref p0 λa_23=>
 ldP (a_23.add 1) λt37=>
 deref p0 λa_26=>
 jn (S:=Int×Option Addr) (λR_7=>
 both (
 callF Tryz.prog 19 [(.pointer t37)] [.c I64] λ(t38:Int)=>
 ldP (a_26.add 3) λt42=>
 R_7 (t38,t42)) (
 ldP (a_26.add 3) λt42_1=>
 callF Tryz.prog 19 [(.pointer t37)] [.c I64] λ(t38_1:Int)=>
 R_7 (t38_1,t42_1))) λs_7=>
 callF Tryz.prog 94 [(.pointer s_7.2)] [.c I64] λ(t43:Int)=>
 br (s_7.1==t43) (
 deref p0 λa_30=>
 ldP (a_30.add 1) λt50=>
 deref p0 λa_33=>
 jn (S:=Sl×Option Addr) (λR_8=>
 both (
 callF Tryz.prog 18 [(.pointer t50)] [.c .any] λ(t51:Value)=>
 both (
 callF Tryz.prog 17 [t51,(iv 1048576)] [.c .slice] λ(t52:Sl)=>
 ldP (a_33.add 3) λt56=>
 R_8 (t52,t56)) (
 ldP (a_33.add 3) λt56_1=>
 callF Tryz.prog 17 [t51,(iv 1048576)] [.c .slice] λ(t52_1:Sl)=>
 R_8 (t52_1,t56_1))) (
 ldP (a_33.add 3) λt56_2=>
 callF Tryz.prog 18 [(.pointer t50)] [.c .any] λ(t51_1:Value)=>
 callF Tryz.prog 17 [t51_1,(iv 1048576)] [.c .slice] λ(t52_2:Sl)=>
 R_8 (t52_2,t56_2))) λs_8=>
 callF Tryz.prog 96 [(.pointer s_8.2)] [.c .slice] λ(t57:Sl)=>
 callF Tryz.prog 95 [(slV s_8.1),(slV t57)] [.c .bool] λ(t58:Bool)=>
 br t58 (
 deref p0 λa_38=>
 ldP (a_38.add 1) λt64=>
 deref p0 λa_41=>
 jn (S:=Bool) (λR_9=>
 both (
 callF Tryz.prog 32 [(.pointer t64)] [.agg [I64,I64,I64,I64,I64,I64]] λ(t65:Int×Int×Int×Int×Int×Int)=>
 ldP (a_41.add 3) λt69=>
 deref t69 λa_44=>
 ldA [I64,I64,I64,I64,I64,I64] (a_44.add 7) λ(t72:Int×Int×Int×Int×Int×Int)=>
 R_9 (((t65.1==t72.1)&&((t65.2.1==t72.2.1)&&((t65.2.2.1==t72.2.2.1)&&((t65.2.2.2.1==t72.2.2.2.1)&&((t65.2.2.2.2.1==t72.2.2.2.2.1)&&((t65.2.2.2.2.2==t72.2.2.2.2.2)&&true)))))))) (
 ldP (a_41.add 3) λt69_1=>
 deref t69_1 λa_48=>
 both (
 callF Tryz.prog 32 [(.pointer t64)] [.agg [I64,I64,I64,I64,I64,I64]] λ(t65_1:Int×Int×Int×Int×Int×Int)=>
 ldA [I64,I64,I64,I64,I64,I64] (a_48.add 7) λ(t72_1:Int×Int×Int×Int×Int×Int)=>
 R_9 (((t65_1.1==t72_1.1)&&((t65_1.2.1==t72_1.2.1)&&((t65_1.2.2.1==t72_1.2.2.1)&&((t65_1.2.2.2.1==t72_1.2.2.2.1)&&((t65_1.2.2.2.2.1==t72_1.2.2.2.2.1)&&((t65_1.2.2.2.2.2==t72_1.2.2.2.2.2)&&true)))))))) (
 ldA [I64,I64,I64,I64,I64,I64] (a_48.add 7) λ(t72_2:Int×Int×Int×Int×Int×Int)=>
 callF Tryz.prog 32 [(.pointer t64)] [.agg [I64,I64,I64,I64,I64,I64]] λ(t65_2:Int×Int×Int×Int×Int×Int)=>
 R_9 (((t65_2.1==t72_2.1)&&((t65_2.2.1==t72_2.2.1)&&((t65_2.2.2.1==t72_2.2.2.1)&&((t65_2.2.2.2.1==t72_2.2.2.2.1)&&((t65_2.2.2.2.2.1==t72_2.2.2.2.2.1)&&((t65_2.2.2.2.2.2==t72_2.2.2.2.2.2)&&true)))))))))) λs_9=>
 br s_9 (
 deref p0 λa_52=>
 ldP (a_52.add 1) λt79=>
 deref p0 λa_55=>
 jn (S:=Bool) (λR_10=>
 both (
 callF Tryz.prog 33 [(.pointer t79)] [.agg [I64,I64,I64,I64]] λ(t80:Int×Int×Int×Int)=>
 ldP (a_55.add 3) λt84=>
 deref t84 λa_58=>
 ldA [I64,I64,I64,I64] (a_58.add 2) λ(t88:Int×Int×Int×Int)=>
 R_10 (((t80.1==t88.1)&&((t80.2.1==t88.2.1)&&((t80.2.2.1==t88.2.2.1)&&((t80.2.2.2==t88.2.2.2)&&true)))))) (
 ldP (a_55.add 3) λt84_1=>
 deref t84_1 λa_63=>
 both (
 callF Tryz.prog 33 [(.pointer t79)] [.agg [I64,I64,I64,I64]] λ(t80_1:Int×Int×Int×Int)=>
 ldA [I64,I64,I64,I64] (a_63.add 2) λ(t88_1:Int×Int×Int×Int)=>
 R_10 (((t80_1.1==t88_1.1)&&((t80_1.2.1==t88_1.2.1)&&((t80_1.2.2.1==t88_1.2.2.1)&&((t80_1.2.2.2==t88_1.2.2.2)&&true)))))) (
 ldA [I64,I64,I64,I64] (a_63.add 2) λ(t88_2:Int×Int×Int×Int)=>
 callF Tryz.prog 33 [(.pointer t79)] [.agg [I64,I64,I64,I64]] λ(t80_2:Int×Int×Int×Int)=>
 R_10 (((t80_2.1==t88_2.1)&&((t80_2.2.1==t88_2.2.1)&&((t80_2.2.2.1==t88_2.2.2.1)&&((t80_2.2.2.2==t88_2.2.2.2)&&true)))))))) λs_10=>
 br s_10 (
 deref p0 λa_68=>
 ldP (a_68.add 1) λt95=>
 deref p0 λa_71=>
 jn (S:=Bool) (λR_11=>
 both (
 callF Tryz.prog 34 [(.pointer t95)] [.c .ptr] λ(t96:Option Addr)=>
 ldP (a_71.add 0) λt100=>
 owe (∀a b,t96=some a->t100=some b->a.block=b.block)<|
 R_11 ((t96==t100))) (
 ldP (a_71.add 0) λt100_1=>
 callF Tryz.prog 34 [(.pointer t95)] [.c .ptr] λ(t96_1:Option Addr)=>
 owe (∀a b,t96_1=some a->t100_1=some b->a.block=b.block)<|
 R_11 ((t96_1==t100_1)))) λs_11=>
 Q s_11) (
 jn (S:=Unit) (λR_12=>
 both (
 R_12 ()) (
 R_12 ())) λs_12=>
 Q false)) (
 jn (S:=Unit) (λR_13=>
 both (
 R_13 ()) (
 both (
 R_13 ()) (
 R_13 ()))) λs_13=>
 jn (S:=Unit) (λR_14=>
 both (
 R_14 ()) (
 R_14 ())) λs_14=>
 Q false)) (
 jn (S:=Unit) (λR_15=>
 both (
 R_15 ()) (
 both (
 R_15 ()) (
 R_15 ()))) λs_15=>
 jn (S:=Unit) (λR_16=>
 both (
 R_16 ()) (
 both (
 R_16 ()) (
 R_16 ()))) λs_16=>
 jn (S:=Unit) (λR_17=>
 both (
 R_17 ()) (
 R_17 ())) λs_17=>
 Q false)) (
 jn (S:=Unit) (λR_18=>
 both (
 both (
 R_18 ()) (
 R_18 ())) (
 R_18 ())) λs_18=>
 jn (S:=Unit) (λR_19=>
 both (
 R_19 ()) (
 both (
 R_19 ()) (
 R_19 ()))) λs_19=>
 jn (S:=Unit) (λR_20=>
 both (
 R_20 ()) (
 both (
 R_20 ()) (
 R_20 ()))) λs_20=>
 jn (S:=Unit) (λR_21=>
 both (
 R_21 ()) (
 R_21 ())) λs_21=>
 Q false)) (
 jn (S:=Unit) (λR_22=>
 both (
 R_22 ()) (
 R_22 ())) λs_22=>
 jn (S:=Unit) (λR_23=>
 both (
 both (
 R_23 ()) (
 R_23 ())) (
 R_23 ())) λs_23=>
 jn (S:=Unit) (λR_24=>
 both (
 R_24 ()) (
 both (
 R_24 ()) (
 R_24 ()))) λs_24=>
 jn (S:=Unit) (λR_25=>
 both (
 R_25 ()) (
 both (
 R_25 ()) (
 R_25 ()))) λs_25=>
 jn (S:=Unit) (λR_26=>
 both (
 R_26 ()) (
 R_26 ())) λs_26=>
 Q false)))
theorem F43_calls(p0:Option Addr)(Q:Bool->Pr)(w:World)(h:F43 p0 Q w):Calls Tryz.prog 43 #[(.pointer p0)] w (RetT [.c .bool] Q):=cF (an:=an43) Tryz.func43 (by kernel_rfl) h
set_option maxRecDepth 20000
def TM.sp(T:TM):List (Int×List UInt8):=(sortI (T.pg.map (·.1))).map λk=>(k,T.page k)
theorem sp_keys{T:TM}(ht:T.ok):T.sp.map (·.1)=T.changed:=by
 unfold TM.sp TM.changed;rw[List.map_map];have e:sortI (T.pg.map (·.1))=(sortI (T.pg.map (·.1))).map ((λp:Int×List UInt8=>p.1)∘λk=>(k,T.page k)):=by
  rw[show((λp:Int×List UInt8=>p.1)∘λk=>(k,T.page k))=id from rfl,List.map_id]
 rw[<-e];cases hb:T.busy with
 |true=>rfl
 |false=>rw[ht.idle hb];exact List.mergeSort_nil
abbrev pcell(p:Pg):List Value:=[iv p.k,slV p.s]
structure RH where
 g:Nat
 s:Sl
 xs:List Rc
 q:Sl
 ps:List Pg
structure RefP(T:TM)(i:RH):Prop where
 xs:i.xs.map rv=T.R
 ps:i.ps.map Pg.m=T.sp
abbrev refO(y dd:Nat)(T:TM)(i:RH):List HA:=[BoxA y (refC dd T.S T.P i.g T.dead T.busy i.q),BoxA i.g (ringC dd 3 T.n T.h i.s),SlA 5 i.s (rcs i.xs),bts i.xs,SlA 2 i.q (i.ps.flatMap pcell),bigA (i.ps.map Pg.A)]
def RefA(y dd:Nat)(T:TM):HA:=exA λi:RH=>pA (RefP T i)::refO y dd T i
section
variable{F0:Nat->Prop}{w0 w:World}{L:List HA}{x y d dd pp N:Nat}{T:TM}
theorem _root_.Go.Eng.St.rOpen(h:St F0 w0 w (RefA y dd T::L)):∃i,RefP T i/\St F0 w0 w (BoxA y (refC dd T.S T.P i.g T.dead T.busy i.q)::BoxA i.g (ringC dd 3 T.n T.h i.s)::SlA 5 i.s (rcs i.xs)::bts i.xs::SlA 2 i.q (i.ps.flatMap pcell)::bigA (i.ps.map Pg.A)::L):=by
 obtain⟨i,h⟩:=h.ex;obtain⟨h1,h⟩:=h.p;exact⟨i,h1,h⟩
theorem _root_.Go.Eng.St.rClose(i:RH)(hi:RefP T i)(h:St F0 w0 w (BoxA y (refC dd T.S T.P i.g T.dead T.busy i.q)::BoxA i.g (ringC dd 3 T.n T.h i.s)::SlA 5 i.s (rcs i.xs)::bts i.xs::SlA 2 i.q (i.ps.flatMap pcell)::bigA (i.ps.map Pg.A)::L)):St F0 w0 w (RefA y dd T::L):=
 St.mkex (f:=λi:RH=>pA (RefP T i)::refO y dd T i) i (St.mkp h hi)
theorem slA_lenN{n:Nat}{s:Sl}{vs:List Value}(h:St F0 w0 w (SlA n s vs::L)):vs.length=s.len*n:=h.sl.len
theorem refChangedC{b:Nat}{q:Sl}{ps:List Pg}{cs:List Value}{K:Sl->Pr}(h:St F0 w0 w (BoxA b (cs++[slV q])::SlA 2 q (ps.flatMap pcell)::L))(hc:cs.length=16)(hl:ps.length<=1000000)
 (hK:∀t w',St F0 w0 w' (SlA 1 t (ints (ps.map Pg.k))::BoxA b (cs++[slV q])::SlA 2 q (ps.flatMap pcell)::L)->K t w'):callF Tryz.prog 96 [P0 b] [.c .slice] K w:=by
 refine callF_of (post:=K) (F96_calls _ _ _ ?_) λ_ _ h=>h;unfold F96;simp only[deref_some'];have hq:q.len=ps.length:=by
  have h1:=slA_lenN (h.bring 1);rw[flatMap_len (f:=pcell) (n:=2) λ_=>rfl]at h1;omega
 have hi:(cs++[slV q])[16]? =some (valC .slice q):=by rw[List.getElem?_append_right (by omega),hc];rfl
 refine loop_of (λs W=>∃j:Nat,s.2=j/\j<=ps.length/\St F0 w0 W (SlA 1 s.1 (ints ((ps.take j).map Pg.k))::BoxA b (cs++[slV q])::SlA 2 q (ps.flatMap pcell)::L)) (λs _=>ps.length-s.2.toNat) ⟨0,rfl,by omega,h.nosl 1⟩ ?_;rintro⟨t,i⟩ w1 ⟨j,e,hj,s1⟩;dsimp only at e s1;subst e;refine s1.L 1 rfl (p:=q) hi ?_;refine br_of (λhlt=>?_) λhge=>?_
 ·have hlt:=of_decide_eq_true hlt
  refine s1.L 1 rfl (p:=q) hi ?_;have hx:ps[j]? =some (ps[j]'(by omega)):=List.getElem?_eq_getElem _;generalize ps[j]'(by omega)=p at hx;refine SS.elc (n:=2) (λ_=>rfl) (OwnS.ss (f:=pcell) (n:=2) (λ_=>rfl) (by decide) (St.sl (s1.bring 2))) (i:=0) (c:=.int .i64) (p:=p.k) hx (by decide) rfl ?_;refine St.nw s1 λr w2 s2 _ _=>?_;have tl:=slA_len1 s1.sl;unfold ints at tl;rw[List.length_map,List.length_map,List.length_take]at tl;refine(s2.bring 1).app (new:=[.int .i64 p.k]) (λ_=>rfl) (λh=>by cases h) (readsAt_row.2 s2.box.row) (by simp[NotAgg]) rfl (by decide) (by dsimp only;omega) λu w3 s3 _=>?_;have e:ints ((ps.take j).map Pg.k)++[.int .i64 p.k]=ints ((ps.take (j+1)).map Pg.k):=by rw[List.take_add_one,hx,List.map_append,ints_append];rfl
  rw[e]at s3;rw[w64_succ (by omega)];exact⟨⟨j+1,rfl,by omega,s3.sel [0,2,3] 4⟩,by dsimp only;omega⟩
 ·have hge:=of_decide_eq_false hge
  have e:ps.take j=ps:=List.take_of_length_le (by omega);rw[e]at s1;exact hK t w1 s1
theorem busyN{K:Bool->Pr}(h:St F0 w0 w (TxA x dd N T::L))(hK:K T.busy w):callF Tryz.prog 21 [P0 x] [.c .bool] K w:=by
 obtain⟨i,hp,s⟩:=h.tOpen;refine callF_of (V21 s.box) ?_;rintro _ _ ⟨rfl,rfl⟩;exact hK
theorem no43{K:Bool->Pr}(h:St F0 w0 w (PairA pp d dd (.pointer none) (.pointer none)::L))(hK:∀w',St F0 w0 w' (PairA pp d dd (.pointer none) (.pointer none)::L)->K true w'):callF Tryz.prog 43 [P0 pp] [.c .bool] K w:=by
 refine callF_of (post:=K) (F43_calls _ _ _ ?_) λ_ _ h=>h;unfold F43;rw[drw_def];have s:=h.drew;clear h;generalize w.drew=w1 at s⊢;simp only[deref_some'];refine s.L 0 rfl (p:=(none:Option Addr)) rfl ⟨trivial,?_⟩;refine s.L 0 rfl (p:=(none:Option Addr)) rfl ⟨trivial,trivial,br_f rfl ?_⟩;rw[drw_def];have s:=s.drew;generalize w1.drew=w2 at s⊢;refine s.L 0 rfl (p:=(none:Option Addr)) rfl ⟨trivial,br_t rfl ?_⟩;have j:∀{G:(Unit->Pr)->Pr} {k:Unit->Pr},G (λ_ W=>W=w2) w2->k () w2->jn G k w2:=λhG hk=>jn_of (λ_ W=>W=w2) hG (by rintro _ _ rfl;exact hk);refine j ⟨rfl,rfl,rfl⟩ (j ⟨rfl,rfl⟩ (j ⟨⟨rfl,rfl⟩,rfl⟩ (j ⟨rfl,rfl,rfl⟩ (j ⟨rfl,rfl,rfl⟩ (j ⟨rfl,rfl⟩ (hK w2 s))))))
theorem alikeC{K:Bool->Pr}(ht:T.ok)(h:St F0 w0 w (TxA x d N T::RefA y dd T::PairA pp d dd (P0 x) (P0 y)::L))(hK:∀w',St F0 w0 w' (TxA x d N T::RefA y dd T::PairA pp d dd (P0 x) (P0 y)::L)->K true w'):
 callF Tryz.prog 43 [P0 pp] [.c .bool] K w:=by
 refine callF_of (post:=K) (F43_calls _ _ _ ?_) λ_ _ h=>h;unfold F43;rw[drw_def];obtain⟨i,hp,s⟩:=(h.drew.sel [1,0,2] 3).rOpen;clear h;have s:St F0 w0 w.drew (BoxA y (refC dd T.S T.P i.g T.dead T.busy i.q)::BoxA i.g (ringC dd 3 T.n T.h i.s)::SlA 5 i.s (rcs i.xs)::bts i.xs::SlA 2 i.q (i.ps.flatMap pcell)::bigA (i.ps.map Pg.A)::TxA x d N T::PairA pp d dd (P0 x) (P0 y)::L):=s;generalize w.drew=w1 at s⊢;simp only[deref_some'];refine s.L 7 rfl (p:=(some ⟨x,0,none⟩:Option Addr)) rfl ⟨trivial,?_⟩;refine s.L 7 rfl (p:=(some ⟨y,0,none⟩:Option Addr)) rfl ⟨trivial,trivial,br_f rfl ?_⟩;rw[drw_def];have s:=s.drew;generalize w1.drew=w2 at s⊢;refine s.L 7 rfl (p:=(some ⟨x,0,none⟩:Option Addr)) rfl ⟨trivial,br_f rfl ?_⟩;refine s.L 7 rfl (p:=(some ⟨x,0,none⟩:Option Addr)) rfl ?_;obtain⟨LL,hLL⟩:∃LL,LL=BoxA y (refC dd T.S T.P i.g T.dead T.busy i.q)::BoxA i.g (ringC dd 3 T.n T.h i.s)::SlA 5 i.s (rcs i.xs)::bts i.xs::SlA 2 i.q (i.ps.flatMap pcell)::bigA (i.ps.map Pg.A)::TxA x d N T::PairA pp d dd (P0 x) (P0 y)::L:=⟨_,rfl⟩;have lx:∀{W} {k:Option Addr->Pr},St F0 w0 W LL->k (some ⟨x,0,none⟩) W->ldP (bA pp 1) k W:=λ{W k} t hk=>by rw[hLL]at t;exact t.L 7 rfl (p:=(some ⟨x,0,none⟩:Option Addr)) rfl hk
 have ly:∀{W} {k:Option Addr->Pr},St F0 w0 W LL->k (some ⟨y,0,none⟩) W->ldP (bA pp 3) k W:=λ{W k} t hk=>by rw[hLL]at t;exact t.L 7 rfl (p:=(some ⟨y,0,none⟩:Option Addr)) rfl hk
 have dy:∀{W} {k:Addr->Pr},k ⟨y,0,none⟩ W->deref (some ⟨y,0,none⟩) k W:=λ{W k} hk=>by rw[deref_some'];exact hk
 have c21:∀{W} {k:Bool->Pr},St F0 w0 W LL->k T.busy W->callF Tryz.prog 21 [P0 x] [.c .bool] k W:=λ{W k} t hk=>by rw[hLL]at t;exact busyN (t.bring 6) hk
 have lb:∀{W} {k:Bool->Pr},St F0 w0 W LL->k T.busy W->ldB (bA y 15) k W:=λ{W k} t hk=>by rw[hLL]at t;exact t.L 0 rfl (p:=T.busy) rfl hk
 rw[<-hLL]at s;refine jn_of (λc W=>c=true/\St F0 w0 W LL) ⟨c21 s (ly s (dy (lb s ⟨trivial,by simp,s⟩))),ly s (dy ⟨c21 s (lb s ⟨trivial,by simp,s⟩),lb s (c21 s ⟨trivial,by simp,s⟩)⟩)⟩ ?_;rintro _ w3 ⟨rfl,s⟩;refine br_t rfl (lx s ?_);have hxl:i.xs.length=T.R.length:=by rw[<-hp.xs,List.length_map]
 have hR:=ht.R;have hn:=ht.n1;have hpl:=ht.pgl;have c19:∀{W} {k:Int->Pr},St F0 w0 W LL->(∀W',St F0 w0 W' LL->k T.R.length W')->callF Tryz.prog 19 [P0 x] [.c (.int .i64)] k W:=λ{W k} t hk=>by
  rw[hLL]at t;exact heldC (t.bring 6) ht λW' t'=>hk W' (by rw[hLL];exact t'.sel [1,2,3,4,5,6,0,7] 8)
 refine jn_of (λc W=>c=((T.R.length:Int),some ⟨y,0,none⟩)/\St F0 w0 W LL) ⟨c19 s λW' s=>ly s ⟨rfl,s⟩,ly s (c19 s λW' s=>⟨rfl,s⟩)⟩ ?_;rintro _ w4 ⟨rfl,s⟩;refine callF_of (post:=λ(r:Int) W=>r=T.R.length/\St F0 w0 W LL) (F94_calls _ _ _ ?_) ?_
 ·unfold F94
  refine dy ?_;rw[hLL]at s;refine s.L 0 rfl (p:=(some ⟨i.g,0,none⟩:Option Addr)) rfl ?_;rw[deref_some'];have hsl:=(s.sel [2,3] 8).rl.len;exact s.L 1 rfl (p:=i.s) rfl ⟨by omega,by rw[hLL];exact s⟩
 rintro _ w5 ⟨rfl,s⟩;refine br_t (by simp) (lx s ?_);have c18:∀{W} {k:Value->Pr},St F0 w0 W LL->(∀b t W',St F0 w0 W' (BoxA b [slV t]::SlA 1 t (ints T.changed)::LL)->k (.func (.func 104) #[] #[P0 b]) W')->callF Tryz.prog 18 [P0 x] [.c .any] k W:=λ{W k} t hk=>by
  rw[hLL]at t;obtain⟨G,H,_,g2,_,_,_,gc⟩:=(t.bring 6).call1;refine callF_of (V18 g2 ht) ?_;rintro _ W1 ⟨b,u,rfl,s1⟩;exact hk b u W1 (by rw[hLL];exact(gc _ _ s1).sel [0,1,3,4,5,6,7,8,2,9] 10)
 have hcl:=changed_len T;have c17:∀{W b t} {k:Sl->Pr},St F0 w0 W (BoxA b [slV t]::SlA 1 t (ints T.changed)::LL)->(∀r W',St F0 w0 W' (SlA 1 r (ints T.changed)::LL)->k r W')->callF Tryz.prog 17 [.func (.func 104) #[] #[P0 b],iv 1048576] [.c .slice] k W:=λ{W b t k} u hk=>by
  obtain⟨G,H,g2,_,_,_,gc⟩:=St.call [BoxA b [slV t],SlA 1 t (ints T.changed)] u;refine callF_of (V17 (most:=1048576) g2 (by omega) (by decide)) ?_;rintro r W1 s1;have s1:=gc _ _ s1;rw[show(1048576:Int).toNat=1048576 from rfl,List.take_of_length_le (by omega)]at s1;exact hk r W1 (s1.sel [0] 3)
 refine jn_of (λ(c:Sl×Option Addr) W=>c.2=some ⟨y,0,none⟩/\St F0 w0 W (SlA 1 c.1 (ints T.changed)::LL)) ⟨c18 s λb t W' s1=>⟨c17 s1 λr W2 s2=>ly s2.drop ⟨rfl,s2⟩,ly (s1.drop).drop (c17 s1 λr W2 s2=>⟨rfl,s2⟩)⟩,ly s (c18 s λb t W' s1=>c17 s1 λr W2 s2=>⟨rfl,s2⟩)⟩ ?_;rintro⟨r1,_⟩ w6 ⟨rfl,s⟩;dsimp only;have hpk:i.ps.map Pg.k=T.changed:=by rw[<-sp_keys ht,<-hp.ps,List.map_map];rfl
 have hpsl:i.ps.length=T.changed.length:=by rw[<-hpk,List.length_map]
 rw[hLL]at s;refine refChangedC (cs:=(refC dd T.S T.P i.g T.dead T.busy i.q).take 16) (s.sel [1,5,0,2,3,4,6,7,8] 9) rfl (by omega) λr2 w7 s7=>?_;rw[hpk]at s7;have i1:=owns_ints (s7.bring 3).sl;refine callF_of (C27 r1 r2 _ _ w7 i1 (owns_ints s7.sl) (by have:=i1.len;dsimp only at this;omega)) ?_;rintro _ w8 ⟨rfl,g8⟩;refine br_t (by simp) ?_;have s:St F0 w0 w8 LL:=by rw[hLL];exact(s7.grow g8).sel [1,4,5,6,2,7,8,9] 10
 clear s7 i1 g8;have bx:∀{W},St F0 w0 W LL->∃j:TH,Box W x (storeC j.b d T.S T.P T.busy T.dead j.m):=λ{W} t=>by
  rw[hLL]at t;obtain⟨j,_,t⟩:=(t.bring 6).tOpen;exact⟨j,t.box⟩
 have by':∀{W},St F0 w0 W LL->Box W y (refC dd T.S T.P i.g T.dead T.busy i.q):=λ{W} t=>by rw[hLL]at t;exact t.box
 have c32:∀{W} {k:PlanT->Pr},St F0 w0 W LL->(∀W',St F0 w0 W' LL->k T.P W')->callF Tryz.prog 32 [P0 x] [.agg [.int .i64,.int .i64,.int .i64,.int .i64,.int .i64,.int .i64]] k W:=λ{W k} t hk=>by
  obtain⟨j,b⟩:=bx t;refine callF_of (V32 b) ?_;rintro _ W1 ⟨rfl,g⟩;exact hk W1 (t.grow g)
 have lp:∀{W} {k:PlanT->Pr},St F0 w0 W LL->k T.P W->ldA [.int .i64,.int .i64,.int .i64,.int .i64,.int .i64,.int .i64] (bA y 7) k W:=λ{W k} t hk=>by
  have hg:Row W (bA y 7) (valA [.int .i64,.int .i64,.int .i64,.int .i64,.int .i64,.int .i64] T.P):=((by' t).row.drop 7).take 6;exact ldA_of (p:=T.P) (readsAt_row.2 hg) hk
 refine lx s ?_;refine jn_of (λc W=>c=true/\St F0 w0 W LL) ⟨c32 s λW s=>ly s (dy (lp s ⟨by simp,s⟩)),ly s (dy ⟨c32 s λW s=>lp s ⟨by simp,s⟩,lp s (c32 s λW s=>⟨by simp,s⟩)⟩)⟩ ?_;rintro _ w9 ⟨rfl,s⟩;refine br_t rfl (lx s ?_);have c33:∀{W} {k:Geo->Pr},St F0 w0 W LL->(∀W',St F0 w0 W' LL->k (supG T.S) W')->callF Tryz.prog 33 [P0 x] [.agg [.int .i64,.int .i64,.int .i64,.int .i64]] k W:=λ{W k} t hk=>by
  obtain⟨j,b⟩:=bx t;refine callF_of (V33 b) ?_;rintro _ W1 ⟨rfl,g⟩;exact hk W1 (t.grow g)
 have lg:∀{W} {k:Geo->Pr},St F0 w0 W LL->k (supG T.S) W->ldA [.int .i64,.int .i64,.int .i64,.int .i64] (bA y 2) k W:=λ{W k} t hk=>by
  have hg:Row W (bA y 2) (valA [.int .i64,.int .i64,.int .i64,.int .i64] (supG T.S)):=((by' t).row.drop 2).take 4;exact ldA_of (p:=supG T.S) (readsAt_row.2 hg) hk
 refine jn_of (λc W=>c=true/\St F0 w0 W LL) ⟨c33 s λW s=>ly s (dy (lg s ⟨by simp,s⟩)),ly s (dy ⟨c33 s λW s=>lg s ⟨by simp,s⟩,lg s (c33 s λW s=>⟨by simp,s⟩)⟩)⟩ ?_;rintro _ w10 ⟨rfl,s⟩;refine br_t rfl (lx s ?_);have c34:∀{W} {k:Option Addr->Pr},St F0 w0 W LL->k (some ⟨d,0,none⟩) W->callF Tryz.prog 34 [P0 x] [.c .ptr] k W:=λ{W k} t hk=>by
  obtain⟨j,b⟩:=bx t;refine callF_of (V34 b) ?_;rintro _ _ ⟨rfl,rfl⟩;exact hk
 have l0:∀{W} {k:Option Addr->Pr},St F0 w0 W LL->k (some ⟨d,0,none⟩) W->ldP (bA pp 0) k W:=λ{W k} t hk=>by rw[hLL]at t;exact t.L 7 rfl (p:=(some ⟨d,0,none⟩:Option Addr)) rfl hk
 have ow:∀a b:Addr,(some ⟨d,0,none⟩:Option Addr)=some a->(some ⟨d,0,none⟩:Option Addr)=some b->a.block=b.block:=λa b ha hb=>by cases ha;cases hb;rfl
 refine jn_of (λc W=>c=true/\St F0 w0 W LL) ⟨c34 s (l0 s ⟨ow,by simp,s⟩),l0 s (c34 s ⟨ow,by simp,s⟩)⟩ ?_;rintro _ w11 ⟨rfl,s⟩;rw[hLL]at s;exact hK w11 ((s.rClose i hp).sel [1,0,2] 3)
theorem t0_ok{D:DM}(hD:DB N D)(h0:(openT D).1=0):(T0 D).ok/\(T0 D).n=(chosenS D).1.2.2.1:=by
 obtain⟨a,b⟩:=open_begins (D:=D);have hdg:=openT_dg hD;by_cases e:beginsE D=0
 ·obtain⟨ho,hc,hs,_,eT⟩:=b e
  dsimp only at eT;have hl:lapE D (chosenS D).1 ((chosenS D).1.2.2.2.2.2+(scanO D 3 (chosenS D).1.2.2.1 (chosenS D).1.2.2.2.2.2).length)=0:=by
   by_cases hl:lapE D (chosenS D).1 ((chosenS D).1.2.2.2.2.2+(scanO D 3 (chosenS D).1.2.2.1 (chosenS D).1.2.2.2.2.2).length)=0
   ·exact hl
   ·rw[if_pos hl]at eT
    rw[eT]at h0;exact h0
  have hn:(lapS (chosenS D).1 ((chosenS D).1.2.2.2.2.2+(scanO D 3 (chosenS D).1.2.2.1 (chosenS D).1.2.2.2.2.2).length)).2=0:=by
   unfold lapE at hl;by_cases h:(lapS (chosenS D).1 ((chosenS D).1.2.2.2.2.2+(scanO D 3 (chosenS D).1.2.2.1 (chosenS D).1.2.2.2.2.2).length)).2=0
   ·exact h
   ·rw[if_pos h]at hl;cases hl
  obtain⟨hn1,hn2,hn3,_⟩:=next_ok hn;obtain⟨h1,_,_,h3,_⟩:=supE_ok hs;have hlen:(D.blocks.length:Int)=(chosenS D).1.2.1:=by
   unfold chosenS at hc⊢;split at hc
   ·cases hc
   ·rename_i h2
    rw[if_neg h2];rw[ho,if_neg (λh=>by cases h)]at hc⊢;dsimp only at hc⊢;by_cases h5:(D.blocks.length:Int)=(chooseS (rdD D 0) (rdD D 1)).1.2.1
    ·exact h5
    ·by_cases h6:(chooseS (rdD D 0) (rdD D 1)).2=0
     ·rw[if_pos ⟨h6,h5⟩]at hc;cases hc
     ·rw[if_neg (λh=>h6 h.1)]at hc;exact absurd hc h6
  have hS:(T0 D).S=((chosenS D).1.1+1,(chosenS D).1.2.1,(chosenS D).1.2.2.1,(chosenS D).1.2.2.2.1,(chosenS D).1.2.2.2.2.1,lapV ((chosenS D).1.2.2.2.2.2+(scanO D 3 (chosenS D).1.2.2.1 (chosenS D).1.2.2.2.2.2).length) (chosenS D).1.2.2.1):=hn1;have hg:supG (T0 D).S=supG (chosenS D).1:=by rw[hS]
  have hof:(ofG (supG (chosenS D).1)).2=0:=by unfold ofG;rw[if_pos h1]
  refine⟨?_,by rw[TM.n,hS]⟩;refine⟨hdg.db.ok,by rw[hg];rfl,by rw[hg];exact hof,?_,?_,?_,rfl,List.nodup_nil,λp hp=>(by cases hp),λ_=>rfl⟩
  ·show((openT D).2.blocks.length:Int)=_
   rw[hdg.len,hlen,hS]
  ·show 0<=(T0 D).S.2.2.2.2.2/\(T0 D).S.2.2.2.2.2<=_
   rw[hS];exact⟨by dsimp only;omega,hn3⟩
  ·show((0:Nat):Int)<=4*(T0 D).S.2.2.1
   rw[hS];have:=(ofG_ok hof).1.1;unfold supG at this;dsimp only at this⊢;omega
 ·rw[a e]at h0;exact absurd h0 e
theorem alike43:Alike43 where
 no h hK:=no43 h hK
 yes:=by
  intro pp d dd x y g N s D w0 w F0 L K hD _ h0 st hK;obtain⟨hok,hn⟩:=t0_ok hD h0;have s1:St F0 w0 w (BoxA y (refC dd (T0 D).S (T0 D).P g (T0 D).dead (T0 D).busy ⟨none,0,0⟩)::BoxA g (ringC dd 3 (T0 D).n (T0 D).h s)::SlA 5 s (rcs [])::bts []::SlA 2 ⟨none,0,0⟩ (([]:List Pg).flatMap pcell)::bigA (([]:List Pg).map Pg.A)::TxA x d 0 (T0 D)::DiskA d (openT D).2::DiskA dd (openT D).2::PairA pp d dd (P0 x) (P0 y)::L):=by
   rw[hn];exact(st.nobig.nosl 2).sel [2,3,4,5,0,1,6,7,8,9] 10
  have s2:=St.rClose (T:=T0 D) ⟨g,s,[],⟨none,0,0⟩,[]⟩ ⟨rfl,by show[]=(sortI []).map _;rw[show sortI []=[]from List.mergeSort_nil];rfl⟩ s1;refine alikeC hok (s2.sel [1,0,4,2,3] 5) λw' s3=>?_;exact hK w' (s3.sel [3,4,2] 5)
end
theorem law8'(q:Sl)(l:List UInt8)(n:Int)(t:Sl)(m:List UInt8)(w:World)(hq:BS w q l)(hqc:q.len<=q.cap)(hn:(Lit.int .i64 n).wf=true)(ht:BS w t m):
 Calls Tryz.prog 8 #[slV q,iv n,slV t] w (RetT [.c .bool] λr w'=>r=true/\Grow w w'):=law8 alike43 q l n t m w hq hqc hn ht
end Go.Proofs

namespace Go.Eng
open Go.RowKit
theorem Grow.below{w w':World}(h:Grow w w'):Below w.heap.size w w':=⟨h.rest.1,h.rest.2.1,h.rest.2.2,h.size,λk hk=>h.same k hk λh=>h⟩
theorem row_num{n:Int}(h:(Lit.int .u8 n).wf=true):(Value.int .u8 n)=ub (UInt8.ofNat n.toNat):=by
 have h2:0<=n/\n<=255:=by
  simp only[Lit.wf,IntKind.min,IntKind.max,IntKind.signed,IntKind.bits,Bool.and_eq_true,decide_eq_true_eq]at h;simpa using h
 have h3:((UInt8.ofNat n.toNat).toNat:Int)=n:=by simp;omega
 rw[ub,h3]
end Go.Eng

set_option maxRecDepth 100000
namespace Go.Proofs
open Go.Eng Go.ChangeShapes Go.WideShapes Go.ChangeAt Go.RowKit Go.Deep
structure Tw where
 d:Int
 k:Int
 o:Int
 n:Int
 b:Sl
 p:Sl
def Tw.cells(x:Tw):List Value:=[iv x.d,iv x.k,iv x.o,iv x.n,slV x.b,slV x.p]
section
variable{H:Type}{enc:TypeId×Value->H}{W:World}{sp:Nat->Bool}
theorem open_bytesT{fuel:Nat}{v:Value}{x:DataW H×List MemPlace}(h:DataW.trod enc Tryz.prog W 0 sp true fuel 33 [v]=some x):
 ∃(s:Sl) (l:List UInt8),v=slV s/\BS W s l/\s.len<=s.cap:=by
 rcases open_ints Tryz.underlying33 Tryz.underlying5 (by kernel_rfl) h with⟨hcs,_⟩|⟨x,l,c,zs,hcs,_,hl,hm,hz,hr,hcell,hwz⟩
 ·simp only[List.cons.injEq,and_true]at hcs
  exact⟨⟨none,0,0⟩,[],hcs,BS.nil _ _,Nat.le_refl _⟩
 ·simp only[List.cons.injEq,and_true]at hcs
  have hz':l<=zs.length:=by rw[hz];split<;>omega
  refine⟨⟨some x,l,c⟩,(zs.take l).map λn=>UInt8.ofNat n.toNat,hcs,⟨by simp;omega,readsAt_row.2 λj v hj=>?_⟩,hl⟩;simp only[List.map_map,List.getElem?_map,List.getElem?_take]at hj;split at hj
  ·rename_i hlt
   have hjl:j<zs.length:=by omega
   rw[hcell j hjl];simp only[hjl,List.getElem?_eq_getElem,Option.map_some,Option.some.injEq,Function.comp_apply]at hj;subst hj;rw[show zs.getD j 0=zs[j] by simp[List.getD,hjl]];exact congrArg some (row_num (hwz _ (List.getElem_mem hjl)))
  ·cases hj
end
end Go.Proofs
