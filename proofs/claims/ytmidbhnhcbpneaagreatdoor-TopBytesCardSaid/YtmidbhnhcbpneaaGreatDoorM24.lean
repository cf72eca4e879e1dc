/- A part of the proof. -/
import Derived.Test.YtmidbhnhcbpneaaGreatDoorM3
import Derived.Test.YtmidbhnhcbpneaaGreatDoorM23
import Derived.Test.YtmidbhnhcbpneaaGreatDoorM8
import Derived.Test.YtmidbhnhcbpneaaGreatDoorM19
import Derived.Test.YtmidbhnhcbpneaaGreatDoorM20
import Derived.Test.YtmidbhnhcbpneaaGreatDoorM22
import Derived.ProofKit
import Derived.OpenShut
import Derived.Deep.Strs
import Derived.Deep.Grids
set_option linter.unusedVariables false
set_option linter.unusedSimpArgs false
set_option maxRecDepth 8000
set_option maxHeartbeats 8000000
section
namespace Go.Proofs.YtmidbhnhcbpneaaGreatDoor.Top
open Go Go.RowKit Go.Lt YtmidbhnhcbpneaaGreatDoor.Lit YtmidbhnhcbpneaaGreatDoor.Dec
open YtmidbhnhcbpneaaGreatDoor.Circ (T3 enc3 RdT Sl Cv Ae)
theorem ApN {W:World} {B n:Nat} {e:TypeId} {s:Sl} {l:List Nat} (h:W.ownsRow B e 1 (sv s) n (nvs l)) (hn:0<n):∃ g,s=⟨some ⟨g,0,none⟩,n,s.c⟩:=by
 rcases Jx h with⟨_,p⟩|⟨g,j,m,_⟩
 ·omega
 obtain⟨A,N,C⟩:=s;injection m with e1 e2 e3;dsimp only at e1 e2;subst e1 e2
 exact⟨g,rfl⟩
theorem Anb {c:Cir} (hg:Ag c) {j:Nat} (hj:j<4):∀ y∈L0 c j,(y<2∨y-y%2∈Dd c)/\y<=2*c.max+1:=by
 refine four (P:=λj=>∀ y∈L0 c j,(y<2∨y-y%2∈Dd c)/\y<=2*c.max+1) ?_ ?_ ?_ ?_ j hj
 ·intro y hy;have l:=hg.own y (Nr hy)
  exact⟨.inr (by rw[l.2.1,Nat.sub_zero];exact Nr hy),by omega⟩
 ·intro y hy;exact⟨Du hg (Hu hy),hg.used y (Hu hy)⟩
 ·intro y hy;exact⟨Du hg (Ez hy),hg.used y (Ez hy)⟩
 intro y hy;exact⟨Du hg (Ey hy),hg.used y (Ey hy)⟩
theorem Ami {c:Cir} (hg:Ag c) {y:Nat} (h:y<2∨y-y%2∈Dd c):Zz (Av c) y:=h.imp id (λh=>(Jk hg).2 h)
theorem AoJ {x:Bp} (hl:Mx x) {j:Nat} (hj:j<4):(L0 x.c j).length<=16777216:=
 four (P:=λj=>(L0 x.c j).length<=16777216) hl.ins hl.outs hl.bads hl.cons j hj
def Amv (x:Bp) (w:World) (e:Ending) (w':World):Prop:=∃ v' sa,e= .returned (.tuple #[.agg (Ae (Ak x.c).max v'),sv sa])/\Lj w.heap.size w' v' ⟨Ak x.c,x.sym,x.com⟩/\Below w.heap.size w w'
theorem Aix {w:World} {A:Option Addr} {n k:Nat} {l:List (Int×Int)} (h:RdS w A n 2 (Gz l)) (hk:k<n):
  ∃j x,A=some j/\l[k]?=some x/\w.cell? (j.add (k*2))=some (.int .i64 x.1)/\w.cell? ⟨(j.add (k*2)).block,(j.add (k*2)).off+1,none⟩=some (.int .i64 x.2):=by
 obtain⟨q,h2⟩:=h
 have z:l.length=n:=by have:=Mt nd2 2 (λ_=>rfl) l;unfold Gz at q;omega
 have m:=List.getElem?_eq_getElem (show k<l.length by omega)
 rcases h2 with h2|⟨j,r,y,p⟩
 ·omega
 refine⟨j,_,r,m,?_,?_⟩
 ·refine p (k*2) _ ?_;unfold Gz;rw[flat_get nd2 2 (λ_=>rfl) (by decide),show k*2/2=k by omega,m,show k*2%2=0 by omega];rfl
 rw[Go.Proofs.YtmidbhnhcbpneaaGreatDoor.Circ.Mg _ _ _ (by decide)];refine p (k*2+1) _ ?_;unfold Gz;rw[flat_get nd2 2 (λ_=>rfl) (by decide),show(k*2+1)/2=k by omega,m,show(k*2+1)%2=1 by omega];rfl
theorem AnE {x:Bp} {n0:Nat} {w W j:World} {tmps:Array Value} {x0 x1 x2 x3 x4 x5 x6 x7 x8 y0 y1 y2 y3 y4 y5 y6 y7 y8:Value} {v:Cv} {s:Sl} (hn0:w.heap.size=n0) (hb:Below n0 w W) (b1:Blk W (n0+1) 31 #[x0,x1,x2,x3,x4,x5,x6,x7,x8])
  (hW:j=(((((((((((W.setCell ⟨n0+1,0,none⟩ y0).setCell ⟨n0+1,1,none⟩ y1).setCell ⟨n0+1,2,none⟩ y2).setCell ⟨n0+1,3,none⟩ y3).setCell ⟨n0+1,4,none⟩ y4).setCell ⟨n0+1,5,none⟩ y5).setCell ⟨n0+1,6,none⟩ y6).setCell ⟨n0+1,7,none⟩ y7).setCell ⟨n0+1,8,none⟩ y8))).drew)
  (hP:Value.agg #[y0,y1,y2,y3,y4,y5,y6,y7,y8]= .agg (Ae (Ak x.c).max v)) (ho:Lj n0 W v ⟨Ak x.c,x.sym,x.com⟩)
  (h2:tmps[2]?=some (.pointer (some ⟨n0+1,0,none⟩))) (h3:tmps[3]?=some (sv s)):bodyPost Tryz.prog Tryz.f9 (Amv x w) .ret {tmps:=tmps,defers:=[]} j:=by
 subst hW;have r:=Xj b1 y0 y1 y2 y3 y4 y5 y6 y7 y8;have p:=fr9 (Fr.refl (λq=>q=n0+1) W) rfl y0 y1 y2 y3 y4 y5 y6 y7 y8;generalize ((((((((((W.setCell ⟨n0+1,0,none⟩ y0).setCell ⟨n0+1,1,none⟩ y1).setCell ⟨n0+1,2,none⟩ y2).setCell ⟨n0+1,3,none⟩ y3).setCell ⟨n0+1,4,none⟩ y4).setCell ⟨n0+1,5,none⟩ y5).setCell ⟨n0+1,6,none⟩ y6).setCell ⟨n0+1,7,none⟩ y7).setCell ⟨n0+1,8,none⟩ y8))=j at*;obtain⟨m,y,z,h,D,E,F,I,J⟩:=c9c (r)
 have l:Below w.heap.size w j.drew:=by rw[hn0];exact(hb.trans (p.below (B:=n0) (by have:=b1.lt;omega) (λk N=>by omega))).trans ((Dr.refl j).drew.below _)
 have M:j.drew.cell? ⟨n0+1,0,none⟩=some y0:=m;refine bodyPost_ret (v:= .tuple #[.agg #[y0,y1,y2,y3,y4,y5,y6,y7,y8],sv s]) ?_ rfl ⟨v,s,by rw[hP],by rw[hn0];exact(ho.fr p (λk e=> .inr ⟨31,_,e▸b1,by decide,by decide,by decide,by decide⟩)).below ((Dr.refl j).drew.below _),l⟩;simp[results,Tryz.results9,go_sem,h2,h3,m,y,z,h,D,E,F,I,J]
theorem Ut (v:Cv) (x:Bp) (w:World) (hr:RdC w v x) (hl:Mx x) (hgc:Ag x.c) (fI:x.c.max<=1000000):
  Calls Tryz.prog 9 #[.agg (Ae x.c.max v)] w (Amv x w):=by
 obtain⟨⟨A1,M1,C1⟩,⟨A2,M2,C2⟩,⟨A3,M3,C3⟩,⟨A4,M4,C4⟩,⟨A5,M5,C5⟩,⟨A6,M6,C6⟩,⟨A7,M7,C7⟩,dA⟩:=v;obtain⟨m,hm⟩:∃ m,m=x.c.max:=⟨_,rfl⟩
 have dO:m<=16777216:=by rw[hm];exact hgc.max
 rw[<-hm];simp only[Ae];obtain⟨W2,cA,q0,q1,gM,dG⟩:=Qd w #[.int .i64 (m:Nat),.slice A1 M1 C1,.slice A2 M2 C2,.slice A3 M3 C3,.slice A4 M4 C4,.slice A5 M5 C5,.slice A6 M6 C6,.slice A7 M7 C7,.string dA] #[.int .i64 0,.slice none 0 0,.slice none 0 0,.slice none 0 0,.slice none 0 0,.slice none 0 0,.slice none 0 0,.slice none 0 0,.string ⟨#[]⟩] 31 31
 have fK:(Av x.c).length<=1000000:=by
  have h1:=(Lm hgc).length_eq;have h2:=Zc hgc;omega
 have bQ:=hr.below dG (Nl _);have HN:=Ab (AlT ⟨⟨A1,M1,C1⟩,⟨A2,M2,C2⟩,⟨A3,M3,C3⟩,⟨A4,M4,C4⟩,⟨A5,M5,C5⟩,⟨A6,M6,C6⟩,⟨A7,M7,C7⟩,dA⟩ x W2 bQ hl hgc);rw[<-hm]at HN;simp only[Ae]at HN;obtain⟨c0,c1,c2,c3,c4,c5,c6,c7,c8⟩:=c9d q0;replace cA:=Ab cA;replace hm:=Ab hm;generalize dP:w.heap.size=n0 at*
 go_enter Tryz.func9,Tryz.ntmps9
 go_upto_region 1 with fail
 rw[cA.o];clear cA
 go_wp2_with fail
 refine HN.o.mono ?_;rintro e w3 ⟨⟨An,Ln,Cn⟩,⟨Aa,La,Ca⟩,rfl,aL,dC,dR,dQ,bK⟩
 replace dC:m+1=La:=by rw[hm.o];exact dC.symm
 subst dC;obtain⟨J,aM⟩:∃ J,(Av x.c).length=J:=⟨_,rfl⟩
 replace aL:J=Ln:=by rw[<-aM];exact aL.symm
 subst aL
 have cM:J<=1000000:=by omega
 have gZ:(J:Int)<=1000000:=by omega
 have bG:x.c.ins.length+x.c.lat.length+(Aw x.c.gat).length=J:=by rw[<-aM,Ht]
 rw[Fy,aM]at dR;rw[<-hm.o]at dQ;replace aM:=Ab aM;replace bG:=Ab bG;dsimp only[sv];obtain⟨D,cB,b4,bC⟩:=Bb w3 #[.slice Aa (m+1) Ca] 26;have dY:=q0.below bK q0.lt;have dZ:=q1.below bK q1.lt;have fV:=dY.below bC dY.lt;have cK:=Ab (dZ.below bC dZ.lt);have aH:Below n0 w D:=(dG.trans (bK.mono (by omega))).trans (bC.mono (by have:=bK.size;omega));have HC:=Ab (AgE ⟨⟨A1,M1,C1⟩,⟨A2,M2,C2⟩,⟨A3,M3,C3⟩,⟨A4,M4,C4⟩,⟨A5,M5,C5⟩,⟨A6,M6,C6⟩,⟨A7,M7,C7⟩,dA⟩ x D (hr.below aH (Nat.le_of_eq dP)) hl);rw[<-hm.o]at HC;simp only[Ae]at HC
 have eS:Hid (∀W,Below D.heap.size D W->Rd W Aa (m+1) (zvs (atF m (Av x.c)))):=Ab (λW hb=>by
  obtain⟨A',c',hv,_,_,hr⟩:=Rd.of_own (show w3.ownsRow _ 3 1 (.slice Aa (m+1) Ca) (m+1) _ from dQ);injection hv with e1 e2 _;rw[e1]
  exact(hr.below bC (Nl _)).below hb (Nl _))
 have fB:Hid (∀W,Below D.heap.size D W->RdS W An J 2 (Gz (Ei x.c))):=Ab (λW hb=>by
  obtain⟨A',c',hv,_,_,hr⟩:=RdS.of_own (show w3.ownsRow _ 93 2 (.slice An J Cn) J _ from dR);injection hv with e1 e2 _;rw[e1]
  exact(hr.below bC (Nl _)).below hb (Nl _))
 obtain⟨ab,dE⟩:∃ ab,w3.heap.size=ab:=⟨_,rfl⟩;rw[dE]at b4
 have dD:Hid (∀W,Below D.heap.size D W->∀y,(y<2∨y-y%2∈Dd x.c)->y<=2*m+1->Calls Tryz.prog 32 #[.int .i64 (y:Nat),.pointer (some ⟨ab,0,none⟩)] W λe w'=>e= .returned (.int .i64 (ofC x.c y:Nat))/\w'=W):=
  Ab (λW hb y hy hS=>AoY x.c (Av x.c) [] y m ab ⟨Aa,m+1,Ca⟩ W (b4.below hb b4.lt) (eS.o W hb) (by simp) (Ami hgc hy) (by omega) dO (by rw[aM.o];omega))
 obtain⟨d0,d1,d2,d3,d4,d5,d6,d7,d8⟩:=c9d fV;have cQ:=Ab dE;replace aH:=Ab aH;have gI:∀ (fn:Fn) (first cap:Array Value) (w:World),(Instr.makeFunc fn first cap).run Tryz.prog w= .ok (.func fn first cap) w:=λ_ _ _ _=>rfl;replace cB:=Ab cB;clear HN dR dQ bK bC dY dZ fV q0 q1 c0 c1 c2 c3 c4 c5 c6 c7 c8 dE gM dG
 go_upto_region 2 with fail
 rw[cB.o,cQ.o];clear cB cQ
 go_wp2_with fail
 refine HC.o.mono ?_;rintro e w5 ⟨⟨⟨B1,eA,E1⟩,⟨B2,eB,E2⟩,⟨B3,eC,E3⟩,⟨B4,eD,E4⟩,⟨B5,eE,E5⟩,⟨B6,eF,E6⟩,⟨B7,eG,E7⟩,bF⟩,rfl,R,I,bL⟩;rw[<-hm.o];simp only[Ae];clear HC d0 d1 d2 d3 d4 d5 d6 d7 d8 gI;have gD:Hid (bF=bstr x.com):=Ab R.com;obtain⟨l,bR⟩:∃ l:Cv,l=⟨⟨B1,eA,E1⟩,⟨B2,eB,E2⟩,⟨B3,eC,E3⟩,⟨B4,eD,E4⟩,⟨B5,eE,E5⟩,⟨B6,eF,E6⟩,⟨B7,eG,E7⟩,bF⟩:=⟨_,rfl⟩;rw[<-bR]at R I;obtain⟨W6,eQ,b6,cC⟩:=Bb w5 #[.int .i64 (m:Nat),sv l.ins,sv l.lat,sv l.outs,sv l.bads,sv l.cons,sv l.gat,sv l.sym,.string l.com] 31;obtain⟨ob,cJ⟩:∃ ob,w5.heap.size=ob:=⟨_,rfl⟩
 have fC:D.heap.size<=ob:=by rw[<-cJ];exact bL.size
 rw[cJ]at b6;have e0:=b6.cell 0;have z0:=b6.frozen 0;have e6:=b6.cell 6;have z6:=b6.frozen 6;have bP:=R.below cC;have f7:Fr (λq=>q=ob) W6 ((W6.setCell ⟨ob,0,none⟩ (.int .i64 (J:Nat))).setCell ⟨ob,6,none⟩ (.slice none 0 0)):=((Fr.refl (λq=>q=ob) W6).set (p:=⟨ob,0,none⟩) rfl _).set (p:=⟨ob,6,none⟩) rfl _;have b7:=(b6.set_ 0 (.int .i64 (J:Nat))).set_ 6 (.slice none 0 0);have U:=bP.fr f7 (λk e=> .inr ⟨31,_,e▸b6,by decide,by decide,by decide,by decide⟩);obtain⟨W7,bI⟩:∃ W7,(W6.setCell ⟨ob,0,none⟩ (.int .i64 (J:Nat))).setCell ⟨ob,6,none⟩ (.slice none 0 0)=W7:=⟨_,rfl⟩;rw[bI]at f7 b7 U
 have fZ:Hid (∀j k,j<4->k<4->j≠k->Eu (sv (SL l j)) (sv (SL l k))):=Ab (by
  refine four (P:=λj=>∀ k,k<4->j≠k->Eu (sv (SL l j)) (sv (SL l k))) ?_ ?_ ?_ ?_ |> λh j k hj hk cH=>h j hj k hk cH
  ·exact four (λh=>absurd rfl h) (λ_=>I.oi.symm) (λ_=>I.bi.symm) (λ_=>I.ci.symm)
  ·exact four (λ_=>I.oi) (λh=>absurd rfl h) (λ_=>I.bo.symm) (λ_=>I.co.symm)
  ·exact four (λ_=>I.bi) (λ_=>I.bo) (λh=>absurd rfl h) (λ_=>I.cb.symm)
  exact four (λ_=>I.ci) (λ_=>I.co) (λ_=>I.cb) (λh=>absurd rfl h))
 have bA:Hid (Hn D.heap.size D ob J l Ap x.sym (LK (ofC x.c) x.c 0 0) x.c.lat (Dx x.c 0) W7):=by
  rw[Aed];refine Ab ⟨by simpa using b7,?_,U.c.lat,?_,U.sym,?_,fC⟩
  ·exact four U.c.ins U.c.outs U.c.bads U.c.cons
  ·have:Dx x.c 0= []:=by unfold Dx;simp
   rw[this];exact Bd
  exact(bL.trans (cC.mono bL.size)).trans (f7.below (Nat.le_trans bL.size cC.size) (λq e=>by omega))
 have cO:Hid (w5.alloc (.cells #[.int .i64 (m:Nat),.slice B1 eA E1,.slice B2 eB E2,.slice B3 eC E3,.slice B4 eD E4,.slice B5 eE E5,.slice B6 eF E6,.slice B7 eG E7,.string bF] 31)=W6):=Ab (by rw[<-eQ,bR]);have cY:=Ab cJ;replace bI:=Ab bI;have dM:Hid (l.ins.n=x.c.ins.length/\l.lat.n=x.c.lat.length/\l.outs.n=x.c.outs.length/\l.bads.n=x.c.bads.length/\l.cons.n=x.c.cons.length):=Ab ⟨R.rd.nIns,R.rd.nLat,R.rd.nOuts,R.rd.nBads,R.rd.nCons⟩;replace bR:=Ab bR;clear R I bL eQ cC bP f7 b7 U cJ b6
 go_upto_region 4 with fail
 rw[cO.o,cY.o];clear cO cY
 go_upto_region 5 with fail
 rw[bI.o];clear bI e0 z0 e6 z6
 have fA:(m:Int)<=16777216:=by omega
 replace dO:=Ab dO;replace fI:=Ab fI;replace fK:=Ab fK;replace cM:=Ab cM;have c1:W7.cell? ⟨ob,1,none⟩=some (.slice l.ins.A l.ins.n l.ins.c):=bA.o.o.cell 1;have c3:W7.cell? ⟨ob,3,none⟩=some (.slice l.outs.A l.outs.n l.outs.c):=bA.o.o.cell 3;have c4:W7.cell? ⟨ob,4,none⟩=some (.slice l.bads.A l.bads.n l.bads.c):=bA.o.o.cell 4;have c5:W7.cell? ⟨ob,5,none⟩=some (.slice l.cons.A l.cons.n l.cons.c):=bA.o.o.cell 5;obtain⟨ls,cG⟩:∃ ls:Array Value,#[.slice l.ins.A l.ins.n l.ins.c,.slice l.outs.A l.outs.n l.outs.c,.slice l.bads.A l.bads.n l.bads.c,.slice l.cons.A l.cons.n l.cons.c]=ls:=⟨_,rfl⟩;obtain⟨W8,eR,b8,eT⟩:=Bb W7 ls 26;have eZ:Hid (∀k,k<4->ls[k]?=some (sv (SL l k))):=Ab (by rw[<-cG];exact four rfl rfl rfl rfl);have eO:=Ab (bA.o.after eT);obtain⟨lb,bN⟩:∃ lb,W7.heap.size=lb:=⟨_,rfl⟩;rw[bN]at b8;have eH:=Ab b8;have cP:Hid (W7.alloc (.cells #[.slice l.ins.A l.ins.n l.ins.c,.slice l.outs.A l.outs.n l.outs.c,.slice l.bads.A l.bads.n l.bads.c,.slice l.cons.A l.cons.n l.cons.c] 26)=W8):=Ab (by rw[cG,eR]);replace cG:=Ab cG;replace bN:=Ab bN;clear b8 eT eR bA;go_wp2;rw[cP.o,bN.o];clear cP c1 c3 c4 c5 bN
 go_loopw [38] (λi wr=>∃ k:Nat,i= .int .i64 k/\k<=4/\Hid (Hn D.heap.size D ob J l Ap x.sym (LK (ofC x.c) x.c k 0) (x.c.lat) (Dx x.c 0) wr)/\Hid (Blk wr lb 26 ls)) (λi _=>4-(intOf i).toNat)
 case atStart=>exact⟨0,rfl,Nat.zero_le _,eO,eH⟩
 case round=>
  clear eO eH;obtain⟨k,rfl,hk,X,hB⟩:=hrel
  by_cases O:k<4
  ·have aQ:(k:Int)<4:=by omega
   have dI:=(hB.o.cell k).trans (eZ.o k O);obtain⟨⟨Sa,Sn,Sc⟩,hs⟩:∃ s,SL l k=s:=⟨_,rfl⟩;rw[hs]at dI;have aU:=X.o.rows k O;rw[hs]at aU
   have bB:Sn=(L0 x.c k).length:=by
    have h1:Sn=_:=Et aU;rw[h1];unfold LK;rw[if_neg (Nat.lt_irrefl k),if_pos rfl,Acz]
   have cN:=AoJ hl O;rw[<-bB]at cN
   have hA:(Sn:Int)<=16777216:=by omega
   clear cN;have eP:=X;have eJ:=hB;replace bB:=Ab bB;replace hs:=Ab hs;dsimp only[sv]at dI;clear aU X hB;go_wp2;clear dI
   go_loopw [44] (λi wr=>∃ q:Nat,i= .int .i64 q/\q<=Sn/\Hid (Hn D.heap.size D ob J l Ap x.sym (LK (ofC x.c) x.c k q) (x.c.lat) (Dx x.c 0) wr)/\Hid (Blk wr lb 26 ls)) (λi _=>Sn-(intOf i).toNat)
   case atStart=>exact⟨0,rfl,Nat.zero_le _,eP,eJ⟩
   case round=>
    clear eP eJ;obtain⟨q,rfl,hq,X,hB⟩:=hrel
    by_cases cZ:q<Sn
    ·have gK:(q:Int)<Sn:=by omega
     have fD:q<(L0 x.c k).length:=by rw[<-bB.o];exact cZ
     have hy:=List.getElem?_eq_getElem fD;obtain⟨y,bV⟩:∃ y,(L0 x.c k)[q]=y:=⟨_,rfl⟩;rw[bV]at hy;obtain⟨bD,bE⟩:=Anb hgc O y (List.mem_of_getElem? hy)
     have bH:LK (ofC x.c) x.c k q k=Iq (ofC x.c) (L0 x.c k) q:=by unfold LK;rw[if_neg (Nat.lt_irrefl k),if_pos rfl]
     have aJ:=X.o.rows k O;rw[bH,Acz,<-bB.o,hs.o]at aJ;obtain⟨g,gG⟩:=ApN aJ (by omega);injection gG with hSa hx1 hx2;clear hx1 hx2;subst hSa;have hP:wr.cell? ⟨g,q,none⟩=some (.int .i64 (y:Nat)):=Go.Lt.Jp (show wr.ownsRow D.heap.size 3 1 (.slice (some ⟨g,0,none⟩) Sn Sc) Sn _ from aJ) (by unfold nvs;rw[List.getElem?_map,Xi hy];rfl);have hQ:wr.frozen? ⟨g,q,none⟩=false:=Lv (show wr.ownsRow D.heap.size 3 1 (.slice (some ⟨g,0,none⟩) Sn Sc) Sn _ from aJ) q;have HO:=Ab (dD.o wr X.o.bel y bD (by rw[hm.o];exact bE))
     have aE:=Ab (X.o.setRow (L':=LK (ofC x.c) x.c k (q+1)) (i:=q) (y:=ofC x.c y) fZ.o O hs.o (by
      rw[bH];unfold LK;rw[if_neg (Nat.lt_irrefl k),if_pos rfl]
      exact(Ack hy).symm) (λk' cH=>by
      unfold LK
      by_cases h1:k'<k
      ·rw[if_pos h1,if_pos h1]
      rw[if_neg h1,if_neg h1,if_neg cH,if_neg cH]))
     have cL:=Ba aJ hB.o (by decide);have eI:=Ab (hB.o.far (p:=⟨g,q,none⟩) (λe=>cL (by rw[e];rfl)) (.int .i64 (ofC x.c y:Nat)))
     have hR:(y:Int)<=40000000:=by have:=hm.o;omega
     obtain⟨r,fE⟩:∃ r,ofC x.c y=r:=⟨_,rfl⟩;rw[fE]at HO aE eI;clear hy bV bD bE bH aJ X hB cL fE fD
     go_wp2_with (go_at_call 32;refine HO.o.mono ?_;rintro e w9 ⟨rfl,rfl⟩)
     go_roundw
     case rel=>exact⟨q+1,by go_num,cZ,aE,eI⟩
     case measure=>simp[intOf];omega
    obtain rfl:Sn=q:=by omega
    have gK:¬ (Sn:Int)<Sn:=by omega
    have aE:Hid (Hn D.heap.size D ob J l Ap x.sym (LK (ofC x.c) x.c (k+1) 0) (x.c.lat) (Dx x.c 0) wr):=Ab (by
     have h:=X.o;rw[AoV (by rw[bB.o];exact Nl _)]at h
     exact h)
    clear X;go_wp2;go_roundw
    case rel=>exact⟨k+1,by go_num,O,aE,hB⟩
    case measure=>simp[intOf];omega
  have dL:k=4:=by omega
  have aQ:¬ (k:Int)<4:=by omega
  have eN:Hid (Hn D.heap.size D ob J l Ap x.sym (LK (ofC x.c) x.c 4 0) (Iq (AbJ x.c) x.c.lat 0) (Dx x.c 0) wr):=Ab (by
   have h:=X.o;rw[dL]at h;rw[Aaq]
   exact h)
  have c2:wr.cell? ⟨ob,2,none⟩=some (.slice l.lat.A l.lat.n l.lat.c):=X.o.o.cell 2;replace dL:=Ab dL;clear X hB O hk;obtain⟨⟨La,Ln,Lc⟩,F⟩:∃ s,l.lat=s:=⟨_,rfl⟩
  have aL:Ln=x.c.lat.length:=by have:=dM.o.2.1;rw[F]at this;exact this
  simp only[F]at c2;have eK:=hl.lat
  have gY:(Ln:Int)<=16777216:=by omega
  replace F:=Ab F;replace aL:=Ab aL;clear eK;go_wp2;clear c2
  go_loopw [60] (λi wr=>∃ k:Nat,i= .int .i64 k/\k<=Ln/\Hid (Hn D.heap.size D ob J l Ap x.sym (LK (ofC x.c) x.c 4 0) (Iq (AbJ x.c) x.c.lat k) (Dx x.c 0) wr)) (λi _=>Ln-(intOf i).toNat)
  case atStart=>exact⟨0,rfl,Nat.zero_le _,eN⟩
  case round=>
   clear eN;obtain⟨k,rfl,hk,X⟩:=hrel
   by_cases O:k<Ln
   ·have aQ:(k:Int)<Ln:=by omega
    have hy:=List.getElem?_eq_getElem (show k<x.c.lat.length by rw[<-aL.o];exact O);obtain⟨y,bV⟩:∃ y,(x.c.lat)[k]'(by rw[<-aL.o];exact O)=y:=⟨_,rfl⟩;rw[bV]at hy;have cF:=Xi (f:=AbJ x.c) hy;obtain⟨g,eV,p0,z0⟩:=X.o.latCell (i:=0) cF rfl;obtain⟨g',cS,p1,z1⟩:=X.o.latCell (i:=1) cF rfl;obtain⟨hL,bM,p2,z2⟩:=X.o.latCell (i:=2) cF rfl;rw[F.o]at eV cS bM;injection eV with hA1 hx1 hx2;injection cS with hA2 hx3 hx4;injection bM with hA3 hx5 hx6;subst hA1;injection hA2 with hA2;injection hA2 with hA2 hx7 hx8;subst hA2;injection hA3 with hA3;injection hA3 with hA3 hx9 hx10;subst hA3;clear hx1 hx2 hx3 hx4 hx5 hx6;have dV:=hgc.own _ (Em (List.mem_of_getElem? hy));have bD:y.a<2∨y.a-y.a%2∈Dd x.c:= .inr (by rw[dV.2.1,Nat.sub_zero];exact Em (List.mem_of_getElem? hy));have bE:=Du hgc (Fo (List.mem_of_getElem? hy));have fJ:=hgc.used _ (Fo (List.mem_of_getElem? hy));have aK:=Ack (f:=AbJ x.c) hy;obtain⟨W5,aB,b5,aI⟩:=Bb wr #[.int .i64 (y.a:Nat),.int .i64 (y.b:Nat),.int .i64 (y.c:Nat)] 59;have Y:=X.o.after aI;have aC:g<wr.heap.size:=(Dm X.o.latr (by rw[F.o];rfl)).2;have cE:g≠ob:=λe=>Ba X.o.latr X.o.o (by decide) (by rw[F.o,<-e];rfl);have g0:wr.cell? ⟨g,k*3,none⟩=some (.int .i64 (y.a:Nat)):=p0;have g1:wr.cell? ⟨g,k*3+1,none⟩=some (.int .i64 (y.b:Nat)):=p1;have g2:wr.cell? ⟨g,k*3+2,none⟩=some (.int .i64 (y.c:Nat)):=p2;clear p0 p1 p2 z0 z1 z2 X bV;obtain⟨ya,bS⟩:∃ ya,y.a=ya:=⟨_,rfl⟩;obtain⟨yb,bT⟩:∃ yb,y.b=yb:=⟨_,rfl⟩;obtain⟨yc,bU⟩:∃ yc,y.c=yc:=⟨_,rfl⟩
    have fL:y=⟨ya,yb,yc⟩:=by rw[<-bS,<-bT,<-bU]
    have u0:W5.cell? ⟨wr.heap.size,0,none⟩=some (.int .i64 (ya:Nat)):=by rw[<-bS];exact b5.cell 0
    have u1:W5.cell? ⟨wr.heap.size,1,none⟩=some (.int .i64 (yb:Nat)):=by rw[<-bT];exact b5.cell 1
    have u2:W5.cell? ⟨wr.heap.size,2,none⟩=some (.int .i64 (yc:Nat)):=by rw[<-bU];exact b5.cell 2
    rw[bS,bT,bU]at aB;rw[bS]at g0 bD dV;rw[bT]at g1 bE fJ;rw[bU]at g2;rw[fL]at hy aK
    have c2:W5.cell? ⟨ob,2,none⟩=some (.slice (some ⟨g,0,none⟩) Ln Lc):=by have:=Y.o.cell 2;simpa[F.o] using this
    have hG:(ya:Int)<=40000000:=by have:=hm.o;omega
    have hI:(yb:Int)<=40000000:=by have:=hm.o;omega
    have bZ:Hid (∀W,Below D.heap.size D W->Calls Tryz.prog 32 #[.int .i64 (ya:Nat),.pointer (some ⟨ab,0,none⟩)] W λe w'=>e= .returned (.int .i64 (ofC x.c ya:Nat))/\w'=W):=Ab (λW hb=>dD.o W hb ya bD (by have:=hm.o;omega));have dB:Hid (∀W,Below D.heap.size D W->Calls Tryz.prog 32 #[.int .i64 (yb:Nat),.pointer (some ⟨ab,0,none⟩)] W λe w'=>e= .returned (.int .i64 (ofC x.c yb:Nat))/\w'=W):=Ab (λW hb=>dD.o W hb yb bE (by have:=hm.o;omega));obtain⟨ra,dT⟩:∃ ra,ofC x.c ya=ra:=⟨_,rfl⟩;obtain⟨rb,dU⟩:∃ rb,ofC x.c yb=rb:=⟨_,rfl⟩;rw[dT]at bZ;rw[dU]at dB
    have eX:AbJ x.c ⟨ya,yb,yc⟩=⟨ra,rb,if yc=ya then ra else yc⟩:=by unfold AbJ;dsimp only;rw[dT,dU]
    rw[eX]at aK;have aO:(Iq (AbJ x.c) x.c.lat k)[k]?=some ⟨ya,yb,yc⟩:=Xi hy;obtain⟨lk,eY⟩:∃ lk,Iq (AbJ x.c) x.c.lat k=lk:=⟨_,rfl⟩;rw[eY]at Y aK aO;have Z:k<lk.length:=(List.getElem?_eq_some_iff.1 aO).1;replace aK:=Ab aK;replace aB:=Ab aB;have Y:=Ab Y;have aC:=Ab aC;have cE:=Ab cE;clear hy cF bD bE fJ dV bS bT bU fL dT dU eX b5 aI eY
    go_upto_region 17 with fail
    rw[aB.o];clear aB g0 g1 g2;obtain⟨bx,dH⟩:∃ bx,wr.heap.size=bx:=⟨_,rfl⟩;rw[dH]at u0 u1 u2 aC ⊢;replace dH:=Ab dH
    have aN:Hid (∀(rc:Nat) (W:World),rc=(if yc=ya then ra else yc)->Hn D.heap.size D ob J l Ap x.sym (LK (ofC x.c) x.c 4 0) (lk.set k ⟨ya,yb,rc⟩) (Dx x.c 0) W->Hid (Hn D.heap.size D ob J l Ap x.sym (LK (ofC x.c) x.c 4 0) (Iq (AbJ x.c) x.c.lat (k+1)) (Dx x.c 0) ((W.setCell ⟨g,k*3,none⟩ (.int .i64 (ra:Nat))).setCell ⟨g,k*3+1,none⟩ (.int .i64 (rb:Nat))))):=Ab (λrc W gL h=>Ab (by
     have hv:=F.o;have k1:=h.setLat (k:=k) (i:=0) (x:=⟨ya,yb,rc⟩) (y:=⟨ra,yb,rc⟩) (z:=ra) hv (by rw[List.getElem?_set,if_pos rfl,if_pos Z]) (by decide) rfl;have k2:=k1.setLat (k:=k) (i:=1) (x:=⟨ra,yb,rc⟩) (y:=⟨ra,rb,rc⟩) (z:=rb) hv (by rw[List.set_set,List.getElem?_set,if_pos rfl,if_pos Z]) (by decide) rfl;rw[List.set_set,List.set_set,gL,aK.o]at k2
     exact k2))
    by_cases fF:yc=ya
    ·subst fF;rw[if_pos rfl]at aN;go_wp2;have aZ:=Y.o.after ((Dr.refl W5).drew.below _);have aS:=Ab aZ.bel;obtain⟨dX,gW⟩:=aZ.latCell2 (i:=2) F.o aO rfl;have E:Hid (g≠bx):=Ab (by have:=aC.o;omega);have aA:=cE;have dX:W5.drew.cell? ⟨g,k*3+2,none⟩=some (.int .i64 (yc:Nat)):=dX;refine wp_region_held_drew (S:=λW'=>W'.cell? ⟨bx,0,none⟩=some (.int .i64 (yc:Nat))/\W'.cell? ⟨bx,1,none⟩=some (.int .i64 (yb:Nat))/\W'.cell? ⟨ob,2,none⟩=some (.slice (some ⟨g,0,none⟩) Ln Lc)) (by kernel_rfl) (⟨u0,u1,c2⟩) (λB=>?_);refine tk 0 (h:=tk 1 (h:=tk 2 (h:=tk 3 (h:=tk 4 (h:=tk 5 (h:=?_))))));refine rd1 6 λK hK=>?_;go_simp
     go_wp2_with (go_at_call 32;refine(bZ.o _ aS.o).mono ?_;rintro e w9 ⟨rfl,rfl⟩)
     refine hK.o _ _ (⟨u0,u1,c2⟩) (λB=>?_);refine tk 7 (h:=tk 8 (h:=?_));refine rd1 9 λK hK=>?_;go_simp;refine hK.o _ _ (⟨(Dp E.o).trans u0,(Dp E.o).trans u1,(Dp aA.o).trans c2⟩) (λB=>?_);clear hK K
     try simp only[Act.put,pt]
     refine wpAnyH_done (by kernel_rfl) ?_ _;have eM:Hid (Hn D.heap.size D ob J l Ap x.sym (LK (ofC x.c) x.c 4 0) (lk.set k ⟨yc,yb,ra⟩) (Dx x.c 0) (W5.setCell ⟨g,k*3+2,none⟩ (.int .i64 (ra:Nat))).drew):=Ab (aZ.setLat (k:=k) (i:=2) (x:=⟨yc,yb,yc⟩) (y:=⟨yc,yb,ra⟩) (z:=ra) F.o aO (by decide) rfl);have v0:=B.1;have v1:=B.2.1;have bY:=B.2.2;generalize (W5.setCell ⟨g,k*3+2,none⟩ (.int .i64 (ra:Nat))).drew=Wx at*;clear B u0 u1 c2 dX gW aZ Y;go_wp2;have aF:=eM.o.after ((Dr.refl Wx).drew.below _);have aS:=Ab aF.bel;obtain⟨aV,aW⟩:=aF.latCell2 (i:=0) F.o (by rw[List.getElem?_set,if_pos rfl,if_pos Z]) rfl;obtain⟨aX,aY⟩:=aF.latCell2 (i:=1) F.o (by rw[List.getElem?_set,if_pos rfl,if_pos Z]) rfl;have aV:Wx.cell? ⟨g,k*3,none⟩=some (.int .i64 (yc:Nat)):=aV;have aW:Wx.frozen? ⟨g,k*3,none⟩=false:=aW;have aX:(Wx.setCell ⟨g,k*3,none⟩ (.int .i64 (ra:Nat))).cell? ⟨g,k*3+1,none⟩=some (.int .i64 (yb:Nat)):=(cell_far (by omega)).trans aX
     have aY:(Wx.setCell ⟨g,k*3,none⟩ (.int .i64 (ra:Nat))).frozen? ⟨g,k*3+1,none⟩=false:=by rw[World.frozen?_setCell];exact aY
     have hN:Hid (Hn D.heap.size D ob J l Ap x.sym (LK (ofC x.c) x.c 4 0) (Iq (AbJ x.c) x.c.lat (k+1)) (Dx x.c 0) ((Wx.setCell ⟨g,k*3,none⟩ (.int .i64 (ra:Nat))).setCell ⟨g,k*3+1,none⟩ (.int .i64 (rb:Nat))).drew):=aN.o _ Wx.drew rfl aF;clear aF;refine wp_region_held_drew (S:=λW'=>W'.cell? ⟨bx,0,none⟩=some (.int .i64 (yc:Nat))/\W'.cell? ⟨bx,1,none⟩=some (.int .i64 (yb:Nat))/\W'.cell? ⟨ob,2,none⟩=some (.slice (some ⟨g,0,none⟩) Ln Lc)) (by kernel_rfl) (⟨v0,v1,bY⟩) (λB=>?_);refine tk 0 (h:=tk 1 (h:=tk 2 (h:=tk 3 (h:=tk 4 (h:=tk 5 (h:=tk 6 (h:=tk 7 (h:=tk 8 (h:=tk 10 (h:=tk 11 (h:=tk 12 (h:=?_))))))))))));refine rd1 9 λK hK=>?_;go_simp
     go_wp2_with (go_at_call 32;refine(bZ.o _ aS.o).mono ?_;rintro e w9 ⟨rfl,rfl⟩)
     refine hK.o _ _ (⟨v0,v1,bY⟩) (λB=>?_);clear hK K
     try simp only[Act.put,pt]
     refine rd1 13 λK hK=>?_;go_simp
     go_wp2_with (go_at_call 32;refine(dB.o _ aS.o).mono ?_;rintro e w9 ⟨rfl,rfl⟩)
     refine hK.o _ _ (⟨v0,v1,bY⟩) (λB=>?_);refine tk 14 (h:=tk 15 (h:=?_));refine rd1 16 λK hK=>?_;go_simp;refine hK.o _ _ (⟨(Dp E.o).trans v0,(Dp E.o).trans v1,(Dp aA.o).trans bY⟩) (λB=>?_);refine tk 17 (h:=tk 18 (h:=?_));refine rd1 19 λK hK=>?_;go_simp;refine hK.o _ _ (⟨(Dp E.o).trans ((Dp E.o).trans v0),(Dp E.o).trans ((Dp E.o).trans v1),(Dp aA.o).trans ((Dp aA.o).trans bY)⟩) (λB=>?_);clear hK K
     try simp only[Act.put,pt]
     refine wpAnyH_done (by kernel_rfl) ?_ _;clear B aV aW aX aY;go_wp2;go_roundw
     case rel=>exact⟨k+1,by go_num,O,hN⟩
     case measure=>simp[intOf];omega
    have fG:¬ (yc:Int)=ya:=by omega
    have hE:((yc:Int)==(ya:Int))=false:=by simpa using fG
    rw[if_neg fF]at aN;go_wp2;have fY:=Ab (show Hn D.heap.size D ob J l Ap x.sym (LK (ofC x.c) x.c 4 0) (lk.set k ⟨ya,yb,yc⟩) (Dx x.c 0) W5 from by rw[AkV aO];exact Y.o);have E:Hid (g≠bx):=Ab (by have:=aC.o;omega);have aA:=cE;clear Y;have aF:=fY.o.after ((Dr.refl W5).drew.below _);have aS:=Ab aF.bel;obtain⟨aV,aW⟩:=aF.latCell2 (i:=0) F.o (by rw[List.getElem?_set,if_pos rfl,if_pos Z]) rfl;obtain⟨aX,aY⟩:=aF.latCell2 (i:=1) F.o (by rw[List.getElem?_set,if_pos rfl,if_pos Z]) rfl;have aV:W5.cell? ⟨g,k*3,none⟩=some (.int .i64 (ya:Nat)):=aV;have aW:W5.frozen? ⟨g,k*3,none⟩=false:=aW;have aX:(W5.setCell ⟨g,k*3,none⟩ (.int .i64 (ra:Nat))).cell? ⟨g,k*3+1,none⟩=some (.int .i64 (yb:Nat)):=(cell_far (by omega)).trans aX
    have aY:(W5.setCell ⟨g,k*3,none⟩ (.int .i64 (ra:Nat))).frozen? ⟨g,k*3+1,none⟩=false:=by rw[World.frozen?_setCell];exact aY
    have hN:Hid (Hn D.heap.size D ob J l Ap x.sym (LK (ofC x.c) x.c 4 0) (Iq (AbJ x.c) x.c.lat (k+1)) (Dx x.c 0) ((W5.setCell ⟨g,k*3,none⟩ (.int .i64 (ra:Nat))).setCell ⟨g,k*3+1,none⟩ (.int .i64 (rb:Nat))).drew):=aN.o _ W5.drew rfl aF;clear aF;refine wp_region_held_drew (S:=λW'=>W'.cell? ⟨bx,0,none⟩=some (.int .i64 (ya:Nat))/\W'.cell? ⟨bx,1,none⟩=some (.int .i64 (yb:Nat))/\W'.cell? ⟨ob,2,none⟩=some (.slice (some ⟨g,0,none⟩) Ln Lc)) (by kernel_rfl) (⟨u0,u1,c2⟩) (λB=>?_);refine tk 0 (h:=tk 1 (h:=tk 2 (h:=tk 3 (h:=tk 4 (h:=tk 5 (h:=tk 6 (h:=tk 7 (h:=tk 8 (h:=tk 10 (h:=tk 11 (h:=tk 12 (h:=?_))))))))))));refine rd1 9 λK hK=>?_;go_simp
    go_wp2_with (go_at_call 32;refine(bZ.o _ aS.o).mono ?_;rintro e w9 ⟨rfl,rfl⟩)
    refine hK.o _ _ (⟨u0,u1,c2⟩) (λB=>?_);clear hK K
    try simp only[Act.put,pt]
    refine rd1 13 λK hK=>?_;go_simp
    go_wp2_with (go_at_call 32;refine(dB.o _ aS.o).mono ?_;rintro e w9 ⟨rfl,rfl⟩)
    refine hK.o _ _ (⟨u0,u1,c2⟩) (λB=>?_);refine tk 14 (h:=tk 15 (h:=?_));refine rd1 16 λK hK=>?_;go_simp;refine hK.o _ _ (⟨(Dp E.o).trans u0,(Dp E.o).trans u1,(Dp aA.o).trans c2⟩) (λB=>?_);refine tk 17 (h:=tk 18 (h:=?_));refine rd1 19 λK hK=>?_;go_simp;refine hK.o _ _ (⟨(Dp E.o).trans ((Dp E.o).trans u0),(Dp E.o).trans ((Dp E.o).trans u1),(Dp aA.o).trans ((Dp aA.o).trans c2)⟩) (λB=>?_);clear hK K
    try simp only[Act.put,pt]
    refine wpAnyH_done (by kernel_rfl) ?_ _;clear B aV aW aX aY;go_wp2;go_roundw
    case rel=>exact⟨k+1,by go_num,O,hN⟩
    case measure=>simp[intOf];omega
   obtain rfl:Ln=k:=by omega
   have aQ:¬ (Ln:Int)<Ln:=by omega
   have aE:Hid (Hn D.heap.size D ob J l Ap x.sym (LK (ofC x.c) x.c 4 0) ((Ak x.c).lat) (Dx x.c 0) wr):=Ab (by
    have h:=X.o;rw[AcC (show x.c.lat.length<=Ln by rw[aL.o];exact Nl _)]at h
    exact h)
   clear X;have eL:=aE;have gJ:=fB;clear aE;go_wp2
   go_loopw [100] (λi wr=>∃ (k:Nat) (gs:Sl),i= .int .i64 k/\k<=J/\Hid (Hn D.heap.size D ob J l gs x.sym (LK (ofC x.c) x.c 4 0) ((Ak x.c).lat) (Dx x.c k) wr)) (λi _=>J-(intOf i).toNat)
   case atStart=>exact⟨0,_,rfl,Nat.zero_le _,eL⟩
   case round=>
    clear eL;obtain⟨k,gs,rfl,hk,X⟩:=hrel
    by_cases O:k<J
    ·have aQ:(k:Int)<J:=by omega
     obtain⟨hJ,z,fX,hz,g0,g1⟩:=Aix (gJ.o wr X.o.bel) O;obtain⟨W5,aB,b5,aI⟩:=Bb wr #[.int .i64 z.1,.int .i64 z.2] 93;have Y:=Ab (X.o.after aI);have u0:=b5.cell 0;have u1:=b5.cell 1;replace aB:=Ab aB;subst fX
     by_cases dK:k<x.c.ins.length+x.c.lat.length
     ·have aR:=Jy (c:=x.c) dK;rw[hz]at aR;obtain rfl:=Option.some.inj aR;have aE:Hid (Hn D.heap.size D ob J l gs x.sym (LK (ofC x.c) x.c 4 0) ((Ak x.c).lat) (Dx x.c (k+1)) W5):=Ab (by rw[AlU dK];exact Y.o);clear X Y hz aR b5 aI u1;dsimp only at*
      go_upto_region 24 with fail
      rw[aB.o];clear aB g0 g1;go_wp2;go_roundw
      case rel=>exact⟨k+1,gs,by go_num,O,aE⟩
      case measure=>simp[intOf];omega
     obtain⟨j,hj⟩:∃ j,k=x.c.ins.length+x.c.lat.length+j:=⟨k-(x.c.ins.length+x.c.lat.length),by omega⟩
     have eW:j<(Aw x.c.gat).length:=by have:=bG.o;omega
     have bO:=List.getElem?_eq_getElem eW;have aR:=Nh (c:=x.c) bO;have aC:=AiW hgc bO;rw[<-hj]at aR aC;rw[hz]at aR;have dW:=Option.some.inj aR;unfold AcS at dW;have cT:=of_low hgc bO (.inl rfl);have cV:=of_low hgc bO (.inr rfl);obtain⟨r1,dS⟩:∃ r1,ofC x.c (x.c.gat.getD ((Aw x.c.gat)[j]) z3).b=r1:=⟨_,rfl⟩;obtain⟨r2,bQ⟩:∃ r2,ofC x.c (x.c.gat.getD ((Aw x.c.gat)[j]) z3).c=r2:=⟨_,rfl⟩;rw[dS,bQ]at dW aC;rw[dS]at cT;rw[bQ]at cV;subst dW
     have hU:(r1:Int)<=2000002:=by omega
     have hV:(r2:Int)<=2000002:=by omega
     have hT:(r1:Int)≥0:=by omega
     have dJ:(Dx x.c k).length<=1000000:=by
      unfold Dx;rw[List.length_take,It]
      have:=hgc.all
      have:=hl.gat
      omega
     have fW:=Ab (show(Dx x.c k).length+1<=maxLen by unfold maxLen;omega);have gC:=Ab (show((Dx x.c k).length+1)*24<=140737488355328 by omega);obtain⟨bX,cX⟩:∃ bX,max r1 r2=bX:=⟨_,rfl⟩;obtain⟨bW,cW⟩:∃ bW,min r1 r2=bW:=⟨_,rfl⟩;rw[cX,cW]at aC
     have fA:max (r1:Int) (r2:Int)=(bX:Int):=by omega
     have hD:min (r1:Int) (r2:Int)=(bW:Int):=by omega
     have gE:Hid (n3v ⟨2*k+2,bX,bW⟩= [.int .i64 (2*(k:Int)+2),.int .i64 (bX:Nat),.int .i64 (bW:Nat)]):=Ab (by unfold n3v;congr 2);replace aC:=Ab aC;replace hj:=Ab hj;obtain⟨Ga,Gn,Gc⟩:=gs;have c6:W5.cell? ⟨ob,6,none⟩=some (.slice Ga Gn Gc):=Y.o.o.cell 6;have gF:=Y.o.gatr;have eU:=Y.o.bel;clear X hz aR b5 aI bO cT cV dS bQ dJ eW dK cX cW;dsimp only at u0 u1
     go_upto_region 24 with fail
     rw[aB.o];clear aB g0 g1
     go_wp2_with (at_builtin;refine Ah (v:= .slice Ga Gn Gc) rfl _ _ _ rfl Tryz.underlying28 Vo rfl (by decide) rfl (by first|rfl|simp[go_sem]) gF eU (Nl _) (by rfl) (by simp[Value.oneCell']) fW.o gC.o ?_;intro v9 w9 aT gA gH;rw[<-gE.o]at aT;obtain⟨⟨A9,N9,C9⟩,rfl,fH⟩:=Be aT;dsimp only at fH;subst fH;have bJ:=Y.o.addGat (g9:=⟨A9,(Dx x.c k).length+1,C9⟩) aT gA gH;have c9:=bJ.2.cell 6;have z9:=bJ.2.frozen 6;dsimp only[sv])
     have aE:Hid (Hn D.heap.size D ob J l ⟨A9,(Dx x.c k).length+1,C9⟩ x.sym (LK (ofC x.c) x.c 4 0) ((Ak x.c).lat) (Dx x.c (k+1)) (w9.setCell ⟨ob,6,none⟩ (.slice A9 ((Dx x.c k).length+1) C9))):=Ab (by rw[aC.o];exact bJ.1);go_roundw
     case rel=>exact⟨k+1,_,by go_num,O,aE⟩
     case measure=>simp[intOf];omega
    obtain rfl:J=k:=by omega
    have aQ:¬ (J:Int)<J:=by omega
    have N:Hid (Hn D.heap.size D ob J l gs x.sym (LK (ofC x.c) x.c 4 0) ((Ak x.c).lat) ((Ak x.c).gat) wr):=Ab (by
     have h:=X.o;rw[<-aM.o,Akv]at h;rw[<-aM.o]
     exact h)
    clear X;obtain⟨e0,e1,e2,e3,e4,e5,e6,e7,e8⟩:=c9d N.o.o;have ea:wr.cell? ⟨ab,0,none⟩=some (.slice Aa (m+1) Ca):=(b4.below N.o.bel b4.lt).cell 0;have qr:=cK.o.below N.o.bel cK.o.lt;have gN:=(qr).cell 0;have fM:=(qr).frozen 0;have gO:=(qr).cell 1;have fN:=(qr).frozen 1;have gP:=(qr).cell 2;have fO:=(qr).frozen 2;have gQ:=(qr).cell 3;have fP:=(qr).frozen 3;have gR:=(qr).cell 4;have fQ:=(qr).frozen 4;have gS:=(qr).cell 5;have fR:=(qr).frozen 5;have gT:=(qr).cell 6;have fS:=(qr).frozen 6;have gU:=(qr).cell 7;have fT:=(qr).frozen 7;have gV:=(qr).cell 8;have fU:=(qr).frozen 8;have M:Hid (¬ob=n0+1):=Ab (by have:=cK.o.lt;omega);have dF:Hid (¬ab=n0+1):=Ab (λe=>by have h1:=cK.o;rw[<-e]at h1;exact Af h1 b4 (by decide) rfl);have gX:=Ab qr;clear qr;go_wp2;refine wp_region_held_drew (S:=λW'=>W'.cell? ⟨ob,0,none⟩=some (.int .i64 (J:Nat))/\W'.cell? ⟨ob,1,none⟩=some (.slice l.ins.A l.ins.n l.ins.c)/\W'.cell? ⟨ob,2,none⟩=some (.slice l.lat.A l.lat.n l.lat.c)/\W'.cell? ⟨ob,3,none⟩=some (.slice l.outs.A l.outs.n l.outs.c)/\W'.cell? ⟨ob,4,none⟩=some (.slice l.bads.A l.bads.n l.bads.c)/\W'.cell? ⟨ob,5,none⟩=some (.slice l.cons.A l.cons.n l.cons.c)/\W'.cell? ⟨ob,6,none⟩=some (.slice gs.A gs.n gs.c)/\W'.cell? ⟨ob,7,none⟩=some (.slice l.sym.A l.sym.n l.sym.c)/\W'.cell? ⟨ob,8,none⟩=some (.string l.com)/\W'.cell? ⟨ab,0,none⟩=some (.slice Aa (m+1) Ca)) (by kernel_rfl) (⟨e0,e1,e2,e3,e4,e5,e6,e7,e8,ea⟩) (λB=>?_);refine tk 0 (h:=tk 1 (h:=?_));refine rd1 2 λK hK=>?_;go_simp;have hF:=fr9 (Fr.refl (λq=>q=n0+1) wr) rfl (.int .i64 (J:Nat)) (.slice l.ins.A l.ins.n l.ins.c) (.slice l.lat.A l.lat.n l.lat.c) (.slice l.outs.A l.outs.n l.outs.c) (.slice l.bads.A l.bads.n l.bads.c) (.slice l.cons.A l.cons.n l.cons.c) (.slice gs.A gs.n gs.c) (.slice l.sym.A l.sym.n l.sym.c) (.string l.com);have aD:=hF.trans (Fr.of_below ((Dr.refl _).drew.below _));have f0:=aD.cell e0 M.o;have f1:=aD.cell e1 M.o;have f2:=aD.cell e2 M.o;have f3:=aD.cell e3 M.o;have f4:=aD.cell e4 M.o;have f5:=aD.cell e5 M.o;have f6:=aD.cell e6 M.o;have f7:=aD.cell e7 M.o;have f8:=aD.cell e8 M.o;have fa:=aD.cell ea dF.o;clear hF aD;refine hK.o _ _ (⟨f0,f1,f2,f3,f4,f5,f6,f7,f8,fa⟩) (λB=>?_);refine tk 3 (h:=?_);refine wpAnyH_done (by kernel_rfl) ?_ _;clear B
    have aP:n0<=D.heap.size:=by rw[<-dP];exact aH.o.size
    have R:Lj n0 wr ⟨l.ins,l.lat,l.outs,l.bads,l.cons,gs,l.sym,l.com⟩ ⟨Ak x.c,x.sym,x.com⟩:=by
     have r0:=N.o.rows 0 (by decide);have r1:=N.o.rows 1 (by decide);have r2:=N.o.rows 2 (by decide);have r3:=N.o.rows 3 (by decide);rw[Aed]at r0 r1 r2 r3
     have hc:l.com=bstr x.com:=by rw[bR.o];exact gD.o
     exact⟨⟨Az r0 aP,Az N.o.latr aP,Az r1 aP,Az r2 aP,Az r3 aP,Az N.o.gatr aP⟩,Az N.o.symr aP,hc⟩
    have gB:=aH.o.trans (N.o.bel.mono aP)
    have dN:(J:Int)=((Ak x.c).max:Nat):=by rw[<-aM.o];rfl
    clear gN fM gO fN gP fO gQ fP gR fQ gS fR gT fS gU fT gV fU;go_wp2;exact AnE (s:=⟨Aa,m+1,Ca⟩) dP gB gX.o rfl (by rw[dN]) R rfl rfl
def Vi (x:Bp) (w:World) (e:Ending) (w':World):Prop:=∃ v',e= .returned (.agg (Ae (Ak x.c).max v'))/\RdC w' v' ⟨Ak x.c,[],[]⟩/\Below w.heap.size w w'
theorem Ajx {x:Bp} {n0:Nat} {w W j:World} {tmps:Array Value} {x0 x1 x2 x3 x4 x5 x6 x7 x8 y0 y1 y2 y3 y4 y5 y6 y7 y8:Value} {v:Cv} (hn0:w.heap.size=n0) (hb:Below n0 w W) (b1:Blk W (n0+1) 31 #[x0,x1,x2,x3,x4,x5,x6,x7,x8])
  (hW:j=(((((((((W.setCell ⟨n0+1,0,none⟩ y0).setCell ⟨n0+1,1,none⟩ y1).setCell ⟨n0+1,2,none⟩ y2).setCell ⟨n0+1,3,none⟩ y3).setCell ⟨n0+1,4,none⟩ y4).setCell ⟨n0+1,5,none⟩ y5).setCell ⟨n0+1,6,none⟩ y6).setCell ⟨n0+1,7,none⟩ y7).setCell ⟨n0+1,8,none⟩ y8))
  (hP:Value.agg #[y0,y1,y2,y3,y4,y5,y6,y7,y8]= .agg (Ae (Ak x.c).max v)) (ho:Lj (n0+2) W v ⟨Ak x.c,[],[]⟩)
  (h2:tmps[2]?=some (.pointer (some ⟨n0+1,0,none⟩))):bodyPost Tryz.prog Tryz.f35 (Vi x w) .ret {tmps:=tmps,defers:=[]} j:=by
 subst hW;have p:=Xj b1 y0 y1 y2 y3 y4 y5 y6 y7 y8;have m:=fr9 (Fr.refl (λq=>q=n0+1) W) rfl y0 y1 y2 y3 y4 y5 y6 y7 y8;generalize (((((((((W.setCell ⟨n0+1,0,none⟩ y0).setCell ⟨n0+1,1,none⟩ y1).setCell ⟨n0+1,2,none⟩ y2).setCell ⟨n0+1,3,none⟩ y3).setCell ⟨n0+1,4,none⟩ y4).setCell ⟨n0+1,5,none⟩ y5).setCell ⟨n0+1,6,none⟩ y6).setCell ⟨n0+1,7,none⟩ y7).setCell ⟨n0+1,8,none⟩ y8)=j at*;obtain⟨r,y,z,h,D,E,F,I,J⟩:=c9c (p)
 have l:Below w.heap.size w j:=by rw[hn0];exact hb.trans (m.below (B:=n0) (by have:=b1.lt;omega) (λk M=>by omega))
 refine bodyPost_ret (v:= .agg #[y0,y1,y2,y3,y4,y5,y6,y7,y8]) ?_ rfl ⟨v,by rw[hP],(ho.fr m (λk e=> .inr ⟨31,_,e▸b1,by decide,by decide,by decide,by decide⟩)).rd,l⟩;simp[results,Tryz.results35,go_sem,h2,r,y,z,h,D,E,F,I,J]
theorem Yq (v:Cv) (x:Bp) (w:World) (hr:RdC w v x) (hl:Mx x) (hgc:Ag x.c) (hsm:x.c.max<=1000000):
  Calls Tryz.prog 35 #[.agg (Ae x.c.max v)] w (Vi x w):=by
 obtain⟨⟨A1,M1,C1⟩,⟨A2,M2,C2⟩,⟨A3,M3,C3⟩,⟨A4,M4,C4⟩,⟨A5,M5,C5⟩,⟨A6,M6,C6⟩,⟨A7,M7,C7⟩,aK⟩:=v;obtain⟨m,hm⟩:∃ m,m=x.c.max:=⟨_,rfl⟩;obtain⟨W2,O,q0,q1,aM,aB⟩:=Qd w #[.int .i64 (m:Nat),.slice A1 M1 C1,.slice A2 M2 C2,.slice A3 M3 C3,.slice A4 M4 C4,.slice A5 M5 C5,.slice A6 M6 C6,.slice A7 M7 C7,.string aK] #[.int .i64 0,.slice none 0 0,.slice none 0 0,.slice none 0 0,.slice none 0 0,.slice none 0 0,.slice none 0 0,.slice none 0 0,.string ⟨#[]⟩] 31 31;have HN:=Ab (Ut _ x W2 (hr.below aB (Nl _)) hl hgc hsm);rw[<-hm]at HN ⊢;simp only[Ae]at HN ⊢;obtain⟨c0,c1,c2,c3,c4,c5,c6,c7,c8⟩:=c9d q0;replace O:=Ab O;replace hm:=Ab hm;generalize aL:w.heap.size=l at*;have aE:=Ab aM
 go_enter Tryz.func35,Tryz.ntmps35
 go_upto_region 1 with fail
 rw[O.o];clear O
 go_wp2_with fail
 refine HN.o.mono ?_;rintro e w3 ⟨v3,⟨Aa,La,Ca⟩,rfl,Y,R⟩;obtain⟨mx,S⟩:∃ mx,(Ak x.c).max=mx:=⟨_,rfl⟩;rw[S];obtain⟨⟨B1,D,E1⟩,⟨B2,E,E2⟩,⟨B3,F,E3⟩,⟨B4,I,E4⟩,⟨B5,J,E5⟩,⟨B6,M,E6⟩,⟨B7,Z,E7⟩,z⟩:=v3;simp only[Ae,sv];have y:=q0.below R q0.lt;have aF:=q1.below R q1.lt;have X:=Xj y (.int .i64 (mx:Nat)) (.slice B1 D E1) (.slice B2 E E2) (.slice B3 F E3) (.slice B4 I E4) (.slice B5 J E5) (.slice B6 M E6) (.slice B7 Z E7) (.string z);have f9:=fr9 (Fr.refl (λq=>q=l) w3) rfl (.int .i64 (mx:Nat)) (.slice B1 D E1) (.slice B2 E E2) (.slice B3 F E3) (.slice B4 I E4) (.slice B5 J E5) (.slice B6 M E6) (.slice B7 Z E7) (.string z);obtain⟨z0,z1,z2,z3,z4,z5,z6,z7,z8⟩:=c9z y;obtain⟨y0,y1,y2,y3,y4,y5,y6,y7,y8⟩:=c9c y;have h:=Y.fr f9 (λk e=> .inr ⟨31,_,e▸y,by decide,by decide,by decide,by decide⟩);have aH:=f9.blk aF (by omega);have aD:Below l w _:=(aB.trans (R.mono (by omega))).trans (f9.below (B:=l) (by have:=y.lt;omega) (λk hk=>by omega));replace S:=Ab S;clear HN Y R aF q0 q1 f9 c0 c1 c2 c3 c4 c5 c6 c7 c8
 go_upto_region 2 with fail
 generalize (((((((((w3.setCell ⟨l,0,none⟩ (.int .i64 (mx:Nat))).setCell ⟨l,1,none⟩ (.slice B1 D E1)).setCell ⟨l,2,none⟩ (.slice B2 E E2)).setCell ⟨l,3,none⟩ (.slice B3 F E3)).setCell ⟨l,4,none⟩ (.slice B4 I E4)).setCell ⟨l,5,none⟩ (.slice B5 J E5)).setCell ⟨l,6,none⟩ (.slice B6 M E6)).setCell ⟨l,7,none⟩ (.slice B7 Z E7)).setCell ⟨l,8,none⟩ (.string z))=W9 at*;clear z0 z1 z2 z3 z4 z5 z6 z7 z8 y0 y1 y2 y3 y4 y5 y6 y7 y8 y;have y7:=X.cell 7;have z7:=X.frozen 7;have y8:=X.cell 8;have z8:=X.frozen 8;have aA:=(X.set_ 7 (.slice none 0 0)).set_ 8 (.string ⟨#[]⟩);have N:Fr (λq=>q=l) W9 ((W9.setCell ⟨l,7,none⟩ (.slice none 0 0)).setCell ⟨l,8,none⟩ (.string ⟨#[]⟩)):=((Fr.refl (λq=>q=l) W9).set (p:=⟨l,7,none⟩) rfl _).set (p:=⟨l,8,none⟩) rfl _;have r:=h.fr N (λk e=> .inr ⟨31,_,e▸X,by decide,by decide,by decide,by decide⟩);have j:=N.blk aH (by omega);have aC:=Ab (aD.trans (N.below (B:=l) (Nat.le_of_lt X.lt) (λk hk=>by omega)))
 go_upto_region 3 with fail
 generalize ((W9.setCell ⟨l,7,none⟩ (.slice none 0 0)).setCell ⟨l,8,none⟩ (.string ⟨#[]⟩))=aJ at*;clear y7 y8 z7 z8 X N h aH aD;obtain⟨e0,e1,e2,e3,e4,e5,e6,e7,e8⟩:=c9d aA;have k0:=j.cell 0;have aN:=j.frozen 0;have k1:=j.cell 1;have aO:=j.frozen 1;have k2:=j.cell 2;have aP:=j.frozen 2;have k3:=j.cell 3;have aQ:=j.frozen 3;have k4:=j.cell 4;have aR:=j.frozen 4;have k5:=j.cell 5;have aS:=j.frozen 5;have k6:=j.cell 6;have aT:=j.frozen 6;have k7:=j.cell 7;have aU:=j.frozen 7;have k8:=j.cell 8;have aV:=j.frozen 8;have aI:=Ab j
 have U:Hid (Lj (l+2) aJ ⟨⟨B1,D,E1⟩,⟨B2,E,E2⟩,⟨B3,F,E3⟩,⟨B4,I,E4⟩,⟨B5,J,E5⟩,⟨B6,M,E6⟩,Ap,⟨#[]⟩⟩ ⟨Ak x.c,[],[]⟩):=Ab (by
  have A:=r.c.base (show l+2<=W2.heap.size by rw[aE.o];exact Nl _)
  exact⟨⟨A.ins,A.lat,A.outs,A.bads,A.cons,A.gat⟩,Bd,rfl⟩)
 clear j aA r;go_wp2;exact Ajx aL aC.o aI.o rfl (by rw[S.o]) U.o rfl
def AnQ (w:World) (e:Ending) (w':World):Prop:=e= .returned (.bool true)/\Below w.heap.size w w'
theorem AeO (va vb:Cv) (x y:Bp) (w:World) (hra:RdC w va x) (hrb:RdC w vb y) (hla:Mx x) (hlb:Mx y) (hga:Ag x.c) (hgb:Ag y.c) (hsa:x.c.max<=1000000) (hsb:y.c.max<=1000000) (hva:Wy w.heap.size va) (hvb:Wy w.heap.size vb) (hlp:Mx ⟨Ak x.c,[],[]⟩) (he:Ak y.c=Ak x.c):
  Calls Tryz.prog 11 #[.agg (Ae x.c.max va),.agg (Ae y.c.max vb)] w (AnQ w):=by
 have E:=Ab (λ(W:World) (hb:Below w.heap.size w W)=>Mn va x W (hra.below hb (Nl _)) hla (λad h=>Nat.lt_of_lt_of_le (hva ad h) hb.size) (Na hga));have F:=Ab (λ(W:World) (hb:Below w.heap.size w W)=>Mn vb y W (hrb.below hb (Nl _)) hlb (λad h=>Nat.lt_of_lt_of_le (hvb ad h) hb.size) (Na hgb));have aS:=Ab (λ(W:World) (hb:Below w.heap.size w W)=>Yq va x W (hra.below hb (Nl _)) hla hga hsa);have I:=Ab (λ(W:World) (hb:Below w.heap.size w W)=>Yq vb y W (hrb.below hb (Nl _)) hlb hgb hsb);obtain⟨ma,aU⟩:∃ ma,ma=x.c.max:=⟨_,rfl⟩;obtain⟨mb,aV⟩:∃ mb,mb=y.c.max:=⟨_,rfl⟩;rw[<-aU]at E aS ⊢;rw[<-aV]at F I ⊢;obtain⟨⟨A1,M1,C1⟩,⟨A2,M2,C2⟩,⟨A3,M3,C3⟩,⟨A4,M4,C4⟩,⟨A5,M5,C5⟩,⟨A6,M6,C6⟩,⟨A7,M7,C7⟩,bN⟩:=va;obtain⟨⟨B1,aX,E1⟩,⟨B2,aY,E2⟩,⟨B3,aZ,E3⟩,⟨B4,bA,E4⟩,⟨B5,bB,E5⟩,⟨B6,bC,E6⟩,⟨B7,bD,E7⟩,aE⟩:=vb;simp only[Ae]at E F aS I ⊢;obtain⟨W2,J,q0,q1,cW,M⟩:=Qd w #[.int .i64 (ma:Nat),.slice A1 M1 C1,.slice A2 M2 C2,.slice A3 M3 C3,.slice A4 M4 C4,.slice A5 M5 C5,.slice A6 M6 C6,.slice A7 M7 C7,.string bN] #[.int .i64 (mb:Nat),.slice B1 aX E1,.slice B2 aY E2,.slice B3 aZ E3,.slice B4 bA E4,.slice B5 bB E5,.slice B6 bC E6,.slice B7 bD E7,.string aE] 31 31;obtain⟨c0,c1,c2,c3,c4,c5,c6,c7,c8⟩:=c9d q0;replace J:=Ab J;replace aU:=Ab aU;replace aV:=Ab aV;clear hra hrb hva hvb
 go_enter Tryz.func11,Tryz.ntmps11
 go_upto_region 1 with fail
 rw[J.o];clear J
 go_wp2_with fail
 refine(E.o W2 M).mono ?_;rintro e w3 ⟨r,rfl,B,N⟩;obtain rfl:r=0:=B.2 hga;have aW:=q0.below N q0.lt;have R:=q1.below N q1.lt;have q:=M.trans (N.mono M.size);clear B N c0 c1 c2 c3 c4 c5 c6 c7 c8 E q0 q1 M cW;obtain⟨c0,c1,c2,c3,c4,c5,c6,c7,c8⟩:=c9d R
 go_wp2_with fail
 refine(F.o w3 q).mono ?_;rintro e w4 ⟨r,rfl,B,O⟩;obtain rfl:r=0:=B.2 hgb;have cX:=aW.below O aW.lt;have cY:=R.below O R.lt;have bY:=q.trans (O.mono q.size);clear B O c0 c1 c2 c3 c4 c5 c6 c7 c8 F aW R q;obtain⟨c0,c1,c2,c3,c4,c5,c6,c7,c8⟩:=c9d cX;obtain⟨d0,d1,d2,d3,d4,d5,d6,d7,d8⟩:=c9d cY
 go_upto_region 4 with fail
 have cV:∀ W,Vi y W=Vi x W:=by intro W;funext e w2;unfold Vi;rw[he]
 simp only[cV]at I;have aT:=Ab (bY.trans (Dr.below (Dr.refl w4).drew w.heap.size));refine wp_region_held_drew (S:=λW'=>W'.cell? ⟨w.heap.size,0,none⟩=some (.int .i64 (ma:Nat))/\W'.cell? ⟨w.heap.size,1,none⟩=some (.slice A1 M1 C1)/\W'.cell? ⟨w.heap.size,2,none⟩=some (.slice A2 M2 C2)/\W'.cell? ⟨w.heap.size,3,none⟩=some (.slice A3 M3 C3)/\W'.cell? ⟨w.heap.size,4,none⟩=some (.slice A4 M4 C4)/\W'.cell? ⟨w.heap.size,5,none⟩=some (.slice A5 M5 C5)/\W'.cell? ⟨w.heap.size,6,none⟩=some (.slice A6 M6 C6)/\W'.cell? ⟨w.heap.size,7,none⟩=some (.slice A7 M7 C7)/\W'.cell? ⟨w.heap.size,8,none⟩=some (.string bN)/\W'.cell? ⟨w.heap.size+1,0,none⟩=some (.int .i64 (mb:Nat))/\W'.cell? ⟨w.heap.size+1,1,none⟩=some (.slice B1 aX E1)/\W'.cell? ⟨w.heap.size+1,2,none⟩=some (.slice B2 aY E2)/\W'.cell? ⟨w.heap.size+1,3,none⟩=some (.slice B3 aZ E3)/\W'.cell? ⟨w.heap.size+1,4,none⟩=some (.slice B4 bA E4)/\W'.cell? ⟨w.heap.size+1,5,none⟩=some (.slice B5 bB E5)/\W'.cell? ⟨w.heap.size+1,6,none⟩=some (.slice B6 bC E6)/\W'.cell? ⟨w.heap.size+1,7,none⟩=some (.slice B7 bD E7)/\W'.cell? ⟨w.heap.size+1,8,none⟩=some (.string aE)) (by kernel_rfl) (⟨c0,c1,c2,c3,c4,c5,c6,c7,c8,d0,d1,d2,d3,d4,d5,d6,d7,d8⟩) (λp=>?_);refine tk 0 (h:=tk 1 (h:=tk 3 (h:=tk 4 (h:=?_))));refine rd1 2 λK hK=>?_;go_simp
 go_wp2_with (go_at_call 35;refine(aS.o _ aT.o).mono ?_;rintro e w5 ⟨v5,rfl,aQ,l⟩)
 have z:=Ab (aT.o.trans (l.mono aT.o.size));have bE:=keepCell l c0;have bF:=keepCell l c1;have bG:=keepCell l c2;have bH:=keepCell l c3;have bI:=keepCell l c4;have bJ:=keepCell l c5;have bK:=keepCell l c6;have bL:=keepCell l c7;have bM:=keepCell l c8;have bO:=keepCell l d0;have bP:=keepCell l d1;have bQ:=keepCell l d2;have bR:=keepCell l d3;have bS:=keepCell l d4;have bT:=keepCell l d5;have bU:=keepCell l d6;have bV:=keepCell l d7;have bW:=keepCell l d8;refine hK.o _ _ (⟨bE,bF,bG,bH,bI,bJ,bK,bL,bM,bO,bP,bQ,bR,bS,bT,bU,bV,bW⟩) (λp=>?_);clear hK K
 try simp only[Act.put,pt]
 refine rd1 5 λK hK=>?_;go_simp
 go_wp2_with (go_at_call 35;refine(I.o _ z.o).mono ?_;rintro e w6 ⟨v6,rfl,aR,j⟩)
 have aP:=Ab (z.o.trans (j.mono z.o.size));have D:=aQ.below j (Nl _);have U:=keepCell j bE;have X:=keepCell j bF;have Y:=keepCell j bG;have Z:=keepCell j bH;have A:=keepCell j bI;have aA:=keepCell j bJ;have aB:=keepCell j bK;have aC:=keepCell j bL;have aD:=keepCell j bM;have aF:=keepCell j bO;have aH:=keepCell j bP;have aI:=keepCell j bQ;have aJ:=keepCell j bR;have aK:=keepCell j bS;have aL:=keepCell j bT;have aM:=keepCell j bU;have aN:=keepCell j bV;have aO:=keepCell j bW;refine hK.o _ _ (⟨U,X,Y,Z,A,aA,aB,aC,aD,aF,aH,aI,aJ,aK,aL,aM,aN,aO⟩) (λp=>?_);clear hK K
 try simp only[Act.put,pt]
 refine rd1 6 λK hK=>?_;go_simp;refine(AcA _ v5 v6 ⟨Ak x.c,[],[]⟩ w6 D aR hlp).mono ?_;rintro e w7 ⟨rfl,m⟩;have bX:=Ab (aP.o.trans (m.mono aP.o.size));have bZ:=keepCell m U;have cA:=keepCell m X;have cB:=keepCell m Y;have cC:=keepCell m Z;have cE:=keepCell m A;have cF:=keepCell m aA;have cG:=keepCell m aB;have cH:=keepCell m aC;have cJ:=keepCell m aD;have cK:=keepCell m aF;have cL:=keepCell m aH;have cM:=keepCell m aI;have cN:=keepCell m aJ;have cO:=keepCell m aK;have cP:=keepCell m aL;have cQ:=keepCell m aM;have cS:=keepCell m aN;have cT:=keepCell m aO
 try go_wp2_with fail
 refine hK.o _ _ (⟨bZ,cA,cB,cC,cE,cF,cG,cH,cJ,cK,cL,cM,cN,cO,cP,cQ,cS,cT⟩) (λp=>?_);refine tk 7 (h:=?_);refine wpAnyH_done (by kernel_rfl) ?_ _;clear p aQ aR D;go_wp2;go_ret
 exact⟨rfl,bX.o⟩
abbrev Pv (x:Bp):Bp:=⟨Ak x.c,x.sym,x.com⟩
structure Seen (x:Bp):Prop where
 good:Ag x.c
 few:AbQ x
 few6:Qf x
 len:Mx x
 okA:AdF x false
 goodN:Ag (Ak x.c)
 fewN:Qf (Pv x)
 lenN:Mx (Pv x)
 cN:AbQ (Pv x)
 okB:AdF (Pv x) true
theorem Afo {x:Bp} (h:Qm x false) (hf:AbQ x):(Ew x.c).length<=20000:=by
 have:=Zd h hf
 rw[show Km x false=Fl (Db x.c false)++(Ew x.c++Gb x.sym x.com) from rfl,List.length_append,List.length_append]at this;omega
theorem AnG {s:ByteArray} {x:Bp} (hs:Said s x) (hg:Ag x.c) (hf:AbQ x) (hm:x.c.max<=300):Seen x:=by
 obtain⟨p,m⟩:=Ajk hs.file;have o1:=hf.outs;have o2:=hf.bads;have o3:=hf.cons;have l:=On hg;have R:=Ep x.c;have S:=Eo x.c;have U:=It x.c
 have X:(Ak x.c).outs.length=x.c.outs.length:=by unfold Ak;simp
 have Y:(Ak x.c).bads.length=x.c.bads.length:=by unfold Ak;simp
 have Z:(Ak x.c).cons.length=x.c.cons.length:=by unfold Ak;simp
 have A:=AdT x.c;have i8:=hg.all;have E:=hf.ins;have F:=hf.lat;have I:=hf.gat;have J:=hf.sym;have M:=hf.com;have j:AbQ (Pv x):=⟨by show(Ak x.c).ins.length<=60;omega,by show(Ak x.c).lat.length<=60;omega,by show(Ak x.c).outs.length<=60;omega,by show(Ak x.c).bads.length<=60;omega,by show(Ak x.c).cons.length<=60;omega,by show(Ak x.c).gat.length<=60;omega,J,M⟩;have q:=Aij hg p m (by omega) (by omega) (by omega);have r:=Ald hg p m (by omega) (by omega) (by omega);have z:Qm (Pv x) false:=Aij (x:=Pv x) l (λb y hy=>(p b y hy).of_count (λk=>(AbI x.c hg.all b b k).symm)) m (by show(Ak x.c).outs.length<=_;omega) (by show(Ak x.c).bads.length<=_;omega) (by show(Ak x.c).cons.length<=_;omega);have N:=Afo q hf;have B:=Afo z j;have O:=Zd q hf;have D:=Zd r j;refine⟨hg,hf,⟨E,F,I,hm⟩,hs.len,⟨hg,q,hs.num,λh=>(by cases h),by omega,by omega⟩,l,⟨j.ins,j.lat,j.gat,?_⟩,?_,?_,⟨l,r,Na l,λ_=>?_,Nat.le_trans B (by decide),Nat.le_trans D (by decide)⟩⟩
 ·show(Ak x.c).max<=300
  omega
 ·exact⟨by show(Ak x.c).ins.length<=_;omega,by show(Ak x.c).lat.length<=_;omega,by show(Ak x.c).outs.length<=_;omega,by show(Ak x.c).bads.length<=_;omega,by show(Ak x.c).cons.length<=_;omega,by show(Ak x.c).gat.length<=_;omega,by show x.sym.length<=_;omega⟩
 ·exact j
 show(Ak x.c).ins.length+(Ak x.c).lat.length+(Ak x.c).gat.length=(Ak x.c).max
 omega
theorem Aao {x:Bp} {bin:Bool} (hok:Qm x bin) (hg:Ag x.c) (hf:AbQ x) (w:World):
  Calls Tryz.prog 4 #[tstr (Km x bin)] w λe p=>∃ v a,Lj w.heap.size p v x/\e= .returned (.tuple #[.agg (Ae x.c.max v),.int .i64 a,.int .i64 0])/\Below w.heap.size w p:=by
 have hle:=Zd hok hf;have q:=Aiw x bin hok;refine(Ys ⟨(Km x bin).toArray⟩ w (by show(Km x bin).length<=_;omega)).mono λe p h=>?_;obtain⟨⟨x',v,a,B,y,z,r⟩|⟨m,_⟩,l⟩:=h
 ·have j:=B.file;have h2:(⟨(Km x bin).toArray⟩:ByteArray).data.toList=Km x bin:=rfl;rw[h2,q]at j;injection j with j;subst j
  exact⟨v,a,z,r,l⟩
 exact absurd hg (m x q)
end Go.Proofs.YtmidbhnhcbpneaaGreatDoor.Top
end
section
namespace Go.Proofs.YtmidbhnhcbpneaaGreatDoor.Top
open Go Go.RowKit Go.ChangeShapes Go.WideShapes Go.Deep Go.Lt YtmidbhnhcbpneaaGreatDoor.Lit
open YtmidbhnhcbpneaaGreatDoor.Circ (Sl)
structure RdU (W:World) (S:Sl) (l:List (List Bool)):Prop where
 n:S.n=l.length
 all:∃ ss:List Sl,Rd W S.A S.n (ss.map sv)/\∀(k:Nat) (s:Sl) (r:List Bool),ss[k]?=some s->l[k]?=some r->RdB W s r
theorem RdU.few {W:World} {S:Sl} {l:List (List Bool)} (h:RdU W S l) (hn:S.n<=1000000):RdR W S l:=⟨h.n,hn,h.all⟩
theorem RdU.below {W W':World} {S:Sl} {l:List (List Bool)} (h:RdU W S l) (hb:Below W.heap.size W W'):RdU W' S l:=by
 obtain⟨p,y,q,x⟩:=h
 exact⟨p,y,q.below hb (Nl _),λk s r j m=>(x k s r j m).below hb⟩
theorem AmS {cs:List Value} {a b:Value} (hl:cs.length=2) (h0:(cs.drop 0).take 1= [a]) (h1:(cs.drop 1).take 1= [b]):cs= [a,b]:=by
 match cs,hl with
 | [x,y],_=>simp_all
section
variable {H:Type} {enc:TypeId×Value->H} {P:Program} {w:World} {base:Nat} {held:Bool}
theorem Aev {fuel:Nat} {t e:TypeId} {cs:List Value} {x:DataW H×List MemPlace} (ht:P.underlying t=some (.slice e)) (he:P.underlying e=some .bool) (hc:P.cellsOf e=1)
  (h:DataW.trod enc P w base (λ_=>true) held fuel t cs=some x):
  ∃(s:Sl) (l:List Bool),cs= [sv s]/\s.n<=s.c/\s.c<=maxLen/\RdB w s l:=by
 rcases open_bools ht he hc h with⟨m,_⟩|⟨x,l,c',B,m,_,q,r,_,j⟩
 ·exact⟨⟨none,0,0⟩,[],m,Nl _,Nat.zero_le _,⟨Rd.nil _ _,Nat.zero_le _⟩⟩
 refine⟨⟨some x,l,c'⟩,(List.range l).map B,m,q,r,⟨AeR (by simp[bvs]) λi u p=>?_,Nat.le_trans q r⟩⟩
 have hi:i<l:=by have:=(List.getElem?_eq_some_iff.1 p).1;simpa[bvs] using this
 rw[j i (by omega)];unfold bvs at p;rw[List.getElem?_map,List.getElem?_map,List.getElem?_range hi]at p;exact p
theorem AmO {fuel:Nat} {t e eB:TypeId} {cs:List Value} {d:DataW H×List MemPlace} (ht:P.underlying t=some (.slice e)) (he:P.underlying e=some (.slice eB)) (hc:P.cellsOf e=1) (hB:P.underlying eB=some .bool) (cB:P.cellsOf eB=1)
  (hf:DataW.trod enc P w base (λ_=>true) held fuel t cs=some d):
  ∃(s:Sl) (l:List (List Bool)),cs= [sv s]/\s.n<=s.c/\s.c<=maxLen/\RdU w s l:=by
 rcases DataW.trod_slice ht hf with⟨j,_⟩|⟨x,n,c,B,rest,k,_,j,_,_,O,R,M,D,_,_⟩
 ·exact⟨⟨none,0,0⟩,[],j,Nl _,Nat.zero_le _,⟨rfl,[],Rd.nil _ _,λk s r p q=>by cases p⟩⟩
 have y:∀ i,∃z:List Bool×Sl,i<n->w.cell? (x.add i)=some (sv z.2)/\RdB w z.2 z.1:=by
  intro i
  by_cases hi:i<n
  ·have I:=D i hi;rw[hc,List.getElem?_eq_getElem (by omega),Option.bind_eq_some_iff]at I;obtain⟨N,j,hy⟩:=I;obtain⟨_,_,m⟩:=World.cells?_some j;obtain⟨X,S,q,_,_,U⟩:=Aev he hB cB hy;subst q;have F:=m 0 (by omega);rw[add_add]at F
   exact⟨⟨S,X⟩,λ_=>⟨by simpa using F,U⟩⟩
  exact⟨⟨[],⟨none,0,0⟩⟩,λh=>absurd h hi⟩
 obtain⟨g,J⟩:=Classical.axiomOfChoice y;refine⟨⟨some x,n,c⟩,(List.range n).map λi=>(g i).1,j,O,R,⟨by simp,(List.range n).map λi=>(g i).2,AeR (by simp) λi u E=>?_,λk s r p q=>?_⟩⟩
 ·have hi:i<n:=by have:=(List.getElem?_eq_some_iff.1 E).1;simpa using this
  rw[List.getElem?_map,List.getElem?_map,List.getElem?_range hi]at E;rw[(J i hi).1];exact E
 have hi:k<n:=by have:=(List.getElem?_eq_some_iff.1 p).1;simpa using this
 rw[List.getElem?_map,List.getElem?_range hi]at p q;cases p;cases q
 exact(J k hi).2
theorem AfB {r:Reach} {b0:Nat} {t tB tR eB:TypeId} {F:Array Field} {v:Value} {d:DataW H} {ps:List MemPlace}
  (he:P.underlying t=some (.struct F)) (hc:P.cellsOf t=2) (hF:F.map (λf=>(f.type,f.offset))= #[(tB,0),(tR,1)])
  (hB:P.underlying tB=some (.slice eB)) (cB:P.cellsOf tB=1) (hR:P.underlying tR=some (.slice tB)) (cR:P.cellsOf tR=1) (hb:P.underlying eB=some .bool) (cb:P.cellsOf eB=1)
  (hval:Value.okWide P w r b0 t v) (h:DataW.Trod enc P w base (λ_=>true) held t v d ps):
  ∃(S I:Sl) (s:List Bool) (l:List (List Bool)),v= .agg #[sv S,sv I]/\RdB w S s/\RdU w I l/\I.n<=maxLen:=by
 obtain⟨E,rfl,X⟩:=okWide_struct he hval;obtain⟨J,R⟩:=h;obtain⟨xs,n,_,_,U,q,B⟩:=DataW.trod_struct he R
 have p:∀ (i:Nat) (ty:TypeId) (m:Nat),(#[(tB,0),(tR,1)]:Array (TypeId×Nat))[i]?=some (ty,m)->P.cellsOf ty=1->
   ∃y,DataW.trod enc P w base (λ_=>true) held n ty (((Value.agg E).cells.toList.drop m).take 1)=some y:=by
  intro i ty m hi z;rw[<-hF,Array.getElem?_map]at hi
  cases j:F[i]? with
  |none=>rw[j]at hi;cases hi
  |some f=>
   rw[j]at hi;injection hi with hi;injection hi with x h2;have D:i<F.size:=(Array.getElem?_eq_some_iff.1 j).1
   have:=B i f j
   rw[x,h2,z,List.getElem?_eq_getElem (by rw[q];exact D)]at this
   exact⟨_,this⟩
 obtain⟨y0,O⟩:=p 0 _ _ rfl cB;obtain⟨y1,x⟩:=p 1 _ _ rfl cR;obtain⟨S,s,M,_,_,Z⟩:=Aev hB hb cb O;obtain⟨I,l,N,Y,x1,A⟩:=AmO hR hB cB hb cb x
 have:=AmS (by rw[U,hc]) M N
 obtain⟨l⟩:=E;simp only[Value.cells]at this;subst this
 exact⟨S,I,s,_,rfl,Z,A,Nat.le_trans Y x1⟩
end
end Go.Proofs.YtmidbhnhcbpneaaGreatDoor.Top
end
