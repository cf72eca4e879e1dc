/- A part of the proof. -/
import Derived.Test.YtmidbhnhcbpneaaGreatDoorM3
import Derived.Test.YtmidbhnhcbpneaaGreatDoorM18
import Derived.Test.YtmidbhnhcbpneaaGreatDoorM17
import Derived.Test.YtmidbhnhcbpneaaGreatDoorM15
import Derived.Test.YtmidbhnhcbpneaaGreatDoorM8
set_option linter.unusedVariables false
set_option linter.unusedSimpArgs false
set_option maxRecDepth 8000
set_option maxHeartbeats 8000000
section
namespace Go.Proofs.YtmidbhnhcbpneaaGreatDoor.Top
open Go Go.RowKit Go.Lt YtmidbhnhcbpneaaGreatDoor.Lit YtmidbhnhcbpneaaGreatDoor.Dec
open YtmidbhnhcbpneaaGreatDoor.Circ (T3 enc3 RdT Sl Cv Ae)
def Ja (m k:Nat):List Int:=0::(List.replicate k (-1)++List.replicate (m-k) 0)
theorem AgD (m:Nat):Ja m 0=List.replicate (m+1) 0:=by unfold Ja;simp[List.replicate_succ]
theorem Ajo {m k:Nat} (h:k<m):(Ja m k).set (k+1) (-1)=Ja m (k+1):=by
 unfold Ja;rw[List.set_cons_succ,List.set_append_right _ _ (by simp),List.length_replicate,Nat.sub_self,show m-k=(m-(k+1))+1 by omega,List.replicate_succ,List.set_cons_zero,List.replicate_succ',List.append_assoc];rfl
theorem Akq (m:Nat):Ja m m=atF m []:=by
 apply List.ext_getElem?
 intro v;unfold Ja;rw[Nat.sub_self,List.replicate_zero,List.append_nil]
 by_cases h:v<=m
 ·rw[Nb [] h];unfold atV
  cases v with
  |zero=>rfl
  |succ v=>
   rw[if_neg (by omega),if_neg (by simp),List.getElem?_cons_succ,List.getElem?_replicate,if_pos (by omega)]
 have j:(atF m [])[v]?=none:=List.getElem?_eq_none (by rw[Fp];omega);have l:(0::List.replicate m (-1):List Int)[v]?=none:=List.getElem?_eq_none (by simp;omega);rw[j,l]
theorem Mz.fill {m n0 nb ab ga k:Nat} {cs:Array Value} {w W:World} {sn:Sl} {nds:List (Int×Int)} (h:Mz m n0 nb ab ga cs w W sn nds (Ja m k)) (hk:k<m):
  Mz m n0 nb ab ga cs w (W.setCell ⟨ga,k+1,none⟩ (.int .i64 (-1))) sn nds (Ja m (k+1)):=by
 have j:n0≠ga:=Af h.box h.oa (by decide);have l:nb≠ga:=Af h.cn h.oa (by decide);have r:ab≠ga:=Af h.ca h.oa (by decide);have x:=h.oa.set_ (k+1) (.int .i64 (-1));rw[Aig,Ajo hk]at x;have y:Fr (λq=>q=ga) W (W.setCell ⟨ga,k+1,none⟩ (.int .i64 (-1))):=(Fr.refl (λq=>q=ga) W).set (p:=⟨ga,k+1,none⟩) rfl _;obtain⟨D,E,F,I⟩:=h.lo
 exact⟨h.box.far (p:=⟨ga,k+1,none⟩) j _,h.cn.far (p:=⟨ga,k+1,none⟩) l _,h.ca.far (p:=⟨ga,k+1,none⟩) r _,y.own h.on (λg z e=>Ba h.on h.oa (by decide) (by rw[z,e])),x,h.bel.trans (y.below (B:=n0) (Nat.le_of_lt h.box.lt) (λq e=>by omega)),h.lo⟩
theorem AlT (v:Cv) (x:Bp) (w:World) (hr:RdC w v x) (hl:Mx x) (D:Ag x.c):
  Calls Tryz.prog 31 #[.agg (Ae x.c.max v)] w (AnY x.c w):=by
 obtain⟨⟨A1,r,C1⟩,⟨A2,I,C2⟩,⟨A3,M3,C3⟩,⟨A4,M4,C4⟩,⟨A5,M5,C5⟩,⟨A6,M6,C6⟩,⟨A7,M7,C7⟩,bG⟩:=v;obtain⟨m,hm⟩:∃ m,m=x.c.max:=⟨_,rfl⟩
 have aL:m<=16777216:=by rw[hm];exact D.max
 rw[<-hm];simp only[Ae];obtain⟨W1,aF,q0,bI⟩:=Bb w #[.int .i64 (m:Nat),.slice A1 r C1,.slice A2 I C2,.slice A3 M3 C3,.slice A4 M4 C4,.slice A5 M5 C5,.slice A6 M6 C6,.slice A7 M7 C7,.string bG] 31;obtain⟨cs,bK⟩:∃ cs:Array Value,cs= #[.int .i64 (m:Nat),.slice A1 r C1,.slice A2 I C2,.slice A3 M3 C3,.slice A4 M4 C4,.slice A5 M5 C5,.slice A6 M6 C6,.slice A7 M7 C7,.string bG]:=⟨_,rfl⟩;rw[<-bK]at q0;obtain⟨cM,cN,cO,dA,dB,dC,cP,dD,dE⟩:=c9k bK;clear bK
 have dK:(m:Int)<=16777216:=by omega
 have n1:r=x.c.ins.length:=hr.nIns;have n2:I=x.c.lat.length:=hr.nLat;have n6:M6=x.c.gat.length:=hr.nGat;have l1:=hl.ins;have l2:=hl.lat;have l6:=hl.gat
 have dF:(r:Int)<=16777216:=by omega
 have dG:(I:Int)<=16777216:=by omega
 have dH:(M6:Int)<=1000000:=by omega
 have dN:(Av x.c).length<=16777216:=by
  have h1:=(Lm D).length_eq;have h2:=Zc D;omega
 have Y:(Aw x.c.gat).length=x.c.gat.length:=D.all
 have cC:(Av x.c).length=r+I+M6:=by rw[Ht,Y,n1,n2,n6]
 replace n1:=Ab n1;replace n2:=Ab n2;replace n6:=Ab n6;replace Y:=Ab Y;replace D:=Ab D;replace hm:=Ab hm;have aN:=hr.below bI (Nl _);obtain⟨W2,aH,q1,aW⟩:=Bb W1 #[.slice none 0 0] 86
 have cK:W1.heap.size=w.heap.size+1:=by rw[<-aF];simp
 have cL:W2.heap.size=w.heap.size+2:=by rw[<-aH];simp[cK]
 generalize aD:w.heap.size=n0 at*;obtain⟨nb,bO⟩:∃ nb,W1.heap.size=nb:=⟨_,rfl⟩;obtain⟨J,aK⟩:∃ J,W2.heap.size=J:=⟨_,rfl⟩;obtain⟨ab,bU⟩:∃ ab,J+1=ab:=⟨_,rfl⟩;rw[bO]at q1;have q2:=Blk.new W2 3 (zvs (Ja m 0)).toArray;rw[aK]at q2;have aI:=(Below.refl W2.heap.size W2).alloc (Nl _) (.cells (zvs (Ja m 0)).toArray 3);obtain⟨W3,aV⟩:∃ W3,W2.alloc (.cells (zvs (Ja m 0)).toArray 3)=W3:=⟨_,rfl⟩;rw[aV]at q2 aI
 have cZ:W3.heap.size=n0+3:=by rw[<-aV];simp[cL]
 obtain⟨A,M,q3,aJ⟩:=Bb W3 #[.slice (some ⟨J,0,none⟩) (m+1) (m+1)] 26
 have bA:W3.heap.size=ab:=by omega
 rw[bA]at q3
 have bR:Hid (Mz m n0 nb ab J cs w A Ap [] (Ja m 0)):=by
  have e0:=((q0.below aW q0.lt).below aI (by omega)).below aJ (by omega);have e1:=(q1.below aI (by omega)).below aJ (by omega);have e2:=q2.below aJ (by omega);refine Ab ⟨e0,e1,q3,Bd,e2,?_,by omega,by omega,by omega,by omega⟩
  exact((bI.trans (aW.mono (by omega))).trans (aI.mono (by omega))).trans (aJ.mono (by omega))
 replace aF:=Ab aF;replace aH:=Ab aH;have bX:Hid (madeCells (Value.int .i64 0).cells ((m+1)*1)=(zvs (Ja m 0)).toArray):=Ab (by rw[Xn,AgD];rfl);have aY:Hid ((W2.alloc (.cells (zvs (Ja m 0)).toArray 3)).alloc (.cells #[.slice (some ⟨J,0,none⟩) (m+1) (m+1)] 26)=A):=Ab (by rw[aV,M]);have hv:=Ab (λW hb=>(aN.below (W':=W) hb (Nl _)));have aX:=Ab hr;have bD:=Ab bO;have bB:=Ab aK;have aZ:=Ab bU;have c0:=((q0.below aW q0.lt).cell 0).trans cM.o;clear hr aV M q0 q1 q2 q3 aW aI aJ bI cK cL cZ aN bO aK bU bA
 go_enter Tryz.func31,Tryz.ntmps31
 go_upto_region 1 with fail
 rw[aF.o];clear aF
 go_upto_region 2 with fail
 rw[aH.o];clear aH
 go_upto_region 3 with(at_make;refine Us rfl _ _ _ rfl 3 Tryz.underlying26 Dh (m+1) (by rfl) (by rfl) (by omega) (by omega) ?_;rw[bX.o])
 rw[bD.o,bB.o,aZ.o,aY.o];clear bD bB aZ aY c0 bX;have U:=bR;go_wp2
 go_loopw [6] (λi wr=>∃ k:Nat,i= .int .i64 ((k:Int)+1)/\k<=m/\Hid (Mz m n0 nb ab J cs w wr Ap [] (Ja m k))) (λi _=>m+1-(intOf i).toNat)
 case atStart=>exact⟨0,rfl,Nat.zero_le _,U⟩
 case round=>
  clear bR U;obtain⟨k,rfl,hk,j⟩:=hrel;have d2:=j.o.ca.cell 0
  by_cases O:k<m
  ·have R:(k:Int)+1<m+1:=by omega
   have cB:k+1<(zvs (Ja m k)).toArray.size:=by unfold zvs Ja;simp;omega
   obtain⟨z,hz⟩:∃ z,(zvs (Ja m k)).toArray[k+1]?=some z:=⟨_,Array.getElem?_eq_getElem cB⟩;have d3:=(j.o.oa.cell (k+1)).trans hz;have e3:=j.o.oa.frozen (k+1);have hP:=Ab (j.o.fill O);clear hz cB j;go_wp2;go_roundw
   case rel=>exact⟨k+1,by go_num,O,hP⟩
   case measure=>simp[intOf];omega
  obtain rfl:m=k:=by omega
  have R:¬ (m:Int)+1<m+1:=by omega
  rw[Akq]at j;have dL:∀ (fn:Fn) (first cap:Array Value) (w:World),(Instr.makeFunc fn first cap).run Tryz.prog w= .ok (.func fn first cap) w:=λ_ _ _ _=>rfl;have dJ:=j.o.bel;have U:Hid (Mz m n0 nb ab J cs w wr Ap ((Ei x.c).take 0) (atF m ((Av x.c).take 0))):=j;have c1:=(j.o.box.cell 1).trans cN.o;clear j;go_wp2;clear c1 d2
  go_loopw [33] (λi wr=>∃ (k:Nat) (Z:Sl),i= .int .i64 k/\k<=r/\Hid (Mz m n0 nb ab J cs w wr Z ((Ei x.c).take k) (atF m ((Av x.c).take k)))) (λi _=>r-(intOf i).toNat)
  case atStart=>exact⟨0,_,rfl,Nat.zero_le _,U⟩
  case round=>
   obtain⟨k,Z,rfl,hk,j⟩:=hrel
   by_cases O:k<r
   ·have R:(k:Int)<r:=by omega
    obtain⟨ad,l,rfl,_,hy,cy⟩:=(aX.o.ins.below j.o.bel (Nat.le_of_eq aD)).get (f:=λn:Nat=>Value.int .i64 n) O;have F:=Ur (c:=x.c) hy;have E:=Jy (c:=x.c) (k:=k) (by rw[<-n1.o];omega);obtain⟨p1,p2,p3,p4⟩:=Tt D.o F;have HP:=Ab (Ady m n0 nb ab J l (-1) 0 cs w wr Z _ _ j.o (by rw[List.length_take,List.length_take,Fy]) p1 p2 (by rw[hm.o];exact p4) p3 aL (by rw[List.length_take];omega));rw[<-Cy F,<-Cy E]at HP
    have cX:(l:Int)<=40000000:=by have:=hm.o;omega
    clear hy F E p1 p2 p3 p4 j
    go_wp2_with (go_at_call 71;refine HP.o.mono ?_;rintro e w7 ⟨rfl,aS,N,_⟩)
    replace N:=Ab N;go_roundw
    case rel=>exact⟨k+1,aS,by go_num,O,N⟩
    case measure=>simp[intOf];omega
   obtain rfl:r=k:=by omega
   have R:¬ (r:Int)<r:=by omega
   have U:Hid (Mz m n0 nb ab J cs w wr Z ((Ei x.c).take (r+0)) (atF m ((Av x.c).take (r+0)))):=j;have c2:=(j.o.box.cell 2).trans cO.o;clear j;go_wp2;clear c2
   go_loopw [45] (λi wr=>∃ (k:Nat) (Z:Sl),i= .int .i64 k/\k<=I/\Hid (Mz m n0 nb ab J cs w wr Z ((Ei x.c).take (r+k)) (atF m ((Av x.c).take (r+k))))) (λi _=>I-(intOf i).toNat)
   case atStart=>exact⟨0,_,rfl,Nat.zero_le _,U⟩
   case round=>
    obtain⟨k,Z,rfl,hk,j⟩:=hrel
    by_cases O:k<I
    ·have R:(k:Int)<I:=by omega
     have aO:=aX.o.below j.o.bel (Nat.le_of_eq aD);obtain⟨ad,y,rfl,hy,g0,g1,g2⟩:=Ce (show RdT wr A2 I (x.c.lat.map t3) from aO.lat) O;have F:=Vd (c:=x.c) hy;rw[<-n1.o]at F;have E:=Jy (c:=x.c) (k:=r+k) (by rw[<-n1.o,<-n2.o];omega);obtain⟨p1,p2,p3,p4⟩:=Tt D.o F;obtain⟨A,M,b5,aE⟩:=Bb wr #[.int .i64 (y.a:Nat),.int .i64 (y.b:Nat),.int .i64 (y.c:Nat)] 59;have HP:=Ab (Ady m n0 nb ab J y.a (-1) 0 cs w A Z _ _ (j.o.after aE) (by rw[List.length_take,List.length_take,Fy]) p1 p2 (by rw[hm.o];exact p4) p3 aL (by rw[List.length_take];omega));rw[<-Cy F,<-Cy E]at HP;have u0:=b5.cell 0
     have cX:(y.a:Int)<=40000000:=by have:=hm.o;omega
     replace M:=Ab M;clear hy F E p1 p2 p3 p4 j aO
     go_upto_region 16 with fail
     rw[M.o];clear M g0 g1 g2
     go_wp2_with (go_at_call 71;refine HP.o.mono ?_;rintro e w7 ⟨rfl,aS,N,_⟩)
     replace N:=Ab N;go_roundw
     case rel=>exact⟨k+1,aS,by go_num,O,N⟩
     case measure=>simp[intOf];omega
    obtain rfl:I=k:=by omega
    have R:¬ (I:Int)<I:=by omega
    have U:Hid (Mz m n0 nb ab J cs w wr Z ((Ei x.c).take (r+I+0)) (atF m ((Av x.c).take (r+I+0)))):=j;have bZ:=aX.o.below j.o.bel (Nat.le_of_eq aD);have bL:Qe x.c.gat:=AhG ((Vl x.c).1 D.o).2.2.1;have HO:=Ab (Abl (m:Int) ⟨⟨A1,r,C1⟩,⟨A2,I,C2⟩,⟨A3,M3,C3⟩,⟨A4,M4,C4⟩,⟨A5,M5,C5⟩,⟨A6,M6,C6⟩,⟨A7,M7,C7⟩,bG⟩ x.c.gat wr (show M6<=1048576 by omega) bZ.gat bL (Na D.o).gat);simp only[Ae]at HO;have bC:=Ab j.o.oa.lt;have bS:=Ab j.o;obtain⟨c0,c1,c2,c3,c4,c5,c6,c7,c8⟩:=c9t j.o.box cM.o cN.o cO.o dA.o dB.o dC.o cP.o dD.o dE.o;clear j bZ
    go_wp2_with fail
    refine HO.o.mono ?_;rintro e w9 ⟨⟨Ao,Lo,Co⟩,rfl,aM,bV⟩;have cT:Lo=(Aw x.c.gat).length:=Et aM;subst cT
    have cS:(Aw x.c.gat).length<=1000000:=by rw[Y.o];exact l6
    have aK:J<wr.heap.size:=bC.o;have U:=Ab (bS.o.after bV);have aT:Hid (w9.ownsRow wr.heap.size 3 1 (.slice Ao (Aw x.c.gat).length Co) (Aw x.c.gat).length (nvs (Aw x.c.gat))):=Ab aM;obtain⟨wo,cF⟩:∃ wo,wr=wo:=⟨_,rfl⟩;rw[cF]at aT aK;clear bS bC aM bV cF HO c0 c1 c2 c3 c4 c5 c6 c7 c8;obtain⟨L,hL⟩:∃ L,(Aw x.c.gat).length=L:=⟨_,rfl⟩;rw[hL]at aT cS Y ⊢
    have dI:(L:Int)<=1000000:=by omega
    have cE:(Av x.c).length=r+I+L:=by rw[cC,Y.o,n6.o]
    replace hL:=Ab hL;dsimp only[sv];go_wp2
    go_loopw [59] (λi wr=>∃ (k:Nat) (Z:Sl),i= .int .i64 k/\k<=L/\Hid (Mz m n0 nb ab J cs w wr Z ((Ei x.c).take (r+I+k)) (atF m ((Av x.c).take (r+I+k))))/\Hid (wr.ownsRow wo.heap.size 3 1 (.slice Ao L Co) L (nvs (Aw x.c.gat)))) (λi _=>L-(intOf i).toNat)
    case atStart=>exact⟨0,_,rfl,Nat.zero_le _,U,aT⟩
    case round=>
     clear U aT;obtain⟨k,Z,rfl,hk,j,hO⟩:=hrel
     by_cases O:k<L
     ·have R:(k:Int)<L:=by omega
      have bF:Rd wr Ao L (nvs (Aw x.c.gat)):=by
       obtain⟨A',c',hv,_,_,hr⟩:=Rd.of_own hO.o;injection hv with e1 e2 e3;rw[e1];exact hr
      obtain⟨cQ,p,rfl,_,hp,cp⟩:=bF.get (f:=λn:Nat=>Value.int .i64 n) O;clear bF;have bY:=(Ge x.c.gat).2 p (List.mem_of_getElem? hp)
      have cY:p<M6:=by rw[n6.o];exact bY
      have dM:(p:Int)<M6:=by omega
      have aO:=aX.o.below j.o.bel (Nat.le_of_eq aD);obtain⟨ad,y,rfl,hy,g0,g1,g2⟩:=Ce (show RdT wr A6 M6 (x.c.gat.map t3) from aO.gat) cY
      have bM:x.c.gat.getD p z3=y:=by rw[List.getD_eq_getElem?_getD,hy];rfl
      have F:=Pr hp;have E:=Nh hp;have aQ:=Pg D.o hp (.inl rfl);have aR:=Pg D.o hp (.inr rfl);unfold AcS at E;rw[bM]at F E aQ aR;rw[<-n1.o,<-n2.o]at F E aQ aR;obtain⟨p1,p2,p3,p4⟩:=Tt D.o F;have bP:=D.o.used _ (Bg (List.mem_of_getElem? hy)).1;have bQ:=D.o.used _ (Bg (List.mem_of_getElem? hy)).2;rw[<-hm.o]at p4 bP bQ;obtain⟨ya,cG⟩:∃ ya,y.a=ya:=⟨_,rfl⟩;obtain⟨yb,cH⟩:∃ yb,y.b=yb:=⟨_,rfl⟩;obtain⟨yc,cJ⟩:∃ yc,y.c=yc:=⟨_,rfl⟩;rw[cG]at g0 F p1 p2 p3 p4;rw[cH]at g1 E aQ bP;rw[cJ]at g2 E aR bQ;obtain⟨A,M,b5,aE⟩:=Bb wr #[.int .i64 (ya:Nat),.int .i64 (yb:Nat),.int .i64 (yc:Nat)] 62;have bJ:Below A.heap.size A A.drew:=(Dr.refl A).drew.below _;have aA:=(j.o.after aE).after bJ;have aU:=Ab (Au (Au hO.o aE) bJ)
      have bH:((Av x.c).take (r+I+k)).length<=16777215:=by rw[List.length_take];omega
      have aP:Rd A.drew (some ⟨J,0,none⟩) (m+1) (zvs (atF m ((Av x.c).take (r+I+k)))):=by
       have h:=Rd.of_own (AhB (B:=0) aA.oa (Nat.zero_le _) (n:=m+1) (by unfold zvs;rw[List.length_map,Fp]) (by unfold maxLen;omega));obtain⟨A',c',hv,_,_,hr⟩:=h;injection hv with e1 e2 e3;rw[e1];exact hr
      have HB:=Ab (AlL x.c ((Av x.c).take (r+I+k)) _ yb m ab ⟨some ⟨J,0,none⟩,m+1,m+1⟩ A.drew aA.ca aP (List.take_append_drop (r+I+k) (Av x.c)).symm aQ (by omega) aL bH);have HC:=Ab (AlL x.c ((Av x.c).take (r+I+k)) _ yc m ab ⟨some ⟨J,0,none⟩,m+1,m+1⟩ A.drew aA.ca aP (List.take_append_drop (r+I+k) (Av x.c)).symm aR (by omega) aL bH);obtain⟨r1,aN⟩:∃ r1,ofC x.c yb=r1:=⟨_,rfl⟩;obtain⟨r2,bE⟩:∃ r2,ofC x.c yc=r2:=⟨_,rfl⟩;rw[aN]at HB E;rw[bE]at HC E;have HP:=Ab (Ady m n0 nb ab J ya (r1:Int) (r2:Int) cs w A.drew Z _ _ aA (by rw[List.length_take,List.length_take,Fy]) p1 p2 p4 p3 aL (by rw[List.length_take];omega));rw[<-Cy F,<-Cy E]at HP
      have bN:Hid (∀w7,Fr (λq=>q=nb∨q=J∨(sv Z).ownBlock=some q) A.drew w7->w7.ownsRow wo.heap.size 3 1 (.slice (some cQ) L Co) L (nvs (Aw x.c.gat))):=Ab (λw7 hf=>hf.own aU.o (λg hg e=>by
       rcases e with rfl|rfl|e
       ·exact Ba aU.o aA.cn (by decide) hg.symm
       ·have:=(Dm aU.o hg).1;omega
       rcases Eg aU.o aA.on (by decide) with h4|h4
       ·rw[hg]at h4;cases h4
       exact h4 (by rw[hg,e])))
      have u0:A.cell? ⟨wr.heap.size,0,none⟩=some (.int .i64 (ya:Nat)):=b5.cell 0;have u1:A.cell? ⟨wr.heap.size,1,none⟩=some (.int .i64 (yb:Nat)):=b5.cell 1;have u2:A.cell? ⟨wr.heap.size,2,none⟩=some (.int .i64 (yc:Nat)):=b5.cell 2
      have cW:Hid (∀w7,Fr (λq=>q=nb∨q=J∨(sv Z).ownBlock=some q) A.drew w7->w7.cell? ⟨wr.heap.size,0,none⟩=some (.int .i64 (ya:Nat))/\w7.cell? ⟨wr.heap.size,1,none⟩=some (.int .i64 (yb:Nat))/\w7.cell? ⟨wr.heap.size,2,none⟩=some (.int .i64 (yc:Nat))):=Ab (λw7 hf=>by
       have k1:=j.o.cn.lt;have k2:=j.o.oa.lt
       have hS:¬ (wr.heap.size=nb∨wr.heap.size=J∨(sv Z).ownBlock=some wr.heap.size):=by
        rintro(e|e|e)
        ·omega
        ·omega
        have:=(Dm j.o.on e).2;omega
       exact⟨hf.cell (p:=⟨wr.heap.size,0,none⟩) u0 hS,hf.cell (p:=⟨wr.heap.size,1,none⟩) u1 hS,hf.cell (p:=⟨wr.heap.size,2,none⟩) u2 hS⟩)
      have dO:(ya:Int)<=40000000:=by omega
      have dP:(yb:Int)<=40000000:=by omega
      have dQ:(yc:Int)<=40000000:=by omega
      have c6:=(j.o.box.cell 6).trans cP.o;replace M:=Ab M;replace bM:=Ab bM;replace aA:=Ab aA;clear hy hp F E p1 p2 p3 p4 j aO aQ aR bP bQ cG cH cJ aN bE aP bH bJ bY b5
      go_upto_region 23 with fail
      rw[M.o];clear M g0 g1 g2 cp c6;refine wp_region_held_drew (S:=λW'=>W'.cell? ⟨wr.heap.size,0,none⟩=some (.int .i64 (ya:Nat))/\W'.cell? ⟨wr.heap.size,1,none⟩=some (.int .i64 (yb:Nat))/\W'.cell? ⟨wr.heap.size,2,none⟩=some (.int .i64 (yc:Nat))) (by kernel_rfl) (⟨u0,u1,u2⟩) (λaB=>?_);refine tk 0 (h:=tk 1 (h:=tk 2 (h:=tk 3 (h:=tk 4 (h:=tk 5 (h:=tk 7 (h:=tk 8 (h:=tk 9 (h:=?_)))))))));refine rd1 6 λK hK=>?_;go_simp
      go_wp2_with (go_at_call 72;refine HB.o.mono ?_;rintro e w6 ⟨rfl,rfl⟩)
      refine hK.o _ _ (⟨u0,u1,u2⟩) (λaB=>?_);clear hK K
      try simp only[Act.put,pt]
      refine rd1 10 λK hK=>?_;go_simp
      go_wp2_with (go_at_call 72;refine HC.o.mono ?_;rintro e w6 ⟨rfl,rfl⟩)
      refine hK.o _ _ (⟨u0,u1,u2⟩) (λaB=>?_);refine tk 11 (h:=?_);refine rd1 12 λK hK=>?_;go_simp
      go_wp2_with (go_at_call 71;refine HP.o.mono ?_;rintro e w7 ⟨rfl,aS,N,bW⟩)
      refine hK.o _ _ (cW.o _ bW) (λaB=>?_);clear hK K
      try simp only[Act.put,pt]
      refine wpAnyH_done (by kernel_rfl) ?_ _;have cV:=Ab (bN.o _ bW);replace N:=Ab N;go_wp2;go_roundw
      case rel=>exact⟨k+1,aS,by go_num,O,N,cV⟩
      case measure=>simp[intOf];omega
     obtain rfl:L=k:=by omega
     have R:¬ (L:Int)<L:=by omega
     have X:Hid (Mz m n0 nb ab J cs w wr Z (Ei x.c) (atF m (Av x.c))):=Ab (by
      have h:=j.o;rw[List.take_of_length_le (show(Ei x.c).length<=r+I+L by rw[Fy,cE];exact Nl _),List.take_of_length_le (show(Av x.c).length<=r+I+L by omega)]at h
      exact h)
     have d0:wr.cell? ⟨nb,0,none⟩=some (sv Z):=X.o.cn.cell 0;have d1:=X.o.ca.cell 0;obtain⟨As,Ns,Cs⟩:=Z
     have bT:Ns=(Av x.c).length:=by have:=Et X.o.on;rw[Fy]at this;exact this
     dsimp only[sv]at d0
     have cA:Hid (∀nq,AnY x.c w (.returned (.tuple #[.slice As Ns Cs,.slice (some ⟨J,0,none⟩) (m+1) (m+1)])) (wr.drewN nq)):=Ab λnq=>have aC:=X.o.after (Dr.below (show Dr wr (wr.drewN nq) from⟨nq,rfl⟩) _);⟨⟨As,Ns,Cs⟩,⟨some ⟨J,0,none⟩,m+1,m+1⟩,rfl,bT,by rw[<-hm.o],by rw[aD];exact aC.on,by
      rw[aD,<-hm.o]
      exact AhB (n:=m+1) aC.oa X.o.lo.2.2.1 (by unfold zvs;rw[List.length_map,Fp]) (by unfold maxLen;omega),by rw[aD];exact aC.bel⟩
     clear X j bT hO;go_wp2
     go_quiet (fail)
     go_wp2
     go_ret2
     exact cA.o _
theorem Alx {α:Type} (enc:α->List Value) (s:Nat) (hs:∀ x,(enc x).length=s) (h0:0<s) {l:List α} {k j:Nat} {x y:α} {u:Value} (hx:l[k]?=some x) (hj:j<s) (hy:enc y=(enc x).set j u):(l.flatMap enc).set (k*s+j) u=(l.set k y).flatMap enc:=by
 have p:=(List.getElem?_eq_some_iff.1 hx).1
 have z:(k*s+j)/s=k:=by rw[Nat.mul_comm,Nat.mul_add_div h0,Nat.div_eq_of_lt hj];rfl
 have h:(k*s+j)%s=j:=by rw[Nat.mul_comm,Nat.mul_add_mod,Nat.mod_eq_of_lt hj]
 apply List.ext_getElem?
 intro q;rw[List.getElem?_set,flat_get enc s hs h0,flat_get enc s hs h0,List.getElem?_set]
 by_cases e:k*s+j=q
 ·subst e
  have r:k*s+j<(l.flatMap enc).length:=by
   rw[Mt enc s hs]
   calc k*s+j<k*s+s:=by omega
    _=(k+1)*s:=by rw[Nat.add_mul,Nat.one_mul]
    _<=l.length*s:=Nat.mul_le_mul_right s p
  rw[if_pos rfl,if_pos r,z,h,if_pos rfl,if_pos p,Option.bind_some,hy,List.getElem?_set,if_pos rfl,if_pos (by rw[hs];exact hj)]
 rw[if_neg e]
 by_cases m:k=q/s
 ·rw[if_pos m,if_pos p,<-m,hx,Option.bind_some,Option.bind_some,hy,List.getElem?_set,if_neg];intro B
  apply e
  rw[B,m,Nat.mul_comm];exact Nat.div_add_mod q s
 rw[if_neg m]
def n3v (x:N3):List Value:=[.int .i64 (x.a:Nat),.int .i64 (x.b:Nat),.int .i64 (x.c:Nat)]
theorem Vz (l:List N3):Iv l=l.flatMap n3v:=by unfold Iv enc3;rw[List.flatMap_map];rfl
theorem Amm {l:List N3} {k j:Nat} {x y:N3} {u:Value} (hx:l[k]?=some x) (hj:j<3) (hy:n3v y=(n3v x).set j u):(Iv l).set (k*3+j) u=Iv (l.set k y):=by
 rw[Vz,Vz];exact Alx n3v 3 (λ_=>rfl) (by decide) hx hj hy
def SL (v:Cv) (j:Nat):Sl:=if j=0 then v.ins else if j=1 then v.outs else if j=2 then v.bads else v.cons
def L0 (c:Cir) (j:Nat):List Nat:=if j=0 then c.ins else if j=1 then c.outs else if j=2 then c.bads else c.cons
theorem four {P:Nat->Prop} (h0:P 0) (h1:P 1) (h2:P 2) (h3:P 3):∀ j,j<4->P j:=by
 intro j l
 match j with
 |0=>exact h0
 |1=>exact h1
 |2=>exact h2
 |3=>exact h3
 |j+4=>omega
def LK (f:Nat->Nat) (c:Cir) (k i:Nat) (j:Nat):List Nat:=if j<k then(L0 c j).map f else if j=k then Iq f (L0 c j) i else L0 c j
theorem Aed (f:Nat->Nat) (c:Cir) (k:Nat):LK f c k 0=λj=>if j<k then(L0 c j).map f else L0 c j:=by
 funext j
 unfold LK;rw[Aaq]
 by_cases h:j<k
 ·rw[if_pos h,if_pos h]
 rw[if_neg h,if_neg h];split<;>rfl
theorem AoV {f:Nat->Nat} {c:Cir} {k i:Nat} (h:(L0 c k).length<=i):LK f c k i=LK f c (k+1) 0:=by
 rw[Aed]
 funext j
 unfold LK
 by_cases l:j<k
 ·rw[if_pos l,if_pos (by omega)]
 rw[if_neg l]
 by_cases h2:j=k
 ·subst h2;rw[if_pos rfl,if_pos (by omega),AcC h]
 rw[if_neg h2,if_neg (by omega)]
structure Hn (B:Nat) (WB:World) (ob:Nat) (m:Nat) (v:Cv) (gs:Sl) (sy:List Sy) (L:Nat->List Nat) (lat gat:List N3) (W:World):Prop where
 o:Blk W ob 31 #[.int .i64 (m:Nat),sv v.ins,sv v.lat,sv v.outs,sv v.bads,sv v.cons,sv gs,sv v.sym,.string v.com]
 rows:∀ j,j<4->W.ownsRow B 3 1 (sv (SL v j)) (L j).length (nvs (L j))
 latr:W.ownsRow B 59 3 (sv v.lat) lat.length (Iv lat)
 gatr:W.ownsRow B 62 3 (sv gs) gat.length (Iv gat)
 symr:W.ownsRow B 65 3 (sv v.sym) sy.length (Kv sy)
 bel:Below B WB W
 lo:B<=ob
section
variable {B ob m:Nat} {WB W W':World} {v:Cv} {gs:Sl} {sy:List Sy} {L L':Nat->List Nat} {lat lat' gat:List N3}
theorem Hn.after (h:Hn B WB ob m v gs sy L lat gat W) (hb:Below W.heap.size W W'):Hn B WB ob m v gs sy L lat gat W':=
 ⟨h.o.below hb h.o.lt,λj l=>Au (h.rows j l) hb,Au h.latr hb,Au h.gatr hb,Au h.symr hb,h.bel.trans (hb.mono (Nat.le_of_lt (Nat.lt_of_le_of_lt h.lo h.o.lt))),h.lo⟩
theorem Hn.setRow {g n c i y j:Nat} (h:Hn B WB ob m v gs sy L lat gat W) (ha:∀ j k,j<4->k<4->j≠k->Eu (sv (SL v j)) (sv (SL v k))) (hj:j<4) (hs:SL v j=⟨some ⟨g,0,none⟩,n,c⟩)
  (hL:L' j=(L j).set i y) (ho:∀ k,k≠j->L' k=L k):Hn B WB ob m v gs sy L' lat gat (W.setCell ⟨g,i,none⟩ (.int .i64 (y:Nat))):=by
 have z:=h.rows j hj;rw[hs]at z;have I:(sv (⟨some ⟨g,0,none⟩,n,c⟩:Sl)).ownBlock=some g:=rfl;have J:=Dm z I
 obtain⟨A,U,x⟩:∃ cs,True/\W.heap[g]?=some (.cells cs 3 (0,0)):=by
  rcases z.2 with⟨r,_⟩|⟨g',S,D,r,_,X,_⟩
  ·cases r
  injection r with r _ _;injection r with r;injection r with r _ _;rw[r]
  exact⟨D,trivial,X⟩
 have N:Blk W g 3 A:=x;have F:Fr (λq=>q=g) W (W.setCell ⟨g,i,none⟩ (.int .i64 (y:Nat))):=(Fr.refl (λq=>q=g) W).set (p:=⟨g,i,none⟩) rfl _;have l:∀ {e size n:Nat} {u:Value} {xs:List Value},W.ownsRow B e size u n xs->e≠3->(W.setCell ⟨g,i,none⟩ (.int .i64 (y:Nat))).ownsRow B e size u n xs:=λR Y=>F.own R (λq M e=>Ba R N Y (by rw[M,e]));refine⟨F.blk h.o (Af h.o N (by decide)),λk O=>?_,l h.latr (by decide),l h.gatr (by decide),l h.symr (by decide),h.bel.setCell (p:=⟨g,i,none⟩) J.1 _,h.lo⟩
 by_cases e:k=j
 ·subst e;have Z:n=(L k).length:=Et z;subst Z
  have:=Uw z i (.int .i64 (y:Nat))
  rw[hL,hs,List.length_set]
  have E:(nvs (L k)).set i (.int .i64 (y:Nat))=nvs ((L k).set i y):=by unfold nvs;rw[List.map_set]
  rw[<-E];exact this
 rw[ho k e]
 exact F.own (h.rows k O) (λq M E=>by
  have:=ha k j O hj e q M
  rw[hs]at this
  exact this (by rw[E];rfl))
theorem Hn.setLat {g n c k i:Nat} {x y:N3} {z:Nat} (h:Hn B WB ob m v gs sy L lat gat W) (hs:v.lat=⟨some ⟨g,0,none⟩,n,c⟩) (hx:lat[k]?=some x) (hi:i<3) (hy:n3v y=(n3v x).set i (.int .i64 (z:Nat))):
  Hn B WB ob m v gs sy L (lat.set k y) gat (W.setCell ⟨g,k*3+i,none⟩ (.int .i64 (z:Nat))):=by
 have D:=h.latr;rw[hs]at D;have F:=Dm D (g:=g) rfl
 obtain⟨Z,J⟩:∃ cs,Blk W g 59 cs:=by
  rcases D.2 with⟨r,_⟩|⟨Y,N,E,r,_,O,_⟩
  ·cases r
  injection r with r _ _;injection r with r;injection r with r _ _;rw[r]
  exact⟨E,O⟩
 have I:Fr (λq=>q=g) W (W.setCell ⟨g,k*3+i,none⟩ (.int .i64 (z:Nat))):=(Fr.refl (λq=>q=g) W).set (p:=⟨g,k*3+i,none⟩) rfl _;have l:∀ {e size n:Nat} {u:Value} {xs:List Value},W.ownsRow B e size u n xs->e≠59->(W.setCell ⟨g,k*3+i,none⟩ (.int .i64 (z:Nat))).ownsRow B e size u n xs:=λM R=>I.own M (λq X e=>Ba M J R (by rw[X,e]));refine⟨I.blk h.o (Af h.o J (by decide)),λj S=>l (h.rows j S) (by decide),?_,l h.gatr (by decide),l h.symr (by decide),h.bel.setCell (p:=⟨g,k*3+i,none⟩) F.1 _,h.lo⟩;have U:n=lat.length:=Et D;subst U
 have:=Uw D (k*3+i) (.int .i64 (z:Nat))
 rw[hs,List.length_set,<-Amm hx hi hy];exact this
theorem Hn.latCell {k i:Nat} {x:N3} {u:Value} (h:Hn B WB ob m v gs sy L lat gat W) (hx:lat[k]?=some x) (hi:(n3v x)[i]?=some u):∃ g,v.lat=⟨some ⟨g,0,none⟩,lat.length,v.lat.c⟩/\W.cell? ⟨g,k*3+i,none⟩=some u/\W.frozen? ⟨g,k*3+i,none⟩=false:=by
 have D:=(List.getElem?_eq_some_iff.1 hx).1;have y:i<3:=(List.getElem?_eq_some_iff.1 hi).1;have q:=h.latr
 rcases Jx q with⟨_,z⟩|⟨g,l,r,_⟩
 ·omega
 have p:=r;injection r with e1 e2 e3;refine⟨g,by rw[<-e1,<-e2],?_,?_⟩
 ·have j:W.ownsRow B 59 3 (.slice (some ⟨g,0,none⟩) lat.length l) lat.length (Iv lat):=by rw[<-p];exact q
  refine Go.Lt.Jp j ?_;rw[Vz,flat_get n3v 3 (λ_=>rfl) (by decide),show(k*3+i)/3=k by omega,hx,show(k*3+i)%3=i by omega];exact hi
 have j:W.ownsRow B 59 3 (.slice (some ⟨g,0,none⟩) lat.length l) lat.length (Iv lat):=by rw[<-p];exact q
 exact Lv j _
theorem Hn.latCell2 {g n c k i:Nat} {x:N3} {u:Value} (h:Hn B WB ob m v gs sy L lat gat W) (hs:v.lat=⟨some ⟨g,0,none⟩,n,c⟩) (hx:lat[k]?=some x) (hi:(n3v x)[i]?=some u):W.cell? ⟨g,k*3+i,none⟩=some u/\W.frozen? ⟨g,k*3+i,none⟩=false:=by
 obtain⟨p,j,h2,l⟩:=h.latCell hx hi;rw[hs]at j;injection j with e1 _ _;injection e1 with e1;injection e1 with e1 _ _;subst e1
 exact⟨h2,l⟩
theorem AkV {α:Type} {l:List α} {k:Nat} {x:α} (h:l[k]?=some x):l.set k x=l:=by
 apply List.ext_getElem?
 intro q;rw[List.getElem?_set]
 by_cases e:k=q
 ·subst e;rw[if_pos rfl,if_pos (List.getElem?_eq_some_iff.1 h).1,h]
 rw[if_neg e]
theorem Dp {W:World} {g b i j:Nat} {u:Value} (h:g≠b):(W.setCell ⟨g,i,none⟩ u).cell? ⟨b,j,none⟩=W.cell? ⟨b,j,none⟩:=
 World.cell?_setCell_other W _ _ u (λe=>h (by injection e with e1 _ _))
theorem Hn.addGat {g9:Sl} {a b c:Nat} {o:Obj} {w9:World} (h:Hn B WB ob m v gs sy L lat gat W) (hown:w9.ownsRow B 62 3 (sv g9) (gat.length+1) (Iv gat++n3v ⟨a,b,c⟩)) (hb:Below B WB w9) (hg:(W.alloc o).grownBy w9 (sv gs).ownBlock):
  Hn B WB ob m v g9 sy L lat (gat++ [⟨a,b,c⟩]) (w9.setCell ⟨ob,6,none⟩ (sv g9))/\Blk w9 ob 31 #[.int .i64 (m:Nat),sv v.ins,sv v.lat,sv v.outs,sv v.bads,sv v.cons,sv gs,sv v.sym,.string v.com]:=by
 have x:∀ {e size n:Nat} {u:Value} {xs:List Value},W.ownsRow B e size u n xs->e≠62->w9.ownsRow B e size u n xs:=λy z=>(y.alloc o).kept hg (Eg (y.alloc o) (h.gatr.alloc o) z);have r:=(h.o.alloc o).grown hg (Ba h.gatr h.o (by decide));have D:Fr (λq=>q=ob) w9 (w9.setCell ⟨ob,6,none⟩ (sv g9)):=(Fr.refl (λq=>q=ob) w9).set (p:=⟨ob,6,none⟩) rfl _;have l:∀ {e size n:Nat} {u:Value} {xs:List Value},w9.ownsRow B e size u n xs->e≠31->(w9.setCell ⟨ob,6,none⟩ (sv g9)).ownsRow B e size u n xs:=λy z=>D.own y (λq F e=>Ba y r z (by rw[F,e]));refine⟨⟨by simpa using r.set_ 6 (sv g9),λj E=>l (x (h.rows j E) (by decide)) (by decide),l (x h.latr (by decide)) (by decide),?_,l (x h.symr (by decide)) (by decide),hb.setCell (p:=⟨ob,6,none⟩) h.lo _,h.lo⟩,r⟩;rw[Ww,List.length_append];exact l hown (by decide)
end
def Dx (c:Cir) (k:Nat):List N3:=(Ak c).gat.take (k-(c.ins.length+c.lat.length))
theorem AlU {c:Cir} {k:Nat} (h:k<c.ins.length+c.lat.length):Dx c (k+1)=Dx c k:=by
 unfold Dx;rw[show k+1-(c.ins.length+c.lat.length)=0 by omega,show k-(c.ins.length+c.lat.length)=0 by omega]
theorem AiW {c:Cir} (hg:Ag c) {k i:Nat} (h:(Aw c.gat)[k]?=some i):Dx c (c.ins.length+c.lat.length+k+1)=Dx c (c.ins.length+c.lat.length+k)++ [⟨2*(c.ins.length+c.lat.length+k)+2,max (ofC c (c.gat.getD i z3).b) (ofC c (c.gat.getD i z3).c),min (ofC c (c.gat.getD i z3).b) (ofC c (c.gat.getD i z3).c)⟩]:=by
 unfold Dx;rw[show c.ins.length+c.lat.length+k+1-(c.ins.length+c.lat.length)=k+1 by omega,show c.ins.length+c.lat.length+k-(c.ins.length+c.lat.length)=k by omega,Cy (AfM hg h)]
theorem Akv (c:Cir):Dx c (Av c).length=(Ak c).gat:=by
 unfold Dx;rw[List.take_of_length_le];rw[Ht,It];omega
def AbJ (c:Cir) (x:N3):N3:=⟨ofC c x.a,ofC c x.b,if x.c=x.a then ofC c x.a else x.c⟩
theorem AoY (c:Cir) (T U:List Nat) (l m b:Nat) (s:Sl) (W:World) (hb:Blk W b 26 #[sv s]) (hr:Rd W s.A s.n (zvs (atF m T))) (J:Av c=T++U) (F:Zz T l) (hl:l/2<=m) (hm:m<=16777216) (hT:T.length<=16777215):
  Calls Tryz.prog 32 #[.int .i64 (l:Nat),.pointer (some ⟨b,0,none⟩)] W λe Y=>e= .returned (.int .i64 (ofC c l:Nat))/\Y=W:=by
 have M:s.n=m+1:=by have:=hr.len;rw[Fp]at this;omega
 obtain⟨A,n,C⟩:=s;dsimp only at M hr;subst M
 have B:l/2<m+1:=by omega
 obtain⟨N,x,rfl,_,E,O⟩:=hr.get B;rw[Nb T hl]at E;obtain rfl:=Option.some.inj E;have D:=AdB J F;have hi:T.idxOf (l-l%2)<=T.length:=List.idxOf_le_length
 have j:0<=atV T (l/2)/\atV T (l/2)<=33554432/\atV T (l/2)%2=0:=by
  unfold atV
  by_cases h2:l<2
  ·rw[if_pos (by omega)];omega
  have e:2*(l/2)=l-l%2:=by omega
  rw[if_neg (by omega),e,if_pos (F.resolve_left h2)];omega
 generalize atV T (l/2)=x at*;have E:=Aih x (l%2) j.1 j.2.1 j.2.2 (by omega);rw[D]at E;have p:=Go.Proofs.YtmidbhnhcbpneaaGreatDoor.Lit.and_one (l:Int) (by omega) (by omega)
 have z:bits .and .i64 (l:Int) 1=((l%2:Nat):Int):=by rw[p];omega
 have Z:W.cell? ⟨b,0,none⟩=some (.slice (some N) (m+1) C):=hb.cell 0;generalize ofC c l=r at*;clear p D j hi hb hr;obtain⟨y,hy⟩:∃ y,y=l%2:=⟨_,rfl⟩;rw[<-hy]at E z;replace hy:=Ab hy;replace J:=Ab J;replace F:=Ab F
 have R:(m:Int)<=16777216:=by omega
 have I:(l:Int)/2<m+1:=by omega
 have S:(l:Int).tdiv 2=((l/2:Nat):Int):=by rw[Int.tdiv_eq_ediv_of_nonneg (by omega)];omega
 obtain⟨q,h⟩:∃ q,q=l/2:=⟨_,rfl⟩;rw[<-h]at S O
 have X:(q:Int)<m+1:=by omega
 clear I B hl;replace h:=Ab h
 go_enter Tryz.func32,Tryz.ntmps32
 go_wp2;go_ret
 exact⟨rfl,rfl⟩
end Go.Proofs.YtmidbhnhcbpneaaGreatDoor.Top
end
