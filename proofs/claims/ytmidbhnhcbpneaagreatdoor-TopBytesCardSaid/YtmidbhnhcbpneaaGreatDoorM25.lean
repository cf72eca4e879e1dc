/- A part of the proof. -/
import Derived.Test.YtmidbhnhcbpneaaGreatDoorM17
import Derived.Test.YtmidbhnhcbpneaaGreatDoorM8
set_option linter.unusedVariables false
set_option linter.unusedSimpArgs false
set_option maxRecDepth 8000
set_option maxHeartbeats 8000000
section
namespace Go.Proofs.YtmidbhnhcbpneaaGreatDoor.Top
open Go Go.RowKit Go.Lt YtmidbhnhcbpneaaGreatDoor.Lit YtmidbhnhcbpneaaGreatDoor.Dec
open YtmidbhnhcbpneaaGreatDoor.Circ (T3 enc3 RdT Sl Cv Ae)
theorem Qp (A A2:Option Addr) (n c c2:Nat) (l:List Nat) (w:World) (hn:n<=20000000) (h1:Rd w A n (nvs l)) (h2:Rd w A2 n (nvs l)):
  Calls Tryz.prog 34 #[.slice A n c,.slice A2 n c2] w λe h=>e= .returned (.bool true)/\Below w.heap.size w h:=by
 have z:(n:Int)<=20000000:=by omega
 go_enter Tryz.func34,Tryz.ntmps34
 go_wp2
 go_loopw [5] (λi wr=>∃ k:Nat,i= .int .i64 k/\k<=n/\Hid (Below w.heap.size w wr)) (λi _=>n-(intOf i).toNat)
 case atStart=>exact⟨0,rfl,Nat.zero_le _,Ab (Below.refl _ _)⟩
 case round=>
  obtain⟨k,rfl,I,q⟩:=hrel
  by_cases j:k<n
  ·have m:(k:Int)<n:=by omega
   obtain⟨D,x,rfl,_,r,E⟩:=(h1.below q.o (Nl _)).get j;obtain⟨y,B,rfl,_,p,F⟩:=(h2.below q.o (Nl _)).get j;obtain rfl:x=B:=Option.some.inj (r.symm.trans p);clear r p h1 h2
   go_upto_region 6 with fail
   go_quiet (fail)
   go_wp2;go_roundw
   case rel=>exact⟨k+1,by go_num,j,Ab (q.o.trans (Dr.below ⟨_,rfl⟩ _))⟩
   case measure=>simp[intOf];omega
  have m:¬ (k:Int)<n:=by omega
  go_wp2;go_ret
  exact⟨rfl,q.o⟩
structure SmM (w:World) (ca cb:Array Value) (W:World):Prop where
 a:Blk W w.heap.size 31 ca
 b:Blk W (w.heap.size+1) 31 cb
 bel:Below w.heap.size w W
theorem SmM.after {w W W':World} {ca cb:Array Value} (h:SmM w ca cb W) (hb:Below W.heap.size W W'):SmM w ca cb W':=⟨h.a.below hb h.a.lt,h.b.below hb h.b.lt,h.bel.trans (hb.mono h.bel.size)⟩
theorem Aeu (m:Int) (v v':Cv) (x:Bp) (w:World) (hr:RdC w v x) (hr':RdC w v' x) (hl:Mx x):
  Calls Tryz.prog 10 #[.agg (Ae m v),.agg (Ae m v')] w λe w'=>e= .returned (.bool true)/\Below w.heap.size w w':=by
 have n1:=hr.nIns;have n2:=hr.nLat;have n3:=hr.nOuts;have n4:=hr.nBads;have n5:=hr.nCons;have n6:=hr.nGat;have n7:=hr.nSym;have p1:=hr'.nIns;have p2:=hr'.nLat;have p3:=hr'.nOuts;have p4:=hr'.nBads;have p5:=hr'.nCons;have p6:=hr'.nGat;have p7:=hr'.nSym;have l1:=hl.ins;have l2:=hl.lat;have l3:=hl.outs;have l4:=hl.bads;have l5:=hl.cons;have l6:=hl.gat;have l7:=hl.sym
 have aU:v.com=v'.com:=by rw[hr.com,hr'.com]
 have bC:=AhS;have bB:=Ait;have bD:=AhL;obtain⟨⟨A1,M1,C1⟩,⟨A2,E,C2⟩,⟨A3,M3,C3⟩,⟨A4,M4,C4⟩,⟨A5,M5,C5⟩,⟨A6,F,C6⟩,⟨A7,I,C7⟩,aO⟩:=v;obtain⟨⟨B1,bE,E1⟩,⟨B2,bF,E2⟩,⟨B3,bG,E3⟩,⟨B4,bH,E4⟩,⟨B5,bI,E5⟩,⟨B6,bJ,E6⟩,⟨B7,bK,E7⟩,bA⟩:=v';dsimp only at aU n1 n2 n3 n4 n5 n6 n7 p1 p2 p3 p4 p5 p6 p7;subst aU;rw[<-p1]at n1;rw[<-p2]at n2;rw[<-p3]at n3;rw[<-p4]at n4;rw[<-p5]at n5;rw[<-p6]at n6;rw[<-p7]at n7;subst n1 n2 n3 n4 n5 n6 n7
 have K1:(M1:Int)<=16777216:=by omega
 have K2:(E:Int)<=16777216:=by omega
 have K3:(M3:Int)<=16777216:=by omega
 have K4:(M4:Int)<=16777216:=by omega
 have K5:(M5:Int)<=16777216:=by omega
 have K6:(F:Int)<=16777216:=by omega
 have K7:(I:Int)<=16777216:=by omega
 have HI:=Ab (λ(W:World) (h:Below w.heap.size w W)=>Qp A1 B1 M1 C1 E1 x.c.ins W (by omega) (hr.ins.below h (Nl _)) (hr'.ins.below h (Nl _)));have HO:=Ab (λ(W:World) (h:Below w.heap.size w W)=>Qp A3 B3 M3 C3 E3 x.c.outs W (by omega) (hr.outs.below h (Nl _)) (hr'.outs.below h (Nl _)));have HB:=Ab (λ(W:World) (h:Below w.heap.size w W)=>Qp A4 B4 M4 C4 E4 x.c.bads W (by omega) (hr.bads.below h (Nl _)) (hr'.bads.below h (Nl _)));have HC:=Ab (λ(W:World) (h:Below w.heap.size w W)=>Qp A5 B5 M5 C5 E5 x.c.cons W (by omega) (hr.cons.below h (Nl _)) (hr'.cons.below h (Nl _)));clear p1 p2 p3 p4 p5 p6 p7 l1 l2 l3 l4 l5 l6 l7 hl;simp only[Ae];obtain⟨W2,aP,q0,q1,aZ,aT⟩:=Qd w #[.int .i64 m,.slice A1 M1 C1,.slice A2 E C2,.slice A3 M3 C3,.slice A4 M4 C4,.slice A5 M5 C5,.slice A6 F C6,.slice A7 I C7,.string aO] #[.int .i64 m,.slice B1 M1 E1,.slice B2 E E2,.slice B3 M3 E3,.slice B4 M4 E4,.slice B5 M5 E5,.slice B6 F E6,.slice B7 I E7,.string aO] 31 31;obtain⟨ca,aQ⟩:∃ ca:Array Value,ca= #[.int .i64 m,.slice A1 M1 C1,.slice A2 E C2,.slice A3 M3 C3,.slice A4 M4 C4,.slice A5 M5 C5,.slice A6 F C6,.slice A7 I C7,.string aO]:=⟨_,rfl⟩;obtain⟨cb,aR⟩:∃ cb:Array Value,cb= #[.int .i64 m,.slice B1 M1 E1,.slice B2 E E2,.slice B3 M3 E3,.slice B4 M4 E4,.slice B5 M5 E5,.slice B6 F E6,.slice B7 I E7,.string aO]:=⟨_,rfl⟩;rw[<-aQ]at q0;rw[<-aR]at q1;obtain⟨aB,aC,J,aD,aE,aF,M,N,aH⟩:=c9k aQ;obtain⟨aI,aJ,O,aK,aL,aM,R,S,aN⟩:=c9k aR;have j:=Ab (show SmM w ca cb W2 from⟨q0,q1,aT⟩);clear aQ aR q0 q1 aT aZ;replace aP:=Ab aP
 go_enter Tryz.func10,Tryz.ntmps10
 go_upto_region 1 with fail
 rw[aP.o];clear aP;have f0:=(show Blk _ _ _ _ from j.o.a).cell 0 |>.trans aB.o;have e0:=(show Blk _ _ _ _ from j.o.b).cell 0 |>.trans aI.o;have f1:=(show Blk _ _ _ _ from j.o.a).cell 1 |>.trans aC.o;have e1:=(show Blk _ _ _ _ from j.o.b).cell 1 |>.trans aJ.o;have Z:=(show Blk _ _ _ _ from j.o.a).cell 2 |>.trans J.o;have U:=(show Blk _ _ _ _ from j.o.b).cell 2 |>.trans O.o;have f3:=(show Blk _ _ _ _ from j.o.a).cell 3 |>.trans aD.o;have e3:=(show Blk _ _ _ _ from j.o.b).cell 3 |>.trans aK.o;have f4:=(show Blk _ _ _ _ from j.o.a).cell 4 |>.trans aE.o;have e4:=(show Blk _ _ _ _ from j.o.b).cell 4 |>.trans aL.o;have f5:=(show Blk _ _ _ _ from j.o.a).cell 5 |>.trans aF.o;have e5:=(show Blk _ _ _ _ from j.o.b).cell 5 |>.trans aM.o;have A:=(show Blk _ _ _ _ from j.o.a).cell 6 |>.trans M.o;have X:=(show Blk _ _ _ _ from j.o.b).cell 6 |>.trans R.o;have f7:=(show Blk _ _ _ _ from j.o.a).cell 7 |>.trans N.o;have Y:=(show Blk _ _ _ _ from j.o.b).cell 7 |>.trans S.o;have f8:=(show Blk _ _ _ _ from j.o.a).cell 8 |>.trans aH.o;have e8:=(show Blk _ _ _ _ from j.o.b).cell 8 |>.trans aN.o
 go_wp2_with fail
 refine(HI.o _ j.o.bel).mono ?_;rintro e w3 ⟨rfl,aV⟩;have l:=Ab (j.o.after aV);clear f0 e0 f1 e1 Z U f3 e3 f4 e4 f5 e5 A X f7 Y f8 e8 HI j;have f0:=(show Blk _ _ _ _ from l.o.a).cell 0 |>.trans aB.o;have e0:=(show Blk _ _ _ _ from l.o.b).cell 0 |>.trans aI.o;have f1:=(show Blk _ _ _ _ from l.o.a).cell 1 |>.trans aC.o;have e1:=(show Blk _ _ _ _ from l.o.b).cell 1 |>.trans aJ.o;have Z:=(show Blk _ _ _ _ from l.o.a).cell 2 |>.trans J.o;have U:=(show Blk _ _ _ _ from l.o.b).cell 2 |>.trans O.o;have f3:=(show Blk _ _ _ _ from l.o.a).cell 3 |>.trans aD.o;have e3:=(show Blk _ _ _ _ from l.o.b).cell 3 |>.trans aK.o;have f4:=(show Blk _ _ _ _ from l.o.a).cell 4 |>.trans aE.o;have e4:=(show Blk _ _ _ _ from l.o.b).cell 4 |>.trans aL.o;have f5:=(show Blk _ _ _ _ from l.o.a).cell 5 |>.trans aF.o;have e5:=(show Blk _ _ _ _ from l.o.b).cell 5 |>.trans aM.o;have A:=(show Blk _ _ _ _ from l.o.a).cell 6 |>.trans M.o;have X:=(show Blk _ _ _ _ from l.o.b).cell 6 |>.trans R.o;have f7:=(show Blk _ _ _ _ from l.o.a).cell 7 |>.trans N.o;have Y:=(show Blk _ _ _ _ from l.o.b).cell 7 |>.trans S.o;have f8:=(show Blk _ _ _ _ from l.o.a).cell 8 |>.trans aH.o;have e8:=(show Blk _ _ _ _ from l.o.b).cell 8 |>.trans aN.o
 go_wp2_with fail
 refine(HO.o _ l.o.bel).mono ?_;rintro e w4 ⟨rfl,aW⟩;have p:=Ab (l.o.after aW);clear f0 e0 f1 e1 Z U f3 e3 f4 e4 f5 e5 A X f7 Y f8 e8 HO l;have f0:=(show Blk _ _ _ _ from p.o.a).cell 0 |>.trans aB.o;have e0:=(show Blk _ _ _ _ from p.o.b).cell 0 |>.trans aI.o;have f1:=(show Blk _ _ _ _ from p.o.a).cell 1 |>.trans aC.o;have e1:=(show Blk _ _ _ _ from p.o.b).cell 1 |>.trans aJ.o;have Z:=(show Blk _ _ _ _ from p.o.a).cell 2 |>.trans J.o;have U:=(show Blk _ _ _ _ from p.o.b).cell 2 |>.trans O.o;have f3:=(show Blk _ _ _ _ from p.o.a).cell 3 |>.trans aD.o;have e3:=(show Blk _ _ _ _ from p.o.b).cell 3 |>.trans aK.o;have f4:=(show Blk _ _ _ _ from p.o.a).cell 4 |>.trans aE.o;have e4:=(show Blk _ _ _ _ from p.o.b).cell 4 |>.trans aL.o;have f5:=(show Blk _ _ _ _ from p.o.a).cell 5 |>.trans aF.o;have e5:=(show Blk _ _ _ _ from p.o.b).cell 5 |>.trans aM.o;have A:=(show Blk _ _ _ _ from p.o.a).cell 6 |>.trans M.o;have X:=(show Blk _ _ _ _ from p.o.b).cell 6 |>.trans R.o;have f7:=(show Blk _ _ _ _ from p.o.a).cell 7 |>.trans N.o;have Y:=(show Blk _ _ _ _ from p.o.b).cell 7 |>.trans S.o;have f8:=(show Blk _ _ _ _ from p.o.a).cell 8 |>.trans aH.o;have e8:=(show Blk _ _ _ _ from p.o.b).cell 8 |>.trans aN.o
 go_wp2_with fail
 refine(HB.o _ p.o.bel).mono ?_;rintro e w5 ⟨rfl,aX⟩;have q:=Ab (p.o.after aX);clear f0 e0 f1 e1 Z U f3 e3 f4 e4 f5 e5 A X f7 Y f8 e8 HB p;have f0:=(show Blk _ _ _ _ from q.o.a).cell 0 |>.trans aB.o;have e0:=(show Blk _ _ _ _ from q.o.b).cell 0 |>.trans aI.o;have f1:=(show Blk _ _ _ _ from q.o.a).cell 1 |>.trans aC.o;have e1:=(show Blk _ _ _ _ from q.o.b).cell 1 |>.trans aJ.o;have Z:=(show Blk _ _ _ _ from q.o.a).cell 2 |>.trans J.o;have U:=(show Blk _ _ _ _ from q.o.b).cell 2 |>.trans O.o;have f3:=(show Blk _ _ _ _ from q.o.a).cell 3 |>.trans aD.o;have e3:=(show Blk _ _ _ _ from q.o.b).cell 3 |>.trans aK.o;have f4:=(show Blk _ _ _ _ from q.o.a).cell 4 |>.trans aE.o;have e4:=(show Blk _ _ _ _ from q.o.b).cell 4 |>.trans aL.o;have f5:=(show Blk _ _ _ _ from q.o.a).cell 5 |>.trans aF.o;have e5:=(show Blk _ _ _ _ from q.o.b).cell 5 |>.trans aM.o;have A:=(show Blk _ _ _ _ from q.o.a).cell 6 |>.trans M.o;have X:=(show Blk _ _ _ _ from q.o.b).cell 6 |>.trans R.o;have f7:=(show Blk _ _ _ _ from q.o.a).cell 7 |>.trans N.o;have Y:=(show Blk _ _ _ _ from q.o.b).cell 7 |>.trans S.o;have f8:=(show Blk _ _ _ _ from q.o.a).cell 8 |>.trans aH.o;have e8:=(show Blk _ _ _ _ from q.o.b).cell 8 |>.trans aN.o
 go_wp2_with fail
 refine(HC.o _ q.o.bel).mono ?_;rintro e w6 ⟨rfl,aY⟩;have r:=Ab (q.o.after aY);clear f0 e0 f1 e1 Z U f3 e3 f4 e4 f5 e5 A X f7 Y f8 e8 HC q;have f0:=(show Blk _ _ _ _ from r.o.a).cell 0 |>.trans aB.o;have e0:=(show Blk _ _ _ _ from r.o.b).cell 0 |>.trans aI.o;have f1:=(show Blk _ _ _ _ from r.o.a).cell 1 |>.trans aC.o;have e1:=(show Blk _ _ _ _ from r.o.b).cell 1 |>.trans aJ.o;have Z:=(show Blk _ _ _ _ from r.o.a).cell 2 |>.trans J.o;have U:=(show Blk _ _ _ _ from r.o.b).cell 2 |>.trans O.o;have f3:=(show Blk _ _ _ _ from r.o.a).cell 3 |>.trans aD.o;have e3:=(show Blk _ _ _ _ from r.o.b).cell 3 |>.trans aK.o;have f4:=(show Blk _ _ _ _ from r.o.a).cell 4 |>.trans aE.o;have e4:=(show Blk _ _ _ _ from r.o.b).cell 4 |>.trans aL.o;have f5:=(show Blk _ _ _ _ from r.o.a).cell 5 |>.trans aF.o;have e5:=(show Blk _ _ _ _ from r.o.b).cell 5 |>.trans aM.o;have A:=(show Blk _ _ _ _ from r.o.a).cell 6 |>.trans M.o;have X:=(show Blk _ _ _ _ from r.o.b).cell 6 |>.trans R.o;have f7:=(show Blk _ _ _ _ from r.o.a).cell 7 |>.trans N.o;have Y:=(show Blk _ _ _ _ from r.o.b).cell 7 |>.trans S.o;have f8:=(show Blk _ _ _ _ from r.o.a).cell 8 |>.trans aH.o;have e8:=(show Blk _ _ _ _ from r.o.b).cell 8 |>.trans aN.o;go_wp2;clear f0 e0 f1 e1 Z U f3 e3 f4 e4 f5 e5 A X f7 Y f8 e8
 go_loopw [5] (λi wr=>∃ k:Nat,i= .int .i64 k/\k<=E/\Hid (SmM w ca cb wr)) (λi _=>E-(intOf i).toNat)
 case atStart=>exact⟨0,rfl,Nat.zero_le _,r⟩
 case round=>
  obtain⟨k,rfl,hk,z⟩:=hrel;have Z:=z.o.a.cell 2 |>.trans J.o;have U:=z.o.b.cell 2 |>.trans O.o
  by_cases y:k<E
  ·have B:(k:Int)<E:=by omega
   have ha:=hr.below z.o.bel (Nl _);have h:=hr'.below z.o.bel (Nl _);obtain⟨ad,x1,hA,_,hx,d0,d1,d2⟩:=(show RdT _ A2 E (x.c.lat.map t3) from ha.lat).get y;obtain⟨aS,x2,aA,_,D,b0,b1,b2⟩:=(show RdT _ B2 E (x.c.lat.map t3) from h.lat).get y;obtain rfl:x1=x2:=Option.some.inj (hx.symm.trans D);rw[hA]at Z;rw[aA]at U;clear ha h hx D
   go_upto_region 8 with fail
   go_quiet (fail)
   go_wp2;go_roundw
   case rel=>exact⟨k+1,by go_num,y,Ab (z.o.after (Dr.below ⟨_,rfl⟩ _))⟩
   case measure=>simp[intOf];omega
  obtain rfl:E=k:=by omega
  have B:¬ (E:Int)<E:=by omega
  go_wp2
  go_loopw [6] (λi wr=>∃ k:Nat,i= .int .i64 k/\k<=F/\Hid (SmM w ca cb wr)) (λi _=>F-(intOf i).toNat)
  case atStart=>exact⟨0,rfl,Nat.zero_le _,z⟩
  case round=>
   obtain⟨k,rfl,hk,z⟩:=hrel;have A:=z.o.a.cell 6 |>.trans M.o;have X:=z.o.b.cell 6 |>.trans R.o
   by_cases y:k<F
   ·have B:(k:Int)<F:=by omega
    have ha:=hr.below z.o.bel (Nl _);have h:=hr'.below z.o.bel (Nl _);obtain⟨ad,x1,hA,_,hx,d0,d1,d2⟩:=(show RdT _ A6 F (x.c.gat.map t3) from ha.gat).get y;obtain⟨aS,x2,aA,_,D,b0,b1,b2⟩:=(show RdT _ B6 F (x.c.gat.map t3) from h.gat).get y;obtain rfl:x1=x2:=Option.some.inj (hx.symm.trans D);rw[hA]at A;rw[aA]at X;clear ha h hx D
    go_upto_region 13 with fail
    go_quiet (fail)
    go_wp2;go_roundw
    case rel=>exact⟨k+1,by go_num,y,Ab (z.o.after (Dr.below ⟨_,rfl⟩ _))⟩
    case measure=>simp[intOf];omega
   obtain rfl:F=k:=by omega
   have B:¬ (F:Int)<F:=by omega
   go_wp2
   go_loopw [7] (λi wr=>∃ k:Nat,i= .int .i64 k/\k<=I/\Hid (SmM w ca cb wr)) (λi _=>I-(intOf i).toNat)
   case atStart=>exact⟨0,rfl,Nat.zero_le _,z⟩
   case round=>
    obtain⟨k,rfl,hk,z⟩:=hrel;have f7:=z.o.a.cell 7 |>.trans N.o;have Y:=z.o.b.cell 7 |>.trans S.o
    by_cases y:k<I
    ·have B:(k:Int)<I:=by omega
     have ha:=hr.below z.o.bel (Nl _);have h:=hr'.below z.o.bel (Nl _);obtain⟨ad,x1,hA,hx,d0,d1,d2⟩:=We (show RdS _ A7 I 3 (Kv x.sym) from ha.sym) y;obtain⟨aS,x2,aA,D,b0,b1,b2⟩:=We (show RdS _ B7 I 3 (Kv x.sym) from h.sym) y;obtain rfl:x1=x2:=Option.some.inj (hx.symm.trans D);rw[hA]at f7;rw[aA]at Y;clear ha h hx D
     go_upto_region 18 with fail
     go_quiet (fail)
     go_wp2;go_roundw
     case rel=>exact⟨k+1,by go_num,y,Ab (z.o.after (Dr.below ⟨_,rfl⟩ _))⟩
     case measure=>simp[intOf];omega
    obtain rfl:I=k:=by omega
    have B:¬ (I:Int)<I:=by omega
    go_wp2;go_ret
    exact⟨rfl,z.o.bel⟩
end Go.Proofs.YtmidbhnhcbpneaaGreatDoor.Top
end
