/- A part of the proof. -/
import Derived.Test.YtmidbhnhcbpneaaGreatDoorM24
import Derived.Test.YtmidbhnhcbpneaaGreatDoorM17
import Derived.Test.YtmidbhnhcbpneaaGreatDoorM25
import Derived.Test.YtmidbhnhcbpneaaGreatDoorM34
import Derived.Test.YtmidbhnhcbpneaaGreatDoorM3
set_option linter.unusedVariables false
set_option linter.unusedSimpArgs false
set_option maxRecDepth 8000
set_option maxHeartbeats 8000000
section
namespace Go.Proofs.YtmidbhnhcbpneaaGreatDoor.Top
open Go Go.RowKit Go.Lt YtmidbhnhcbpneaaGreatDoor.Lit YtmidbhnhcbpneaaGreatDoor.Dec
open YtmidbhnhcbpneaaGreatDoor.Circ (T3 enc3 RdT Sl Cv Ae)
structure CrM (g:Nat) (cs:Array Value) (v:Cv) (x:Bp) (W:World):Prop where
 blk:Blk W g 31 cs
 rd:RdC W v x
 val:Wy W.heap.size v
theorem CrM.after {g:Nat} {cs:Array Value} {v:Cv} {x:Bp} {W W':World} (h:CrM g cs v x W) (hb:Below W.heap.size W W'):CrM g cs v x W':=
 ⟨h.blk.below hb h.blk.lt,h.rd.below hb (Nl _),λl j=>Nat.lt_of_lt_of_le (h.val l j) hb.size⟩
abbrev Xy:Array Value:= #[.int .i64 0,.slice none 0 0,.slice none 0 0,.slice none 0 0,.slice none 0 0,.slice none 0 0,.slice none 0 0,.slice none 0 0,.string ⟨#[]⟩]
structure Aps (cs:Array Value):Prop where
 size:(Tryz.prog.info? 31).map (·.size)=some cs.size
 nine:Xy.size=cs.size
 one:cs.all (·.oneCell')=true
theorem Zf (m:Int) (v:Cv):Aps (Ae m v):=⟨by kernel_rfl,rfl,by simp[Value.oneCell']⟩
theorem CrM.new {W:World} {v:Cv} {x:Bp} {cs:Array Value} (hr:RdC W v x) (hv:Wy W.heap.size v) (hcs:Aps cs):
  ∃W1 W2,W.alloc (.cells Xy 31)=W1/\Blk W1 W.heap.size 31 Xy/\W1.setRow W.heap.size cs=W2/\CrM W.heap.size cs v x W2/\Below W.heap.size W W2:=by
 obtain⟨W1,m,q,l⟩:=Bb W Xy 31;have j:Below W.heap.size W (W1.setRow W.heap.size cs):={os:=l.os,tape:=l.tape,output:=l.output,size:=by rw[setRow_size];exact l.size,block:=λk y=>(setRow_other _ _ _ _ (by omega)).trans (l.block k y)}
 exact⟨W1,_,m,q,rfl,⟨setRow_heap _ _ _ _ _ _ q,hr.below j (Nl _),λr p=>Nat.lt_of_lt_of_le (hv r p) j.size⟩,j⟩
theorem Aef (W:World):RdC W Vj ⟨⟨0,[],[],[],[],[],[]⟩,[],[]⟩:=
 ⟨Rd.nil _ _,Circ.RdT.nil _ _,Rd.nil _ _,Rd.nil _ _,Rd.nil _ _,Circ.RdT.nil _ _,⟨rfl,.inl rfl⟩,rfl⟩
theorem Zi.get {s:ByteArray} {w w':World} {e:Ending} (h:Zi s w e w'):∃ (x:Bp) (v:Cv) (a c:Int),e= .returned (.tuple #[.agg (Ae x.c.max v),.int .i64 a,.int .i64 c])/\RdC w' v x/\Wy w'.heap.size v/\Below w.heap.size w w'/\
  ((c=0/\Said s x/\Ag x.c)∨(c≠0/\v=Vj/\x=⟨⟨0,[],[],[],[],[],[]⟩,[],[]⟩)):=by
 obtain⟨⟨x,v,a,y,q,m,rfl⟩|⟨r,a,c,p,rfl⟩,l⟩:=h
 ·exact⟨x,v,a,0,rfl,m.rd,m.val,l,.inl ⟨rfl,y,q⟩⟩
 exact⟨⟨⟨0,[],[],[],[],[],[]⟩,[],[]⟩,Vj,a,c,rfl,Aef _,λz j=>(by rcases j with h|h|h<;>cases h),l,.inr ⟨p,rfl,rfl⟩⟩
structure LwM (w:World) (St In:Sl) (W:World):Prop where
 run:Blk W w.heap.size 25 #[sv St,sv In]
 bel:Below w.heap.size w W
theorem LwM.after {w W W':World} {St In:Sl} (h:LwM w St In W) (hb:Below W.heap.size W W'):LwM w St In W':=
 ⟨h.run.below hb h.run.lt,h.bel.trans (hb.mono h.bel.size)⟩
theorem Adq (s:ByteArray) (St In:Sl) (s0:List Bool) (rows:List (List Bool)) (prop:Int) (w:World) (hs:RdB w St s0) (hi:RdU w In rows) (hp:Sr w):
  Calls Tryz.prog 3 #[.string s,.agg #[sv St,sv In],.int .i64 prop] w λe w'=>e= .returned (.bool true)/\Below w.heap.size w w':=by
 obtain⟨W1,aP,q0,cQ⟩:=Bb w #[sv St,sv In] 25;have bQ:Hid (LwM w St In W1):=Ab ⟨q0,cQ⟩;have bN:=Ab (λW=>Agi W);replace hs:=Ab hs;replace hi:=Ab hi;replace hp:=Ab hp;replace aP:=Ab aP;clear q0 cQ;dsimp only[sv]at aP ⊢
 go_enter Tryz.func3,Tryz.ntmps3
 go_upto_region 1 with fail
 rw[aP.o];clear aP
 go_upto_if 24 with fail
 go_cut [0] from 25 to 27 (λs0 wx=>(∃t:ByteArray,t.size<=2000/\s0= .string t)/\wx=W1)
 case first=>
  by_cases aY:s.size<=2000
  ·have dB:¬ (s.size:Int)>2000:=by omega
   have hl:=Ab aY;clear aY;go_wp2;go_meet
   case rel=>exact⟨⟨s,hl.o,rfl⟩,rfl⟩
  have dB:(s.size:Int)>2000:=by omega
  have dI:∀ W,(Instr.slice 9 (.string s) none (some (.int .i64 2000)) none).run Tryz.prog W= .ok (.string (s.extract 0 2000)) W:=λW=>run_slice_string_h W _ s Tryz.underlying9 .i64 2000 (by decide) (by omega);have hl:=Ab (show(s.extract 0 2000).size<=2000 by rw[ByteArray.size_extract];omega);clear aY;go_wp2;go_meet
  case rel=>exact⟨⟨_,hl.o,rfl⟩,rfl⟩
 obtain⟨⟨t,ht,rfl⟩,rfl⟩:=hcut;have HP:=Ab (Ys t wc (by omega));clear ht
 go_wp2_with fail
 refine HP.o.mono ?_;rintro e w2 h2;obtain⟨x,v,a,c,rfl,cY,cZ,bG,J⟩:=h2.get;clear h2 HP;have m:=Zf x.c.max v;obtain⟨U,R⟩:∃ U,Ae x.c.max v=U:=⟨_,rfl⟩;rw[R]at m ⊢;obtain⟨Wz,W2,r,qz,bF,D,z⟩:=CrM.new cY cZ m;have bE:=Ab ((bQ.o.after bG).after z);have dC:=Ab ((hp.o.below bQ.o.bel).below (bG.trans (z.mono bG.size)));clear cY cZ bG z bQ;replace r:=Ab r;replace bF:=Ab bF;replace D:=Ab D;replace qz:=Ab qz;replace R:=Ab R;replace m:=Ab m;replace J:=Ab J
 go_upto_region 4 with(refine Fz rfl 31 _ _ rfl w2.heap.size U (by rfl) (by rfl) 31 Xy (by rw[r.o];exact qz.o) m.o.size m.o.nine m.o.one ?_;rw[r.o,bF.o])
 obtain⟨g1,cV⟩:∃ g,w2.heap.size=g:=⟨_,rfl⟩;rw[cV]at D ⊢;clear r bF qz cV
 rcases J.o with⟨rfl,aZ,aD⟩|⟨cT,rfl,rfl⟩
 case inr=>
  clear J;have dH:¬ c=0:=cT;clear cT
  go_wp2_with (refine wpList_load_row rfl 31 _ rfl g1 (by rfl) 31 U (0,0) _ D.o.blk Tryz.underlying31 (by rfl) m.o.size ?_)
  rw[<-R.o];refine(AcA _ Vj Vj ⟨⟨0,[],[],[],[],[],[]⟩,[],[]⟩ _ (Aef _) (Aef _) ⟨by decide,by decide,by decide,by decide,by decide,by decide,by decide⟩).mono ?_;rintro e w3 ⟨rfl,O⟩;have I:=Ab (bE.o.after O);clear O
  go_wp2_with fail
  refine(bN.o _).mono ?_;rintro e w4 ⟨rfl,Z⟩;have aI:=Ab (I.o.after Z);clear Z;go_wp2;go_ret
  exact⟨rfl,aI.o.bel⟩
 clear J
 go_upto_region 6 with fail
 go_cut [55] from 41 to 56 (λdD wx=>∃ b:Bool,dD= .bool b/\(b=false->AbQ x/\x.c.max<=300/\In.n<=10)/\Hid (LwM w St In wx/\CrM g1 U v x wx))
 case first=>
  have HS:=Agv v x W2 aD D.o.rd;rw[R.o]at HS;replace HS:=Ab HS
  go_wp2_with (refine wpList_load_row rfl 31 _ rfl g1 (by rfl) 31 U (0,0) _ D.o.blk Tryz.underlying31 (by rfl) m.o.size ?_)
  refine HS.o.mono ?_;rintro e w3 ⟨b,rfl,O,hb⟩;have I:=Ab (bE.o.after O);have B:=Ab (D.o.after O);clear O HS bE D
  cases b with
  |false=>
   clear hb;go_wp2;go_meet
   case rel=>exact⟨true,rfl,λh=>(by cases h),Ab ⟨I.o,B.o⟩⟩
  |true=>
   replace hb:=Ab (hb rfl);have c1:w3.cell? ⟨w.heap.size,1,none⟩=some (.slice In.A In.n In.c):=I.o.run.cell 1;have c0:w3.cell? ⟨w.heap.size,0,none⟩=some (.slice St.A St.n St.c):=I.o.run.cell 0
   by_cases aH:In.n<=10
   ·have cW:¬ (In.n:Int)>10:=by omega
    replace aH:=Ab aH
    by_cases dG:(St.n:Int)>60
    ·go_wp2;go_meet
     case rel=>exact⟨true,rfl,λh=>(by cases h),Ab ⟨I.o,B.o⟩⟩
    go_wp2;go_meet
    case rel=>exact⟨_,rfl,λh=>⟨hb.o.1,hb.o.2,aH.o⟩,Ab ⟨I.o,B.o⟩⟩
   have cW:(In.n:Int)>10:=by omega
   clear aH;go_wp2;go_meet
   case rel=>exact⟨true,rfl,λh=>(by cases h),Ab ⟨I.o,B.o⟩⟩
 obtain⟨b,rfl,M,aB⟩:=hcut;replace M:=Ab M
 cases b with
 |true=>
  clear M
  go_wp2_with fail
  refine(bN.o _).mono ?_;rintro e w4 ⟨rfl,Z⟩;have aI:=Ab (aB.o.1.after Z);clear Z;go_wp2;go_ret
  exact⟨rfl,aI.o.bel⟩
 |false=>
  have j:Seen x:=AnG aZ aD (M.o rfl).1 (M.o rfl).2.1;have aH:=Ab (M.o rfl).2.2;have cX:=Ab (hp.o.below aB.o.1.bel);have F:=Yf v x false wc aB.o.2.rd j.len aB.o.2.val j.okA cX.o;have E:=λW=>Aao j.okA.file j.good j.few W;obtain⟨pb,bY⟩:∃ pb:ByteArray,(⟨(Km x false).toArray⟩:ByteArray)=pb:=⟨_,rfl⟩;dsimp only[tstr]at F E;rw[bY,R.o]at F;rw[bY]at E;replace F:=Ab F;replace E:=Ab E;replace j:=Ab j;clear bY M aZ aD cX bE D dC
  go_upto_region 9 with(first|(go_at_call 8;refine F.o.mono ?_;rintro e w3 ⟨rfl,O⟩)|(refine wpList_load_row rfl 31 _ rfl g1 (by rfl) 31 U (0,0) _ aB.o.2.blk Tryz.underlying31 (by rfl) m.o.size ?_))
  have I:=Ab (aB.o.1.after O);have B:=Ab (aB.o.2.after O);clear O F aB
  go_wp2_with fail
  refine(E.o _).mono ?_;rintro e w4 ⟨v2,a2,bV,rfl,Z⟩;have y:=Zf x.c.max v2;obtain⟨cA,aF⟩:∃ U,Ae x.c.max v2=U:=⟨_,rfl⟩;rw[aF]at y ⊢;clear E;obtain⟨Wz,W2,r,qz,hW,D,z⟩:=CrM.new bV.rd bV.val y;have aI:=Ab ((I.o.after Z).after z);have N:=Ab ((B.o.after Z).after z);clear I B Z z;replace r:=Ab r;replace hW:=Ab hW;replace D:=Ab D;replace qz:=Ab qz;replace aF:=Ab aF;replace y:=Ab y
  go_upto_region 10 with(refine Fz rfl 31 _ _ rfl w4.heap.size cA (by rfl) (by rfl) 31 Xy (by rw[r.o];exact qz.o) y.o.size y.o.nine y.o.one ?_;rw[r.o,hW.o])
  obtain⟨g2,hg⟩:∃ g,w4.heap.size=g:=⟨_,rfl⟩;rw[hg]at D ⊢;clear r hW qz hg;clear bV;have aK:=Ut v x W2 N.o.rd j.o.len j.o.good (Nat.le_trans j.o.few6.max (by decide));rw[R.o]at aK;replace aK:=Ab aK
  go_wp2_with (refine wpList_load_row rfl 31 _ rfl g1 (by rfl) 31 U (0,0) _ N.o.blk Tryz.underlying31 (by rfl) m.o.size ?_)
  refine aK.o.mono ?_;rintro e w5 ⟨v3,sa,rfl,bW,bH⟩;clear aK;dsimp only[sv];have q:=Zf (Ak x.c).max v3;obtain⟨bO,aA⟩:∃ U,Ae (Ak x.c).max v3=U:=⟨_,rfl⟩;rw[aA]at q ⊢;obtain⟨Wz,W3,r,qz,hW,B,z⟩:=CrM.new bW.rd bW.val q;have bR:=Ab ((aI.o.after bH).after z);have cC:=Ab ((N.o.after bH).after z);have cG:=Ab ((D.o.after bH).after z);clear aI N D bH z;replace r:=Ab r;replace hW:=Ab hW;replace B:=Ab B;replace qz:=Ab qz;replace aA:=Ab aA;replace q:=Ab q
  go_upto_region 11 with(refine Fz rfl 31 _ _ rfl w5.heap.size bO (by rfl) (by rfl) 31 Xy (by rw[r.o];exact qz.o) q.o.size q.o.nine q.o.one ?_;rw[r.o,hW.o])
  obtain⟨g3,hg⟩:∃ g,w5.heap.size=g:=⟨_,rfl⟩;rw[hg]at B ⊢;clear r hW qz hg;clear bW;have F:=Yf v3 (Pv x) true W3 B.o.rd j.o.lenN B.o.val j.o.okB (hp.o.below bR.o.bel);have E:=λW=>Aao j.o.okB.file j.o.goodN j.o.cN W;obtain⟨qb,bZ⟩:∃ qb:ByteArray,(⟨(Km (Pv x) true).toArray⟩:ByteArray)=qb:=⟨_,rfl⟩;dsimp only[tstr]at F E;rw[bZ,aA.o]at F;rw[bZ]at E;replace F:=Ab F;replace E:=Ab E;clear bZ
  go_upto_region 12 with(first|(go_at_call 8;refine F.o.mono ?_;rintro e w6 ⟨rfl,aV⟩)|(refine wpList_load_row rfl 31 _ rfl g3 (by rfl) 31 bO (0,0) _ B.o.blk Tryz.underlying31 (by rfl) q.o.size ?_))
  have cJ:=Ab (bR.o.after aV);have cE:=Ab (cC.o.after aV);have cH:=Ab (cG.o.after aV);have cO:=Ab (B.o.after aV);clear aV F bR cC cG B
  go_wp2_with fail
  refine(E.o _).mono ?_;rintro e w7 ⟨v4,a4,bX,rfl,aW⟩;clear E;have p:=Zf (Ak x.c).max v4;obtain⟨Y,X⟩:∃ U,Ae (Ak x.c).max v4=U:=⟨_,rfl⟩;rw[X]at p ⊢;obtain⟨Wz,W4,r,qz,hW,N,z⟩:=CrM.new bX.rd bX.val p;have cK:=Ab ((cJ.o.after aW).after z);have bD:=Ab ((cE.o.after aW).after z);have bP:=Ab ((cH.o.after aW).after z);have cP:=Ab ((cO.o.after aW).after z);clear cJ cE cH cO aW z;replace r:=Ab r;replace hW:=Ab hW;replace N:=Ab N;replace qz:=Ab qz;replace X:=Ab X;replace p:=Ab p
  go_upto_region 13 with(refine Fz rfl 31 _ _ rfl w7.heap.size Y (by rfl) (by rfl) 31 Xy (by rw[r.o];exact qz.o) p.o.size p.o.nine p.o.one ?_;rw[r.o,hW.o])
  obtain⟨g4,hg⟩:∃ g,w7.heap.size=g:=⟨_,rfl⟩;rw[hg]at N ⊢;clear r hW qz hg;clear bX;have cB:=N;clear N;have aL:=Aeu x.c.max v v2 x W4 bD.o.rd bP.o.rd j.o.len;rw[R.o,aF.o]at aL;replace aL:=Ab aL
  go_wp2_with (first|(refine Fc (by kernel_rfl) ?_;refine wpList_load_row rfl 31 _ rfl g1 (by rfl) 31 U (0,0) _ bD.o.blk Tryz.underlying31 (by rfl) m.o.size ?_)|(refine Fc (by kernel_rfl) ?_;refine wpList_load_row rfl 31 _ rfl g2 (by rfl) 31 cA (0,0) _ bP.o.blk Tryz.underlying31 (by rfl) y.o.size ?_))
  refine aL.o.mono ?_;rintro e w8 ⟨rfl,aX⟩;clear aL bP;have cL:=Ab (cK.o.after aX);have cF:=Ab (bD.o.after aX);have bU:=Ab (cP.o.after aX);have bC:=Ab (cB.o.after aX);clear aX cK bD cP cB;have aM:=Aeu (Ak x.c).max v3 v4 (Pv x) w8 bU.o.rd bC.o.rd j.o.lenN;rw[aA.o,X.o]at aM;replace aM:=Ab aM
  go_wp2_with (first|(refine Fc (by kernel_rfl) ?_;refine wpList_load_row rfl 31 _ rfl g3 (by rfl) 31 bO (0,0) _ bU.o.blk Tryz.underlying31 (by rfl) q.o.size ?_)|(refine Fc (by kernel_rfl) ?_;refine wpList_load_row rfl 31 _ rfl g4 (by rfl) 31 Y (0,0) _ bC.o.blk Tryz.underlying31 (by rfl) p.o.size ?_))
  refine aM.o.mono ?_;rintro e w9 ⟨rfl,bI⟩;clear aM bU;have cM:=Ab (cL.o.after bI);have aO:=Ab (cF.o.after bI);have aN:=Ab (bC.o.after bI);clear bI cL cF bC;have HM:=AeO v v4 x (Pv x) w9 aO.o.rd aN.o.rd j.o.len j.o.lenN j.o.good j.o.goodN (Nat.le_trans j.o.few6.max (by decide)) (Nat.le_trans j.o.fewN.max (by decide)) aO.o.val aN.o.val ⟨j.o.lenN.ins,j.o.lenN.lat,j.o.lenN.outs,j.o.lenN.bads,j.o.lenN.cons,j.o.lenN.gat,Nat.zero_le _⟩ (AmQ j.o.good);rw[R.o,show Ae (Pv x).c.max v4=Y from X.o]at HM;replace HM:=Ab HM
  go_wp2_with (first|(refine Fc (by kernel_rfl) ?_;refine wpList_load_row rfl 31 _ rfl g1 (by rfl) 31 U (0,0) _ aO.o.blk Tryz.underlying31 (by rfl) m.o.size ?_)|(refine Fc (by kernel_rfl) ?_;refine wpList_load_row rfl 31 _ rfl g4 (by rfl) 31 Y (0,0) _ aN.o.blk Tryz.underlying31 (by rfl) p.o.size ?_))
  refine HM.o.mono ?_;rintro e aJ ⟨rfl,aE⟩;clear HM;have bM:=Ab (cM.o.after aE);have bL:=Ab (aO.o.after aE);have bK:=Ab (aN.o.after aE);clear aE cM aO aN;have bA:=λW (h:CrM g1 U v x W)=>Afj v x W j.o.few6 j.o.good h.rd;rw[R.o]at bA;have bB:=λW (h:CrM g4 Y v4 (Pv x) W)=>Afj v4 (Pv x) W j.o.fewN j.o.goodN h.rd;rw[show Ae (Pv x).c.max v4=Y from X.o]at bB;replace bA:=Ab bA;replace bB:=Ab bB;have hI:=λW (h:LwM w St In W)=>(⟨hs.o.below h.bel,(hi.o.below h.bel).few (by have:=aH.o;omega)⟩:RdB W St s0/\RdR W In rows);replace hI:=Ab hI;obtain⟨bb,bJ⟩:∃ bb,Fe x.c s0 rows prop=bb:=⟨_,rfl⟩;have cS:Hid (Fe (Ak x.c) s0 rows prop=bb):=Ab (by rw[AgO j.o.good];exact bJ);replace bJ:=Ab bJ
  go_upto_region 15 with fail
  have dA:Hid (LwM w St In aJ.drew/\CrM g1 U v x aJ.drew/\CrM g4 Y v4 (Pv x) aJ.drew):=Ab ⟨bM.o.after ((Dr.refl aJ).drew.below _),bL.o.after ((Dr.refl aJ).drew.below _),bK.o.after ((Dr.refl aJ).drew.below _)⟩;clear bM bL bK;refine wp_region_held_drew (S:=λW'=>Hid (LwM w St In W'/\CrM g1 U v x W'/\CrM g4 Y v4 (Pv x) W')) (by kernel_rfl) dA (λl=>?_);refine tk 0 (hy:=λwz aC=>Ub _ _ g1 U rfl rfl _ _ _ aC.o.2.1.blk Tryz.underlying31 rfl m.o.size) (h:=tk 2 (hy:=λwz aC=>Ub _ _ w.heap.size _ rfl rfl _ _ _ aC.o.1.run Tryz.underlying25 rfl (by kernel_rfl)) (h:=tk 3 (h:=tk 5 (hy:=λwz aC=>Ub _ _ g4 Y rfl rfl _ _ _ aC.o.2.2.blk Tryz.underlying31 rfl p.o.size) (h:=tk 7 (hy:=λwz aC=>Ub _ _ w.heap.size _ rfl rfl _ _ _ aC.o.1.run Tryz.underlying25 rfl (by kernel_rfl)) (h:=tk 8 (h:=?_))))));refine wpAnyH_ready (rs:=[1]) (by kernel_rfl) (by simp) ?_;refine AllReadyH.cons rfl (λK hK=>?_) AllReadyH.nil;go_simp;refine(bA.o _ l.o.2.1).mono ?_;rintro e dJ ⟨g5,sn,sa,rfl,bS,aQ⟩;replace bS:=Ab bS;refine hK.o _ _ (Ab ⟨l.o.1.after aQ,l.o.2.1.after aQ,l.o.2.2.after aQ⟩) (λl=>?_);clear hK K
  try simp only[Act.put,pt]
  refine wpAnyH_ready (rs:=[4]) (by kernel_rfl) (by simp) ?_;refine AllReadyH.cons rfl (λK hK=>?_) AllReadyH.nil;go_simp;refine(AeI g5 v x sn sa St In s0 rows prop _ bS.o j.o.good j.o.few6 j.o.few.cons j.o.few.bads (hI.o _ l.o.1).1 (hI.o _ l.o.1).2).mono ?_;rintro e dK ⟨rfl,aR⟩;rw[bJ.o];refine hK.o _ _ (Ab ⟨l.o.1.after aR,l.o.2.1.after aR,l.o.2.2.after aR⟩) (λl=>?_);clear hK K
  try simp only[Act.put,pt]
  refine wpAnyH_ready (rs:=[6]) (by kernel_rfl) (by simp) ?_;refine AllReadyH.cons rfl (λK hK=>?_) AllReadyH.nil;go_simp;refine(bB.o _ l.o.2.2).mono ?_;rintro e dL ⟨g6,dF,dE,rfl,bT,aS⟩;replace bT:=Ab bT;refine hK.o _ _ (Ab ⟨l.o.1.after aS,l.o.2.1.after aS,l.o.2.2.after aS⟩) (λl=>?_);clear hK K
  try simp only[Act.put,pt]
  refine wpAnyH_ready (rs:=[9]) (by kernel_rfl) (by simp) ?_;refine AllReadyH.cons rfl (λK hK=>?_) AllReadyH.nil;go_simp;refine(AeI g6 v4 (Pv x) dF dE St In s0 rows prop _ bT.o j.o.goodN j.o.fewN j.o.cN.cons j.o.cN.bads (hI.o _ l.o.1).1 (hI.o _ l.o.1).2).mono ?_;rintro e dM ⟨rfl,aT⟩;rw[show Fe (Pv x).c s0 rows prop=bb from cS.o];refine hK.o _ _ (Ab ⟨l.o.1.after aT,l.o.2.1.after aT,l.o.2.2.after aT⟩) (λl=>?_);refine tk 10 (v:= .bool true) (h:=tk 11 (h:=?_));refine wpAnyH_ready (rs:=[12]) (by kernel_rfl) (by simp) ?_;refine AllReadyH.cons rfl (λK hK=>?_) AllReadyH.nil;go_simp;refine(bN.o _).mono ?_;rintro e dN ⟨rfl,aU⟩;refine hK.o _ _ (Ab ⟨l.o.1.after aU,l.o.2.1.after aU,l.o.2.2.after aU⟩) (λl=>?_);refine tk 13 (h:=tk 14 (h:=?_));refine wpAnyH_done (by kernel_rfl) ?_ _;go_wp2;go_ret
  exact⟨rfl,l.o.1.bel⟩
end Go.Proofs.YtmidbhnhcbpneaaGreatDoor.Top
end
