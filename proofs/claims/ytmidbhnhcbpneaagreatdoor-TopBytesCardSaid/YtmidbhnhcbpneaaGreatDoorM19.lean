/- A part of the proof. -/
import Derived.Test.YtmidbhnhcbpneaaGreatDoorM3
import Derived.Test.YtmidbhnhcbpneaaGreatDoorM18
import Derived.Test.YtmidbhnhcbpneaaGreatDoorM17
import Derived.Test.YtmidbhnhcbpneaaGreatDoorM8
import Derived.Test.YtmidbhnhcbpneaaGreatDoorM6
import Derived.Laws.Rows
set_option linter.unusedVariables false
set_option linter.unusedSimpArgs false
set_option maxRecDepth 8000
set_option maxHeartbeats 8000000
section
namespace Go.Proofs.YtmidbhnhcbpneaaGreatDoor.Top
open Go Go.RowKit Go.Lt YtmidbhnhcbpneaaGreatDoor.Lit YtmidbhnhcbpneaaGreatDoor.Dec
open YtmidbhnhcbpneaaGreatDoor.Circ (T3 enc3 RdT Sl Cv Ae Ci AbX)
theorem Ank (m:Nat):atF m []=0::List.replicate m (-1):=by
 apply List.ext_getElem?
 intro v
 by_cases h:v<=m
 ·rw[Nb [] h];unfold atV
  cases v with
  |zero=>rfl
  |succ v=>
   rw[if_neg (by omega),if_neg (by simp),List.getElem?_cons_succ,List.getElem?_replicate,if_pos (by omega)]
 have j:(atF m [])[v]?=none:=List.getElem?_eq_none (by rw[Fp];omega);have l:(0::List.replicate m (-1):List Int)[v]?=none:=List.getElem?_eq_none (by simp;omega);rw[j,l]
theorem Amw (l:List Int) (x:Int):zvs (l++ [x])=zvs l++ [.int .i64 x]:=by unfold zvs;rw[List.map_append];rfl
theorem AjK (k:Nat):(0::List.replicate (k+1) (-1):List Int)=(0::List.replicate k (-1))++ [-1]:=by
 rw[List.cons_append,List.replicate_succ']
structure NxX (W1:World) (u a:Value) (nds:List (Int×Int)) (ys:List Int) (W:World):Prop where
 n:W.ownsRow W1.heap.size 93 2 u nds.length (Gz nds)
 a:W.ownsRow W1.heap.size 3 1 a ys.length (zvs ys)
 bel:Below W1.heap.size W1 W
section
variable {W1 W W':World} {u u' a a':Value} {nds:List (Int×Int)} {ys:List Int}
theorem NxX.step (h:NxX W1 u a nds ys W) (hb:Below W.heap.size W W'):NxX W1 u a nds ys W':=⟨Au h.n hb,Au h.a hb,h.bel.trans (hb.mono h.bel.size)⟩
theorem NxX.pushA {x:Int} (h:NxX W1 u a nds ys W) (h1:W'.ownsRow W1.heap.size 3 1 a' (ys.length+1) (zvs ys++ [.int .i64 x])) (h2:Below W1.heap.size W1 W')
  (h3:(W.alloc (.cells #[.int .i64 x] 3)).grownBy W' a.ownBlock):NxX W1 u a' nds (ys++ [x]) W':=by
 have j:=h.n.alloc (.cells #[.int .i64 x] 3);have l:=h.a.alloc (.cells #[.int .i64 x] 3)
 exact⟨j.kept h3 (Eg j l (by decide)),by rw[Amw,List.length_append];exact h1,h2⟩
theorem NxX.pushN {x y:Int} {ob:Obj} (h:NxX W1 u a nds ys W) (h1:W'.ownsRow W1.heap.size 93 2 u' (nds.length+1) (Gz nds++ [.int .i64 x,.int .i64 y])) (h2:Below W1.heap.size W1 W')
  (h3:(W.alloc ob).grownBy W' u.ownBlock):NxX W1 u' a (nds++ [(x,y)]) ys W':=by
 have l:=h.n.alloc ob;have j:=h.a.alloc ob
 exact⟨by rw[AaM,List.length_append];exact h1,j.kept h3 (Eg j l (by decide)),h2⟩
theorem NxX.setA {g n d:Nat} (h:NxX W1 u (.slice (some ⟨g,0,none⟩) n d) nds ys W) (hn:n=ys.length) (i:Nat) (hi:i<n) (x:Int):
  NxX W1 u (.slice (some ⟨g,0,none⟩) n d) nds (ys.set i x) (W.setCell ⟨g,i,none⟩ (.int .i64 x))/\(∃y,W.cell? ⟨g,i,none⟩=some (.int .i64 y))/\W.frozen? ⟨g,i,none⟩=false:=by
 subst hn;have j:=h.a;have q:W1.heap.size<=g:=(Dm j rfl).1
 have m:u.ownBlock≠some g:=by
  rcases Eg h.n j (by decide) with l|l
  ·rw[l];simp
  simpa[Value.ownBlock] using l
 refine⟨⟨ownsRow_setCell_other h.n m _,?_,h.bel.setCell (p:=⟨g,i,none⟩) q _⟩,⟨ys[i]'hi,?_⟩,Lv j i⟩
 ·have:=Uw j i (.int .i64 x)
  unfold zvs at this ⊢;rw[List.map_set,List.length_set];exact this
 exact Go.Lt.Jp j (by unfold zvs;rw[List.getElem?_map,List.getElem?_eq_getElem hi];rfl)
theorem NxX.rd {A:Option Addr} {n d:Nat} (h:NxX W1 u (.slice A n d) nds ys W):Rd W A n (zvs ys):=by
 obtain⟨_,_,l,_,_,j⟩:=Rd.of_own h.a;injection l with e1 e2 e3;rw[e1,e2];exact j
theorem NxX.told {c:Cir} {g m d j l:Nat} {A0 B0:Int} (h:NxX W1 u (.slice (some ⟨g,0,none⟩) (m+1) d) ((Ei c).take j++ [(A0,B0)]) (atF m ((Av c).take j)) W) (hg:Ag c) (hm:m=c.max) (hl:(Av c)[j]?=some l) (hn:(Ei c)[j]?=some (A0,B0)) {q:Nat} (hq:q=l/2):
  NxX W1 u (.slice (some ⟨g,0,none⟩) (m+1) d) ((Ei c).take (j+1)) (atF m ((Av c).take (j+1))) (W.setCell ⟨g,q,none⟩ (.int .i64 (2*((j:Int)+1))))/\(∃y,W.cell? ⟨g,q,none⟩=some (.int .i64 y))/\W.frozen? ⟨g,q,none⟩=false:=by
 obtain⟨z,B,D,F⟩:=Tt hg hl;have E:=(List.getElem?_eq_some_iff.1 hl).1;obtain⟨r,h2,x⟩:=h.setA (by rw[Fp]) q (by omega) (2*((j:Int)+1));refine⟨?_,h2,x⟩;have e:=AhP (m:=m) z B D;rw[List.length_take,Nat.min_eq_left (by omega)]at e;rw[Cy hl,Cy hn,<-e,<-hq]
 have p:((2*(j+1):Nat):Int)=2*((j:Int)+1):=by omega
 rw[p];exact r
end
theorem Ako (w:World) (t:TypeId) (a b:Value):RdS (w.alloc (.cells #[a,b] t)) (some ⟨w.heap.size,0,none⟩) 1 2 [a,b]:=by
 refine⟨rfl,.inr ⟨_,rfl,by simp,λk u j=>?_⟩⟩
 have:(⟨w.heap.size,0,none⟩:Addr).add k=⟨w.heap.size,k,none⟩:=by unfold Addr.add;split<;>simp_all
 rw[this,World.cell?_alloc_new]
 simpa using j
structure Qf (x:Bp):Prop where
 ins:x.c.ins.length<=60
 lat:x.c.lat.length<=60
 gat:x.c.gat.length<=60
 max:x.c.max<=300
theorem AhV {x:Bp} (hg:Ag x.c) (hf:Qf x):Aow x.c.gat:=λy hy=>by
 have j:=(hg.own _ (Nf hy)).2.2;have h2:=hg.used _ (Bg hy).1;have l:=hg.used _ (Bg hy).2
 have:=hf.max
 exact⟨by omega,by omega,by omega⟩
theorem AkX (v:Cv) (x:Bp) (w:World) (hf:Qf x) (I:Ag x.c) (hi:RdC w v x):
  Calls Tryz.prog 36 #[.agg (Ae x.c.max v)] w (AnY x.c w):=by
 have aJ:=hi.nIns;have aN:=hi.nLat;have bF:=hi.nGat;have dH:=hf.ins;have dI:=hf.lat;have dJ:=hf.gat;obtain⟨M,hM⟩:∃ M,M=x.c.max:=⟨_,rfl⟩
 have eC:M<=300:=by rw[hM];exact hf.max
 have bP:=Ab (AhV I hf);have bZ:=Ab (Ank M);rw[<-hM];have aM:=(Below.refl w.heap.size w).alloc (Nl _) (.cells (Ae (M:Nat) v) 31);have q1:=Blk.new w 31 (Ae (M:Nat) v);have aU:=hi.below aM (Nl _);obtain⟨W1,dF⟩:∃ W1,w.alloc (.cells (Ae (M:Nat) v) 31)=W1:=⟨_,rfl⟩;rw[dF]at aM q1 aU;have B:w.heap.size<W1.heap.size:=q1.lt;have aM:=Ab aM
 have b1:v.ins.n<=60:=by omega
 have b2:v.lat.n<=60:=by omega
 have b6:v.gat.n<=60:=by omega
 replace hM:=Ab hM;replace I:=Ab I;replace aJ:=Ab aJ;replace aN:=Ab aN;replace bF:=Ab bF;clear hi hf dH dI dJ;have dZ:W1.cell? ⟨w.heap.size,0,none⟩=some (.int .i64 (M:Nat)):=q1.cell 0
 go_enter Tryz.func36,Tryz.ntmps36
 go_wp2
 go_loopw [5,6] (λa i wr=>∃ k:Nat,k<=M/\i= .int .i64 ((k:Int)+1)/\Hid (NxX W1 (.slice (some ⟨W1.heap.size,0,none⟩) 0 0) a [] (0::List.replicate k (-1)) wr)) (λ_ i _=>M+1-(intOf i).toNat)
 case atStart=>
  refine⟨0,Nat.zero_le _,rfl,Ab ⟨(Fq W1 W1.heap.size _ 2 (Nl _)).alloc _,?_,((Below.refl _ _).alloc (Nl _) _).alloc (by simp) _⟩⟩
  have:=World.ownsRow_lit (W1.alloc (.cells #[] 93)) (e:=3) (size:=1) #[.int .i64 0] 1 (Nl _) (by unfold maxLen;omega) rfl
  exact Az (b':=W1.heap.size+1) (by simpa[zvs] using this) (by omega)
 case round=>
  obtain⟨k,hk,rfl,r⟩:=hrel
  have bX:(k:Int)<=300:=by omega
  have cM:wr.cell? ⟨w.heap.size,0,none⟩=some (.int .i64 (M:Nat)):=(q1.below r.o.bel B).cell 0
  by_cases Y:k<M
  ·have aW:(k:Int)+1<=M:=by omega
   have ha:=r.o.a;have hb:=r.o.bel
   have hle:(0::List.replicate k (-1):List Int).length=k+1:=by simp
   obtain⟨U,cU,rfl,_,_,_⟩:=Rd.of_own ha;have dL:=Ab (AjK k);have aC:=Ab (show(0::List.replicate k (-1):List Int).length+1<=maxLen by rw[hle];unfold maxLen;omega);have aE:=Ab (show((0::List.replicate k (-1):List Int).length+1)*8<=140737488355328 by rw[hle];omega);replace hle:=Ab hle
   go_wp2_with (at_builtin;refine Ah rfl _ _ _ rfl Tryz.underlying26 Go.Proofs.YtmidbhnhcbpneaaGreatDoor.Circ.Uc rfl (by decide) rfl (by first|rfl|simp[go_sem]) ha hb (Nl _) rfl (by simp[Value.oneCell']) aC.o aE.o ?_;intro v6 w6 l N J;have hP:=Ab (r.o.pushA l N J);clear J N l)
   rw[<-dL.o]at hP;go_roundw
   case rel=>exact⟨k+1,Y,by go_num,hP⟩
   case measure=>simp[intOf];omega
  have aV:M=k:=by omega
  subst aV;rw[<-bZ.o]at r
  have dT:¬ (M:Int)+1<=M:=by omega
  have c1:wr.cell? ⟨w.heap.size,1,none⟩=some (.slice v.ins.A v.ins.n v.ins.c):=(q1.below r.o.bel B).cell 1;obtain⟨s0,rfl,bG⟩:=Be r.o.a;rw[Fp]at bG;obtain⟨A0,n0,da⟩:=s0;replace bG:n0=M+1:=bG;subst bG
  obtain⟨X,rfl⟩:∃ X,A0=some ⟨X,0,none⟩:=by
   rcases Jx r.o.a with⟨_,h0⟩|⟨X,eA,h1,_⟩
   ·rw[Fp]at h0;omega
   injection h1 with h1 _ _;exact⟨X,h1⟩
  dsimp only[sv]at r ⊢;have aD:Hid (NxX W1 (.slice (some ⟨W1.heap.size,0,none⟩) 0 0) (.slice (some ⟨X,0,none⟩) (M+1) da) ((Ei x.c).take 0) (atF M ((Av x.c).take 0)) wr):=r;obtain⟨wo,bC⟩:∃ wo,wo=wr:=⟨_,rfl⟩;subst bC;clear r;go_wp2
  go_loopw [4,7] (λn i wr=>∃ k:Nat,k<=v.ins.n/\i= .int .i64 k/\Hid (NxX W1 n (.slice (some ⟨X,0,none⟩) (M+1) da) ((Ei x.c).take (k)) (atF M ((Av x.c).take (k))) wr)) (λ_ i _=>v.ins.n-(intOf i).toNat)
  case atStart=>exact⟨0,Nat.zero_le _,rfl,aD⟩
  case round=>
   obtain⟨k,hk,rfl,r⟩:=hrel
   have bX:(k:Int)<=60:=by omega
   have cB:wr.cell? ⟨w.heap.size,1,none⟩=some (.slice v.ins.A v.ins.n v.ins.c):=(q1.below r.o.bel B).cell 1
   by_cases Y:k<v.ins.n
   ·have aW:(k:Int)<v.ins.n:=by omega
    obtain⟨ad,y,hA,hB,hy,c0⟩:=(aU.ins).get (f:=λn:Nat=>Value.int .i64 n) Y;have D:=Ur (c:=x.c) hy;have E:=Jy (c:=x.c) (k:=(k)) (by rw[<-aJ.o,<-aN.o];omega);obtain⟨p1,p2,p3,p4⟩:=Tt I.o D
    have j:((Ei x.c).take (k)).length=(k):=by rw[List.length_take,Fy];have:=(List.getElem?_eq_some_iff.1 D).1;omega
    obtain⟨h,hh⟩:∃ h,h=y/2:=⟨_,rfl⟩
    have cW:(y:Int)/2=(h:Int):=by omega
    have cK:h<M+1:=by have:=hM.o;omega
    have cJ:(h:Int)<M+1:=by omega
    have dM:(y:Int)<=601:=by have:=hM.o;omega
    have hn:=r.o.n;have hb:=r.o.bel;have O:=Ab (λ(W:World) (u':Value) (hP:NxX W1 u' (.slice (some ⟨X,0,none⟩) (M+1) da) ((Ei x.c).take (k)++ [(-1,0)]) (atF M ((Av x.c).take (k))) W)=>hP.told I.o hM.o D E hh);obtain⟨s2,rfl,F⟩:=Be hn;obtain⟨U,nU,cU⟩:=s2;rw[j]at F;replace F:(k)=nU:=F.symm;subst F;have aC:=Ab (show((Ei x.c).take (k)).length+1<=maxLen by rw[j];unfold maxLen;omega);have aE:=Ab (show(((Ei x.c).take (k)).length+1)*16<=140737488355328 by rw[j];omega);replace j:=Ab j;have aP:=Ab hB;have bR:=Ab hA;replace hh:=Ab hh;clear D E p1 p2 p3 p4 hB;rw[hA]at cB
    go_wp2_with (at_builtin;refine Ah rfl _ _ _ rfl Tryz.underlying86 Zq rfl (by decide) rfl (by first|rfl|simp[go_sem]) hn hb (Nl _) rfl (by simp[Value.oneCell']) aC.o aE.o ?_;intro v6 w6 l N J;obtain⟨hS,⟨z,hz⟩,cH⟩:=O.o _ _ (r.o.pushN l N J);have hS:=Ab hS;obtain⟨⟨U6,n6,dC⟩,rfl,aK⟩:=Be l;rw[j.o]at aK;dsimp only at aK;subst aK;have bQ:w6.cell? ⟨w.heap.size,1,none⟩=some (.slice v.ins.A v.ins.n v.ins.c):=(q1.below N B).cell 1;rw[bR.o]at bQ;have dB:=(N.cell (p:=ad.add k) (by first|exact aP.o|(rw[add_block];exact aP.o))).trans c0;clear J N l)
    go_roundw
    case rel=>exact⟨k+1,Y,by go_num,hS⟩
    case measure=>simp[intOf];omega
   have aV:k=v.ins.n:=by omega
   have bL:¬ (k:Int)<v.ins.n:=by omega
   obtain⟨cA,bC⟩:∃ cA,cA=wr:=⟨_,rfl⟩;subst bC;rw[aV]at r;have aD:=Ab r.o;have c2:cA.cell? ⟨w.heap.size,2,none⟩=some (.slice v.lat.A v.lat.n v.lat.c):=(q1.below r.o.bel B).cell 2;clear r;go_wp2
   go_loopw [4,8] (λn i wr=>∃ k:Nat,k<=v.lat.n/\i= .int .i64 k/\Hid (NxX W1 n (.slice (some ⟨X,0,none⟩) (M+1) da) ((Ei x.c).take (v.ins.n+k)) (atF M ((Av x.c).take (v.ins.n+k))) wr)) (λ_ i _=>v.lat.n-(intOf i).toNat)
   case atStart=>exact⟨0,Nat.zero_le _,rfl,aD⟩
   case round=>
    obtain⟨k,hk,rfl,r⟩:=hrel
    have bX:(k:Int)<=60:=by omega
    have cB:wr.cell? ⟨w.heap.size,2,none⟩=some (.slice v.lat.A v.lat.n v.lat.c):=(q1.below r.o.bel B).cell 2
    by_cases Y:k<v.lat.n
    ·have aW:(k:Int)<v.lat.n:=by omega
     obtain⟨ad,z,hA,hz,c0,_,_⟩:=Ce (show RdT W1 v.lat.A v.lat.n (x.c.lat.map t3) from aU.lat) Y;obtain⟨y,bY⟩:∃ y,z.a=y:=⟨_,rfl⟩;have D:=Vd (c:=x.c) hz;rw[bY,<-aJ.o]at D;rw[bY]at c0;have hB:(ad.add (k*3)).block<W1.heap.size:=World.block_lt_of_cell? _ _ c0;clear hz bY;have E:=Jy (c:=x.c) (k:=(v.ins.n+k)) (by rw[<-aJ.o,<-aN.o];omega);obtain⟨p1,p2,p3,p4⟩:=Tt I.o D
     have j:((Ei x.c).take (v.ins.n+k)).length=(v.ins.n+k):=by rw[List.length_take,Fy];have:=(List.getElem?_eq_some_iff.1 D).1;omega
     obtain⟨h,hh⟩:∃ h,h=y/2:=⟨_,rfl⟩
     have cW:(y:Int)/2=(h:Int):=by omega
     have cK:h<M+1:=by have:=hM.o;omega
     have cJ:(h:Int)<M+1:=by omega
     have dM:(y:Int)<=601:=by have:=hM.o;omega
     have hn:=r.o.n;have hb:=r.o.bel;have O:=Ab (λ(W:World) (u':Value) (hP:NxX W1 u' (.slice (some ⟨X,0,none⟩) (M+1) da) ((Ei x.c).take (v.ins.n+k)++ [(-1,0)]) (atF M ((Av x.c).take (v.ins.n+k))) W)=>hP.told I.o hM.o D E hh);obtain⟨s2,rfl,F⟩:=Be hn;obtain⟨U,nU,cU⟩:=s2;rw[j]at F;replace F:(v.ins.n+k)=nU:=F.symm;subst F;have aC:=Ab (show((Ei x.c).take (v.ins.n+k)).length+1<=maxLen by rw[j];unfold maxLen;omega);have aE:=Ab (show(((Ei x.c).take (v.ins.n+k)).length+1)*16<=140737488355328 by rw[j];omega);replace j:=Ab j;have aP:=Ab hB;have bR:=Ab hA;replace hh:=Ab hh;clear D E p1 p2 p3 p4 hB;rw[hA]at cB
     go_wp2_with (at_builtin;refine Ah rfl _ _ _ rfl Tryz.underlying86 Zq rfl (by decide) rfl (by first|rfl|simp[go_sem]) hn hb (Nl _) rfl (by simp[Value.oneCell']) aC.o aE.o ?_;intro v6 w6 l N J;obtain⟨hS,⟨z,hz⟩,cH⟩:=O.o _ _ (r.o.pushN l N J);have hS:=Ab hS;obtain⟨⟨U6,n6,dC⟩,rfl,aK⟩:=Be l;rw[j.o]at aK;dsimp only at aK;subst aK;have bQ:w6.cell? ⟨w.heap.size,2,none⟩=some (.slice v.lat.A v.lat.n v.lat.c):=(q1.below N B).cell 2;rw[bR.o]at bQ;have dB:=(N.cell (p:=ad.add (k*3)) (by first|exact aP.o|(rw[add_block];exact aP.o))).trans c0;clear J N l)
     go_roundw
     case rel=>exact⟨k+1,Y,by go_num,hS⟩
     case measure=>simp[intOf];omega
    have aV:k=v.lat.n:=by omega
    have bL:¬ (k:Int)<v.lat.n:=by omega
    obtain⟨bD,bC⟩:∃ bD,bD=wr:=⟨_,rfl⟩;subst bC;rw[aV]at r;have aD:=Ab r.o;have eD:X<bD.heap.size:=(Dm r.o.a rfl).2;have q3:=q1.below r.o.bel B;obtain⟨s0,s1,s2,s3,s4,s5,s6,s7,s8⟩:=c9d q3;have hO:=Ab (AaZ (M:Nat) v x bD b6 bP.o (aU.below r.o.bel (Nl _)));clear r
    go_wp2_with fail
    refine hO.o.mono ?_;rintro e w4 ⟨⟨A4,n4,k4⟩,rfl,aO,bE,cG⟩;have aD:=Ab (aD.o.step cG);replace aO:n4=(Aw x.c.gat).length:=aO;rw[<-aO]at bE
    have dS:n4<=60:=by
     have:=Ll (Aw x.c.gat) (List.range x.c.gat.length) (Ge x.c.gat).1 (λq hq=>List.mem_range.2 ((Ge x.c.gat).2 q hq))
     have:=bF.o
     simp at*;omega
    replace aO:=Ab aO;replace bE:=Ab bE
    have dR:(n4:Int)<=60:=by omega
    dsimp only[sv];clear cG q3 hO s0 s1 s2 s3 s4 s5 s6 s7 s8;go_wp2
    go_loopw [4,10] (λn i wr=>∃ k:Nat,k<=n4/\i= .int .i64 k/\Hid (NxX W1 n (.slice (some ⟨X,0,none⟩) (M+1) da) ((Ei x.c).take (v.ins.n+v.lat.n+k)) (atF M ((Av x.c).take (v.ins.n+v.lat.n+k))) wr)/\Hid (wr.ownsRow bD.heap.size 3 1 (.slice A4 n4 k4) n4 (nvs (Aw x.c.gat)))) (λ_ i _=>n4-(intOf i).toNat)
    case atStart=>exact⟨0,Nat.zero_le _,rfl,aD,bE⟩
    case round=>
     obtain⟨k,hk,rfl,r,bS⟩:=hrel
     have bX:(k:Int)<=60:=by omega
     have hn:=r.o.n;have hb:=r.o.bel;obtain⟨s2,rfl,F⟩:=Be hn;obtain⟨U,nU,cU⟩:=s2
     have Z:(Av x.c).length=v.ins.n+v.lat.n+n4:=by rw[Ht,aJ.o,aN.o,aO.o]
     have j:((Ei x.c).take (v.ins.n+v.lat.n+k)).length=(v.ins.n+v.lat.n+k):=by rw[List.length_take,Fy,Z];omega
     rw[j]at F;replace F:(v.ins.n+v.lat.n+k)=nU:=F.symm;subst F
     by_cases Y:k<n4
     case neg=>
      obtain rfl:n4=k:=by omega
      have bL:¬ (n4:Int)<n4:=by omega
      have aS:Hid (NxX W1 (sv ⟨U,(v.ins.n+v.lat.n+n4),cU⟩) (.slice (some ⟨X,0,none⟩) (M+1) da) (Ei x.c) (atF M (Av x.c)) wr):=Ab (by
       have h:=r.o;rw[List.take_of_length_le (show(Ei x.c).length<=(v.ins.n+v.lat.n+n4) by rw[Fy,Z];omega),List.take_of_length_le (show(Av x.c).length<=(v.ins.n+v.lat.n+n4) by omega)]at h
       exact h)
      have bO:Hid (AnY x.c w (.returned (.tuple #[sv ⟨U,(v.ins.n+v.lat.n+n4),cU⟩,.slice (some ⟨X,0,none⟩) (M+1) da])) wr):=Ab (by
       have ha:=aS.o.a;rw[Fp,hM.o]at ha;refine⟨⟨U,(v.ins.n+v.lat.n+n4),cU⟩,⟨some ⟨X,0,none⟩,M+1,da⟩,rfl,by rw[Z],by rw[<-hM.o],Az aS.o.n (Nat.le_of_lt B),Az ?_ (Nat.le_of_lt B),aM.o.trans (hb.mono aM.o.size)⟩
       show wr.ownsRow W1.heap.size 3 1 (.slice (some ⟨X,0,none⟩) (M+1) da) _ _
       rw[hM.o]
       exact ha)
      dsimp only[sv]at bO ⊢;clear aS r j Z;go_wp2
      go_ret2
      exact bO.o
     have aW:(k:Int)<n4:=by omega
     have aY:(Value.slice A4 n4 k4).ownBlock≠some X:=λe=>by have:=(Dm bS.o e).1;omega
     have bN:Rd wr A4 n4 (nvs (Aw x.c.gat)):=by
      obtain⟨A',c',hv,_,_,hr⟩:=Rd.of_own bS.o;injection hv with e1 e2 e3;rw[e1];exact hr
     replace aY:=Ab aY;obtain⟨dA,p,rfl,eB,hp,c4⟩:=bN.get (f:=λn:Nat=>Value.int .i64 n) Y;clear bN;have cL:=(Ge x.c.gat).2 p (List.mem_of_getElem? hp)
     have dK:p<v.gat.n:=by rw[bF.o];exact cL
     have eE:(p:Int)<v.gat.n:=by omega
     obtain⟨ad,z,hA,hz,c0,c1,c2⟩:=Ce (show RdT wr v.gat.A v.gat.n (x.c.gat.map t3) from(aU.gat.below hb (Nl _))) dK;obtain⟨dN,dO,dP⟩:=bP.o z (List.mem_of_getElem? hz);have bW:x.c.gat.getD p z3=z:=Zj hz;have D:=Pr hp;have E:=Nh hp;have bA:=Pg I.o hp (.inl rfl);have bB:=Pg I.o hp (.inr rfl);unfold AcS at E;rw[bW]at D E bA bB;rw[<-aJ.o,<-aN.o]at D E bA bB;obtain⟨p1,p2,p3,p4⟩:=Tt I.o D;have cP:=I.o.used _ (Bg (List.mem_of_getElem? hz)).1;have cQ:=I.o.used _ (Bg (List.mem_of_getElem? hz)).2;obtain⟨xa,cS⟩:∃ xa,z.a=xa:=⟨_,rfl⟩;obtain⟨xb,cT⟩:∃ xb,z.b=xb:=⟨_,rfl⟩;obtain⟨xc,cV⟩:∃ xc,z.c=xc:=⟨_,rfl⟩;rw[cS]at c0 dN D p1 p2 p3 p4;rw[cT]at c1 dO E bA cP;rw[cV]at c2 dP E bB cQ;obtain⟨h,hh⟩:∃ h,h=xa/2:=⟨_,rfl⟩
     have cW:(xa:Int)/2=(h:Int):=by omega
     have cK:h<M+1:=by have:=hM.o;omega
     have cJ:(h:Int)<M+1:=by omega
     have bT:((Av x.c).take (v.ins.n+v.lat.n+k)).length<=16777215:=by rw[List.length_take];omega
     have cC:=Ab (λ(W:World) (hr:Rd W (some ⟨X,0,none⟩) (M+1) (zvs (atF M ((Av x.c).take (v.ins.n+v.lat.n+k)))))=>AeN x.c ((Av x.c).take (v.ins.n+v.lat.n+k)) _ (some ⟨X,0,none⟩) da M xb W (List.take_append_drop (v.ins.n+v.lat.n+k) (Av x.c)).symm bA (by have:=hM.o;omega) (by omega) bT (by omega) hr);have cE:=Ab (λ(W:World) (hr:Rd W (some ⟨X,0,none⟩) (M+1) (zvs (atF M ((Av x.c).take (v.ins.n+v.lat.n+k)))))=>AeN x.c ((Av x.c).take (v.ins.n+v.lat.n+k)) _ (some ⟨X,0,none⟩) da M xc W (List.take_append_drop (v.ins.n+v.lat.n+k) (Av x.c)).symm bB (by have:=hM.o;omega) (by omega) bT (by omega) hr);obtain⟨r1,cN⟩:∃ r1,ofC x.c xb=r1:=⟨_,rfl⟩;obtain⟨r2,cO⟩:∃ r2,ofC x.c xc=r2:=⟨_,rfl⟩;rw[cN]at cC E;rw[cO]at cE E;have O:=Ab (λ(W:World) (u':Value) (hP:NxX W1 u' (.slice (some ⟨X,0,none⟩) (M+1) da) ((Ei x.c).take (v.ins.n+v.lat.n+k)++ [((r1:Int),(r2:Int))]) (atF M ((Av x.c).take (v.ins.n+v.lat.n+k))) W)=>hP.told I.o hM.o D E hh)
     have dU:(xa:Int)<=1000:=by omega
     have dV:(xb:Int)<=1000:=by omega
     have dW:(xc:Int)<=1000:=by omega
     replace bW:=Ab bW;replace hh:=Ab hh;replace Z:=Ab Z;clear hz hp D E bA bB p1 p2 p3 p4 cP cQ cS cT cV cN cO bT cL;have s6:wr.cell? ⟨w.heap.size,6,none⟩=some (.slice v.gat.A v.gat.n v.gat.c):=(q1.below hb B).cell 6;rw[hA]at s6;have aC:=Ab (show((Ei x.c).take (v.ins.n+v.lat.n+k)).length+1<=maxLen by rw[j];unfold maxLen;omega);have aE:=Ab (show(((Ei x.c).take (v.ins.n+v.lat.n+k)).length+1)*16<=140737488355328 by rw[j];omega);replace j:=Ab j;dsimp only[sv]at r hn ⊢;go_wp2;refine wp_region_held_drew (S:=λW'=>W'.cell? ⟨w.heap.size,6,none⟩=some (.slice (some ad) v.gat.n v.gat.c)/\W'.cell? (dA.add k)=some (.int .i64 (p:Nat))/\W'.cell? (ad.add (p*3))=some (.int .i64 (xa:Nat))/\W'.cell? ⟨(ad.add (p*3)).block,(ad.add (p*3)).off+1,none⟩=some (.int .i64 (xb:Nat))/\W'.cell? ⟨(ad.add (p*3)).block,(ad.add (p*3)).off+2,none⟩=some (.int .i64 (xc:Nat))) (by kernel_rfl) ⟨s6,c4,c0,c1,c2⟩ (λm=>?_);refine tk 0 (h:=tk 1 (h:=tk 2 (h:=tk 3 (h:=tk 4 (h:=tk 5 (h:=tk 6 (h:=tk 7 (h:=?_))))))));refine rd1 8 λK O=>?_;go_simp;have aF:Below wr.heap.size wr (wr.alloc (.cells #[.int .i64 0,.int .i64 0,.int .i64 0] 62)).drew:=((Below.refl _ _).alloc (Nl _) _).trans (Dr.below (Dr.refl _).drew _);have t6:=keepCell aF s6;have t4:=keepCell aF c4;have t0:=keepCell aF c0;have t1:=keepCell aF c1;have t2:=keepCell aF c2;have dG:=Ab (r.o.step aF);have qz:Blk (wr.alloc (.cells #[.int .i64 0,.int .i64 0,.int .i64 0] 62)).drew wr.heap.size 62 #[.int .i64 0,.int .i64 0,.int .i64 0]:=Blk.new wr _ _;refine O.o _ _ ⟨t6,t4,t0,t1,t2⟩ (λm=>?_);clear O K
     try simp only[Act.put,pt]
     refine rd1 9 λK O=>?_;have z0:=qz.cell 0;have z1:=qz.cell 1;have z2:=qz.cell 2;have y0:=qz.frozen 0;have y1:=qz.frozen 1;have y2:=qz.frozen 2;go_simp;have aB:Below wr.heap.size wr (wr.alloc (.cells #[.int .i64 (xa:Nat),.int .i64 (xb:Nat),.int .i64 (xc:Nat)] 62)).drew:=((Below.refl _ _).alloc (Nl _) _).trans (Dr.below (Dr.refl _).drew _);have r6:=keepCell aB s6;have r4:=keepCell aB c4;have r0:=keepCell aB c0;have cY:=keepCell aB c1;have cZ:=keepCell aB c2;have bV:=Ab (r.o.step aB);have qb:=Ab (show Blk (wr.alloc (.cells #[.int .i64 (xa:Nat),.int .i64 (xb:Nat),.int .i64 (xc:Nat)] 62)).drew wr.heap.size 62 #[.int .i64 (xa:Nat),.int .i64 (xb:Nat),.int .i64 (xc:Nat)] from Blk.new wr _ _);have dD:=Ab (Au bS.o aB);refine O.o _ _ ⟨r6,r4,r0,cY,cZ⟩ (λm=>?_);clear O K
     try simp only[Act.put,pt]
     refine wpAnyH_done (by kernel_rfl) ?_ _;clear m s6 c4 c0 c1 c2 t6 t4 t0 t1 t2 qz aF dG r6 r4 r0 cY cZ aB z0 z1 z2 y0 y1 y2;generalize (wr.alloc (.cells #[.int .i64 (xa:Nat),.int .i64 (xb:Nat),.int .i64 (xc:Nat)] 62)).drew=Wb at*;have b1:Wb.cell? ⟨wr.heap.size,1,none⟩=some (.int .i64 (xb:Nat)):=qb.o.cell 1;have b2:Wb.cell? ⟨wr.heap.size,2,none⟩=some (.int .i64 (xc:Nat)):=qb.o.cell 2;go_wp2;refine wp_region_held_drew (S:=λW'=>W'.cell? ⟨wr.heap.size,1,none⟩=some (.int .i64 (xb:Nat))/\W'.cell? ⟨wr.heap.size,2,none⟩=some (.int .i64 (xc:Nat))) (by kernel_rfl) ⟨b1,b2⟩ (λm=>?_);refine tk 0 (h:=tk 1 (h:=tk 2 (h:=tk 3 (h:=tk 5 (h:=tk 6 (h:=tk 7 (h:=?_)))))));have cX:=bV.o.rd;refine rd1 4 λK O=>?_;go_simp
     go_wp2_with (go_at_call 77;refine(cC.o Wb.drew (Dr.rd (Dr.refl Wb).drew cX)).mono ?_;rintro e w8 ⟨rfl,aH⟩)
     have aH:=Ab ((Dr.refl Wb).drew.trans aH);refine O.o _ _ ⟨(aH.o.cell _).trans b1,(aH.o.cell _).trans b2⟩ (λm=>?_);clear O K
     try simp only[Act.put,pt]
     refine rd1 8 λK O=>?_;go_simp
     go_wp2_with (go_at_call 77;refine(cE.o _ (Dr.rd aH.o cX)).mono ?_;rintro e w9 ⟨rfl,aI⟩)
     have aI:=Ab (aH.o.trans aI);refine O.o _ _ ⟨(aI.o.cell _).trans b1,(aI.o.cell _).trans b2⟩ (λm=>?_);clear O K
     try simp only[Act.put,pt]
     refine tk 9 (h:=?_);have bU:=Ab (bV.o.step (aI.o.below _));have q9:=Ab (qb.o.dr aI.o);have cF:=Ab (Dr.own aI.o dD.o);clear b1 b2 aH bV;refine rd1 10 λK O=>?_;go_simp;have aT:Below w9.heap.size w9 (w9.alloc (.cells #[.int .i64 (r1:Nat),.int .i64 (r2:Nat)] 93)):=(Below.refl _ _).alloc (Nl _) _;have m1:=keepCell aT (q9.o.cell 1);have m2:=keepCell aT (q9.o.cell 2);have aR:=bU.o.step aT;have aX:=aR.n;have aL:=aR.bel;refine O.o _ _ ⟨m1,m2⟩ (λm=>?_);clear O K
     try simp only[Act.put,pt]
     refine rd1 11 λK O=>?_;refine Ej rfl (.tmp 84) (.tmp 94) 86 rfl Tryz.underlying86 Zq rfl (by decide) rfl rfl aX aL.size (Ako w9 _ _ _) (by intro u hu;simp at hu;rcases hu with rfl|rfl<;>rfl) aC.o aE.o ?_;intro eG dQ aA R;have bK:=aL.grown R aL.size (λi hi=>(aX.lt i hi).1);have bJ:=Ab (bU.o.pushN aA bK R);have bM:some wr.heap.size≠(Value.slice U (v.ins.n+v.lat.n+k) cU).ownBlock:=Ba aX (q9.o.alloc (.cells #[.int .i64 (r1:Nat),.int .i64 (r2:Nat)] 93)) (by decide);have bH:=(q9.o.alloc (.cells #[.int .i64 (r1:Nat),.int .i64 (r2:Nat)] 93)).grown R bM;have aQ:=Au cF.o aT;have bI:=Ab (aQ.kept R (Eg aQ aX (by decide)));refine O.o _ _ ⟨bH.cell 1,bH.cell 2⟩ (λm=>?_);clear O K
     try simp only[Act.put,pt]
     refine tk 12 (h:=?_);refine wpAnyH_done (by kernel_rfl) ?_ _;obtain⟨⟨dX,eF,dY⟩,rfl,aZ⟩:=Be aA;rw[j.o]at aZ;dsimp only at aZ;subst aZ;have b0:dQ.cell? ⟨wr.heap.size,0,none⟩=some (.int .i64 (xa:Nat)):=bH.cell 0;obtain⟨hS,⟨z,hz⟩,cH⟩:=O.o _ _ bJ.o;have hS:=Ab hS;have dE:=Ab (ownsRow_setCell_other (a:=⟨X,h,none⟩) bI.o aY.o (.int .i64 (2*((((v.ins.n+v.lat.n+k):Nat):Int)+1))));clear m aA R bK bM bH aX aL aR bJ aT m1 m2 bU q9 cF aQ bI;dsimp only[sv];go_wp2;go_roundw
     case rel=>rw[hA];exact⟨_,_,_,_,_,_,_,_,_,_,_,_,_,_,_,_,_,_,_,_,_,_,_,_,_,_,_,_,_,_,_,_,_,_,_,_,_,⟨k+1,Y,by go_num,hS,dE⟩,rfl⟩
     case measure=>simp[intOf];omega
end Go.Proofs.YtmidbhnhcbpneaaGreatDoor.Top
end
section
namespace Go.Proofs.YtmidbhnhcbpneaaGreatDoor.Top
open Go YtmidbhnhcbpneaaGreatDoor.Dec
theorem Nc:∀ (k n:Nat),n<10^(k+1)->(Lib.decDigits n).length<=k+1
 |k,n,h=>by
  rw[Lib.decDigits];split
  ·simp
  rename_i hn
  cases k with
  |zero=>omega
  |succ k=>
   have:=Nc k (n/10) (by rw[Nat.pow_succ]at h;omega)
   rw[List.length_append,List.length_singleton];omega
theorem AaQ:∀ (k n:Nat),n<128^(k+1)->(My n).length<=k+1
 |k,n,h=>by
  rw[My];split
  ·simp
  rename_i hn
  cases k with
  |zero=>omega
  |succ k=>
   have:=AaQ k (n/128) (by rw[Nat.pow_succ]at h;omega)
   rw[List.length_cons];omega
theorem Ps {α:Type} {f:α->Txt} {B:Nat}:∀ (l:List α),(∀x∈l,(f x).length<=B)->(l.flatMap f).length<=l.length*B
 | [],_=>by simp
 |x::l,h=>by
  rw[List.flatMap_cons,List.length_append,List.length_cons,Nat.succ_mul]
  have:=Ps l (λy hy=>h y (List.mem_cons_of_mem _ hy))
  have:=h x List.mem_cons_self
  omega
theorem AdL:∀ (ns:List Nat),(∀n∈ns,n<1000000000)->(Gp (ns.map Lib.decDigits)).length<=ns.length*10
 | [],_=>by simp[Gp]
 | [x],h=>by
  have:=Nc 8 x (by have:=h x List.mem_cons_self;omega)
  simp only[List.map_cons,List.map_nil,Gp,List.length_cons,List.length_nil];omega
 |x::y::r,h=>by
  have:=Nc 8 x (by have:=h x List.mem_cons_self;omega)
  have l:=AdL (y::r) (λn j=>h n (List.mem_cons_of_mem _ j))
  show(Lib.decDigits x++32::Gp ((y::r).map Lib.decDigits)).length<=_
  rw[List.length_append,List.length_cons];simp only[List.length_cons]at l ⊢;omega
theorem AaR (ns:List Nat) (h:∀ n∈ns,n<1000000000):(By ns).length<=ns.length*10+1:=by
 unfold By;rw[List.length_append,List.length_singleton]
 have:=AdL ns h
 omega
theorem Anf {h:Hd} (ht:Nq h):(Fl h).length<=75:=by
 unfold Fl
 have p:=AaR (Bm h) (λn j=>by
  unfold Bm at j
  have:=ht.m;have:=ht.i;have:=ht.l;have:=ht.o;have:=ht.a;have:=ht.b;have:=ht.c
  rcases List.mem_append.1 j with j|j
  ·rcases List.mem_append.1 j with j|j
   ·simp at j;omega
   split at j
   ·simp at j;omega
   cases j
  split at j
  ·simp at j;omega
  cases j)
 have h2:=(Aav h).2;rw[List.length_append]
 have q:(if h.bin then Dy else Hk).length=4:=by split<;>rfl
 omega
structure AbQ (x:Bp):Prop where
 ins:x.c.ins.length<=60
 lat:x.c.lat.length<=60
 outs:x.c.outs.length<=60
 bads:x.c.bads.length<=60
 cons:x.c.cons.length<=60
 gat:x.c.gat.length<=60
 sym:x.sym.length<=60
 com:x.com.length<=300
theorem Zo {l:List Nat} (hl:l.length<=60) (h:∀ n∈l,n<1000000000):(Bw l).length<=660:=by
 have:=Ps (f:=λn=>By [n]) (B:=11) l (λn p=>by
  have:=AaR [n] (λm j=>by rw[List.mem_singleton]at j;rw[j];exact h n p)
  simpa using this)
 unfold Bw;omega
theorem Zd {x:Bp} {bin:Bool} (h:Qm x bin) (hf:AbQ x):(Km x bin).length<=20000:=by
 have E:=h.top.max;have r:=Anf h.hd
 have h2:(Gb x.sym x.com).length<=5000:=by
  unfold Gb
  have:=Ps (f:=Kx) (B:=76) x.sym (λy hy=>by
   have hy:=h.sym y hy
   have:=Nc 8 y.i (by have:=hy.small;omega)
   have:=hy.len
   unfold Kx;simp only[List.length_cons,List.length_append,List.length_nil]
   omega)
  have:=hf.sym
  have:=hf.com
  rw[List.length_append]
  have:(if x.com= [] then([]:Txt) else 99::10::x.com).length<=302:=by
   split
   ·simp
   simp;omega
  omega
 have I:=Zo hf.outs (λn j=>by have:=h.top.outs n j;omega);have J:=Zo hf.bads (λn j=>by have:=h.top.bads n j;omega);have M:=Zo hf.cons (λn j=>by have:=h.top.cons n j;omega)
 have z:(Ew x.c).length<=10000:=by
  have F:=Zo hf.ins (λn j=>by have:=h.top.ins n j;omega)
  have q:=Ps (f:=Jz) (B:=31) x.c.lat (λy hy=>by
   obtain⟨a,b,c⟩:=h.top.lat y hy;unfold Jz;split
   ·have:=AaR [y.a,y.b] (λn j=>by simp at j;omega)
    simp at this;omega
   have:=AaR [y.a,y.b,y.c] (λn j=>by simp at j;omega)
   simp at this;omega)
  have p:=Ps (f:=Nn) (B:=31) x.c.gat (λy hy=>by
   obtain⟨a,b,c⟩:=h.top.gat y hy;unfold Nn
   have:=AaR [y.a,y.b,y.c] (λn j=>by simp at j;omega)
   simp at this;omega)
  have:=hf.lat
  have:=hf.gat
  unfold Ew;simp only[List.length_append];omega
 have D:(Sp x.c).length<=10000:=by
  have q:=Ps (f:=Hh) (B:=21) x.c.lat (λy hy=>by
   obtain⟨a,b,c⟩:=h.top.lat y hy;have l:=Nc 8 y.b (by omega);have m:=Nc 8 y.c (by omega);unfold Hh;rw[List.length_append,List.length_append];split
   ·simp;omega
   simp;omega)
  have p:=Ps (f:=Jv) (B:=10) x.c.gat (λy hy=>by
   obtain⟨a,b,c⟩:=h.top.gat y hy;have l:=AaQ 4 (y.a-y.b) (by omega);have m:=AaQ 4 (y.b-y.c) (by omega);unfold Jv;rw[List.length_append]
   omega)
  have:=hf.lat
  have:=hf.gat
  unfold Sp;simp only[List.length_append];omega
 unfold Km;rw[List.length_append,List.length_append]
 split<;>omega
end Go.Proofs.YtmidbhnhcbpneaaGreatDoor.Top
end
section
namespace Go.Proofs.YtmidbhnhcbpneaaGreatDoor.Top
open Go Go.RowKit Go.Lt YtmidbhnhcbpneaaGreatDoor.Lit YtmidbhnhcbpneaaGreatDoor.Dec
open YtmidbhnhcbpneaaGreatDoor.Circ (T3 enc3 RdT Sl Cv Ae Ci AbX Aap AaA Ug Acd AeB Ahn)
theorem Ub {P:Program} {a:Act} {o:Oper} {w:World} (ty:TypeId) (x:Operand) (g:Nat) (cs:Array Value) (ho:o.op= .load ty x) (hx:a.eval x= .pointer (some ⟨g,0,none⟩)) (t:TypeId) (fr:Nat×Nat) (d:TypeDesc) (hg:w.heap[g]?=some (.cells cs t fr))
  (hu:P.underlying ty=some d) (hd:(match d with| .struct _| .array _ _=>true|_=>false)=true) (hi:(P.info? ty).map (·.size)=some cs.size):(execOp a.eval o).run P w= .ok (.value (.agg cs)) w:=by
 unfold execOp;simp only[ho,hx,Instr.loadAt,Instr.sureAddr,Sem.run_bind,Sem.run_pure,Result.andThen_ok,run_loadVar_row w g t ty cs fr d hg hu hd hi]
def zs (l:List Nat):List Int:=l.map λ(n:Nat)=>(n:Int)
def AbS (x:Bp):Ci:=⟨x.c.max,zs x.c.ins,x.c.lat.map t3,zs x.c.outs,zs x.c.bads,zs x.c.cons,x.c.gat.map t3⟩
theorem AhC {W:World} {A:Option Addr} {n:Nat} {l:List Nat} (h:Rd W A n (nvs l)):Rd W A n (ivs (zs l)):=by
 unfold zs;rw[<-Ang l];exact h
theorem Anq {W:World} {v:Cv} {x:Bp} (h:RdC W v x):AbX W v (AbS x):=
 ⟨AhC h.ins,h.lat,AhC h.outs,AhC h.bads,AhC h.cons,h.gat,_,h.sym,AfP⟩
theorem AdH {l:List Nat} {y:Int} (h:y∈zs l):∃ n:Nat,n∈l/\y=(n:Int):=by
 obtain⟨n,j,rfl⟩:=List.mem_map.1 h
 exact⟨n,j,rfl⟩
theorem Apb {x:Bp} {y:Int} (h:y∈Aap (AbS x)):∃ n:Nat,n∈Dd x.c/\y=(n:Int):=by
 unfold Aap at h;unfold Dd;simp only[List.mem_append,List.mem_map]at h ⊢
 rcases h with(h|⟨q,l,rfl⟩)|⟨q,l,rfl⟩
 ·obtain⟨n,m,rfl⟩:=AdH h
  exact⟨n,.inl (.inl m),rfl⟩
 ·obtain⟨p,j,rfl⟩:=List.mem_map.1 l
  exact⟨p.a,.inl (.inr ⟨p,j,rfl⟩),rfl⟩
 obtain⟨p,j,rfl⟩:=List.mem_map.1 l
 exact⟨p.a,.inr ⟨p,j,rfl⟩,rfl⟩
theorem Anv {x:Bp} {y:Int} (h:y∈AaA (AbS x)):∃ n:Nat,n∈Ch x.c/\y=(n:Int):=by
 unfold AaA at h;unfold Ch;simp only[List.mem_append,List.mem_map,List.mem_flatMap]at h ⊢
 rcases h with(((h|h)|h)|⟨q,m,rfl⟩)|⟨q,m,h⟩
 ·obtain⟨n,j,rfl⟩:=AdH h
  exact⟨n,.inl (.inl (.inl (.inl j))),rfl⟩
 ·obtain⟨n,j,rfl⟩:=AdH h
  exact⟨n,.inl (.inl (.inl (.inr j))),rfl⟩
 ·obtain⟨n,j,rfl⟩:=AdH h
  exact⟨n,.inl (.inl (.inr j)),rfl⟩
 ·obtain⟨p,l,rfl⟩:=List.mem_map.1 m
  exact⟨p.b,.inl (.inr ⟨p,l,rfl⟩),rfl⟩
 obtain⟨p,l,rfl⟩:=List.mem_map.1 m;simp only[List.mem_cons,List.not_mem_nil,or_false]at h
 rcases h with rfl|rfl
 ·exact⟨p.b,.inr ⟨p,l,by simp⟩,rfl⟩
 exact⟨p.c,.inr ⟨p,l,by simp⟩,rfl⟩
theorem AiM (l:List T3):(l.flatMap λg=>[g.b,g.c]).length=2*l.length:=by
 induction l with
 |nil=>rfl
 |cons a l j=>rw[List.flatMap_cons,List.length_append,j];simp;omega
def Alj (w:World) (e:Ending) (w':World):Prop:=∃ r:Int,e= .returned (.int .i64 r)/\Below w.heap.size w w'
theorem Ahd (v:Cv) (x:Bp) (w:World) (B:Ug 60 v) (hmax:x.c.max<=300) (hg:Ag x.c) (hr:RdC w v x):
  Calls Tryz.prog 24 #[.agg (Ae x.c.max v)] w (Alj w):=by
 obtain⟨W1,U,q1,Y⟩:=Bb w (Ae x.c.max v) 31;have aM:=Ab (λ(W:World) (X:Below W1.heap.size W1 W)=>(hr.below Y (Nl _)).below X (Nl _));have aC:=Ab (λ(W:World) (X:Below W1.heap.size W1 W)=>Anq (aM.o W X));have aD:w.heap.size<W1.heap.size:=q1.lt
 have aK:Hid ((Aap (AbS x)).length<=180):=Ab (by
  have f1:=B.ins;have f2:=B.lat;have f3:=B.gat;have E:=hr.nIns;have O:=hr.nLat;have n6:=hr.nGat;simp only[Aap,AbS,zs,List.length_append,List.length_map]
  omega)
 have aL:Hid ((AaA (AbS x)).length<=400):=Ab (by
  have f1:=B.outs;have f2:=B.lat;have f3:=B.gat;have f4:=B.bads;have f5:=B.cons;have E:=hr.nOuts;have O:=hr.nLat;have n6:=hr.nGat;have n4:=hr.nBads;have n5:=hr.nCons;simp only[AaA,AbS,zs,List.length_append,List.length_map,AiM]
  omega)
 have Z:=Ab (λ(y:Int) (hy:y∈Aap (AbS x))=>show 2<=y/\y%2=0/\y<=2*x.c.max by
  obtain⟨n,hn,rfl⟩:=Apb hy
  have:=hg.own n hn
  omega)
 have q:=Ab (λ(y:Int) (hy:y∈AaA (AbS x))=>show 0<=y/\y<=2*x.c.max+1 by
  obtain⟨n,hn,rfl⟩:=Anv hy
  have:=hg.used n hn
  omega)
 have aP:=Ab hg.res;have aQ:=Ab (AhV hg ⟨by have:=B.ins;have:=hr.nIns;omega,by have:=B.lat;have:=hr.nLat;omega,by have:=B.gat;have:=hr.nGat;omega,hmax⟩);have cK:=B.lat;have cN:=B.gat;have B:=Ab B;simp only[Ae]at U q1 ⊢;obtain⟨c,hc⟩:∃ c,AbS x=c:=⟨_,rfl⟩;rw[hc]at aC aK aL Z q;have aX:Hid (c.lat=x.c.lat.map t3):=Ab (by rw[<-hc];rfl)
 have aE:c.max=x.c.max:=by rw[<-hc];rfl
 obtain⟨m,hm⟩:∃ m:Int,m=x.c.max:=⟨_,rfl⟩
 have cG:¬ m<0:=by omega
 have cJ:m<=300:=by omega
 have cH:¬ m>16777216:=by omega
 rw[<-hm]at U q1 Z q aE ⊢;have HO:=Ab (λ(W:World) (X:Below W1.heap.size W1 W)=>show Calls Tryz.prog 58 #[.agg (Ae m v)] W _ from aE▸Acd v c W B.o (aC.o W X));have HU:=Ab (λ(W:World) (X:Below W1.heap.size W1 W)=>show Calls Tryz.prog 59 #[.agg (Ae m v)] W _ from aE▸AeB v c W B.o (aC.o W X));simp only[Ae]at HO HU;replace U:=Ab U;replace Y:=Ab Y;replace q1:=Ab q1;replace hm:=Ab hm;clear hg hr hmax hc
 go_enter Tryz.func24,Tryz.ntmps24
 go_upto_region 1 with fail
 rw[U.o];clear U;have s0:W1.cell? ⟨w.heap.size,0,none⟩=some (.int .i64 m):=q1.o.cell 0
 go_upto_region 3 with fail
 clear s0;refine wp_region_held_drew (S:=λW'=>Hid (Below W1.heap.size W1 W')) (by kernel_rfl) (Ab (Dr.below (Dr.refl W1).drew W1.heap.size)) (λj=>?_);refine tk 0 (hy:=λwz hS=>Ub _ _ w.heap.size _ rfl rfl _ _ _ (q1.o.below hS.o aD) Tryz.underlying31 rfl (by kernel_rfl)) (h:=tk 2 (hy:=λwz hS=>Ub _ _ w.heap.size _ rfl rfl _ _ _ (q1.o.below hS.o aD) Tryz.underlying31 rfl (by kernel_rfl)) (h:=?_));refine rd1 1 λK hK=>?_;go_simp
 go_wp2_with (go_at_call 58;refine(HO.o _ j.o).mono ?_;rintro e w2 ⟨A1,E,k1,rfl,bZ,aU,R,bB⟩)
 refine hK.o _ _ (Ab (j.o.trans (bB.mono j.o.size))) (λj=>?_);clear hK K
 try simp only[Act.put,pt]
 refine rd1 3 λK hK=>?_;go_simp
 go_wp2_with (go_at_call 59;refine(HU.o _ j.o).mono ?_;rintro e F ⟨A2,O,k2,rfl,_,_,aA,aR⟩)
 have R:=Ab (R.below aR (Nl _));have aA:=Ab aA;refine hK.o _ _ (Ab (j.o.trans (aR.mono j.o.size))) (λj=>?_);refine tk 4 (h:=tk 5 (h:=?_));refine wpAnyH_done (by kernel_rfl) ?_ _;have bM:=Ab R.o.len;have bN:=Ab aA.o.len
 have bX:(E:Int)<=180:=by have:=aK.o;have:=bM.o;omega
 have bY:(O:Int)<=400:=by have:=aL.o;have:=bN.o;omega
 have q3:=Ab (q1.o.below j.o aD);have aT:=Ab (Y.o.trans (j.o.mono Y.o.size));have bH:=Ab (aC.o _ j.o);have bO:=Ab (aM.o _ j.o);have aB:=Ab (λ(r:Int) (W:World) (l:Dr F W)=>show Alj w (.returned (.int .i64 r)) W from⟨r,rfl,aT.o.trans (l.below _)⟩);have bA:=Ab j.o.size;clear aK aL j q1 aC aM B HO HU aE;go_wp2
 go_loopw [5] (λi wr=>∃ k:Nat,k<=E/\i= .int .i64 k/\Dr F wr) (λi _=>E-(intOf i).toNat)
 case atStart=>exact⟨0,Nat.zero_le _,rfl,Dr.refl _⟩
 case round=>
  obtain⟨k,hk,rfl,l⟩:=hrel
  have aV:(k:Int)<=180:=by omega
  by_cases p:k<E
  ·have J:(k:Int)<E:=by omega
   obtain⟨ad,y,rfl,hB,M,aN⟩:=(R.o.below (l.below F.heap.size) (Nl _)).get p;have cM:wr.cell? ⟨w.heap.size,0,none⟩=some (.int .i64 m):=(q3.o.dr l).cell 0;obtain⟨y0,y1,y2⟩:=Z.o y (List.mem_of_getElem? M);clear M
   have d0:decide (y<2)=false:=by rw[decide_eq_false_iff_not];omega
   have d1:(y%2==1)=false:=by rw[y1];rfl
   have bW:(y.tmod 2==1)=false:=by rw[Int.tmod_eq_emod_of_nonneg (by omega)];exact d1
   have d2:decide (2*m<y)=false:=by rw[decide_eq_false_iff_not];omega
   clear y0 y1 y2;go_wp2
   go_quiet (fail)
   go_wp2;go_roundw
   case rel=>exact⟨k+1,p,by go_num,l.more _⟩
   case measure=>simp[intOf];omega
  have bI:E=k:=by omega
  subst bI;obtain⟨wo,D⟩:∃ wo,wo=wr:=⟨_,rfl⟩;subst D;have bD:=Ab l;clear l;go_wp2
  go_loopw [6] (λi wr=>∃ k:Nat,k<=O/\i= .int .i64 k/\Dr F wr) (λi _=>O-(intOf i).toNat)
  case atStart=>exact⟨0,Nat.zero_le _,rfl,bD.o⟩
  case round=>
   obtain⟨k,hk,rfl,l⟩:=hrel
   have aV:(k:Int)<=400:=by omega
   by_cases p:k<O
   ·have J:(k:Int)<O:=by omega
    obtain⟨ad,y,rfl,hB,M,aN⟩:=(aA.o.below (l.below F.heap.size) (Nl _)).get p;have cM:wr.cell? ⟨w.heap.size,0,none⟩=some (.int .i64 m):=(q3.o.dr l).cell 0;obtain⟨y0,y1⟩:=q.o y (List.mem_of_getElem? M);clear M
    have d0:decide (y<0)=false:=by rw[decide_eq_false_iff_not];omega
    have d2:decide (2*m+1<y)=false:=by rw[decide_eq_false_iff_not];omega
    clear y0 y1;go_wp2
    go_quiet (fail)
    go_wp2;go_roundw
    case rel=>exact⟨k+1,p,by go_num,l.more _⟩
    case measure=>simp[intOf];omega
   have aW:O=k:=by omega
   subst aW;obtain⟨aO,D⟩:∃ aO,aO=wr:=⟨_,rfl⟩;subst D;have bE:=Ab l;have bV:aO.cell? ⟨w.heap.size,2,none⟩=some (.slice v.lat.A v.lat.n v.lat.c):=(q3.o.dr l).cell 2;clear l;go_wp2
   go_loopw [7] (λi wr=>∃ k:Nat,k<=v.lat.n/\i= .int .i64 k/\Dr F wr) (λi _=>v.lat.n-(intOf i).toNat)
   case atStart=>exact⟨0,Nat.zero_le _,rfl,bE.o⟩
   case round=>
    obtain⟨k3,cA,rfl,l⟩:=hrel
    have aV:(k3:Int)<=60:=by omega
    have cL:wr.cell? ⟨w.heap.size,2,none⟩=some (.slice v.lat.A v.lat.n v.lat.c):=(q3.o.dr l).cell 2
    by_cases p:k3<v.lat.n
    ·have J:(k3:Int)<v.lat.n:=by omega
     obtain⟨ad,y,hA,hB,M,c0,c1,c2⟩:=(bH.o.lat.below (l.below F.heap.size) (Nl _)).get p;rw[hA]at cL
     have aJ:Hid (y.c=0∨y.c=1∨y.c=y.a):=Ab (by
      rw[aX.o,List.getElem?_map]at M;obtain⟨z,hz,rfl⟩:=Option.map_eq_some_iff.1 M;have h:=aP.o z (List.mem_of_getElem? hz);simp only[t3]
      omega)
     clear M c1;obtain⟨xa,xb,xc⟩:=y;simp only at c0 c2 aJ;have I:=Ab (aB.o 5 wr l)
     by_cases h0:xc=0
     ·subst h0;go_wp2;go_roundw
      case rel=>exact⟨k3+1,p,by go_num,l⟩
      case measure=>simp[intOf];omega
     have e0:(xc != 0)=true:=by simpa using h0
     by_cases h1:xc=1
     ·subst h1;go_wp2;go_roundw
      case rel=>exact⟨k3+1,p,by go_num,l⟩
      case measure=>simp[intOf];omega
     have e1:(xc != 1)=true:=by simpa using h1
     obtain rfl:xc=xa:=by rcases aJ.o with h|h|h;exact absurd h h0;exact absurd h h1;exact h
     have e2:(xc != xc)=false:=by simp
     clear h0 h1;go_wp2;go_roundw
     case rel=>exact⟨k3+1,p,by go_num,l⟩
     case measure=>simp[intOf];omega
    have bS:k3=v.lat.n:=by omega
    have bJ:¬ (k3:Int)<v.lat.n:=by omega
    obtain⟨aY,D⟩:∃ aY,aY=wr:=⟨_,rfl⟩;subst D;have bF:=Ab l;clear l;go_wp2
    go_loopw [9] (λi wr=>∃ N:Nat,N<=E/\i= .int .i64 N/\Dr F wr) (λi _=>E-(intOf i).toNat)
    case atStart=>exact⟨0,Nat.zero_le _,rfl,bF.o⟩
    case round=>
     obtain⟨N,cB,rfl,l⟩:=hrel
     have bP:(N:Int)<=180:=by omega
     by_cases p:N<E
     ·have J:(N:Int)<E:=by omega
      have aF:=R.o.below (l.below F.heap.size) (Nl _);obtain⟨ad,y,rfl,hB,M,aN⟩:=aF.get p;clear M;have I:=Ab (λn=>aB.o 7 (wr.drewN n) (l.more n));have hT:=Ab (aF.take_ (Nat.le_of_lt p));unfold ivs at hT;rw[<-List.map_take]at hT
      have cE:N<=k1:=by omega
      have bR:(N:Int)<=k1:=by omega
      have cF:k1<=9223372036854775807:=aU;obtain⟨b,X⟩:∃ b,hasB ((Aap c).take N) y=b:=⟨_,rfl⟩;have hH:=Ab (λn=>Aiu (some ad) N k1 ((Aap c).take N) y (wr.drewN n) (by omega) (Dr.rd ((Dr.refl wr).more n) hT.o));rw[X]at hH;clear X;cases b
      ·go_wp2
       go_quiet ((go_at_call 60;exact Vp (hH.o _)))
       go_wp2;go_roundw
       case rel=>exact⟨N+1,p,by go_num,l.more _⟩
       case measure=>simp[intOf];omega
      go_wp2
      go_quiet ((go_at_call 60;exact Vp (hH.o _)))
      go_wp2;go_ret;exact I.o _
     have bT:N=E:=by omega
     have bK:¬ (N:Int)<E:=by omega
     obtain⟨aZ,D⟩:∃ aZ,aZ=wr:=⟨_,rfl⟩;subst D;have bG:=Ab l;clear l;go_wp2
     go_loopw [10] (λi wr=>∃ k5:Nat,k5<=O/\i= .int .i64 k5/\Dr F wr) (λi _=>O-(intOf i).toNat)
     case atStart=>exact⟨0,Nat.zero_le _,rfl,bG.o⟩
     case round=>
      obtain⟨k5,cC,rfl,l⟩:=hrel
      have bQ:(k5:Int)<=400:=by omega
      by_cases p:k5<O
      ·have J:(k5:Int)<O:=by omega
       obtain⟨ad,y,rfl,hB,M,aN⟩:=(aA.o.below (l.below F.heap.size) (Nl _)).get p;obtain⟨cO,cP⟩:=q.o y (List.mem_of_getElem? M);clear M;have I:=Ab (λn=>aB.o 9 (wr.drewN n) (l.more n));have aF:=Ab (R.o.below (l.below F.heap.size) (Nl _))
       by_cases h1:1<y
       ·have d1:decide (1<y)=true:=by simpa using h1
        obtain⟨z,hz⟩:∃ z,y-y%2=z:=⟨_,rfl⟩
        have cQ:IntKind.i64.wrap (y-y%2)=z:=by rw[hz];exact IntWalk.i64_in _ (by omega)
        obtain⟨b,X⟩:∃ b,hasB (Aap c) z=b:=⟨_,rfl⟩;have hH:=Ab (λn=>Aiu A1 E k1 (Aap c) z (wr.drewN n) (by omega) (Dr.rd ((Dr.refl wr).more n) aF.o));rw[X]at hH;clear X;cases b
        ·go_wp2
         go_quiet ((go_at_call 60;exact Vp (hH.o _)))
         go_wp2;go_ret;exact I.o _
        go_wp2
        go_quiet ((go_at_call 60;exact Vp (hH.o _)))
        go_wp2;go_roundw
        case rel=>exact⟨k5+1,p,by go_num,l.more _⟩
        case measure=>simp[intOf];omega
       have d1:decide (1<y)=false:=by simpa using h1
       go_wp2
       go_quiet (fail)
       go_wp2;go_roundw
       case rel=>exact⟨k5+1,p,by go_num,l.more _⟩
       case measure=>simp[intOf];omega
      have bU:k5=O:=by omega
      have bL:¬ (k5:Int)<O:=by omega
      have aI:w.heap.size<F.heap.size:=q3.o.lt;have q5:=(q3.o.dr l).cell 6;have q5:wr.cell? ⟨w.heap.size,6,none⟩=some (.slice v.gat.A v.gat.n v.gat.c):=q5;go_wp2;refine wp_region_held_drew (S:=λW'=>Hid (Below F.heap.size F W')) (by kernel_rfl) (Ab ((l.more 1).below _)) (λj=>?_);refine tk 0 (hy:=λwz hS=>Ub _ _ w.heap.size _ rfl rfl _ _ _ (q3.o.below hS.o aI) Tryz.underlying31 rfl (by kernel_rfl)) (h:=tk 3 (h:=tk 4 (hy:=by intro wz hS;have kz:wz.cell? ⟨w.heap.size,6,none⟩=some (.slice v.gat.A v.gat.n v.gat.c):=(q3.o.below hS.o aI).cell 6;go_simp;(try with_reducible rfl)) (h:=tk 5 (h:=?_))));refine rd1 1 λK hK=>?_;go_simp;refine(AaZ m v x _ (by omega) aQ.o (bO.o.below j.o (Nl _))).mono ?_;rintro e w6 ⟨s6,rfl,_,_,aS⟩;dsimp only[sv];have bC:=Ab (aT.o.trans ((j.o.trans (aS.mono j.o.size)).mono (Nat.le_trans Y.o.size bA.o)));refine hK.o _ _ (Ab (j.o.trans (aS.mono j.o.size))) (λj=>?_);refine tk 2 (h:=tk 6 (h:=?_));refine wpAnyH_done (by kernel_rfl) ?_ _;have aH:=Ab (λ(r:Int)=>show Alj w (.returned (.int .i64 r)) w6 from⟨r,rfl,bC.o⟩)
      by_cases h3:s6.n<v.gat.n
      ·have d3:(s6.n:Int)<v.gat.n:=by omega
       go_wp2;go_ret;exact aH.o _
      have d3:¬ (s6.n:Int)<v.gat.n:=by omega
      go_wp2;go_ret;exact aH.o _
theorem Agv (v:Cv) (x:Bp) (w:World) (hg:Ag x.c) (hr:RdC w v x):
  Calls Tryz.prog 7 #[.agg (Ae x.c.max v),.int .i64 60] w λe w'=>∃ b:Bool,e= .returned (.bool b)/\Below w.heap.size w w'/\(b=true->AbQ x/\x.c.max<=300):=by
 obtain⟨W1,j,B,p⟩:=Bb w (Ae x.c.max v) 31;have J:=Ab (Ahn x.c.max 60 v W1);have E:=Ab (λ(W:World) (hb:Below W1.heap.size W1 W) (hf:Ug 60 v) (l:x.c.max<=300)=>Ahd v x W hf l hg ((hr.below p (Nl _)).below hb (Nl _)))
 have z:=Ab (λ(hf:Ug 60 v) (l:x.c.max<=300)=>show AbQ x/\x.c.max<=300 by
  have n1:=hr.nIns;have n2:=hr.nLat;have n3:=hr.nOuts;have n4:=hr.nBads;have n5:=hr.nCons;have n6:=hr.nGat;have n7:=hr.nSym
  have n8:v.com.size=x.com.length:=by rw[hr.com];rfl
  have m1:=hf.ins;have m2:=hf.lat;have m3:=hf.outs;have m4:=hf.bads;have m5:=hf.cons;have m6:=hf.gat;have m7:=hf.sym;have m8:=hf.com
  exact⟨⟨by omega,by omega,by omega,by omega,by omega,by omega,by omega,by omega⟩,l⟩)
 have I:w.heap.size<W1.heap.size:=B.lt;obtain⟨m,l⟩:∃ m:Nat,m=x.c.max:=⟨_,rfl⟩;rw[<-l]at J E j B z ⊢;clear l hg hr;simp only[Ae]at j B J E ⊢;replace j:=Ab j;replace p:=Ab p;replace B:=Ab B;obtain⟨O,R,S,U,X,Y,Z,A,s8⟩:=c9d B.o
 go_enter Tryz.func7,Tryz.ntmps7
 go_upto_region 1 with fail
 rw[j.o];clear j
 go_wp2_with fail
 refine J.o.mono ?_;rintro e w2 ⟨b,rfl,D,M⟩;have q2:=Ab (B.o.below D I);have y:=Ab (p.o.trans (D.mono p.o.size));clear O R S U X Y Z A s8 J B;obtain⟨O,R,S,U,X,Y,Z,A,s8⟩:=c9d q2.o;cases b
 ·clear M;go_wp2;go_ret
  exact⟨false,rfl,y.o,λh=>by cases h⟩
 have F:Hid (Ug 60 v):=M rfl;clear M
 by_cases l:m<=300
 case neg=>
  have d1:decide ((m:Int)<=300)=false:=by rw[decide_eq_false_iff_not];omega
  clear l;go_wp2;go_ret
  exact⟨false,rfl,y.o,λh=>by cases h⟩
 have d1:decide ((m:Int)<=300)=true:=by rw[decide_eq_true_iff];omega
 replace E:=Ab (E.o w2 D F.o l);replace l:=Ab l
 go_wp2_with fail
 refine E.o.mono ?_;rintro e w3 ⟨r,rfl,q⟩;replace q:=Ab (y.o.trans (q.mono y.o.size))
 by_cases N:r=0
 ·subst N;go_wp2;go_ret
  exact⟨true,rfl,q.o,λ_=>z.o F.o l.o⟩
 have e0:(r==0)=false:=by simpa using N
 go_wp2;go_ret
 exact⟨false,rfl,q.o,λh=>by cases h⟩
end Go.Proofs.YtmidbhnhcbpneaaGreatDoor.Top
end
section
namespace Go.Proofs.YtmidbhnhcbpneaaGreatDoor.Top
open Go Go.RowKit Go.Lt YtmidbhnhcbpneaaGreatDoor.Lit YtmidbhnhcbpneaaGreatDoor.Dec
open YtmidbhnhcbpneaaGreatDoor.Circ (T3 enc3 RdT Sl Cv Ae Mg)
theorem AlV {w:World} {A:Option Addr} {n k:Nat} {l:List (Int×Int)} (h:RdS w A n 2 (Gz l)) (hk:k<n):
  ∃j x,A=some j/\l[k]?=some x/\w.cell? (j.add (k*2))=some (.int .i64 x.1)/\w.cell? ⟨(j.add (k*2)).block,(j.add (k*2)).off+1,none⟩=some (.int .i64 x.2):=by
 obtain⟨q,h2⟩:=h
 have z:l.length=n:=by have:=Mt nd2 2 (λ_=>rfl) l;unfold Gz at q;omega
 have m:=List.getElem?_eq_getElem (show k<l.length by omega)
 rcases h2 with h2|⟨j,r,y,p⟩
 ·omega
 refine⟨j,_,r,m,?_,?_⟩
 ·refine p (k*2) _ ?_;unfold Gz;rw[flat_get nd2 2 (λ_=>rfl) (by decide),show k*2/2=k by omega,m,show k*2%2=0 by omega];rfl
 rw[Mg _ _ _ (by decide)];refine p (k*2+1) _ ?_;unfold Gz;rw[flat_get nd2 2 (λ_=>rfl) (by decide),show(k*2+1)/2=k by omega,m,show(k*2+1)%2=1 by omega];rfl
theorem Zv {W:World} {B n:Nat} {s:Sl} {l:List Bool} (h:W.ownsRow B 4 1 (sv s) n (bvs l)):Rd W s.A n (bvs l):=by
 obtain⟨A,c,m,_,_,j⟩:=Rd.of_own h;injection m with h1 h2 _;rw[h1];exact j
theorem AgG (A:Option Addr) (n c:Nat) (vals:List Bool) (l:Nat) (w:World) (hr:Rd w A n (bvs vals)) (hl:l/2<n) (h2:l<=1000000):
  Calls Tryz.prog 108 #[.slice A n c,.int .i64 (l:Nat)] w λe F=>e= .returned (.bool (valOf vals l))/\F=w:=by
 obtain⟨I,b,rfl,_,x,z⟩:=hr.get (f:=Value.bool) hl;obtain⟨q,r⟩:∃ q,q=l/2:=⟨_,rfl⟩;have y:Hid (valOf vals l=(b != decide (l%2=1))):=Ab (by unfold valOf;rw[List.getD_eq_getElem?_getD,x];rfl);rw[<-r]at z hl
 have E:(l:Int)/2=(q:Int):=by omega
 have D:(q:Int)<n:=by omega
 have h:(l:Int)<=1000000:=by omega
 clear x hr;replace r:=Ab r;obtain⟨p,B⟩:∃ p,((l:Int)%2==1)=p:=⟨_,rfl⟩;have m:decide ((l:Int)%2=1)=p:=B
 have j:decide (l%2=1)=p:=by rw[<-m];apply decide_eq_decide.2;omega
 rw[j]at y;clear j
 go_enter Tryz.func108,Tryz.ntmps108
 go_wp2;go_ret;refine⟨?_,rfl⟩;rw[y.o]
 cases b<;>cases p<;>rfl
theorem AdM (l:List Bool) (k:Nat):brought l (k+1)=brought l k++ [l.getD k false]:=by unfold brought;rw[List.range_succ,List.map_append];rfl
theorem Ir (l:List Bool) (k:Nat):(brought l k).length=k:=by simp[brought]
theorem Rl (l:List Bool) (b:Bool):bvs (l++ [b])=bvs l++ [.bool b]:=by unfold bvs;rw[List.map_append];rfl
def Ajy (l:List Bool) (w:World) (e:Ending) (w':World):Prop:=∃ s:Sl,e= .returned (sv s)/\s.n=l.length/\w'.ownsRow w.heap.size 4 1 (sv s) l.length (bvs l)/\Below w.heap.size w w'
theorem Rb (A:Option Addr) (n c:Nat) (l:List Bool) (m:Nat) (w:World) (hr:Rd w A n (bvs l)) (hn:n<=maxLen) (hm:m<=1000):
  Calls Tryz.prog 78 #[.slice A n c,.int .i64 (m:Nat)] w (Ajy (brought l m) w):=by
 have hl:l.length=n:=by have:=hr.1;simpa[bvs] using this
 have aC:(n:Int)<=9223372036854775807:=by unfold maxLen at hn;omega
 have aB:(m:Int)<=1000:=by omega
 have aA:=Ab hl
 have h0:Hid ((w.alloc (.cells #[] 4)).ownsRow w.heap.size 4 1 (.slice (some ⟨w.heap.size,0,none⟩) 0 0) 0 (bvs (brought l 0))/\Below w.heap.size w (w.alloc (.cells #[] 4))):=
  Ab ⟨Fq _ _ _ _ (Nl _),(Below.refl _ _).alloc (Nl _) _⟩
 obtain⟨W1,q⟩:∃ W1,w.alloc (.cells #[] 4)=W1:=⟨_,rfl⟩;rw[q]at h0;replace q:=Ab q;clear hn hl
 go_enter Tryz.func78,Tryz.ntmps78
 go_upto_region 2 with fail
 rw[q.o];clear q;generalize y:w.heap.size=I at*;go_wp2
 go_loopw [5,6] (λu i wr=>∃ k:Nat,i= .int .i64 k/\k<=m/\Hid (wr.ownsRow I 4 1 u k (bvs (brought l k))/\Below I w wr)) (λ_ i _=>m-(intOf i).toNat)
 case atStart=>exact⟨0,rfl,Nat.zero_le _,h0⟩
 case round=>
  obtain⟨k,rfl,hk,F⟩:=hrel;obtain⟨⟨U,j,cU⟩,rfl,E⟩:=Be F.o.1;replace E:j=k:=E;subst E
  by_cases S:j<m
  ·have X:(j:Int)<m:=by omega
   have h:=F.o.1;have r:=F.o.2;have z:=Ab (AdM l j);have J:=Ab (show j+1<=maxLen by unfold maxLen;omega);have M:=Ab (show(j+1)*1<=140737488355328 by omega)
   by_cases Z:j<n
   ·have R:(j:Int)<n:=by omega
    obtain⟨ad,b,rfl,_,hb,cb⟩:=(hr.below r (Nat.le_of_eq y)).get (f:=Value.bool) Z
    have x:l.getD j false=b:=by rw[List.getD_eq_getElem?_getD,hb];rfl
    rw[x]at z;clear hb x
    go_wp2_with (at_builtin;refine Ah rfl _ _ _ rfl Tryz.underlying22 Go.Proofs.YtmidbhnhcbpneaaGreatDoor.Circ.Rf rfl (by decide) rfl (by first|rfl|simp[go_sem]) h r (Nat.le_of_eq y.symm) rfl (by simp[Value.oneCell']) J.o M.o ?_;intro v6 Y p D O)
    have B:Hid (Y.ownsRow I 4 1 v6 (j+1) (bvs (brought l (j+1)))/\Below I w Y):=Ab ⟨by rw[z.o,Rl];exact p,D⟩;go_roundw
    case rel=>exact⟨j+1,by go_num,S,B⟩
    case measure=>simp[intOf];omega
   have R:¬ (j:Int)<n:=by omega
   have x:l.getD j false=false:=by rw[List.getD_eq_getElem?_getD,List.getElem?_eq_none (by have:=aA.o;omega)];rfl
   rw[x]at z;clear x
   go_wp2_with (at_builtin;refine Ah rfl _ _ _ rfl Tryz.underlying22 Go.Proofs.YtmidbhnhcbpneaaGreatDoor.Circ.Rf rfl (by decide) rfl (by first|rfl|simp[go_sem]) h r (Nat.le_of_eq y.symm) rfl (by simp[Value.oneCell']) J.o M.o ?_;intro v6 Y p D O)
   have B:Hid (Y.ownsRow I 4 1 v6 (j+1) (bvs (brought l (j+1)))/\Below I w Y):=Ab ⟨by rw[z.o,Rl];exact p,D⟩;go_roundw
   case rel=>exact⟨j+1,by go_num,S,B⟩
   case measure=>simp[intOf];omega
  obtain rfl:m=j:=by omega
  have X:¬ (m:Int)<m:=by omega
  have N:Hid (Ajy (brought l m) w (.returned (.slice U m cU)) wr):=Ab ⟨⟨U,m,cU⟩,rfl,by rw[Ir],by rw[Ir,y];exact F.o.1,by rw[y];exact F.o.2⟩;clear F;go_wp2;go_ret;exact N.o
theorem AgL {c:Cir} {ins:List Bool} {k:Nat} {b:Bool} (hk:k<c.ins.length+c.lat.length) (h:ins[k]?=some b):bvs (Dl c ins (k+1))=bvs (Dl c ins k)++ [.bool b]:=by rw[Ajr hk h,Rl]
theorem Agw (An Ai:Option Addr) (n cn ni ci:Nat) (c:Cir) (ins:List Bool) (w:World) (hg:Ag c) (hn:RdS w An n 2 (Gz (Ei c))) (hr:Rd w Ai ni (bvs ins)) (hl:ins.length=c.ins.length+c.lat.length) (hb:n<=1000):
  Calls Tryz.prog 109 #[.slice An n cn,.slice Ai ni ci] w (Ajy (Oz c ins) w):=by
 have X:n=(Av c).length:=by
  have h1:=hn.1;have h2:=Mt nd2 2 (λ_=>rfl) (Ei c);rw[Fy]at h2;unfold Gz at h1;omega
 have aR:ni=ins.length:=by have:=hr.1;simpa[bvs] using this.symm
 obtain⟨IL,x⟩:∃ IL,IL=c.ins.length+c.lat.length:=⟨_,rfl⟩;have aE:=Ht c
 have aP:ni=IL:=by omega
 have aS:IL<=n:=by omega
 have aX:(n:Int)<=1000:=by omega
 have aH:=Ab (Aat (c:=c) (ins:=ins) hl);have aN:=Ab (λk (hk:k<=n)=>Abu (c:=c) (ins:=ins) hl (by omega:k<=(Av c).length))
 have h0:Hid ((w.alloc (.cells #[.bool false] 4)).ownsRow w.heap.size 4 1 (.slice (some ⟨w.heap.size,0,none⟩) 1 1) (0+1) (bvs (Dl c ins 0))/\Below w.heap.size w (w.alloc (.cells #[.bool false] 4))):=by
  have:=World.ownsRow_lit w (e:=4) (size:=1) #[.bool false] 1 (Nl _) (by unfold maxLen;omega) rfl
  rw[AeP];exact Ab ⟨by simpa[bvs] using this,(Below.refl _ _).alloc (Nl _) _⟩
 obtain⟨W1,E⟩:∃ W1,w.alloc (.cells #[.bool false] 4)=W1:=⟨_,rfl⟩;rw[E]at h0;replace E:=Ab E;subst aP;replace X:=Ab X;replace x:=Ab x;replace hl:=Ab hl;replace aE:=Ab aE;clear aR
 go_enter Tryz.func109,Tryz.ntmps109
 go_upto_region 2 with fail
 rw[E.o];clear E;generalize p:w.heap.size=A at*;go_wp2
 go_loopw [5,6,7] (λu j i wr=>∃ k:Nat,i= .int .i64 k/\j= .int .i64 (if k<ni then k else ni:Nat)/\k<=n/\Hid (wr.ownsRow A 4 1 u (k+1) (bvs (Dl c ins k))/\Below A w wr)) (λ_ _ i _=>n-(intOf i).toNat)
 case atStart=>exact⟨0,rfl,(by rcases Nat.eq_zero_or_pos ni with h|h<;>simp[h]),Nat.zero_le _,h0⟩
 case round=>
  obtain⟨k,rfl,rfl,hk,hM⟩:=hrel;obtain⟨⟨U,nU,cU⟩,rfl,aD⟩:=Be hM.o.1;replace aD:nU=k+1:=aD;subst aD
  by_cases S:k<n
  ·have aO:(k:Int)<n:=by omega
   have r:=hM.o.1;have m:=hM.o.2;obtain⟨ad,z,rfl,hz,c0,c1⟩:=AlV (hn.below m (Nat.le_of_eq p)) S;have aA:=Ab (show k+1+1<=maxLen by unfold maxLen;omega);have aB:=Ab (show(k+1+1)*1<=140737488355328 by omega)
   by_cases J:k<ni
   ·have aK:(k:Int)<ni:=by omega
    have y:=Jy (c:=c) (k:=k) (by rw[<-x.o];exact J);rw[y]at hz;obtain rfl:=Option.some.inj hz;obtain⟨aW,b,rfl,_,F,cb⟩:=(hr.below m (Nat.le_of_eq p)).get (f:=Value.bool) J;have aC:=Ab (AgL (c:=c) (k:=k) (by rw[<-x.o];exact J) F);dsimp only at c0;rw[if_pos J];clear F hz y c1
    go_wp2_with (at_builtin;refine Ah rfl _ _ _ rfl Tryz.underlying22 Go.Proofs.YtmidbhnhcbpneaaGreatDoor.Circ.Rf rfl (by decide) rfl (by first|rfl|simp[go_sem]) r m (Nat.le_of_eq p.symm) rfl (by simp[Value.oneCell']) aA.o aB.o ?_;intro Y B l I Z)
    have D:Hid (B.ownsRow A 4 1 Y (k+1+1) (bvs (Dl c ins (k+1)))/\Below A w B):=Ab ⟨by rw[aC.o];exact l,I⟩;go_roundw
    case rel=>exact⟨k+1,by go_num,by split<;>go_num,S,D⟩
    case measure=>simp[intOf];omega
   have aK:¬ (k:Int)<ni:=by omega
   obtain⟨j,hj⟩:∃ j,k=ni+j:=⟨k-ni,by omega⟩
   have aQ:j<(Aw c.gat).length:=by have:=X.o;have:=aE.o;have:=x.o;omega
   have O:=List.getElem?_eq_getElem aQ;have y:=Nh O;have q:=AgB (ins:=ins) hl.o O;have M:=of_low hg O (.inl rfl);have N:=of_low hg O (.inr rfl);rw[<-x.o,<-hj]at y q M N;rw[y]at hz;obtain rfl:=Option.some.inj hz;unfold AcS at c0 c1;dsimp only at c0 c1;obtain⟨la,aL⟩:∃ la,ofC c (c.gat.getD ((Aw c.gat)[j]) z3).b=la:=⟨_,rfl⟩;obtain⟨lb,aM⟩:∃ lb,ofC c (c.gat.getD ((Aw c.gat)[j]) z3).c=lb:=⟨_,rfl⟩;rw[aL]at c0 q M;rw[aM]at c1 q N
   have aT:¬ (la:Int)<0:=by omega
   have aU:(la:Int)<=10000:=by omega
   have aV:(lb:Int)<=10000:=by omega
   have R:Rd wr U (k+1) (bvs (Dl c ins k)):=Zv (s:=⟨U,k+1,cU⟩) r;have HA:=Ab (AgG U (k+1) cU (Dl c ins k) la wr R (by omega) (by omega));have HB:=Ab (AgG U (k+1) cU (Dl c ins k) lb wr R (by omega) (by omega));obtain⟨b1,aI⟩:∃ b1,valOf (Dl c ins k) la=b1:=⟨_,rfl⟩;obtain⟨b2,F⟩:∃ b2,valOf (Dl c ins k) lb=b2:=⟨_,rfl⟩;rw[aI]at HA q;rw[F]at HB q;have aC:Hid (bvs (Dl c ins (k+1))=bvs (Dl c ins k)++ [.bool (b1&&b2)]):=Ab (by rw[q,Rl]);replace hj:=Ab hj;rw[if_neg J];clear q M N hz y O aL aM aI F R;have aF:∀ Y B,B.ownsRow A 4 1 Y (k+1+1) (bvs (Dl c ins k)++ [.bool (b1&&b2)])->Below A w B->Hid (B.ownsRow A 4 1 Y (k+1+1) (bvs (Dl c ins (k+1)))/\Below A w B):=λY B h1 h2=>Ab ⟨by rw[aC.o];exact h1,h2⟩;cases b1
   ·go_wp2_with (first|(go_at_call 108;refine HA.o.mono ?_;rintro e w5 ⟨rfl,rfl⟩)|(at_builtin;refine Ah rfl _ _ _ rfl Tryz.underlying22 Go.Proofs.YtmidbhnhcbpneaaGreatDoor.Circ.Rf rfl (by decide) rfl (by first|rfl|simp[go_sem]) r m (Nat.le_of_eq p.symm) rfl (by simp[Value.oneCell']) aA.o aB.o ?_;intro Y B l I Z))
    have D:=aF Y B l I;go_roundw
    case rel=>exact⟨k+1,by go_num,by rw[if_neg (by omega)],S,D⟩
    case measure=>simp[intOf];omega
   go_wp2_with fail
   refine HA.o.mono ?_;rintro e w5 ⟨rfl,rfl⟩
   go_wp2_with (first|(go_at_call 108;refine HB.o.mono ?_;rintro e w5 ⟨rfl,rfl⟩)|(at_builtin;refine Ah rfl _ _ _ rfl Tryz.underlying22 Go.Proofs.YtmidbhnhcbpneaaGreatDoor.Circ.Rf rfl (by decide) rfl (by first|rfl|simp[go_sem]) r m (Nat.le_of_eq p.symm) rfl (by simp[Value.oneCell']) aA.o aB.o ?_;intro Y B l I Z))
   have D:=aF Y B (by simpa using l) I;go_roundw
   case rel=>exact⟨k+1,by go_num,by rw[if_neg (by omega)],S,D⟩
   case measure=>simp[intOf];omega
  obtain rfl:n=k:=by omega
  have aO:¬ (n:Int)<n:=by omega
  have aJ:Hid (Ajy (Oz c ins) w (.returned (.slice U (n+1) cU)) wr):=by
   have e1:=aH.o;have e2:=aN.o n (Nl _);rw[<-X.o]at e1;rw[<-e1];refine Ab ⟨⟨U,n+1,cU⟩,rfl,e2.symm,?_,by rw[p];exact hM.o.2⟩;rw[e2,p];exact hM.o.1
  clear hM;go_wp2;go_ret;exact aJ.o
end Go.Proofs.YtmidbhnhcbpneaaGreatDoor.Top
end
