/- A part of the proof. -/
import Derived.Test.YtmidbhnhcbpneaaGreatDoorM3
import Derived.Test.YtmidbhnhcbpneaaGreatDoorM16
import Derived.Test.YtmidbhnhcbpneaaGreatDoorM8
import Derived.Test.YtmidbhnhcbpneaaGreatDoorM6
set_option linter.unusedVariables false
set_option linter.unusedSimpArgs false
set_option maxRecDepth 8000
set_option maxHeartbeats 8000000
section
namespace Go.Proofs.YtmidbhnhcbpneaaGreatDoor.Top
open Go Go.RowKit Go.Lt YtmidbhnhcbpneaaGreatDoor.Lit YtmidbhnhcbpneaaGreatDoor.Dec
open YtmidbhnhcbpneaaGreatDoor.Circ (T3 enc3 RdT Sl Cv Ae)
theorem AeF {l:List N3}:∀ u∈Iv l,u.oneCell'=true:=by
 intro u m;obtain⟨x,_,j⟩:=List.mem_flatMap.1 m;simp at j
 rcases j with rfl|rfl|rfl<;>rfl
theorem Bf {W:World} {n0 size n:Nat} {e:TypeId} {v:Value} {xs:List Value} (h:W.ownsRow (n0+2) e size v n xs) (i:Nat) (u:Value):(W.setCell ⟨n0,i,none⟩ u).ownsRow (n0+2) e size v n xs:=
 ((Fr.refl (λq=>q=n0) W).set (p:=⟨n0,i,none⟩) rfl u).own h (λg j e=>by have:=(Dm h j).1;omega)
theorem cell_far {W:World} {n0 i j:Nat} {u:Value} (h:j≠i):(W.setCell ⟨n0,i,none⟩ u).cell? ⟨n0,j,none⟩=W.cell? ⟨n0,j,none⟩:=
 World.cell?_setCell_other W _ _ u (λe=>h (by injection e with _ e2;exact e2.symm))
theorem Ka {W:World} {g:Nat} {t:TypeId} {cs:Array Value} (b:Blk W g t cs) (i:Nat) (hi:i<cs.size) {u:Value}:(W.setCell ⟨g,i,none⟩ u).cell? ⟨g,i,none⟩=some u:=
 ((b.set_ i u).cell i).trans (by simp[hi])
def Eu (u v:Value):Prop:=∀ g,u.ownBlock=some g->v.ownBlock≠some g
theorem apart_eq {a a' b b':Value} (h1:a=a') (h2:b=b') (h:Eu a' b'):Eu a b:=by subst h1 h2;exact h
theorem Lp {W W':World} {B n n' s s':Nat} {e e':TypeId} {u v:Value} {xs ys:List Value} (h:W'.ownsRow W.heap.size e s v n xs) (k:W.ownsRow B e' s' u n' ys):Eu v u:=λg j h2=>by
 have:=(Dm h j).1
 have:=(Dm k h2).2
 omega
theorem Eu.symm {u v:Value} (h:Eu u v):Eu v u:=λg j h2=>h g h2 j
structure Apo (v:Cv):Prop where
 oi:Eu (sv v.outs) (sv v.ins)
 bi:Eu (sv v.bads) (sv v.ins)
 bo:Eu (sv v.bads) (sv v.outs)
 ci:Eu (sv v.cons) (sv v.ins)
 co:Eu (sv v.cons) (sv v.outs)
 cb:Eu (sv v.cons) (sv v.bads)
def Aio (x:Bp) (w:World) (e:Ending) (w':World):Prop:=∃ v',e= .returned (.agg (Ae x.c.max v'))/\Lj w.heap.size w' v' x/\Apo v'/\Below w.heap.size w w'
theorem Ajt {x:Bp} {n0:Nat} {w W j:World} {tmps:Array Value} {x0 x1 x2 x3 x4 x5 x6 x7 x8 y0 y1 y2 y3 y4 y5 y6 y7 y8:Value} {v:Cv} (hn0:w.heap.size=n0) (hb:Below n0 w W) (b1:Blk W (n0+1) 31 #[x0,x1,x2,x3,x4,x5,x6,x7,x8])
  (hW:j=(((((((((W.setCell ⟨n0+1,0,none⟩ y0).setCell ⟨n0+1,1,none⟩ y1).setCell ⟨n0+1,2,none⟩ y2).setCell ⟨n0+1,3,none⟩ y3).setCell ⟨n0+1,4,none⟩ y4).setCell ⟨n0+1,5,none⟩ y5).setCell ⟨n0+1,6,none⟩ y6).setCell ⟨n0+1,7,none⟩ y7).setCell ⟨n0+1,8,none⟩ y8))
  (hP:Value.agg #[y0,y1,y2,y3,y4,y5,y6,y7,y8]= .agg (Ae x.c.max v)) (ho:Lj n0 W v x) (hd:Apo v)
  (h2:tmps[2]?=some (.pointer (some ⟨n0+1,0,none⟩))):bodyPost Tryz.prog Tryz.f33 (Aio x w) .ret {tmps:=tmps,defers:=[]} j:=by
 subst hW;have p:=Xj b1 y0 y1 y2 y3 y4 y5 y6 y7 y8;have m:=fr9 (Fr.refl (λq=>q=n0+1) W) rfl y0 y1 y2 y3 y4 y5 y6 y7 y8;generalize (((((((((W.setCell ⟨n0+1,0,none⟩ y0).setCell ⟨n0+1,1,none⟩ y1).setCell ⟨n0+1,2,none⟩ y2).setCell ⟨n0+1,3,none⟩ y3).setCell ⟨n0+1,4,none⟩ y4).setCell ⟨n0+1,5,none⟩ y5).setCell ⟨n0+1,6,none⟩ y6).setCell ⟨n0+1,7,none⟩ y7).setCell ⟨n0+1,8,none⟩ y8)=j at*;obtain⟨r,y,z,h,D,E,F,I,J⟩:=c9c (p)
 have l:Below w.heap.size w j:=by rw[hn0];exact hb.trans (m.below (B:=n0) (by have:=b1.lt;omega) (λk M=>by omega))
 refine bodyPost_ret (v:= .agg #[y0,y1,y2,y3,y4,y5,y6,y7,y8]) ?_ rfl ⟨v,by rw[hP],by rw[hn0];exact ho.fr m (λk e=> .inr ⟨31,_,e▸b1,by decide,by decide,by decide,by decide⟩),hd,l⟩;simp[results,Tryz.results33,go_sem,h2,r,y,z,h,D,E,F,I,J]
theorem AgE (v:Cv) (x:Bp) (w:World) (hr:RdC w v x) (hl:Mx x):
  Calls Tryz.prog 33 #[.agg (Ae x.c.max v)] w (Aio x w):=by
 have aU:=Ab hr.nIns;have aV:=Ab hr.nLat;have aW:=Ab hr.nOuts;have aX:=Ab hr.nBads;have aY:=Ab hr.nCons;have aZ:=Ab hr.nGat;have bA:=Ab hr.nSym;obtain⟨⟨A1,M1,C1⟩,⟨A2,M2,C2⟩,⟨A3,M3,C3⟩,⟨A4,M4,C4⟩,⟨A5,M5,C5⟩,⟨A6,M6,C6⟩,⟨A7,M7,C7⟩,aI⟩:=v;have bW:Hid (M1<=20000000):=Ab (by have h:=aU.o;have:=hl.ins;dsimp only at h;omega);have bX:Hid (M2<=20000000):=Ab (by have h:=aV.o;have:=hl.lat;dsimp only at h;omega);have bY:Hid (M3<=20000000):=Ab (by have h:=aW.o;have:=hl.outs;dsimp only at h;omega);have bZ:Hid (M4<=20000000):=Ab (by have h:=aX.o;have:=hl.bads;dsimp only at h;omega);have cA:Hid (M5<=20000000):=Ab (by have h:=aY.o;have:=hl.cons;dsimp only at h;omega);have cB:Hid (M6<=20000000):=Ab (by have h:=aZ.o;have:=hl.gat;dsimp only at h;omega);have cC:Hid (M7<=20000000):=Ab (by have h:=bA.o;have:=hl.sym;dsimp only at h;omega);obtain⟨m,hm⟩:∃ m:Int,m=x.c.max:=⟨_,rfl⟩;rw[<-hm];obtain⟨W2,aN,b0,b1,dG,bD⟩:=Qd w #[.int .i64 m,.slice A1 M1 C1,.slice A2 M2 C2,.slice A3 M3 C3,.slice A4 M4 C4,.slice A5 M5 C5,.slice A6 M6 C6,.slice A7 M7 C7,.string aI] #[.int .i64 0,.slice none 0 0,.slice none 0 0,.slice none 0 0,.slice none 0 0,.slice none 0 0,.slice none 0 0,.slice none 0 0,.string ⟨#[]⟩] 31 31;replace aN:=Ab aN;replace hm:=Ab hm
 go_enter Tryz.func33,Tryz.ntmps33
 go_upto_region 1 with fail
 rw[aN.o];clear aN;generalize aC:w.heap.size=M at*
 apply Ed [_,_,undef,_,_,undef,_,_,undef,_,_,undef,_,undef,_,undef,_,undef,_,undef] [3,4,5,6,7,8,9,10,11,12,13,14,15,16,17,18] (λvs D g O=>(Below M w O)/\(∃x1 x2 x6 x7,Blk O M 31 #[.int .i64 m,x1,x2,.slice A3 M3 C3,.slice A4 M4 C4,.slice A5 M5 C5,x6,x7,.string aI])/\(Blk O (M+1) 31 #[.int .i64 0,.slice none 0 0,.slice none 0 0,.slice none 0 0,.slice none 0 0,.slice none 0 0,.slice none 0 0,.slice none 0 0,.string ⟨#[]⟩])/\(¬D 13->O.cell? ⟨M,1,none⟩=some (.slice A1 M1 C1))/\(¬D 15->O.cell? ⟨M,2,none⟩=some (.slice A2 M2 C2))/\(¬D 17->O.cell? ⟨M,6,none⟩=some (.slice A6 M6 C6))/\(¬D 19->O.cell? ⟨M,7,none⟩=some (.slice A7 M7 C7))/\(D 0->g 3=Bl vs 0)/\(D 1->g 4=Bl vs 1)/\(D 2->∃s:Sl,s.n=x.c.ins.length/\g 5=sv s/\O.ownsRow (M+2) 3 1 (sv s) x.c.ins.length (nvs x.c.ins)/\True)/\(D 3->g 6=Bl vs 3)/\(D 4->g 7=Bl vs 4)/\(D 5->∃s:Sl,s.n=x.c.lat.length/\g 8=sv s/\O.ownsRow (M+2) 59 3 (sv s) x.c.lat.length (Iv x.c.lat)/\True)/\(D 6->g 9=Bl vs 6)/\(D 7->g 10=Bl vs 7)/\(D 8->∃s:Sl,s.n=x.c.gat.length/\g 11=sv s/\O.ownsRow (M+2) 62 3 (sv s) x.c.gat.length (Iv x.c.gat)/\True)/\(D 9->g 12=Bl vs 9)/\(D 10->g 13=Bl vs 10)/\(D 11->∃s:Sl,s.n=x.sym.length/\g 14=sv s/\O.ownsRow (M+2) 65 3 (sv s) x.sym.length (Kv x.sym)/\True)/\(D 12->g 15=Bl vs 12)/\(D 13->∃s:Sl,s.n=x.c.ins.length/\O.cell? ⟨M,1,none⟩=some (sv s)/\O.ownsRow (M+2) 3 1 (sv s) x.c.ins.length (nvs x.c.ins)/\g 5=sv s)/\(D 14->g 16=Bl vs 14)/\(D 15->∃s:Sl,s.n=x.c.lat.length/\O.cell? ⟨M,2,none⟩=some (sv s)/\O.ownsRow (M+2) 59 3 (sv s) x.c.lat.length (Iv x.c.lat)/\g 8=sv s)/\(D 16->g 17=Bl vs 16)/\(D 17->∃s:Sl,s.n=x.c.gat.length/\O.cell? ⟨M,6,none⟩=some (sv s)/\O.ownsRow (M+2) 62 3 (sv s) x.c.gat.length (Iv x.c.gat)/\g 11=sv s)/\(D 18->g 18=Bl vs 18)/\(D 19->∃s:Sl,s.n=x.sym.length/\O.cell? ⟨M,7,none⟩=some (sv s)/\O.ownsRow (M+2) 65 3 (sv s) x.sym.length (Kv x.sym)/\g 14=sv s)/\True) 20 32 (by kernel_rfl) (by kernel_rfl) rfl rfl (by kernel_rfl)
 case h0=>exact⟨bD.drew,⟨_,_,_,_,b0⟩,b1,λ_=>b0.cell 1,λ_=>b0.cell 2,λ_=>b0.cell 6,λ_=>b0.cell 7,nt0,nt0,nt0,nt0,nt0,nt0,nt0,nt0,nt0,nt0,nt0,nt0,nt0,nt0,nt0,nt0,nt0,nt0,nt0,nt0,trivial⟩
 case hstep=>
  refine⟨⟨⟨⟨⟨⟨⟨⟨⟨⟨⟨⟨⟨⟨⟨⟨⟨⟨⟨⟨trivial,?s0⟩,?s1⟩,?s2⟩,?s3⟩,?s4⟩,?s5⟩,?s6⟩,?s7⟩,?s8⟩,?s9⟩,?s10⟩,?s11⟩,?s12⟩,?s13⟩,?s14⟩,?s15⟩,?s16⟩,?s17⟩,?s18⟩,?s19⟩
  case s0=>
   refine sst λD g O az j hI K hK=>?_;obtain⟨Y,E,q,o1,o2,o6,o7,f0,f1,N,f3,f4,R,f6,f7,Z,f9,y,z,F,r,I,X,S,A,U,aA,_⟩:=hI;have e1:=j.u 1;go_simp;exact hK.o _ _ ⟨Y,E,q,kB o1,kB o2,kB o6,kB o7,λ_=>Aj.trans rfl,kp f1,kp N,kp f3,kp f4,kp R,kp f6,kp f7,kp Z,kp f9,kp y,kp z,kp F,kp r,kp I,kp X,kp S,kp A,kp U,kp aA,trivial⟩
  case s1=>
   refine sst λD g O az j hI K hK=>?_;obtain⟨Y,E,q,o1,o2,o6,o7,f0,f1,N,f3,f4,R,f6,f7,Z,f9,y,z,F,r,I,X,S,A,U,aA,_⟩:=hI;have cz:=o1 (λd=>j.new (j.l _ 1 d));have e3:=j.t 3 (f0 (j.d 0));go_simp;exact hK.o _ _ ⟨Y,E,q,kB o1,kB o2,kB o6,kB o7,kp f0,λ_=>Aj.trans rfl,kp N,kp f3,kp f4,kp R,kp f6,kp f7,kp Z,kp f9,kp y,kp z,kp F,kp r,kp I,kp X,kp S,kp A,kp U,kp aA,trivial⟩
  case s2=>
   refine sst λD g O az j hI K hK=>?_;obtain⟨Y,E,q,o1,o2,o6,o7,f0,f1,N,f3,f4,R,f6,f7,Z,f9,y,z,F,r,I,X,S,A,U,aA,_⟩:=hI;obtain⟨x1,x2,x6,x7,J⟩:=E;have aB:=hr.below Y (Nat.le_of_eq aC);have e4:=j.t 4 (f1 (j.d 1));go_simp
   go_wp2_with fail
   refine(Mp A1 M1 C1 (nvs x.c.ins) O bW.o (Go.Lt.Wh aB.ins) Ux).mono ?_;rintro e wc ⟨s,rfl,hs,ho,B⟩
   try go_wp2_with fail
   exact hK.o _ _ ⟨Y.trans (B.mono (Nat.le_of_lt J.lt)),⟨_,_,_,_,J.below B J.lt⟩,q.below B q.lt,λh=>(B.cell (p:=⟨M,1,none⟩) J.lt).trans (o1 (λd=>h (.inr d))),λh=>(B.cell (p:=⟨M,2,none⟩) J.lt).trans (o2 (λd=>h (.inr d))),λh=>(B.cell (p:=⟨M,6,none⟩) J.lt).trans (o6 (λd=>h (.inr d))),λh=>(B.cell (p:=⟨M,7,none⟩) J.lt).trans (o7 (λd=>h (.inr d))),kp f0,kp f1,λ_=>⟨s,hs.trans aU.o,Aj,(by have o9:=Az ho (show M+2<=O.heap.size from q.lt);rw[aU.o]at o9;exact o9),trivial⟩,kp f3,kp f4,kp (λh=>absurd (j.l _ 2 (h)) j.new),kp f6,kp f7,kp (λh=>absurd (j.l _ 2 (j.l _ 5 (h))) j.new),kp f9,kp y,kp (λh=>absurd (j.l _ 2 (j.l _ 5 (j.l _ 8 (h)))) j.new),kp F,kp (λh=>absurd (j.l _ 2 (h)) j.new),kp I,kp (λh=>absurd (j.l _ 2 (h)) j.new),kp S,kp (λh=>absurd (j.l _ 2 (h)) j.new),kp U,kp (λh=>absurd (j.l _ 2 (h)) j.new),trivial⟩
  case s3=>
   refine sst λD g O az j hI K hK=>?_;obtain⟨Y,E,q,o1,o2,o6,o7,f0,f1,N,f3,f4,R,f6,f7,Z,f9,y,z,F,r,I,X,S,A,U,aA,_⟩:=hI;have e1:=j.u 1;go_simp;exact hK.o _ _ ⟨Y,E,q,kB o1,kB o2,kB o6,kB o7,kp f0,kp f1,kp N,λ_=>Aj.trans rfl,kp f4,kp R,kp f6,kp f7,kp Z,kp f9,kp y,kp z,kp F,kp r,kp I,kp X,kp S,kp A,kp U,kp aA,trivial⟩
  case s4=>
   refine sst λD g O az j hI K hK=>?_;obtain⟨Y,E,q,o1,o2,o6,o7,f0,f1,N,f3,f4,R,f6,f7,Z,f9,y,z,F,r,I,X,S,A,U,aA,_⟩:=hI;have cz:=o2 (λd=>j.new (j.l _ 4 d));have e6:=j.t 6 (f3 (j.d 3));go_simp;exact hK.o _ _ ⟨Y,E,q,kB o1,kB o2,kB o6,kB o7,kp f0,kp f1,kp N,kp f3,λ_=>Aj.trans rfl,kp R,kp f6,kp f7,kp Z,kp f9,kp y,kp z,kp F,kp r,kp I,kp X,kp S,kp A,kp U,kp aA,trivial⟩
  case s5=>
   refine sst λD g O az j hI K hK=>?_;obtain⟨Y,E,q,o1,o2,o6,o7,f0,f1,N,f3,f4,R,f6,f7,Z,f9,y,z,F,r,I,X,S,A,U,aA,_⟩:=hI;have d2:=N (j.d 2);obtain⟨x1,x2,x6,x7,J⟩:=E;have aB:=hr.below Y (Nat.le_of_eq aC);have e7:=j.t 7 (f4 (j.d 4));go_simp
   go_wp2_with fail
   refine(Aga A2 M2 C2 (Iv x.c.lat) O bX.o aB.lat.rdS AeF).mono ?_;rintro e wc ⟨s,rfl,hs,ho,B⟩
   try go_wp2_with fail
   exact hK.o _ _ ⟨Y.trans (B.mono (Nat.le_of_lt J.lt)),⟨_,_,_,_,J.below B J.lt⟩,q.below B q.lt,λh=>(B.cell (p:=⟨M,1,none⟩) J.lt).trans (o1 (λd=>h (.inr d))),λh=>(B.cell (p:=⟨M,2,none⟩) J.lt).trans (o2 (λd=>h (.inr d))),λh=>(B.cell (p:=⟨M,6,none⟩) J.lt).trans (o6 (λd=>h (.inr d))),λh=>(B.cell (p:=⟨M,7,none⟩) J.lt).trans (o7 (λd=>h (.inr d))),kp f0,kp f1,kp (λh=>let⟨s,u1,u2,u3,u4⟩:=N h;⟨s,u1,u2,Au u3 B,u4⟩),kp f3,kp f4,λ_=>⟨s,hs.trans aV.o,Aj,(by have o9:=Az ho (show M+2<=O.heap.size from q.lt);rw[aV.o]at o9;exact o9),trivial⟩,kp f6,kp f7,kp (λh=>absurd (j.l _ 5 (h)) j.new),kp f9,kp y,kp (λh=>absurd (j.l _ 5 (j.l _ 8 (h))) j.new),kp F,kp (λh=>absurd (j.l _ 5 (j.l _ 8 (j.l _ 11 (h)))) j.new),kp I,kp (λh=>absurd (j.l _ 5 (h)) j.new),kp S,kp (λh=>absurd (j.l _ 5 (h)) j.new),kp U,kp (λh=>absurd (j.l _ 5 (h)) j.new),trivial⟩
  case s6=>
   refine sst λD g O az j hI K hK=>?_;obtain⟨Y,E,q,o1,o2,o6,o7,f0,f1,N,f3,f4,R,f6,f7,Z,f9,y,z,F,r,I,X,S,A,U,aA,_⟩:=hI;have e1:=j.u 1;go_simp;exact hK.o _ _ ⟨Y,E,q,kB o1,kB o2,kB o6,kB o7,kp f0,kp f1,kp N,kp f3,kp f4,kp R,λ_=>Aj.trans rfl,kp f7,kp Z,kp f9,kp y,kp z,kp F,kp r,kp I,kp X,kp S,kp A,kp U,kp aA,trivial⟩
  case s7=>
   refine sst λD g O az j hI K hK=>?_;obtain⟨Y,E,q,o1,o2,o6,o7,f0,f1,N,f3,f4,R,f6,f7,Z,f9,y,z,F,r,I,X,S,A,U,aA,_⟩:=hI;have cz:=o6 (λd=>j.new (j.l _ 7 d));have e9:=j.t 9 (f6 (j.d 6));go_simp;exact hK.o _ _ ⟨Y,E,q,kB o1,kB o2,kB o6,kB o7,kp f0,kp f1,kp N,kp f3,kp f4,kp R,kp f6,λ_=>Aj.trans rfl,kp Z,kp f9,kp y,kp z,kp F,kp r,kp I,kp X,kp S,kp A,kp U,kp aA,trivial⟩
  case s8=>
   refine sst λD g O az j hI K hK=>?_;obtain⟨Y,E,q,o1,o2,o6,o7,f0,f1,N,f3,f4,R,f6,f7,Z,f9,y,z,F,r,I,X,S,A,U,aA,_⟩:=hI;have d5:=R (j.d 5);obtain⟨x1,x2,x6,x7,J⟩:=E;have aB:=hr.below Y (Nat.le_of_eq aC);have cO:=j.t 10 (f7 (j.d 7));go_simp
   go_wp2_with fail
   refine(Agd A6 M6 C6 (Iv x.c.gat) O cB.o aB.gat.rdS AeF).mono ?_;rintro e wc ⟨s,rfl,hs,ho,B⟩
   try go_wp2_with fail
   exact hK.o _ _ ⟨Y.trans (B.mono (Nat.le_of_lt J.lt)),⟨_,_,_,_,J.below B J.lt⟩,q.below B q.lt,λh=>(B.cell (p:=⟨M,1,none⟩) J.lt).trans (o1 (λd=>h (.inr d))),λh=>(B.cell (p:=⟨M,2,none⟩) J.lt).trans (o2 (λd=>h (.inr d))),λh=>(B.cell (p:=⟨M,6,none⟩) J.lt).trans (o6 (λd=>h (.inr d))),λh=>(B.cell (p:=⟨M,7,none⟩) J.lt).trans (o7 (λd=>h (.inr d))),kp f0,kp f1,kp (λh=>let⟨s,u1,u2,u3,u4⟩:=N h;⟨s,u1,u2,Au u3 B,u4⟩),kp f3,kp f4,kp (λh=>let⟨s,u1,u2,u3,u4⟩:=R h;⟨s,u1,u2,Au u3 B,u4⟩),kp f6,kp f7,λ_=>⟨s,hs.trans aZ.o,Aj,(by have o9:=Az ho (show M+2<=O.heap.size from q.lt);rw[aZ.o]at o9;exact o9),trivial⟩,kp f9,kp y,kp (λh=>absurd (j.l _ 8 (h)) j.new),kp F,kp (λh=>absurd (j.l _ 8 (j.l _ 11 (h))) j.new),kp I,kp (λh=>absurd (j.l _ 8 (j.l _ 11 (j.l _ 13 (h)))) j.new),kp S,kp (λh=>absurd (j.l _ 8 (h)) j.new),kp U,kp (λh=>absurd (j.l _ 8 (h)) j.new),trivial⟩
  case s9=>
   refine sst λD g O az j hI K hK=>?_;obtain⟨Y,E,q,o1,o2,o6,o7,f0,f1,N,f3,f4,R,f6,f7,Z,f9,y,z,F,r,I,X,S,A,U,aA,_⟩:=hI;have e1:=j.u 1;go_simp;exact hK.o _ _ ⟨Y,E,q,kB o1,kB o2,kB o6,kB o7,kp f0,kp f1,kp N,kp f3,kp f4,kp R,kp f6,kp f7,kp Z,λ_=>Aj.trans rfl,kp y,kp z,kp F,kp r,kp I,kp X,kp S,kp A,kp U,kp aA,trivial⟩
  case s10=>
   refine sst λD g O az j hI K hK=>?_;obtain⟨Y,E,q,o1,o2,o6,o7,f0,f1,N,f3,f4,R,f6,f7,Z,f9,y,z,F,r,I,X,S,A,U,aA,_⟩:=hI;have cz:=o7 (λd=>j.new (j.l _ 10 d));have cP:=j.t 12 (f9 (j.d 9));go_simp;exact hK.o _ _ ⟨Y,E,q,kB o1,kB o2,kB o6,kB o7,kp f0,kp f1,kp N,kp f3,kp f4,kp R,kp f6,kp f7,kp Z,kp f9,λ_=>Aj.trans rfl,kp z,kp F,kp r,kp I,kp X,kp S,kp A,kp U,kp aA,trivial⟩
  case s11=>
   refine sst λD g O az j hI K hK=>?_;obtain⟨Y,E,q,o1,o2,o6,o7,f0,f1,N,f3,f4,R,f6,f7,Z,f9,y,z,F,r,I,X,S,A,U,aA,_⟩:=hI;have d8:=Z (j.d 8);obtain⟨x1,x2,x6,x7,J⟩:=E;have aB:=hr.below Y (Nat.le_of_eq aC);have cQ:=j.t 13 (y (j.d 10));go_simp
   go_wp2_with fail
   refine(Ahh A7 M7 C7 (Kv x.sym) O cC.o aB.sym AfP).mono ?_;rintro e wc ⟨s,rfl,hs,ho,B⟩
   try go_wp2_with fail
   exact hK.o _ _ ⟨Y.trans (B.mono (Nat.le_of_lt J.lt)),⟨_,_,_,_,J.below B J.lt⟩,q.below B q.lt,λh=>(B.cell (p:=⟨M,1,none⟩) J.lt).trans (o1 (λd=>h (.inr d))),λh=>(B.cell (p:=⟨M,2,none⟩) J.lt).trans (o2 (λd=>h (.inr d))),λh=>(B.cell (p:=⟨M,6,none⟩) J.lt).trans (o6 (λd=>h (.inr d))),λh=>(B.cell (p:=⟨M,7,none⟩) J.lt).trans (o7 (λd=>h (.inr d))),kp f0,kp f1,kp (λh=>let⟨s,u1,u2,u3,u4⟩:=N h;⟨s,u1,u2,Au u3 B,u4⟩),kp f3,kp f4,kp (λh=>let⟨s,u1,u2,u3,u4⟩:=R h;⟨s,u1,u2,Au u3 B,u4⟩),kp f6,kp f7,kp (λh=>let⟨s,u1,u2,u3,u4⟩:=Z h;⟨s,u1,u2,Au u3 B,u4⟩),kp f9,kp y,λ_=>⟨s,hs.trans bA.o,Aj,(by have o9:=Az ho (show M+2<=O.heap.size from q.lt);rw[bA.o]at o9;exact o9),trivial⟩,kp F,kp (λh=>absurd (j.l _ 11 (h)) j.new),kp I,kp (λh=>absurd (j.l _ 11 (j.l _ 13 (h))) j.new),kp S,kp (λh=>absurd (j.l _ 11 (j.l _ 13 (h))) j.new),kp U,kp (λh=>absurd (j.l _ 11 (h)) j.new),trivial⟩
  case s12=>
   refine sst λD g O az j hI K hK=>?_;obtain⟨Y,E,q,o1,o2,o6,o7,f0,f1,N,f3,f4,R,f6,f7,Z,f9,y,z,F,r,I,X,S,A,U,aA,_⟩:=hI;have d2:=N (j.d 2);have e1:=j.u 1;go_simp;exact hK.o _ _ ⟨Y,E,q,kB o1,kB o2,kB o6,kB o7,kp f0,kp f1,kp N,kp f3,kp f4,kp R,kp f6,kp f7,kp Z,kp f9,kp y,kp z,λ_=>Aj.trans rfl,kp r,kp I,kp X,kp S,kp A,kp U,kp aA,trivial⟩
  case s13=>
   refine sst λD g O az j hI K hK=>?_;obtain⟨Y,E,q,o1,o2,o6,o7,f0,f1,N,f3,f4,R,f6,f7,Z,f9,y,z,F,r,I,X,S,A,U,aA,_⟩:=hI;have d2:=N (j.d 2);have aM:=z (j.d 11);obtain⟨x1,x2,x6,x7,J⟩:=E;obtain⟨⟨As,Ms,Cs⟩,hs,gs,ho,_⟩:=N (j.d 2);have ck:=J.cell 1;have aH:=J.frozen 1;dsimp only[sv]at gs;have e5:=(j.get 5).trans gs
   try simp only[Bl,List.toList_toArray]at e5
   have cS:=j.t 15 (F (j.d 12));go_simp;exact hK.o undef _ ⟨Y.setCell (p:=⟨M,1,none⟩) (Nl _) _,⟨_,_,_,_,J.set_ 1 _⟩,q.far (p:=⟨M,1,none⟩) (show M+1≠M by omega) _,λh=>absurd (.inl rfl) h,λh=>(cell_far (by decide)).trans (o2 (λd=>h (.inr d))),λh=>(cell_far (by decide)).trans (o6 (λd=>h (.inr d))),λh=>(cell_far (by decide)).trans (o7 (λd=>h (.inr d))),kp f0,kp f1,kp (λh=>let⟨s,u1,u2,u3,u4⟩:=N h;⟨s,u1,u2,Bf u3 1 _,u4⟩),kp f3,kp f4,kp (λh=>let⟨s,u1,u2,u3,u4⟩:=R h;⟨s,u1,u2,Bf u3 1 _,u4⟩),kp f6,kp f7,kp (λh=>let⟨s,u1,u2,u3,u4⟩:=Z h;⟨s,u1,u2,Bf u3 1 _,u4⟩),kp f9,kp y,kp (λh=>let⟨s,u1,u2,u3,u4⟩:=z h;⟨s,u1,u2,Bf u3 1 _,u4⟩),kp F,λ_=>⟨⟨As,Ms,Cs⟩,hs,Ka J 1 (by simp),Bf ho 1 _,gs⟩,kp I,kp (λh=>absurd (j.l _ 13 (h)) j.new),kp S,kp (λh=>absurd (j.l _ 13 (h)) j.new),kp U,kp (λh=>absurd (j.l _ 13 (h)) j.new),trivial⟩
  case s14=>
   refine sst λD g O az j hI K hK=>?_;obtain⟨Y,E,q,o1,o2,o6,o7,f0,f1,N,f3,f4,R,f6,f7,Z,f9,y,z,F,r,I,X,S,A,U,aA,_⟩:=hI;have d2:=N (j.d 2);have d5:=R (j.d 5);have aD:=r (j.d 13);have e1:=j.u 1;go_simp;exact hK.o _ _ ⟨Y,E,q,kB o1,kB o2,kB o6,kB o7,kp f0,kp f1,kp N,kp f3,kp f4,kp R,kp f6,kp f7,kp Z,kp f9,kp y,kp z,kp F,kp r,λ_=>Aj.trans rfl,kp X,kp S,kp A,kp U,kp aA,trivial⟩
  case s15=>
   refine sst λD g O az j hI K hK=>?_;obtain⟨Y,E,q,o1,o2,o6,o7,f0,f1,N,f3,f4,R,f6,f7,Z,f9,y,z,F,r,I,X,S,A,U,aA,_⟩:=hI;have d2:=N (j.d 2);have d5:=R (j.d 5);have aD:=r (j.d 13);obtain⟨x1,x2,x6,x7,J⟩:=E;obtain⟨⟨As,Ms,Cs⟩,hs,gs,ho,_⟩:=R (j.d 5);have ck:=J.cell 2;have aH:=J.frozen 2;dsimp only[sv]at gs;have e8:=(j.get 8).trans gs
   try simp only[Bl,List.toList_toArray]at e8
   have cT:=j.t 16 (I (j.d 14));go_simp;exact hK.o undef _ ⟨Y.setCell (p:=⟨M,2,none⟩) (Nl _) _,⟨_,_,_,_,J.set_ 2 _⟩,q.far (p:=⟨M,2,none⟩) (show M+1≠M by omega) _,λh=>absurd (.inr (j.d 13)) h,λh=>absurd (.inl rfl) h,λh=>(cell_far (by decide)).trans (o6 (λd=>h (.inr d))),λh=>(cell_far (by decide)).trans (o7 (λd=>h (.inr d))),kp f0,kp f1,kp (λh=>let⟨s,u1,u2,u3,u4⟩:=N h;⟨s,u1,u2,Bf u3 2 _,u4⟩),kp f3,kp f4,kp (λh=>let⟨s,u1,u2,u3,u4⟩:=R h;⟨s,u1,u2,Bf u3 2 _,u4⟩),kp f6,kp f7,kp (λh=>let⟨s,u1,u2,u3,u4⟩:=Z h;⟨s,u1,u2,Bf u3 2 _,u4⟩),kp f9,kp y,kp (λh=>let⟨s,u1,u2,u3,u4⟩:=z h;⟨s,u1,u2,Bf u3 2 _,u4⟩),kp F,kp (λh=>let⟨s,u1,u2,u3,u4⟩:=r h;⟨s,u1,(cell_far (by decide)).trans u2,Bf u3 2 _,u4⟩),kp I,λ_=>⟨⟨As,Ms,Cs⟩,hs,Ka J 2 (by simp),Bf ho 2 _,gs⟩,kp S,kp (λh=>absurd (j.l _ 15 (h)) j.new),kp U,kp (λh=>absurd (j.l _ 15 (h)) j.new),trivial⟩
  case s16=>
   refine sst λD g O az j hI K hK=>?_;obtain⟨Y,E,q,o1,o2,o6,o7,f0,f1,N,f3,f4,R,f6,f7,Z,f9,y,z,F,r,I,X,S,A,U,aA,_⟩:=hI;have d2:=N (j.d 2);have d5:=R (j.d 5);have d8:=Z (j.d 8);have aD:=r (j.d 13);have aK:=X (j.d 15);have e1:=j.u 1;go_simp;exact hK.o _ _ ⟨Y,E,q,kB o1,kB o2,kB o6,kB o7,kp f0,kp f1,kp N,kp f3,kp f4,kp R,kp f6,kp f7,kp Z,kp f9,kp y,kp z,kp F,kp r,kp I,kp X,λ_=>Aj.trans rfl,kp A,kp U,kp aA,trivial⟩
  case s17=>
   refine sst λD g O az j hI K hK=>?_;obtain⟨Y,E,q,o1,o2,o6,o7,f0,f1,N,f3,f4,R,f6,f7,Z,f9,y,z,F,r,I,X,S,A,U,aA,_⟩:=hI;have d2:=N (j.d 2);have d5:=R (j.d 5);have d8:=Z (j.d 8);have aD:=r (j.d 13);have aK:=X (j.d 15);obtain⟨x1,x2,x6,x7,J⟩:=E;obtain⟨⟨As,Ms,Cs⟩,hs,gs,ho,_⟩:=Z (j.d 8);have ck:=J.cell 6;have aH:=J.frozen 6;dsimp only[sv]at gs;have bK:=(j.get 11).trans gs
   try simp only[Bl,List.toList_toArray]at bK
   have cV:=j.t 17 (S (j.d 16));go_simp;exact hK.o undef _ ⟨Y.setCell (p:=⟨M,6,none⟩) (Nl _) _,⟨_,_,_,_,J.set_ 6 _⟩,q.far (p:=⟨M,6,none⟩) (show M+1≠M by omega) _,λh=>absurd (.inr (j.d 13)) h,λh=>absurd (.inr (j.d 15)) h,λh=>absurd (.inl rfl) h,λh=>(cell_far (by decide)).trans (o7 (λd=>h (.inr d))),kp f0,kp f1,kp (λh=>let⟨s,u1,u2,u3,u4⟩:=N h;⟨s,u1,u2,Bf u3 6 _,u4⟩),kp f3,kp f4,kp (λh=>let⟨s,u1,u2,u3,u4⟩:=R h;⟨s,u1,u2,Bf u3 6 _,u4⟩),kp f6,kp f7,kp (λh=>let⟨s,u1,u2,u3,u4⟩:=Z h;⟨s,u1,u2,Bf u3 6 _,u4⟩),kp f9,kp y,kp (λh=>let⟨s,u1,u2,u3,u4⟩:=z h;⟨s,u1,u2,Bf u3 6 _,u4⟩),kp F,kp (λh=>let⟨s,u1,u2,u3,u4⟩:=r h;⟨s,u1,(cell_far (by decide)).trans u2,Bf u3 6 _,u4⟩),kp I,kp (λh=>let⟨s,u1,u2,u3,u4⟩:=X h;⟨s,u1,(cell_far (by decide)).trans u2,Bf u3 6 _,u4⟩),kp S,λ_=>⟨⟨As,Ms,Cs⟩,hs,Ka J 6 (by simp),Bf ho 6 _,gs⟩,kp U,kp (λh=>absurd (j.l _ 17 (h)) j.new),trivial⟩
  case s18=>
   refine sst λD g O az j hI K hK=>?_;obtain⟨Y,E,q,o1,o2,o6,o7,f0,f1,N,f3,f4,R,f6,f7,Z,f9,y,z,F,r,I,X,S,A,U,aA,_⟩:=hI;have d2:=N (j.d 2);have d5:=R (j.d 5);have d8:=Z (j.d 8);have aM:=z (j.d 11);have aD:=r (j.d 13);have aK:=X (j.d 15);have aT:=A (j.d 17);have e1:=j.u 1;go_simp;exact hK.o _ _ ⟨Y,E,q,kB o1,kB o2,kB o6,kB o7,kp f0,kp f1,kp N,kp f3,kp f4,kp R,kp f6,kp f7,kp Z,kp f9,kp y,kp z,kp F,kp r,kp I,kp X,kp S,kp A,λ_=>Aj.trans rfl,kp aA,trivial⟩
  case s19=>
   refine sst λD g O az j hI K hK=>?_;obtain⟨Y,E,q,o1,o2,o6,o7,f0,f1,N,f3,f4,R,f6,f7,Z,f9,y,z,F,r,I,X,S,A,U,aA,_⟩:=hI;have d2:=N (j.d 2);have d5:=R (j.d 5);have d8:=Z (j.d 8);have aM:=z (j.d 11);have aD:=r (j.d 13);have aK:=X (j.d 15);have aT:=A (j.d 17);obtain⟨x1,x2,x6,x7,J⟩:=E;obtain⟨⟨As,Ms,Cs⟩,hs,gs,ho,_⟩:=z (j.d 11);have ck:=J.cell 7;have aH:=J.frozen 7;dsimp only[sv]at gs;have bL:=(j.get 14).trans gs
   try simp only[Bl,List.toList_toArray]at bL
   have cW:=j.t 18 (U (j.d 18));go_simp;exact hK.o undef _ ⟨Y.setCell (p:=⟨M,7,none⟩) (Nl _) _,⟨_,_,_,_,J.set_ 7 _⟩,q.far (p:=⟨M,7,none⟩) (show M+1≠M by omega) _,λh=>absurd (.inr (j.d 13)) h,λh=>absurd (.inr (j.d 15)) h,λh=>absurd (.inr (j.d 17)) h,λh=>absurd (.inl rfl) h,kp f0,kp f1,kp (λh=>let⟨s,u1,u2,u3,u4⟩:=N h;⟨s,u1,u2,Bf u3 7 _,u4⟩),kp f3,kp f4,kp (λh=>let⟨s,u1,u2,u3,u4⟩:=R h;⟨s,u1,u2,Bf u3 7 _,u4⟩),kp f6,kp f7,kp (λh=>let⟨s,u1,u2,u3,u4⟩:=Z h;⟨s,u1,u2,Bf u3 7 _,u4⟩),kp f9,kp y,kp (λh=>let⟨s,u1,u2,u3,u4⟩:=z h;⟨s,u1,u2,Bf u3 7 _,u4⟩),kp F,kp (λh=>let⟨s,u1,u2,u3,u4⟩:=r h;⟨s,u1,(cell_far (by decide)).trans u2,Bf u3 7 _,u4⟩),kp I,kp (λh=>let⟨s,u1,u2,u3,u4⟩:=X h;⟨s,u1,(cell_far (by decide)).trans u2,Bf u3 7 _,u4⟩),kp S,kp (λh=>let⟨s,u1,u2,u3,u4⟩:=A h;⟨s,u1,(cell_far (by decide)).trans u2,Bf u3 7 _,u4⟩),kp U,λ_=>⟨⟨As,Ms,Cs⟩,hs,Ka J 7 (by simp),Bf ho 7 _,gs⟩,trivial⟩
 case hdone=>
  rintro g w8 D hD ⟨Y,E,q,o1,o2,o6,o7,f0,f1,N,f3,f4,R,f6,f7,Z,f9,y,z,F,r,I,X,S,A,U,aA,_⟩;have d2:=N (hD _);have d5:=R (hD _);have d8:=Z (hD _);have aM:=z (hD _);have aD:=r (hD _);have aK:=X (hD _);have aT:=A (hD _);have bJ:=aA (hD _);clear hD o1 o2 o6 o7 D f0 f1 N f3 f4 R f6 f7 Z f9 y z F r I X S A U aA;simp only[Fw,List.foldl_cons,List.foldl_nil,List.setIfInBounds_toArray,List.set_cons_succ,List.set_cons_zero];obtain⟨x1,x2,x6,x7,J⟩:=E;clear d2 d5 d8 aM;obtain⟨⟨B1,aF,E1⟩,hs,cu,k1,bP⟩:=aD;obtain rfl:=Option.some.inj ((J.cell 1).symm.trans cu);clear hs cu bP;obtain⟨⟨B2,aO,E2⟩,hs,cu,k2,bQ⟩:=aK;obtain rfl:=Option.some.inj ((J.cell 2).symm.trans cu);clear hs cu bQ;obtain⟨⟨B6,aP,E6⟩,hs,cu,k6,bU⟩:=aT;obtain rfl:=Option.some.inj ((J.cell 6).symm.trans cu);clear hs cu bU;obtain⟨⟨B7,aQ,E7⟩,hs,cu,k7,bV⟩:=bJ;obtain rfl:=Option.some.inj ((J.cell 7).symm.trans cu);clear hs cu bV;dsimp only[sv]at k1 k2 k6 k7 J;have q0:=J;have q1:=q;have bC:=Y;clear J q Y b0 b1 bD
  go_upto_region 2 with fail
  apply Ed [_,_,undef,_,_,undef,_,_,undef,_,undef,_,undef,_,undef] [19,20,21,22,23,24,25,26,27,28,29,30] (λvs D g O=>(Below M w O)/\(∃x3 x4 x5,Blk O M 31 #[.int .i64 m,.slice B1 aF E1,.slice B2 aO E2,x3,x4,x5,.slice B6 aP E6,.slice B7 aQ E7,.string aI])/\(Blk O (M+1) 31 #[.int .i64 0,.slice none 0 0,.slice none 0 0,.slice none 0 0,.slice none 0 0,.slice none 0 0,.slice none 0 0,.slice none 0 0,.string ⟨#[]⟩])/\(¬D 10->O.cell? ⟨M,3,none⟩=some (.slice A3 M3 C3))/\(¬D 12->O.cell? ⟨M,4,none⟩=some (.slice A4 M4 C4))/\(¬D 14->O.cell? ⟨M,5,none⟩=some (.slice A5 M5 C5))/\(O.ownsRow (M+2) 3 1 (.slice B1 aF E1) x.c.ins.length (nvs x.c.ins))/\(O.ownsRow (M+2) 59 3 (.slice B2 aO E2) x.c.lat.length (Iv x.c.lat))/\(O.ownsRow (M+2) 62 3 (.slice B6 aP E6) x.c.gat.length (Iv x.c.gat))/\(O.ownsRow (M+2) 65 3 (.slice B7 aQ E7) x.sym.length (Kv x.sym))/\(D 0->g 19=Bl vs 0)/\(D 1->g 20=Bl vs 1)/\(D 2->∃s:Sl,s.n=x.c.outs.length/\g 21=sv s/\O.ownsRow (M+2) 3 1 (sv s) x.c.outs.length (nvs x.c.outs)/\Eu (g 21) (.slice B1 aF E1))/\(D 3->g 22=Bl vs 3)/\(D 4->g 23=Bl vs 4)/\(D 5->∃s:Sl,s.n=x.c.bads.length/\g 24=sv s/\O.ownsRow (M+2) 3 1 (sv s) x.c.bads.length (nvs x.c.bads)/\Eu (g 24) (.slice B1 aF E1)/\Eu (g 24) (g 21))/\(D 6->g 25=Bl vs 6)/\(D 7->g 26=Bl vs 7)/\(D 8->∃s:Sl,s.n=x.c.cons.length/\g 27=sv s/\O.ownsRow (M+2) 3 1 (sv s) x.c.cons.length (nvs x.c.cons)/\Eu (g 27) (.slice B1 aF E1)/\Eu (g 27) (g 21)/\Eu (g 27) (g 24))/\(D 9->g 28=Bl vs 9)/\(D 10->∃s:Sl,s.n=x.c.outs.length/\O.cell? ⟨M,3,none⟩=some (sv s)/\O.ownsRow (M+2) 3 1 (sv s) x.c.outs.length (nvs x.c.outs)/\g 21=sv s)/\(D 11->g 29=Bl vs 11)/\(D 12->∃s:Sl,s.n=x.c.bads.length/\O.cell? ⟨M,4,none⟩=some (sv s)/\O.ownsRow (M+2) 3 1 (sv s) x.c.bads.length (nvs x.c.bads)/\g 24=sv s)/\(D 13->g 30=Bl vs 13)/\(D 14->∃s:Sl,s.n=x.c.cons.length/\O.cell? ⟨M,5,none⟩=some (sv s)/\O.ownsRow (M+2) 3 1 (sv s) x.c.cons.length (nvs x.c.cons)/\g 27=sv s)/\True) 15 32 (by kernel_rfl) (by kernel_rfl) rfl rfl (by kernel_rfl)
  case h0=>exact⟨bC.drew,⟨_,_,_,q0⟩,q1,λ_=>q0.cell 3,λ_=>q0.cell 4,λ_=>q0.cell 5,k1,k2,k6,k7,nt0,nt0,nt0,nt0,nt0,nt0,nt0,nt0,nt0,nt0,nt0,nt0,nt0,nt0,nt0,trivial⟩
  case hstep=>
   refine⟨⟨⟨⟨⟨⟨⟨⟨⟨⟨⟨⟨⟨⟨⟨trivial,?s0⟩,?s1⟩,?s2⟩,?s3⟩,?s4⟩,?s5⟩,?s6⟩,?s7⟩,?s8⟩,?s9⟩,?s10⟩,?s11⟩,?s12⟩,?s13⟩,?s14⟩
   case s0=>
    refine sst λD g O az j hI K hK=>?_;obtain⟨Y,E,q,o3,o4,o5,k1,k2,k6,k7,f0,f1,N,f3,f4,R,f6,f7,Z,f9,y,z,F,r,I,_⟩:=hI;have e1:=j.u 1;go_simp;exact hK.o _ _ ⟨Y,E,q,kB o3,kB o4,kB o5,k1,k2,k6,k7,λ_=>Aj.trans rfl,kp f1,kp N,kp f3,kp f4,kp R,kp f6,kp f7,kp Z,kp f9,kp y,kp z,kp F,kp r,kp I,trivial⟩
   case s1=>
    refine sst λD g O az j hI K hK=>?_;obtain⟨Y,E,q,o3,o4,o5,k1,k2,k6,k7,f0,f1,N,f3,f4,R,f6,f7,Z,f9,y,z,F,r,I,_⟩:=hI;have cz:=o3 (λd=>j.new (j.l _ 1 d));have cX:=j.t 19 (f0 (j.d 0));go_simp;exact hK.o _ _ ⟨Y,E,q,kB o3,kB o4,kB o5,k1,k2,k6,k7,kp f0,λ_=>Aj.trans rfl,kp N,kp f3,kp f4,kp R,kp f6,kp f7,kp Z,kp f9,kp y,kp z,kp F,kp r,kp I,trivial⟩
   case s2=>
    refine sst λD g O az j hI K hK=>?_;obtain⟨Y,E,q,o3,o4,o5,k1,k2,k6,k7,f0,f1,N,f3,f4,R,f6,f7,Z,f9,y,z,F,r,I,_⟩:=hI;obtain⟨x3,x4,x5,J⟩:=E;have aB:=hr.below Y (Nat.le_of_eq aC);have cY:=j.t 20 (f1 (j.d 1));go_simp
    go_wp2_with fail
    refine(Mp A3 M3 C3 (nvs x.c.outs) O bY.o (Go.Lt.Wh aB.outs) Ux).mono ?_;rintro e wc ⟨s,rfl,hs,ho,B⟩
    try go_wp2_with fail
    exact hK.o _ _ ⟨Y.trans (B.mono (Nat.le_of_lt J.lt)),⟨_,_,_,J.below B J.lt⟩,q.below B q.lt,λh=>(B.cell (p:=⟨M,3,none⟩) J.lt).trans (o3 (λd=>h (.inr d))),λh=>(B.cell (p:=⟨M,4,none⟩) J.lt).trans (o4 (λd=>h (.inr d))),λh=>(B.cell (p:=⟨M,5,none⟩) J.lt).trans (o5 (λd=>h (.inr d))),Au k1 B,Au k2 B,Au k6 B,Au k7 B,kp f0,kp f1,λ_=>⟨s,hs.trans aW.o,Aj,(by have o9:=Az ho (show M+2<=O.heap.size from q.lt);rw[aW.o]at o9;exact o9),apart_eq Aj rfl (Lp ho k1)⟩,kp f3,kp f4,kp (λh=>absurd (j.l _ 2 (h)) j.new),kp f6,kp f7,kp (λh=>absurd (j.l _ 2 (j.l _ 5 (h))) j.new),kp f9,kp (λh=>absurd (j.l _ 2 (h)) j.new),kp z,kp (λh=>absurd (j.l _ 2 (h)) j.new),kp r,kp (λh=>absurd (j.l _ 2 (h)) j.new),trivial⟩
   case s3=>
    refine sst λD g O az j hI K hK=>?_;obtain⟨Y,E,q,o3,o4,o5,k1,k2,k6,k7,f0,f1,N,f3,f4,R,f6,f7,Z,f9,y,z,F,r,I,_⟩:=hI;have e1:=j.u 1;go_simp;exact hK.o _ _ ⟨Y,E,q,kB o3,kB o4,kB o5,k1,k2,k6,k7,kp f0,kp f1,kp N,λ_=>Aj.trans rfl,kp f4,kp R,kp f6,kp f7,kp Z,kp f9,kp y,kp z,kp F,kp r,kp I,trivial⟩
   case s4=>
    refine sst λD g O az j hI K hK=>?_;obtain⟨Y,E,q,o3,o4,o5,k1,k2,k6,k7,f0,f1,N,f3,f4,R,f6,f7,Z,f9,y,z,F,r,I,_⟩:=hI;have cz:=o4 (λd=>j.new (j.l _ 4 d));have cZ:=j.t 22 (f3 (j.d 3));go_simp;exact hK.o _ _ ⟨Y,E,q,kB o3,kB o4,kB o5,k1,k2,k6,k7,kp f0,kp f1,kp N,kp f3,λ_=>Aj.trans rfl,kp R,kp f6,kp f7,kp Z,kp f9,kp y,kp z,kp F,kp r,kp I,trivial⟩
   case s5=>
    refine sst λD g O az j hI K hK=>?_;obtain⟨Y,E,q,o3,o4,o5,k1,k2,k6,k7,f0,f1,N,f3,f4,R,f6,f7,Z,f9,y,z,F,r,I,_⟩:=hI;have d2:=N (j.d 2);obtain⟨x3,x4,x5,J⟩:=E;have aB:=hr.below Y (Nat.le_of_eq aC);have dA:=j.t 23 (f4 (j.d 4));go_simp
    go_wp2_with fail
    refine(Mp A4 M4 C4 (nvs x.c.bads) O bZ.o (Go.Lt.Wh aB.bads) Ux).mono ?_;rintro e wc ⟨s,rfl,hs,ho,B⟩
    try go_wp2_with fail
    exact hK.o _ _ ⟨Y.trans (B.mono (Nat.le_of_lt J.lt)),⟨_,_,_,J.below B J.lt⟩,q.below B q.lt,λh=>(B.cell (p:=⟨M,3,none⟩) J.lt).trans (o3 (λd=>h (.inr d))),λh=>(B.cell (p:=⟨M,4,none⟩) J.lt).trans (o4 (λd=>h (.inr d))),λh=>(B.cell (p:=⟨M,5,none⟩) J.lt).trans (o5 (λd=>h (.inr d))),Au k1 B,Au k2 B,Au k6 B,Au k7 B,kp f0,kp f1,kp (λh=>let⟨s,u1,u2,u3,u4⟩:=N h;⟨s,u1,u2,Au u3 B,u4⟩),kp f3,kp f4,λ_=>⟨s,hs.trans aX.o,Aj,(by have o9:=Az ho (show M+2<=O.heap.size from q.lt);rw[aX.o]at o9;exact o9),apart_eq Aj rfl (Lp ho k1),(let⟨_,_,u2,u3,_⟩:=N (j.d 2);apart_eq Aj u2 (Lp ho u3))⟩,kp f6,kp f7,kp (λh=>absurd (j.l _ 5 (h)) j.new),kp f9,kp (λh=>absurd (j.l _ 5 (j.l _ 8 (h))) j.new),kp z,kp (λh=>absurd (j.l _ 5 (h)) j.new),kp r,kp (λh=>absurd (j.l _ 5 (h)) j.new),trivial⟩
   case s6=>
    refine sst λD g O az j hI K hK=>?_;obtain⟨Y,E,q,o3,o4,o5,k1,k2,k6,k7,f0,f1,N,f3,f4,R,f6,f7,Z,f9,y,z,F,r,I,_⟩:=hI;have e1:=j.u 1;go_simp;exact hK.o _ _ ⟨Y,E,q,kB o3,kB o4,kB o5,k1,k2,k6,k7,kp f0,kp f1,kp N,kp f3,kp f4,kp R,λ_=>Aj.trans rfl,kp f7,kp Z,kp f9,kp y,kp z,kp F,kp r,kp I,trivial⟩
   case s7=>
    refine sst λD g O az j hI K hK=>?_;obtain⟨Y,E,q,o3,o4,o5,k1,k2,k6,k7,f0,f1,N,f3,f4,R,f6,f7,Z,f9,y,z,F,r,I,_⟩:=hI;have cz:=o5 (λd=>j.new (j.l _ 7 d));have dB:=j.t 25 (f6 (j.d 6));go_simp;exact hK.o _ _ ⟨Y,E,q,kB o3,kB o4,kB o5,k1,k2,k6,k7,kp f0,kp f1,kp N,kp f3,kp f4,kp R,kp f6,λ_=>Aj.trans rfl,kp Z,kp f9,kp y,kp z,kp F,kp r,kp I,trivial⟩
   case s8=>
    refine sst λD g O az j hI K hK=>?_;obtain⟨Y,E,q,o3,o4,o5,k1,k2,k6,k7,f0,f1,N,f3,f4,R,f6,f7,Z,f9,y,z,F,r,I,_⟩:=hI;have d5:=R (j.d 5);obtain⟨x3,x4,x5,J⟩:=E;have aB:=hr.below Y (Nat.le_of_eq aC);have dC:=j.t 26 (f7 (j.d 7));go_simp
    go_wp2_with fail
    refine(Mp A5 M5 C5 (nvs x.c.cons) O cA.o (Go.Lt.Wh aB.cons) Ux).mono ?_;rintro e wc ⟨s,rfl,hs,ho,B⟩
    try go_wp2_with fail
    exact hK.o _ _ ⟨Y.trans (B.mono (Nat.le_of_lt J.lt)),⟨_,_,_,J.below B J.lt⟩,q.below B q.lt,λh=>(B.cell (p:=⟨M,3,none⟩) J.lt).trans (o3 (λd=>h (.inr d))),λh=>(B.cell (p:=⟨M,4,none⟩) J.lt).trans (o4 (λd=>h (.inr d))),λh=>(B.cell (p:=⟨M,5,none⟩) J.lt).trans (o5 (λd=>h (.inr d))),Au k1 B,Au k2 B,Au k6 B,Au k7 B,kp f0,kp f1,kp (λh=>let⟨s,u1,u2,u3,u4⟩:=N h;⟨s,u1,u2,Au u3 B,u4⟩),kp f3,kp f4,kp (λh=>let⟨s,u1,u2,u3,u4⟩:=R h;⟨s,u1,u2,Au u3 B,u4⟩),kp f6,kp f7,λ_=>⟨s,hs.trans aY.o,Aj,(by have o9:=Az ho (show M+2<=O.heap.size from q.lt);rw[aY.o]at o9;exact o9),apart_eq Aj rfl (Lp ho k1),(let⟨_,_,u2,u3,_⟩:=N (j.l _ 2 (j.d 5));apart_eq Aj u2 (Lp ho u3)),(let⟨_,_,u2,u3,_⟩:=R (j.d 5);apart_eq Aj u2 (Lp ho u3))⟩,kp f9,kp (λh=>absurd (j.l _ 8 (h)) j.new),kp z,kp (λh=>absurd (j.l _ 8 (j.l _ 10 (h))) j.new),kp r,kp (λh=>absurd (j.l _ 8 (h)) j.new),trivial⟩
   case s9=>
    refine sst λD g O az j hI K hK=>?_;obtain⟨Y,E,q,o3,o4,o5,k1,k2,k6,k7,f0,f1,N,f3,f4,R,f6,f7,Z,f9,y,z,F,r,I,_⟩:=hI;have d2:=N (j.d 2);have e1:=j.u 1;go_simp;exact hK.o _ _ ⟨Y,E,q,kB o3,kB o4,kB o5,k1,k2,k6,k7,kp f0,kp f1,kp N,kp f3,kp f4,kp R,kp f6,kp f7,kp Z,λ_=>Aj.trans rfl,kp y,kp z,kp F,kp r,kp I,trivial⟩
   case s10=>
    refine sst λD g O az j hI K hK=>?_;obtain⟨Y,E,q,o3,o4,o5,k1,k2,k6,k7,f0,f1,N,f3,f4,R,f6,f7,Z,f9,y,z,F,r,I,_⟩:=hI;have d2:=N (j.d 2);have d8:=Z (j.d 8);obtain⟨x3,x4,x5,J⟩:=E;obtain⟨⟨As,Ms,Cs⟩,hs,gs,ho,_⟩:=N (j.d 2);have ck:=J.cell 3;have aH:=J.frozen 3;dsimp only[sv]at gs;have bM:=(j.get 21).trans gs
    try simp only[Bl,List.toList_toArray]at bM
    have dD:=j.t 28 (f9 (j.d 9));go_simp;exact hK.o undef _ ⟨Y.setCell (p:=⟨M,3,none⟩) (Nl _) _,⟨_,_,_,J.set_ 3 _⟩,q.far (p:=⟨M,3,none⟩) (show M+1≠M by omega) _,λh=>absurd (.inl rfl) h,λh=>(cell_far (by decide)).trans (o4 (λd=>h (.inr d))),λh=>(cell_far (by decide)).trans (o5 (λd=>h (.inr d))),Bf k1 3 _,Bf k2 3 _,Bf k6 3 _,Bf k7 3 _,kp f0,kp f1,kp (λh=>let⟨s,u1,u2,u3,u4⟩:=N h;⟨s,u1,u2,Bf u3 3 _,u4⟩),kp f3,kp f4,kp (λh=>let⟨s,u1,u2,u3,u4⟩:=R h;⟨s,u1,u2,Bf u3 3 _,u4⟩),kp f6,kp f7,kp (λh=>let⟨s,u1,u2,u3,u4⟩:=Z h;⟨s,u1,u2,Bf u3 3 _,u4⟩),kp f9,λ_=>⟨⟨As,Ms,Cs⟩,hs,Ka J 3 (by simp),Bf ho 3 _,gs⟩,kp z,kp (λh=>absurd (j.l _ 10 (h)) j.new),kp r,kp (λh=>absurd (j.l _ 10 (h)) j.new),trivial⟩
   case s11=>
    refine sst λD g O az j hI K hK=>?_;obtain⟨Y,E,q,o3,o4,o5,k1,k2,k6,k7,f0,f1,N,f3,f4,R,f6,f7,Z,f9,y,z,F,r,I,_⟩:=hI;have d2:=N (j.d 2);have d5:=R (j.d 5);have aJ:=y (j.d 10);have e1:=j.u 1;go_simp;exact hK.o _ _ ⟨Y,E,q,kB o3,kB o4,kB o5,k1,k2,k6,k7,kp f0,kp f1,kp N,kp f3,kp f4,kp R,kp f6,kp f7,kp Z,kp f9,kp y,λ_=>Aj.trans rfl,kp F,kp r,kp I,trivial⟩
   case s12=>
    refine sst λD g O az j hI K hK=>?_;obtain⟨Y,E,q,o3,o4,o5,k1,k2,k6,k7,f0,f1,N,f3,f4,R,f6,f7,Z,f9,y,z,F,r,I,_⟩:=hI;have d2:=N (j.d 2);have d5:=R (j.d 5);have aJ:=y (j.d 10);obtain⟨x3,x4,x5,J⟩:=E;obtain⟨⟨As,Ms,Cs⟩,hs,gs,ho,_⟩:=R (j.d 5);have ck:=J.cell 4;have aH:=J.frozen 4;dsimp only[sv]at gs;have bN:=(j.get 24).trans gs
    try simp only[Bl,List.toList_toArray]at bN
    have dE:=j.t 29 (z (j.d 11));go_simp;exact hK.o undef _ ⟨Y.setCell (p:=⟨M,4,none⟩) (Nl _) _,⟨_,_,_,J.set_ 4 _⟩,q.far (p:=⟨M,4,none⟩) (show M+1≠M by omega) _,λh=>absurd (.inr (j.d 10)) h,λh=>absurd (.inl rfl) h,λh=>(cell_far (by decide)).trans (o5 (λd=>h (.inr d))),Bf k1 4 _,Bf k2 4 _,Bf k6 4 _,Bf k7 4 _,kp f0,kp f1,kp (λh=>let⟨s,u1,u2,u3,u4⟩:=N h;⟨s,u1,u2,Bf u3 4 _,u4⟩),kp f3,kp f4,kp (λh=>let⟨s,u1,u2,u3,u4⟩:=R h;⟨s,u1,u2,Bf u3 4 _,u4⟩),kp f6,kp f7,kp (λh=>let⟨s,u1,u2,u3,u4⟩:=Z h;⟨s,u1,u2,Bf u3 4 _,u4⟩),kp f9,kp (λh=>let⟨s,u1,u2,u3,u4⟩:=y h;⟨s,u1,(cell_far (by decide)).trans u2,Bf u3 4 _,u4⟩),kp z,λ_=>⟨⟨As,Ms,Cs⟩,hs,Ka J 4 (by simp),Bf ho 4 _,gs⟩,kp r,kp (λh=>absurd (j.l _ 12 (h)) j.new),trivial⟩
   case s13=>
    refine sst λD g O az j hI K hK=>?_;obtain⟨Y,E,q,o3,o4,o5,k1,k2,k6,k7,f0,f1,N,f3,f4,R,f6,f7,Z,f9,y,z,F,r,I,_⟩:=hI;have d2:=N (j.d 2);have d5:=R (j.d 5);have d8:=Z (j.d 8);have aJ:=y (j.d 10);have aS:=F (j.d 12);have e1:=j.u 1;go_simp;exact hK.o _ _ ⟨Y,E,q,kB o3,kB o4,kB o5,k1,k2,k6,k7,kp f0,kp f1,kp N,kp f3,kp f4,kp R,kp f6,kp f7,kp Z,kp f9,kp y,kp z,kp F,λ_=>Aj.trans rfl,kp I,trivial⟩
   case s14=>
    refine sst λD g O az j hI K hK=>?_;obtain⟨Y,E,q,o3,o4,o5,k1,k2,k6,k7,f0,f1,N,f3,f4,R,f6,f7,Z,f9,y,z,F,r,I,_⟩:=hI;have d2:=N (j.d 2);have d5:=R (j.d 5);have d8:=Z (j.d 8);have aJ:=y (j.d 10);have aS:=F (j.d 12);obtain⟨x3,x4,x5,J⟩:=E;obtain⟨⟨As,Ms,Cs⟩,hs,gs,ho,_⟩:=Z (j.d 8);have ck:=J.cell 5;have aH:=J.frozen 5;dsimp only[sv]at gs;have bO:=(j.get 27).trans gs
    try simp only[Bl,List.toList_toArray]at bO
    have dF:=j.t 30 (r (j.d 13));go_simp;exact hK.o undef _ ⟨Y.setCell (p:=⟨M,5,none⟩) (Nl _) _,⟨_,_,_,J.set_ 5 _⟩,q.far (p:=⟨M,5,none⟩) (show M+1≠M by omega) _,λh=>absurd (.inr (j.d 10)) h,λh=>absurd (.inr (j.d 12)) h,λh=>absurd (.inl rfl) h,Bf k1 5 _,Bf k2 5 _,Bf k6 5 _,Bf k7 5 _,kp f0,kp f1,kp (λh=>let⟨s,u1,u2,u3,u4⟩:=N h;⟨s,u1,u2,Bf u3 5 _,u4⟩),kp f3,kp f4,kp (λh=>let⟨s,u1,u2,u3,u4⟩:=R h;⟨s,u1,u2,Bf u3 5 _,u4⟩),kp f6,kp f7,kp (λh=>let⟨s,u1,u2,u3,u4⟩:=Z h;⟨s,u1,u2,Bf u3 5 _,u4⟩),kp f9,kp (λh=>let⟨s,u1,u2,u3,u4⟩:=y h;⟨s,u1,(cell_far (by decide)).trans u2,Bf u3 5 _,u4⟩),kp z,kp (λh=>let⟨s,u1,u2,u3,u4⟩:=F h;⟨s,u1,(cell_far (by decide)).trans u2,Bf u3 5 _,u4⟩),kp r,λ_=>⟨⟨As,Ms,Cs⟩,hs,Ka J 5 (by simp),Bf ho 5 _,gs⟩,trivial⟩
  case hdone=>
   rintro g w9 D hD ⟨Y,E,q,o3,o4,o5,k1,k2,k6,k7,f0,f1,N,f3,f4,R,f6,f7,Z,f9,y,z,F,r,I,_⟩;have d2:=N (hD _);have d5:=R (hD _);have d8:=Z (hD _);have aJ:=y (hD _);have aS:=F (hD _);have bI:=I (hD _);clear hD o3 o4 o5 D f0 f1 N f3 f4 R f6 f7 Z f9 y z F r I;simp only[Fw,List.foldl_cons,List.foldl_nil,List.setIfInBounds_toArray,List.set_cons_succ,List.set_cons_zero];obtain⟨x3,x4,x5,J⟩:=E;obtain⟨⟨B3,bF,E3⟩,hs,cu,k3,bR⟩:=aJ;obtain rfl:=Option.some.inj ((J.cell 3).symm.trans cu);clear hs cu;obtain⟨⟨B4,bG,E4⟩,hs,cu,k4,bS⟩:=aS;obtain rfl:=Option.some.inj ((J.cell 4).symm.trans cu);clear hs cu;obtain⟨⟨B5,bH,E5⟩,hs,cu,k5,bT⟩:=bI;obtain rfl:=Option.some.inj ((J.cell 5).symm.trans cu);clear hs cu;obtain⟨_,_,_,_,bB⟩:=d2;obtain⟨_,_,_,_,aR⟩:=d5;obtain⟨_,_,_,_,aL⟩:=d8;simp only[bR,bS,bT]at bB aR aL;dsimp only[sv]at k3 k4 k5 J;clear bC q0 q1;have e1:=q;obtain⟨dH,dI,dJ,dK,dL,dM,dN,dO,dP⟩:=c9c (J);have dQ:=(q).cell 0;have cE:=(q).frozen 0;have dR:=(q).cell 1;have cF:=(q).frozen 1;have dS:=(q).cell 2;have cG:=(q).frozen 2;have dT:=(q).cell 3;have cH:=(q).frozen 3;have dU:=(q).cell 4;have cJ:=(q).frozen 4;have dV:=(q).cell 5;have cK:=(q).frozen 5;have dW:=(q).cell 6;have cL:=(q).frozen 6;have dX:=(q).cell 7;have cM:=(q).frozen 7;have dY:=(q).cell 8;have cN:=(q).frozen 8;clear q;go_wp2;have bE:aI=bstr x.com:=hr.com;have aE:M<=M+2:=Nat.le_add_right M 2;exact Ajt (v:=⟨⟨B1,aF,E1⟩,⟨B2,aO,E2⟩,⟨B3,bF,E3⟩,⟨B4,bG,E4⟩,⟨B5,bH,E5⟩,⟨B6,aP,E6⟩,⟨B7,aQ,E7⟩,aI⟩) aC Y e1 rfl (by rw[hm.o]) ⟨⟨Az k1 aE,Az k2 aE,Az k3 aE,Az k4 aE,Az k5 aE,Az k6 aE⟩,Az k7 aE,bE⟩ ⟨bB,aR.1,aR.2,aL.1,aL.2.1,aL.2.2⟩ (by rfl)
theorem AhS (a b c:Int) (w:World):(binOp .neq 59 (.agg #[.int .i64 a,.int .i64 b,.int .i64 c]) (.agg #[.int .i64 a,.int .i64 b,.int .i64 c])).run Tryz.prog w= .ok (.bool false) w:=by
 have h:(Op.equal 59 (.agg #[.int .i64 a,.int .i64 b,.int .i64 c]) (.agg #[.int .i64 a,.int .i64 b,.int .i64 c])).run Tryz.prog w= .ok true w:=by simp[Op.equal,Op.maxDepth,go_sem]
 simp[binOp,h]
theorem AmN (A A2:Option Addr) (n c c2:Nat) (l:List T3) (w:World) (hn:n<=20000000) (h1:RdT w A n l) (h2:RdT w A2 n l):
  Calls Tryz.prog 19 #[.slice A n c,.slice A2 n c2] w λe B=>e= .returned (.bool true)/\Below w.heap.size w B:=by
 have h:=AhS
 have z:(n:Int)<=20000000:=by omega
 go_enter Tryz.func19,Tryz.ntmps19
 go_wp2
 go_loopw [13] (λi wr=>∃ k:Nat,i= .int .i64 k/\k<=n/\Hid (Below w.heap.size w wr)) (λi _=>n-(intOf i).toNat)
 case atStart=>exact⟨0,rfl,Nat.zero_le _,Ab (Below.refl _ _)⟩
 case round=>
  obtain⟨k,rfl,R,q⟩:=hrel
  by_cases j:k<n
  ·have m:(k:Int)<n:=by omega
   obtain⟨E,x,rfl,_,r,F,I,J⟩:=(h1.below q.o (Nl _)).get j;obtain⟨y,D,rfl,_,p,M,N,O⟩:=(h2.below q.o (Nl _)).get j;obtain rfl:x=D:=Option.some.inj (r.symm.trans p);clear r p h1 h2
   go_upto_region 6 with fail
   go_quiet (fail)
   go_wp2;go_roundw
   case rel=>exact⟨k+1,by go_num,j,Ab (q.o.trans (Dr.below ⟨_,rfl⟩ _))⟩
   case measure=>simp[intOf];omega
  have m:¬ (k:Int)<n:=by omega
  go_wp2;go_ret
  exact⟨rfl,q.o⟩
theorem Ait (a b c:Int) (w:World):(binOp .neq 62 (.agg #[.int .i64 a,.int .i64 b,.int .i64 c]) (.agg #[.int .i64 a,.int .i64 b,.int .i64 c])).run Tryz.prog w= .ok (.bool false) w:=by
 have h:(Op.equal 62 (.agg #[.int .i64 a,.int .i64 b,.int .i64 c]) (.agg #[.int .i64 a,.int .i64 b,.int .i64 c])).run Tryz.prog w= .ok true w:=by simp[Op.equal,Op.maxDepth,go_sem]
 simp[binOp,h]
theorem Anp (A A2:Option Addr) (n c c2:Nat) (l:List T3) (w:World) (hn:n<=20000000) (h1:RdT w A n l) (h2:RdT w A2 n l):
  Calls Tryz.prog 20 #[.slice A n c,.slice A2 n c2] w λe B=>e= .returned (.bool true)/\Below w.heap.size w B:=by
 have h:=Ait
 have z:(n:Int)<=20000000:=by omega
 go_enter Tryz.func20,Tryz.ntmps20
 go_wp2
 go_loopw [13] (λi wr=>∃ k:Nat,i= .int .i64 k/\k<=n/\Hid (Below w.heap.size w wr)) (λi _=>n-(intOf i).toNat)
 case atStart=>exact⟨0,rfl,Nat.zero_le _,Ab (Below.refl _ _)⟩
 case round=>
  obtain⟨k,rfl,R,q⟩:=hrel
  by_cases j:k<n
  ·have m:(k:Int)<n:=by omega
   obtain⟨E,x,rfl,_,r,F,I,J⟩:=(h1.below q.o (Nl _)).get j;obtain⟨y,D,rfl,_,p,M,N,O⟩:=(h2.below q.o (Nl _)).get j;obtain rfl:x=D:=Option.some.inj (r.symm.trans p);clear r p h1 h2
   go_upto_region 6 with fail
   go_quiet (fail)
   go_wp2;go_roundw
   case rel=>exact⟨k+1,by go_num,j,Ab (q.o.trans (Dr.below ⟨_,rfl⟩ _))⟩
   case measure=>simp[intOf];omega
  have m:¬ (k:Int)<n:=by omega
  go_wp2;go_ret
  exact⟨rfl,q.o⟩
theorem Zs (A A2:Option Addr) (n c c2:Nat) (l:List Nat) (w:World) (hn:n<=20000000) (h1:Rd w A n (nvs l)) (h2:Rd w A2 n (nvs l)):
  Calls Tryz.prog 18 #[.slice A n c,.slice A2 n c2] w λe h=>e= .returned (.bool true)/\Below w.heap.size w h:=by
 have z:(n:Int)<=20000000:=by omega
 go_enter Tryz.func18,Tryz.ntmps18
 go_wp2
 go_loopw [13] (λi wr=>∃ k:Nat,i= .int .i64 k/\k<=n/\Hid (Below w.heap.size w wr)) (λi _=>n-(intOf i).toNat)
 case atStart=>exact⟨0,rfl,Nat.zero_le _,Ab (Below.refl _ _)⟩
 case round=>
  obtain⟨k,rfl,I,q⟩:=hrel
  by_cases j:k<n
  ·have m:(k:Int)<n:=by omega
   obtain⟨D,x,rfl,_,r,E⟩:=(h1.below q.o (Nl _)).get j;obtain⟨y,B,rfl,_,p,F⟩:=(h2.below q.o (Nl _)).get j;obtain rfl:x=B:=Option.some.inj (r.symm.trans p);clear r p h1 h2
   go_upto_region 6 with fail
   go_quiet (fail)
   go_wp2;go_roundw
   case rel=>exact⟨k+1,by go_num,j,Ab (q.o.trans (Dr.below ⟨_,rfl⟩ _))⟩
   case measure=>simp[intOf];omega
  have m:¬ (k:Int)<n:=by omega
  go_wp2;go_ret
  exact⟨rfl,q.o⟩
theorem We {w:World} {A:Option Addr} {n k:Nat} {l:List Sy} (h:RdS w A n 3 (Kv l)) (hk:k<n):
  ∃j x,A=some j/\l[k]?=some x/\w.cell? (j.add (k*3))=some (.int .u8 (bt x.k))/\w.cell? ⟨(j.add (k*3)).block,(j.add (k*3)).off+1,none⟩=some (.int .i64 (x.i:Nat))/\w.cell? ⟨(j.add (k*3)).block,(j.add (k*3)).off+2,none⟩=some (.string (bstr x.name)):=by
 obtain⟨y,h2⟩:=h;obtain⟨j,B,D,m⟩:=h2.resolve_left (by omega);rw[Uu]at y
 have q:k<l.length:=by omega
 have r:l[k]?=some l[k]:=List.getElem?_eq_getElem q
 have p:∀ z,z<3->(Kv l)[k*3+z]?=(sy3 l[k])[z]?:=λz E=>by
  unfold Kv;rw[flat_get _ 3 (λ_=>rfl) (by omega),show(k*3+z)/3=k by omega,show(k*3+z)%3=z by omega,r,Option.bind_some]
 refine⟨j,l[k],B,r,m _ _ ((p 0 (by omega)).trans rfl),?_,?_⟩
 ·rw[Go.Proofs.YtmidbhnhcbpneaaGreatDoor.Circ.Mg _ _ _ (by omega)];exact m _ _ ((p 1 (by omega)).trans rfl)
 rw[Go.Proofs.YtmidbhnhcbpneaaGreatDoor.Circ.Mg _ _ _ (by omega)];exact m _ _ ((p 2 (by omega)).trans rfl)
theorem AhL (a b:Int) (c:ByteArray) (w:World):(binOp .neq 65 (.agg #[.int .u8 a,.int .i64 b,.string c]) (.agg #[.int .u8 a,.int .i64 b,.string c])).run Tryz.prog w= .ok (.bool false) w:=by
 have h:(Op.equal 65 (.agg #[.int .u8 a,.int .i64 b,.string c]) (.agg #[.int .u8 a,.int .i64 b,.string c])).run Tryz.prog w= .ok true w:=by simp[Op.equal,Op.maxDepth,go_sem]
 simp[binOp,h]
theorem AmM (A A2:Option Addr) (n c c2:Nat) (l:List Sy) (w:World) (hn:n<=20000000) (h1:RdS w A n 3 (Kv l)) (h2:RdS w A2 n 3 (Kv l)):
  Calls Tryz.prog 21 #[.slice A n c,.slice A2 n c2] w λe B=>e= .returned (.bool true)/\Below w.heap.size w B:=by
 have h:=AhL
 have z:(n:Int)<=20000000:=by omega
 go_enter Tryz.func21,Tryz.ntmps21
 go_wp2
 go_loopw [13] (λi wr=>∃ k:Nat,i= .int .i64 k/\k<=n/\Hid (Below w.heap.size w wr)) (λi _=>n-(intOf i).toNat)
 case atStart=>exact⟨0,rfl,Nat.zero_le _,Ab (Below.refl _ _)⟩
 case round=>
  obtain⟨k,rfl,R,q⟩:=hrel
  by_cases j:k<n
  ·have m:(k:Int)<n:=by omega
   obtain⟨E,x,rfl,r,F,I,J⟩:=We (h1.below q.o (Nl _)) j;obtain⟨y,D,rfl,p,M,N,O⟩:=We (h2.below q.o (Nl _)) j;obtain rfl:x=D:=Option.some.inj (r.symm.trans p);clear r p h1 h2
   go_upto_region 6 with fail
   go_quiet (fail)
   go_wp2;go_roundw
   case rel=>exact⟨k+1,by go_num,j,Ab (q.o.trans (Dr.below ⟨_,rfl⟩ _))⟩
   case measure=>simp[intOf];omega
  have m:¬ (k:Int)<n:=by omega
  go_wp2;go_ret
  exact⟨rfl,q.o⟩
theorem AcA (m:Int) (v v':Cv) (x:Bp) (w:World) (hr:RdC w v x) (hr':RdC w v' x) (hl:Mx x):
  Calls Tryz.prog 5 #[.agg (Ae m v),.agg (Ae m v')] w λe w'=>e= .returned (.bool true)/\Below w.heap.size w w':=by
 have l1:v.ins.n<=20000000:=by have:=hr.nIns;have:=hl.ins;omega
 have n1:v'.ins.n=v.ins.n:=by rw[hr.nIns,hr'.nIns]
 have l2:v.lat.n<=20000000:=by have:=hr.nLat;have:=hl.lat;omega
 have n2:v'.lat.n=v.lat.n:=by rw[hr.nLat,hr'.nLat]
 have l3:v.outs.n<=20000000:=by have:=hr.nOuts;have:=hl.outs;omega
 have n3:v'.outs.n=v.outs.n:=by rw[hr.nOuts,hr'.nOuts]
 have l4:v.bads.n<=20000000:=by have:=hr.nBads;have:=hl.bads;omega
 have n4:v'.bads.n=v.bads.n:=by rw[hr.nBads,hr'.nBads]
 have l5:v.cons.n<=20000000:=by have:=hr.nCons;have:=hl.cons;omega
 have n5:v'.cons.n=v.cons.n:=by rw[hr.nCons,hr'.nCons]
 have l6:v.gat.n<=20000000:=by have:=hr.nGat;have:=hl.gat;omega
 have n6:v'.gat.n=v.gat.n:=by rw[hr.nGat,hr'.nGat]
 have l7:v.sym.n<=20000000:=by have:=hr.nSym;have:=hl.sym;omega
 have n7:v'.sym.n=v.sym.n:=by rw[hr.nSym,hr'.nSym]
 have aN:v'.com=v.com:=by rw[hr.com,hr'.com]
 obtain⟨W2,X,b0,b1,bA,aM⟩:=Qd w (Ae m v) (Ae m v') 31 31;obtain⟨⟨A1,M1,C1⟩,⟨A2,M2,C2⟩,⟨A3,M3,C3⟩,⟨A4,M4,C4⟩,⟨A5,M5,C5⟩,⟨A6,M6,C6⟩,⟨A7,M7,C7⟩,aX⟩:=v;obtain⟨⟨B1,aO,D1⟩,⟨B2,aP,D2⟩,⟨B3,aQ,D3⟩,⟨B4,aR,D4⟩,⟨B5,aS,D5⟩,⟨B6,aT,D6⟩,⟨B7,aU,D7⟩,aW⟩:=v';dsimp only at l1 l2 l3 l4 l5 l6 l7 n1 n2 n3 n4 n5 n6 n7 aN;subst n1 n2 n3 n4 n5 n6 n7 aN;have E1:=Ab (λ(W:World) (hb:Below w.heap.size w W)=>Zs A1 B1 aO C1 D1 (x.c.ins) W l1 (hr.ins.below hb (Nl _)) (hr'.ins.below hb (Nl _)));have E2:=Ab (λ(W:World) (hb:Below w.heap.size w W)=>AmN A2 B2 aP C2 D2 ((x.c.lat.map t3)) W l2 (hr.lat.below hb (Nl _)) (hr'.lat.below hb (Nl _)));have E3:=Ab (λ(W:World) (hb:Below w.heap.size w W)=>Zs A3 B3 aQ C3 D3 (x.c.outs) W l3 (hr.outs.below hb (Nl _)) (hr'.outs.below hb (Nl _)));have E4:=Ab (λ(W:World) (hb:Below w.heap.size w W)=>Zs A4 B4 aR C4 D4 (x.c.bads) W l4 (hr.bads.below hb (Nl _)) (hr'.bads.below hb (Nl _)));have E5:=Ab (λ(W:World) (hb:Below w.heap.size w W)=>Zs A5 B5 aS C5 D5 (x.c.cons) W l5 (hr.cons.below hb (Nl _)) (hr'.cons.below hb (Nl _)));have E6:=Ab (λ(W:World) (hb:Below w.heap.size w W)=>Anp A6 B6 aT C6 D6 ((x.c.gat.map t3)) W l6 (hr.gat.below hb (Nl _)) (hr'.gat.below hb (Nl _)));have E7:=Ab (λ(W:World) (hb:Below w.heap.size w W)=>AmM A7 B7 aU C7 D7 (x.sym) W l7 (hr.sym.below hb (Nl _)) (hr'.sym.below hb (Nl _)));clear hr hr' l1 l2 l3 l4 l5 l6 l7;simp only[Ae]at b0 b1 X ⊢;replace X:=Ab X;have aE:=Ab aM;clear aM
 go_enter Tryz.func5,Tryz.ntmps5
 go_upto_region 1 with fail
 rw[X.o];clear X;have aZ:w.heap.size+1<W2.heap.size:=b1.lt;have aY:w.heap.size<W2.heap.size:=b0.lt;have j:=b0;have l:=b1;obtain⟨p,q,r,y,z,h,B,D,E⟩:=c9c (j);obtain⟨F,I,J,M,N,O,R,S,U⟩:=c9c (l)
 go_wp2_with fail
 refine(E1.o _ aE.o).mono ?_;rintro e u1 ⟨rfl,Y⟩;have aF:=Ab (aE.o.trans (Y.mono (Nat.le_of_lt j.lt)));replace j:=j.below Y j.lt;replace l:=l.below Y l.lt;clear Y p F q I r J y M z N h O B R D S E U aE;obtain⟨p,q,r,y,z,h,B,D,E⟩:=c9c (j);obtain⟨F,I,J,M,N,O,R,S,U⟩:=c9c (l)
 go_wp2_with fail
 refine(E2.o _ aF.o).mono ?_;rintro e u2 ⟨rfl,Z⟩;have aH:=Ab (aF.o.trans (Z.mono (Nat.le_of_lt j.lt)));replace j:=j.below Z j.lt;replace l:=l.below Z l.lt;clear Z p F q I r J y M z N h O B R D S E U aF;obtain⟨p,q,r,y,z,h,B,D,E⟩:=c9c (j);obtain⟨F,I,J,M,N,O,R,S,U⟩:=c9c (l)
 go_wp2_with fail
 refine(E3.o _ aH.o).mono ?_;rintro e u3 ⟨rfl,A⟩;have aI:=Ab (aH.o.trans (A.mono (Nat.le_of_lt j.lt)));replace j:=j.below A j.lt;replace l:=l.below A l.lt;clear A p F q I r J y M z N h O B R D S E U aH;obtain⟨p,q,r,y,z,h,B,D,E⟩:=c9c (j);obtain⟨F,I,J,M,N,O,R,S,U⟩:=c9c (l)
 go_wp2_with fail
 refine(E4.o _ aI.o).mono ?_;rintro e u4 ⟨rfl,aA⟩;have aJ:=Ab (aI.o.trans (aA.mono (Nat.le_of_lt j.lt)));replace j:=j.below aA j.lt;replace l:=l.below aA l.lt;clear aA p F q I r J y M z N h O B R D S E U aI;obtain⟨p,q,r,y,z,h,B,D,E⟩:=c9c (j);obtain⟨F,I,J,M,N,O,R,S,U⟩:=c9c (l)
 go_wp2_with fail
 refine(E5.o _ aJ.o).mono ?_;rintro e u5 ⟨rfl,aB⟩;have aK:=Ab (aJ.o.trans (aB.mono (Nat.le_of_lt j.lt)));replace j:=j.below aB j.lt;replace l:=l.below aB l.lt;clear aB p F q I r J y M z N h O B R D S E U aJ;obtain⟨p,q,r,y,z,h,B,D,E⟩:=c9c (j);obtain⟨F,I,J,M,N,O,R,S,U⟩:=c9c (l)
 go_wp2_with fail
 refine(E6.o _ aK.o).mono ?_;rintro e u6 ⟨rfl,aC⟩;have aL:=Ab (aK.o.trans (aC.mono (Nat.le_of_lt j.lt)));replace j:=j.below aC j.lt;replace l:=l.below aC l.lt;clear aC p F q I r J y M z N h O B R D S E U aK;obtain⟨p,q,r,y,z,h,B,D,E⟩:=c9c (j);obtain⟨F,I,J,M,N,O,R,S,U⟩:=c9c (l)
 go_wp2_with fail
 refine(E7.o _ aL.o).mono ?_;rintro e u7 ⟨rfl,aD⟩;have aV:=Ab (aL.o.trans (aD.mono (Nat.le_of_lt j.lt)));replace j:=j.below aD j.lt;replace l:=l.below aD l.lt;clear aD p F q I r J y M z N h O B R D S E U aL;go_wp2;go_ret
 exact⟨rfl,aV.o⟩
end Go.Proofs.YtmidbhnhcbpneaaGreatDoor.Top
end
section
namespace Go.Proofs.YtmidbhnhcbpneaaGreatDoor.Top
open Go YtmidbhnhcbpneaaGreatDoor.Dec
def atV (T:List Nat) (v:Nat):Int:=if v=0 then 0 else if 2*v∈T then((2*(T.idxOf (2*v)+1):Nat):Int) else -1
def atF (m:Nat) (T:List Nat):List Int:=(List.range (m+1)).map (atV T)
theorem Fp (m:Nat) (T:List Nat):(atF m T).length=m+1:=by simp[atF]
theorem Nb {m v:Nat} (T:List Nat) (h:v<=m):(atF m T)[v]?=some (atV T v):=by
 unfold atF;rw[List.getElem?_map,List.getElem?_range (by omega)];rfl
theorem AmY {T:List Nat} {l v:Nat} (he:l%2=0) (h1:1<l) (hn:l∉T):atV (T++ [l]) v=if v=l/2 then((2*(T.length+1):Nat):Int) else atV T v:=by
 unfold atV
 by_cases m:v=0
 ·subst m;rw[if_pos rfl,if_neg (by omega),if_pos rfl]
 rw[if_neg m,if_neg m]
 by_cases p:v=l/2
 ·have e:2*v=l:=by omega
  rw[if_pos p,e,if_pos (by simp),List.idxOf_append,if_neg hn]
  simp
 have e:2*v≠l:=by omega
 rw[if_neg p]
 by_cases j:2*v∈T
 ·rw[if_pos (by simp[j]),if_pos j,List.idxOf_append,if_pos j]
 rw[if_neg (by simp[j,e]),if_neg j]
theorem AhP {m l:Nat} {T:List Nat} (he:l%2=0) (h1:1<l) (hn:l∉T):(atF m T).set (l/2) ((2*(T.length+1):Nat):Int)=atF m (T++ [l]):=by
 apply List.ext_getElem?
 intro v;rw[List.getElem?_set]
 by_cases j:v<=m
 ·rw[Nb _ j,Nb _ j,AmY he h1 hn,Fp]
  by_cases e:l/2=v
  ·rw[if_pos e,if_pos (by omega),if_pos e.symm]
  rw[if_neg e,if_neg (λx=>e x.symm)]
 have p:(atF m T)[v]?=none:=List.getElem?_eq_none (by rw[Fp];omega);have q:(atF m (T++ [l]))[v]?=none:=List.getElem?_eq_none (by rw[Fp];omega);rw[p,q,Fp];split
 ·rw[if_neg (by omega)]
 rfl
def Zz (T:List Nat) (l:Nat):Prop:=l<2∨l-l%2∈T
theorem AdB {c:Cir} {T U:List Nat} {l:Nat} (hv:Av c=T++U) (ht:Zz T l):atV T (l/2)+((l%2:Nat):Int)=(ofC c l:Nat):=by
 unfold ofC atV
 by_cases h2:l<2
 ·rw[if_pos (by omega),if_pos h2];omega
 have j:=ht.resolve_left h2
 have e:2*(l/2)=l-l%2:=by omega
 rw[if_neg (by omega),if_neg h2,e,if_pos j,hv,List.idxOf_append,if_pos j];omega
end Go.Proofs.YtmidbhnhcbpneaaGreatDoor.Top
end
section
namespace Go.Proofs.YtmidbhnhcbpneaaGreatDoor.Top
open Go Go.RowKit Go.Lt YtmidbhnhcbpneaaGreatDoor.Lit YtmidbhnhcbpneaaGreatDoor.Dec
open YtmidbhnhcbpneaaGreatDoor.Circ (T3 enc3 RdT Sl Cv Ae)
def zvs (l:List Int):List Value:=l.map (Value.int .i64)
theorem Aih (a:Int) (b:Nat) (h0:0<=a) (h1:a<=33554432) (he:a%2=0) (hb:b<2):bits .xor .i64 a (b:Nat)=a+b:=by
 rcases(show b=0∨b=1 by omega) with rfl|rfl
 ·obtain⟨k,rfl⟩:∃ k:Nat,a=k:=⟨a.toNat,by omega⟩
  show IntKind.i64.wrap ((BitVec.ofInt 64 (k:Int) ^^^ BitVec.ofInt 64 ((0:Nat):Int)).toNat:Int)=_
  rw[BitVec.toNat_xor,ofInt_u64 k (by omega),ofInt_u64 0 (by omega),Nat.xor_zero,IntWalk.i64_in _ (by omega)];omega
 have:=Go.Proofs.YtmidbhnhcbpneaaGreatDoor.Lit.Ano a h0 (by omega)
 rw[if_neg (by omega)]at this;exact this
theorem AlL (c:Cir) (T U:List Nat) (l m b:Nat) (s:Sl) (W:World) (hb:Blk W b 26 #[sv s]) (hr:Rd W s.A s.n (zvs (atF m T))) (J:Av c=T++U) (F:Zz T l) (hl:l/2<=m) (hm:m<=16777216) (hT:T.length<=16777215):
  Calls Tryz.prog 72 #[.int .i64 (l:Nat),.pointer (some ⟨b,0,none⟩)] W λe Y=>e= .returned (.int .i64 (ofC c l:Nat))/\Y=W:=by
 have M:s.n=m+1:=by have:=hr.len;rw[Fp]at this;omega
 obtain⟨A,n,C⟩:=s;dsimp only at M hr;subst M
 have B:l/2<m+1:=by omega
 obtain⟨N,x,rfl,_,E,O⟩:=hr.get B;rw[Nb T hl]at E;obtain rfl:=Option.some.inj E;have D:=AdB J F;have hi:T.idxOf (l-l%2)<=T.length:=List.idxOf_le_length
 have j:0<=atV T (l/2)/\atV T (l/2)<=33554432/\atV T (l/2)%2=0:=by
  unfold atV
  by_cases h2:l<2
  ·rw[if_pos (by omega)];omega
  have e:2*(l/2)=l-l%2:=by omega
  rw[if_neg (by omega),e,if_pos (F.resolve_left h2)];omega
 generalize atV T (l/2)=x at*;have E:=Aih x (l%2) j.1 j.2.1 j.2.2 (by omega);rw[D]at E;have p:=Go.Proofs.YtmidbhnhcbpneaaGreatDoor.Lit.and_one (l:Int) (by omega) (by omega)
 have z:bits .and .i64 (l:Int) 1=((l%2:Nat):Int):=by rw[p];omega
 have Z:W.cell? ⟨b,0,none⟩=some (.slice (some N) (m+1) C):=hb.cell 0;generalize ofC c l=r at*;clear p D j hi hb hr;obtain⟨y,hy⟩:∃ y,y=l%2:=⟨_,rfl⟩;rw[<-hy]at E z;replace hy:=Ab hy;replace J:=Ab J;replace F:=Ab F
 have R:(m:Int)<=16777216:=by omega
 have I:(l:Int)/2<m+1:=by omega
 have S:(l:Int).tdiv 2=((l/2:Nat):Int):=by rw[Int.tdiv_eq_ediv_of_nonneg (by omega)];omega
 obtain⟨q,h⟩:∃ q,q=l/2:=⟨_,rfl⟩;rw[<-h]at S O
 have X:(q:Int)<m+1:=by omega
 clear I B hl;replace h:=Ab h
 go_enter Tryz.func72,Tryz.ntmps72
 go_wp2;go_ret
 exact⟨rfl,rfl⟩
end Go.Proofs.YtmidbhnhcbpneaaGreatDoor.Top
end
section
namespace Go.Proofs.YtmidbhnhcbpneaaGreatDoor.Top
open Go YtmidbhnhcbpneaaGreatDoor.Dec
def AcS (c:Cir) (i:Nat):Int×Int:=(((ofC c (c.gat.getD i z3).b:Nat):Int),((ofC c (c.gat.getD i z3).c:Nat):Int))
def Ei (c:Cir):List (Int×Int):=(c.ins++c.lat.map N3.a).map (λ_=>((-1:Int),(0:Int)))++(Aw c.gat).map (AcS c)
theorem Fy (c:Cir):(Ei c).length=(Av c).length:=by unfold Ei Av;simp
theorem Cy {α:Type} {l:List α} {j:Nat} {x:α} (h:l[j]?=some x):l.take (j+1)=l.take j++ [x]:=by
 rw[List.take_add_one,h];rfl
section
variable {c:Cir}
theorem Ur {k l:Nat} (h:c.ins[k]?=some l):(Av c)[k]?=some l:=by
 have j:=(List.getElem?_eq_some_iff.1 h).1;unfold Av;rw[List.getElem?_append_left (by simp;omega),List.getElem?_append_left j,h]
theorem Vd {k:Nat} {x:N3} (h:c.lat[k]?=some x):(Av c)[c.ins.length+k]?=some x.a:=by
 have j:=(List.getElem?_eq_some_iff.1 h).1;unfold Av;rw[List.getElem?_append_left (by simp;omega),List.getElem?_append_right (by omega),List.getElem?_map,show c.ins.length+k-c.ins.length=k by omega,h];rfl
theorem Pr {k i:Nat} (h:(Aw c.gat)[k]?=some i):(Av c)[c.ins.length+c.lat.length+k]?=some (c.gat.getD i z3).a:=by
 unfold Av;rw[List.getElem?_append_right (by simp),List.getElem?_map]
 have:c.ins.length+c.lat.length+k-(c.ins++c.lat.map N3.a).length=k:=by simp
 rw[this,h];rfl
theorem Jy {k:Nat} (h:k<c.ins.length+c.lat.length):(Ei c)[k]?=some (-1,0):=by
 unfold Ei;rw[List.getElem?_append_left (by simp;omega),List.getElem?_map]
 have:k<(c.ins++c.lat.map N3.a).length:=by simp;omega
 rw[List.getElem?_eq_getElem this];rfl
theorem Nh {k i:Nat} (h:(Aw c.gat)[k]?=some i):(Ei c)[c.ins.length+c.lat.length+k]?=some (AcS c i):=by
 unfold Ei;rw[List.getElem?_append_right (by simp),List.getElem?_map]
 have:c.ins.length+c.lat.length+k-((c.ins++c.lat.map N3.a).map (λ_=>((-1:Int),(0:Int)))).length=k:=by simp
 rw[this,h];rfl
theorem Pg (hg:Ag c) {k i y:Nat} (hk:(Aw c.gat)[k]?=some i) (hy:y=(c.gat.getD i z3).b∨y=(c.gat.getD i z3).c):Zz ((Av c).take (c.ins.length+c.lat.length+k)) y:=by
 have hi:=(Ge c.gat).2 i (List.mem_of_getElem? hk)
 have p:c.gat[i]?=some (c.gat.getD i z3):=by simp[List.getD,hi]
 have l:=List.mem_of_getElem? p
 have r:y∈Ch c:=by
  rcases hy with rfl|rfl
  ·exact(Bg l).1
  exact(Bg l).2
 have j:=of_low hg hk hy
 by_cases h2:y<2
 ·exact .inl h2
 refine .inr ?_;have q:=(Jk hg).2 ((Du hg r).resolve_left h2);unfold ofC at j;rw[if_neg h2]at j
 have x:(Av c).idxOf (y-y%2)<c.ins.length+c.lat.length+k:=by omega
 have m:=List.idxOf_lt_length_of_mem q
 have:((Av c).take (c.ins.length+c.lat.length+k))[(Av c).idxOf (y-y%2)]?=some (y-y%2):=by
  rw[List.getElem?_take_of_lt x,List.getElem?_eq_getElem m,List.getElem_idxOf m]
 exact List.mem_of_getElem? this
theorem Tt (hg:Ag c) {j l:Nat} (h:(Av c)[j]?=some l):l%2=0/\1<l/\l∉(Av c).take j/\l/2<=c.max:=by
 have m:=List.mem_of_getElem? h;have q:=AeC hg m;have x:=(hg.own l ((Jk hg).1 m)).2.2;refine⟨q.2,by omega,λr=>?_,by omega⟩;have p:=(Ts hg).sublist (List.take_sublist (j+1) _);rw[Cy h,List.nodup_append]at p;exact p.2.2 l r l (List.mem_singleton.2 rfl) rfl
theorem AfM (hg:Ag c) {k i:Nat} (h:(Aw c.gat)[k]?=some i):(Ak c).gat[k]?=some ⟨2*(c.ins.length+c.lat.length+k)+2,max (ofC c (c.gat.getD i z3).b) (ofC c (c.gat.getD i z3).c),min (ofC c (c.gat.getD i z3).b) (ofC c (c.gat.getD i z3).c)⟩:=by
 show((Aw c.gat).map λi=>Qj c (c.gat.getD i z3))[k]?=_
 rw[List.getElem?_map,h]
 have:=Ale hg (Pr h)
 show some (Qj c (c.gat.getD i z3))=_
 unfold Qj;rw[this]
 congr 2
end
def Iq {α:Type} (f:α->α) (l:List α) (k:Nat):List α:=(l.take k).map f++l.drop k
section
variable {α:Type} {f:α->α} {l:List α} {k:Nat}
theorem Aaq:Iq f l 0=l:=by simp[Iq]
theorem Acz:(Iq f l k).length=l.length:=by unfold Iq;simp;omega
theorem Xi {x:α} (h:l[k]?=some x):(Iq f l k)[k]?=some x:=by
 have j:=(List.getElem?_eq_some_iff.1 h).1;unfold Iq;rw[List.getElem?_append_right (by simp;omega),List.getElem?_drop]
 have:k+(k-((l.take k).map f).length)=k:=by simp;omega
 rw[this,h]
theorem Ack {x:α} (h:l[k]?=some x):(Iq f l k).set k (f x)=Iq f l (k+1):=by
 obtain⟨m,e⟩:=List.getElem?_eq_some_iff.1 h;unfold Iq;rw[List.set_append_right _ _ (by simp;omega)]
 have j:k-((l.take k).map f).length=0:=by simp;omega
 rw[j,List.drop_eq_getElem_cons m,e,List.set_cons_zero,Cy h,List.map_append]
 simp
theorem AcC (h:l.length<=k):Iq f l k=l.map f:=by
 unfold Iq;rw[List.take_of_length_le h,List.drop_eq_nil_of_le h,List.append_nil]
end
end Go.Proofs.YtmidbhnhcbpneaaGreatDoor.Top
end
