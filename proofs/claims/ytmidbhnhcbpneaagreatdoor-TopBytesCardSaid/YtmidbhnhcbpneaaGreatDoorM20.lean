/- A part of the proof. -/
import Derived.Test.YtmidbhnhcbpneaaGreatDoorM3
import Derived.Test.YtmidbhnhcbpneaaGreatDoorM19
import Derived.Test.YtmidbhnhcbpneaaGreatDoorM8
set_option linter.unusedVariables false
set_option linter.unusedSimpArgs false
set_option maxRecDepth 8000
set_option maxHeartbeats 8000000
section
namespace Go.Proofs.YtmidbhnhcbpneaaGreatDoor.Top
open Go Go.RowKit Go.Lt YtmidbhnhcbpneaaGreatDoor.Lit YtmidbhnhcbpneaaGreatDoor.Dec
open YtmidbhnhcbpneaaGreatDoor.Circ (T3 enc3 RdT Sl Cv Ae)
structure Gr (W:World) (g:Nat) (v:Cv) (x:Bp) (sn sa:Sl):Prop where
 blk:Blk W g 95 #[.int .i64 (x.c.max:Nat),sv v.ins,sv v.lat,sv v.outs,sv v.bads,sv v.cons,sv v.gat,sv v.sym,.string v.com,sv sn,sv sa]
 rd:RdC W v x
 nodes:RdS W sn.A sn.n 2 (Gz (Ei x.c))
 at_:Rd W sa.A (x.c.max+1) (zvs (atF x.c.max (Av x.c)))
 san:sa.n=x.c.max+1
theorem Gr.below {W W':World} {g:Nat} {v:Cv} {x:Bp} {sn sa:Sl} (h:Gr W g v x sn sa) (hb:Below W.heap.size W W'):Gr W' g v x sn sa:=
 ⟨h.blk.below hb h.blk.lt,h.rd.below hb (Nl _),h.nodes.below hb (Nl _),h.at_.below hb (Nl _),h.san⟩
theorem Abd (c:Cir) (s i:List Bool):(Hl c s i).length=c.ins.length+c.lat.length:=by unfold Hl;rw[List.length_append,Ir,Ir]
theorem AmP {c:Cir} (hg:Ag c) {l:Nat} (hl:l∈Ch c):∃ a:Nat,atV (Av c) (l/2)=(a:Int)/\a%2=0/\ofC c l=a+l%2/\a/2<(Av c).length+1:=by
 have m:Zz (Av c) l:=by
  rcases Du hg hl with h|h
  ·exact .inl h
  exact .inr ((Jk hg).2 h)
 have h:=AdB (c:=c) (T:=Av c) (U:=[]) (by simp) m;unfold atV at*
 by_cases h2:l<2
 ·refine⟨0,?_,rfl,?_,by omega⟩
  ·rw[if_pos (by omega)];rfl
  rw[if_pos (by omega)]at h;omega
 have e:2*(l/2)=l-l%2:=by omega
 have j:=m.resolve_left h2;have p:=List.idxOf_lt_length_of_mem j;rw[if_neg (by omega),e,if_pos j]at h
 exact⟨2*((Av c).idxOf (l-l%2)+1),by rw[if_neg (by omega),e,if_pos j],by omega,by omega,by omega⟩
theorem AnA {c:Cir} (s i:List Bool) {l a:Nat} (h:ofC c l=a+l%2) (ha:a%2=0):Mj c (Hl c s i) l=(valOf (Oz c (Hl c s i)) a != decide (l%2=1)):=by
 unfold Mj;rw[h,Aha _ a (l%2) ha (by omega)]
theorem AlE (g:Nat) (v:Cv) (x:Bp) (sn sa S I:Sl) (s i:List Bool) (l:Nat) (w:World) (J:Gr w g v x sn sa) (hg:Ag x.c) (hf:Qf x) (hs:Rd w S.A S.n (bvs s)) (hS:S.n<=maxLen) (hi:Rd w I.A I.n (bvs i)) (hI:I.n<=maxLen) (hl:l∈Ch x.c):
  Calls Tryz.prog 80 #[.pointer (some ⟨g,0,none⟩),sv S,sv I,.int .i64 (l:Nat)] w λe w'=>e= .returned (.bool (Mj x.c (Hl x.c s i) l))/\Below w.heap.size w w':=by
 obtain⟨a,aU,aL,aV,aM⟩:=AmP hg hl;have aJ:=Ab (AnA s i aV aL)
 have bD:(Av x.c).length<=180:=by
  have:=Ht x.c
  have:=hf.ins
  have:=hf.lat
  have:=hf.gat
  have:=hg.all
  omega
 have bS:=hg.used l hl;have N:=hf.max
 have bP:l/2<x.c.max+1:=by omega
 obtain⟨q,hq⟩:∃ q,q=l/2:=⟨_,rfl⟩
 have cE:(l:Int)/2=(q:Int):=by omega
 have bR:(q:Int)<(x.c.max:Int)+1:=by omega
 have cB:(l:Int)<=1000:=by omega
 have cC:(q:Int)<=301:=by omega
 have cA:(a:Int)<=1000:=by omega
 have h1:=J.rd.nIns;have h2:=J.rd.nLat;have aR:=Ab (λ(W:World) (M:Below w.heap.size w W)=>Rb I.A I.n I.c i v.ins.n W (hi.below M (Nl _)) hI (by have:=hf.ins;omega));have aS:=Ab (λ(W:World) (M:Below w.heap.size w W)=>Rb S.A S.n S.c s v.lat.n W (hs.below M (Nl _)) hS (by have:=hf.lat;omega));have bL:=Ab (λ(W:World) (M:Below w.heap.size w W)=>J.at_.below M (Nl _));have aT:=Ab (λ(W:World) (M:Below w.heap.size w W)=>J.nodes.below M (Nl _))
 have bC:sn.n<=1000:=by
  have e1:=J.nodes.1;have e2:=Mt nd2 2 (λ_=>rfl) (Ei x.c);rw[Fy]at e2;unfold Gz at e1;omega
 have bA:=J.san;obtain⟨Am,Mm,Cm⟩:=sa;dsimp only at bA;subst bA
 have B:∀ W,Below w.heap.size w W->∃ad,Am=some ad/\W.cell? (ad.add q)=some (.int .i64 (a:Nat)):=λW M=>by
  obtain⟨ad,y,e1,_,hy,cy⟩:=(bL.o W M).get (f:=Value.int .i64) (k:=q) (by omega);rw[hq,Nb _ (by omega),aU]at hy;injection hy with hy;subst hy
  exact⟨ad,e1,cy⟩
 obtain⟨ad,rfl,bX⟩:=B w (Below.refl _ _)
 have aF:=Ab (λ(W:World) (M:Below w.heap.size w W)=>show W.cell? (ad.add q)=some (.int .i64 (a:Nat)) from by
  obtain⟨bW,e1,h⟩:=B W M;injection e1 with e1
  rw[e1];exact h)
 have F:=J.blk;have aY:=Ab (Abd x.c s i)
 have bM:v.ins.n<=60:=by have:=hf.ins;omega
 have bN:v.lat.n<=60:=by have:=hf.lat;omega
 have bO:=Ab hg;replace h1:=Ab h1;replace h2:=Ab h2;replace hq:=Ab hq;replace aL:=Ab aL;replace aM:=Ab aM;replace bD:=Ab bD;clear B J hs hi hl bS N bP aU aV hg;have J:=Ab F;have k1:=F.cell 1;have k2:=F.cell 2;obtain⟨⟨A1,M1,C1⟩,bT⟩:∃ s,v.ins=s:=⟨_,rfl⟩;obtain⟨⟨A2,Z,C2⟩,bU⟩:∃ s,v.lat=s:=⟨_,rfl⟩;obtain⟨⟨A9,M9,C9⟩,bV⟩:∃ s,sn=s:=⟨_,rfl⟩;subst bV;simp only[bT,bU]at F k1 k2 aR aS h1 h2 bM bN;have k1:w.cell? ⟨g,1,none⟩=some (.slice A1 M1 C1):=k1;have k2:w.cell? ⟨g,2,none⟩=some (.slice A2 Z C2):=k2;dsimp only at bC aT
 have bY:(M1:Int)<=60:=by omega
 have bZ:(Z:Int)<=60:=by omega
 obtain⟨SA,Sn,Sc⟩:=S;obtain⟨IA,In,Ic⟩:=I;dsimp only[sv]at*
 go_enter Tryz.func80,Tryz.ntmps80
 go_wp2;refine wp_region_held_drew (S:=λW'=>W'.cell? ⟨g,1,none⟩=some (.slice A1 M1 C1)/\W'.cell? ⟨g,2,none⟩=some (.slice A2 Z C2)) (by kernel_rfl) (⟨k1,k2⟩) (λj=>?_);refine tk 0 (h:=tk 1 (h:=tk 2 (h:=tk 3 (h:=tk 4 (h:=tk 5 (h:=tk 6 (h:=tk 8 (h:=tk 9 (h:=tk 10 (h:=tk 11 (h:=tk 12 (h:=tk 13 (h:=tk 14 (h:=?_))))))))))))));refine rd1 7 λK O=>?_;go_simp;refine(aR.o _ (Dr.below (Dr.refl w).drew _)).mono ?_;rintro e w5 ⟨⟨A5,L5,C5⟩,rfl,X,D,aN⟩;rw[Ir]at X D;replace X:=X.symm;dsimp only at X;subst X;have R:=Ab ((Dr.below (Dr.refl w).drew w.heap.size).trans aN);have aX:w.heap.size<=w.drew.heap.size:=(Dr.below (Dr.refl w).drew w.heap.size).size;have bF:=keepCell R.o k1;have bI:=keepCell R.o k2
 try go_wp2_with fail
 refine O.o _ _ (⟨bF,bI⟩) (λj=>?_);clear O K
 try simp only[Act.put,pt]
 refine rd1 15 λK O=>?_;go_simp;refine(aS.o _ R.o).mono ?_;rintro e w6 ⟨⟨A6,L6,C6⟩,rfl,Y,E,aA⟩;rw[Ir]at Y E;replace Y:=Y.symm;dsimp only at Y;subst Y;have aB:=Ab (R.o.trans (aA.mono R.o.size));have bG:=keepCell aB.o k1;have bJ:=keepCell aB.o k2;have m:=Au D aA
 try go_wp2_with fail
 refine O.o _ _ (⟨bG,bJ⟩) (λj=>?_);clear O K
 try simp only[Act.put,pt]
 refine rd1 16 λK O=>?_;refine Ej rfl (.tmp 17) (.tmp 25) 22 rfl Tryz.underlying22 Go.Proofs.YtmidbhnhcbpneaaGreatDoor.Circ.Rf rfl (by decide) rfl rfl m (Nat.le_trans aN.size aA.size) (Go.Lt.Wh (Zv (s:=⟨A6,Z,C6⟩) E)) (by intro u hu;obtain⟨b,_,rfl⟩:=List.mem_map.1 hu;rfl) (show M1+Z<=maxLen by unfold maxLen;omega) (show(M1+Z)*1<=140737488355328 by omega) ?_;intro v7 w7 r aH;have z:=Ab (aB.o.grown aH aB.o.size (λk hk=>Nat.le_trans aX (m.lt k hk).1));have bH:=keepCell z.o k1;have bK:=keepCell z.o k2;refine O.o _ _ (⟨bH,bK⟩) (λj=>?_);refine tk 17 (h:=?_);refine wpAnyH_done (by kernel_rfl) ?_ _;obtain⟨⟨A7,L7,C7⟩,rfl,aD⟩:=Be r;replace aD:=aD.symm;dsimp only at aD;subst aD
 have aI:bvs (brought i M1)++bvs (brought s Z)=bvs (Hl x.c s i):=by unfold Hl bvs;rw[List.map_append,h1.o,h2.o]
 rw[aI]at r;have bB:=Ab (Zv (s:=⟨A7,M1+Z,C7⟩) r);have HV:=Ab (λ(W:World) (M:Below w.heap.size w W) (hr:Rd W A7 (M1+Z) (bvs (Hl x.c s i)))=>Agw A9 A7 M9 C9 (M1+Z) C7 x.c (Hl x.c s i) W bO.o (aT.o W M) hr aY.o bC);clear r aH aI aN aA m D E bF bI bG bJ bH bK j k1 k2;have j9:w7.cell? ⟨g,9,none⟩=some (.slice A9 M9 C9):=keepCell z.o (J.o.cell 9);have aQ:w7.cell? ⟨g,10,none⟩=some (.slice (some ad) (x.c.max+1) Cm):=keepCell z.o (J.o.cell 10);have bE:=aF.o w7 z.o;have cF:IntKind.i64.wrap (q:Int)=(q:Int):=IntWalk.i64_in _ (by omega);obtain⟨p,hp⟩:∃ p,((l:Int)%2==1)=p:=⟨_,rfl⟩;have bQ:decide ((l:Int)%2=1)=p:=hp
 have aZ:decide (l%2=1)=p:=by rw[<-bQ];apply decide_eq_decide.2;omega
 rw[aZ]at aJ;clear aZ;obtain⟨mx,N⟩:∃ mx,x.c.max=mx:=⟨_,rfl⟩;rw[N]at aQ bR;replace N:=Ab N;dsimp only[sv];go_wp2;refine wp_region_held_drew (S:=λW'=>W'.cell? ⟨g,9,none⟩=some (.slice A9 M9 C9)/\W'.cell? ⟨g,10,none⟩=some (.slice (some ad) (mx+1) Cm)/\W'.cell? (ad.add q)=some (.int .i64 (a:Nat))) (by kernel_rfl) (⟨j9,aQ,bE⟩) (λj=>?_);refine tk 0 (h:=tk 1 (h:=tk 2 (h:=tk 3 (h:=tk 4 (h:=tk 6 (h:=tk 7 (h:=tk 8 (h:=tk 9 (h:=tk 10 (h:=tk 11 (h:=tk 12 (h:=tk 13 (h:=tk 15 (h:=tk 16 (h:=tk 17 (h:=?_))))))))))))))));refine rd1 5 λK O=>?_;go_simp;refine(HV.o _ (z.o.trans (Dr.below (Dr.refl w7).drew _)) (Dr.rd (Dr.refl w7).drew bB.o)).mono ?_;rintro e w8 ⟨⟨A8,L8,C8⟩,rfl,aO,U,aW⟩;dsimp only at aO;have aC:=Ab ((z.o.trans (Dr.below (Dr.refl w7).drew _)).trans (aW.mono (z.o.trans (Dr.below (Dr.refl w7).drew _)).size))
 have aK:(Oz x.c (Hl x.c s i)).length=(Av x.c).length+1:=by rw[<-Aat (Abd x.c s i),Abu (Abd x.c s i) (Nl _)]
 have HO:=Ab (AgG A8 (Oz x.c (Hl x.c s i)).length C8 (Oz x.c (Hl x.c s i)) a w8 (Zv (s:=⟨A8,L8,C8⟩) U) (by rw[aK];exact aM.o) (by omega));rw[<-aO]at HO;have i9:=keepCell aC.o (J.o.cell 9);have aE:=keepCell aC.o (J.o.cell 10);rw[N.o]at aE;have aP:=aF.o w8 aC.o;clear aO aK U aW
 try go_wp2_with fail
 refine O.o _ _ (⟨i9,aE,aP⟩) (λj=>?_);clear O K
 try simp only[Act.put,pt]
 refine rd1 14 λK O=>?_;go_simp;refine HO.o.mono ?_;rintro e w9 ⟨rfl,rfl⟩
 try go_wp2_with fail
 refine O.o _ _ (⟨i9,aE,aP⟩) (λj=>?_);refine tk 18 (h:=tk 19 (h:=?_));refine wpAnyH_done (by kernel_rfl) ?_ _;generalize valOf (Oz x.c (Hl x.c s i)) a=b at*;clear j j9 aQ bE i9 aE aP HO HV;go_wp2;go_ret;refine⟨?_,aC.o⟩;rw[aJ.o]
 show Ending.returned (.bool (!b==((l:Int).tmod 2==1)))=_
 rw[show((l:Int).tmod 2==1)=p from by rw[Int.tmod_eq_emod_of_nonneg (by omega)];exact hp]
 cases b<;>cases p<;>rfl
structure RdB (W:World) (S:Sl) (l:List Bool):Prop where
 rd:Rd W S.A S.n (bvs l)
 len:S.n<=maxLen
theorem RdB.below {W W':World} {S:Sl} {l:List Bool} (h:RdB W S l) (hb:Below W.heap.size W W'):RdB W' S l:=⟨h.rd.below hb (Nl _),h.len⟩
theorem RdB.n {W:World} {S:Sl} {l:List Bool} (h:RdB W S l):S.n=l.length:=by have:=h.rd.1;simpa[bvs] using this.symm
section
variable {W:World} {g:Nat} {v:Cv} {x:Bp} {sn sa:Sl} (h:Gr W g v x sn sa)
include h
theorem Gr.c2:W.cell? ⟨g,2,none⟩=some (.slice v.lat.A v.lat.n v.lat.c):=h.blk.cell 2
theorem Gr.c1:W.cell? ⟨g,1,none⟩=some (.slice v.ins.A v.ins.n v.ins.c):=h.blk.cell 1
theorem Gr.c4:W.cell? ⟨g,4,none⟩=some (.slice v.bads.A v.bads.n v.bads.c):=h.blk.cell 4
theorem Gr.c5:W.cell? ⟨g,5,none⟩=some (.slice v.cons.A v.cons.n v.cons.c):=h.blk.cell 5
end
theorem AoO (g:Nat) (v:Cv) (x:Bp) (sn sa S I:Sl) (s i:List Bool) (w:World) (hM:Gr w g v x sn sa) (hg:Ag x.c) (hf:Qf x) (hs:RdB w S s) (hi:RdB w I i):
  Calls Tryz.prog 79 #[.pointer (some ⟨g,0,none⟩),sv S,sv I] w (Ajy (Is x.c s i) w):=by
 have m:=hM.rd.nLat;have aH:=hf.lat;obtain⟨⟨A2,j,C2⟩,B⟩:∃ s,v.lat=s:=⟨_,rfl⟩;have hC:=Ab (λ(W:World) (r:Below w.heap.size w W)=>show W.cell? ⟨g,2,none⟩=some (.slice A2 j C2) from by have:=(hM.below r).c2;rw[B]at this;exact this);have aB:=Ab (λ(W:World) (r:Below w.heap.size w W)=>show RdT W A2 j (x.c.lat.map t3) from by have:=(hM.below r).rd.lat;rw[B]at this;exact this);have hL:=Ab (λ(W:World) (r:Below w.heap.size w W) (l:Nat) (hl:l∈Ch x.c)=>AlE g v x sn sa S I s i l W (hM.below r) hg hf (hs.below r).rd hs.len (hi.below r).rd hi.len hl);rw[B]at m;replace m:j=x.c.lat.length:=m
 have aJ:(j:Int)<=60:=by omega
 have h0:Hid ((w.alloc (.cells #[] 4)).ownsRow w.heap.size 4 1 (.slice (some ⟨w.heap.size,0,none⟩) 0 0) 0 (bvs ((x.c.lat.take 0).map λy=>Mj x.c (Hl x.c s i) y.b))/\Below w.heap.size w (w.alloc (.cells #[] 4))):=
  Ab ⟨Fq _ _ _ _ (Nl _),(Below.refl _ _).alloc (Nl _) _⟩
 obtain⟨W1,q⟩:∃ W1,w.alloc (.cells #[] 4)=W1:=⟨_,rfl⟩;rw[q]at h0;replace q:=Ab q;replace m:=Ab m;clear hM hs hi aH B;obtain⟨SA,Sn,Sc⟩:=S;obtain⟨IA,In,Ic⟩:=I;dsimp only[sv]at*
 go_enter Tryz.func79,Tryz.ntmps79
 go_upto_region 2 with fail
 rw[q.o];clear q;generalize z:w.heap.size=n0 at*;go_wp2
 go_loopw [7,8] (λu i' wr=>∃ k:Nat,i'= .int .i64 k/\k<=j/\Hid (wr.ownsRow n0 4 1 u k (bvs ((x.c.lat.take k).map λy=>Mj x.c (Hl x.c s i) y.b))/\Below n0 w wr)) (λ_ i' _=>j-(intOf i').toNat)
 case atStart=>exact⟨0,rfl,Nat.zero_le _,h0⟩
 case round=>
  clear h0;obtain⟨k,rfl,hk,E⟩:=hrel;obtain⟨⟨U,nU,cU⟩,rfl,N⟩:=Be E.o.1;replace N:k=nU:=N.symm;subst N;have c2:=hC.o wr E.o.2
  by_cases X:k<j
  ·have Y:(k:Int)<j:=by omega
   have Z:=E.o.1;have p:=E.o.2;obtain⟨ad,y,rfl,hy,g0,g1,g2⟩:=Ce (aB.o wr p) X;have HL:=Ab (hL.o wr p y.b (Fo (List.mem_of_getElem? hy)));have aI:=Ab (Cy hy);obtain⟨b,r⟩:∃ b,Mj x.c (Hl x.c s i) y.b=b:=⟨_,rfl⟩;rw[r]at HL;obtain⟨yb,A⟩:∃ yb,y.b=yb:=⟨_,rfl⟩;rw[A]at HL g1;have aD:=Ab r;have aA:=Ab (show k+1<=maxLen by unfold maxLen;omega);have aF:=Ab (show(k+1)*1<=140737488355328 by omega);clear hy A r
   go_wp2_with (first|(go_at_call 80;refine HL.o.mono ?_;rintro e w5 ⟨rfl,O⟩;have J:=Au Z O;have F:=p.trans (O.mono (Nat.le_trans (Nat.le_of_eq z.symm) p.size)))|(at_builtin;refine Ah rfl _ _ _ rfl Tryz.underlying22 Go.Proofs.YtmidbhnhcbpneaaGreatDoor.Circ.Rf rfl (by decide) rfl (by first|rfl|simp[go_sem]) J F (Nat.le_of_eq z.symm) rfl (by simp[Value.oneCell']) aA.o aF.o ?_;intro v6 w6 M aE aK))
   have aC:Hid (w6.ownsRow n0 4 1 v6 (k+1) (bvs ((x.c.lat.take (k+1)).map λy=>Mj x.c (Hl x.c s i) y.b))/\Below n0 w w6):=Ab ⟨by
    rw[aI.o,List.map_append,show[y].map (λy=>Mj x.c (Hl x.c s i) y.b)= [b] by simp[aD.o],Rl]
    exact M,aE⟩
   go_roundw
   case rel=>exact⟨k+1,by go_num,X,aC⟩
   case measure=>simp[intOf];omega
  obtain rfl:j=k:=by omega
  have Y:¬ (j:Int)<j:=by omega
  have R:Hid (Ajy (Is x.c s i) w (.returned (.slice U j cU)) wr):=Ab (by
   have h:=E.o.1;rw[List.take_of_length_le (show x.c.lat.length<=j by rw[m.o];exact Nl _)]at h
   have D:(Is x.c s i).length=j:=by unfold Is;rw[List.length_map];exact m.o.symm
   exact⟨⟨U,j,cU⟩,rfl,D.symm,by rw[D,z];exact h,by rw[z];exact E.o.2⟩)
  clear E;go_wp2;go_ret;exact R.o
theorem Ann (g:Nat) (v:Cv) (x:Bp) (sn sa S I:Sl) (s i:List Bool) (w:World) (hM:Gr w g v x sn sa) (hg:Ag x.c) (hf:Qf x) (hcn:x.c.cons.length<=60) (hs:RdB w S s) (hi:RdB w I i):
  Calls Tryz.prog 39 #[.pointer (some ⟨g,0,none⟩),sv S,sv I] w λe w'=>e= .returned (.bool (Kc x.c s i))/\Below w.heap.size w w':=by
 have m:=hM.rd.nCons;obtain⟨⟨A,p,C2⟩,B⟩:∃ s,v.cons=s:=⟨_,rfl⟩;have hC:=Ab (λ(W:World) (q:Below w.heap.size w W)=>show W.cell? ⟨g,5,none⟩=some (.slice A p C2) from by have:=(hM.below q).c5;rw[B]at this;exact this);have N:=Ab (λ(W:World) (q:Below w.heap.size w W)=>show Rd W A p (nvs x.c.cons) from by have:=(hM.below q).rd.cons;rw[B]at this;exact this);have hL:=Ab (λ(W:World) (q:Below w.heap.size w W) (l:Nat) (hl:l∈Ch x.c)=>AlE g v x sn sa S I s i l W (hM.below q) hg hf (hs.below q).rd hs.len (hi.below q).rd hi.len hl);rw[B]at m;replace m:p=x.c.cons.length:=m
 have aA:(p:Int)<=60:=by omega
 have h0:Hid ((x.c.cons.take 0).all (Mj x.c (Hl x.c s i))=true/\Below w.heap.size w w):=Ab ⟨rfl,Below.refl _ _⟩;replace m:=Ab m;clear hM hs hi B hcn;obtain⟨SA,Sn,Sc⟩:=S;obtain⟨IA,In,Ic⟩:=I;dsimp only[sv]at*
 go_enter Tryz.func39,Tryz.ntmps39
 go_wp2
 go_loopw [7] (λZ wr=>∃ k:Nat,Z= .int .i64 k/\k<=p/\Hid ((x.c.cons.take k).all (Mj x.c (Hl x.c s i))=true/\Below w.heap.size w wr)) (λZ _=>p-(intOf Z).toNat)
 case atStart=>exact⟨0,rfl,Nat.zero_le _,h0⟩
 case round=>
  clear h0;obtain⟨k,rfl,hk,z⟩:=hrel;have c2:=hC.o wr z.o.2
  by_cases J:k<p
  ·have M:(k:Int)<p:=by omega
   have j:=Ab z.o.2;obtain⟨ad,y,rfl,_,hy,cy⟩:=(N.o wr z.o.2).get (f:=λn:Nat=>Value.int .i64 n) J;have E:=Ab (hL.o wr z.o.2 y (Ey (List.mem_of_getElem? hy)));have r:=Abz (Mj x.c (Hl x.c s i)) hy;have Y:=Ab (List.mem_of_getElem? hy);rw[z.o.1,Bool.true_and]at r;obtain⟨b,q⟩:∃ b,Mj x.c (Hl x.c s i) y=b:=⟨_,rfl⟩;rw[q]at E r;have R:=Ab q;replace r:=Ab r;clear hy q z;cases b
   ·have X:Hid (Kc x.c s i=false):=Ab (by
     unfold Kc;rw[<-Bool.not_eq_true,List.all_eq_true];intro h
     have:=h y Y.o
     rw[R.o]at this
     cases this)
    go_wp2_with fail
    refine E.o.mono ?_;rintro e w5 ⟨rfl,D⟩;have U:=Ab (j.o.trans (D.mono j.o.size));clear E;go_wp2;go_ret
    exact⟨by rw[X.o];rfl,U.o⟩
   go_wp2_with fail
   refine E.o.mono ?_;rintro e w5 ⟨rfl,D⟩;have O:Hid ((x.c.cons.take (k+1)).all (Mj x.c (Hl x.c s i))=true/\Below w.heap.size w w5):=Ab ⟨r.o,j.o.trans (D.mono j.o.size)⟩;clear E c2 cy;go_wp2;go_roundw
   case rel=>exact⟨k+1,by go_num,J,O⟩
   case measure=>simp[intOf];omega
  obtain rfl:p=k:=by omega
  have M:¬ (p:Int)<p:=by omega
  have F:Hid (Kc x.c s i=true):=Ab (by
   have h:=z.o.1;rw[List.take_of_length_le (show x.c.cons.length<=p by rw[m.o];exact Nl _)]at h
   exact h)
  have j:=Ab z.o.2;clear z;go_wp2;go_ret
  exact⟨by rw[F.o];rfl,j.o⟩
theorem Apt (g:Nat) (v:Cv) (x:Bp) (sn sa S I:Sl) (s i:List Bool) (prop:Int) (w:World) (hM:Gr w g v x sn sa) (hg:Ag x.c) (hf:Qf x) (hcn:x.c.bads.length<=60) (hs:RdB w S s) (hi:RdB w I i):
  Calls Tryz.prog 40 #[.pointer (some ⟨g,0,none⟩),sv S,sv I,.int .i64 prop] w λe Z=>e= .returned (.bool (Xg x.c s i prop))/\Below w.heap.size w Z:=by
 have j:=hM.rd.nBads;obtain⟨⟨B,z,X⟩,l⟩:∃ s,v.bads=s:=⟨_,rfl⟩
 have c4:w.cell? ⟨g,4,none⟩=some (.slice B z X):=by have:=hM.c4;rw[l]at this;exact this
 have m:Rd w B z (nvs x.c.bads):=by have:=hM.rd.bads;rw[l]at this;exact this
 rw[l]at j;replace j:z=x.c.bads.length:=j
 have R:(z:Int)<=60:=by omega
 by_cases O:prop≥0
 rotate_left
 ·have r:Hid (Xg x.c s i prop=false):=Ab (by unfold Xg;rw[decide_eq_false (by omega),Bool.false_and,Bool.false_and]);clear hM hs hi j l m hcn;obtain⟨J,N,M⟩:=S;obtain⟨D,F,E⟩:=I;dsimp only[sv]at*
  go_enter Tryz.func40,Tryz.ntmps40
  go_wp2;go_ret
  exact⟨by rw[r.o];rfl,Below.refl _ _⟩
 by_cases h2:prop<z
 rotate_left
 ·have r:Hid (Xg x.c s i prop=false):=Ab (by unfold Xg;rw[decide_eq_false (show ¬prop<(x.c.bads.length:Int) by omega),Bool.and_false,Bool.false_and]);clear hM hs hi j l m hcn;obtain⟨J,N,M⟩:=S;obtain⟨D,F,E⟩:=I;dsimp only[sv]at*
  go_enter Tryz.func40,Tryz.ntmps40
  go_wp2;go_ret
  exact⟨by rw[r.o];rfl,Below.refl _ _⟩
 obtain⟨k,rfl⟩:=Int.eq_ofNat_of_zero_le O
 have Y:k<z:=by omega
 obtain⟨A,y,rfl,_,hy,cy⟩:=m.get (f:=λn:Nat=>Value.int .i64 n) Y;have h:=Ab (AlE g v x sn sa S I s i y w hM hg hf hs.rd hs.len hi.rd hi.len (Ez (List.mem_of_getElem? hy)))
 have p:Hid (Xg x.c s i (k:Int)=Mj x.c (Hl x.c s i) y):=Ab (by
  unfold Xg;rw[decide_eq_true O,decide_eq_true (show(k:Int)<(x.c.bads.length:Int) by omega),Bool.true_and,Bool.true_and,Int.toNat_natCast,List.getD_eq_getElem?_getD,hy]
  rfl)
 obtain⟨b,U⟩:∃ b,Mj x.c (Hl x.c s i) y=b:=⟨_,rfl⟩;rw[U]at h p;clear hM hs hi j l m hcn hy U;obtain⟨J,N,M⟩:=S;obtain⟨D,F,E⟩:=I;dsimp only[sv]at*
 go_enter Tryz.func40,Tryz.ntmps40
 go_wp2_with fail
 refine h.o.mono ?_;rintro e w5 ⟨rfl,q⟩;replace q:=Ab q;clear h;go_wp2;go_ret
 exact⟨by rw[p.o];rfl,q.o⟩
theorem Acr (b:Bool):Eb 0 b= !b:=by unfold Eb;cases b<;>rfl
theorem AcI (b:Bool):Eb 1 b=b:=by unfold Eb;cases b<;>rfl
theorem AiN {r:Nat} (b:Bool) (h0:r≠0) (h1:r≠1):Eb r b=true:=by unfold Eb;rw[decide_eq_false h0,decide_eq_false h1];rfl
theorem AlO (g:Nat) (v:Cv) (x:Bp) (sn sa S:Sl) (s:List Bool) (w:World) (hM:Gr w g v x sn sa) (hf:Qf x) (hs:RdB w S s):
  Calls Tryz.prog 37 #[.pointer (some ⟨g,0,none⟩),sv S] w λe w'=>e= .returned (.bool (Gm x.c s))/\w'=w:=by
 have z:=hM.rd.nLat;have Y:=hf.lat;have F:=hs.n;obtain⟨⟨A2,I,C2⟩,D⟩:∃ s,v.lat=s:=⟨_,rfl⟩
 have c2:w.cell? ⟨g,2,none⟩=some (.slice A2 I C2):=by have:=hM.c2;rw[D]at this;exact this
 have O:RdT w A2 I (x.c.lat.map t3):=by have:=hM.rd.lat;rw[D]at this;exact this
 rw[D]at z;replace z:I=x.c.lat.length:=z
 have aC:(I:Int)<=60:=by omega
 have N:=hs.rd;have E:=hs.len;obtain⟨SA,p,Sc⟩:=S;dsimp only at F N E
 have R:(p:Int)<=9223372036854775807:=by unfold maxLen at E;omega
 by_cases A:p=I
 rotate_left
 ·have aA:¬ (p:Int)=I:=by omega
  have aD:((p:Int)==(I:Int))=false:=by simpa using aA
  have B:Hid (Gm x.c s=false):=Ab (by unfold Gm;rw[decide_eq_false (by omega),Bool.false_and]);clear hM hs z Y D O N E F A R;dsimp only[sv]at*
  go_enter Tryz.func37,Tryz.ntmps37
  go_wp2;go_ret
  exact⟨by rw[B.o];rfl,rfl⟩
 subst A;have aB:Hid (Gm x.c s=(List.range p).all λi=>Eb (x.c.lat.getD i z3).c (s.getD i false)):=Ab (by unfold Gm;rw[decide_eq_true (by omega),Bool.true_and,F]);have h0:Hid (((List.range 0).all λi=>Eb (x.c.lat.getD i z3).c (s.getD i false))=true):=Ab rfl;clear hM hs Y D E F R z;dsimp only[sv]at*
 go_enter Tryz.func37,Tryz.ntmps37
 go_wp2
 go_loop [5] (λi'=>∃ k:Nat,i'= .int .i64 k/\k<=p/\Hid (((List.range k).all λi=>Eb (x.c.lat.getD i z3).c (s.getD i false))=true)) (λi'=>p-(intOf i').toNat)
 case atStart=>exact⟨0,rfl,Nat.zero_le _,h0⟩
 case round=>
  clear h0;obtain⟨k,rfl,hk,hX⟩:=hrel
  by_cases l:k<p
  ·have Z:(k:Int)<p:=by omega
   obtain⟨ad,y,rfl,hy,g0,g1,g2⟩:=Ce O l;obtain⟨aE,b,rfl,_,hb,cb⟩:=N.get (f:=Value.bool) l
   have M:x.c.lat.getD k z3=y:=by rw[List.getD_eq_getElem?_getD,hy];rfl
   have J:s.getD k false=b:=by rw[List.getD_eq_getElem?_getD,hb];rfl
   have m:((List.range (k+1)).all λi=>Eb (x.c.lat.getD i z3).c (s.getD i false))=Eb y.c b:=by
    rw[List.range_succ,List.all_append,hX.o,Bool.true_and,List.all_cons,List.all_nil,Bool.and_true,M,J]
   obtain⟨r,hr⟩:∃ r,y.c=r:=⟨_,rfl⟩;rw[hr]at g2 m
   have j:Eb r b=false->Hid (Gm x.c s=false):=λh=>Ab (by
    rw[aB.o,<-Bool.not_eq_true,List.all_eq_true];intro U
    have:=U k (List.mem_range.2 l)
    rw[M,J,hr,h]at this
    cases this)
   replace m:=Ab m;replace j:=Ab j;clear hy hb M J hr hX
   by_cases r0:r=0
   ·subst r0;cases b
    ·have q:Hid (((List.range (k+1)).all λi=>Eb (x.c.lat.getD i z3).c (s.getD i false))=true):=Ab (by rw[m.o,Acr];rfl);go_wp2
     go_round
     case rel=>exact⟨k+1,by go_num,l,q⟩
     case measure=>simp[intOf];omega
    have B:=j.o (by rw[Acr];rfl);go_wp2;go_ret
    exact⟨by rw[B.o];rfl,rfl⟩
   by_cases r1:r=1
   ·subst r1;cases b
    ·have B:=j.o (by rw[AcI]);go_wp2;go_ret
     exact⟨by rw[B.o];rfl,rfl⟩
    have q:Hid (((List.range (k+1)).all λi=>Eb (x.c.lat.getD i z3).c (s.getD i false))=true):=Ab (by rw[m.o,AcI]);go_wp2
    go_round
    case rel=>exact⟨k+1,by go_num,l,q⟩
    case measure=>simp[intOf];omega
   have aF:¬ (r:Int)=0:=by omega
   have aH:¬ (r:Int)=1:=by omega
   have q:Hid (((List.range (k+1)).all λi=>Eb (x.c.lat.getD i z3).c (s.getD i false))=true):=Ab (by rw[m.o,AiN b r0 r1]);go_wp2
   go_round
   case rel=>exact⟨k+1,by go_num,l,q⟩
   case measure=>simp[intOf];omega
  obtain rfl:p=k:=by omega
  have Z:¬ (p:Int)<p:=by omega
  have X:Hid (Gm x.c s=true):=Ab (by rw[aB.o];exact hX.o);clear hX;go_wp2;go_ret
  exact⟨by rw[X.o];rfl,rfl⟩
def Aqo (v:Cv) (x:Bp) (w:World) (e:Ending) (w':World):Prop:=∃ g sn sa,e= .returned (.pointer (some ⟨g,0,none⟩))/\Gr w' g v x sn sa/\Below w.heap.size w w'
theorem Afj (v:Cv) (x:Bp) (w:World) (hf:Qf x) (hgc:Ag x.c) (hi:RdC w v x):
  Calls Tryz.prog 12 #[.agg (Ae x.c.max v)] w (Aqo v x w):=by
 obtain⟨W1,l,F,p⟩:=Bb w (Ae x.c.max v) 31;have j:=hi.below p (Nl _);have U:=Ab (AkX v x W1 hf hgc j);have p:=Ab p;have j:=Ab j;obtain⟨Z,s1,s2,s3,s4,s5,s6,s7,s8⟩:=c9d F;clear hi hf hgc;replace l:=Ab l
 go_enter Tryz.func12,Tryz.ntmps12
 go_upto_region 1 with fail
 rw[l.o];clear l
 go_wp2_with fail
 refine U.o.mono ?_;rintro e z ⟨⟨A,n,k⟩,⟨B,m,d⟩,rfl,M,h,D,E,q⟩;replace h:m=x.c.max+1:=h;subst h;have X:=F.below q F.lt;obtain⟨r0,r1,r2,r3,r4,r5,r6,r7,r8⟩:=c9d X;have J:w.heap.size<W1.heap.size:=F.lt;have y:=Ab (p.o.trans (q.mono (Nat.le_of_lt J)));have R:=Ab (j.o.below q (Nl _))
 have N:Hid (RdS z A n 2 (Gz (Ei x.c))):=Ab (by
  obtain⟨Y,c',S,_,_,O⟩:=RdS.of_own (show z.ownsRow W1.heap.size 93 2 (.slice A n k) (Ei x.c).length (Gz (Ei x.c)) from D);injection S with e1 e2 _
  rw[e1,e2];exact O)
 have I:Hid (Rd z B (x.c.max+1) (zvs (atF x.c.max (Av x.c)))):=Ab (by
  obtain⟨Y,c',S,_,_,O⟩:=Rd.of_own (show z.ownsRow W1.heap.size 3 1 (.slice B (x.c.max+1) d) (x.c.max+1) (zvs (atF x.c.max (Av x.c))) from E);injection S with e1 e2 _
  rw[e1];exact O)
 clear U F X D E q M j Z s1 s2 s3 s4 s5 s6 s7 s8;dsimp only[sv];go_wp2;go_ret;have r:=(Below.refl z.heap.size z).alloc (Nl _) (.cells #[.int .i64 x.c.max,.slice v.ins.A v.ins.n v.ins.c,.slice v.lat.A v.lat.n v.lat.c,.slice v.outs.A v.outs.n v.outs.c,.slice v.bads.A v.bads.n v.bads.c,.slice v.cons.A v.cons.n v.cons.c,.slice v.gat.A v.gat.n v.gat.c,.slice v.sym.A v.sym.n v.sym.c,.string v.com,.slice A n k,.slice B (x.c.max+1) d] 95)
 exact⟨z.heap.size,⟨A,n,k⟩,⟨B,x.c.max+1,d⟩,rfl,⟨Blk.new z _ _,R.o.below r (Nl _),N.o.below r (Nl _),I.o.below r (Nl _),rfl⟩,y.o.trans (r.mono y.o.size)⟩
def Kj (c:Cir) (s:List Bool) (rows:List (List Bool)):Nat->List Bool
 |0=>s
 |k+1=>Is c (Kj c s rows k) (rows.getD k [])
theorem Ace (c:Cir) (s i:List Bool) (r:List (List Bool)):∀ k,Kj c s (i::r) (k+1)=Kj c (Is c s i) r k
 |0=>rfl
 |k+1=>by
  show Is c (Kj c s (i::r) (k+1)) ((i::r).getD (k+1) [])=Is c (Kj c (Is c s i) r k) (r.getD k [])
  rw[Ace c s i r k];rfl
theorem Zy (c:Cir):∀ (rows:List (List Bool)) (s:List Bool),Hz c s rows=(List.range rows.length).map (Kj c s rows)
 | [],s=>rfl
 |i::r,s=>by
  show s::Hz c (Is c s i) r=_
  rw[Zy c r,List.length_cons,List.range_succ_eq_map,List.map_cons,List.map_map]
  congr 1
  apply List.map_congr_left
  intro k _
  exact(Ace c s i r k).symm
theorem Ty {c:Cir} {rows:List (List Bool)} {s:List Bool} {k:Nat} (hk:k<rows.length):(Hz c s rows).getD k []=Kj c s rows k:=by
 rw[Zy,List.getD_eq_getElem?_getD,List.getElem?_map,List.getElem?_range hk];rfl
structure RdR (W:World) (S:Sl) (l:List (List Bool)):Prop where
 n:S.n=l.length
 len:S.n<=1000000
 all:∃ ss:List Sl,Rd W S.A S.n (ss.map sv)/\∀(k:Nat) (s:Sl) (r:List Bool),ss[k]?=some s->l[k]?=some r->RdB W s r
theorem RdR.below {W W':World} {S:Sl} {l:List (List Bool)} (h:RdR W S l) (hb:Below W.heap.size W W'):RdR W' S l:=by
 obtain⟨p,h2,y,q,x⟩:=h
 exact⟨p,h2,y,q.below hb (Nl _),λk s r j m=>(x k s r j m).below hb⟩
structure StM (c:Cir) (s:List Bool) (rows:List (List Bool)) (B:Nat) (W:World) (u:Value) (k:Nat) (ss:List Sl) (cu:Sl):Prop where
 o:W.ownsRow B 22 1 u k (ss.map sv)
 all:∀ (j:Nat) (t:Sl),ss[j]?=some t->W.ownsRow B 4 1 (sv t) (Kj c s rows j).length (bvs (Kj c s rows j))
 cur:W.ownsRow B 4 1 (sv cu) (Kj c s rows k).length (bvs (Kj c s rows k))
theorem StM.len {c:Cir} {s:List Bool} {rows:List (List Bool)} {B k:Nat} {W:World} {u:Value} {ss:List Sl} {cu:Sl} (h:StM c s rows B W u k ss cu):ss.length=k:=by
 have:=h.o.1
 simpa using this
theorem StM.after {c:Cir} {s:List Bool} {rows:List (List Bool)} {B k:Nat} {W W':World} {u:Value} {ss:List Sl} {cu:Sl} (h:StM c s rows B W u k ss cu) (hb:Below W.heap.size W W'):StM c s rows B W' u k ss cu:=
 ⟨Au h.o hb,λj t e=>Au (h.all j t e) hb,Au h.cur hb⟩
theorem StM.push {c:Cir} {s:List Bool} {rows:List (List Bool)} {B k:Nat} {W W':World} {o:Obj} {u u':Value} {ss:List Sl} {cu:Sl} (h:StM c s rows B W u k ss cu)
  (hown:W'.ownsRow B 22 1 u' (k+1) (ss.map sv++ [sv cu])) (hg:(W.alloc o).grownBy W' u.ownBlock):
  W'.ownsRow B 22 1 u' (k+1) ((ss++ [cu]).map sv)/\(∀(j:Nat) (t:Sl),(ss++ [cu])[j]?=some t->W'.ownsRow B 4 1 (sv t) (Kj c s rows j).length (bvs (Kj c s rows j))):=by
 have y:=h.len
 have l:∀ (t:Sl) (r:List Bool),W.ownsRow B 4 1 (sv t) r.length (bvs r)->W'.ownsRow B 4 1 (sv t) r.length (bvs r):=λt r x=>
  (x.alloc o).kept hg (Eg (x.alloc o) (h.o.alloc o) (by decide))
 refine⟨by rw[List.map_append];exact hown,λj t e=>?_⟩
 rcases Nat.lt_or_ge j ss.length with m|m
 ·rw[List.getElem?_append_left m]at e;exact l t _ (h.all j t e)
 rw[List.getElem?_append_right m]at e
 have p:j-ss.length=0:=by
  have:=(List.getElem?_eq_some_iff.1 e).1
  simp at this;omega
 rw[p]at e;have e:cu=t:=Option.some.inj e
 have q:j=k:=by omega
 subst e q;exact l cu _ h.cur
theorem Aci:(Tryz.prog.info? 22).map (λi=>(i.zero,i.size,i.bytes))=some (some (.slice none 0 0),1,24):=by kernel_rfl
structure Tn (w:World) (g:Nat) (v:Cv) (x:Bp) (sn sa St In:Sl) (W:World):Prop where
 box:Blk W w.heap.size 25 #[.slice St.A St.n St.c,.slice In.A In.n In.c]
 m:Gr W g v x sn sa
 bel:Below w.heap.size w W
theorem Tn.after {w W W':World} {g:Nat} {v:Cv} {x:Bp} {sn sa St In:Sl} (h:Tn w g v x sn sa St In W) (hb:Below W.heap.size W W'):Tn w g v x sn sa St In W':=
 ⟨h.box.below hb h.box.lt,h.m.below hb,h.bel.trans (hb.mono h.bel.size)⟩
theorem Rs (W:World) (B:Nat) (e:TypeId) (h:B<=W.heap.size):∃ W',W.alloc (.cells #[] e)=W'/\W'.ownsRow B e 1 (.slice (some ⟨W.heap.size,0,none⟩) 0 0) 0 []/\Below W.heap.size W W':=
 ⟨_,rfl,Fq _ _ _ _ h,(Below.refl _ _).alloc (Nl _) _⟩
def Rm (c:Cir) (s:List Bool) (rows:List (List Bool)) (w:World) (e:Ending) (w':World):Prop:=
 ∃(u:Sl) (ss:List Sl),e= .returned (sv u)/\u.n=rows.length/\w'.ownsRow w.heap.size 22 1 (sv u) rows.length (ss.map sv)/\(∀(j:Nat) (t:Sl),ss[j]?=some t->w'.ownsRow w.heap.size 4 1 (sv t) (Kj c s rows j).length (bvs (Kj c s rows j)))/\Below w.heap.size w w'
theorem Adf {W:World} {B:Nat} {s:Sl} {l:List Bool} (h:W.ownsRow B 4 1 (sv s) l.length (bvs l)):RdB W s l:=by
 obtain⟨r,c',q,m,j,p⟩:=Rd.of_own h;injection q with e1 e2 e3;refine⟨by rw[e1,e2];exact p,by rw[e2];exact Nat.le_trans m j⟩
theorem Amb (g:Nat) (v:Cv) (x:Bp) (sn sa St In:Sl) (s:List Bool) (rows:List (List Bool)) (w:World) (hM:Gr w g v x sn sa) (hg:Ag x.c) (hf:Qf x) (hs:RdB w St s) (hi:RdR w In rows):
  Calls Tryz.prog 38 #[.pointer (some ⟨g,0,none⟩),.agg #[sv St,sv In]] w (Rm x.c (brought s x.c.lat.length) rows w):=by
 have aE:=hM.rd.nLat;have bL:=hf.lat;obtain⟨⟨A2,M2,C2⟩,bE⟩:∃ s,v.lat=s:=⟨_,rfl⟩;have bJ:=Ab (λ(W:World) (hM:Gr W g v x sn sa)=>show W.cell? ⟨g,2,none⟩=some (.slice A2 M2 C2) from by have:=hM.c2;rw[bE]at this;exact this);rw[bE]at aE;replace aE:M2=x.c.lat.length:=aE
 have bM:(M2:Int)<=60:=by omega
 have aW:=Ab (λ(W:World) (hb:Below w.heap.size w W)=>Rb St.A St.n St.c s M2 W (hs.below hb).rd hs.len (by omega));rw[<-aE];obtain⟨s0,bD⟩:∃ s0,brought s M2=s0:=⟨_,rfl⟩;rw[bD]at aW ⊢;have bG:=Ab (λ(W:World) (hb:Below w.heap.size w W)=>hM.below hb);have aU:=Ab (λ(W:World) (hb:Below w.heap.size w W)=>hi.below hb);have bH:=Ab (λ(W:World) (hm:Gr W g v x sn sa) (S I:Sl) (a b:List Bool) (h1:RdB W S a) (h2:RdB W I b)=>AoO g v x sn sa S I a b W hm hg hf h1 h2);have hn:=hi.n;have bN:=hi.len;obtain⟨W1,aV,q1,aY⟩:=Bb w #[.slice St.A St.n St.c,.slice In.A In.n In.c] 25;have bK:=Ab (show Tn w g v x sn sa St In W1 from⟨q1,hM.below aY,aY⟩);replace aV:=Ab aV;replace bD:=Ab bD;replace aE:=Ab aE;clear hM hs hi q1 aY bE bL hf;obtain⟨SA,Sn,Sc⟩:=St;obtain⟨IA,p,Ic⟩:=In;dsimp only[sv]at*
 have bO:(p:Int)<=1000000:=by omega
 replace hn:=Ab hn
 go_enter Tryz.func38,Tryz.ntmps38
 go_upto_region 1 with fail
 rw[aV.o];clear aV;have bF:=Ab (bK.o.after ((Dr.refl W1).drew.below _));refine wp_region_held_drew (S:=λW'=>Hid (Tn w g v x sn sa ⟨SA,Sn,Sc⟩ ⟨IA,p,Ic⟩ W')) (by kernel_rfl) (bF) (λl=>?_);generalize W1.drew=W0 at*;refine tk 1 (h:=tk 2 (hy:=by intro wz aK;(try dsimp only at aK);have bP:wz.cell? ⟨w.heap.size,0,none⟩=some (.slice SA Sn Sc):=aK.o.box.cell 0;go_simp;(try with_reducible rfl)) (h:=tk 3 (h:=tk 4 (h:=tk 5 (h:=tk 6 (h:=tk 7 (hy:=by intro wz aK;(try dsimp only at aK);have bQ:=bJ.o wz aK.o.m;go_simp;(try with_reducible rfl)) (h:=tk 8 (h:=?_))))))));refine wpAnyH_ready (rs:=[0,9]) (by kernel_rfl) (by simp) ?_;refine AllReadyH.cons rfl (λK hK=>?_) (AllReadyH.cons rfl (λK hK=>?_) AllReadyH.nil)
 ·
  go_simp
  first
   |(obtain⟨Wo,X,M,Y⟩:=Rs W0 w.heap.size 22 l.o.bel.size;rw[X])
   |(obtain⟨Wo,X,M,Y⟩:=Rs w9 w.heap.size 22 l.o.bel.size;rw[X])
  replace M:=Ab M
  try replace hC:=Ab (Au hC.o Y)
  replace l:=Ab (l.o.after Y);refine hK.o _ _ (l) (λl=>?_);clear hK K
  try simp only[Act.put,pt]
  refine rd1 9 λK hK=>?_;go_simp;refine(aW.o _ l.o.bel).mono ?_;rintro e w9 ⟨⟨cA,cN,cC⟩,rfl,bA,aZ,aN⟩;clear bA;have hC:=Ab (Az aZ l.o.bel.size)
  try replace M:=Ab (Au M.o aN)
  replace l:=Ab (l.o.after aN);refine hK.o _ _ (l) (λl=>?_);refine tk 10 (h:=tk 11 (h:=?_));refine wpAnyH_done (by kernel_rfl) ?_ _;have aL:Hid (Tn w g v x sn sa ⟨SA,Sn,Sc⟩ ⟨IA,p,Ic⟩ _/\∃ss cu,(.slice cA cN cC:Value)=sv cu/\StM x.c s0 rows w.heap.size _ _ 0 ss cu):=Ab ⟨l.o,[],⟨cA,cN,cC⟩,rfl,M.o,λj t e=>(by simp at e),hC.o⟩;clear l M hC
  go_upto_region 3 with fail
  go_loopw [5,6,7] (λu c6 i wr=>∃ k:Nat,i= .int .i64 k/\k<=p/\Hid (Tn w g v x sn sa ⟨SA,Sn,Sc⟩ ⟨IA,p,Ic⟩ wr/\∃ss cu,c6=sv cu/\StM x.c s0 rows w.heap.size wr u k ss cu)) (λ_ _ i _=>p-(intOf i).toNat)
  case atStart=>exact⟨0,rfl,Nat.zero_le _,aL⟩
  case round=>
   clear aL;obtain⟨k,rfl,hk,hX⟩:=hrel;obtain⟨hH,ss,⟨cA,cN,cC⟩,rfl,O⟩:=hX.o;obtain⟨⟨uA,uN,uC⟩,rfl,aD⟩:=Be O.o;replace aD:k=uN:=aD.symm;subst aD;have c1:wr.cell? ⟨w.heap.size,1,none⟩=some (.slice IA p Ic):=hH.box.cell 1
   by_cases aS:k<p
   ·have aT:(k:Int)<p:=by omega
    have aX:=aU.o wr hH.bel;have aF:=Ab (show k+1<=maxLen by unfold maxLen;omega);have aO:=Ab (show(k+1)*24<=140737488355328 by omega);have R:=Ab O;have aH:=Ab hH;have F:=hH.bel;have q:=O.o;dsimp only[sv]at q;dsimp only[sv];clear O hX aX
    go_upto_region 6 with(at_builtin;refine Ah rfl _ _ _ rfl Tryz.underlying23 Aci rfl (by decide) rfl (by first|rfl|simp[go_sem]) q F (Nl _) (by rfl) (by simp[Value.oneCell']) aF.o aO.o ?_;intro v6 w6 B y aB)
    obtain⟨N,E⟩:=R.o.push B aB;have aP:=E k ⟨cA,cN,cC⟩ (by rw[List.getElem?_append_right (by rw[R.o.len];exact Nl _),R.o.len,Nat.sub_self];rfl);have Z:=((aH.o.box.alloc _).grown aB (Ba q aH.o.box (by decide)));have aI:=Ab (show Tn w g v x sn sa ⟨SA,Sn,Sc⟩ ⟨IA,p,Ic⟩ w6 from⟨Z,bG.o _ y,y⟩);obtain⟨qa,qb,sr,aJ,D⟩:=aU.o w6 y;clear qa qb;obtain⟨ad,⟨rA,rN,rC⟩,hA,_,hx,cy⟩:=aJ.get aS
    have aR:k<rows.length:=by have h0:p=rows.length:=hn.o;omega
    obtain⟨r,aC⟩:∃ r,rows[k]?=some r:=⟨_,List.getElem?_eq_getElem aR⟩;have J:=D k _ r hx aC;have HN:=Ab (bH.o w6 aI.o.m ⟨cA,cN,cC⟩ ⟨rA,rN,rC⟩ _ _ (Adf aP) J);have bC:Hid (rows.getD k []=r):=Ab (by rw[List.getD_eq_getElem?_getD,aC];rfl)
    have bI:w6.cell? ⟨w.heap.size,1,none⟩=some (.slice (some ad) p Ic):=by have h0:=Z.cell 1;rw[show(⟨IA,p,Ic⟩:Sl).A=some ad from hA]at h0;exact h0
    replace N:=Ab N;replace E:=Ab E;replace hA:=Ab hA;have aM:=Ab y;dsimp only[sv]at HN cy;clear aP Z aJ D hx J B aB y q F aF aO aR aC c1 hH
    go_wp2_with (go_at_call 79;refine HN.o.mono ?_;rintro e w7 ⟨⟨dA,dN,dC⟩,rfl,bB,aA,z⟩;clear bB;replace aA:=Ab aA;replace z:=Ab z)
    have U:StM x.c s0 rows w.heap.size w7 v6 (k+1) (ss++ [⟨cA,cN,cC⟩]) ⟨dA,dN,dC⟩:=⟨Au N.o z.o,λj t e=>Au (E.o j t e) z.o,by
     show w7.ownsRow _ _ _ _ (Is x.c (Kj x.c s0 rows k) (rows.getD k [])).length (bvs (Is x.c (Kj x.c s0 rows k) (rows.getD k [])))
     rw[bC.o];exact Az aA.o aM.o.size⟩
    replace U:=Ab U;go_roundw
    case rel=>exact⟨k+1,by go_num,aS,Ab ⟨aI.o.after z.o,_,_,rfl,U.o⟩⟩
    case measure=>simp[intOf];omega
   obtain rfl:p=k:=by omega
   have aT:¬ (p:Int)<p:=by omega
   have aQ:Hid (Rm x.c s0 rows w (.returned (.slice uA p uC)) wr):=Ab ⟨⟨uA,p,uC⟩,ss,rfl,hn.o,by rw[<-hn.o];exact O.o,O.all,hH.bel⟩;clear hX O;dsimp only[sv];go_wp2;go_ret;exact aQ.o
 
 go_simp;refine(aW.o _ l.o.bel).mono ?_;rintro e w9 ⟨⟨cA,cN,cC⟩,rfl,bA,aZ,aN⟩;clear bA;have hC:=Ab (Az aZ l.o.bel.size)
 try replace M:=Ab (Au M.o aN)
 replace l:=Ab (l.o.after aN);refine hK.o _ _ (l) (λl=>?_);clear hK K
 try simp only[Act.put,pt]
 refine rd1 0 λK hK=>?_;go_simp
 first
  |(obtain⟨Wo,X,M,Y⟩:=Rs W0 w.heap.size 22 l.o.bel.size;rw[X])
  |(obtain⟨Wo,X,M,Y⟩:=Rs w9 w.heap.size 22 l.o.bel.size;rw[X])
 replace M:=Ab M
 try replace hC:=Ab (Au hC.o Y)
 replace l:=Ab (l.o.after Y);refine hK.o _ _ (l) (λl=>?_);refine tk 10 (h:=tk 11 (h:=?_));refine wpAnyH_done (by kernel_rfl) ?_ _;have aL:Hid (Tn w g v x sn sa ⟨SA,Sn,Sc⟩ ⟨IA,p,Ic⟩ _/\∃ss cu,(.slice cA cN cC:Value)=sv cu/\StM x.c s0 rows w.heap.size _ _ 0 ss cu):=Ab ⟨l.o,[],⟨cA,cN,cC⟩,rfl,M.o,λj t e=>(by simp at e),hC.o⟩;clear l M hC
 go_upto_region 3 with fail
 go_loopw [5,6,7] (λu c6 i wr=>∃ k:Nat,i= .int .i64 k/\k<=p/\Hid (Tn w g v x sn sa ⟨SA,Sn,Sc⟩ ⟨IA,p,Ic⟩ wr/\∃ss cu,c6=sv cu/\StM x.c s0 rows w.heap.size wr u k ss cu)) (λ_ _ i _=>p-(intOf i).toNat)
 case atStart=>exact⟨0,rfl,Nat.zero_le _,aL⟩
 case round=>
  clear aL;obtain⟨k,rfl,hk,hX⟩:=hrel;obtain⟨hH,ss,⟨cA,cN,cC⟩,rfl,O⟩:=hX.o;obtain⟨⟨uA,uN,uC⟩,rfl,aD⟩:=Be O.o;replace aD:k=uN:=aD.symm;subst aD;have c1:wr.cell? ⟨w.heap.size,1,none⟩=some (.slice IA p Ic):=hH.box.cell 1
  by_cases aS:k<p
  ·have aT:(k:Int)<p:=by omega
   have aX:=aU.o wr hH.bel;have aF:=Ab (show k+1<=maxLen by unfold maxLen;omega);have aO:=Ab (show(k+1)*24<=140737488355328 by omega);have R:=Ab O;have aH:=Ab hH;have F:=hH.bel;have q:=O.o;dsimp only[sv]at q;dsimp only[sv];clear O hX aX
   go_upto_region 6 with(at_builtin;refine Ah rfl _ _ _ rfl Tryz.underlying23 Aci rfl (by decide) rfl (by first|rfl|simp[go_sem]) q F (Nl _) (by rfl) (by simp[Value.oneCell']) aF.o aO.o ?_;intro v6 w6 B y aB)
   obtain⟨N,E⟩:=R.o.push B aB;have aP:=E k ⟨cA,cN,cC⟩ (by rw[List.getElem?_append_right (by rw[R.o.len];exact Nl _),R.o.len,Nat.sub_self];rfl);have Z:=((aH.o.box.alloc _).grown aB (Ba q aH.o.box (by decide)));have aI:=Ab (show Tn w g v x sn sa ⟨SA,Sn,Sc⟩ ⟨IA,p,Ic⟩ w6 from⟨Z,bG.o _ y,y⟩);obtain⟨qa,qb,sr,aJ,D⟩:=aU.o w6 y;clear qa qb;obtain⟨ad,⟨rA,rN,rC⟩,hA,_,hx,cy⟩:=aJ.get aS
   have aR:k<rows.length:=by have h0:p=rows.length:=hn.o;omega
   obtain⟨r,aC⟩:∃ r,rows[k]?=some r:=⟨_,List.getElem?_eq_getElem aR⟩;have J:=D k _ r hx aC;have HN:=Ab (bH.o w6 aI.o.m ⟨cA,cN,cC⟩ ⟨rA,rN,rC⟩ _ _ (Adf aP) J);have bC:Hid (rows.getD k []=r):=Ab (by rw[List.getD_eq_getElem?_getD,aC];rfl)
   have bI:w6.cell? ⟨w.heap.size,1,none⟩=some (.slice (some ad) p Ic):=by have h0:=Z.cell 1;rw[show(⟨IA,p,Ic⟩:Sl).A=some ad from hA]at h0;exact h0
   replace N:=Ab N;replace E:=Ab E;replace hA:=Ab hA;have aM:=Ab y;dsimp only[sv]at HN cy;clear aP Z aJ D hx J B aB y q F aF aO aR aC c1 hH
   go_wp2_with (go_at_call 79;refine HN.o.mono ?_;rintro e w7 ⟨⟨dA,dN,dC⟩,rfl,bB,aA,z⟩;clear bB;replace aA:=Ab aA;replace z:=Ab z)
   have U:StM x.c s0 rows w.heap.size w7 v6 (k+1) (ss++ [⟨cA,cN,cC⟩]) ⟨dA,dN,dC⟩:=⟨Au N.o z.o,λj t e=>Au (E.o j t e) z.o,by
    show w7.ownsRow _ _ _ _ (Is x.c (Kj x.c s0 rows k) (rows.getD k [])).length (bvs (Is x.c (Kj x.c s0 rows k) (rows.getD k [])))
    rw[bC.o];exact Az aA.o aM.o.size⟩
   replace U:=Ab U;go_roundw
   case rel=>exact⟨k+1,by go_num,aS,Ab ⟨aI.o.after z.o,_,_,rfl,U.o⟩⟩
   case measure=>simp[intOf];omega
  obtain rfl:p=k:=by omega
  have aT:¬ (p:Int)<p:=by omega
  have aQ:Hid (Rm x.c s0 rows w (.returned (.slice uA p uC)) wr):=Ab ⟨⟨uA,p,uC⟩,ss,rfl,hn.o,by rw[<-hn.o];exact O.o,O.all,hH.bel⟩;clear hX O;dsimp only[sv];go_wp2;go_ret;exact aQ.o
structure BrH (c:Cir) (s0:List Bool) (rows:List (List Bool)) (w:World) (g:Nat) (v:Cv) (x:Bp) (sn sa St In U:Sl) (W:World):Prop where
 h:Tn w g v x sn sa St In W
 n:U.n=rows.length
 sts:∃ ss:List Sl,Rd W U.A U.n (ss.map sv)/\∀(j:Nat) (t:Sl),ss[j]?=some t->RdB W t (Kj c s0 rows j)
theorem BrH.after {c:Cir} {s0:List Bool} {rows:List (List Bool)} {w:World} {g:Nat} {v:Cv} {x:Bp} {sn sa St In U:Sl} {W W':World} (h:BrH c s0 rows w g v x sn sa St In U W) (hb:Below W.heap.size W W'):BrH c s0 rows w g v x sn sa St In U W':=by
 obtain⟨l,h2,q,m,p⟩:=h
 exact⟨l.after hb,h2,q,m.below hb (Nl _),λj t e=>(p j t e).below hb⟩
theorem Rm.brH {c:Cir} {s0:List Bool} {rows:List (List Bool)} {w W:World} {g:Nat} {v:Cv} {x:Bp} {sn sa St In:Sl} {e:Ending} {W':World} (hH:Tn w g v x sn sa St In W) (h:Rm c s0 rows W e W'):∃ U:Sl,e= .returned (sv U)/\BrH c s0 rows w g v x sn sa St In U W'/\Below W.heap.size W W':=by
 obtain⟨U,z,p,q,m,h2,l⟩:=h;refine⟨U,p,⟨hH.after l,q,z,?_,λj t e=>Adf (h2 j t e)⟩,l⟩;obtain⟨B,c',y,_,_,r⟩:=Rd.of_own m;injection y with e1 e2 _;rw[e1,e2];exact r
theorem BrH.at {c:Cir} {s0:List Bool} {rows:List (List Bool)} {w:World} {g q:Nat} {v:Cv} {x:Bp} {sn sa St In U:Sl} {W:World} (h:BrH c s0 rows w g v x sn sa St In U W) (hi:RdR W In rows) (hq:q<In.n):
  ∃l j r R T,In.A=some l/\U.A=some j/\rows[q]?=some r/\W.cell? (l.add q)=some (sv R)/\W.cell? (j.add q)=some (sv T)/\RdB W R r/\RdB W T (Kj c s0 rows q):=by
 obtain⟨_,h2,X,D,E⟩:=h;obtain⟨N,O,S,J,M⟩:=hi
 have y:q<U.n:=by omega
 obtain⟨l,R,F,_,I,B⟩:=J.get hq;obtain⟨j,T,p,_,z,m⟩:=D.get y
 exact⟨l,j,rows[q]'(by omega),R,T,F,p,List.getElem?_eq_getElem (by omega),B,m,M q R _ I (List.getElem?_eq_getElem (by omega)),E q T z⟩
def Qh (c:Cir) (s0:List Bool) (rows:List (List Bool)) (i:Nat):Bool:=decide ((rows.getD i []).length=c.ins.length)&&Kc c (Kj c s0 rows i) (rows.getD i [])
theorem AcE {c:Cir} {s:List Bool} {rows:List (List Bool)} {prop:Int} {k:Nat} (hk:k<rows.length) (h:Qh c (brought s c.lat.length) rows k=false):Fe c s rows prop=false:=by
 have h2:((List.range rows.length).all λi=>decide ((rows.getD i []).length=c.ins.length)&&Kc c ((Hz c (brought s c.lat.length) rows).getD i []) (rows.getD i []))=false:=by
  rw[List.all_eq_false];refine⟨k,List.mem_range.2 hk,?_⟩;rw[Ty hk]
  show ¬Qh c (brought s c.lat.length) rows k=true
  rw[h];decide
 unfold Fe;rw[h2];simp
theorem Akr {c:Cir} {s:List Bool} {rows:List (List Bool)} {prop:Int} (h1:Gm c s=true) (h0:0<rows.length) (h:((List.range rows.length).all (Qh c (brought s c.lat.length) rows))=true):Fe c s rows prop=Xg c (Kj c (brought s c.lat.length) rows (rows.length-1)) (rows.getD (rows.length-1) []) prop:=by
 have h2:((List.range rows.length).all λi=>decide ((rows.getD i []).length=c.ins.length)&&Kc c ((Hz c (brought s c.lat.length) rows).getD i []) (rows.getD i []))=true:=by
  rw[List.all_eq_true]at h ⊢;intro i hi;rw[Ty (List.mem_range.1 hi)];exact h i hi
 have j:rows.isEmpty=false:=by cases rows with
  |nil=>simp at h0
  |cons _ _=>rfl
 unfold Fe;rw[h2,h1,j,Ty (by omega)];rfl
theorem AeI (g:Nat) (v:Cv) (x:Bp) (sn sa St In:Sl) (s:List Bool) (rows:List (List Bool)) (prop:Int) (w:World) (hM:Gr w g v x sn sa) (hg:Ag x.c) (hf:Qf x) (hcn:x.c.cons.length<=60) (hbn:x.c.bads.length<=60) (hs:RdB w St s) (hi:RdR w In rows):
  Calls Tryz.prog 13 #[.pointer (some ⟨g,0,none⟩),.agg #[sv St,sv In],.int .i64 prop] w λe w'=>e= .returned (.bool (Fe x.c s rows prop))/\Below w.heap.size w w':=by
 have aJ:=Ab (λ(W:World) (hm:Gr W g v x sn sa) (hb:Below w.heap.size w W)=>Amb g v x sn sa St In s rows W hm hg hf (hs.below hb) (hi.below hb));have aI:=Ab (λ(W:World) (hm:Gr W g v x sn sa) (hb:Below w.heap.size w W)=>AlO g v x sn sa St s W hm hf (hs.below hb));have bC:=Ab (λ(W:World) (hm:Gr W g v x sn sa) (S I:Sl) (a b:List Bool) (h1:RdB W S a) (h2:RdB W I b)=>Ann g v x sn sa S I a b W hm hg hf hcn h1 h2);have bB:=Ab (λ(W:World) (hm:Gr W g v x sn sa) (S I:Sl) (a b:List Bool) (h1:RdB W S a) (h2:RdB W I b)=>Apt g v x sn sa S I a b prop W hm hg hf hbn h1 h2);have aL:=Ab (λ(W:World) (hb:Below w.heap.size w W)=>hi.below hb);have hn:=hi.n;have bP:=hi.len;have O:=hM.rd.nIns;have bG:=hf.ins;obtain⟨⟨A1,M1,C1⟩,aH⟩:∃ s,v.ins=s:=⟨_,rfl⟩;have bD:=Ab (λ(W:World) (hM:Gr W g v x sn sa)=>show W.cell? ⟨g,1,none⟩=some (.slice A1 M1 C1) from by have:=hM.c1;rw[aH]at this;exact this);rw[aH]at O;replace O:M1=x.c.ins.length:=O
 have bK:(M1:Int)<=60:=by omega
 replace O:=Ab O;clear bG aH;obtain⟨W1,aC,q1,aE⟩:=Bb w #[.slice St.A St.n St.c,.slice In.A In.n In.c] 25;have D:=Ab (show Tn w g v x sn sa St In W1 from⟨q1,hM.below aE,aE⟩);replace aC:=Ab aC;clear hM hs hi q1 aE hf;obtain⟨SA,Sn,Sc⟩:=St;obtain⟨IA,j,Ic⟩:=In;dsimp only[sv]at*
 have bQ:(j:Int)<=1000000:=by omega
 have c0:W1.cell? ⟨w.heap.size,0,none⟩=some (.slice SA Sn Sc):=D.o.box.cell 0;have c1:W1.cell? ⟨w.heap.size,1,none⟩=some (.slice IA j Ic):=D.o.box.cell 1;have M:=Ab (aI.o W1 D.o.m D.o.bel);replace hn:=Ab hn
 go_enter Tryz.func13,Tryz.ntmps13
 go_upto_region 1 with fail
 rw[aC.o];clear aC
 by_cases F:Gm x.c s=true
 rotate_left
 ·have E:Hid (Fe x.c s rows prop=false):=Ab (by unfold Fe;simp[F])
  have q:Gm x.c s=false:=by simpa using F
  rw[q]at M;clear F q
  go_wp2_with (go_at_call 37;refine M.o.mono ?_;rintro e w2 ⟨rfl,hw⟩;replace hw:=hw.symm;subst hw)
  go_ret
  exact⟨by rw[E.o];rfl,D.o.bel⟩
 rw[F]at M;replace F:=Ab F
 by_cases h0:j=0
 ·subst h0;have aZ:rows= []:=List.length_eq_zero_iff.1 (by have h1:0=rows.length:=hn.o;omega);have E:Hid (Fe x.c s rows prop=false):=Ab (by rw[aZ];unfold Fe;simp);clear aZ
  go_wp2_with (go_at_call 37;refine M.o.mono ?_;rintro e w2 ⟨rfl,hw⟩;replace hw:=hw.symm;subst hw)
  go_ret
  exact⟨by rw[E.o];rfl,D.o.bel⟩
 have bN:¬ (j:Int)=0:=by omega
 go_upto_region 3 with(go_at_call 37;refine M.o.mono ?_;rintro e w2 ⟨rfl,hw⟩;replace hw:=hw.symm;subst hw)
 have aK:=Ab (D.o.after ((Dr.refl W1).drew.below _));clear M aI;refine wp_region_held_drew (S:=λW'=>Hid (Tn w g v x sn sa ⟨SA,Sn,Sc⟩ ⟨IA,j,Ic⟩ W')) (by kernel_rfl) (aK) (λl=>?_);refine tk 0 (h:=tk 1 (hy:=by intro wz R;(try dsimp only at R);have bS:wz.cell? ⟨w.heap.size,0,none⟩=some (.slice SA Sn Sc):=R.o.box.cell 0;have bJ:wz.cell? ⟨w.heap.size,1,none⟩=some (.slice IA j Ic):=R.o.box.cell 1;go_simp;(try with_reducible rfl)) (h:=tk 3 (h:=tk 4 (hy:=by intro wz R;(try dsimp only at R);have bJ:wz.cell? ⟨w.heap.size,1,none⟩=some (.slice IA j Ic):=R.o.box.cell 1;go_simp;(try with_reducible rfl)) (h:=tk 5 (h:=tk 6 (h:=?_))))));refine rd1 2 λK hK=>?_;go_simp;refine(aJ.o _ l.o.m l.o.bel).mono ?_;rintro e w5 aM;obtain⟨⟨UA,UN,UC⟩,rfl,U,bF⟩:=aM.brH l.o;replace U:=Ab U;refine hK.o _ _ (Ab U.o.h) (λl=>?_);refine tk 7 (h:=tk 8 (h:=?_));refine wpAnyH_done (by kernel_rfl) ?_ _;clear l
 have bA:IntKind.i64.wrap ((j:Int)-1)=((j-1:Nat):Int):=by rw[IntWalk.i64_in ((j:Int)-1) (by omega)];omega
 dsimp only[sv];rw[bA];obtain⟨la,X⟩:∃ la,j-1=la:=⟨_,rfl⟩;rw[X];replace X:=Ab X;clear bA aJ c0 c1;have aN:Hid (BrH x.c (brought s x.c.lat.length) rows w g v x sn sa ⟨SA,Sn,Sc⟩ ⟨IA,j,Ic⟩ ⟨UA,UN,UC⟩ w5/\((List.range 0).all (Qh x.c (brought s x.c.lat.length) rows))=true):=Ab ⟨U.o,rfl⟩
 go_upto_region 5 with fail
 go_loopw [9] (λi wr=>∃ k:Nat,i= .int .i64 k/\k<=j/\Hid (BrH x.c (brought s x.c.lat.length) rows w g v x sn sa ⟨SA,Sn,Sc⟩ ⟨IA,j,Ic⟩ ⟨UA,UN,UC⟩ wr/\((List.range k).all (Qh x.c (brought s x.c.lat.length) rows))=true)) (λi _=>j-(intOf i).toNat)
 case atStart=>exact⟨0,rfl,Nat.zero_le _,aN⟩
 case round=>
  clear aN U bF aM;obtain⟨k,rfl,hk,B⟩:=hrel;have c1:wr.cell? ⟨w.heap.size,1,none⟩=some (.slice IA j Ic):=B.o.1.h.box.cell 1
  by_cases aW:k<j
  ·have aX:(k:Int)<j:=by omega
   have Y:j=rows.length:=hn.o;obtain⟨ad,N,r,⟨rA,J,rC⟩,⟨tA,tN,tC⟩,hA,y,aB,cy,z,hr,ht⟩:=B.o.1.at (aL.o wr B.o.1.h.bel) aW;have aF:Hid (rows.getD k []=r):=Ab (by rw[List.getD_eq_getElem?_getD,aB];rfl);have aU:Hid (k<rows.length):=Ab (by omega)
   have q:Hid (Qh x.c (brought s x.c.lat.length) rows k=(decide (J=M1)&&Kc x.c (Kj x.c (brought s x.c.lat.length) rows k) r)):=Ab (by
    have h1:J=r.length:=hr.n;unfold Qh
    rw[aF.o,<-h1,<-O.o])
   replace hA:IA=some ad:=hA;replace y:UA=some N:=y
   have aD:UN=j:=by have h1:UN=rows.length:=B.o.1.n;omega
   have bH:(k:Int)<UN:=by omega
   have cg:=bD.o wr B.o.1.h.m;have HH:=Ab (bC.o wr.drew (B.o.1.h.m.below ((Dr.refl wr).drew.below _)) ⟨tA,tN,tC⟩ ⟨rA,J,rC⟩ _ _ (ht.below ((Dr.refl wr).drew.below _)) (hr.below ((Dr.refl wr).drew.below _)));have aP:=Ab (B.o.1.after ((Dr.refl wr).drew.below _));have aQ:=Ab B.o.2;have bR:Hid (J<=maxLen):=Ab hr.len;rw[hA]at c1;dsimp only[sv]at HH cy z;clear B hr ht aB Y aD;replace hA:=Ab hA;replace y:=Ab y;obtain⟨aA,aT⟩:∃ aA,Kc x.c (Kj x.c (brought s x.c.lat.length) rows k) r=aA:=⟨_,rfl⟩;rw[aT]at HH q;clear aT
   by_cases Z:J=M1
   ·rw[decide_eq_true Z,Bool.true_and]at q;subst Z
    go_upto_region 7 with fail
    rw[y.o];refine wp_region_held_drew (S:=λW'=>W'.cell? ⟨w.heap.size,1,none⟩=some (.slice (some ad) j Ic)/\W'.cell? (ad.add k)=some (.slice rA J rC)/\W'.cell? (N.add k)=some (.slice tA tN tC)/\W'.cell? ⟨g,1,none⟩=some (.slice A1 J C1)) (by kernel_rfl) (⟨c1,cy,z,cg⟩) (λl=>?_);refine tk 0 (h:=tk 1 (h:=tk 2 (h:=tk 3 (h:=tk 4 (h:=tk 5 (h:=tk 6 (h:=tk 7 (h:=tk 8 (h:=tk 9 (h:=tk 10 (h:=tk 11 (h:=tk 12 (h:=tk 13 (h:=tk 14 (h:=tk 15 (h:=tk 16 (h:=tk 17 (h:=tk 18 (h:=tk 19 (h:=tk 20 (h:=tk 21 (h:=tk 22 (h:=tk 23 (h:=?_))))))))))))))))))))))));refine rd1 24 λK hK=>?_;go_simp;refine HH.o.mono ?_;rintro e w6 ⟨rfl,p⟩;replace p:=Ab p;have aO:=Ab (aP.o.after p.o);refine hK.o _ _ (⟨keepCell p.o c1,keepCell p.o cy,keepCell p.o z,keepCell p.o cg⟩) (λl=>?_);refine tk 25 (h:=tk 26 (h:=?_));refine wpAnyH_done (by kernel_rfl) ?_ _;clear l
    cases aA with
    |false=>
     have E:=Ab (AcE (prop:=prop) aU.o q.o);go_wp2;go_ret
     exact⟨by rw[E.o];rfl,aO.o.h.bel⟩
    |true=>
     have bE:=Ab (show _/\((List.range (k+1)).all (Qh x.c (brought s x.c.lat.length) rows))=true from⟨aO.o,by rw[List.range_succ,List.all_append,aQ.o];simp[q.o]⟩);rw[<-y.o];go_wp2;go_roundw
     case rel=>exact⟨k+1,by go_num,aW,bE⟩
     case measure=>simp[intOf];omega
   rw[decide_eq_false Z,Bool.false_and]at q
   have aY:¬ (J:Int)=M1:=by omega
   have bM:decide (J=M1)=false:=decide_eq_false Z
   have bL:((J:Int)==(M1:Int))=false:=by rw[beq_eq_false_iff_ne];exact aY
   have bI:(J==M1)=false:=by rw[beq_eq_false_iff_ne];exact Z
   have E:=Ab (AcE (prop:=prop) aU.o q.o)
   go_upto_region 7 with fail
   rw[y.o];refine wp_region_held_drew (S:=λW'=>W'.cell? ⟨w.heap.size,1,none⟩=some (.slice (some ad) j Ic)/\W'.cell? (ad.add k)=some (.slice rA J rC)/\W'.cell? (N.add k)=some (.slice tA tN tC)/\W'.cell? ⟨g,1,none⟩=some (.slice A1 M1 C1)) (by kernel_rfl) (⟨c1,cy,z,cg⟩) (λl=>?_);refine tk 0 (h:=tk 1 (h:=tk 2 (h:=tk 3 (h:=tk 4 (h:=tk 5 (h:=tk 6 (h:=tk 7 (h:=tk 8 (h:=tk 9 (h:=tk 10 (h:=tk 11 (h:=tk 12 (v:= .bool true) (h:=tk 13 (h:=tn 14 (h:=tn 15 (h:=tn 16 (h:=tn 17 (h:=tn 18 (h:=tn 19 (h:=tn 20 (h:=tn 21 (h:=tn 22 (h:=tn 23 (h:=tn 24 (h:=tn 25 (h:=tk 26 (h:=?_)))))))))))))))))))))))))));refine wpAnyH_done (by kernel_rfl) ?_ _;go_wp2;go_ret
   exact⟨by rw[E.o];rfl,aP.o.h.bel⟩
  obtain rfl:j=k:=by omega
  have aX:¬ (j:Int)<j:=by omega
  have Y:j=rows.length:=hn.o
  have aV:la<j:=by have:=X.o;omega
  have aS:Hid (Fe x.c s rows prop=Xg x.c (Kj x.c (brought s x.c.lat.length) rows la) (rows.getD la []) prop):=Ab (by
   have h1:=Akr (prop:=prop) F.o (by omega:0<rows.length) (by rw[<-Y];exact B.o.2)
   rw[h1,<-Y,X.o])
  obtain⟨ad,N,r,⟨rA,J,rC⟩,⟨tA,tN,tC⟩,hA,y,aB,cy,z,hr,ht⟩:=B.o.1.at (aL.o wr B.o.1.h.bel) aV;have aF:Hid (rows.getD la []=r):=Ab (by rw[List.getD_eq_getElem?_getD,aB];rfl);replace hA:IA=some ad:=hA;replace y:UA=some N:=y
  have bO:(la:Int)<j:=by omega
  have aD:UN=j:=by have h1:UN=rows.length:=B.o.1.n;omega
  have bH:(la:Int)<UN:=by omega
  have HB:=Ab (bB.o wr.drew (B.o.1.h.m.below ((Dr.refl wr).drew.below _)) ⟨tA,tN,tC⟩ ⟨rA,J,rC⟩ _ _ (ht.below ((Dr.refl wr).drew.below _)) (hr.below ((Dr.refl wr).drew.below _)));have aR:=Ab (B.o.1.h.bel.trans (((Dr.refl wr).drew.below wr.heap.size).mono B.o.1.h.bel.size));rw[hA]at c1;rw[y];dsimp only[sv]at HB cy z;clear B hr ht aB Y aV aD
  go_upto_region 9 with fail
  refine wp_region_held_drew (S:=λW'=>W'.cell? ⟨w.heap.size,1,none⟩=some (.slice (some ad) j Ic)/\W'.cell? (ad.add la)=some (.slice rA J rC)/\W'.cell? (N.add la)=some (.slice tA tN tC)) (by kernel_rfl) (⟨c1,cy,z⟩) (λl=>?_);refine tk 0 (h:=tk 1 (h:=tk 2 (h:=tk 3 (h:=tk 4 (h:=tk 5 (h:=tk 6 (h:=tk 7 (h:=tk 8 (h:=tk 9 (h:=tk 10 (h:=?_)))))))))));refine rd1 11 λK hK=>?_;go_simp;refine HB.o.mono ?_;rintro e w6 ⟨rfl,p⟩;replace p:=Ab p;refine hK.o _ _ (⟨keepCell p.o c1,keepCell p.o cy,keepCell p.o z⟩) (λl=>?_);refine tk 12 (h:=?_);refine wpAnyH_done (by kernel_rfl) ?_ _;clear l;go_wp2;go_ret
  exact⟨by rw[aS.o,aF.o];rfl,aR.o.trans (p.o.mono aR.o.size)⟩
end Go.Proofs.YtmidbhnhcbpneaaGreatDoor.Top
end
