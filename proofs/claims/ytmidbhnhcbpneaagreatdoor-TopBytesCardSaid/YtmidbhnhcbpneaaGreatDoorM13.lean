/- A part of the proof. -/
import Derived.Test.YtmidbhnhcbpneaaGreatDoorM3
import Derived.Test.YtmidbhnhcbpneaaGreatDoorM12
import Derived.Test.YtmidbhnhcbpneaaGreatDoorM8
import Derived.Test.YtmidbhnhcbpneaaGreatDoorM1
import Derived.Maps.AppendAt
import Derived.OwnWalk
set_option linter.unusedVariables false
set_option linter.unusedSimpArgs false
set_option maxRecDepth 8000
set_option maxHeartbeats 8000000
section
namespace Go.Proofs.YtmidbhnhcbpneaaGreatDoor.Top
open Go Go.RowKit Go.Lt YtmidbhnhcbpneaaGreatDoor.Lit YtmidbhnhcbpneaaGreatDoor.Dec
open YtmidbhnhcbpneaaGreatDoor.Circ (T3 enc3 RdT Sl Cv Ae)
def Adr (H gs ga n B:Nat) (tv:Value) (tree:List Nat) (w:World) (e:Ending) (w':World):Prop:=
 e= .returned (.tuple #[])/\HpM w' H gs ga n B tv tree/\Fr (λq=>q=ga∨some q=tv.ownBlock) w w'
theorem Ry (H gs ga n B i k:Nat) (tv:Value) (tree:List Nat) (w:World) (hM:HpM w H gs ga n B tv tree) (hi:i<tree.length) (hk:k<tree.length):
  Calls Tryz.prog 118 #[.pointer (some ⟨H,0,none⟩),.int .i64 i,.int .i64 k] w (Adr H gs ga n B tv (Cc tree i k) w):=by
 obtain⟨g,aJ,cs,rfl,cT,hg,aN,dA,cV,R⟩:=hM.row (by omega);obtain⟨aK,ha,aE⟩:=hM.ats;obtain⟨l1,l2,l3⟩:=hM.low;have hw:=hM.len;have aR:=hM.few;obtain⟨vi,X⟩:∃ vi,atH tree i=vi:=⟨_,rfl⟩;obtain⟨vk,Y⟩:∃ vk,atH tree k=vk:=⟨_,rfl⟩;obtain⟨m,hm⟩:∃ m,m=tree.length:=⟨_,rfl⟩
 have cW:(i:Int)<m:=by omega
 have cX:(k:Int)<m:=by omega
 have cY:(m:Int)<=1048576:=by omega
 have c1:w.drew.cell? ⟨H,1,none⟩=some (.slice (some ⟨g,0,none⟩) m aJ):=by rw[hm];exact(hM.box.dr (Dr.refl _).drew).cell 1
 have c2:w.drew.cell? ⟨H,2,none⟩=some (.slice (some ⟨ga,0,none⟩) n n):=(hM.box.dr (Dr.refl _).drew).cell 2
 have ti:w.drew.cell? ⟨g,i,none⟩=some (.int .i64 (vi:Nat)):=by rw[<-X];exact((hg.dr (Dr.refl _).drew).cell i).trans (Ul R hi)
 have tk:w.drew.cell? ⟨g,k,none⟩=some (.int .i64 (vk:Nat)):=by rw[<-Y];exact((hg.dr (Dr.refl _).drew).cell k).trans (Ul R hk)
 have zi:w.drew.frozen? ⟨g,i,none⟩=false:=(hg.dr (Dr.refl _).drew).frozen i;have bk:=((hg.dr (Dr.refl _).drew).set_ i (.int .i64 (vk:Nat)))
 have aI:∃ y,(w.setCell ⟨g,i,none⟩ (.int .i64 (vk:Nat))).cell? ⟨g,k,none⟩=some y:=by
  have:(w.setCell ⟨g,i,none⟩ (.int .i64 (vk:Nat))).cell? ⟨g,k,none⟩=_:=bk.cell k
  rw[Array.getElem?_eq_getElem (by simp;omega)]at this
  exact⟨_,this⟩
 obtain⟨y2,aI⟩:=aI;have aQ:(w.setCell ⟨g,i,none⟩ (.int .i64 (vk:Nat))).frozen? ⟨g,k,none⟩=false:=bk.frozen k;have hs:=Dz tree i k;obtain⟨W1,S⟩:∃ W1,W1=((w.setCell ⟨g,i,none⟩ (.int .i64 (vk:Nat))).setCell ⟨g,k,none⟩ (.int .i64 (vi:Nat))).drew:=⟨_,rfl⟩
 have f1:Fr (λq=>q=g) w W1:=by
  subst S
  exact(((Fr.refl (λq=>q=g) w).drew).set (p:=⟨g,i,none⟩) rfl _).set (p:=⟨g,k,none⟩) rfl _
 have g1:Blk W1 g 3 ((cs.setIfInBounds i (.int .i64 (vk:Nat))).setIfInBounds k (.int .i64 (vi:Nat))):=by
  subst S
  exact((hg.dr (Dr.refl _).drew).set_ i _).set_ k _
 have aH:((cs.setIfInBounds i (.int .i64 (vk:Nat))).setIfInBounds k (.int .i64 (vi:Nat))).toList.take (Cc tree i k).length=nvs (Cc tree i k):=by
  subst X Y;have r1:=Zt (x:=atH tree k) R hi;exact Zt (x:=atH tree i) r1 (by rw[List.length_set];exact hk)
 have aF:=aE.swap hi hk;obtain⟨xi,Z⟩:∃ x,atH (Cc tree i k) i=x:=⟨_,rfl⟩;obtain⟨xk,A⟩:∃ x,atH (Cc tree i k) k=x:=⟨_,rfl⟩
 have aS:xi<n:=by rw[<-Z];exact aF.lt _ (Ia (by omega))
 have aT:xk<n:=by rw[<-A];exact aF.lt _ (Ia (by omega))
 have aO:(xi:Int)<n:=by omega
 have aP:(xk:Int)<n:=by omega
 have cZ:(n:Int)<=1048576:=by omega
 have H1:=f1.blk hM.box (by omega);have A1:=f1.blk ha (by omega)
 have d1:W1.drew.cell? ⟨H,1,none⟩=some (.slice (some ⟨g,0,none⟩) m aJ):=by rw[hm];exact(H1.dr (Dr.refl _).drew).cell 1
 have d2:W1.drew.cell? ⟨H,2,none⟩=some (.slice (some ⟨ga,0,none⟩) n n):=(H1.dr (Dr.refl _).drew).cell 2
 have ui:W1.drew.cell? ⟨g,i,none⟩=some (.int .i64 (xi:Nat)):=by rw[<-Z];exact((g1.dr (Dr.refl _).drew).cell i).trans (Ul aH (by omega))
 have uk:W1.drew.cell? ⟨g,k,none⟩=some (.int .i64 (xk:Nat)):=by rw[<-A];exact((g1.dr (Dr.refl _).drew).cell k).trans (Ul aH (by omega))
 have aM:(ivs aK).toArray.size=n:=by simp[ivs,aE.len]
 have yi:∃ y,W1.drew.cell? ⟨ga,xi,none⟩=some y:=by
  have:=(A1.dr (Dr.refl _).drew).cell xi
  rw[Array.getElem?_eq_getElem (by omega)]at this
  exact⟨_,this⟩
 obtain⟨yi,aA⟩:=yi;have aC:W1.drew.frozen? ⟨ga,xi,none⟩=false:=(A1.dr (Dr.refl _).drew).frozen xi;have ba:=((A1.dr (Dr.refl _).drew).set_ xi (.int .i64 i))
 have yk:∃ y,(W1.setCell ⟨ga,xi,none⟩ (.int .i64 i)).cell? ⟨ga,xk,none⟩=some y:=by
  have:(W1.setCell ⟨ga,xi,none⟩ (.int .i64 i)).cell? ⟨ga,xk,none⟩=_:=ba.cell xk
  rw[Array.getElem?_eq_getElem (by rw[Array.size_setIfInBounds];omega)]at this
  exact⟨_,this⟩
 obtain⟨yk,aB⟩:=yk;have aD:(W1.setCell ⟨ga,xi,none⟩ (.int .i64 i)).frozen? ⟨ga,xk,none⟩=false:=ba.frozen xk;have U:=Ab (λW2 aL=>hM.swap hi hk (W1:=W1) (W2:=W2) (by rw[X,Y];exact S) aL);rw[Z,A]at U;replace X:=Ab X;replace Y:=Ab Y;replace Z:=Ab Z;replace A:=Ab A;replace hm:=Ab hm;replace hs:=Ab hs;replace S:=Ab S;clear hM hg ha bk f1 g1 aH aF H1 A1 ba R aN aM aE;replace d1:=Ab d1;replace d2:=Ab d2;replace ui:=Ab ui;replace uk:=Ab uk;replace aA:=Ab aA;replace aC:=Ab aC;replace aB:=Ab aB;replace aD:=Ab aD
 go_enter Tryz.func118,Tryz.ntmps118
 go_wp2
 apply Cu [_,_,_,_,_,_,_,_,_,_,_,_,_,_,_,_,_,_,_,_,_,_,_,_,_,undef,_,undef] [w.drew,_,_] [some 6,some 7,some 8,some 9,some 10,some 11,some 12,some 13,some 14,some 15,some 16,some 17,some 18,some 19,some 20,some 21,some 22,some 23,some 24,some 25,some 26,some 27,some 28,some 29,some 30,none,some 31,none] (λws D J=>(¬D 25->J=Bc ws 0)/\(D 25->¬D 27->J=Bc ws 1)/\(D 27->J=Bc ws 2)/\True) 28 58 (by kernel_rfl) (by kernel_rfl) rfl rfl rfl (by kernel_rfl)
 case h0=>exact⟨λ_=>rfl,λh=>absurd h (by decide),λh=>absurd h (by decide),trivial⟩
 case hstep=>
  refine⟨⟨⟨⟨⟨⟨⟨⟨⟨⟨⟨⟨⟨⟨⟨⟨⟨⟨⟨⟨⟨⟨⟨⟨⟨⟨⟨⟨trivial,?s0⟩,?s1⟩,?s2⟩,?s3⟩,?s4⟩,?s5⟩,?s6⟩,?s7⟩,?s8⟩,?s9⟩,?s10⟩,?s11⟩,?s12⟩,?s13⟩,?s14⟩,?s15⟩,?s16⟩,?s17⟩,?s18⟩,?s19⟩,?s20⟩,?s21⟩,?s22⟩,?s23⟩,?s24⟩,?s25⟩,?s26⟩,?s27⟩
  case s0|s1|s2=>
   refine Bh (λD w h=>⟨kB h.1,kC h.2.1,kp h.2.2.1,trivial⟩) (λD J O j K E=>?_);have e0:=j.u 0
   try have e6:=j.r 0 6
   try have e7:=j.r 1 7
   go_simp;exact E.o
  case s3=>
   refine fst λD J O j F K E=>?_;obtain⟨I,M,N,_⟩:=hd3 F;clear F;have z:=I.o (λh=>j.new (j.l _ 3 (h)));simp only[Bc]at z;subst z;have e8:=j.r 2 8;go_simp;exact E.o _ ⟨kB I.o,kC M.o,kp N.o,trivial⟩
  case s4|s5|s6|s7=>
   refine Bh (λD w h=>⟨kB h.1,kC h.2.1,kp h.2.2.1,trivial⟩) (λD J O j K E=>?_);have e1:=j.u 1;have e0:=j.u 0
   try have aV:=j.r 5 11
   try have aW:=j.r 6 12
   go_simp;exact E.o
  case s8=>
   refine fst λD J O j F K E=>?_;obtain⟨I,M,N,_⟩:=hd3 F;clear F;have z:=I.o (λh=>j.new (j.l _ 8 (h)));simp only[Bc]at z;subst z;have aX:=j.r 7 13;go_simp;exact E.o _ ⟨kB I.o,kC M.o,kp N.o,trivial⟩
  case s9|s10|s11|s12=>
   refine Bh (λD w h=>⟨kB h.1,kC h.2.1,kp h.2.2.1,trivial⟩) (λD J O j K E=>?_);have e2:=j.u 2;have e0:=j.u 0
   try have bA:=j.r 10 16
   try have bB:=j.r 11 17
   go_simp;exact E.o
  case s13=>
   refine fst λD J O j F K E=>?_;obtain⟨I,M,N,_⟩:=hd3 F;clear F;have z:=I.o (λh=>j.new (j.l _ 13 (h)));simp only[Bc]at z;subst z;have bC:=j.r 12 18;go_simp;exact E.o _ ⟨kB I.o,kC M.o,kp N.o,trivial⟩
  case s14|s15=>
   refine Bh (λD w h=>⟨kB h.1,kC h.2.1,kp h.2.2.1,trivial⟩) (λD J O j K E=>?_);have e2:=j.u 2
   try have bD:=j.r 13 19
   try have bE:=j.r 14 20
   go_simp;exact E.o
  case s16=>
   refine fst λD J O j F K E=>?_;obtain⟨I,M,N,_⟩:=hd3 F;clear F;have z:=I.o (λh=>j.new (j.l _ 16 (h)));simp only[Bc]at z;subst z;have bF:=j.r 15 21;go_simp;exact E.o _ ⟨kB I.o,kC M.o,kp N.o,trivial⟩
  case s17|s18|s19=>
   refine Bh (λD w h=>⟨kB h.1,kC h.2.1,kp h.2.2.1,trivial⟩) (λD J O j K E=>?_);have e0:=j.u 0
   try have bH:=j.r 17 23
   try have bI:=j.r 18 24
   go_simp;exact E.o
  case s20=>
   refine fst λD J O j F K E=>?_;obtain⟨I,M,N,_⟩:=hd3 F;clear F;have z:=I.o (λh=>j.new (j.l _ 20 (h)));simp only[Bc]at z;subst z;have bJ:=j.r 19 25;go_simp;exact E.o _ ⟨kB I.o,kC M.o,kp N.o,trivial⟩
  case s21|s22=>
   refine Bh (λD w h=>⟨kB h.1,kC h.2.1,kp h.2.2.1,trivial⟩) (λD J O j K E=>?_);have e1:=j.u 1
   try have bK:=j.r 20 26
   try have bL:=j.r 21 27
   go_simp;exact E.o
  case s23=>
   refine fst λD J O j F K E=>?_;obtain⟨I,M,N,_⟩:=hd3 F;clear F;have z:=I.o (λh=>j.new (j.l _ 23 (h)));simp only[Bc]at z;subst z;have bM:=j.r 22 28;go_simp;exact E.o _ ⟨kB I.o,kC M.o,kp N.o,trivial⟩
  case s24=>
   refine Bh (λD w h=>⟨kB h.1,kC h.2.1,kp h.2.2.1,trivial⟩) (λD J O j K E=>?_);have e9:=j.r 3 9;have aU:=j.r 4 10;go_simp;exact E.o
  case s25=>
   refine fst λD J O j F K E=>?_;obtain⟨I,M,N,_⟩:=hd3 F;clear F;have z:=I.o (j.new);simp only[Bc]at z;subst z;have bG:=j.r 16 22;have bO:=j.r 24 30;go_simp;exact E.o _ ⟨λh2=>absurd (.inl rfl) h2,λ_ _=>nW1,λh1=>absurd h1 (λe=>e.elim (λe=>absurd e (by decide)) (λe=>(λh=>j.new (j.l _ 25 (h))) e)),trivial⟩
  case s26=>
   refine Bh (λD w h=>⟨kB h.1,kC h.2.1,kp h.2.2.1,trivial⟩) (λD J O j K E=>?_);have aY:=j.r 8 14;have aZ:=j.r 9 15;go_simp;exact E.o
  case s27=>
   refine fst λD J O j F K E=>?_;obtain⟨I,M,N,_⟩:=hd3 F;clear F;have z:=M.o (j.d 25) (j.new);simp only[Bc]at z;subst z;have bN:=j.r 23 29;have bP:=j.r 26 31;go_simp;exact E.o _ ⟨λh2=>absurd (.inr (j.d 25)) h2,λ_ h2=>absurd (.inl rfl) h2,λ_=>nW2,trivial⟩
 case hdone=>
  rintro w8 D hD ⟨I,M,N,_⟩;obtain rfl:=N (hD _);clear hD I M N D;simp only[Bc,Cf,List.setIfInBounds_toArray,List.set_cons_succ,List.set_cons_zero];rw[<-S.o];clear c1 c2 ti tk zi aI aQ;replace d1:=d1.o;replace d2:=d2.o;replace ui:=ui.o;replace uk:=uk.o;replace aA:=aA.o;replace aC:=aC.o;replace aB:=aB.o;replace aD:=aD.o;go_wp2
  apply Cu [_,_,_,_,_,_,_,_,_,_,_,_,_,_,_,_,_,_,_,_,_,_,_,_,_,undef,_,undef] [W1.drew,_,_] [some 32,some 33,some 34,some 35,some 36,some 37,some 38,some 39,some 40,some 41,some 42,some 43,some 44,some 45,some 46,some 47,some 48,some 49,some 50,some 51,some 52,some 53,some 54,some 55,some 56,none,some 57,none] (λws D J=>(¬D 25->J=Bc ws 0)/\(D 25->¬D 27->J=Bc ws 1)/\(D 27->J=Bc ws 2)/\True) 28 58 (by kernel_rfl) (by kernel_rfl) rfl rfl rfl (by kernel_rfl)
  case h0=>exact⟨λ_=>rfl,λh=>absurd h (by decide),λh=>absurd h (by decide),trivial⟩
  case hstep=>
   refine⟨⟨⟨⟨⟨⟨⟨⟨⟨⟨⟨⟨⟨⟨⟨⟨⟨⟨⟨⟨⟨⟨⟨⟨⟨⟨⟨⟨trivial,?s0⟩,?s1⟩,?s2⟩,?s3⟩,?s4⟩,?s5⟩,?s6⟩,?s7⟩,?s8⟩,?s9⟩,?s10⟩,?s11⟩,?s12⟩,?s13⟩,?s14⟩,?s15⟩,?s16⟩,?s17⟩,?s18⟩,?s19⟩,?s20⟩,?s21⟩,?s22⟩,?s23⟩,?s24⟩,?s25⟩,?s26⟩,?s27⟩
   case s0|s1|s2=>
    refine Bh (λD w h=>⟨kB h.1,kC h.2.1,kp h.2.2.1,trivial⟩) (λD J O j K E=>?_);have e0:=j.u 0
    try have bQ:=j.r 0 32
    try have bR:=j.r 1 33
    go_simp;exact E.o
   case s3=>
    refine fst λD J O j F K E=>?_;obtain⟨I,M,N,_⟩:=hd3 F;clear F;have z:=I.o (λh=>j.new (j.l _ 3 (h)));simp only[Bc]at z;subst z;have bS:=j.r 2 34;go_simp;exact E.o _ ⟨kB I.o,kC M.o,kp N.o,trivial⟩
   case s4|s5|s6=>
    refine Bh (λD w h=>⟨kB h.1,kC h.2.1,kp h.2.2.1,trivial⟩) (λD J O j K E=>?_);have e0:=j.u 0
    try have bU:=j.r 4 36
    try have bV:=j.r 5 37
    go_simp;exact E.o
   case s7=>
    refine fst λD J O j F K E=>?_;obtain⟨I,M,N,_⟩:=hd3 F;clear F;have z:=I.o (λh=>j.new (j.l _ 7 (h)));simp only[Bc]at z;subst z;have bW:=j.r 6 38;go_simp;exact E.o _ ⟨kB I.o,kC M.o,kp N.o,trivial⟩
   case s8|s9=>
    refine Bh (λD w h=>⟨kB h.1,kC h.2.1,kp h.2.2.1,trivial⟩) (λD J O j K E=>?_);have e1:=j.u 1
    try have bX:=j.r 7 39
    try have bY:=j.r 8 40
    go_simp;exact E.o
   case s10=>
    refine fst λD J O j F K E=>?_;obtain⟨I,M,N,_⟩:=hd3 F;clear F;have z:=I.o (λh=>j.new (j.l _ 10 (h)));simp only[Bc]at z;subst z;have bZ:=j.r 9 41;go_simp;exact E.o _ ⟨kB I.o,kC M.o,kp N.o,trivial⟩
   case s11|s12|s13=>
    refine Bh (λD w h=>⟨kB h.1,kC h.2.1,kp h.2.2.1,trivial⟩) (λD J O j K E=>?_);have e0:=j.u 0
    try have cB:=j.r 11 43
    try have cC:=j.r 12 44
    go_simp;exact E.o
   case s14=>
    refine fst λD J O j F K E=>?_;obtain⟨I,M,N,_⟩:=hd3 F;clear F;have z:=I.o (λh=>j.new (j.l _ 14 (h)));simp only[Bc]at z;subst z;have cE:=j.r 13 45;go_simp;exact E.o _ ⟨kB I.o,kC M.o,kp N.o,trivial⟩
   case s15|s16|s17=>
    refine Bh (λD w h=>⟨kB h.1,kC h.2.1,kp h.2.2.1,trivial⟩) (λD J O j K E=>?_);have e0:=j.u 0
    try have cG:=j.r 15 47
    try have cH:=j.r 16 48
    go_simp;exact E.o
   case s18=>
    refine fst λD J O j F K E=>?_;obtain⟨I,M,N,_⟩:=hd3 F;clear F;have z:=I.o (λh=>j.new (j.l _ 18 (h)));simp only[Bc]at z;subst z;have cJ:=j.r 17 49;go_simp;exact E.o _ ⟨kB I.o,kC M.o,kp N.o,trivial⟩
   case s19|s20=>
    refine Bh (λD w h=>⟨kB h.1,kC h.2.1,kp h.2.2.1,trivial⟩) (λD J O j K E=>?_);have e2:=j.u 2
    try have cK:=j.r 18 50
    try have cL:=j.r 19 51
    go_simp;exact E.o
   case s21=>
    refine fst λD J O j F K E=>?_;obtain⟨I,M,N,_⟩:=hd3 F;clear F;have z:=I.o (λh=>j.new (j.l _ 21 (h)));simp only[Bc]at z;subst z;have cM:=j.r 20 52;go_simp;exact E.o _ ⟨kB I.o,kC M.o,kp N.o,trivial⟩
   case s22|s23|s24=>
    refine Bh (λD w h=>⟨kB h.1,kC h.2.1,kp h.2.2.1,trivial⟩) (λD J O j K E=>?_);have e1:=j.u 1;have e2:=j.u 2
    try have bT:=j.r 3 35
    try have cA:=j.r 10 42
    go_simp;exact E.o
   case s25=>
    refine fst λD J O j F K E=>?_;obtain⟨I,M,N,_⟩:=hd3 F;clear F;have z:=I.o (j.new);simp only[Bc]at z;subst z;have cO:=j.r 22 54;have cQ:=j.r 24 56;go_simp;exact E.o _ ⟨λh2=>absurd (.inl rfl) h2,λ_ _=>nW1,λh1=>absurd h1 (λe=>e.elim (λe=>absurd e (by decide)) (λe=>(λh=>j.new (j.l _ 25 (h))) e)),trivial⟩
   case s26=>
    refine Bh (λD w h=>⟨kB h.1,kC h.2.1,kp h.2.2.1,trivial⟩) (λD J O j K E=>?_);have cF:=j.r 14 46;have cN:=j.r 21 53;go_simp;exact E.o
   case s27=>
    refine fst λD J O j F K E=>?_;obtain⟨I,M,N,_⟩:=hd3 F;clear F;have z:=M.o (j.d 25) (j.new);simp only[Bc]at z;subst z;have cP:=j.r 23 55;have cS:=j.r 26 57;go_simp;exact E.o _ ⟨λh2=>absurd (.inr (j.d 25)) h2,λ_ h2=>absurd (.inl rfl) h2,λ_=>nW2,trivial⟩
  case hdone=>
   rintro w9 D hD ⟨I,M,N,_⟩;obtain rfl:=N (hD _);clear hD I M N D;simp only[Bc,Cf,List.setIfInBounds_toArray,List.set_cons_succ,List.set_cons_zero];have hE:=U.o;clear U d1 d2 ui uk aA aC aB aD;obtain⟨e1,e2⟩:=hE _ rfl;refine bodyPost_end (results_none rfl _ _ _) rfl ?_
   exact⟨rfl,e1,e2.more (λq _ hq=>hq.elim .inl (λe=> .inr (by rw[e];rfl)))⟩
structure UpM (H gs ga n B:Nat) (tv:Value) (goal:List Nat) (w:World) (t:List Nat) (j:Nat) (W:World):Prop where
 hp:HpM W H gs ga n B tv t
 lt:j<t.length
 up:upH t j=goal
 fr:Fr (λq=>q=ga∨some q=tv.ownBlock) w W
theorem UpM.next {H gs ga n B:Nat} {tv:Value} {goal:List Nat} {w W W1 W':World} {t:List Nat} {j:Nat} (h:UpM H gs ga n B tv goal w t j W) (h0:0<j) (hlt:atH t j<atH t ((j-1)/2)) (hd:Dr W W1) (hp:HpM W' H gs ga n B tv (Cc t j ((j-1)/2))) (hf:Fr (λq=>q=ga∨some q=tv.ownBlock) W1 W'):
  UpM H gs ga n B tv goal w (Cc t j ((j-1)/2)) ((j-1)/2) W':=by
 refine⟨hp,by rw[Dz];have:=h.lt;omega,?_,(h.fr.thenB (hd.below _)).trans hf⟩;rw[<-h.up]
 conv=>rhs;unfold upH
 rw[dif_pos ⟨h0,hlt⟩]
theorem Aft {t:List Nat} {j:Nat} (h:¬ (0<j/\atH t j<atH t ((j-1)/2))):upH t j=t:=by unfold upH;rw[dif_neg h]
theorem Tz {W:World} {H gs ga n B:Nat} {tv:Value} {t:List Nat} (h:HpM W H gs ga n B tv t) (hne:0<t.length):∃ g l,tv= .slice (some ⟨g,0,none⟩) t.length l/\t.length<=l/\l<=maxLen/\∀j,j<t.length->W.cell? ⟨g,j,none⟩=some (.int .i64 (atH t j:Nat)):=by
 obtain⟨g,l,y,p,_,r,_,h2,q,m⟩:=h.row hne
 exact⟨g,l,p,h2,q,λj x=>(r.cell j).trans (Ul m x)⟩
theorem Afu (i a:Nat) (ha:a=(i-1)/2):((i:Int)-1).tdiv 2=a:=by
 by_cases j:i=0
 ·subst j;subst ha;rfl
 rw[Int.tdiv_eq_ediv_of_nonneg (by omega)];omega
theorem AnM (H gs ga n B i:Nat) (tv:Value) (tree:List Nat) (w:World) (hM:HpM w H gs ga n B tv tree) (hi:i<tree.length):
  Calls Tryz.prog 116 #[.pointer (some ⟨H,0,none⟩),.int .i64 i] w (Adr H gs ga n B tv (upH tree i) w):=by
 have aB:Hid (UpM H gs ga n B tv (upH tree i) w tree i w):=Ab ⟨hM,hi,rfl,Fr.refl _ _⟩
 have aO:(i:Int)<1048576:=by have:=hM.len;have:=hM.few;omega
 clear hM hi;generalize upH tree i=J at*;obtain⟨a,r⟩:∃ a:Nat,a=(i-1)/2:=⟨_,rfl⟩;have R:=Afu i a r
 have aL:(a:Int)<1048576:=by omega
 replace r:=Ab r
 go_enter Tryz.func116,Tryz.ntmps116
 go_wp2;clear R
 go_loopw [1,4] (λx y wr=>∃ j a:Nat,x= .int .i64 j/\y= .int .i64 a/\Hid (a=(j-1)/2)/\Hid (∃t,UpM H gs ga n B tv J w t j wr)) (λx _ _=>(intOf x).toNat)
 case atStart=>exact⟨i,a,rfl,rfl,r,Ab ⟨tree,aB.o⟩⟩
 case round=>
  obtain⟨j,a,rfl,rfl,r,l⟩:=hrel;obtain⟨t,l⟩:=l.o;replace l:=Ab l;have aI:=l.o.hp.len;have aH:=l.o.hp.few;have E:=l.o.lt
  by_cases h0:j=0
  ·subst h0;have p:=Ab ((Aft (t:=t) (j:=0) (λh=>absurd h.1 (by omega))).symm.trans l.o.up);go_wp2
   go_quiet (fail)
   go_wp2;refine bodyPost_end (results_none rfl _ _ _) rfl ?_;rw[<-p.o]
   exact⟨rfl,l.o.hp.dr ⟨_,rfl⟩,l.o.fr.thenB (Dr.below ⟨_,rfl⟩ _)⟩
  have aJ:(j:Int)>0:=by omega
  have M:0<j:=by omega
  have aK:decide (0<j)=true:=decide_eq_true M;obtain⟨g,aA,rfl,aM,aN,m⟩:=Tz l.o.hp (by omega)
  have D:a<t.length:=by have:=r.o;omega
  have R:(a:Int)<t.length:=by omega
  have aP:(j:Int)<t.length:=by omega
  have aQ:(t.length:Int)<=1048576:=by omega
  have cj:=m j E;have ca:=m a D;have c1:=l.o.hp.box.cell 1;have N:=Ab (λk=>heap_ahead H gs n (.slice (some ⟨g,0,none⟩) t.length aA) (.slice (some ⟨ga,0,none⟩) n n) (atH t j) (atH t a) (wr.drewN k) (l.o.hp.box.dr ⟨k,rfl⟩) (l.o.hp.dr ⟨k,rfl⟩).score (l.o.hp.lt _ (Ia E)) (l.o.hp.lt _ (Ia D)) (by omega));clear m;obtain⟨x,Y⟩:∃ x,atH t j=x:=⟨_,rfl⟩;obtain⟨y,hy⟩:∃ y,atH t a=y:=⟨_,rfl⟩;rw[Y]at cj N;rw[hy]at ca N;obtain⟨A,q⟩:∃ A,decide (x<y)=A:=⟨_,rfl⟩;rw[q]at N;replace Y:=Ab Y;replace hy:=Ab hy;replace q:=Ab q;go_wp2
  go_quiet ((go_at_call 143;exact AeS (N.o _)))
  clear cj ca c1 N
  cases A with
  |false=>
   have U:¬ (0<j/\atH t j<atH t ((j-1)/2)):=λh=>by
    rw[<-r.o,Y.o,hy.o]at h;exact of_decide_eq_false q.o h.2
   have p:=Ab ((Aft U).symm.trans l.o.up);clear U;go_wp2;refine bodyPost_end (results_none rfl _ _ _) rfl ?_;rw[<-p.o]
   exact⟨rfl,l.o.hp.dr ⟨_,rfl⟩,l.o.fr.thenB (Dr.below ⟨_,rfl⟩ _)⟩
  |true=>
   have Z:atH t j<atH t ((j-1)/2):=by
    rw[<-r.o,Y.o,hy.o];exact of_decide_eq_true q.o
   have F:=Ab (λW' hp hf=>l.o.next (W1:=wr.drewN nq) (W':=W') M Z ⟨_,rfl⟩ hp hf);rw[<-r.o]at F;have O:=Ab (Ry H gs ga n B j a _ t (wr.drewN nq) (l.o.hp.dr ⟨_,rfl⟩) E D);obtain⟨I,z⟩:∃ I:Nat,I=(a-1)/2:=⟨_,rfl⟩;have aE:=Afu a I z
   have aD:(I:Int)<1048576:=by omega
   have aF:a<j:=by have:=r.o;omega
   replace z:=Ab z;clear Z
   go_wp2_with fail
   refine O.o.mono ?_;rintro e w5 ⟨rfl,X,S⟩;have aC:=Ab (F.o w5 X S);clear O F X S;go_wp2;go_roundw
   case rel=>exact⟨a,I,rfl,rfl,z,Ab ⟨_,aC.o⟩⟩
   case measure=>simp[intOf];omega
def lowJ (t:List Nat) (i:Nat):Nat->Nat
 |0=>i
 |j+1=>Ij t (lowJ t i j) (2*i+1+j)
theorem AkZ {t:List Nat} {i j:Nat} (h:¬ (j<2/\2*i+1+j<t.length)) (hj:j<=2):lowJ t i j=Hv t i:=by
 have h2:lowJ t i 2=Hv t i:=rfl
 rcases(show j=0∨j=1∨j=2 by omega) with rfl|rfl|rfl
 ·have:Hv t i=i:=by
   unfold Hv
   have m:Ij t i (2*i+1)=i:=by unfold Ij;rw[if_neg (λl=>by omega)]
   rw[m];unfold Ij;rw[if_neg (λl=>by omega)]
  rw[this];rfl
 ·show Ij t i (2*i+1+0)=Hv t i
  unfold Hv
  conv=>rhs;unfold Ij
  rw[if_neg (λl=>by omega)];rfl
 exact h2
theorem Aip {t:List Nat} {i:Nat} (hi:i<t.length):∀ j,lowJ t i j<t.length
 |0=>hi
 |j+1=>by
  show Ij t (lowJ t i j) (2*i+1+j)<_
  rcases Jh t (lowJ t i j) (2*i+1+j) with e|⟨e,h,_⟩<;>rw[e]
  ·exact Aip hi j
  exact h
structure Ta (H gs ga n B:Nat) (tv:Value) (goal:List Nat) (w:World) (t:List Nat) (i:Nat) (W:World):Prop where
 hp:HpM W H gs ga n B tv t
 le:i<=t.length
 down:Qg t i=goal
 fr:Fr (λq=>q=ga∨some q=tv.ownBlock) w W
theorem Ta.dr {H gs ga n B:Nat} {tv:Value} {goal:List Nat} {w W W1:World} {t:List Nat} {i:Nat} (h:Ta H gs ga n B tv goal w t i W) (hd:Dr W W1):Ta H gs ga n B tv goal w t i W1:=⟨h.hp.dr hd,h.le,h.down,h.fr.thenB (hd.below _)⟩
theorem Ta.stop {H gs ga n B:Nat} {tv:Value} {goal:List Nat} {w W:World} {t:List Nat} {i:Nat} (h:Ta H gs ga n B tv goal w t i W) (hl:Hv t i=i):Adr H gs ga n B tv goal w (.returned (.tuple #[])) W:=by
 have j:Qg t i=t:=by unfold Qg;rw[dif_pos hl]
 rw[<-h.down,j]
 exact⟨rfl,h.hp,h.fr⟩
theorem Ta.next {H gs ga n B:Nat} {tv:Value} {goal:List Nat} {w W W':World} {t:List Nat} {i:Nat} (h:Ta H gs ga n B tv goal w t i W) (hl:Hv t i≠i) (hp:HpM W' H gs ga n B tv (Cc t i (Hv t i))) (hf:Fr (λq=>q=ga∨some q=tv.ownBlock) W W'):
  Ta H gs ga n B tv goal w (Cc t i (Hv t i)) (Hv t i) W':=by
 have l:Hv t i<t.length:=by
  rcases Rt t i with e|⟨_,j,_⟩
  ·exact absurd e hl
  exact j
 refine⟨hp,by rw[Dz];omega,?_,h.fr.trans hf⟩;rw[<-h.down]
 conv=>rhs;unfold Qg
 rw[dif_neg hl]
theorem AlQ {t:List Nat} {i:Nat} (hl:Hv t i≠i):i<Hv t i/\Hv t i<t.length:=by
 rcases Rt t i with e|⟨e,j,_⟩
 ·exact absurd e hl
 exact⟨by omega,j⟩
theorem Ake (H gs ga n B i:Nat) (tv:Value) (tree:List Nat) (w:World) (hM:HpM w H gs ga n B tv tree) (hi:i<=tree.length):
  Calls Tryz.prog 119 #[.pointer (some ⟨H,0,none⟩),.int .i64 i] w (Adr H gs ga n B tv (Qg tree i) w):=by
 have aE:Hid (Ta H gs ga n B tv (Qg tree i) w tree i w):=Ab ⟨hM,hi,rfl,Fr.refl _ _⟩;clear hM hi;generalize Qg tree i=aC at*
 go_enter Tryz.func119,Tryz.ntmps119
 go_wp2
 go_loopw [1] (λx wr=>∃ i:Nat,x= .int .i64 i/\Hid (∃t,Ta H gs ga n B tv aC w t i wr)) (λx _=>n-(intOf x).toNat)
 case atStart=>exact⟨i,rfl,Ab ⟨tree,aE.o⟩⟩
 case round=>
  obtain⟨i,rfl,O⟩:=hrel;obtain⟨t,O⟩:=O.o;replace O:=Ab O;have aO:=O.o.hp.len;have aJ:=O.o.hp.few;have aK:=O.o.le
  have aT:(i:Int)<=t.length:=by omega
  have aW:(t.length:Int)<=1048576:=by omega
  obtain⟨wo,aI⟩:∃ wo,wo=wr:=⟨_,rfl⟩;subst aI
  obtain⟨A,cc,aH⟩:∃ A C,tv= .slice A t.length C:=by
   obtain⟨sl,h1,h2⟩:=Be O.o.hp.own
   exact⟨sl.A,sl.c,by rw[h1,<-h2]⟩
  subst aH;go_wp2
  go_loopw [4,5] (λf k wr=>∃ j:Nat,j<=2/\f= .int .i64 (lowJ t i j:Nat)/\k= .int .i64 ((2*i+1+j:Nat):Int)/\Dr wo wr) (λ_ k _=>2*i+3-(intOf k).toNat)
  case atStart=>exact⟨0,by omega,rfl,by go_num,Dr.refl _⟩
  case round=>
   obtain⟨j,hj,rfl,rfl,Y⟩:=hrel;have m:=Ab (O.o.dr Y);have c1:=m.o.hp.box.cell 1
   by_cases R:j<2/\2*i+1+j<t.length
   ·obtain⟨aU,S⟩:=R
    have aF:i<t.length:=by omega
    obtain⟨g,aP,hv,aQ,aR,r⟩:=Tz m.o.hp (by omega);injection hv with hv1 _ hv2;subst hv1 hv2;have Z:=Aip aF j;obtain⟨f,U⟩:∃ f,lowJ t i j=f:=⟨_,rfl⟩;rw[U]at Z ⊢;obtain⟨k,D⟩:∃ k,k=2*i+1+j:=⟨_,rfl⟩;rw[<-D]at S ⊢
    have aN:k<=2*i+2:=by omega
    have aV:(k:Int)<=2*i+2:=by omega
    have aM:(k:Int)<t.length:=by omega
    have aS:(f:Int)<t.length:=by omega
    have ck:=r k S;have cf:=r f Z;have hA:=Ab (λq=>heap_ahead H gs n (.slice (some ⟨g,0,none⟩) t.length cc) (.slice (some ⟨ga,0,none⟩) n n) (atH t k) (atH t f) (wr.drewN q) (m.o.hp.box.dr ⟨q,rfl⟩) (m.o.hp.dr ⟨q,rfl⟩).score (m.o.hp.lt _ (Ia S)) (m.o.hp.lt _ (Ia Z)) (by omega));clear r;have p:=Ab (show lowJ t i (j+1)=if k<t.length/\atH t k<atH t f then k else f by rw[<-U,D];rfl);obtain⟨x,hx⟩:∃ x,atH t k=x:=⟨_,rfl⟩;obtain⟨y,hy⟩:∃ y,atH t f=y:=⟨_,rfl⟩;rw[hx]at ck hA p;rw[hy]at cf hA p;obtain⟨bl,F⟩:∃ bl,decide (x<y)=bl:=⟨_,rfl⟩;rw[F]at hA;replace hx:=Ab hx;replace hy:=Ab hy;replace F:=Ab F;replace U:=Ab U;replace D:=Ab D;go_wp2
    go_quiet ((go_at_call 143;exact AeS (hA.o _)))
    clear ck cf c1 hA
    cases bl with
    |false=>
     have aA:=Ab (p.o.trans (if_neg (λh=>of_decide_eq_false F.o h.2)));go_wp2;go_roundw
     case rel=>exact⟨j+1,by omega,by rw[aA.o],by rw[D.o];go_num,Y.trans ⟨_,rfl⟩⟩
     case measure=>simp[intOf];omega
    |true=>
     have aA:=Ab (p.o.trans (if_pos ⟨S,of_decide_eq_true F.o⟩));go_wp2;go_roundw
     case rel=>exact⟨j+1,by omega,by rw[aA.o],by rw[D.o];go_num,Y.trans ⟨_,rfl⟩⟩
     case measure=>simp[intOf];omega
   have M:=AkZ R hj;obtain⟨f,l⟩:∃ f,Hv t i=f:=⟨_,rfl⟩;rw[M,l];replace l:=Ab l;obtain⟨k,D⟩:∃ k,k=2*i+1+j:=⟨_,rfl⟩;rw[<-D]
   rcases(show(k<=2*i+2/\¬k<t.length)∨¬k<=2*i+2 by omega) with⟨hk1,hk2⟩|hk1
   ·have aD:(k:Int)<=2*i+2:=by omega
    have aL:¬ (k:Int)<t.length:=by omega
    clear R M;replace D:=Ab D
    by_cases hl:f=i
    ·have J:(f:Int)=i:=by omega
     have aB:=Ab (m.o.stop (l.o.trans hl));go_wp2;refine bodyPost_ret (results_none rfl _ _ _) rfl ?_;exact aB.o
    have J:¬ (f:Int)=i:=by omega
    obtain⟨g1,g2⟩:=AlQ (t:=t) (i:=i) (by rw[l.o];exact hl);rw[l.o]at g1 g2;have z:=Ab (λW' hp U=>m.o.next (W':=W') (by rw[l.o];exact hl) hp U);rw[l.o]at z;have E:=Ab (Ry H gs ga n B i f _ t wr m.o.hp (by omega) g2)
    go_wp2_with fail
    refine E.o.mono ?_;rintro e w5 ⟨rfl,N,I⟩;have X:=Ab (z.o w5 N I);clear E z N I;go_wp2;go_roundw
    case rel=>exact⟨f,rfl,Ab ⟨_,X.o⟩⟩
    case measure=>simp[intOf];omega
   have aD:¬ (k:Int)<=2*i+2:=by omega
   clear R M;replace D:=Ab D
   by_cases hl:f=i
   ·have J:(f:Int)=i:=by omega
    have aB:=Ab (m.o.stop (l.o.trans hl));go_wp2;refine bodyPost_ret (results_none rfl _ _ _) rfl ?_;exact aB.o
   have J:¬ (f:Int)=i:=by omega
   obtain⟨g1,g2⟩:=AlQ (t:=t) (i:=i) (by rw[l.o];exact hl);rw[l.o]at g1 g2;have z:=Ab (λW' hp U=>m.o.next (W':=W') (by rw[l.o];exact hl) hp U);rw[l.o]at z;have E:=Ab (Ry H gs ga n B i f _ t wr m.o.hp (by omega) g2)
   go_wp2_with fail
   refine E.o.mono ?_;rintro e w5 ⟨rfl,N,I⟩;have X:=Ab (z.o w5 N I);clear E z N I;go_wp2;go_roundw
   case rel=>exact⟨f,rfl,Ab ⟨_,X.o⟩⟩
   case measure=>simp[intOf];omega
end Go.Proofs.YtmidbhnhcbpneaaGreatDoor.Top
end
section
namespace Go.Lt
open Go.RowKit
section
variable {P:Program} {w w0:World} {base e size bytes n:Nat} {z v:Value} {xs news:List Value}
theorem Nx {ops:Array Oper} {rest:List Oper} {o:Oper} {a:Act} {Q:Exit->Act->World->Prop} (hgd:o.guard=none) (s x:Operand) (t:TypeId)
  (ho:o.op= .call {callee:= .builtin .append,args:= #[s,x],argTypes:= #[t,t]})
  (ht:P.underlying t=some (.slice e)) (hi:(P.info? e).map (λi=>(i.zero,i.size,i.bytes))=some (some z,size,bytes)) (hzs:z.cells.size=size) (hsz:0<size)
  (hs:a.eval s=v) (hx:a.eval x= .slice (some ⟨w.heap.size,0,none⟩) 1 1) (hown:w.ownsRow base e size v n xs) (hb:Below base w0 w) (hbase:base<=w0.heap.size)
  (hl:news.length=size) (h1:∀ u∈news,u.oneCell'=true) (h63:n+1<=maxLen) (hby:(n+1)*bytes<=140737488355328)
  (h:∀ v' m,m.ownsRow base e size v' (n+1) (xs++news)->Below base w0 m->(w.alloc (.cells news.toArray e)).grownBy m v.ownBlock->(v'.ownBlock=v.ownBlock∨v'.ownBlock=some (w.heap.size+1))->wpList P ops Q rest (a.put o.dst v') m):
  wpList P ops Q (o::rest) a (w.alloc (.cells news.toArray e)):=by
 obtain⟨i,q,J,r,y⟩:=info_parts hi;refine wpList_plain hgd λM p=>?_
 have l:∀ j u,news[j]?=some u->(w.alloc (.cells news.toArray e)).cell? ((⟨w.heap.size,0,none⟩:Addr).add j)=some u:=by
  intro j u I
  have:(⟨w.heap.size,0,none⟩:Addr).add j=⟨w.heap.size,j,none⟩:=by unfold Addr.add;split<;>simp_all
  rw[this,World.cell?_alloc_new]
  simpa using I
 obtain⟨v',m,F,h2,B,N,D⟩:=run_append_own_at (P:=P) (w.alloc (.cells news.toArray e)) base t o.type e i z size bytes ht q J r y hzs hsz v n xs (hown.alloc _) ⟨w.heap.size,0,none⟩ 1 1 news (by omega) l h1 h63 hby (by have:=hb.size;simp;omega);rw[World.size_alloc]at D;unfold Oper.wp execOp;simp only[ho,resolve,invoke,builtin,Sem.run_bind,Sem.run_pure,Result.andThen_ok,List.map_toArray,List.map_cons,List.map_nil,hs,hx,F];exact p _ _ (h v' m h2 ((hb.alloc (by have:=hb.size;omega) _).grown B (by have:=hb.size;simp;omega) (λk E=>(hown.lt k E).1)) B D)
end
end Go.Lt
end
section
namespace Go.Proofs.YtmidbhnhcbpneaaGreatDoor.Top
open Go Go.RowKit Go.Lt YtmidbhnhcbpneaaGreatDoor.Lit YtmidbhnhcbpneaaGreatDoor.Dec
open YtmidbhnhcbpneaaGreatDoor.Circ (T3 enc3 RdT Sl Cv Ae)
theorem Aif (t:List Nat) (x:Nat):atH (t++ [x]) t.length=x:=by unfold atH;simp
theorem Aaz.push {tree:List Nat} {n x:Nat} {ats:List Int} (h:Aaz tree n ats) (hx:x<n) (hn:x∉tree):Aaz (tree++ [x]) n (ats.set x (tree.length:Nat)):=by
 refine⟨by simp[h.len],?_,λy hy=>?_,λj B=>?_,λy hy p=>?_⟩
 ·rw[List.nodup_append];refine⟨h.nod,by simp,λa z b m=>?_⟩;rw[List.mem_singleton]at m;subst m;exact λe=>hn (e▸z)
 ·rcases List.mem_append.1 hy with hy|hy
  ·exact h.lt y hy
  rw[List.mem_singleton]at hy;omega
 ·rw[List.length_append,List.length_singleton]at B
  by_cases e:j=tree.length
  ·subst e;rw[Aif,List.getElem?_set,if_pos rfl,if_pos (by rw[h.len];exact hx)]
  have l:j<tree.length:=by omega
  rw[AdR l,List.getElem?_set,if_neg (λq=>hn (by rw[q];exact Ia l))];exact h.pos j l
 have r:y∉tree:=λh2=>p (List.mem_append.2 (.inl h2));have h2:y≠x:=λe=>p (List.mem_append.2 (.inr (by rw[e];exact List.mem_singleton.2 rfl)));rw[List.getElem?_set,if_neg (λe=>h2 e.symm)];exact h.neg y hy r
theorem Aaz.drop {t:List Nat} {n m:Nat} {ats:List Int} (h:Aaz t n ats) (hm:t.length=m+1):Aaz (t.take m) n (ats.set (atH t m) (-1)):=by
 have l:(t.take m).length=m:=by rw[List.length_take];omega
 have p:∀ y,y∈t.take m->y∈t:=λy hy=>List.mem_of_mem_take hy;have r:atH t m<n:=h.lt _ (Ia (by omega));refine⟨by simp[h.len],h.nod.sublist (List.take_sublist _ _),λy hy=>h.lt y (p y hy),λj q=>?_,λy hy D=>?_⟩
 ·rw[l]at q;rw[Aby q,List.getElem?_set,if_neg (λe=>by have:=Adh h.nod (by omega) (by omega) e;omega)];exact h.pos j (by omega)
 rw[List.getElem?_set]
 by_cases e:atH t m=y
 ·rw[if_pos e,if_pos (by rw[h.len];exact r)]
 rw[if_neg e];refine h.neg y hy (λx=>?_);obtain⟨j,q,z⟩:=List.mem_iff_getElem.1 x
 by_cases B:j=m
 ·subst B;exact e (by unfold atH;rw[List.getD_eq_getElem?_getD,List.getElem?_eq_getElem q];exact z)
 refine D ?_;rw[List.mem_take_iff_getElem]
 exact⟨j,by omega,z⟩
section
variable {W W1 W2 W3:World} {H gs ga n B x:Nat} {tv v':Value} {tree:List Nat}
theorem HpM.atNew (h:HpM W H gs ga n B tv tree) (hx:x<n) (hn:x∉tree):W.cell? ⟨ga,x,none⟩=some (.int .i64 (-1))/\W.frozen? ⟨ga,x,none⟩=false:=by
 obtain⟨m,l,j⟩:=h.ats;refine⟨?_,l.frozen x⟩;rw[l.cell x]
 have:=j.neg x hx hn
 simp[ivs,this]
theorem HpM.putIn {o:Obj} (h:HpM W H gs ga n B tv tree) (hx:x<n) (hn:x∉tree) (h1:W1=(W.setCell ⟨ga,x,none⟩ (.int .i64 (tree.length:Nat))).drew) (hown:W2.ownsRow B 3 1 v' (tree.length+1) (nvs tree++ [.int .i64 (x:Nat)])) (hg:(W1.alloc o).grownBy W2 tv.ownBlock)
  (h3:W3=W2.setCell ⟨H,1,none⟩ v'):HpM W3 H gs ga n B v' (tree++ [x])/\Fr (λq=>q=H∨q=ga∨some q=tv.ownBlock) W W3:=by
 obtain⟨j,z,D⟩:=h.ats;obtain⟨F,X,Y⟩:=h.low;have S:H≠ga:=Af h.box z (by decide);have y:gs≠ga:=Af h.sc z (by decide);have r:gs≠H:=Af h.sc h.box (by decide);have A:some H≠tv.ownBlock:=Dw h.own F;have nS:some gs≠tv.ownBlock:=Dw h.own X;have Z:some ga≠tv.ownBlock:=Dw h.own Y
 have R:Fr (λq=>q=H∨q=ga∨some q=tv.ownBlock) W W1:=by
  subst h1
  exact((Fr.refl _ W).set (p:=⟨ga,x,none⟩) (.inr (.inl rfl)) _).drew
 have l:Fr (λq=>some q=tv.ownBlock) (W1.alloc o) W2:=Fr.of_grown hg (λk U=> .inl U.symm);have m:Fr (λq=>q=H∨q=ga∨some q=tv.ownBlock) W W2:=(R.alloc o).trans (l.more (λq _ h=> .inr (.inr h)))
 have E:Fr (λq=>q=H∨q=ga∨some q=tv.ownBlock) W W3:=by
  subst h3;exact m.set (p:=⟨H,1,none⟩) (.inl rfl) _
 have I:Blk W1 ga 3 (ivs (j.set x (tree.length:Nat))).toArray:=by
  subst h1;rw[<-Vx]
  exact(z.set_ _ _).dr (Dr.refl _).drew
 have J:Blk W2 ga 3 (ivs (j.set x (tree.length:Nat))).toArray:=l.blk (I.alloc o) Z
 have M:Blk W3 ga 3 (ivs (j.set x (tree.length:Nat))).toArray:=by
  subst h3;exact J.far (p:=⟨H,1,none⟩) (by simp;omega) _
 have N:Blk W1 H 193 #[.slice (some ⟨gs,0,none⟩) n n,tv,.slice (some ⟨ga,0,none⟩) n n]:=by
  subst h1
  exact(h.box.far (p:=⟨ga,x,none⟩) (by simp;omega) _).dr (Dr.refl _).drew
 have O:Blk W3 H 193 #[.slice (some ⟨gs,0,none⟩) n n,v',.slice (some ⟨ga,0,none⟩) n n]:=by
  subst h3
  exact(l.blk (N.alloc o) A).set_ 1 v'
 refine⟨⟨O,E.blk h.sc (λh=>h.elim r (λh=>h.elim y nS)),?_,⟨_,M,D.push hx hn⟩,h.low,h.few⟩,E⟩;subst h3;rw[List.length_append,List.length_singleton]
 have:W2.ownsRow B 3 1 v' (tree.length+1) (nvs (tree++ [x])):=by unfold nvs;rw[List.map_append];exact hown
 exact ownsRow_setCell_below this F v'
end
theorem AgS (H gs ga n B x:Nat) (tv:Value) (tree:List Nat) (w:World) (hM:HpM w H gs ga n B tv tree) (hx:x<n):
  Calls Tryz.prog 115 #[.pointer (some ⟨H,0,none⟩),.int .i64 x] w λe l=>e= .returned (.bool true)/\w=l:=by
 have m:=hM.box.cell 2;have j:=hM.few
 have p:(x:Int)≥0:=by omega
 have q:(x:Int)<n:=by omega
 clear hM
 go_enter Tryz.func115,Tryz.ntmps115
 go_wp2;go_ret
 exact⟨rfl,rfl⟩
theorem Amx (H gs ga n B:Nat) (tv:Value) (tree:List Nat) (w:World) (hM:HpM w H gs ga n B tv tree):
  Calls Tryz.prog 117 #[.pointer (some ⟨H,0,none⟩)] w λe x=>e= .returned (.int .i64 (tree.length:Nat))/\w=x:=by
 have l:=hM.box.cell 1;obtain⟨q,rfl,j⟩:=Be hM.own
 have r:w.cell? ⟨H,1,none⟩=some (.slice q.A tree.length q.c):=by rw[<-j];exact l
 have p:=hM.len;have m:=hM.few;clear hM l j
 go_enter Tryz.func117,Tryz.ntmps117
 go_wp2;go_ret
 exact⟨rfl,rfl⟩
def Pb (w:World) (v v':Value):Prop:=∀ g,v'.ownBlock=some g->v.ownBlock=some g∨w.heap.size<=g
def Aoy (H gs ga n B:Nat) (tv:Value) (tree:List Nat) (w:World) (e:Ending) (w':World):Prop:=
 e= .returned (.int .i64 0)/\∃tv',HpM w' H gs ga n B tv' tree/\Pb w tv tv'/\Fr (λq=>q=H∨q=ga∨some q=tv.ownBlock) w w'
theorem Acm (H gs ga n B x:Nat) (tv:Value) (tree:List Nat) (w:World) (z:HpM w H gs ga n B tv tree) (hB:B<=w.heap.size) (hx:x<n) (hn:x∉tree):
  Calls Tryz.prog 91 #[.pointer (some ⟨H,0,none⟩),.int .i64 x] w (Aoy H gs ga n B tv (Pd tree x) w):=by
 have E:=Ab (AgS H gs ga n B x tv tree w z hx);have aV:=z.few;have aI:=z.len;obtain⟨aT,aU⟩:=z.atNew hx hn
 obtain⟨A,cc,aS⟩:∃ A C,tv= .slice A tree.length C:=by
  obtain⟨sl,h1,h2⟩:=Be z.own
  exact⟨sl.A,sl.c,by rw[h1,<-h2]⟩
 subst aS;obtain⟨m,J⟩:∃ m,m=tree.length:=⟨_,rfl⟩
 have c1:w.cell? ⟨H,1,none⟩=some (.slice A m cc):=by rw[J];exact z.box.cell 1
 have c2:=z.box.cell 2
 have bL:(x:Int)<n:=by omega
 have bK:(n:Int)<=1048576:=by omega
 have bJ:(m:Int)<=1048576:=by omega
 replace J:=Ab J;replace z:=Ab z;replace hn:=Ab hn
 go_enter Tryz.func91,Tryz.ntmps91
 go_wp2_with fail
 refine E.o.mono ?_;rintro e w1 ⟨rfl,rfl⟩;clear E
 go_wp2_with fail
 apply Cu [_,_,_,_,_,_,_,_,_,_,_,undef] [w.drew,_] [some 19,some 20,some 21,some 22,some 23,some 24,some 25,some 26,some 27,some 28,some 29,none] (λws D Z=>(¬D 11->Z=Bc ws 0)/\(D 11->Z=Bc ws 1)/\True) 12 49 (by kernel_rfl) (by kernel_rfl) rfl rfl rfl (by kernel_rfl)
 case h0=>exact⟨λ_=>rfl,λh=>absurd h (by decide),trivial⟩
 case hstep=>
  refine⟨⟨⟨⟨⟨⟨⟨⟨⟨⟨⟨⟨trivial,?s0⟩,?s1⟩,?s2⟩,?s3⟩,?s4⟩,?s5⟩,?s6⟩,?s7⟩,?s8⟩,?s9⟩,?s10⟩,?s11⟩
  case s0|s1|s2=>
   refine Bh (λD w h=>⟨kB h.1,kp h.2.1,trivial⟩) (λD Z az j K E=>?_);have e0:=j.u 0
   try have aX:=j.r 0 19
   try have aY:=j.r 1 20
   go_simp;exact E.o
  case s3=>
   refine fst λD Z az j R K E=>?_;obtain⟨O,Y,_⟩:=hd2 R;clear R;have y:=O.o (λh=>j.new (j.l _ 3 (h)));simp only[Bc]at y;subst y;have aZ:=j.r 2 21;go_simp;exact E.o _ ⟨kB O.o,kp Y.o,trivial⟩
  case s4|s5|s6|s7=>
   refine Bh (λD w h=>⟨kB h.1,kp h.2.1,trivial⟩) (λD Z az j K E=>?_);have e1:=j.u 1;have e0:=j.u 0
   try have bC:=j.r 5 24
   try have bD:=j.r 6 25
   go_simp;exact E.o
  case s8=>
   refine fst λD Z az j R K E=>?_;obtain⟨O,Y,_⟩:=hd2 R;clear R;have y:=O.o (λh=>j.new (j.l _ 8 (h)));simp only[Bc]at y;subst y;have bE:=j.r 7 26;go_simp;exact E.o _ ⟨kB O.o,kp Y.o,trivial⟩
  case s9=>
   refine fst λD Z az j R K E=>?_;obtain⟨O,Y,_⟩:=hd2 R;clear R;have y:=O.o (λh=>j.new (j.l _ 9 (h)));simp only[Bc]at y;subst y;have bF:=j.r 8 27;go_simp;exact E.o _ ⟨kB O.o,kp Y.o,trivial⟩
  case s10=>
   refine Bh (λD w h=>⟨kB h.1,kp h.2.1,trivial⟩) (λD Z az j K E=>?_);have bA:=j.r 3 22;have bB:=j.r 4 23;go_simp;exact E.o
  case s11=>
   refine fst λD Z az j R K E=>?_;obtain⟨O,Y,_⟩:=hd2 R;clear R;have y:=O.o (j.new);simp only[Bc]at y;subst y;have bG:=j.r 9 28;have bH:=j.r 10 29;go_simp;exact E.o _ ⟨λh2=>absurd (.inl rfl) h2,λ_=>nW1,trivial⟩
 case hdone=>
  rintro w8 D hD ⟨O,Y,_⟩;obtain rfl:=Y (hD _);clear hD O Y D;simp only[Bc,Cf,List.setIfInBounds_toArray,List.set_cons_succ,List.set_cons_zero];obtain⟨W1,N⟩:∃ W1,W1=(w.setCell ⟨ga,x,none⟩ (.int .i64 (m:Nat))).drew:=⟨_,rfl⟩;rw[<-N]
  have bI:H≠ga:=by
   obtain⟨X,ha,_⟩:=z.o.ats;exact Af z.o.box ha (by decide)
  have b1:Blk W1 H 193 #[.slice (some ⟨gs,0,none⟩) n n,.slice A m cc,.slice (some ⟨ga,0,none⟩) n n]:=by
   subst N;rw[J.o]
   exact(z.o.box.far (p:=⟨ga,x,none⟩) (by simp;omega) _).dr (Dr.refl _).drew
  have nA:(Value.slice A tree.length cc).ownBlock≠some ga:=λe=>Dw z.o.own z.o.low.2.2 e.symm
  have F:W1.ownsRow B 3 1 (.slice A m cc) m (nvs tree):=by
   subst N;rw[J.o];have h1:=ownsRow_setCell_other z.o.own (a:=⟨ga,x,none⟩) nA (.int .i64 (tree.length:Nat))
   exact(Dr.refl _).drew.own h1
  have aA:=Ab N
  have aW:W1.heap.size=w.heap.size:=by subst N;simp[World.setCell,World.drew]
  have c3:=b1.cell 1;have c4:=b1.cell 2;have l1:=z.o.low.1
  have aL:B<=W1.heap.size:=by omega
  have aK:=Ab (show m+1<=maxLen by unfold maxLen;omega);have aO:=Ab (show(m+1)*8<=140737488355328 by omega);clear N c1 c2 aT aU aI
  go_upto_region 7 with(at_builtin;refine Nx rfl _ _ _ rfl Tryz.underlying26 Dh rfl (by decide) rfl (by first|rfl|simp[go_sem]) F (Below.refl _ W1) aL (by rfl) (by simp[Value.oneCell']) aK.o aO.o ?_;intro v6 w6 I aN S M;obtain⟨⟨A6,N6,C6⟩,aF,aE⟩:=Be I;replace aE:N6=m+1:=aE;subst aE;replace aF:v6= .slice A6 (m+1) C6:=aF;subst aF;replace S:(W1.alloc (.cells #[.int .i64 (x:Nat)] 3)).grownBy w6 (Value.slice A m cc).ownBlock:=S;replace M:(Value.slice A6 (m+1) C6).ownBlock=(Value.slice A m cc).ownBlock∨(Value.slice A6 (m+1) C6).ownBlock=some (W1.heap.size+1):=M;have b6:=(b1.alloc _).grown S (Dw F l1);have z6:=b6.frozen 1;have d6:=b6.cell 1)
  obtain⟨W7,aC⟩:∃ W7,W7=w6.setCell ⟨H,1,none⟩ (Value.slice A6 (m+1) C6):=⟨_,rfl⟩;rw[<-aC]
  have aJ:Pb w (.slice A tree.length cc) (Value.slice A6 (m+1) C6):=by
   intro g hg
   rcases M with e|e
   ·left;rw[e,J.o]at hg;exact hg
   right;rw[e]at hg;injection hg with hg;omega
  obtain⟨aD,aP⟩:=z.o.putIn (W1:=W1) (W2:=w6) (W3:=W7) hx hn.o (by rw[aA.o,J.o]) (by rw[<-J.o];exact I) (by rw[<-J.o];exact S) aC;have aM:∃ X:List Int,Blk W7 ga 3 (ivs X).toArray/\Aaz (tree++ [x]) n X:=aD.ats;obtain⟨X,aH,aB⟩:=aM;have U:=aB.pos m (by rw[J.o];simp);rw[J.o,Aif]at U;have c5:=aD.box.cell 2
  have c6:W7.cell? ⟨ga,x,none⟩=some (.int .i64 (m:Nat)):=by
   rw[aH.cell x,J.o];simp[ivs,U]
  have hU:=Ab (AnM H gs ga n B m (Value.slice A6 (m+1) C6) (tree++ [x]) W7 aD (by rw[J.o];simp));clear aA b6 z6 d6 I aN S M F b1 c3 c4 aC U aH aB
  go_wp2_with fail
  refine hU.o.mono ?_;rintro e w9 ⟨rfl,aR,aQ⟩;go_wp2;go_ret;refine⟨rfl,.slice A6 (m+1) C6,by unfold Pd;rw[<-J.o];exact aR,aJ,?_⟩;refine aP.then aQ (λq hq hs=>?_)
  rcases hs with rfl|hs
  ·exact .inr (.inl rfl)
  rcases aJ q hs.symm with h1|h1
  ·exact .inr (.inr h1.symm)
  omega
theorem HpM.takeOut {W W3:World} {H gs ga n B g m cap:Nat} {t:List Nat} (h:HpM W H gs ga n B (.slice (some ⟨g,0,none⟩) (m+1) cap) t) (hm:t.length=m+1) (h3:W3=((W.setCell ⟨H,1,none⟩ (.slice (some ⟨g,0,none⟩) m cap)).setCell ⟨ga,atH t m,none⟩ (.int .i64 (-1))).drew):
  HpM W3 H gs ga n B (.slice (some ⟨g,0,none⟩) m cap) (t.take m)/\Fr (λq=>q=H∨q=ga) W W3:=by
 obtain⟨A,M,N,Z,F,X,J,Y,I,j⟩:=h.row (by omega);injection Z with hv1 _ hv2;injection hv1 with hv1;injection hv1 with hv1 _ _;subst hv1 hv2;obtain⟨r,D,E⟩:=h.ats;obtain⟨l1,l2,l3⟩:=h.low;have U:H≠ga:=Af h.box D (by decide);have z:gs≠ga:=Af h.sc D (by decide);have y:gs≠H:=Af h.sc h.box (by decide)
 have x:Fr (λq=>q=H∨q=ga) W W3:=by
  subst h3
  exact(((Fr.refl _ W).set (p:=⟨H,1,none⟩) (.inl rfl) _).set (p:=⟨ga,_,none⟩) (.inr rfl) _).drew
 have R:Blk W3 ga 3 (ivs (r.set (atH t m) (-1))).toArray:=by
  subst h3;rw[<-Vx]
  exact((D.far (p:=⟨H,1,none⟩) (by simp;omega) _).set_ _ _).dr (Dr.refl _).drew
 have S:Blk W3 H 193 #[.slice (some ⟨gs,0,none⟩) n n,.slice (some ⟨g,0,none⟩) m cap,.slice (some ⟨ga,0,none⟩) n n]:=by
  subst h3
  exact((h.box.set_ 1 _).far (p:=⟨ga,_,none⟩) (by simp;omega) _).dr (Dr.refl _).drew
 have l:(t.take m).length=m:=by rw[List.length_take];omega
 refine⟨⟨S,x.blk h.sc (λh=>h.elim y z),?_,⟨_,R,E.drop hm⟩,h.low,h.few⟩,x⟩;rw[l];refine⟨by simp[nvs];omega,.inr ⟨g,cap,N,rfl,F,x.blk X (by omega),by omega,I,by simpa using J,?_⟩⟩
 have O:(N.toList.take t.length).take m=(nvs t).take m:=by rw[j]
 rw[List.take_take,show min m t.length=m by omega]at O
 simpa[nvs,List.map_take] using O
def Aoi (H gs ga n B:Nat) (tv:Value) (tree:List Nat) (w:World) (e:Ending) (w':World):Prop:=
 ∃tv' x b,e= .returned (.tuple #[.int .i64 (x:Nat),.bool b])/\((tree= []/\b=false/\tv'=tv/\HpM w' H gs ga n B tv tree)∨(tree≠ []/\b=true/\x=atH tree 0/\HpM w' H gs ga n B tv' (Lh tree)))/\tv'.ownBlock=tv.ownBlock/\Fr (λq=>q=H∨q=ga∨some q=tv.ownBlock) w w'
theorem Afn (H gs ga n B:Nat) (tv:Value) (tree:List Nat) (w:World) (N:HpM w H gs ga n B tv tree):
  Calls Tryz.prog 92 #[.pointer (some ⟨H,0,none⟩)] w (Aoi H gs ga n B tv tree w):=by
 have X:=Amx H gs ga n B tv tree w N
 by_cases aD:tree= []
 ·subst aD;replace X:=Ab X
  go_enter Tryz.func92,Tryz.ntmps92
  go_wp2_with fail
  refine X.o.mono ?_;rintro e w1 ⟨rfl,rfl⟩;go_wp2
  go_ret2
  exact⟨tv,0,false,rfl,.inl ⟨rfl,rfl,rfl,N⟩,rfl,Fr.refl _ _⟩
 obtain⟨m,hm⟩:∃ m,tree.length=m+1:=⟨tree.length-1,by have:=List.length_pos_iff.2 aD;omega⟩;have aR:=N.len;have aQ:=N.few;obtain⟨g,E,rfl,aJ,bJ,J⟩:=Tz N (by omega);have c0:=J 0 (by omega);rw[hm]at X N aJ ⊢;have R:=λk=>Ry H gs ga n B 0 m (.slice (some ⟨g,0,none⟩) (m+1) E) tree (w.drewN k) (N.dr ⟨k,rfl⟩) (by omega) (by omega);have c1:=N.box.cell 1
 have bL:(m:Int)<=1048576:=by omega
 have aS:¬ ((m:Int)+1)=0:=by omega
 replace X:=Ab X;replace N:=Ab N;replace R:=Ab R;obtain⟨x,hx⟩:∃ x,atH tree 0=x:=⟨_,rfl⟩;rw[hx]at c0;clear J;replace hm:=Ab hm;replace hx:=Ab hx
 go_enter Tryz.func92,Tryz.ntmps92
 go_wp2_with fail
 refine X.o.mono ?_;rintro e w1 ⟨rfl,rfl⟩;clear X
 go_wp2_with fail
 go_quiet (fail)
 clear c0 c1
 go_wp2_with fail
 refine(R.o _).mono ?_;rintro e w5 ⟨rfl,z,aC⟩;clear R;have U:=Dz tree 0 m;rw[hm.o]at U
 have S:atH (Cc tree 0 m) m=x:=by rw[Vy (by rw[hm.o];omega) (by rw[hm.o];omega),if_pos rfl];exact hx.o
 have aO:x<n:=by rw[<-S];exact z.lt _ (Ia (by omega))
 have bN:(x:Int)<n:=by omega
 have bM:(n:Int)<=1048576:=by omega
 have bK:(m:Int)<=E:=by omega
 have d1:=z.box.cell 1;have z1:=z.box.frozen 1;have d2:=z.box.cell 2
 have aB:∃ y,w5.cell? ⟨ga,x,none⟩=some y/\w5.frozen? ⟨ga,x,none⟩=false:=by
  obtain⟨aH,ha,aB⟩:=z.ats;refine⟨_,(ha.cell x).trans (Array.getElem?_eq_getElem (by simp[ivs,aB.len];exact aO)),ha.frozen x⟩
 obtain⟨y,hy,aE⟩:=aB
 have bI:H≠ga:=by
  obtain⟨aH,ha,_⟩:=z.ats;exact Af z.box ha (by decide)
 have aP:(w5.setCell ⟨H,1,none⟩ (.slice (some ⟨g,0,none⟩) m E)).cell? ⟨ga,x,none⟩=some y:=by
  rw[World.cell?_setCell_other _ _ _ _ (by intro e;injection e with e _ _;omega)];exact hy
 have aF:(w5.setCell ⟨H,1,none⟩ (.slice (some ⟨g,0,none⟩) m E)).frozen? ⟨ga,x,none⟩=false:=by
  rw[World.frozen?_setCell];exact aE
 replace S:=Ab S;replace z:=Ab z;replace aC:=Ab aC;replace U:=Ab U;clear hy aE
 go_wp2_with fail
 apply Cu [_,_,_,_,_,_,_,_,_,_,_,_,_,_,undef,_,undef] [w5.drew,_,_] [some 24,some 25,some 26,some 27,some 28,some 29,some 30,some 31,some 32,some 33,some 34,some 35,some 36,some 37,none,some 38,none] (λws D M=>(¬D 14->M=Bc ws 0)/\(D 14->¬D 16->M=Bc ws 1)/\(D 16->M=Bc ws 2)/\True) 17 42 (by kernel_rfl) (by kernel_rfl) rfl rfl rfl (by kernel_rfl)
 case h0=>exact⟨λ_=>rfl,λh=>absurd h (by decide),λh=>absurd h (by decide),trivial⟩
 case hstep=>
  refine⟨⟨⟨⟨⟨⟨⟨⟨⟨⟨⟨⟨⟨⟨⟨⟨⟨trivial,?s0⟩,?s1⟩,?s2⟩,?s3⟩,?s4⟩,?s5⟩,?s6⟩,?s7⟩,?s8⟩,?s9⟩,?s10⟩,?s11⟩,?s12⟩,?s13⟩,?s14⟩,?s15⟩,?s16⟩
  case s0|s1|s2|s3=>
   refine Bh (λD w h=>⟨kB h.1,kC h.2.1,kp h.2.2.1,trivial⟩) (λD M A j K F=>?_);have e0:=j.u 0
   try have aU:=j.r 1 25
   try have aV:=j.r 2 26
   go_simp;exact F.o
  case s4=>
   refine fst λD M A j I K F=>?_;obtain⟨O,Y,Z,_⟩:=hd3 I;clear I;have p:=O.o (λh=>j.new (j.l _ 4 (h)));simp only[Bc]at p;subst p;have aW:=j.r 3 27;go_simp;exact F.o _ ⟨kB O.o,kC Y.o,kp Z.o,trivial⟩
  case s5|s6|s7|s8=>
   refine Bh (λD w h=>⟨kB h.1,kC h.2.1,kp h.2.2.1,trivial⟩) (λD M A j K F=>?_);have e4:=j.u 4;have e0:=j.u 0
   try have aZ:=j.r 6 30
   try have bA:=j.r 7 31
   go_simp;exact F.o
  case s9=>
   refine fst λD M A j I K F=>?_;obtain⟨O,Y,Z,_⟩:=hd3 I;clear I;have p:=O.o (λh=>j.new (j.l _ 9 (h)));simp only[Bc]at p;subst p;have bB:=j.r 8 32;go_simp;exact F.o _ ⟨kB O.o,kC Y.o,kp Z.o,trivial⟩
  case s10|s11|s12|s13=>
   refine Bh (λD w h=>⟨kB h.1,kC h.2.1,kp h.2.2.1,trivial⟩) (λD M A j K F=>?_);have e5:=j.u 5
   try have bC:=j.r 9 33
   try have bD:=j.r 10 34
   try have aT:=j.r 0 24
   try have bF:=j.r 12 36
   go_simp;exact F.o
  case s14=>
   refine fst λD M A j I K F=>?_;obtain⟨O,Y,Z,_⟩:=hd3 I;clear I;have p:=O.o (j.new);simp only[Bc]at p;subst p;have bE:=j.r 11 35;have bG:=j.r 13 37;go_simp;exact F.o _ ⟨λh2=>absurd (.inl rfl) h2,λ_ _=>nW1,λh1=>absurd h1 (λe=>e.elim (λe=>absurd e (by decide)) (λe=>(λh=>j.new (j.l _ 14 (h))) e)),trivial⟩
  case s15=>
   refine Bh (λD w h=>⟨kB h.1,kC h.2.1,kp h.2.2.1,trivial⟩) (λD M A j K F=>?_);have aX:=j.r 4 28;have aY:=j.r 5 29;go_simp;exact F.o
  case s16=>
   refine fst λD M A j I K F=>?_;obtain⟨O,Y,Z,_⟩:=hd3 I;clear I;have p:=Y.o (j.d 14) (j.new);simp only[Bc]at p;subst p;have bH:=j.r 15 38;go_simp;exact F.o _ ⟨λh2=>absurd (.inr (j.d 14)) h2,λ_ h2=>absurd (.inl rfl) h2,λ_=>nW2,trivial⟩
 case hdone=>
  rintro w8 D hD ⟨O,Y,Z,_⟩;obtain rfl:=Z (hD _);clear hD O Y Z D;simp only[Bc,Cf,List.setIfInBounds_toArray,List.set_cons_succ,List.set_cons_zero];obtain⟨W1,aA⟩:∃ W1,W1=((w5.setCell ⟨H,1,none⟩ (.slice (some ⟨g,0,none⟩) m E)).setCell ⟨ga,x,none⟩ (.int .i64 (-1))).drew:=⟨_,rfl⟩;rw[<-aA];obtain⟨aM,aK⟩:=z.o.takeOut (W3:=W1) U.o (by rw[S.o];exact aA);have aI:=Ab (Ake H gs ga n B 0 _ _ W1 aM (Nat.zero_le _));clear aA d1 z1 d2 aP aF
  go_wp2_with fail
  refine aI.o.mono ?_;rintro e w9 ⟨rfl,aN,aL⟩;go_wp2
  go_ret2
  refine⟨.slice (some ⟨g,0,none⟩) m E,x,true,rfl,.inr ⟨aD,rfl,hx.o.symm,?_⟩,rfl,?_⟩
  ·unfold Lh;rw[hm.o];exact aN
  have e1:=aC.o.more (S':=λq=>q=H∨q=ga∨some q=(Value.slice (some ⟨g,0,none⟩) (m+1) E).ownBlock) (λq _ h=> .inr h);have e2:=aK.more (S':=λq=>q=H∨q=ga∨some q=(Value.slice (some ⟨g,0,none⟩) (m+1) E).ownBlock) (λq _ h=>h.elim .inl (λh=> .inr (.inl h)));have e3:=aL.more (S':=λq=>q=H∨q=ga∨some q=(Value.slice (some ⟨g,0,none⟩) (m+1) E).ownBlock) (λq _ h=> .inr h)
  exact(((Fr.refl _ w).thenB (Dr.below ⟨_,rfl⟩ _)).trans e1).trans (e2.trans e3)
end Go.Proofs.YtmidbhnhcbpneaaGreatDoor.Top
end
section
namespace Go.Lt
open Go.RowKit Go.Instr
theorem Of {P:Program} {w:World} {o:Oper} {a:Act} {K:Act->World->Prop} {Q:Exit->Act->World->Prop} (l c:Operand) (t:TypeId) (hop:o.op=Op.makeSlice t l c)
  (e:TypeId) {z:Value} {size bytes:Nat} (ht:P.underlying t=some (.slice e)) (hi:(P.info? e).map (λi=>(i.zero,i.size,i.bytes))=some (some z,size,bytes))
  (n:Nat) (hl:a.eval l= .int .i64 n) (hc:a.eval c= .int .i64 n) (b2:bytes*n<=281474976710656) (b3:n<=1000000000)
  (h:K (a.put o.dst (.slice (some ⟨w.heap.size,0,none⟩) n n)) (w.alloc (.cells (madeCells z.cells (n*size)) e))):Oper.wp P o a w K Q:=by
 obtain⟨i,m,r,p,q⟩:=info_parts hi;have j:=run_make (P:=P) w t e i z ht m r .i64 .i64 n n (by omega) (Int.le_refl _) (by rw[q];omega) (by omega);rw[Int.toNat_natCast,p]at j;unfold Oper.wp;simp[execOp,hop,hl,hc,j,Result.andThen];exact h
end Go.Lt
namespace Go.Proofs.YtmidbhnhcbpneaaGreatDoor.Top
open Go Go.RowKit Go.Lt Go.Proofs.YtmidbhnhcbpneaaGreatDoor.Lit Go.Proofs.YtmidbhnhcbpneaaGreatDoor.Dec Go.Instr
open Go.Proofs.YtmidbhnhcbpneaaGreatDoor.Circ (T3 enc3 RdT Sl Cv Ae)
theorem Xn (n:Nat):madeCells (Value.int .i64 0).cells (n*1)=(ivs (List.replicate n 0)).toArray:=by
 apply Array.ext
 ·simp[madeCells,ivs]
 intro i j h2;simp[madeCells,ivs,Value.cells,Nat.mod_one]
theorem AfE (n:Nat):madeCells (Value.float .f64 0).cells (n*1)=Rp n:=by
 apply Array.ext
 ·simp[madeCells,Rp]
 intro i j h2;simp[madeCells,Rp,Value.cells,Nat.mod_one]
theorem Agt:(Tryz.prog.info? 75).map (λi=>(i.zero,i.size,i.bytes))=some (some (.float .f64 0),1,8):=by kernel_rfl
def ApF (n:Nat) (w:World) (e:Ending) (w':World):Prop:=
 ∃H gs ga,e= .returned (.pointer (some ⟨H,0,none⟩))/\w.heap.size<=H/\w.heap.size<=gs/\w.heap.size<=ga/\HpM w' H gs ga n w'.heap.size (sv Ap) []/\Below w.heap.size w w'
theorem AkB (n:Nat) (w:World) (hn:n<=1048576):
  Calls Tryz.prog 90 #[.int .i64 n] w (ApF n w):=by
 have i1:¬ (n:Int)<0:=by omega
 have i2:¬ (n:Int)>1048576:=by omega
 have aX:(n:Int)<=1048576:=by omega
 go_enter Tryz.func90,Tryz.ntmps90
 go_wp2
 apply Ed [_,undef,_,undef,undef,undef,undef] [11,12,13,14,15,16,3] (λvs D g B=>(Below w.heap.size w.drew B)/\(D 0->g 11=Bl vs 0)/\(D 1->∃y,w.heap.size<=y/\g 12= .slice (some ⟨y,0,none⟩) n n/\Blk B y 75 (Rp n))/\(D 2->g 13=Bl vs 2)/\(D 3->∃r,w.heap.size<=r/\g 14= .slice (some ⟨r,0,none⟩) n n/\Blk B r 3 (ivs (List.replicate n 0)).toArray)/\(D 4->∃y r,w.heap.size<=y/\w.heap.size<=r/\Blk B y 75 (Rp n)/\Blk B r 3 (ivs (List.replicate n 0)).toArray/\g 15= .agg #[.slice (some ⟨y,0,none⟩) n n,.slice none 0 0,.slice (some ⟨r,0,none⟩) n n])/\(D 5->∃H y r,w.heap.size<=H/\w.heap.size<=y/\w.heap.size<=r/\Blk B y 75 (Rp n)/\Blk B r 3 (ivs (List.replicate n 0)).toArray/\Blk B H 193 #[.slice (some ⟨y,0,none⟩) n n,.slice none 0 0,.slice (some ⟨r,0,none⟩) n n]/\g 16= .pointer (some ⟨H,0,none⟩))/\(D 6->∃H y r,w.heap.size<=H/\w.heap.size<=y/\w.heap.size<=r/\Blk B y 75 (Rp n)/\Blk B r 3 (ivs (List.replicate n 0)).toArray/\Blk B H 193 #[.slice (some ⟨y,0,none⟩) n n,.slice none 0 0,.slice (some ⟨r,0,none⟩) n n]/\g 3= .pointer (some ⟨H,0,none⟩))/\True) 7 33 (by kernel_rfl) (by kernel_rfl) rfl rfl (by kernel_rfl)
 case h0=>exact⟨Below.refl _ _,nt0,nt0,nt0,nt0,nt0,nt0,nt0,trivial⟩
 case hstep=>
  refine⟨⟨⟨⟨⟨⟨⟨trivial,?s0⟩,?s1⟩,?s2⟩,?s3⟩,?s4⟩,?s5⟩,?s6⟩
  case s0=>
   refine sst λD g B az m R K S=>?_;obtain⟨z,I,E,J,F,M,N,U,_⟩:=R;have e0:=m.u 0;go_simp;exact S.o _ _ ⟨z,λ_=>Aj.trans rfl,kp E,kp J,kp F,kp M,kp N,kp U,trivial⟩
  case s1=>
   refine sst λD g B az m R K S=>?_;obtain⟨z,I,E,J,F,M,N,U,_⟩:=R;have aA:=m.t 11 (I (m.d 0));have aT:=aA;rw[Array.getD_eq_getD_getElem?]at aT;refine Of (.tmp 11) (.tmp 11) 191 rfl 75 Tryz.underlying191 Agt n aA aA (by omega) (by omega) ?_;rw[AfE];exact S.o _ _ ⟨z.alloc z.size _,kp I,λ_=>⟨_,z.size,Aj,Blk.new2 rfl⟩,kp J,kp (λh=>let⟨b,u0,u1,u2⟩:=(F h);⟨b,u0,u1,u2.alloc _⟩),kp (λh=>absurd (m.l _ 1 (h)) m.new),kp (λh=>absurd (m.l _ 1 (m.l _ 4 (h))) m.new),kp (λh=>absurd (m.l _ 1 (h)) m.new),trivial⟩
  case s2=>
   refine sst λD g B az m R K S=>?_;obtain⟨z,I,E,J,F,M,N,U,_⟩:=R;have e0:=m.u 0;go_simp;exact S.o _ _ ⟨z,kp I,kp E,λ_=>Aj.trans rfl,kp F,kp M,kp N,kp U,trivial⟩
  case s3=>
   refine sst λD g B az m R K S=>?_;obtain⟨z,I,E,J,F,M,N,U,_⟩:=R;have aB:=m.t 13 (J (m.d 2));have aV:=aB;rw[Array.getD_eq_getD_getElem?]at aV;refine Of (.tmp 13) (.tmp 13) 26 rfl 3 Tryz.underlying26 Dh n aB aB (by omega) (by omega) ?_;rw[Xn];exact S.o _ _ ⟨z.alloc z.size _,kp I,kp (λh=>let⟨b,u0,u1,u2⟩:=(E h);⟨b,u0,u1,u2.alloc _⟩),kp J,λ_=>⟨_,z.size,Aj,Blk.new2 rfl⟩,kp (λh=>absurd (m.l _ 3 (h)) m.new),kp (λh=>absurd (m.l _ 3 (m.l _ 4 (h))) m.new),kp (λh=>absurd (m.l _ 3 (h)) m.new),trivial⟩
  case s4=>
   refine sst λD g B az m R K S=>?_;obtain⟨z,I,E,J,F,M,N,U,_⟩:=R;have d1:=E (m.d 1);have d3:=F (m.d 3);obtain⟨y,l1,aL,Y⟩:=d1;obtain⟨r,l2,aM,X⟩:=d3;have aC:=(m.get 12).trans aL
   try simp only[Bl,List.toList_toArray]at aC
   have aU:=aC;rw[Array.getD_eq_getD_getElem?]at aU;have aD:=(m.get 14).trans aM
   try simp only[Bl,List.toList_toArray]at aD
   have aW:=aD;rw[Array.getD_eq_getD_getElem?]at aW;go_simp;exact S.o _ _ ⟨z,kp I,kp E,kp J,kp F,λ_=>⟨y,r,l1,l2,Y,X,Aj⟩,kp N,kp U,trivial⟩
  case s5=>
   refine sst λD g B az m R K S=>?_;obtain⟨z,I,E,J,F,M,N,U,_⟩:=R;have d4:=M (m.d 4);obtain⟨y,r,l1,l2,Y,X,aN⟩:=d4;have aJ:=(m.get 15).trans aN
   try simp only[Bl,List.toList_toArray]at aJ
   go_simp;exact S.o _ _ ⟨z.alloc z.size _,kp I,kp (λh=>let⟨b,u0,u1,u2⟩:=(E h);⟨b,u0,u1,u2.alloc _⟩),kp J,kp (λh=>let⟨b,u0,u1,u2⟩:=(F h);⟨b,u0,u1,u2.alloc _⟩),kp (λh=>let⟨y,r,u0,u1,u2,u3,u4⟩:=(M h);⟨y,r,u0,u1,u2.alloc _,u3.alloc _,u4⟩),λ_=>⟨_,y,r,z.size,l1,l2,Y.alloc _,X.alloc _,Blk.new2 rfl,Aj⟩,kp (λh=>absurd (m.l _ 5 (h)) m.new),trivial⟩
  case s6=>
   refine sst λD g B az m R K S=>?_;obtain⟨z,I,E,J,F,M,N,U,_⟩:=R;have d1:=E (m.d 1);have d3:=F (m.d 3);have d4:=M (m.d 4);have d5:=N (m.d 5);obtain⟨H,y,r,l0,l1,l2,Y,X,A,aO⟩:=d5;have aK:=(m.get 16).trans aO
   try simp only[Bl,List.toList_toArray]at aK
   go_simp;exact S.o _ _ ⟨z,kp I,kp E,kp J,kp F,kp M,kp N,λ_=>⟨H,y,r,l0,l1,l2,Y,X,A,Aj⟩,trivial⟩
 case hdone=>
  rintro g w8 D hD ⟨z,I,E,J,F,M,N,U,_⟩;have d1:=E (hD _);have d3:=F (hD _);have d4:=M (hD _);have d5:=N (hD _);have d6:=U (hD _);clear hD D I E J F M N U;simp only[Fw,List.foldl_cons,List.foldl_nil,List.setIfInBounds_toArray,List.set_cons_succ,List.set_cons_zero];obtain⟨H,gs,O,l0,l1,l2,Y,X,A,g3⟩:=d6;rw[g3];clear g3 d1 d3 d4 d5;generalize g 11=aY at*;generalize g 12=aZ at*;generalize g 13=bA at*;generalize g 14=bB at*;generalize g 15=bC at*;generalize g 16=bD at*;have aF:Below w.heap.size w w8:=((Dr.refl w).drew.below _).trans z;have aE:H≠O:=Af A X (by decide);have aP:gs≠O:=Af Y X (by decide);have b2:=A.cell 2;go_wp2;clear b2;have h0:Hid (Fr (λq=>q=O) w8 w8/\Blk w8 O 3 (ivs (List.replicate 0 (-1)++List.replicate (n-0) 0)).toArray):=Ab ⟨Fr.refl _ _,by simpa using X⟩
  go_loopw [22] (λi wr=>∃ k:Nat,i= .int .i64 k/\k<=n/\Hid (Fr (λq=>q=O) w8 wr/\Blk wr O 3 (ivs (List.replicate k (-1)++List.replicate (n-k) 0)).toArray)) (λi _=>n-(intOf i).toNat)
  case atStart=>exact⟨0,rfl,Nat.zero_le _,h0⟩
  case round=>
   obtain⟨k,rfl,hk,hM⟩:=hrel
   by_cases aR:k<n
   ·have aH:(k:Int)<n:=by omega
    have aI:=hM.o.1.blk A aE;have c2:=aI.cell 2
    have ck:wr.cell? ⟨O,k,none⟩=some (.int .i64 0):=by
     rw[hM.o.2.cell k];simp[ivs,List.getElem?_append_right,List.getElem?_replicate,show 0<n-k by omega]
    have zk:=hM.o.2.frozen k
    have aS:Hid (Fr (λq=>q=O) w8 (wr.setCell ⟨O,k,none⟩ (.int .i64 (-1)))/\Blk (wr.setCell ⟨O,k,none⟩ (.int .i64 (-1))) O 3 (ivs (List.replicate (k+1) (-1)++List.replicate (n-(k+1)) 0)).toArray):=by
     refine Ab ⟨hM.o.1.set (p:=⟨O,k,none⟩) rfl _,?_⟩;have h1:=hM.o.2.set_ k (.int .i64 (-1));rw[Vx]at h1
     have e:(List.replicate k (-1:Int)++List.replicate (n-k) 0).set k (-1)=List.replicate (k+1) (-1)++List.replicate (n-(k+1)) 0:=by
      rw[List.set_append_right _ _ (by simp)];rw[List.length_replicate,Nat.sub_self,show n-k=(n-(k+1))+1 by omega,List.replicate_succ,List.set_cons_zero,List.replicate_succ']
      simp
     rw[e]at h1;exact h1
    go_wp2;go_roundw
    case rel=>exact⟨k+1,by go_num,aR,aS⟩
    case measure=>simp[intOf];omega
   have aQ:k=n:=by omega
   subst aQ
   have aH:¬ (k:Int)<k:=by omega
   have Z:=Ab hM.o.2;rw[Nat.sub_self,List.replicate_zero,List.append_nil]at Z;go_wp2;go_ret;have hf:=hM.o.1;refine⟨H,gs,O,rfl,l0,l1,l2,⟨hf.blk A aE,hf.blk Y aP,Bd,⟨_,Z.o,⟨by simp,List.nodup_nil,λx hx=>(by cases hx),λj hj=>absurd hj (Nat.not_lt_zero _),λx hx _=>by simp[hx]⟩⟩,⟨?_,?_,?_⟩,hn⟩,?_⟩
   ·exact Nat.lt_of_lt_of_le A.lt hf.size
   ·exact Nat.lt_of_lt_of_le Y.lt hf.size
   ·exact Nat.lt_of_lt_of_le X.lt hf.size
   exact aF.trans (hf.below (by have:=aF.size;omega) (λq hq=>by omega))
end Go.Proofs.YtmidbhnhcbpneaaGreatDoor.Top
end
section
namespace Go.Lt
open Go.RowKit Go.Instr Go.ChangeMaps
section
variable {κ:Type} [DecidableEq κ] {P:Program} {t K E:TypeId} {z:Value} {enc:κ->Value} {w:World} {B:Nat} {l:List (κ×Value)}
theorem Adi (L:KeyLaw P K enc) (ht:P.underlying t=some (.map K E)) (hz:∀ w:World,(zeroValue E).run P w= .ok z w) (h:Iw w enc B l) (x:κ):
  (Instr.lookup t (.map (some B)) (enc x) true).run P w= .ok (.tuple #[(mget l x).getD z,.bool (mget l x).isSome]) w:=by
 obtain⟨es,c,p,h2⟩:=h;have j:=L.find x es.toList l w h2;have q:=λb=>L.check b x w;have m:=Acc l x 0
 cases y:mfind l x 0 with
 |none=>
  rw[y]at j m;rw[<-m];simp[Instr.lookup,run_underlying ht,MapKept.run_getObj_map p,q,j,hz,Result.andThen]
 |some r=>
  obtain⟨i,u⟩:=r;rw[y]at j m;rw[<-m];simp[Instr.lookup,run_underlying ht,MapKept.run_getObj_map p,q,j,hz,Result.andThen]
theorem Qc {ops:Array Oper} {rest:List Oper} {o:Oper} {a:Act} {Q:Exit->Act->World->Prop} (L:KeyLaw P K enc) (ht:P.underlying t=some (.map K E)) (hz:∀ w:World,(zeroValue E).run P w= .ok z w) (hgd:o.guard=none) (m k:Operand)
  (hop:o.op=Op.lookup t m k true) (h:Iw w enc B l) (x:κ) (hm:a.eval m= .map (some B)) (hx:a.eval k=enc x)
  (hK:wpList P ops Q rest (a.put o.dst (.tuple #[(mget l x).getD z,.bool (mget l x).isSome])) w):wpList P ops Q (o::rest) a w:=by
 refine wpList_plain hgd λq p=>?_;have j:=Adi L ht hz h x;unfold Oper.wp;simp[execOp,hop,hm,hx,j,Result.andThen];exact p _ _ hK
end
end Go.Lt
end
