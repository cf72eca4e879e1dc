/- A part of the proof. -/
import Derived.Test.YtmidbhnhcbpneaaGreatDoorM21
import Derived.Test.YtmidbhnhcbpneaaGreatDoorM8
import Derived.Test.YtmidbhnhcbpneaaGreatDoorM3
import Derived.Test.YtmidbhnhcbpneaaGreatDoorM17
set_option linter.unusedVariables false
set_option linter.unusedSimpArgs false
set_option maxRecDepth 8000
set_option maxHeartbeats 8000000
section
namespace Go.Proofs.YtmidbhnhcbpneaaGreatDoor.Top
open Go Go.RowKit Go.Lt YtmidbhnhcbpneaaGreatDoor.Lit YtmidbhnhcbpneaaGreatDoor.Dec
open YtmidbhnhcbpneaaGreatDoor.Circ (T3 enc3 RdT Sl Cv Ae)
theorem Abj {n lit k:Nat} {x:Nat} (h:(evens n lit)[k]?=some x):x=lit+2*k:=by
 have j:k<n:=by have:=(List.getElem?_eq_some_iff.1 h).1;simpa[evens] using this
 rw[Se j]at h;injection h with h;exact h.symm
structure NoM (w:World) (cs:Array Value) (n:Nat) (W:World):Prop where
 box:Blk W w.heap.size 31 cs
 nx:Blk W (w.heap.size+1) 3 #[.int .i64 n]
 ok:Blk W (w.heap.size+2) 4 #[.bool true]
 bel:Below w.heap.size w W
theorem NoM.after {w W W':World} {cs:Array Value} {n:Nat} (h:NoM w cs n W) (hb:Below W.heap.size W W'):NoM w cs n W':=
 ⟨h.box.below hb h.box.lt,h.nx.below hb h.nx.lt,h.ok.below hb h.ok.lt,h.bel.trans (hb.mono h.bel.size)⟩
theorem Qo (w W:World) (cs:Array Value) (n x:Nat) (h:NoM w cs n W) (hx:x=n) (hn:n<=1000000000):
  Calls Tryz.prog 106 #[.int .i64 (x:Nat),.pointer (some ⟨w.heap.size+2,0,none⟩),.pointer (some ⟨w.heap.size+1,0,none⟩)] W λe W'=>e= .returned (.tuple #[])/\NoM w cs (n+2) W'/\∀g t c,g≠w.heap.size+2->g≠w.heap.size+1->Blk W g t c->Blk W' g t c:=by
 subst hx;have r:=h.nx.cell 0;have y:=h.ok.cell 0;have z:=h.nx.frozen 0;have B:=h.ok.frozen 0
 have q:(x:Int)<=1000000000:=by omega
 have m:NoM w cs (x+2) ((W.setCell ⟨w.heap.size+2,0,none⟩ (.bool true)).setCell ⟨w.heap.size+1,0,none⟩ (.int .i64 ((x:Int)+2))):=by
  refine⟨(h.box.far (p:=⟨_,0,none⟩) (by simp) _).far (p:=⟨_,0,none⟩) (by simp) _,?_,?_,(h.bel.setCell (p:=⟨_,0,none⟩) (by simp) _).setCell (p:=⟨_,0,none⟩) (by simp) _⟩
  ·exact(h.nx.far (p:=⟨w.heap.size+2,0,none⟩) (by simp) _).set_ 0 _
  exact(h.ok.set_ 0 _).far (p:=⟨w.heap.size+1,0,none⟩) (by simp) _
 have l:=Ab m;have j:=Ab (λ(g:Nat) (t:TypeId) (c:Array Value) (h2:g≠w.heap.size+2) (h1:g≠w.heap.size+1) (hb:Blk W g t c)=>(hb.far (p:=⟨w.heap.size+2,0,none⟩) h2 (.bool true)).far (p:=⟨w.heap.size+1,0,none⟩) h1 (.int .i64 ((x:Int)+2)));clear h m;generalize w.heap.size=D at*
 go_enter Tryz.func106,Tryz.ntmps106
 go_wp2
 go_end0
 exact⟨rfl,l.o,j.o⟩
theorem NoM.okay {w W:World} {cs:Array Value} {n:Nat} (h:NoM w cs n W):NoM w cs n (W.setCell ⟨w.heap.size+2,0,none⟩ (.bool true)):=
 ⟨h.box.far (p:=⟨w.heap.size+2,0,none⟩) (by simp) _,h.nx.far (p:=⟨w.heap.size+2,0,none⟩) (by simp) _,h.ok.set_ 0 _,h.bel.setCell (p:=⟨w.heap.size+2,0,none⟩) (by simp) _⟩
theorem AbO (v:Cv) (x:Bp) (w:World) (hr:RdC w v x) (hl:Mx x) (hv:Wy w.heap.size v) (hN:Xz x.c) (hno:AbH x.c) (hgood:Ag x.c) (hcnt:x.c.ins.length+x.c.lat.length+x.c.gat.length=x.c.max):
  Calls Tryz.prog 67 #[.agg (Ae x.c.max v)] w λe w'=>e= .returned (.bool true)/\Below w.heap.size w w':=by
 have aF:=Ab (λ(W:World) (hb:Below w.heap.size w W)=>Mn v x W (hr.below hb (Nl _)) hl (λad h=>Nat.lt_of_lt_of_le (hv ad h) hb.size) hN);have l1:=hl.ins;have l2:=hl.lat;have l6:=hl.gat;have aK:=hN.max;obtain⟨⟨A1,p,C1⟩,⟨A2,q,C2⟩,⟨A3,M3,C3⟩,⟨A4,M4,C4⟩,⟨A5,M5,C5⟩,⟨A6,I,C6⟩,⟨A7,M7,C7⟩,aE⟩:=v;have n1:p=x.c.ins.length:=hr.nIns;have n2:q=x.c.lat.length:=hr.nLat;have n6:I=x.c.gat.length:=hr.nGat;have hI:=Ab (λ(k y:Nat) (h:x.c.ins[k]?=some y)=>(Abj (hno.ins▸h):y=2+2*k))
 have hL:=Ab (λ(k:Nat) (y:N3) (h:x.c.lat[k]?=some y)=>(show y.a=2+2*p+2*k by
  have e:(x.c.lat.map N3.a)[k]?=some y.a:=by rw[List.getElem?_map,h];rfl
  rw[hno.lat]at e;have:=Abj e;omega))
 have hG:=Ab (λ(k:Nat) (y:N3) (h:x.c.gat[k]?=some y)=>(show y.a=2+2*p+2*q+2*k/\y.c<=y.b/\y.b<y.a from⟨by
  have e:(x.c.gat.map N3.a)[k]?=some y.a:=by rw[List.getElem?_map,h];rfl
  rw[hno.gat]at e;have:=Abj e;omega,hno.low y (List.mem_of_getElem? h)⟩))
 simp only[Ae]at aF ⊢;obtain⟨m,hm⟩:∃ m,m=x.c.max:=⟨_,rfl⟩;rw[<-hm]at aF hcnt aK ⊢;obtain⟨W1,N,q0,aM⟩:=Bb w #[.int .i64 m,.slice A1 p C1,.slice A2 q C2,.slice A3 M3 C3,.slice A4 M4 C4,.slice A5 M5 C5,.slice A6 I C6,.slice A7 M7 C7,.string aE] 31;obtain⟨M,aC⟩:∃ M:Array Value,M= #[.int .i64 m,.slice A1 p C1,.slice A2 q C2,.slice A3 M3 C3,.slice A4 M4 C4,.slice A5 M5 C5,.slice A6 I C6,.slice A7 M7 C7,.string aE]:=⟨_,rfl⟩;rw[<-aC]at q0;have aU:=Ab (show #[.int .i64 m,.slice A1 p C1,.slice A2 q C2,.slice A3 M3 C3,.slice A4 M4 C4,.slice A5 M5 C5,.slice A6 I C6,.slice A7 M7 C7,.string aE]=M from aC.symm);obtain⟨aX,aQ,aR,aY,aZ,bA,aS,bB,bC⟩:=c9k aC;clear aC
 have bF:(m:Int)<=16777216:=by omega
 have bH:(p:Int)<=16777216:=by omega
 have bI:(q:Int)<=16777216:=by omega
 have bJ:(I:Int)<=16777216:=by omega
 have aB:=Ab (show 2+2*p+2*q+2*I=2*m+2 by omega);replace n1:=Ab n1;replace n2:=Ab n2;replace n6:=Ab n6;replace hm:=Ab hm;replace aK:=Ab aK;obtain⟨W2,O,q1,aH⟩:=Bb W1 #[.int .i64 2] 3;obtain⟨W3,A,q2,aA⟩:=Bb W2 #[.bool true] 4
 have s1:W1.heap.size=w.heap.size+1:=by rw[<-N];simp
 have s2:W2.heap.size=w.heap.size+2:=by rw[<-O];simp[s1]
 have z:Hid (NoM w M (2+2*0) W3):=Ab ⟨(q0.below aH q0.lt).below aA (by omega),by rw[<-s1];exact q1.below aA q1.lt,by rw[<-s2];exact q2,(aM.trans (aH.mono (by omega))).trans (aA.mono (by omega))⟩;replace N:=Ab N;replace O:=Ab O;replace A:=Ab A;clear q0 q1 q2 aM aH aA s1 s2 hl hv hN hno l1 l2 l6
 go_enter Tryz.func67,Tryz.ntmps67
 go_upto_region 2 with fail
 rw[N.o,O.o,A.o];rw[aU.o];clear N O A;have c1:=(z.o.box.cell 1).trans aQ.o;go_wp2;clear c1
 go_loopw [16] (λi wr=>∃ k:Nat,i= .int .i64 k/\k<=p/\Hid (NoM w M (2+2*k) wr)) (λi _=>p-(intOf i).toNat)
 case atStart=>exact⟨0,rfl,Nat.zero_le _,z⟩
 case round=>
  clear z;obtain⟨k,rfl,hk,j⟩:=hrel
  by_cases E:k<p
  ·have F:(k:Int)<p:=by omega
   obtain⟨ad,y,rfl,_,hy,cy⟩:=(hr.ins.below j.o.bel (Nl _)).get (f:=λn:Nat=>Value.int .i64 n) E;have HT:=Ab (Qo w wr M _ y j.o (hI.o k y hy) (by omega))
   have bG:(y:Int)<1000000000:=by have:=hI.o k y hy;omega
   clear hy j
   go_wp2_with (go_at_call 106;refine HT.o.mono ?_;rintro e w7 ⟨rfl,J,B⟩;replace J:=Ab J;replace B:=Ab B)
   go_roundw
   case rel=>exact⟨k+1,by go_num,E,J⟩
   case measure=>simp[intOf];omega
  obtain rfl:p=k:=by omega
  have F:¬ (p:Int)<p:=by omega
  have c2:=(j.o.box.cell 2).trans aR.o;go_wp2;clear c2;have z:Hid (NoM w M (2+2*p+2*0) wr):=j;clear j hI
  go_loopw [27] (λi wr=>∃ k:Nat,i= .int .i64 k/\k<=q/\Hid (NoM w M (2+2*p+2*k) wr)) (λi _=>q-(intOf i).toNat)
  case atStart=>exact⟨0,rfl,Nat.zero_le _,z⟩
  case round=>
   clear z;obtain⟨k,rfl,hk,j⟩:=hrel
   by_cases E:k<q
   ·have F:(k:Int)<q:=by omega
    have S:=hr.below j.o.bel (Nl _);obtain⟨ad,y,rfl,hy,g0,g1,g2⟩:=Ce (show RdT wr A2 q (x.c.lat.map t3) from S.lat) E;obtain⟨W4,l,Z,D⟩:=Bb wr #[.int .i64 (y.a:Nat),.int .i64 (y.b:Nat),.int .i64 (y.c:Nat)] 59;have HT:=Ab (Qo w W4 M _ y.a (j.o.after D) (hL.o k y hy) (by omega));have u0:=Z.cell 0;obtain⟨ya,U⟩:∃ ya,y.a=ya:=⟨_,rfl⟩;obtain⟨yb,X⟩:∃ yb,y.b=yb:=⟨_,rfl⟩;obtain⟨yc,Y⟩:∃ yc,y.c=yc:=⟨_,rfl⟩;simp only[U,X,Y]at HT u0 g0 g1 g2 l;replace l:=Ab l;clear S hy j D Z U X Y
    go_upto_region 11 with fail
    rw[l.o];clear l g0 g1 g2
    go_wp2_with (go_at_call 106;refine HT.o.mono ?_;rintro e w7 ⟨rfl,J,B⟩;replace J:=Ab J;replace B:=Ab B)
    go_roundw
    case rel=>exact⟨k+1,by go_num,E,J⟩
    case measure=>simp[intOf];omega
   obtain rfl:q=k:=by omega
   have F:¬ (q:Int)<q:=by omega
   have c6:=(j.o.box.cell 6).trans aS.o;go_wp2;clear c6;have z:Hid (NoM w M (2+2*p+2*q+2*0) wr):=j;clear j hL
   go_loopw [39] (λi wr=>∃ k:Nat,i= .int .i64 k/\k<=I/\Hid (NoM w M (2+2*p+2*q+2*k) wr)) (λi _=>I-(intOf i).toNat)
   case atStart=>exact⟨0,rfl,Nat.zero_le _,z⟩
   case round=>
    clear z;obtain⟨k,rfl,hk,j⟩:=hrel
    by_cases E:k<I
    ·have F:(k:Int)<I:=by omega
     have S:=hr.below j.o.bel (Nl _);obtain⟨ad,y,rfl,hy,g0,g1,g2⟩:=Ce (show RdT wr A6 I (x.c.gat.map t3) from S.gat) E;obtain⟨v1,v2,v3⟩:=hG.o k y hy;obtain⟨W4,l,Z,D⟩:=Bb wr #[.int .i64 (y.a:Nat),.int .i64 (y.b:Nat),.int .i64 (y.c:Nat)] 62;have aL:=j.o.after D;have HT:=Ab (Qo w W4 M _ y.a aL v1 (by omega));have aP:W4.heap.size<=W4.heap.size:=Nl _;have u0:=Z.cell 0;have aT:=j.o.ok.lt;have R:Hid (wr.heap.size≠w.heap.size+2/\wr.heap.size≠w.heap.size+1):=Ab ⟨by omega,by omega⟩;obtain⟨ya,U⟩:∃ ya,y.a=ya:=⟨_,rfl⟩;obtain⟨yb,X⟩:∃ yb,y.b=yb:=⟨_,rfl⟩;obtain⟨yc,Y⟩:∃ yc,y.c=yc:=⟨_,rfl⟩;simp only[U,X,Y]at HT u0 g0 g1 g2 l v1 v2 v3 Z
     have bK:(yc:Int)<=yb:=by omega
     have bL:(yb:Int)<ya:=by omega
     replace l:=Ab l;replace Z:=Ab Z;clear S hy j D U X Y aL aP aT v1 v2 v3;obtain⟨gb,aJ⟩:∃ gb,wr.heap.size=gb:=⟨_,rfl⟩;rw[aJ]at Z R u0;have aD:=Ab aJ;clear aJ
     go_upto_region 16 with fail
     rw[l.o,aD.o];clear l g0 g1 g2 aD
     go_upto_region 17 with(go_at_call 106;refine HT.o.mono ?_;rintro e w7 ⟨rfl,J,B⟩;replace J:=Ab J;replace B:=Ab B)
     have b7:=B.o gb _ _ R.o.1 R.o.2 Z.o;have d0:=b7.cell 0;have d1:=b7.cell 1;have d2:=b7.cell 2;have e2:=J.o.ok.cell 0;have f2:=J.o.ok.frozen 0;have h8:=Ab J.o.okay;clear b7 Z J HT;go_wp2;go_roundw
     case rel=>exact⟨k+1,by go_num,E,h8⟩
     case measure=>simp[intOf];omega
    obtain rfl:I=k:=by omega
    have F:¬ (I:Int)<I:=by omega
    have e1:=j.o.nx.cell 0;have e2:=j.o.ok.cell 0;obtain⟨g0,g1,g2,g3,g4,g5,g6,g7,g8⟩:=c9t j.o.box aX.o aQ.o aR.o aY.o aZ.o bA.o aS.o bB.o bC.o;have aO:=Ab (j.o.box)
    have bE:(2:Int)+2*p+2*q+2*I=2*m+2:=by have:=aB.o;omega
    have HC:=Ab (aF.o wr j.o.bel);have aN:=Ab j.o.bel
    have bD:wr.cell? ⟨w.heap.size+1,0,none⟩=some (.int .i64 (2*m+2)):=by rw[e1,show((2+2*p+2*q+2*I:Nat):Int)=2*m+2 by omega];rfl
    clear e1 j aO
    go_wp2_with (go_at_call 17;refine HC.o.mono ?_;rintro e w7 ⟨r,rfl,aW,aI⟩;have aV:=aW.2 hgood;subst aV;replace aI:=Ab aI)
    go_ret
    exact⟨rfl,aN.o.trans (aI.o.mono aN.o.size)⟩
end Go.Proofs.YtmidbhnhcbpneaaGreatDoor.Top
end
section
namespace Go.Proofs.YtmidbhnhcbpneaaGreatDoor.Top
open Go Go.RowKit Go.Lt YtmidbhnhcbpneaaGreatDoor.Lit YtmidbhnhcbpneaaGreatDoor.Dec
theorem Zl (n:Nat) (hn:n<1000000000) (W:World) (hp:Sr W):Calls Tryz.prog 68 #[.int .i64 (n:Nat)] W λe j=>e= .returned (tstr (Lib.decDigits n))/\Below W.heap.size W j:=
 (Acb (n:Int) (by omega) (by omega) W hp).mono (λe j h=>⟨by rw[h.1,Aer],h.2⟩)
theorem Rn {a b:Txt} {S T:ByteArray} (h1:(⟨a.toArray⟩:ByteArray)=S) (h2:(⟨b.toArray⟩:ByteArray)=T):S++T=⟨(a++b).toArray⟩:=by
 rw[<-h1,<-h2,ByteArray.mk_append_mk];try simp
theorem Jn {a:Txt} {S:ByteArray} (h1:(⟨a.toArray⟩:ByteArray)=S):S.size=a.length:=by rw[<-h1];show a.toArray.size=_;simp
theorem Gy {n:Nat} (h:n<=2000000):(9223372036854775807<n)=False:=by apply eq_false;omega
end Go.Proofs.YtmidbhnhcbpneaaGreatDoor.Top
end
section
namespace Go.Proofs.YtmidbhnhcbpneaaGreatDoor.Top
open Go Go.RowKit Go.Lt YtmidbhnhcbpneaaGreatDoor.Lit YtmidbhnhcbpneaaGreatDoor.Dec
open YtmidbhnhcbpneaaGreatDoor.Circ (T3 enc3 RdT Sl Cv Ae)
structure WrD (w:World) (b:Nat) (t:TypeId) (cs:Array Value) (txt:Txt) (W:World):Prop where
 m:WrM w b txt W
 box:Blk W w.heap.size t cs
 ty:t≠5
 ne:w.heap.size≠b
theorem WrD.after {w W W':World} {b:Nat} {t:TypeId} {cs:Array Value} {txt:Txt} (h:WrD w b t cs txt W) (hb:Below W.heap.size W W'):WrD w b t cs txt W':=⟨h.m.after hb,h.box.below hb h.box.lt,h.ty,h.ne⟩
theorem WrD.put {w W W':World} {b:Nat} {t:TypeId} {cs:Array Value} {txt u:Txt} (h:WrD w b t cs txt W) (h1:WrM w b u W') (h2:Lib.OthersKept 5 (some b) W W'):WrD w b t cs u W':=
 ⟨h1,He h2 h.box h.ne h.ty,h.ty,h.ne⟩
def bp3 (c:Cir):Txt:=c.lat.flatMap Hh
def bp4 (c:Cir):Txt:=bp3 c++(Dn c).flatMap Bw
theorem AoD (c:Cir):Sp c= []++(c.lat.flatMap Hh++(Bw c.outs++Bw c.bads++Bw c.cons++c.gat.flatMap Jv)):=by
 unfold Sp;simp only[List.nil_append,List.append_assoc]
theorem AgU (c:Cir):Sp c=bp4 c++(c.gat.flatMap Jv++ []):=by
 unfold Sp bp4 bp3 Dn;simp only[List.flatMap_cons,List.flatMap_nil,List.append_nil,List.append_assoc]
theorem Aoz {c:Cir} {k:Nat} {r:List Nat} (h:(Dn c)[k]?=some r):Sp c=(bp3 c++((Dn c).take k).flatMap Bw)++(r.flatMap Tj++(((Dn c).drop (k+1)).flatMap Bw++c.gat.flatMap Jv)):=by
 obtain⟨j,e⟩:=List.getElem?_eq_some_iff.1 h
 have h2:(Dn c).flatMap Bw=((Dn c).take k).flatMap Bw++(Bw r++((Dn c).drop (k+1)).flatMap Bw):=by
  conv=>lhs;rw[<-List.take_append_drop k (Dn c),List.drop_eq_getElem_cons j,e,List.flatMap_append,List.flatMap_cons]
 rw[AgU];unfold bp4;rw[h2,<-Ls];simp only[List.append_assoc,List.append_nil]
theorem Aho (n:Nat):Tj n=Lib.decDigits n++ [10]:=by unfold Tj By;rfl
theorem Adk (v:Cv) (x:Bp) (w:World) (hr:RdC w v x) (hl:Mx x) (hv:Wy w.heap.size v) (hN:Xz x.c) (hno:AbH x.c) (hgood:Ag x.c) (aV:x.c.ins.length+x.c.lat.length+x.c.gat.length=x.c.max) (ho:Agx x.c) (hfull:(Sp x.c).length<=1000000) (hp:Sr w):
  Calls Tryz.prog 28 #[.agg (Ae x.c.max v)] w λe w'=>e= .returned (.tuple #[tstr (Sp x.c),.bool true])/\Below w.heap.size w w':=by
 have cN:=Ab (λ(W:World) (hb:Below w.heap.size w W) (k:Nat) (hk:k<3)=>AcJ (hr.below hb (Nl _)) hk);have cL:=Ab (λ(W:World) (hb:Below w.heap.size w W) (k:Nat) (s:Sl) (r:List Nat) (h1:(AiO v)[k]?=some (sv s)) (h2:(Dn x.c)[k]?=some r)=>AeW (hr.below hb (Nl _)) h1 h2);have bG:=Ab (λ(W:World) (hb:Below w.heap.size w W)=>AbO v x W (hr.below hb (Nl _)) hl (λad h=>Nat.lt_of_lt_of_le (hv ad h) hb.size) hN hno hgood aV);have hG:=Ab (λ(y:N3) (h:y∈x.c.gat)=>(show y.c<=y.b/\y.b<y.a from hno.low y h));obtain⟨ls,bX⟩:∃ ls,ls=AiO v:=⟨_,rfl⟩;rw[<-bX]at cN cL;obtain⟨⟨A1,M1,C1⟩,⟨A2,M2,C2⟩,⟨A3,M3,C3⟩,⟨A4,M4,C4⟩,⟨A5,M5,C5⟩,⟨A6,M6,C6⟩,⟨A7,M7,C7⟩,cE⟩:=v;simp only[Ae]at bG ⊢;obtain⟨m,hm⟩:∃ m:Nat,m=x.c.max:=⟨_,rfl⟩;rw[<-hm]at bG ⊢;obtain⟨W1,bH,q0,bS⟩:=Bb w #[.int .i64 m,.slice A1 M1 C1,.slice A2 M2 C2,.slice A3 M3 C3,.slice A4 M4 C4,.slice A5 M5 C5,.slice A6 M6 C6,.slice A7 M7 C7,.string cE] 31;obtain⟨cs,bV⟩:∃ cs:Array Value,cs= #[.int .i64 m,.slice A1 M1 C1,.slice A2 M2 C2,.slice A3 M3 C3,.slice A4 M4 C4,.slice A5 M5 C5,.slice A6 M6 C6,.slice A7 M7 C7,.string cE]:=⟨_,rfl⟩;rw[<-bV]at q0;obtain⟨dN,dO,cV,cW,cX,cY,cZ,dP,dQ⟩:=c9k bV;clear bV;have cO:Hid (#[.slice A3 M3 C3,.slice A4 M4 C4,.slice A5 M5 C5]=ls):=Ab (by rw[bX];rfl);clear bX;have n2:M2=x.c.lat.length:=hr.nLat;have n6:M6=x.c.gat.length:=hr.nGat;have l2:=hl.lat;have l6:=hl.gat
 have dV:(m:Int)<=16777216:=by have:=hN.max;omega
 have dR:(M2:Int)<=16777216:=by omega
 have dS:(M6:Int)<=16777216:=by omega
 replace n2:=Ab n2;replace n6:=Ab n6;replace hm:=Ab hm;have O:=Ab hfull;have bZ:=Ab (λW (hb:Below w.heap.size w W)=>hp.below hb);have HN:=Ab (bG.o W1 bS);obtain⟨g0,g1,g2,g3,g4,g5,g6,g7,g8⟩:=c9t q0 dN.o dO.o cV.o cW.o cX.o cY.o cZ.o dP.o dQ.o;have bK:=Ab q0;have aT:=Ab bS;replace bH:=Ab bH;replace aV:=Ab aV;clear q0 bS hfull hp bG hv hN hno l2 l6
 go_enter Tryz.func28,Tryz.ntmps28
 go_upto_region 1 with fail
 rw[bH.o];clear bH
 go_upto_region 3 with(go_at_call 67;refine HN.o.mono ?_;rintro e w7 ⟨rfl,aA⟩;replace aA:=Ab aA)
 have E:Hid (WrD w w7.heap.size 31 cs ([]++(x.c.lat.take 0).flatMap Hh) (w7.alloc (.cells #[.pointer none,.slice none 0 0] 129))):=by
  have e1:=aA.o.size;have e2:=bK.o.lt;have e3:=(bK.o.below aA.o bK.o.lt);have bU:=aT.o.trans (aA.o.mono aT.o.size);exact Ab ⟨⟨AdQ (by have:=bU.size;omega),bU.trans ((Below.refl _ w7).alloc (Nl _) _ |>.mono bU.size)⟩,e3.alloc _,by decide,by omega⟩
 obtain⟨W2,aS⟩:∃ W2,w7.alloc (.cells #[.pointer none,.slice none 0 0] 129)=W2:=⟨_,rfl⟩;rw[aS]at E;obtain⟨bb,aU⟩:∃ bb,w7.heap.size=bb:=⟨_,rfl⟩;rw[aU]at E;replace aS:=Ab aS;replace aU:=Ab aU;clear g0 g1 g2 g3 g4 g5 g6 g7 g8 HN bK aT aA
 go_upto_region 4 with fail
 rw[aS.o,aU.o];clear aS aU;have c2:=(E.o.box.cell 2).trans cV.o;go_wp2;clear c2
 go_loopw [19] (λi wr=>∃ k:Nat,i= .int .i64 k/\k<=M2/\Hid (WrD w bb 31 cs ([]++(x.c.lat.take k).flatMap Hh) wr)) (λi _=>M2-(intOf i).toNat)
 case atStart=>exact⟨0,rfl,Nat.zero_le _,E⟩
 case round=>
  clear E;obtain⟨k,rfl,hk,z⟩:=hrel
  by_cases J:k<M2
  ·have aE:(k:Int)<M2:=by omega
   have bA:=hr.below z.o.m.bel (Nl _);obtain⟨ad,y,rfl,hy,g0,g1,g2⟩:=Ce (show RdT wr A2 M2 (x.c.lat.map t3) from bA.lat) J;obtain⟨v1,v2,v3⟩:=ho.lat y (List.mem_of_getElem? hy);have j:=Ab (AfW (Nat.le_trans (Ks (AoD x.c) hy) O.o));have l:=Ab (Gh (pre:=[]) (f:=Hh) hy);obtain⟨W4,F,U,aB⟩:=Bb wr #[.int .i64 (y.a:Nat),.int .i64 (y.b:Nat),.int .i64 (y.c:Nat)] 59;have aI:=Ab (z.o.after aB);have aW:Hh y=Lib.decDigits y.b++(if y.c=0 then[] else 32::Lib.decDigits y.c)++ [10]:=rfl;rw[aW]at j l;have aC:Hid (wr.heap.size≠bb):=Ab (by have:=z.o.m.lt;omega);replace F:=Ab F;clear bA hy z aB aW;obtain⟨ya,bB⟩:∃ ya,y.a=ya:=⟨_,rfl⟩;obtain⟨D,aF⟩:∃ D,y.b=D:=⟨_,rfl⟩;obtain⟨M,bC⟩:∃ M,y.c=M:=⟨_,rfl⟩;simp only[bB,aF,bC]at j l v1 v2 v3 U g0 g1 g2 F ⊢;have u1:=U.cell 1;clear bB aF bC;obtain⟨X,aR⟩:∃ X,[]++(x.c.lat.take k).flatMap Hh=X:=⟨_,rfl⟩;rw[aR]at aI j l;clear aR;have HB:=Ab (Zl D v2 W4 (bZ.o _ aI.o.m.bel));obtain⟨SB,N⟩:∃ SB:ByteArray,⟨(Lib.decDigits D).toArray⟩=SB:=⟨_,rfl⟩;have cP:Hid (X.length+(Lib.decDigits D).length<=2000000):=Ab (by have:=j.o;simp only[List.length_append]at this;omega);replace N:=Ab N;obtain⟨lb,B⟩:∃ lb,wr.heap.size=lb:=⟨_,rfl⟩;rw[B]at U u1 aC;replace B:=Ab B;replace U:=Ab U
   go_upto_region 7 with fail
   rw[F.o,B.o];clear F g0 g1 g2 B
   go_upto_region 8 with(first|(go_at_call 68;refine HB.o.mono ?_;rintro e w5 ⟨rfl,Z⟩;have bF:=Ab (aI.o.after Z);have b5:=Ab (U.o.below Z U.o.lt))|(go_at_call 64;refine(Jl bF.o.m cP.o).mono ?_;rintro e w6 ⟨⟨nn,rfl⟩,cG,bO⟩;have I:=Ab (bF.o.put cG bO);have b6:=Ab (He bO b5.o aC.o (by decide));clear cG bO))
   have u2:=b6.o.cell 2;clear u1 HB aI U N cP
   by_cases h0:M=0
   ·subst h0;have bY:Hid ((X++Lib.decDigits D).length<=2000000):=Ab (by have:=j.o;simp only[List.length_append]at this ⊢;omega);rw[if_pos rfl]at l
    go_wp2_with (go_at_call 69;refine(AaH (10:UInt8) I.o.m bY.o).mono ?_;rintro e w8 ⟨rfl,bD,bE⟩;have aN:=Ab (I.o.put bD bE))
    rw[show(X++Lib.decDigits D)++ [10]=X++(Lib.decDigits D++ []++ [10]) by simp,<-l.o]at aN;go_roundw
    case rel=>exact⟨k+1,by go_num,J,aN⟩
    case measure=>simp[intOf];omega
   have dT:¬ (M:Int)=0:=by omega
   rw[if_neg h0]at l j;have HC:=Ab (Zl M v3 w6 (bZ.o _ I.o.m.bel));obtain⟨SC,aO⟩:∃ SC:ByteArray,⟨(Lib.decDigits M).toArray⟩=SC:=⟨_,rfl⟩;have aD:=Ab (Rn (show(⟨([32]:Txt).toArray⟩:ByteArray)=⟨#[32]⟩ from rfl) aO);have aZ:Hid (X.length+(Lib.decDigits D).length+(Lib.decDigits M).length+2<=2000000):=Ab (by have:=j.o;simp only[List.length_append,List.length_cons,List.length_nil]at this;omega);have cT:(9223372036854775807<1+SC.size)=False:=Gy (by rw[Jn aO];have:=aZ.o;omega);have bY:Hid ((X++Lib.decDigits D).length+([32]++Lib.decDigits M).length<=2000000):=Ab (by have:=aZ.o;simp only[List.length_append,List.length_cons,List.length_nil];omega);have dK:Hid (((X++Lib.decDigits D)++([32]++Lib.decDigits M)).length<=2000000):=Ab (by have:=aZ.o;simp only[List.length_append,List.length_cons,List.length_nil];omega);dsimp only[tstr]at HC;rw[aO]at HC;replace aO:=Ab aO
   go_wp2_with (first|(go_at_call 68;refine HC.o.mono ?_;rintro e w7 ⟨rfl,aA⟩;have Y:=Ab (I.o.after aA))|(go_at_call 64;rw[aD.o];refine(Jl Y.o.m bY.o).mono ?_;rintro e w8 ⟨⟨nn,rfl⟩,bD,bE⟩;have aN:=Ab (Y.o.put bD bE);clear bD bE)|(go_at_call 69;refine(AaH (10:UInt8) aN.o.m dK.o).mono ?_;rintro e w9 ⟨rfl,dG,dH⟩;have aJ:=Ab (aN.o.put dG dH)))
   rw[show((X++Lib.decDigits D)++([32]++Lib.decDigits M))++ [10]=X++(Lib.decDigits D++(32::Lib.decDigits M)++ [10]) by simp,<-l.o]at aJ;go_roundw
   case rel=>exact⟨k+1,by go_num,J,aJ⟩
   case measure=>simp[intOf];omega
  obtain rfl:M2=k:=by omega
  have aE:¬ (M2:Int)<M2:=by omega
  have bR:WrD w bb 31 cs (bp3 x.c++((Dn x.c).take 0).flatMap Bw) wr:=by
   have h:=z.o;rw[List.take_of_length_le (show x.c.lat.length<=M2 by rw[n2.o];exact Nl _)]at h
   simpa[bp3] using h
  have c3:=(z.o.box.cell 3).trans cW.o;have c4:=(z.o.box.cell 4).trans cX.o;have c5:=(z.o.box.cell 5).trans cY.o;obtain⟨W5,bI,b5,bL⟩:=Bb wr #[.slice A3 M3 C3,.slice A4 M4 C4,.slice A5 M5 C5] 26;have E:=Ab (bR.after bL);have B:Hid (wr.heap.size≠bb):=Ab (by have:=bR.m.lt;omega);rw[cO.o]at b5;have bQ:=Ab b5;obtain⟨lb,aX⟩:∃ lb,wr.heap.size=lb:=⟨_,rfl⟩;rw[aX]at bQ B;replace bI:=Ab bI;have aY:=Ab aX;clear z bR b5 bL aX
  go_upto_region 13 with fail
  rw[bI.o,aY.o];clear bI c3 c4 c5 aY
  go_loopw [45] (λi wr=>∃ k:Nat,i= .int .i64 k/\k<=3/\Hid (WrD w bb 31 cs (bp3 x.c++((Dn x.c).take k).flatMap Bw) wr)/\Hid (Blk wr lb 26 ls)) (λi _=>3-(intOf i).toNat)
  case atStart=>exact⟨0,rfl,Nat.zero_le _,E,bQ⟩
  case round=>
   clear E bQ;obtain⟨k,rfl,hk,z,hB⟩:=hrel
   by_cases J:k<3
   ·have aE:(k:Int)<3:=by omega
    obtain⟨⟨As,Ms,Cs⟩,r,cC,aL,aK⟩:=cN.o wr z.o.m.bel k J;have dM:=Acj hl (List.mem_of_getElem? aL);have cB:=AcB ho (List.mem_of_getElem? aL);have bJ:=Aoz aL;have cM:=Ab (λ(W:World) (hb:Below w.heap.size w W)=>cL.o W hb k _ r cC aL);have bM:=Ab (Gh (pre:=bp3 x.c) (f:=Bw) aL);have cF:=(hB.o.cell k).trans cC;replace aK:Ms=r.length:=aK;obtain⟨R,hR⟩:∃ R,R=r.length:=⟨_,rfl⟩;rw[<-hR]at aK dM;replace aK:=aK.symm;subst aK
    have dU:(R:Int)<=16777216:=by omega
    obtain⟨X,aR⟩:∃ X,bp3 x.c++((Dn x.c).take k).flatMap Bw=X:=⟨_,rfl⟩;rw[aR]at z bJ bM;have cK:Hid (WrD w bb 31 cs (X++(r.take 0).flatMap Tj) wr):=Ab (by simpa using z.o);have cH:=hB;replace cB:=Ab cB;replace bJ:=Ab bJ;replace hR:=Ab hR;dsimp only[sv]at cF cM;clear cC aL z aR hB
    go_upto_region 16 with fail
    clear cF
    go_loopw [51] (λi wr=>∃ q:Nat,i= .int .i64 q/\q<=R/\Hid (WrD w bb 31 cs (X++(r.take q).flatMap Tj) wr)/\Hid (Blk wr lb 26 ls)) (λi _=>R-(intOf i).toNat)
    case atStart=>exact⟨0,rfl,Nat.zero_le _,cK,cH⟩
    case round=>
     clear cK cH;obtain⟨q,rfl,hq,z,hB⟩:=hrel
     by_cases bN:q<R
     ·have cA:(q:Int)<R:=by omega
      obtain⟨ad,y,rfl,_,hy,cy⟩:=(cM.o wr z.o.m.bel).get (f:=λn:Nat=>Value.int .i64 n) bN;have aF:=cB.o y (List.mem_of_getElem? hy);have j:=Ab (AfW (Nat.le_trans (Ks bJ.o hy) O.o));have l:=Ab (Gh (pre:=X) (f:=Tj) hy);have HB:=Ab (Zl y aF wr (bZ.o _ z.o.m.bel));obtain⟨SB,N⟩:∃ SB:ByteArray,⟨(Lib.decDigits y).toArray⟩=SB:=⟨_,rfl⟩;have aD:=Ab (Rn N (show(⟨([10]:Txt).toArray⟩:ByteArray)=⟨#[10]⟩ from rfl));have cT:(9223372036854775807<SB.size+1)=False:=Gy (by rw[Jn N];have:=j.o;rw[Aho]at this;simp only[List.length_append,List.length_cons,List.length_nil]at this;omega);rw[Aho]at j l;dsimp only[tstr]at HB;rw[N]at HB
      have dW:(y:Int)<1000000000:=by omega
      replace N:=Ab N;clear aF hy
      go_wp2_with (first|(go_at_call 68;refine HB.o.mono ?_;rintro e w6 ⟨rfl,A⟩;have I:=Ab (z.o.after A);have dI:=Ab (hB.o.below A hB.o.lt))|(go_at_call 64;rw[aD.o];refine(Jl I.o.m j.o).mono ?_;rintro e w7 ⟨⟨nn,rfl⟩,bP,aM⟩))
      have Y:=Ab (I.o.put bP aM);have dJ:=Ab (He aM dI.o B.o (by decide));rw[<-l.o]at Y;go_roundw
      case rel=>exact⟨q+1,by go_num,bN,Y,dJ⟩
      case measure=>simp[intOf];omega
     obtain rfl:R=q:=by omega
     have cA:¬ (R:Int)<R:=by omega
     have aJ:Hid (WrD w bb 31 cs (bp3 x.c++((Dn x.c).take (k+1)).flatMap Bw) wr):=Ab (by
      have h:=z.o;rw[List.take_of_length_le (by rw[hR.o];exact Nl _),<-Ls,<-bM.o]at h
      exact h)
     clear z;go_wp2;go_roundw
     case rel=>exact⟨k+1,by go_num,J,aJ,hB⟩
     case measure=>simp[intOf];omega
   have bW:k=3:=by omega
   have aE:¬ (k:Int)<3:=by omega
   have E:Hid (WrD w bb 31 cs (bp4 x.c++(x.c.gat.take 0).flatMap Jv) wr):=Ab (by
    have h:=z.o;rw[bW]at h
    simpa[bp4,Dn] using h)
   replace bW:=Ab bW;clear J hk;have c6:=(z.o.box.cell 6).trans cZ.o;clear z hB
   go_upto_region 22 with fail
   clear c6
   go_loopw [64] (λi wr=>∃ k:Nat,i= .int .i64 k/\k<=M6/\Hid (WrD w bb 31 cs (bp4 x.c++(x.c.gat.take k).flatMap Jv) wr)) (λi _=>M6-(intOf i).toNat)
   case atStart=>exact⟨0,rfl,Nat.zero_le _,E⟩
   case round=>
    clear E;obtain⟨k,rfl,hk,z⟩:=hrel
    by_cases J:k<M6
    ·have aE:(k:Int)<M6:=by omega
     have bA:=hr.below z.o.m.bel (Nl _);obtain⟨ad,y,rfl,hy,g0,g1,g2⟩:=Ce (show RdT wr A6 M6 (x.c.gat.map t3) from bA.gat) J;obtain⟨v1,v2,v3⟩:=ho.gat y (List.mem_of_getElem? hy);obtain⟨v4,v5⟩:=hG.o y (List.mem_of_getElem? hy);have j:=Ab (AfW (Nat.le_trans (Ks (AgU x.c) hy) O.o));have l:=Ab (Gh (pre:=bp4 x.c) (f:=Jv) hy);obtain⟨W4,F,U,aB⟩:=Bb wr #[.int .i64 (y.a:Nat),.int .i64 (y.b:Nat),.int .i64 (y.c:Nat)] 62;have aI:=Ab (z.o.after aB);have aC:Hid (wr.heap.size≠bb):=Ab (by have:=z.o.m.lt;omega);have aW:Jv y=My (y.a-y.b)++My (y.b-y.c):=rfl;rw[aW]at j l;replace F:=Ab F;clear bA hy z aB aW;obtain⟨ya,bB⟩:∃ ya,y.a=ya:=⟨_,rfl⟩;obtain⟨D,aF⟩:∃ D,y.b=D:=⟨_,rfl⟩;obtain⟨M,bC⟩:∃ M,y.c=M:=⟨_,rfl⟩;simp only[bB,aF,bC]at j l v1 v2 v3 v4 v5 U g0 g1 g2 F ⊢;clear bB aF bC;have u0:=U.cell 0;have u1:=U.cell 1;have u2:=U.cell 2;obtain⟨lb,B⟩:∃ lb,wr.heap.size=lb:=⟨_,rfl⟩;rw[B]at U u0 u1 u2 aC;replace B:=Ab B;obtain⟨p,hp⟩:∃ p,ya-D=p:=⟨_,rfl⟩;obtain⟨q,hq⟩:∃ q,D-M=q:=⟨_,rfl⟩;rw[hp,hq]at j l
     have dL:IntKind.u32.wrap (IntKind.i64.wrap ((ya:Int)-D))=(p:Nat):=by
      rw[IntWalk.i64_in ((ya:Int)-D) (by omega)]
      show((ya:Int)-D)%4294967296=_
      omega
     have cA:IntKind.u32.wrap (IntKind.i64.wrap ((D:Int)-M))=(q:Nat):=by
      rw[IntWalk.i64_in ((D:Int)-M) (by omega)]
      show((D:Int)-M)%4294967296=_
      omega
     have cQ:Hid (p<4294967296):=Ab (by omega);have cS:Hid (q<4294967296):=Ab (by omega)
     have dX:(ya:Int)<1000000000:=by omega
     have dY:(M:Int)<=D:=by omega
     have dZ:(D:Int)<ya:=by omega
     obtain⟨SP,aP⟩:∃ SP:ByteArray,⟨(My p).toArray⟩=SP:=⟨_,rfl⟩;obtain⟨SQ,aQ⟩:∃ SQ:ByteArray,⟨(My q).toArray⟩=SQ:=⟨_,rfl⟩;have aD:=Ab (Rn aP aQ);have cT:(9223372036854775807<SP.size+SQ.size)=False:=Gy (by rw[Jn aP,Jn aQ];have:=j.o;simp only[List.length_append]at this;omega);have HP:=Ab (λW=>Acl p cQ.o W);have HQ:=Ab (λW=>Acl q cS.o W);dsimp only[tstr]at HP HQ;rw[aP]at HP;rw[aQ]at HQ;replace aP:=Ab aP;replace aQ:=Ab aQ;replace U:=Ab U;clear v1 v2 v3 v4 v5 hp hq
     go_upto_region 24 with fail
     rw[F.o,B.o];clear F g0 g1 g2 B;have cJ:=Ab (aI.o.after ((Dr.refl W4).drew.below _));refine wp_region_held_drew (S:=λW'=>W'.cell? ⟨lb,0,none⟩=some (.int .i64 (ya:Nat))/\W'.cell? ⟨lb,1,none⟩=some (.int .i64 (D:Nat))/\W'.cell? ⟨lb,2,none⟩=some (.int .i64 (M:Nat))) (by kernel_rfl) (⟨u0,u1,u2⟩) (λaH=>?_);refine tk 0 (h:=tk 1 (h:=tk 2 (h:=tk 3 (h:=tk 4 (h:=tk 5 (h:=tk 7 (h:=tk 8 (h:=tk 9 (h:=tk 10 (h:=tk 11 (h:=tk 12 (h:=?_))))))))))));refine rd1 6 λK hK=>?_;go_simp
     try rw[dL]
     refine(HP.o _).mono ?_;rintro e w5 ⟨rfl,Z⟩;have bF:=Ab (cJ.o.after Z);have b5:=Ab ((U.o.dr (Dr.refl W4).drew).below Z U.o.lt);have dA:=keepCell Z u0;have dC:=keepCell Z u1;have dE:=keepCell Z u2;refine hK.o _ _ (⟨dA,dC,dE⟩) (λaH=>?_);clear hK K
     try simp only[Act.put,pt]
     refine rd1 13 λK hK=>?_;go_simp
     try rw[cA]
     refine(HQ.o _).mono ?_;rintro e w6 ⟨rfl,A⟩;have I:=Ab (bF.o.after A);have b6:=Ab (b5.o.below A b5.o.lt);have dB:=keepCell A dA;have dD:=keepCell A dC;have dF:=keepCell A dE;refine hK.o _ _ (⟨dB,dD,dF⟩) (λaH=>?_);refine tk 14 (h:=?_);refine rd1 15 λK hK=>?_;go_simp;rw[aD.o];refine(Jl I.o.m j.o).mono ?_;rintro e w7 ⟨⟨nn,rfl⟩,bP,aM⟩;have Y:=Ab (I.o.put bP aM);have b7:=He aM b6.o aC.o (by decide);refine hK.o _ _ (⟨b7.cell 0,b7.cell 1,b7.cell 2⟩) (λaH=>?_);clear hK K
     try simp only[Act.put,pt]
     refine wpAnyH_done (by kernel_rfl) ?_ _;rw[<-l.o]at Y;go_wp2;go_roundw
     case rel=>exact⟨k+1,by go_num,J,Y⟩
     case measure=>simp[intOf];omega
    obtain rfl:M6=k:=by omega
    have aE:¬ (M6:Int)<M6:=by omega
    have aJ:Hid (WrD w bb 31 cs (Sp x.c) wr):=Ab (by
     have h:=z.o;rw[List.take_of_length_le (show x.c.gat.length<=M6 by rw[n6.o];exact Nl _)]at h;rw[AgU,List.append_nil]
     exact h)
    clear z
    go_wp2_with fail
    refine(built aJ.o.m).mono ?_;rintro e w9 ⟨rfl,bT⟩;replace bT:=Ab bT;go_wp2
    go_ret2
    exact⟨rfl,bT.o⟩
theorem AoB (l:List Sy) (com:Txt):Gb l com= []++(l.flatMap Kx++(if com= [] then[] else 99::10::com)):=rfl
theorem AgY (A:Option Addr) (n c:Nat) (l:List Sy) (com:Txt) (w:World) (hr:RdS w A n 3 (Kv l)) (hn:n<=16777216) (hi:∀ y∈l,y.i<1000000000) (hfull:(Gb l com).length<=1000000) (hp:Sr w):
  Calls Tryz.prog 30 #[.slice A n c,.string (bstr com)] w λe w'=>e= .returned (tstr (Gb l com))/\Below w.heap.size w w':=by
 have aC:n=l.length:=by have:=hr.1;rw[Uu]at this;omega
 have bB:(n:Int)<=16777216:=by omega
 obtain⟨CB,p⟩:∃ CB:ByteArray,⟨com.toArray⟩=CB:=⟨_,rfl⟩
 show Calls Tryz.prog _ #[.slice A n c,.string ⟨com.toArray⟩] w _
 rw[p];have z:=Ab hfull;have aW:=Ab (λW (hb:Below w.heap.size w W)=>hp.below hb);have aB:Hid (WrM w w.heap.size ([]++(l.take 0).flatMap Kx) (w.alloc (.cells #[.pointer none,.slice none 0 0] 129))):=Ab ⟨AdQ (Nl _),(Below.refl _ w).alloc (Nl _) _⟩;obtain⟨W2,I⟩:∃ W2,w.alloc (.cells #[.pointer none,.slice none 0 0] 129)=W2:=⟨_,rfl⟩;rw[I]at aB;replace I:=Ab I;replace aC:=Ab aC;replace p:=Ab p;clear hfull hp
 go_enter Tryz.func30,Tryz.ntmps30
 go_upto_region 2 with fail
 rw[I.o];clear I
 go_upto_region 3 with fail
 go_loopw [10] (λi wr=>∃ k:Nat,i= .int .i64 k/\k<=n/\Hid (WrM w w.heap.size ([]++(l.take k).flatMap Kx) wr)) (λi _=>n-(intOf i).toNat)
 case atStart=>exact⟨0,rfl,Nat.zero_le _,aB⟩
 case round=>
  clear aB;obtain⟨k,rfl,hk,hM⟩:=hrel
  by_cases aP:k<n
  ·have aQ:(k:Int)<n:=by omega
   obtain⟨ad,y,rfl,hy,g0,g1,g2⟩:=We (hr.below hM.o.bel (Nl _)) aP;have aD:=hi y (List.mem_of_getElem? hy);have x:=Ab (Nat.le_trans (Nat.le_trans (Ks (AoB l com) hy) z.o) (show 1000000<=2000000 by omega));have R:=Ab (Gh (pre:=[]) (f:=Kx) hy);have aO:Kx y=y.k::(Lib.decDigits y.i++32::(y.name++ [10])):=rfl;rw[aO]at x R;obtain⟨yk,aR⟩:∃ yk,y.k=yk:=⟨_,rfl⟩;obtain⟨B,Y⟩:∃ B,y.i=B:=⟨_,rfl⟩;obtain⟨Z,aS⟩:∃ Z,y.name=Z:=⟨_,rfl⟩;obtain⟨NB,E⟩:∃ NB:ByteArray,⟨Z.toArray⟩=NB:=⟨_,rfl⟩;simp only[aR,Y,aS,E]at x R aD g0 g1 g2;obtain⟨W4,O,b4,X⟩:=Bb wr #[.int .u8 (bt yk),.int .i64 (B:Nat),.string NB] 65;have aI:=Ab (hM.o.after X);have J:Hid (wr.heap.size≠w.heap.size):=Ab (by have:=hM.o.lt;omega);clear hy hM X aO aR Y aS;obtain⟨T0,aM⟩:∃ T0,[]++(l.take k).flatMap Kx=T0:=⟨_,rfl⟩;rw[aM]at aI x R;clear aM;obtain⟨lb,N⟩:∃ lb,wr.heap.size=lb:=⟨_,rfl⟩;rw[N]at b4 J;have u0:=b4.cell 0;replace N:=Ab N;replace b4:=Ab b4;replace O:=Ab O;have j:Hid (T0.length+(Lib.decDigits B).length+Z.length+3<=2000000):=Ab (by have:=x.o;simp only[List.length_append,List.length_cons,List.length_nil]at this;omega);have aU:Hid (T0.length<=2000000):=Ab (by have:=j.o;omega)
   have bD:(B:Int)<1000000000:=by omega
   obtain⟨SB,F⟩:∃ SB:ByteArray,⟨(Lib.decDigits B).toArray⟩=SB:=⟨_,rfl⟩
   have M:Hid (SB++⟨#[32]⟩++NB++⟨#[10]⟩=⟨(Lib.decDigits B++ [32]++Z++ [10]).toArray⟩):=Ab (by
    have e1:=Rn F (show(⟨([32]:Txt).toArray⟩:ByteArray)=⟨#[32]⟩ from rfl);have e2:=Rn e1.symm E
    exact Rn e2.symm (show(⟨([10]:Txt).toArray⟩:ByteArray)=⟨#[10]⟩ from rfl))
   have s1:=Jn F;have s2:=Jn E;have aX:(9223372036854775807<SB.size+1)=False:=Gy (by have:=j.o;omega);have aY:(9223372036854775807<SB.size+1+NB.size)=False:=Gy (by have:=j.o;omega);have aZ:(9223372036854775807<SB.size+1+NB.size+1)=False:=Gy (by have:=j.o;omega);have aV:Hid ((T0++ [yk]).length+(Lib.decDigits B++ [32]++Z++ [10]).length<=2000000):=Ab (by have:=j.o;simp only[List.length_append,List.length_cons,List.length_nil];omega);have HB:=Ab (λW (hb:Below w.heap.size w W)=>Zl B aD W (aW.o W hb));dsimp only[tstr]at HB;rw[F]at HB;clear s1 s2 aD;replace F:=Ab F;replace E:=Ab E
   go_upto_region 5 with fail
   rw[O.o,N.o];clear O g0 g1 g2 N
   go_upto_region 6 with(go_at_call 69;refine(AaH yk aI.o aU.o).mono ?_;rintro e w5 ⟨rfl,aE,aF⟩;have aJ:=Ab aE;have b5:=Ab (He aF b4.o J.o (by decide));clear aE aF)
   clear u0;have u1:=b5.o.cell 1;have u2:=b5.o.cell 2;have D:=Ab (aJ.o.after ((Dr.refl w5).drew.below _));refine wp_region_held_drew (S:=λW'=>W'.cell? ⟨lb,1,none⟩=some (.int .i64 (B:Nat))/\W'.cell? ⟨lb,2,none⟩=some (.string NB)) (by kernel_rfl) (⟨u1,u2⟩) (λq=>?_);refine tk 0 (h:=tk 1 (h:=tk 4 (h:=tk 5 (h:=?_))));refine rd1 2 λK hK=>?_;go_simp;refine(HB.o _ D.o.bel).mono ?_;rintro e w6 ⟨rfl,aN⟩;have aK:=Ab (D.o.after aN);have b6:=Ab ((b5.o.dr (Dr.refl w5).drew).below aN b5.o.lt);refine hK.o _ _ (⟨b6.o.cell 1,b6.o.cell 2⟩) (λq=>?_);refine tk 3 (h:=tk 6 (h:=tk 7 (h:=?_)));refine rd1 8 λK hK=>?_;go_simp;rw[M.o];refine(Jl aK.o aV.o).mono ?_;rintro e w7 ⟨⟨nn,rfl⟩,m,aA⟩;have b7:=Ab (He aA b6.o J.o (by decide));refine hK.o _ _ (⟨b7.o.cell 1,b7.o.cell 2⟩) (λq=>?_);clear hK K
   try simp only[Act.put,pt]
   refine wpAnyH_done (by kernel_rfl) ?_ _
   have aT:Hid (WrM w w.heap.size ([]++(l.take (k+1)).flatMap Kx) w7):=Ab (by
    rw[R.o];rw[show(T0++ [yk])++(Lib.decDigits B++ [32]++Z++ [10])=T0++(yk::(Lib.decDigits B++32::(Z++ [10]))) by simp]at m
    exact m)
   clear m aA b7 b6 aK aJ D q;go_wp2;go_roundw
   case rel=>exact⟨k+1,by go_num,aP,aT⟩
   case measure=>simp[intOf];omega
  obtain rfl:n=k:=by omega
  have aQ:¬ (n:Int)<n:=by omega
  have aL:Hid (WrM w w.heap.size (l.flatMap Kx) wr):=Ab (by
   have h:=hM.o;rw[List.take_of_length_le (by rw[<-aC.o];exact Nl _)]at h
   exact h)
  clear hM
  by_cases hc:com= []
  ·subst hc;have aH:CB=⟨#[]⟩:=p.o.symm;subst aH;have U:Hid (Gb l []=l.flatMap Kx):=Ab (by unfold Gb;simp)
   go_wp2_with fail
   refine(built aL.o).mono ?_;rintro e w9 ⟨rfl,r⟩;replace r:=Ab r;go_wp2;go_ret
   exact⟨by rw[U.o];rfl,r.o⟩
  have bA:CB.toList.isEmpty=false:=by
   rw[<-p.o,ByteArray.toList_mk]
   cases com with
   |nil=>exact absurd rfl hc
   |cons _ _=>rfl
  have U:Hid (Gb l com=l.flatMap Kx++([99,10]++com)):=Ab (by unfold Gb;rw[if_neg hc];rfl);have M:=Ab (Rn (show(⟨([99,10]:Txt).toArray⟩:ByteArray)=⟨#[99,10]⟩ from rfl) p.o);have j:Hid ((l.flatMap Kx).length+([99,10]++com).length<=2000000):=Ab (by have:=z.o;rw[U.o,List.length_append]at this;omega);have bC:(9223372036854775807<2+CB.size)=False:=Gy (by rw[Jn p.o];have:=j.o;simp only[List.length_append,List.length_cons,List.length_nil]at this;omega)
  go_wp2_with (go_at_call 64;rw[M.o];refine(Jl aL.o j.o).mono ?_;rintro e w7 ⟨⟨nn,rfl⟩,m,aA⟩;replace m:=Ab m)
  refine(built m.o).mono ?_;rintro e w9 ⟨rfl,r⟩;replace r:=Ab r;go_wp2;go_ret
  exact⟨by rw[U.o];rfl,r.o⟩
structure GdM (h:Hd) (w:World) (n0:Nat) (W:World) (ks:List Th) (ml:List (Th×Value)):Prop where
 hd:Blk W n0 47 (Bt h)
 map:Ds W encS (n0+1) ml
 seen:Xd ml ks
 bel:Below n0 w W
theorem GdM.after {h:Hd} {w W W':World} {n0:Nat} {ks:List Th} {ml:List (Th×Value)} (hM:GdM h w n0 W ks ml) (hb:Below W.heap.size W W'):GdM h w n0 W' ks ml:=
 ⟨hM.hd.below hb hM.hd.lt,hM.map.below hb hM.map.lt,hM.seen,hM.bel.trans (hb.mono (Nat.le_of_lt hM.hd.lt))⟩
theorem GdM.put {h:Hd} {w W W':World} {n0:Nat} {ks:List Th} {ml:List (Th×Value)} {x:Th} (hM:GdM h w n0 W ks ml) (hn:w.heap.size=n0) (hm:Ds W' encS (n0+1) (mput ml x (.bool true))) (hg:W.grownBy W' (some (n0+1))):GdM h w n0 W' (ks++ [x]) (mput ml x (.bool true)):=by
 have j:Fr (λk=>k=n0+1) W W':=Fr.of_grown hg (λk l=> .inl (Option.some.inj l).symm)
 exact⟨j.blk hM.hd (by omega),hm,hM.seen.put _,hM.bel.trans (j.below (by have:=hM.bel.size;omega) (λk l=>by omega))⟩
theorem AjY (h:Hd) (A:Option Addr) (n c:Nat) (l:List Sy) (w:World) (hr:RdS w A n 3 (Kv l)) (hn:n<=16777216) (hs:∀ y∈l,Or h y) (h1:(l.map Oy).Nodup):
  Calls Tryz.prog 26 #[.agg (Bt h),.slice A n c] w λe w'=>e= .returned (.bool true)/\Below w.heap.size w w':=by
 have bU:n=l.length:=by have:=hr.1;rw[Uu]at this;omega
 have cX:(n:Int)<=16777216:=by omega
 obtain⟨W1,F,b0,bK⟩:=Bb w (Bt h) 47
 have bB:W1.heap.size=w.heap.size+1:=by rw[<-F];simp
 have hm:=Ds.made W1 encS;have aX:=(Below.refl W1.heap.size W1).alloc (Nl _) (.map #[] 0);rw[bB]at hm;have aW:Hid (GdM h w w.heap.size (W1.alloc (.map #[] 0)) ((l.take 0).map Oy) []):=Ab ⟨b0.below aX b0.lt,hm,λx=>by simp[mget],bK.trans (aX.mono (by omega))⟩;have cH:= @run_makeMap Tryz.prog;obtain⟨W2,I⟩:∃ W2,W1.alloc (.map #[] 0)=W2:=⟨_,rfl⟩;rw[I]at aW;have aJ:=Ab bB;replace F:=Ab F;replace I:=Ab I;clear hm aX b0 bK bB;replace bU:=Ab bU;generalize bT:w.heap.size=N at*
 go_enter Tryz.func26,Tryz.ntmps26
 go_upto_region 1 with fail
 rw[F.o];clear F
 go_upto_region 2 with fail
 rw[I.o,aJ.o];clear I cH aJ
 go_upto_region 3 with fail
 go_loopw [11] (λi wr=>∃ k:Nat,i= .int .i64 k/\k<=n/\Hid (∃ml,GdM h w N wr ((l.take k).map Oy) ml)) (λi _=>n-(intOf i).toNat)
 case atStart=>exact⟨0,rfl,Nat.zero_le _,Ab ⟨_,aW.o⟩⟩
 case round=>
  clear aW;obtain⟨k,rfl,hk,hM⟩:=hrel;obtain⟨ml,hM⟩:=hM.o
  by_cases bQ:k<n
  ·have bR:(k:Int)<n:=by omega
   obtain⟨ad,y,rfl,hy,g0,g1,g2⟩:=We (hr.below hM.bel (by omega)) bQ;obtain⟨cK,bV,bW,bA,aZ,aI⟩:=hs y (List.mem_of_getElem? hy)
   have J:(y.k,y.i)∉(l.take k).map Oy:=by
    intro bS
    have e1:(l.map Oy)[k]?=some (y.k,y.i):=by rw[List.getElem?_map,hy];rfl
    obtain⟨j,hj⟩:=List.mem_iff_getElem?.1 bS;rw[List.getElem?_map,List.getElem?_take]at hj
    split at hj
    ·rename_i hjk
     have e2:(l.map Oy)[j]?=some (y.k,y.i):=by rw[List.getElem?_map];exact hj
     have cV:=(List.getElem?_eq_some_iff.1 e1).1;exact absurd ((List.getElem?_inj (by omega:j<(l.map Oy).length) h1).1 (e2.trans e1.symm)) (by omega)
    cases hj
   have R:(l.take (k+1)).map Oy=(l.take k).map Oy++ [(y.k,y.i)]:=by rw[Cy hy,List.map_append];rfl
   obtain⟨B,bY⟩:∃ B,y.k=B:=⟨_,rfl⟩;obtain⟨z,bX⟩:∃ z,y.i=z:=⟨_,rfl⟩;obtain⟨yn,bZ⟩:∃ yn,y.name=yn:=⟨_,rfl⟩;obtain⟨D,E⟩:∃ D:ByteArray,⟨yn.toArray⟩=D:=⟨_,rfl⟩;simp only[bY,bX,bZ,E]at g0 g1 g2 bV bW bA aZ aI J R;have M:=hM.seen (B,z);rw[decide_eq_false J]at M;obtain⟨W4,O,U,aF⟩:=Bb wr #[.int .u8 (bt B),.int .i64 (z:Nat),.string D] 65;have bF:=Ab (hM.after aF);obtain⟨lb,aY⟩:∃ lb,wr.heap.size=lb:=⟨_,rfl⟩;have cJ:=hM.map.lt;have cN:Hid (lb≠N+1):=Ab (by omega);rw[aY]at U;have u0:=U.cell 0;have u1:=U.cell 1;have u2:=U.cell 2;have bN:=bF.o.hd;obtain⟨d0,d1,d2,d3,d4,d5,d6,d7⟩:=c8c bN
   have cQ:D.toList.isEmpty=false:=by
    rw[<-E,ByteArray.toList_mk]
    cases yn with
    |nil=>exact absurd rfl bA
    |cons _ _=>rfl
   have cL:(D.size:Int)<=64:=by rw[Jn E];omega
   have bP:Hid (∀W,Calls Tryz.prog 63 #[.string D,.int .u8 10] W λe w'=>e= .returned (.int .i64 (-1))/\W=w'):=Ab (λW=>(Tryz.strings_IndexByte D 10 W).mono (λe w' hh=>⟨by
    rw[hh.1]
    have e1:Lib.indexByte D.data.toList ((10:Int).toNat.toUInt8)= -1:=by
     have hx:=Ov yn 10;have cY:=hx.1.2 (λhm=>aZ 10 hm rfl);have cZ:=hx.2;rw[<-E]
     show Lib.indexByte yn 10= -1
     omega
    rw[e1],hh.2.symm⟩))
   have cF:(z:Int)<countK h B:=by omega
   have cS:¬ (z:Int)<0:=by omega
   obtain⟨cn,bM⟩:∃ cn,countK h B=cn:=⟨_,rfl⟩;have aN:=Ab (λW=>Abb h B W);rw[bM]at cF aN
   have cO:(z:Int)<1000000000:=by omega
   have bO:z<cn:=by omega
   have cT:decide (cn<=z)=false:=decide_eq_false (by omega);have cM:decide (64<(D.size:Int))=false:=decide_eq_false (by omega);replace O:=Ab O;replace U:=Ab U;replace R:=Ab R;have aH:=Ab aY;have cP:=AeG B;clear hM aF bN bY bX bZ E cK bV bW bA aZ aI J hy aY cJ bM
   go_upto_region 5 with fail
   rw[O.o,aH.o];clear O aH g0 g1 g2;have bG:=Ab (bF.o.after ((Dr.refl W4).drew.below _));simp only[Bt]at aN d0 d1 d2 d3 d4 d5 d6 d7;refine wp_region_held_drew (S:=λW'=>W'.cell? ⟨lb,0,none⟩=some (.int .u8 (bt B))/\W'.cell? ⟨lb,1,none⟩=some (.int .i64 (z:Nat))/\W'.cell? ⟨lb,2,none⟩=some (.string D)/\W'.cell? ⟨N,0,none⟩=some (.bool h.bin)/\W'.cell? ⟨N,1,none⟩=some (.int .i64 (h.m:Nat))/\W'.cell? ⟨N,2,none⟩=some (.int .i64 (h.i:Nat))/\W'.cell? ⟨N,3,none⟩=some (.int .i64 (h.l:Nat))/\W'.cell? ⟨N,4,none⟩=some (.int .i64 (h.o:Nat))/\W'.cell? ⟨N,5,none⟩=some (.int .i64 (h.a:Nat))/\W'.cell? ⟨N,6,none⟩=some (.int .i64 (h.b:Nat))/\W'.cell? ⟨N,7,none⟩=some (.int .i64 (h.c:Nat))) (by kernel_rfl) (⟨u0,u1,u2,d0,d1,d2,d3,d4,d5,d6,d7⟩) (λr=>?_);refine tk 0 (h:=tk 1 (h:=tk 2 (h:=tk 3 (h:=tk 4 (h:=tk 5 (h:=tk 6 (h:=tk 7 (h:=tk 8 (h:=?_)))))))));refine rd1 9 λK hK=>?_;go_simp;refine(aN.o _).mono ?_;rintro e w5 ⟨rfl,p⟩;have cB:=Ab (bG.o.after p);have b5:=Ab ((U.o.dr (Dr.refl W4).drew).below p U.o.lt);have bC:=keepCell p u0;have bD:=keepCell p u1;have bE:=keepCell p u2;have aO:=keepCell p d0;have aP:=keepCell p d1;have aQ:=keepCell p d2;have aR:=keepCell p d3;have aS:=keepCell p d4;have aT:=keepCell p d5;have aU:=keepCell p d6;have aV:=keepCell p d7;refine hK.o _ _ (⟨bC,bD,bE,aO,aP,aQ,aR,aS,aT,aU,aV⟩) (λr=>?_);refine tk 10 (h:=tk 11 (h:=tk 12 (h:=tk 13 (h:=tk 14 (h:=tk 15 (h:=tk 16 (h:=tk 17 (h:=tk 18 (h:=tk 19 (h:=tk 20 (h:=tk 21 (h:=tk 22 (h:=tk 23 (h:=tk 24 (h:=tk 25 (h:=?_))))))))))))))));refine rd1 26 λK hK=>?_;go_simp
   try rw[if_pos bO]
   refine(bP.o _).mono ?_;rintro e w6 ⟨rfl,rfl⟩;refine hK.o _ _ (⟨bC,bD,bE,aO,aP,aQ,aR,aS,aT,aU,aV⟩) (λr=>?_);refine tk 27 (h:=tk 28 (h:=tk 29 (h:=tk 30 (h:=tk 31 (h:=?_)))));refine rd1 32 λK hK=>?_;go_simp
   try rw[if_pos bO]
   refine(Lw _ _ _ _).mono ?_;rintro e w7 ⟨rfl,q⟩;have bH:=Ab (cB.o.after q);have b7:=Ab (b5.o.below q b5.o.lt);have aK:=keepCell q bC;have aL:=keepCell q bD;have aM:=keepCell q bE;have X:=keepCell q aO;have Y:=keepCell q aP;have Z:=keepCell q aQ;have aA:=keepCell q aR;have aB:=keepCell q aS;have aC:=keepCell q aT;have aD:=keepCell q aU;have aE:=keepCell q aV;refine hK.o _ _ (⟨aK,aL,aM,X,Y,Z,aA,aB,aC,aD,aE⟩) (λr=>?_);clear hK K
   try simp only[Act.put,pt]
   refine rd1 33 λK hK=>?_
   have cW:(Instr.lookup 109 (.map (some (N+1))) (.agg #[.int .u8 (bt B),.int .i64 (z:Nat),.string ByteArray.empty]) false).run Tryz.prog w7= .ok (.bool false) w7:=by have h0:=Rk Qx AeM So bH.o.map.toO (B,z);rw[M]at h0;exact h0
   go_simp;refine hK.o _ _ (⟨aK,aL,aM,X,Y,Z,aA,aB,aC,aD,aE⟩) (λr=>?_);refine tk 34 (h:=?_);refine wpAnyH_done (by kernel_rfl) ?_ _;clear r;have cA:=Ab (Lw (bt B) (z:Nat) D w7)
   go_upto_region 8 with(first|(go_at_call 49;refine cA.o.mono ?_;rintro e w8 ⟨rfl,cC⟩;have bI:=Ab (bH.o.after cC))|(at_mapUpdate;refine Jg Qx AeM rfl _ _ _ rfl bI.o.map (B,z) (.bool true) (by rfl) (by rfl) (by rfl) ?_;intro w9 cG cE dA))
   have bJ:=Ab (bI.o.put bT cG cE);rw[<-R.o]at bJ;go_wp2;go_roundw
   case rel=>exact⟨k+1,by go_num,bQ,Ab ⟨_,bJ.o⟩⟩
   case measure=>simp[intOf];omega
  obtain rfl:n=k:=by omega
  have bR:¬ (n:Int)<n:=by omega
  have bL:=Ab hM.bel;go_wp2;go_ret
  exact⟨rfl,by first|exact bL.o|(rw[bT];exact bL.o)⟩
structure AdF (x:Bp) (bin:Bool):Prop where
 good:Ag x.c
 file:Qm x bin
 num:Xz x.c
 cnt:bin=true->x.c.ins.length+x.c.lat.length+x.c.gat.length=x.c.max
 alen:(Ew x.c).length<=1000000
 flen:(Km x bin).length<=1000000
theorem Fz {P:Program} {ops:Array Oper} {rest:List Oper} {o:Oper} {a:Act} {w:World} {Q:Exit->Act->World->Prop} (hgd:o.guard=none) (ty:TypeId) (x y:Operand) (ho:o.op= .store ty x y)
  (g:Nat) (cells:Array Value) (hx:a.eval x= .pointer (some ⟨g,0,none⟩)) (hy:a.eval y= .agg cells)
  (t:TypeId) (old:Array Value) (hg:w.heap[g]?=some (.cells old t (0,0))) (hi:(P.info? ty).map (·.size)=some cells.size)
  (hold:old.size=cells.size) (h1:cells.all (·.oneCell')=true)
  (h:wpList P ops Q rest (a.put o.dst undef) (w.setRow g cells)):wpList P ops Q (o::rest) a w:=
 wpList_plain hgd λ_ j=>wp_store_row ty x y ho g cells hx hy t old hg hi hold h1 (j _ _ h)
structure PtM (w:World) (cs hc:Array Value) (g:Nat) (W:World):Prop where
 box:Blk W w.heap.size 31 cs
 hd:Blk W g 47 hc
 bel:Below w.heap.size w W
theorem PtM.after {w W W':World} {cs hc:Array Value} {g:Nat} (h:PtM w cs hc g W) (hb:Below W.heap.size W W'):PtM w cs hc g W':=
 ⟨h.box.below hb h.box.lt,h.hd.below hb h.hd.lt,h.bel.trans (hb.mono h.bel.size)⟩
theorem Yf (v:Cv) (x:Bp) (bin:Bool) (w:World) (hr:RdC w v x) (hl:Mx x) (hv:Wy w.heap.size v) (hok:AdF x bin) (hp:Sr w):
  Calls Tryz.prog 8 #[.agg (Ae x.c.max v),.bool bin] w λe w'=>e= .returned (.tuple #[tstr (Km x bin),.int .i64 0])/\Below w.heap.size w w':=by
 have cM:Agx x.c:=Agx.of hok.file.top;have aH:Km x bin=Fl (Db x.c bin)++((if bin then Sp x.c else Ew x.c)++Gb x.sym x.com):=rfl;have Y:=hok.flen;rw[aH,List.length_append,List.length_append]at Y
 have cN:v.sym.n<=16777216:=by rw[hr.nSym];exact Nat.le_trans hl.sym (by omega)
 have Z:=λ(W:World) (hb:Below w.heap.size w W)=>hr.below hb (Nl _);have cO:=λ(W:World) (hb:Below w.heap.size w W)=>(λad h=>Nat.lt_of_lt_of_le (hv ad h) hb.size:Wy W.heap.size v);have bW:=Ab (λ(W:World) (hb:Below w.heap.size w W)=>Mn v x W (Z W hb) hl (cO W hb) hok.num);have aI:=Ab (λ(W:World) (hb:Below w.heap.size w W)=>AdK x.c.max v x bin W (Z W hb) rfl);have bX:=Ab (λ(W:World) (hb:Below w.heap.size w W)=>AjY (Db x.c bin) v.sym.A v.sym.n v.sym.c x.sym W (Z W hb).sym cN hok.file.sym hok.file.one);have aD:=Ab (λ(W:World) (hb:Below w.heap.size w W)=>AeJ x.c.max v x W (Z W hb) hl cM hok.alen (hp.below hb));have aE:=Ab (λ(W:World) (hb:Below w.heap.size w W) (hbin:bin=true)=>Adk v x W (Z W hb) hl (cO W hb) hok.num (hok.file.norm hbin) hok.good (hok.cnt hbin) cM (by rw[hbin,if_pos rfl]at Y;omega) (hp.below hb))
 have aJ:=Ab (λ(W:World) (hb:Below w.heap.size w W)=>Yy (Db x.c bin) W (by
  intro y hy;have q:=hok.file.hd;have h1:=q.m;have h2:=q.i;have h3:=q.l;have h4:=q.o;have h5:=q.a;have h6:=q.b;have h7:=q.c;unfold Bm at hy
  split at hy
  all_goals (try split at hy)
  all_goals (simp at hy;omega)) (hp.below hb))
 have aF:=Ab (λ(W:World) (hb:Below w.heap.size w W)=>AgY v.sym.A v.sym.n v.sym.c x.sym x.com W (Z W hb).sym cN (λy hy=>(hok.file.sym y hy).small) (by omega) (hp.below hb));have cJ:=Ab hok.good;have aC:=hr.com;obtain⟨⟨A1,M1,C1⟩,⟨A2,M2,C2⟩,⟨A3,M3,C3⟩,⟨A4,M4,C4⟩,⟨A5,M5,C5⟩,⟨A6,M6,C6⟩,⟨A7,M7,C7⟩,bY⟩:=v;dsimp only at bX aF aC;rw[<-aC]at aF;simp only[Ae]at bW aI aD aE ⊢;obtain⟨m,hm⟩:∃ m:Nat,m=x.c.max:=⟨_,rfl⟩;rw[<-hm]at bW aI aD aE ⊢;obtain⟨q,cK⟩:∃ q,Db x.c bin=q:=⟨_,rfl⟩;rw[cK]at aI bX aJ Y aH
 have dC:(m:Int)<=16777216:=by have:=hok.num.max;omega
 obtain⟨SH,U⟩:∃ SH:ByteArray,⟨(Fl q).toArray⟩=SH:=⟨_,rfl⟩;obtain⟨SA,bG⟩:∃ SA:ByteArray,⟨(Ew x.c).toArray⟩=SA:=⟨_,rfl⟩;obtain⟨SB,bH⟩:∃ SB:ByteArray,⟨(Sp x.c).toArray⟩=SB:=⟨_,rfl⟩;obtain⟨ST,X⟩:∃ ST:ByteArray,⟨(Gb x.sym x.com).toArray⟩=ST:=⟨_,rfl⟩;dsimp only[tstr]at aJ aF aD aE;simp only[U]at aJ;simp only[bG]at aD;simp only[bH]at aE;simp only[X]at aF;replace U:=Ab U;replace bG:=Ab bG;replace bH:=Ab bH;replace X:=Ab X;obtain⟨W1,cB,q0,cF⟩:=Bb w #[.int .i64 m,.slice A1 M1 C1,.slice A2 M2 C2,.slice A3 M3 C3,.slice A4 M4 C4,.slice A5 M5 C5,.slice A6 M6 C6,.slice A7 M7 C7,.string bY] 31;obtain⟨cs,cH⟩:∃ cs:Array Value,cs= #[.int .i64 m,.slice A1 M1 C1,.slice A2 M2 C2,.slice A3 M3 C3,.slice A4 M4 C4,.slice A5 M5 C5,.slice A6 M6 C6,.slice A7 M7 C7,.string bY]:=⟨_,rfl⟩;rw[<-cH]at q0;obtain⟨bP,bQ,bR,bS,bT,bU,bV,aA,aB⟩:=c9k cH;clear cH;obtain⟨g0,g1,g2,g3,g4,g5,g6,N,O⟩:=c9t (q0) bP.o bQ.o bR.o bS.o bT.o bU.o bV.o aA.o aB.o;have HC:=Ab (bW.o W1 cF);have cP:=Ab q0;have bK:=Ab cF;replace cB:=Ab cB;replace Y:=Ab Y;replace aH:=Ab aH;replace hm:=Ab hm;replace cK:=Ab cK;replace aC:=Ab aC;replace hr:=Ab hr;clear q0 cF Z cO hp hv cM cN bW
 go_enter Tryz.func8,Tryz.ntmps8
 go_upto_region 1 with fail
 rw[cB.o];clear cB
 go_upto_region 4 with(go_at_call 17;refine HC.o.mono ?_;rintro e w2 ⟨r,rfl,cS,bL⟩;obtain rfl:=cS.2 cJ.o;clear cS;replace bL:=Ab bL)
 have D:=Ab (bK.o.trans (bL.o.mono bK.o.size));have q2:=Ab (cP.o.below bL.o cP.o.lt);clear g0 g1 g2 g3 g4 g5 g6 N O HC;obtain⟨g0,g1,g2,g3,g4,g5,g6,N,O⟩:=c9t (q2.o) bP.o bQ.o bR.o bS.o bT.o bU.o bV.o aA.o aB.o;have HH:=Ab (aI.o w2 D.o)
 go_wp2_with fail
 refine HH.o.mono ?_;rintro e w3 ⟨rfl,bM⟩;replace bM:=Ab bM;clear g0 g1 g2 g3 g4 g5 g6 N O HH aI;obtain⟨Wz,bJ,hq,bO⟩:=Bb w3 #[.bool false,.int .i64 0,.int .i64 0,.int .i64 0,.int .i64 0,.int .i64 0,.int .i64 0,.int .i64 0] 47;have cQ:=Ab hq;replace bO:=Ab bO
 have R:Hid (PtM w cs (Bt q) w3.heap.size (Wz.setRow w3.heap.size (Bt q))):=by
  have q3:=q2.o.below bM.o q2.o.lt;have bN:=D.o.trans (bM.o.mono D.o.size);have dB:=q3.lt;have cT:=bN.size;have B:=bN.trans (bO.o.mono cT);refine Ab ⟨?_,setRow_heap _ _ _ _ _ _ hq,{os:=B.os,tape:=B.tape,output:=B.output,size:=by rw[setRow_size];exact B.size,block:=λk hk=>(setRow_other _ _ _ _ (by omega)).trans (B.block k hk)}⟩
  exact(setRow_other _ _ _ _ (by omega)).trans (q3.below bO.o q3.lt)
 clear hq;replace bJ:=Ab bJ
 go_upto_region 5 with(refine Fz rfl 47 _ _ rfl w3.heap.size (Bt q) (by rfl) (by rfl) 47 #[.bool false,.int .i64 0,.int .i64 0,.int .i64 0,.int .i64 0,.int .i64 0,.int .i64 0,.int .i64 0] (by rw[bJ.o];exact cQ.o) (by kernel_rfl) (by rfl) (by simp[Value.oneCell']) ?_;rw[bJ.o])
 clear bJ cQ bO;obtain⟨W4,cE⟩:∃ W4,Wz.setRow w3.heap.size (Bt q)=W4:=⟨_,rfl⟩;obtain⟨E,cL⟩:∃ E,w3.heap.size=E:=⟨_,rfl⟩;rw[cE,cL]at R
 try rw[cE,cL]
 clear bL bM q2 D cP bK cE cL;obtain⟨g0,g1,g2,g3,g4,g5,g6,N,O⟩:=c9t (R.o.box) bP.o bQ.o bR.o bS.o bT.o bU.o bV.o aA.o aB.o;obtain⟨d0,d1,d2,d3,d4,d5,d6,d7⟩:=c8d R.o.hd;have HG:=Ab (bX.o W4 R.o.bel)
 go_upto_region 7 with(first|(go_at_call 26;refine HG.o.mono ?_;rintro e w5 ⟨rfl,cY⟩;have bZ:=Ab (R.o.after cY))|(refine wpList_load_row rfl 47 _ rfl E (by rfl) 47 (Bt q) (0,0) _ R.o.hd Tryz.underlying47 (by rfl) (by kernel_rfl) ?_))
 clear g0 g1 g2 g3 g4 g5 g6 N O d0 d1 d2 d3 d4 d5 d6 d7 HG bX R;obtain⟨g0,g1,g2,g3,g4,g5,g6,N,O⟩:=c9t (bZ.o.box) bP.o bQ.o bR.o bS.o bT.o bU.o bV.o aA.o aB.o;have HA:=Ab (aD.o w5 bZ.o.bel)
 go_upto_region 8 with(go_at_call 27;refine HA.o.mono ?_;rintro e w6 ⟨rfl,cZ⟩;have F:=Ab (bZ.o.after cZ))
 clear g0 g1 g2 g3 g4 g5 g6 N O HA aD bZ
 cases bin with
 |false=>
  have I:=Rn (Rn U.o bG.o).symm X.o;have J:Hid (tstr (Km x false)= .string (SH++SA++ST)):=Ab (by rw[I,aH.o];simp);have M:=Y.o;have s1:=Jn U.o;have s2:=Jn bG.o;have s3:=Jn X.o;simp only[if_true,if_false,Bool.false_eq_true]at M;have cV:(9223372036854775807<SH.size+SA.size)=False:=Gy (by omega);have cW:(9223372036854775807<SH.size+SA.size+ST.size)=False:=Gy (by omega);have bI:Hid ((SH++SA++ST).size<=1000000):=Ab (by simp only[ByteArray.size_append];omega);clear I M s1 s2 s3;obtain⟨d0,d1,d2,d3,d4,d5,d6,d7⟩:=c8d F.o.hd;have N:=(F.o.box.cell 7).trans aA.o;have O:=(F.o.box.cell 8).trans aB.o;have bF:=Ab (F.o.after ((Dr.refl w6).drew.below _))
  go_upto_region 12 with fail
  refine wp_region_held_drew (S:=λW'=>W'.cell? ⟨E,0,none⟩=some (.bool q.bin)/\W'.cell? ⟨E,1,none⟩=some (.int .i64 (q.m:Nat))/\W'.cell? ⟨E,2,none⟩=some (.int .i64 (q.i:Nat))/\W'.cell? ⟨E,3,none⟩=some (.int .i64 (q.l:Nat))/\W'.cell? ⟨E,4,none⟩=some (.int .i64 (q.o:Nat))/\W'.cell? ⟨E,5,none⟩=some (.int .i64 (q.a:Nat))/\W'.cell? ⟨E,6,none⟩=some (.int .i64 (q.b:Nat))/\W'.cell? ⟨E,7,none⟩=some (.int .i64 (q.c:Nat))/\W'.cell? ⟨w.heap.size,7,none⟩=some (.slice A7 M7 C7)/\W'.cell? ⟨w.heap.size,8,none⟩=some (.string bY)) (by kernel_rfl) (⟨d0,d1,d2,d3,d4,d5,d6,d7,N,O⟩) (λz=>?_);refine tk 0 (h:=tk 2 (h:=tk 4 (h:=tk 5 (h:=tk 6 (h:=tk 7 (h:=?_))))));refine rd1 1 λK hK=>?_;go_simp;refine(aJ.o _ bF.o.bel).mono ?_;rintro e w8 ⟨rfl,j⟩;have bE:=Ab (bF.o.after j);have aK:=keepCell j d0;have aM:=keepCell j d1;have aO:=keepCell j d2;have aQ:=keepCell j d3;have aS:=keepCell j d4;have aU:=keepCell j d5;have aW:=keepCell j d6;have aY:=keepCell j d7;have bA:=keepCell j N;have bC:=keepCell j O;refine hK.o _ _ (⟨aK,aM,aO,aQ,aS,aU,aW,aY,bA,bC⟩) (λz=>?_);refine tk 3 (h:=?_);refine rd1 8 λK hK=>?_;go_simp;refine(aF.o _ bE.o.bel).mono ?_;rintro e w9 ⟨rfl,p⟩;have cC:=Ab (bE.o.after p);have aL:=keepCell p aK;have aN:=keepCell p aM;have aP:=keepCell p aO;have aR:=keepCell p aQ;have aT:=keepCell p aS;have aV:=keepCell p aU;have aX:=keepCell p aW;have aZ:=keepCell p aY;have bB:=keepCell p bA;have bD:=keepCell p bC;refine hK.o _ _ (⟨aL,aN,aP,aR,aT,aV,aX,aZ,bB,bD⟩) (λz=>?_);refine tk 9 (h:=tk 10 (h:=?_));refine wpAnyH_done (by kernel_rfl) ?_ _;clear z;have cG:=Ab cC.o.bel;obtain⟨S,hS⟩:∃ S:ByteArray,SH++SA++ST=S:=⟨_,rfl⟩;rw[hS]at bI J
  try rw[hS]
  have cX:(S.size:Int)<=1000000:=by have:=bI.o;omega
  go_wp2
  go_ret2
  exact⟨by rw[J.o];rfl,cG.o⟩
 |true=>
  obtain⟨g0,g1,g2,g3,g4,g5,g6,N,O⟩:=c9t (F.o.box) bP.o bQ.o bR.o bS.o bT.o bU.o bV.o aA.o aB.o;have HB:=Ab (aE.o w6 F.o.bel rfl)
  go_upto_region 10 with(go_at_call 28;refine HB.o.mono ?_;rintro e w7 ⟨rfl,dA⟩;have cA:=Ab (F.o.after dA))
  clear g0 g1 g2 g3 g4 g5 g6 N O HB aE F;have I:=Rn (Rn U.o bH.o).symm X.o;have J:Hid (tstr (Km x true)= .string (SH++SB++ST)):=Ab (by rw[I,aH.o];simp);have M:=Y.o;have s1:=Jn U.o;have s2:=Jn bH.o;have s3:=Jn X.o;simp only[if_true,if_false,Bool.false_eq_true]at M;have cV:(9223372036854775807<SH.size+SB.size)=False:=Gy (by omega);have cW:(9223372036854775807<SH.size+SB.size+ST.size)=False:=Gy (by omega);have bI:Hid ((SH++SB++ST).size<=1000000):=Ab (by simp only[ByteArray.size_append];omega);clear I M s1 s2 s3;obtain⟨d0,d1,d2,d3,d4,d5,d6,d7⟩:=c8d cA.o.hd;have N:=(cA.o.box.cell 7).trans aA.o;have O:=(cA.o.box.cell 8).trans aB.o;have bF:=Ab (cA.o.after ((Dr.refl w7).drew.below _))
  go_upto_region 12 with fail
  refine wp_region_held_drew (S:=λW'=>W'.cell? ⟨E,0,none⟩=some (.bool q.bin)/\W'.cell? ⟨E,1,none⟩=some (.int .i64 (q.m:Nat))/\W'.cell? ⟨E,2,none⟩=some (.int .i64 (q.i:Nat))/\W'.cell? ⟨E,3,none⟩=some (.int .i64 (q.l:Nat))/\W'.cell? ⟨E,4,none⟩=some (.int .i64 (q.o:Nat))/\W'.cell? ⟨E,5,none⟩=some (.int .i64 (q.a:Nat))/\W'.cell? ⟨E,6,none⟩=some (.int .i64 (q.b:Nat))/\W'.cell? ⟨E,7,none⟩=some (.int .i64 (q.c:Nat))/\W'.cell? ⟨w.heap.size,7,none⟩=some (.slice A7 M7 C7)/\W'.cell? ⟨w.heap.size,8,none⟩=some (.string bY)) (by kernel_rfl) (⟨d0,d1,d2,d3,d4,d5,d6,d7,N,O⟩) (λz=>?_);refine tk 0 (h:=tk 2 (h:=tk 4 (h:=tk 5 (h:=tk 6 (h:=tk 7 (h:=?_))))));refine rd1 1 λK hK=>?_;go_simp;refine(aJ.o _ bF.o.bel).mono ?_;rintro e w8 ⟨rfl,j⟩;have bE:=Ab (bF.o.after j);have aK:=keepCell j d0;have aM:=keepCell j d1;have aO:=keepCell j d2;have aQ:=keepCell j d3;have aS:=keepCell j d4;have aU:=keepCell j d5;have aW:=keepCell j d6;have aY:=keepCell j d7;have bA:=keepCell j N;have bC:=keepCell j O;refine hK.o _ _ (⟨aK,aM,aO,aQ,aS,aU,aW,aY,bA,bC⟩) (λz=>?_);refine tk 3 (h:=?_);refine rd1 8 λK hK=>?_;go_simp;refine(aF.o _ bE.o.bel).mono ?_;rintro e w9 ⟨rfl,p⟩;have cC:=Ab (bE.o.after p);have aL:=keepCell p aK;have aN:=keepCell p aM;have aP:=keepCell p aO;have aR:=keepCell p aQ;have aT:=keepCell p aS;have aV:=keepCell p aU;have aX:=keepCell p aW;have aZ:=keepCell p aY;have bB:=keepCell p bA;have bD:=keepCell p bC;refine hK.o _ _ (⟨aL,aN,aP,aR,aT,aV,aX,aZ,bB,bD⟩) (λz=>?_);refine tk 9 (h:=tk 10 (h:=?_));refine wpAnyH_done (by kernel_rfl) ?_ _;clear z;have cG:=Ab cC.o.bel;obtain⟨S,hS⟩:∃ S:ByteArray,SH++SB++ST=S:=⟨_,rfl⟩;rw[hS]at bI J
  try rw[hS]
  have cX:(S.size:Int)<=1000000:=by have:=bI.o;omega
  go_wp2
  go_ret2
  exact⟨by rw[J.o];rfl,cG.o⟩
end Go.Proofs.YtmidbhnhcbpneaaGreatDoor.Top
end
