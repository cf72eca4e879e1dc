/- A part of the proof. -/
import Derived.Test.YtmidbhnhcbpneaaGreatDoorM9
import Derived.Test.YtmidbhnhcbpneaaGreatDoorM11
import Derived.Test.YtmidbhnhcbpneaaGreatDoorM3
import Derived.Test.YtmidbhnhcbpneaaGreatDoorM8
import Derived.Test.YtmidbhnhcbpneaaGreatDoorM1
import Derived.Maps.Own
import Derived.Maps.RangeWalk
import Derived.Test.YtmidbhnhcbpneaaGreatDoorM2
import Derived.KernelRfl
import Derived.Test.YtmidbhnhcbpneaaGreatDoorM5
import Derived.Lib.Strings
import Derived.Test.YtmidbhnhcbpneaaGreatDoorM4
set_option linter.unusedVariables false
set_option linter.unusedSimpArgs false
set_option linter.unusedSectionVars false
set_option maxRecDepth 8000
set_option maxHeartbeats 8000000
section
namespace Go.Proofs.YtmidbhnhcbpneaaGreatDoor.Top
open Go Go.RowKit Go.Lt YtmidbhnhcbpneaaGreatDoor.Lit YtmidbhnhcbpneaaGreatDoor.Dec
open YtmidbhnhcbpneaaGreatDoor.Circ (T3 enc3 RdT Sl Cv Ae)
theorem AcF {k c:UInt8} {x:Int} (h:k≠c) (hx:bt c=x):¬ bt k=x:=by
 intro e;rw[<-hx]at e;have j:=Pm k;rw[e,Pm]at j;exact h j.symm
theorem Abb (h:Hd) (k:UInt8) (w:World):
  Calls Tryz.prog 62 #[.agg (Bt h),.int .u8 (bt k)] w λe D=>e= .returned (.int .i64 (countK h k:Nat))/\Below w.heap.size w D:=by
 obtain⟨W1,j,m,l⟩:=Bb w (Bt h) 47;replace j:=Ab j;have E:=m.cell 2;have F:=m.cell 3;have I:=m.cell 4;have J:=m.cell 6;have M:=m.cell 7;have l:=Ab l;clear m
 by_cases p:k=105
 ·subst p
  go_enter Tryz.func62,Tryz.ntmps62
  go_upto_region 1 with fail
  rw[j.o];clear j;go_wp2;go_ret
  exact⟨rfl,l.o⟩
 by_cases q:k=108
 ·subst q
  go_enter Tryz.func62,Tryz.ntmps62
  go_upto_region 1 with fail
  rw[j.o];clear j;go_wp2;go_ret
  exact⟨rfl,l.o⟩
 by_cases r:k=111
 ·subst r
  go_enter Tryz.func62,Tryz.ntmps62
  go_upto_region 1 with fail
  rw[j.o];clear j;go_wp2;go_ret
  exact⟨rfl,l.o⟩
 by_cases x:k=98
 ·subst x
  go_enter Tryz.func62,Tryz.ntmps62
  go_upto_region 1 with fail
  rw[j.o];clear j;go_wp2;go_ret
  exact⟨rfl,l.o⟩
 by_cases y:k=99
 ·subst y
  go_enter Tryz.func62,Tryz.ntmps62
  go_upto_region 1 with fail
  rw[j.o];clear j;go_wp2;go_ret
  exact⟨rfl,l.o⟩
 have z:countK h k=0:=by unfold countK;rw[if_neg p,if_neg q,if_neg r,if_neg x,if_neg y]
 have N:¬ bt k=105:=AcF p rfl;have O:¬ bt k=108:=AcF q rfl;have R:¬ bt k=111:=AcF r rfl;have S:¬ bt k=98:=AcF x rfl;have U:¬ bt k=99:=AcF y rfl;rw[z];clear z p q r x y;generalize bt k=B at*
 go_enter Tryz.func62,Tryz.ntmps62
 go_upto_region 1 with fail
 rw[j.o];clear j;go_wp2;go_ret
 exact⟨rfl,l.o⟩
theorem Lw (k i:Int) (name:ByteArray) (w:World):
  Calls Tryz.prog 49 #[.agg #[.int .u8 k,.int .i64 i,.string name]] w λe D=>e= .returned (.agg #[.int .u8 k,.int .i64 i,.string .empty])/\Below w.heap.size w D:=by
 obtain⟨W2,j,q,l,y,m⟩:=Qd w #[.int .u8 k,.int .i64 i,.string name] #[.int .u8 0,.int .i64 0,.string ⟨#[]⟩] 65 65;replace j:=Ab j;have F:=q.cell 0;have I:=q.cell 1;have J:=l.cell 0;have M:=l.cell 1;have N:=l.cell 2;have O:=l.frozen 0;have R:=l.frozen 1;have S:=l.frozen 2;have x:=Ab (((m.setCell (p:=⟨w.heap.size+1,0,none⟩) (by simp) (.int .u8 k)).setCell (p:=⟨w.heap.size+1,1,none⟩) (by simp) (.int .i64 i)).setCell (p:=⟨w.heap.size+1,2,none⟩) (by simp) (.string ⟨#[]⟩));clear y q m;have r:=Ab (((l.set_ 0 (.int .u8 k)).set_ 1 (.int .i64 i)).set_ 2 (.string ⟨#[]⟩));clear l
 go_enter Tryz.func49,Tryz.ntmps49
 go_upto_region 1 with fail
 rw[j.o];clear j;go_wp2;generalize ((W2.setCell ⟨w.heap.size+1,0,none⟩ (.int .u8 k)).setCell ⟨w.heap.size+1,1,none⟩ (.int .i64 i)).setCell ⟨w.heap.size+1,2,none⟩ (.string ⟨#[]⟩)=E at*;have z:=r.o.cell 0;have h:=r.o.cell 1;have B:=r.o.cell 2;refine bodyPost_ret (v:= .agg #[.int .u8 k,.int .i64 i,.string ⟨#[]⟩]) ?_ rfl ⟨rfl,x.o⟩;simp[results,Tryz.results49,go_sem,z,h,B]
end Go.Proofs.YtmidbhnhcbpneaaGreatDoor.Top
end
section
namespace Go.Proofs.YtmidbhnhcbpneaaGreatDoor.Top
open Go YtmidbhnhcbpneaaGreatDoor.Dec
section
variable {h:Hd} {b c:UInt8} {t u v nm:Txt}
theorem Anz (hb:b∉kinds):Jq h (b::t)=none:=by
 show(if b∈kinds then _ else _)=_
 rw[if_neg hb]
theorem Aju {top:Nat} (hn:(Bq t).2.2≠0):Gi top t=none:=by unfold Gi;rw[if_neg (λh=>hn h.1)]
theorem Ajf {top:Nat} (hn:(Bq t).2.2=0) (ht:(Bq t).1<=top):Gi top t=some ((Bq t).1,t.drop (Bq t).2.1):=by unfold Gi;rw[if_pos ⟨hn,ht⟩]
theorem AmZ (hn:(Bq t).2.2≠0):Jq h (b::t)=none:=by
 show(if b∈kinds then _ else _)=_
 split
 ·rw[Aju hn];rfl
 rfl
theorem Zw (hb:b∈kinds) (hn:(Bq t).2.2=0):Jq h (b::t)=if(Bq t).1<countK h b then(Dv [32] (t.drop (Bq t).2.1)).bind λq=>(Le q.2).bind λr=>if r.1≠ []/\r.1.length<=64 then some (⟨b,(Bq t).1,r.1⟩,r.2) else none else none:=by
 show(if b∈kinds then _ else _)=_
 rw[if_pos hb,Ajf hn (by have:=(Ze t).1;omega)];rfl
theorem AnF (hb:b∈kinds) (hn:(Bq t).2.2=0) (hc:¬ (Bq t).1<countK h b):Jq h (b::t)=none:=by rw[Zw hb hn,if_neg hc]
theorem AnS (hb:b∈kinds) (hn:(Bq t).2.2=0) (hd:t.drop (Bq t).2.1= []):Jq h (b::t)=none:=by
 rw[Zw hb hn,hd]
 split<;>rfl
theorem And (hb:b∈kinds) (hn:(Bq t).2.2=0) (hd:t.drop (Bq t).2.1=c::u) (hc:c≠32):Jq h (b::t)=none:=by
 rw[Zw hb hn,hd];split
 ·simp[Dv,hc]
 rfl
theorem Abx (hb:b∈kinds) (hn:(Bq t).2.2=0) (hk:(Bq t).1<countK h b) (hd:t.drop (Bq t).2.1=32::u):Jq h (b::t)=(Le u).bind λr=>if r.1≠ []/\r.1.length<=64 then some (⟨b,(Bq t).1,r.1⟩,r.2) else none:=by
 rw[Zw hb hn,hd,if_pos hk];simp[Dv]
theorem Anu (hb:b∈kinds) (hn:(Bq t).2.2=0) (hk:(Bq t).1<countK h b) (hd:t.drop (Bq t).2.1=32::u) (hl:Le u=none):Jq h (b::t)=none:=by rw[Abx hb hn hk hd,hl];rfl
theorem AhX (hb:b∈kinds) (hn:(Bq t).2.2=0) (hk:(Bq t).1<countK h b) (hd:t.drop (Bq t).2.1=32::u) (hl:Le u=some (nm,v)) (hm:¬ (nm≠ []/\nm.length<=64)):Jq h (b::t)=none:=by
 rw[Abx hb hn hk hd,hl];simp only[Option.bind_some];rw[if_neg hm]
theorem Anw (hb:b∈kinds) (hn:(Bq t).2.2=0) (hk:(Bq t).1<countK h b) (hd:t.drop (Bq t).2.1=32::u) (hl:Le u=some (nm,v)) (hm:nm≠ []) (hm2:nm.length<=64):Jq h (b::t)=some (⟨b,(Bq t).1,nm⟩,v):=by
 rw[Abx hb hn hk hd,hl];simp only[Option.bind_some];rw[if_pos ⟨hm,hm2⟩]
theorem AjT (l:Txt):(Bq l).2.1<=l.length:=by
 unfold Bq;split
 ·simp
 split
 ·simp
 split
 ·simp
 exact Vb l
end
end Go.Proofs.YtmidbhnhcbpneaaGreatDoor.Top
end
section
namespace Go.Proofs.YtmidbhnhcbpneaaGreatDoor.Top
open Go Go.RowKit Go.Lt YtmidbhnhcbpneaaGreatDoor.Lit YtmidbhnhcbpneaaGreatDoor.Dec
open YtmidbhnhcbpneaaGreatDoor.Circ (T3 enc3 RdT Sl Cv Ae)
def Apy (h:Hd) (s:ByteArray) (p:Nat) (v:Value) (a c:Int):Prop:=(∃(x:Sy) (nb:ByteArray) (q:Nat),Jq h (rest s p)=some (x,rest s q)/\p<q/\q<=s.size/\nb.data.toList=x.name/\v= .agg #[.int .u8 (bt x.k),.int .i64 (x.i:Nat),.string nb]/\a=(q:Nat)/\c=0)∨(Jq h (rest s p)=none/\c≠0)
def Aoj (h:Hd) (s:ByteArray) (p:Nat) (w:World) (e:Ending) (w':World):Prop:=(∃v a c,e= .returned (.tuple #[v,.int .i64 a,.int .i64 c])/\Apy h s p v a c/\∃y0 y1 y2,v= .agg #[.int .u8 y0,.int .i64 y1,.string y2])/\Below w.heap.size w w'
theorem Lk {s:ByteArray} {h:Hd} {p n0:Nat} {w W j:World} {tmps:Array Value} {x0 x1 x2 y0 y1 y2:Value} {a c:Int} (hn0:w.heap.size=n0) (hb:Below n0 w W) (b1:Blk W (n0+1) 65 #[x0,x1,x2]) (hW:j=((W.setCell ⟨n0+1,0,none⟩ y0).setCell ⟨n0+1,1,none⟩ y1).setCell ⟨n0+1,2,none⟩ y2)
  (hP:Apy h s p (.agg #[y0,y1,y2]) a c) (h6:tmps[6]?=some (.pointer (some ⟨n0+1,0,none⟩))) (h7:tmps[7]?=some (.int .i64 a)) (h8:tmps[8]?=some (.int .i64 c)) (h9:∃ z0 z1 z2,Value.agg #[y0,y1,y2]= .agg #[.int .u8 z0,.int .i64 z1,.string z2]):bodyPost Tryz.prog Tryz.f48 (Aoj h s p w) .ret {tmps:=tmps,defers:=[]} j:=by
 subst hW;have l:=((b1.set_ 0 y0).set_ 1 y1).set_ 2 y2;have z:=(((Fr.refl (λq=>q=n0+1) W).set (p:=⟨n0+1,0,none⟩) rfl y0).set (p:=⟨n0+1,1,none⟩) rfl y1).set (p:=⟨n0+1,2,none⟩) rfl y2;generalize ((W.setCell ⟨n0+1,0,none⟩ y0).setCell ⟨n0+1,1,none⟩ y1).setCell ⟨n0+1,2,none⟩ y2=j at*;have r:=l.cell 0;have x:=l.cell 1;have y:=l.cell 2
 have m:Below w.heap.size w j:=by rw[hn0];exact hb.trans (z.below (B:=n0) (by have:=b1.lt;omega) (λk D=>by omega))
 refine bodyPost_ret (v:= .tuple #[.agg #[y0,y1,y2],.int .i64 a,.int .i64 c]) ?_ rfl ⟨⟨_,a,c,rfl,hP,h9⟩,m⟩;simp[results,Tryz.results48,go_sem,h6,h7,h8,r,x,y]
theorem ApE (w:World) (c1 c2 c3:Array Value) (t1 t2 t3:TypeId):∃ W,(((w.alloc (.cells c1 t1)).alloc (.cells c2 t2)).alloc (.cells c3 t3))=W/\
  Blk W w.heap.size t1 c1/\Blk W (w.heap.size+1) t2 c2/\Blk W (w.heap.size+1+1) t3 c3/\W.heap.size=w.heap.size+1+1+1/\Below w.heap.size w W:=by
 refine⟨_,rfl,((Blk.new2 rfl).alloc _).alloc _,(Blk.new2 (by simp)).alloc _,Blk.new2 (by simp),by simp,(((Below.refl _ w).alloc (Nl _) _).alloc (by simp) _).alloc (by simp;omega) _⟩
theorem AeL (h:Hd) (s:ByteArray) (p:Nat) (w:World) (hp:p<s.size) (hs:s.size<=2000000) (ht:Nq h):
  Calls Tryz.prog 48 #[.string s,.int .i64 p,.agg (Bt h)] w (Aoj h s p w):=by
 obtain⟨b,hb,hr⟩:=Ol hp;have aT:=λW=>Da (P:=Tryz.prog) Tryz.underlying9 s p b hb W;obtain⟨W3,aD,b0,I,b2,bM,S⟩:=ApE w (Bt h) #[.int .u8 0,.int .i64 0,.string ⟨#[]⟩] #[.int .u8 (bt b),.int .i64 0,.string ⟨#[]⟩] 47 65 65;replace aD:=Ab aD
 have bJ:(p:Int)<s.size:=by omega
 have bL:(s.size:Int)<=2000000:=by omega
 have hI:=Ab (Tryz.strings_IndexByte ⟨#[105,108,111,98,99]⟩ (bt b));rw[Pm]at hI;obtain⟨m1,m2⟩:=Ov kinds b;obtain⟨r,aL⟩:∃ r,Lib.indexByte kinds b=r:=⟨_,rfl⟩;have aP:=Ab (show ∀w,Calls Tryz.prog 63 #[.string ⟨#[105,108,111,98,99]⟩,.int .u8 (bt b)] w λe w'=>e= .returned (.int .i64 r)/\w=w' from λw=>((aL▸hI.o) w).mono (λe w' h=>⟨h.1,h.2.symm⟩));rw[aL]at m1 m2;clear aL hI;replace hb:=Ab hb;replace hr:=Ab hr
 go_enter Tryz.func48,Tryz.ntmps48
 go_upto_region 2 with fail
 rw[aD.o];clear aD aT;generalize z:w.heap.size=n0 at*;have u0:=b2.cell 0;have u1:=b2.cell 1;have u2:=b2.cell 2;have q0:=I.cell 0;have q1:=I.cell 1;have q2:=I.cell 2;have r0:=I.frozen 0;have r1:=I.frozen 1;have r2:=I.frozen 2;replace b0:=Ab b0;replace I:=Ab I;replace b2:=Ab b2;replace S:=Ab S
 go_wp2_with fail
 refine(aP.o _).mono ?_;rintro e w1 ⟨rfl,rfl⟩;clear aP
 by_cases U:b∈kinds
 rotate_left
 ·have bC:r<0:=m1.2 U;have l:=Ab (show Jq h (rest s p)=none by rw[hr.o];exact Anz U);clear m1;go_wp2;refine Lk z S.o I.o rfl ?_ (by rfl) (by rfl) (by rfl) ⟨_,_,_,rfl⟩;exact .inr ⟨l.o,by decide⟩
 have bC:¬ r<0:=λh=>m1.1 h U;clear m1;replace U:=Ab U;have N:=Pj s (p+1) W3 (by omega) hs;have aU:=Ze (rest s (p+1));have aA:=AjT (rest s (p+1))
 have aJ:(rest s (p+1)).length=s.size-(p+1):=by unfold rest;simp
 rw[aJ]at aA;clear aJ;unfold Xk at N
 change Calls _ _ _ _ λe w'=>e= .returned (.tuple #[.int .i64 ((Bq (rest s (p+1))).1:Nat),.int .i64 (((if(Bq (rest s (p+1))).2.2=0 then p+1+(Bq (rest s (p+1))).2.1 else 0):Nat):Int),.int .i64 ((Bq (rest s (p+1))).2.2:Nat)])/\_ at N
 rw[show(((p+1:Nat)):Int)=(p:Int)+1 by omega]at N;have bB:∃ R,R=Bq (rest s (p+1)):=⟨_,rfl⟩;obtain⟨⟨n,aC,aN⟩,hR⟩:=bB;rw[<-hR]at N aU aA;replace hR:=Ab hR;dsimp only at N aU aA;replace N:=Ab N;clear q0 q1 q2 r0 r1 r2 u0 u1 u2
 by_cases A:aN=0
 rotate_left
 ·have l:=Ab (show Jq h (rest s p)=none by rw[hr.o];exact AmZ (by rw[<-hR.o];exact A));rw[if_neg A]at N
  have aS:¬ (aN:Int)=0:=by omega
  go_upto_region 4 with fail
  go_wp2_with fail
  refine N.o.mono ?_;rintro e w4 ⟨rfl,y⟩;clear N;have J:=Ab (S.o.trans (y.mono (by omega)));have j:=Ab (I.o.below y I.o.lt);have x:=Ab (b2.o.below y b2.o.lt);have u0:=x.o.cell 0;have u1:=x.o.cell 1;have u2:=x.o.cell 2;have q0:=j.o.cell 0;have q1:=j.o.cell 1;have q2:=j.o.cell 2;have r0:=j.o.frozen 0;have r1:=j.o.frozen 1;have r2:=j.o.frozen 2;go_wp2;refine Lk z J.o j.o rfl ?_ (by rfl) (by rfl) (by rfl) ⟨_,_,_,rfl⟩;exact .inr ⟨l.o,aS⟩
 subst A;rw[if_pos rfl]at N
 go_upto_region 4 with fail
 go_wp2_with fail
 refine N.o.mono ?_;rintro e w4 ⟨rfl,y⟩;clear N;obtain⟨F,aF⟩:∃ F,F=p+1+aC:=⟨_,rfl⟩;rw[<-aF]
 have hle:F<=s.size:=by omega
 have bF:p<F:=by omega
 have Y:(rest s (p+1)).drop aC=rest s F:=by unfold rest;rw[List.drop_drop,aF]
 replace Y:=Ab Y;replace aF:=Ab aF;have aM:=Ab (b0.o.below y b0.o.lt);have X:=Ab (I.o.below y I.o.lt);have D:=Ab (b2.o.below y b2.o.lt);have J:=Ab (S.o.trans (y.mono (by omega)));have bN:n0+1+1<w4.heap.size:=D.o.lt;clear b0 I b2 S y;have HC:=Ab (Abb h b w4);obtain⟨g0,g1,g2,g3,g4,g5,g6,g7⟩:=c8c aM.o;have u0:=D.o.cell 0
 go_upto_region 7 with fail
 go_wp2_with fail
 refine HC.o.mono ?_;rintro e w5 ⟨rfl,aE⟩;clear HC u0 g0 g1 g2 g3 g4 g5 g6 g7;have m:=Ab (J.o.trans (aE.mono (by omega)));have j:=Ab (X.o.below aE X.o.lt);have x:=Ab (D.o.below aE D.o.lt);clear X D aM J aE;have u0:=x.o.cell 0;have u1:=x.o.cell 1;have u2:=x.o.cell 2;have q0:=j.o.cell 0;have q1:=j.o.cell 1;have q2:=j.o.cell 2;have r0:=j.o.frozen 0;have r1:=j.o.frozen 1;have r2:=j.o.frozen 2;obtain⟨K0,O⟩:∃ K0,countK h b=K0:=⟨_,rfl⟩;rw[O]
 have B:(Bq (rest s (p+1))).2.2=0:=by rw[<-hR.o]
 have E:(Bq (rest s (p+1))).1=n:=by rw[<-hR.o]
 have aH:(Bq (rest s (p+1))).2.1=aC:=by rw[<-hR.o]
 replace B:=Ab B;replace E:=Ab E;replace aH:=Ab aH
 by_cases aB:n<K0
 rotate_left
 ·have l:=Ab (show Jq h (rest s p)=none by rw[hr.o];exact AnF U.o B.o (by rw[E.o,O];exact aB))
  have aV:(n:Int)≥(K0:Int):=by omega
  go_wp2;refine Lk z m.o j.o rfl ?_ (by rfl) (by rfl) (by rfl) ⟨_,_,_,rfl⟩;exact .inr ⟨l.o,by decide⟩
 have aV:¬ (n:Int)≥(K0:Int):=by omega
 by_cases bI:F=s.size
 ·have l:=Ab (show Jq h (rest s p)=none by rw[hr.o];exact AnS U.o B.o (by rw[aH.o,Y.o];exact Up (by omega)))
  have aR:(F:Int)=(s.size:Int):=by omega
  go_wp2;refine Lk z m.o j.o rfl ?_ (by rfl) (by rfl) (by rfl) ⟨_,_,_,rfl⟩;exact .inr ⟨l.o,by decide⟩
 have aR:¬ (F:Int)=(s.size:Int):=by omega
 obtain⟨c,hc,aW⟩:=Ol (show F<s.size by omega);have bA:=λW=>Da (P:=Tryz.prog) Tryz.underlying9 s F c hc W;replace hc:=Ab hc
 have bD:(F:Int)<s.size:=by omega
 have Z:=Ab (show(rest s (p+1)).drop (Bq (rest s (p+1))).2.1=c::rest s (F+1) by rw[aH.o,Y.o];exact aW);clear aW Y
 by_cases M:c=32
 rotate_left
 ·have l:=Ab (show Jq h (rest s p)=none by rw[hr.o];exact And U.o B.o Z.o M);have bH:¬ bt c=32:=AcF M rfl;clear M;go_wp2;refine Lk z m.o j.o rfl ?_ (by rfl) (by rfl) (by rfl) ⟨_,_,_,rfl⟩;exact .inr ⟨l.o,by decide⟩
 subst M;have HL:=AgI s (F+1) w5 (by omega) hs;rw[show(((F+1:Nat)):Int)=(F:Int)+1 by omega]at HL;replace HL:=Ab HL
 go_upto_region 13 with fail
 go_wp2_with fail
 refine HL.o.mono ?_;rintro e w6 ⟨rfl,hL⟩;clear HL
 rcases hL with⟨nb,q,hl,bK,hq,rfl⟩|⟨hl,nb,ce,aZ,rfl⟩
 rotate_left
 ·have l:=Ab (show Jq h (rest s p)=none by rw[hr.o];exact Anu U.o B.o (by rw[E.o,O];exact aB) Z.o hl);clear hl;go_wp2;refine Lk z m.o j.o rfl ?_ (by rfl) (by rfl) (by rfl) ⟨_,_,_,rfl⟩;exact .inr ⟨l.o,aZ⟩
 replace hl:=Ab hl
 by_cases aI:nb=⟨#[]⟩
 ·have l:=Ab (show Jq h (rest s p)=none by rw[hr.o];exact AhX U.o B.o (by rw[E.o,O];exact aB) Z.o hl.o (λhh=>hh.1 (by rw[aI])));subst aI;clear hl;go_wp2;refine Lk z m.o j.o rfl ?_ (by rfl) (by rfl) (by rfl) ⟨_,_,_,rfl⟩;exact .inr ⟨l.o,by decide⟩
 have bE:nb.toList.isEmpty=false:=by rw[<-decide_eq_emptyBytes];exact decide_eq_false aI
 have aK:nb.data.toList.length=nb.size:=rfl
 by_cases bG:64<nb.size
 ·have l:=Ab (show Jq h (rest s p)=none by rw[hr.o];exact AhX U.o B.o (by rw[E.o,O];exact aB) Z.o hl.o (λhh=>absurd hh.2 (by omega)))
  have aO:(nb.size:Int)>64:=by omega
  clear hl aK;go_wp2;refine Lk z m.o j.o rfl ?_ (by rfl) (by rfl) (by rfl) ⟨_,_,_,rfl⟩;exact .inr ⟨l.o,by decide⟩
 have aO:¬ (nb.size:Int)>64:=by omega
 have aX:=Ab (show Jq h (rest s p)=some (⟨b,n,nb.data.toList⟩,rest s q) by
  rw[hr.o]
  have:=Anw (h:=h) U.o B.o (by rw[E.o,O];exact aB) Z.o hl.o (λhh=>aI (by cases nb with|mk d=>simp at hh;rw[hh])) (by omega)
  rw[E.o]at this
  exact this)
 clear hl aK;have z1:=x.o.frozen 1;have z2:=x.o.frozen 2;have aY:=Ab ((j.o.far (p:=⟨n0+1+1,1,none⟩) (by simp) (.int .i64 (n:Nat))).far (p:=⟨n0+1+1,2,none⟩) (by simp) (.string nb));have aQ:=Ab ((m.o.setCell (p:=⟨n0+1+1,1,none⟩) (by simp;omega) (.int .i64 (n:Nat))).setCell (p:=⟨n0+1+1,2,none⟩) (by simp;omega) (.string nb));go_wp2;refine Lk z aQ.o aY.o rfl ?_ (by rfl) (by rfl) (by rfl) ⟨_,_,_,rfl⟩;exact .inl ⟨_,nb,q,aX.o,by omega,hq,rfl,rfl,rfl,rfl⟩
end Go.Proofs.YtmidbhnhcbpneaaGreatDoor.Top
end
section
namespace Go.Lt
open Go.RowKit Go.Instr Go.ChangeMaps
section
variable {κ:Type} [DecidableEq κ]
def mget:List (κ×Value)->κ->Option Value
 | [],_=>none
 |(k,u)::r,x=>if k=x then some u else mget r x
def mput:List (κ×Value)->κ->Value->List (κ×Value)
 | [],x,v=>[(x,v)]
 |(k,u)::r,x,v=>if k=x then(k,v)::r else(k,u)::mput r x v
def mfind:List (κ×Value)->κ->Nat->Option (Nat×Value)
 | [],_,_=>none
 |(k,u)::r,x,i=>if k=x then some (i,u) else mfind r x (i+1)
theorem Xb (l:List (κ×Value)) (x y:κ) (v:Value):mget (mput l x v) y=if x=y then some v else mget l y:=by
 induction l with
 |nil=>rfl
 |cons p l j=>
  obtain⟨k,u⟩:=p;unfold mput
  by_cases h:k=x
  ·rw[if_pos h];subst h;unfold mget
   by_cases h2:k=y<;>simp[h2]
  rw[if_neg h];unfold mget;rw[j]
  by_cases h2:k=y
  ·subst h2;rw[if_pos rfl,if_pos rfl,if_neg (λe=>h e.symm)]
  rw[if_neg h2,if_neg h2]
theorem Acc (l:List (κ×Value)) (x:κ) (i:Nat):(mfind l x i).map (·.2)=mget l x:=by
 induction l generalizing i with
 |nil=>rfl
 |cons p l j=>
  obtain⟨k,u⟩:=p;unfold mfind mget
  by_cases h:k=x
  ·simp[h]
  rw[if_neg h,if_neg h];exact j _
theorem AaE {l:List (κ×Value)} {x:κ} {i:Nat} (h:mfind l x i=none) (v:Value):mput l x v=l++ [(x,v)]:=by
 induction l generalizing i with
 |nil=>rfl
 |cons p l j=>
  obtain⟨k,u⟩:=p;unfold mfind at h;unfold mput
  by_cases h2:k=x
  ·simp[h2]at h
  rw[if_neg h2]at h ⊢;rw[j h];rfl
theorem Abq {l:List (κ×Value)} {x:κ} {i j:Nat} {u:Value} (h:mfind l x i=some (j,u)) (v:Value):∃ k,j=i+k/\l[k]?=some (x,u)/\mput l x v=l.set k (x,v):=by
 induction l generalizing i with
 |nil=>cases h
 |cons p l y=>
  obtain⟨k,B⟩:=p;unfold mfind at h;unfold mput
  by_cases h2:k=x
  ·subst h2;rw[if_pos rfl]at h ⊢;have h:=Option.some.inj h;obtain⟨rfl,rfl⟩:=Prod.mk.inj h
   exact⟨0,rfl,rfl,rfl⟩
  rw[if_neg h2]at h ⊢;obtain⟨m,z,q,r⟩:=y h
  exact⟨m+1,by omega,by simpa using q,by rw[r];rfl⟩
structure KeyLaw (P:Program) (K:TypeId) (enc:κ->Value):Prop where
 check:∀ (b:Bool) (a:κ) (w:World),(checkKey b 10000 K (enc a)).run P w= .ok () w
 find:∀ (a:κ) (es:List MapEntry) (l:List (κ×Value)) (w:World),es.map (λe=>(e.key,e.val))=l.map (λp=>(enc p.1,p.2))->(findKey K (enc a) es).run P w= .ok (mfind l a 0) w
 same:∀ a:κ,sameBits 10000 (enc a) (enc a)=true
def Iw (w:World) (enc:κ->Value) (B:Nat) (l:List (κ×Value)):Prop:=
 ∃es c,w.heap[B]?=some (.map es c)/\es.toList.map (λe=>(e.key,e.val))=l.map (λp=>(enc p.1,p.2))
variable {enc:κ->Value} {w w':World} {B:Nat} {l:List (κ×Value)}
theorem Iw.lt (h:Iw w enc B l):B<w.heap.size:=by
 obtain⟨es,c,h,_⟩:=h
 exact(Array.getElem?_eq_some_iff.1 h).1
theorem Iw.block (h:Iw w enc B l) (hb:w'.heap[B]?=w.heap[B]?):Iw w' enc B l:=by
 obtain⟨es,c,j,h2⟩:=h
 exact⟨es,c,hb.trans j,h2⟩
theorem Iw.below {N:Nat} (h:Iw w enc B l) (hb:Below N w w') (hB:B<N):Iw w' enc B l:=h.block (hb.block B hB)
theorem Iw.alloc (h:Iw w enc B l) (o:Obj):Iw (w.alloc o) enc B l:=h.block (Below.heap_alloc w o B h.lt)
theorem Iw.grown {row:Option Nat} (h:Iw w enc B l) (hb:w.grownBy w' row) (hg:some B≠row):Iw w' enc B l:=h.block (hb.block B h.lt hg)
theorem Iw.setCell (h:Iw w enc B l) {p:Addr} (hp:B≠p.block) (u:Value):Iw (w.setCell p u) enc B l:=h.block (Below.heap_setCell w p u B hp)
theorem Iw.dr (h:Iw w enc B l) (hd:Dr w w'):Iw w' enc B l:=by obtain⟨m,rfl⟩:=hd;exact h
theorem Iw.own_ne {base:Nat} {e:TypeId} {size n:Nat} {v:Value} {xs:List Value} (h:Iw w enc B l) (ho:w.ownsRow base e size v n xs):some B≠v.ownBlock:=by
 rcases ho.2 with⟨rfl,_⟩|⟨q,m,p,rfl,_,x,_⟩
 ·simp[Value.ownBlock]
 intro r
 have:B=q:=by simpa[Value.ownBlock] using r
 subst this;obtain⟨es,c,j,_⟩:=h;rw[x]at j;cases j
theorem Iw.made (w:World) (enc:κ->Value):Iw (w.alloc (.map #[] 0)) enc w.heap.size ([]:List (κ×Value)):=
 ⟨#[],0,heap_alloc_new w _,rfl⟩
variable {P:Program} {t K E:TypeId} {z:Value}
theorem Rk (L:KeyLaw P K enc) (ht:P.underlying t=some (.map K E)) (hz:∀ w:World,(zeroValue E).run P w= .ok z w) (h:Iw w enc B l) (x:κ):
  (Instr.lookup t (.map (some B)) (enc x) false).run P w= .ok ((mget l x).getD z) w:=by
 obtain⟨es,c,p,h2⟩:=h;have j:=L.find x es.toList l w h2;have q:=λb=>L.check b x w;have m:=Acc l x 0
 cases y:mfind l x 0 with
 |none=>
  rw[y]at j m;rw[<-m];simp[Instr.lookup,run_underlying ht,MapKept.run_getObj_map p,q,j,hz,Result.andThen]
 |some r=>
  obtain⟨i,u⟩:=r;rw[y]at j m;rw[<-m];simp[Instr.lookup,run_underlying ht,MapKept.run_getObj_map p,q,j,hz,Result.andThen]
theorem Gt {ops:Array Oper} {rest:List Oper} {o:Oper} {a:Act} {Q:Exit->Act->World->Prop} (L:KeyLaw P K enc) (ht:P.underlying t=some (.map K E)) (hz:∀ w:World,(zeroValue E).run P w= .ok z w) (hgd:o.guard=none) (m k:Operand)
  (hop:o.op=Op.lookup t m k false) (h:Iw w enc B l) (x:κ) (hm:a.eval m= .map (some B)) (hx:a.eval k=enc x)
  (hK:wpList P ops Q rest (a.put o.dst ((mget l x).getD z)) w):wpList P ops Q (o::rest) a w:=by
 refine wpList_plain hgd λq p=>?_;have j:=Rk L ht hz h x;unfold Oper.wp;simp[execOp,hop,hm,hx,j,Result.andThen];exact p _ _ hK
end
def encI (x:Int):Value:= .int .i64 x
theorem Afe (x:Int):∀ (es:List MapEntry) (l:List (Int×Value)) (i:Nat),es.map (λe=>(e.key,e.val))=l.map (λp=>(encI p.1,p.2))->
  findNow (.int .i64) (encI x) es i=some (mfind l x i):=by
 intro es
 induction es with
 |nil=>
  intro l i h
  cases l with
  |nil=>rfl
  |cons p l=>cases h
 |cons e es y=>
  intro l i h
  cases l with
  |nil=>cases h
  |cons p l=>
   obtain⟨k,u⟩:=p;rw[List.map_cons,List.map_cons]at h;injection h with h1 h2;have m:e.key=encI k:=congrArg Prod.fst h1;have r:e.val=u:=congrArg Prod.snd h1;unfold findNow mfind;rw[m]
   have q:sameNow (.int .i64) (encI x) (encI k)=some (x==k):=by simp[sameNow,encI]
   rw[q]
   by_cases j:k=x
   ·subst j;simp[r]
   have:(x==k)=false:=by rw[beq_eq_false_iff_ne];exact λe=>j e.symm
   rw[this,if_neg j];exact y l (i+1) h2
theorem AjB {P:Program} {K:TypeId} (hK:P.underlying K=some (.int .i64)) (b:Bool) (n:Nat) (x:Int) (w:World):(checkKey b (n+1) K (encI x)).run P w= .ok () w:=by
 unfold checkKey;simp[run_underlying hK,encI]
theorem Ha {P:Program} {K:TypeId} (hK:P.underlying K=some (.int .i64)):KeyLaw P K encI where
 check b a w:=AjB hK b 9999 a w
 find a es l w h:=by
  simp[findKey,run_underlying hK,Afe a es l 0 h]
 same a:=by simp[sameBits,encI]
section
variable {κ:Type} [DecidableEq κ]
theorem Amy {l:List (κ×Value)} {x:κ} {i:Nat} (h:mfind l x i=none):x∉l.map (·.1):=by
 induction l generalizing i with
 |nil=>simp
 |cons p l j=>
  obtain⟨k,u⟩:=p;unfold mfind at h
  by_cases h2:k=x
  ·rw[if_pos h2]at h;cases h
  rw[if_neg h2]at h;rw[List.map_cons,List.mem_cons];rintro(h3|h3)
  ·exact h2 h3.symm
  exact j h h3
theorem AaV {l:List (κ×Value)} (hn:(l.map (·.1)).Nodup) (x:κ) (v:Value):((mput l x v).map (·.1)).Nodup:=by
 cases q:mfind l x 0 with
 |none=>
  rw[AaE q,List.map_append,List.nodup_append];refine⟨hn,by simp,?_⟩;intro a h b p
  have p:b=x:=by simpa using p
  subst p;exact λe=>Amy q (e▸h)
 |some r=>
  obtain⟨i,u⟩:=r;obtain⟨k,B,z,m⟩:=Abq q v;rw[m,List.map_set]
  have:(l.map (·.1)).set k x=l.map (·.1):=by
   apply List.ext_getElem?
   intro j;rw[List.getElem?_set]
   by_cases y:k=j
   ·subst y;have D:k<l.length:=(List.getElem?_eq_some_iff.1 z).1;rw[if_pos rfl,if_pos (by simpa using D),List.getElem?_map,z];rfl
   rw[if_neg y]
  show((l.map (·.1)).set k x).Nodup
  rw[this];exact hn
def Ds (w:World) (enc:κ->Value) (B:Nat) (l:List (κ×Value)):Prop:=
 ∃es c,w.heap[B]?=some (.map es c)/\es.toList.map (λe=>(e.key,e.val))=l.map (λp=>(enc p.1,p.2))/\(es.toList.map (·.born)).Nodup/\(∀x∈es.toList,x.born<c)/\(l.map (·.1)).Nodup
variable {enc:κ->Value} {w w':World} {B r:Nat} {l todo:List (κ×Value)}
theorem Ds.toO (h:Ds w enc B l):Iw w enc B l:=by
 obtain⟨es,c,j,h2,_⟩:=h
 exact⟨es,c,j,h2⟩
theorem Ds.lt (h:Ds w enc B l):B<w.heap.size:=h.toO.lt
theorem Ds.block (h:Ds w enc B l) (hb:w'.heap[B]?=w.heap[B]?):Ds w' enc B l:=by
 obtain⟨es,c,j,h2⟩:=h
 exact⟨es,c,hb.trans j,h2⟩
theorem Ds.below {N:Nat} (h:Ds w enc B l) (hb:Below N w w') (hB:B<N):Ds w' enc B l:=h.block (hb.block B hB)
theorem Ds.alloc (h:Ds w enc B l) (o:Obj):Ds (w.alloc o) enc B l:=h.block (Below.heap_alloc w o B h.lt)
theorem Ds.grown {row:Option Nat} (h:Ds w enc B l) (hb:w.grownBy w' row) (hg:some B≠row):Ds w' enc B l:=h.block (hb.block B h.lt hg)
theorem Ds.setCell (h:Ds w enc B l) {p:Addr} (hp:B≠p.block) (u:Value):Ds (w.setCell p u) enc B l:=h.block (Below.heap_setCell w p u B hp)
theorem Ds.dr (h:Ds w enc B l) (hd:Dr w w'):Ds w' enc B l:=by obtain⟨m,rfl⟩:=hd;exact h
theorem Ds.own_ne {base:Nat} {e:TypeId} {size n:Nat} {v:Value} {xs:List Value} (h:Ds w enc B l) (ho:w.ownsRow base e size v n xs):some B≠v.ownBlock:=h.toO.own_ne ho
theorem Ds.made (w:World) (enc:κ->Value):Ds (w.alloc (.map #[] 0)) enc w.heap.size ([]:List (κ×Value)):=
 ⟨#[],0,heap_alloc_new w _,rfl,by simp,by simp,by simp⟩
variable {P:Program} {t K E:TypeId} {z:Value}
theorem Yd (L:KeyLaw P K enc) (ht:P.underlying t=some (.map K E)) (h:Ds w enc B l) (x:κ) (v:Value):
  ∃w',(Instr.mapUpdate t (.map (some B)) (enc x) v).run P w= .ok () w'/\Ds w' enc B (mput l x v)/\w.grownBy w' (some B)/\w'.heap.size=w.heap.size:=by
 obtain⟨es,c,z,h2,hn,D,M⟩:=h;have R:=L.find x es.toList l w h2;have A:=λb=>L.check b x w;have F:∀ o',w.grownBy (setBlock w B o') (some B):=λo'=>⟨rfl,rfl,rfl,by simp[setBlock],λi _ hi=>heap_setBlock_other z _ (λe=>hi (by rw[e]))⟩
 cases S:mfind l x 0 with
 |none=>
  rw[S]at R;refine⟨setBlock w B (.map (es.push ⟨enc x,v,c⟩) (c+1)),?_,⟨_,_,heap_setBlock_same z _,?_,?_,?_,AaV M x v⟩,F _,by simp[setBlock]⟩
  ·simp[Instr.mapUpdate,run_underlying ht,MapKept.run_getObj_map z,A,R,MapKept.run_setObj_map _ z,Result.andThen,setBlock]
  ·rw[AaE S,Array.toList_push,List.map_append,List.map_append,h2];rfl
  ·rw[Array.toList_push,List.map_append,List.nodup_append];refine⟨hn,by simp,?_⟩;intro a ha b Z;obtain⟨y,hy,rfl⟩:=List.mem_map.1 ha
   have Z:b=c:=by simpa using Z
   have:=D y hy
   omega
  intro y hy;rw[Array.toList_push,List.mem_append]at hy
  rcases hy with hy|hy
  ·have:=D y hy;omega
  have hy:y=⟨enc x,v,c⟩:=by simpa using hy
  rw[hy];show c<c+1;omega
 |some r=>
  obtain⟨i,u⟩:=r;rw[S]at R;obtain⟨k,I,hk,O⟩:=Abq S v
  have I:i=k:=by omega
  subst I
  have aA:es.toList.length=l.length:=by have:=congrArg List.length h2;simpa using this
  have aB:i<l.length:=(List.getElem?_eq_some_iff.1 hk).1
  have q:i<es.size:=by rw[<-Array.length_toList];omega
  have N:(es[i]'q).key=enc x:=by
   have Y:(es.toList.map (λe=>(e.key,e.val)))[i]?=(l.map (λp=>(enc p.1,p.2)))[i]?:=by rw[h2]
   rw[List.getElem?_map,List.getElem?_map,hk,Array.getElem?_toList,Array.getElem?_eq_getElem q]at Y;exact congrArg Prod.fst (Option.some.inj Y)
  have m:(es.modify i λe=>{e with key:=enc x,val:=v}).toList.map (·.born)=es.toList.map (·.born):=by
   apply List.ext_getElem?
   intro j;rw[List.getElem?_map,Array.getElem?_toList,Array.getElem?_modify,List.getElem?_map,Array.getElem?_toList]
   by_cases J:i=j
   ·subst J;simp[q]
   simp[J]
  refine⟨setBlock w B (.map (es.modify i λe=>{e with key:=enc x,val:=v}) c),?_,⟨_,_,heap_setBlock_same z _,?_,by rw[m];exact hn,?_,AaV M x v⟩,F _,by simp[setBlock]⟩
  ·simp[Instr.mapUpdate,run_underlying ht,MapKept.run_getObj_map z,A,R,MapKept.run_setObj_map _ z,Result.andThen,setBlock,keyThatStays,q,N,L.same]
  ·rw[O,List.map_set,<-h2]
   apply List.ext_getElem?
   intro j;rw[List.getElem?_map,Array.getElem?_toList,Array.getElem?_modify,List.getElem?_set,List.getElem?_map,Array.getElem?_toList]
   by_cases J:i=j
   ·subst J;simp[q]
   simp[J]
  intro y hy
  have X:y.born∈es.toList.map (·.born):=by rw[<-m];exact List.mem_map.2 ⟨y,hy,rfl⟩
  obtain⟨y',U,e⟩:=List.mem_map.1 X;rw[<-e];exact D y' U
def Nw (w:World) (enc:κ->Value) (B r:Nat) (l todo:List (κ×Value)):Prop:=
 ∃es c since seen c0,w.heap[B]?=some (.map es c)/\es.toList.map (λe=>(e.key,e.val))=l.map (λp=>(enc p.1,p.2))/\(es.toList.map (·.born)).Nodup/\(∀x∈es.toList,x.born<c)/\(l.map (·.1)).Nodup/\
  w.heap[r]?=some (.mapIter (some B) since seen c0)/\(∀x∈es.toList,x.born<since)/\since<=c0/\since<=c/\(leftOf es seen).toList.map (λe=>(e.key,e.val))=todo.map (λp=>(enc p.1,p.2))
theorem Nw.mapS (h:Nw w enc B r l todo):Ds w enc B l:=by
 obtain⟨es,c,j,m,z,p,h2,q,x,y,_⟩:=h
 exact⟨es,c,p,h2,q,x,y⟩
theorem Nw.ltr (h:Nw w enc B r l todo):r<w.heap.size:=by
 obtain⟨es,c,j,m,q,x,h2,y,z,D,p,_⟩:=h
 exact(Array.getElem?_eq_some_iff.1 p).1
theorem Nw.ne (h:Nw w enc B r l todo):r≠B:=by
 obtain⟨es,c,j,p,x,q,h2,y,z,D,m,_⟩:=h;intro e;rw[e,q]at m;cases m
theorem Nw.blocks (h:Nw w enc B r l todo) (hb:w'.heap[B]?=w.heap[B]?) (hr:w'.heap[r]?=w.heap[r]?):Nw w' enc B r l todo:=by
 obtain⟨es,c,j,m,p,q,h2,x,y,z,D,E⟩:=h
 exact⟨es,c,j,m,p,hb.trans q,h2,x,y,z,hr.trans D,E⟩
theorem Nw.below {N:Nat} (h:Nw w enc B r l todo) (hb:Below N w w') (hB:B<N) (hr:r<N):Nw w' enc B r l todo:=h.blocks (hb.block B hB) (hb.block r hr)
theorem Nw.grown {row:Option Nat} (h:Nw w enc B r l todo) (hb:w.grownBy w' row) (hB:some B≠row) (hr:some r≠row):Nw w' enc B r l todo:=h.blocks (hb.block B h.mapS.lt hB) (hb.block r h.ltr hr)
theorem Nw.alloc (h:Nw w enc B r l todo) (o:Obj):Nw (w.alloc o) enc B r l todo:=h.blocks (Below.heap_alloc w o B h.mapS.lt) (Below.heap_alloc w o r h.ltr)
theorem Nw.setCell (h:Nw w enc B r l todo) {p:Addr} (hp:B≠p.block) (hp2:r≠p.block) (u:Value):Nw (w.setCell p u) enc B r l todo:=h.blocks (Below.heap_setCell w p u B hp) (Below.heap_setCell w p u r hp2)
section
variable {ops:Array Oper} {rest:List Oper} {o:Oper} {a:Act} {Q:Exit->Act->World->Prop}
theorem Jg (L:KeyLaw P K enc) (ht:P.underlying t=some (.map K E)) (hgd:o.guard=none) (m k v:Operand)
  (hop:o.op=Op.mapUpdate t m k v) (h:Ds w enc B l) (x:κ) (u:Value) (hm:a.eval m= .map (some B)) (hx:a.eval k=enc x) (hv:a.eval v=u)
  (hK:∀ w',Ds w' enc B (mput l x u)->w.grownBy w' (some B)->w'.heap.size=w.heap.size->wpList P ops Q rest (a.put o.dst undef) w'):wpList P ops Q (o::rest) a w:=by
 refine wpList_plain hgd λz p=>?_;obtain⟨w',j,q,r,y⟩:=Yd L ht h x u;unfold Oper.wp;simp[execOp,hop,hm,hx,hv,j,Result.andThen];exact p _ _ (hK w' q r y)
end
end
section
variable {κ:Type} [DecidableEq κ] {P:Program} {t K E:TypeId} {z:Value} {enc:κ->Value} {w:World} {B:Nat} {l:List (κ×Value)} {o:Oper} {a:Act} {N:Act->World->Prop} {Q:Exit->Act->World->Prop}
theorem Pk (L:KeyLaw P K enc) (ht:P.underlying t=some (.map K E)) (hz:∀ w:World,(zeroValue E).run P w= .ok z w) (m k:Operand)
  (hop:o.op=Op.lookup t m k false) (h:Iw w enc B l) (x:κ) (hm:a.eval m= .map (some B)) (hx:a.eval k=enc x)
  (hK:N (a.put o.dst ((mget l x).getD z)) w):Oper.wp P o a w N Q:=by
 have j:=Rk L ht hz h x;unfold Oper.wp;simp[execOp,hop,hm,hx,j,Result.andThen];exact hK
theorem Mi {ops:Array Oper} {rest:List Oper} (L:KeyLaw P K enc) (ht:P.underlying t=some (.map K E)) (hgd:o.guard=none) (m k v:Operand)
  (hop:o.op=Op.insert t m k v) (h:Ds w enc B l) (x:κ) (u:Value) (hm:a.eval m= .map (some B)) (hx:a.eval k=enc x) (hv:a.eval v=u)
  (hK:∀ j,Ds j enc B (mput l x u)->w.grownBy j (some B)->j.heap.size=w.heap.size->wpList P ops Q rest (a.put o.dst undef) j):wpList P ops Q (o::rest) a w:=by
 refine wpList_plain hgd λD q=>?_;obtain⟨j,p,r,y,z⟩:=Yd L ht h x u;unfold Oper.wp;simp[execOp,hop,hm,hx,hv,p,Result.andThen];exact q _ _ (hK j r y z)
end
end Go.Lt
end
section
namespace Go.Proofs.YtmidbhnhcbpneaaGreatDoor.Top
open Go Go.RowKit Go.Lt YtmidbhnhcbpneaaGreatDoor.Lit YtmidbhnhcbpneaaGreatDoor.Dec Go.Instr
abbrev Th:=UInt8×Nat
def encS (f:Th):Value:= .agg #[.int .u8 (bt f.1),.int .i64 (f.2:Nat),.string ⟨#[]⟩]
theorem AoF (b:Bool) (f:Th) (w:World):(checkKey b 10000 65 (encS f)).run Tryz.prog w= .ok () w:=by
 unfold encS
 kernel_rfl
theorem Apa {a b:UInt8}:bt a=bt b↔a=b:=by
 constructor
 ·intro h
  have:=Pm a
  rw[h,Pm]at this;exact this.symm
 rintro rfl;rfl
theorem Aos (f g:Th) (w:World):(Op.equal 65 (encS f) (encS g)).run Tryz.prog w= .ok (decide (f=g)) w:=by
 obtain⟨v,p⟩:=f;obtain⟨v',p'⟩:=g
 have l:decide ((v,p)=(v',p'))=decide (bt v=bt v'/\(p:Int)=p'):=by rw[Bool.eq_iff_iff,decide_eq_true_iff,decide_eq_true_iff,Prod.mk.injEq,Apa];constructor<;>rintro⟨j,h2⟩<;>exact⟨j,by omega⟩
 rw[l];unfold encS;dsimp only;generalize bt v=x;generalize bt v'=x';generalize (p:Int)=y;generalize (p':Int)=m;simp[Op.equal,Op.maxDepth,go_sem]
 by_cases j:x=x'<;>by_cases h2:y=m<;>simp[j,h2]
theorem Apf (f:Th):sameBits 10000 (encS f) (encS f)=true:=by
 unfold encS
 have h:∀ n:Nat,sameBits (n+1) (.agg #[.int .u8 (bt f.1),.int .i64 (f.2:Nat),.string ⟨#[]⟩]) (.agg #[.int .u8 (bt f.1),.int .i64 (f.2:Nat),.string ⟨#[]⟩])=true:=by
  intro n;unfold sameBits
  have j:∀ m k (x:Int),sameBits m (.int k x) (.int k x)=true:=by intro m k x;cases m<;>simp[sameBits]
  have h2:∀ m,sameBits m (.string ⟨#[]⟩) (.string ⟨#[]⟩)=true:=by intro m;have l:((⟨#[]⟩:ByteArray)==⟨#[]⟩)=true:=rfl;cases m<;>simp[sameBits,l]
  simp[j,h2]
 exact h 9999
theorem Aqf (f:Th):∀ (es:List MapEntry) (l:List (Th×Value)) (i:Nat) (w:World),es.map (λe=>(e.key,e.val))=l.map (λp=>(encS p.1,p.2))->
  (findAsking 65 (encS f) es i).run Tryz.prog w= .ok (mfind l f i) w:=by
 intro es
 induction es with
 |nil=>
  intro l i w h
  cases l with
  |nil=>rfl
  |cons p l=>cases h
 |cons e es x=>
  intro l i w h
  cases l with
  |nil=>cases h
  |cons p l=>
   obtain⟨k,u⟩:=p;rw[List.map_cons,List.map_cons]at h;obtain⟨m,h2⟩:=List.cons.inj h;have q:e.key=encS k:=congrArg Prod.fst m;have r:e.val=u:=congrArg Prod.snd m;rw[findAsking];rw[Sem.run_bind];rw[q];rw[Aos];rw[Result.andThen_ok];unfold mfind
   by_cases j:k=f
   ·subst j;rw[show decide (k=k)=true by simp,if_pos rfl,if_pos rfl,r];rfl
   have:decide (f=k)=false:=by rw[decide_eq_false_iff_not];exact λe=>j e.symm
   rw[this,if_neg j,if_neg (by simp)];exact x l (i+1) w h2
theorem Qx:KeyLaw Tryz.prog 65 encS where
 check b a w:=AoF b a w
 find a es l w h:=by
  cases es with
  |nil=>
   cases l with
   |nil=>
    simp[findKey,findNow,mfind]
   |cons p l=>cases h
  |cons e es=>
   have y:∀ m,findNow (.struct m) (encS a) (e::es) 0=none:=by
    intro m
    have x:∃ b:Th,e.key=encS b:=by
     cases l with
     |nil=>cases h
     |cons p l=>
      rw[List.map_cons,List.map_cons]at h;obtain⟨q,_⟩:=List.cons.inj h
      exact⟨p.1,congrArg Prod.fst q⟩
    obtain⟨b,r⟩:=x;unfold findNow;rw[r];rfl
   have j:=Aqf a (e::es) l 0 w h;unfold findKey;rw[Sem.run_bind];rw[run_underlying Tryz.underlying65];rw[Result.andThen_ok];rw[y];exact j
 same a:=Apf a
end Go.Proofs.YtmidbhnhcbpneaaGreatDoor.Top
end
section
namespace Go.Proofs.YtmidbhnhcbpneaaGreatDoor.Top
open Go YtmidbhnhcbpneaaGreatDoor.Dec
abbrev Oy (x:Sy):UInt8×Nat:=(x.k,x.i)
theorem AjZ (h:Hd) (f:Nat) (seen:List (UInt8×Nat)):Fj h (f+1) seen []=some ([],[]):=by
 show(if([]:Txt)= [] then _ else _)=_
 rw[if_pos rfl]
theorem AiT {h:Hd} {f:Nat} {seen:List (UInt8×Nat)} {t:Txt} (ht:t.take 2= [99,10]):Fj h (f+1) seen t=some ([],t.drop 2):=by
 show(if t= [] then _ else _)=_
 rw[if_neg (λe=>by rw[e]at ht;cases ht),if_pos ht]
theorem Xl {h:Hd} {f:Nat} {seen:List (UInt8×Nat)} {t:Txt} (hne:t≠ []) (ht:¬ t.take 2= [99,10]):
  Fj h (f+1) seen t=(Jq h t).bind λp=>if(p.1.k,p.1.i)∈seen then none else(Fj h f ((p.1.k,p.1.i)::seen) p.2).bind λq=>some (p.1::q.1,q.2):=by
 show(if t= [] then _ else _)=_
 rw[if_neg hne,if_neg ht]
structure Gk (h:Hd) (F:Nat) (t0:Txt) (l:List Sy) (f:Nat) (t:Txt):Prop where
 fuel:t.length<f
 cnt:l.length+f=F
 more:Fj h F [] t0=(Fj h f (l.map Oy).reverse t).map λr=>(l++r.1,r.2)
section
variable {h:Hd} {F f:Nat} {t0 t t':Txt} {l:List Sy} {x:Sy}
theorem Gk.zero (h:Hd) (t:Txt):Gk h (t.length+1) t [] (t.length+1) t:=
 ⟨by omega,by simp,by simp only[List.map_nil,List.reverse_nil,List.nil_append];cases Fj h (t.length+1) [] t<;>rfl⟩
theorem Gk.pos (hT:Gk h F t0 l f t):∃ g,f=g+1:=⟨f-1,by have:=hT.fuel;omega⟩
theorem Gk.end_ (hT:Gk h F t0 l f []):Fj h F [] t0=some (l,[]):=by
 obtain⟨g,rfl⟩:=hT.pos;rw[hT.more,AjZ]
 simp
theorem Gk.com (hT:Gk h F t0 l f t) (ht:t.take 2= [99,10]):Fj h F [] t0=some (l,t.drop 2):=by
 obtain⟨g,rfl⟩:=hT.pos;rw[hT.more,AiT ht]
 simp
theorem Gk.no (hT:Gk h F t0 l f t) (hne:t≠ []) (ht:¬ t.take 2= [99,10]) (hs:Jq h t=none):Fj h F [] t0=none:=by
 obtain⟨g,rfl⟩:=hT.pos;rw[hT.more,Xl hne ht,hs];rfl
theorem Gk.twice (hT:Gk h F t0 l f t) (hne:t≠ []) (ht:¬ t.take 2= [99,10]) (hs:Jq h t=some (x,t')) (hx:Oy x∈l.map Oy):Fj h F [] t0=none:=by
 obtain⟨g,rfl⟩:=hT.pos;rw[hT.more,Xl hne ht,hs];simp only[Option.bind_some];rw[if_pos (List.mem_reverse.2 hx)];rfl
theorem Gk.step (hT:Gk h F t0 l f t) (hne:t≠ []) (ht:¬ t.take 2= [99,10]) (hs:Jq h t=some (x,t')) (hx:Oy x∉l.map Oy) (hlt:t'.length<t.length):Gk h F t0 (l++ [x]) (f-1) t':=by
 obtain⟨g,rfl⟩:=hT.pos;have m:=hT.fuel;have h2:=hT.cnt;refine⟨by omega,by rw[List.length_append,List.length_singleton];omega,?_⟩;rw[hT.more,Xl hne ht,hs];simp only[Option.bind_some];rw[if_neg (λj=>hx (List.mem_reverse.1 j))]
 have e:((l++ [x]).map Oy).reverse=(x.k,x.i)::(l.map Oy).reverse:=by rw[List.map_append,List.reverse_append];rfl
 rw[e,Nat.add_sub_cancel]
 cases Fj h g ((x.k,x.i)::(l.map Oy).reverse) t'<;>simp
end
theorem AdG (t:Txt):Lib.hasPrefix t [99,10]=decide (t.take 2= [99,10]):=by
 unfold Lib.hasPrefix
 match t with
 | []=>rfl
 | [a]=>simp[List.isPrefixOf]
 |a::b::r=>
  rw[Bool.eq_iff_iff];simp[List.isPrefixOf]
  constructor<;>(rintro⟨h1,h2⟩;exact⟨h1.symm,h2.symm⟩)
theorem Alk (t:Txt) (h:t.take 2= [99,10]):Lib.trimPrefix t [99,10]=t.drop 2:=by
 unfold Lib.trimPrefix;rw[AdG,h];rfl
end Go.Proofs.YtmidbhnhcbpneaaGreatDoor.Top
end
section
namespace Go.Proofs.YtmidbhnhcbpneaaGreatDoor.Top
open Go Go.RowKit Go.Lt YtmidbhnhcbpneaaGreatDoor.Lit YtmidbhnhcbpneaaGreatDoor.Dec
open YtmidbhnhcbpneaaGreatDoor.Circ (T3 enc3 RdT Sl Cv Ae)
abbrev bstr (t:Txt):ByteArray:=⟨t.toArray⟩
theorem Ane {b:ByteArray} {t:Txt} (h:b.data.toList=t):b=bstr t:=by subst h;cases b;rfl
def sy3 (x:Sy):List Value:=[.int .u8 (bt x.k),.int .i64 (x.i:Nat),.string (bstr x.name)]
def Kv (l:List Sy):List Value:=l.flatMap sy3
theorem Uu (l:List Sy):(Kv l).length=l.length*3:=Mt _ 3 (λ_=>rfl) l
theorem AjN (l:List Sy) (x:Sy):Kv (l++ [x])=Kv l++sy3 x:=by unfold Kv;rw[List.flatMap_append];simp
theorem AeK:(Tryz.prog.info? 65).map (λi=>(i.zero,i.size,i.bytes))=some (some (.agg #[.int .u8 0,.int .i64 0,.string .empty]),3,32):=by kernel_rfl
theorem AeM:Tryz.prog.underlying 109=some (.map 65 4):=by kernel_rfl
theorem So:∀ w:World,(zeroValue 4).run Tryz.prog w= .ok (.bool false) w:=λw=>by kernel_rfl
def Xd (ml:List (Th×Value)) (ks:List Th):Prop:=∀ x,(mget ml x).getD (.bool false)= .bool (decide (x∈ks))
theorem Xd.put {ml:List (Th×Value)} {ks:List Th} (h:Xd ml ks) (x:Th):Xd (mput ml x (.bool true)) (ks++ [x]):=by
 intro y;rw[Xb]
 by_cases e:x=y
 ·subst e;rw[if_pos rfl]
  simp
 rw[if_neg e,h y]
 congr 1
 rw[Bool.eq_iff_iff,decide_eq_true_iff,decide_eq_true_iff,List.mem_append,List.mem_singleton]
 exact⟨.inl,λh=>h.elim id (λh=>absurd h.symm e)⟩
def Abc (h:Hd) (s:ByteArray) (p:Nat) (w:World) (e:Ending) (w':World):Prop:=
 ((∃l com sl,Fj h ((rest s p).length+1) [] (rest s p)=some (l,com)/\w'.ownsRow w.heap.size 65 3 (sv sl) l.length (Kv l)/\l.length<=s.size/\com.length<=s.size/\e= .returned (.tuple #[sv sl,.string (bstr com),.int .i64 (s.size:Nat),.int .i64 0]))∨
   (Fj h ((rest s p).length+1) [] (rest s p)=none/\∃a c,c≠0/\e= .returned (.tuple #[.slice none 0 0,.string ⟨#[]⟩,.int .i64 a,.int .i64 c])))/\Below w.heap.size w w'
structure TlM (h:Hd) (s:ByteArray) (p:Nat) (w:World) (n0:Nat) (W:World) (l:List Sy) (q f:Nat) (v:Value) (ml:List (Th×Value)):Prop where
 tto:Gk h ((rest s p).length+1) (rest s p) l f (rest s q)
 le:q<=s.size
 hd:Blk W n0 47 (Bt h)
 map:Ds W encS (n0+1) ml
 seen:Xd ml (l.map Oy)
 own:W.ownsRow n0 65 3 v l.length (Kv l)
 bel:Below n0 w W
theorem Qr (s:ByteArray) (p:Nat):(rest s p).length=s.size-p:=by unfold rest;simp
theorem TlM.cnt {h:Hd} {s:ByteArray} {p n0 q f:Nat} {w W:World} {l:List Sy} {v:Value} {ml:List (Th×Value)} (hM:TlM h s p w n0 W l q f v ml):l.length<=s.size:=by
 have j:=hM.tto.cnt;have h2:=hM.tto.fuel;rw[Qr]at j;omega
theorem Va {s:ByteArray} {h:Hd} {p:Nat} {w W:World} {tmps:Array Value} {x6 x7:Value} {a c:Int} (hP:Abc h s p w (.returned (.tuple #[x6,x7,.int .i64 a,.int .i64 c])) W)
  (h6:tmps[6]?=some x6) (h7:tmps[7]?=some x7) (h8:tmps[8]?=some (.int .i64 a)) (h9:tmps[9]?=some (.int .i64 c)):bodyPost Tryz.prog Tryz.f16 (Abc h s p w) .ret {tmps:=tmps,defers:=[]} W:=by
 refine bodyPost_ret (v:= .tuple #[x6,x7,.int .i64 a,.int .i64 c]) ?_ rfl hP;simp[results,Tryz.results16,go_sem,h6,h7,h8,h9]
theorem Aib {s:ByteArray} {h:Hd} {p:Nat} {w W:World} {a c:Int} (h1:Fj h ((rest s p).length+1) [] (rest s p)=none) (hc:c≠0) (hb:Below w.heap.size w W):Abc h s p w (.returned (.tuple #[.slice none 0 0,.string ⟨#[]⟩,.int .i64 a,.int .i64 c])) W:=⟨.inr ⟨h1,_,_,hc,rfl⟩,hb⟩
theorem AfA {s:ByteArray} {h:Hd} {p q f n0:Nat} {w W:World} {l:List Sy} {com:Txt} {v:Value} {ml:List (Th×Value)} (hM:TlM h s p w n0 W l q f v ml) (hn0:w.heap.size=n0) (h1:Fj h ((rest s p).length+1) [] (rest s p)=some (l,com)) (hc:com.length<=s.size):
  Abc h s p w (.returned (.tuple #[v,.string (bstr com),.int .i64 (s.size:Nat),.int .i64 0])) W:=by
 obtain⟨m,j,_⟩:=Be hM.own;subst j
 exact⟨.inl ⟨l,com,m,h1,by rw[hn0];exact hM.own,hM.cnt,hc,rfl⟩,by rw[hn0];exact hM.bel⟩
theorem TlM.after {h:Hd} {s:ByteArray} {p n0 q f:Nat} {w W W':World} {l:List Sy} {v:Value} {ml:List (Th×Value)} (hM:TlM h s p w n0 W l q f v ml) (hb:Below W.heap.size W W'):TlM h s p w n0 W' l q f v ml:=
 ⟨hM.tto,hM.le,hM.hd.below hb hM.hd.lt,hM.map.below hb hM.map.lt,hM.seen,Au hM.own hb,hM.bel.trans (hb.mono (Nat.le_of_lt hM.hd.lt))⟩
structure TlB (h:Hd) (s:ByteArray) (p:Nat) (w:World) (n0:Nat) (W:World) (l:List Sy) (x:Sy) (v:Value) (ml:List (Th×Value)):Prop where
 hd:Blk W n0 47 (Bt h)
 map:Ds W encS (n0+1) ml
 seen:Xd ml ((l++ [x]).map Oy)
 own:W.ownsRow n0 65 3 v l.length (Kv l)
 bel:Below n0 w W
theorem TlM.next {h:Hd} {s:ByteArray} {p n0 q f:Nat} {w W W':World} {l:List Sy} {x:Sy} {v:Value} {ml:List (Th×Value)} (hM:TlM h s p w n0 W l q f v ml) (hm:Ds W' encS (n0+1) (mput ml (x.k,x.i) (.bool true))) (hg:W.grownBy W' (some (n0+1))) (hn:w.heap.size=n0):TlB h s p w n0 W' l x v (mput ml (x.k,x.i) (.bool true)):=by
 have j:Fr (λk=>k=n0+1) W W':=Fr.of_grown hg (λk r=> .inl (Option.some.inj r).symm);refine⟨j.blk hM.hd (by omega),hm,by rw[List.map_append];exact hM.seen.put _,j.own hM.own (λg m e=>hM.map.own_ne hM.own (by rw[m,e])),hM.bel.trans (j.below (by have:=hM.bel.size;omega) (λk r=>by omega))⟩
theorem TlB.push {h:Hd} {s:ByteArray} {p n0 q f:Nat} {w W W':World} {o:Obj} {l:List Sy} {x:Sy} {v v':Value} {ml:List (Th×Value)} {news:List Value} (hB:TlB h s p w n0 W l x v ml) (hto:Gk h ((rest s p).length+1) (rest s p) (l++ [x]) f (rest s q)) (hq:q<=s.size)
  (hn:news=sy3 x) (hown:W'.ownsRow n0 65 3 v' (l.length+1) (Kv l++news)) (hb:Below n0 w W') (hg:(W.alloc o).grownBy W' v.ownBlock):TlM h s p w n0 W' (l++ [x]) q f v' ml:=by
 subst hn;refine⟨hto,hq,(hB.hd.alloc o).grown hg (Ba hB.own hB.hd (by decide)),(hB.map.alloc o).grown hg (hB.map.own_ne hB.own),hB.seen,?_,hb⟩;rw[List.length_append,AjN];exact hown
theorem Akm (h:Hd) (s:ByteArray) (p:Nat) (w:World) (hp:p<=s.size) (hs:s.size<=2000000) (ht:Nq h):
  Calls Tryz.prog 16 #[.string s,.int .i64 p,.agg (Bt h)] w (Abc h s p w):=by
 have i1:¬ (p:Int)<0:=by omega
 have i2:¬ (p:Int)>s.size:=by omega
 have bD:(s.size:Int)<=2000000:=by omega
 obtain⟨W1,D,b0,aD⟩:=Bb w (Bt h) 47
 have aV:W1.heap.size=w.heap.size+1:=by rw[<-D];simp
 replace D:=Ab D;have aQ:= @run_makeMap Tryz.prog
 go_enter Tryz.func16,Tryz.ntmps16
 go_upto_region 3 with fail
 rw[D.o];clear D i1 i2;generalize B:w.heap.size=n0 at*;go_wp2;have hm:=Ds.made W1 encS;have A:=(Below.refl W1.heap.size W1).alloc (Nl _) (.map #[] 0);rw[aV]at hm
 have aL:Hid (TlM h s p w n0 (W1.alloc (.map #[] 0)) [] p ((rest s p).length+1) (.slice none 0 0) []):=Ab
  ⟨Gk.zero h _,hp,b0.below A b0.lt,hm,λx=>by simp[mget],Bd,aD.trans (A.mono (by omega))⟩
 generalize W1.alloc (.map #[] 0)=W2 at*;clear hm A b0 aD aQ
 go_loopw [1,10] (λi v wr=>∃ q:Nat,i= .int .i64 q/\q<=s.size/\Hid (∃l f ml,TlM h s p w n0 wr l q f v ml)) (λi _ _=>s.size-(intOf i).toNat)
 case atStart=>exact⟨p,rfl,hp,Ab ⟨[],_,[],aL.o⟩⟩
 case round=>
  obtain⟨q,rfl,hq,j⟩:=hrel;obtain⟨l,f,ml,j⟩:=j.o;replace j:=Ab j;obtain⟨sl,rfl,bE⟩:=Be j.o.own
  by_cases aF:q<s.size
  rotate_left
  ·have bC:q=s.size:=by omega
   have aR:¬ (q:Int)<s.size:=by omega
   have aT:rest s q= []:=Up (by omega);have hT:=j.o.tto;rw[aT]at hT;have I:=Ab (AfA j.o B hT.end_ (Nat.zero_le _));go_wp2;exact Va I.o rfl rfl rfl rfl
  have aZ:(q:Int)<s.size:=by omega
  have aR:(q:Int)<=s.size:=by omega
  obtain⟨b,hb,hr⟩:=Ol aF
  have F:rest s q≠ []:=by rw[hr];simp
  have hl:(s.extract q s.size).data.toList=rest s q:=by
   rw[Pp];unfold rest;exact List.take_of_length_le (by simp)
  have HC:=Ab (λW=>Tryz.strings_CutPrefix (s.extract q s.size) ⟨#[99,10]⟩ W)
  by_cases h2:(rest s q).take 2= [99,10]
  ·obtain⟨U,y⟩:∃ U,(rest s q).drop 2=U:=⟨_,rfl⟩
   have J:=Ab (show ∀W,Calls Tryz.prog 47 #[.string (s.extract q s.size),.string ⟨#[99,10]⟩] W λe w'=>e= .returned (.tuple #[.string (bstr U),.bool true])/\W=w' from λW=>(HC.o W).mono (λe w' h=>⟨by
    rw[h.1,hl,Alk _ h2,AdG,h2,y];rfl,h.2.symm⟩))
   have I:=Ab (AfA j.o B (y▸j.o.tto.com h2) (by rw[<-y,List.length_drop,Qr];omega));clear y;clear HC hl hb hr
   go_wp2_with fail
   refine(J.o _).mono ?_;rintro e w1 ⟨rfl,rfl⟩;go_wp2;exact Va I.o rfl rfl rfl rfl
  have J:=Ab (show ∀W,Calls Tryz.prog 47 #[.string (s.extract q s.size),.string ⟨#[99,10]⟩] W λe w'=>(∃u,e= .returned (.tuple #[.string u,.bool false]))/\W=w' from λW=>(HC.o W).mono (λe w' h=>by
    have h1:=h.1;rw[AdG,hl,decide_eq_false h2]at h1
    exact⟨⟨_,h1⟩,h.2.symm⟩))
  clear HC hl hb hr;have HS:=Ab (AeL h s q wr aF hs ht);obtain⟨g0,g1,g2,g3,g4,g5,g6,g7⟩:=c8c j.o.hd;replace F:=Ab F;replace h2:=Ab h2
  go_wp2_with fail
  refine(J.o _).mono ?_;rintro e w1 ⟨⟨u,rfl⟩,rfl⟩;clear J
  go_wp2_with fail
  refine HS.o.mono ?_;rintro e w4 ⟨⟨v,a,c,rfl,hP,y0,y1,y2,rfl⟩,aE⟩;clear HS g0 g1 g2 g3 g4 g5 g6 g7;replace j:=Ab (j.o.after aE);have bA:=j.o.map.lt;clear aE;obtain⟨W5,M,S,R⟩:=Bb w4 #[.int .u8 y0,.int .i64 y1,.string y2] 65;replace M:=Ab M;replace j:=Ab (j.o.after R)
  go_upto_region 10 with fail
  rw[M.o];clear M R;have aY:=S.lt;generalize w4.heap.size=m0 at*
  rcases hP with⟨x,nb,q',O,aX,aJ,aB,hv,ha,hc⟩|⟨aI,hc⟩
  rotate_left
  ·have r:=Ab (Aib (a:=a) (j.o.tto.no F.o h2.o aI) hc (by rw[B];exact j.o.bel));clear aI;go_wp2;exact Va r.o rfl rfl rfl rfl
  subst hc;subst ha
  obtain⟨e0,e1,e2⟩:y0=bt x.k/\y1=(x.i:Nat)/\y2=nb:=by simpa using hv
  subst e0 e1 e2;clear hv;have m:=j.o.seen (x.k,x.i);have u0:=S.cell 0;have u1:=S.cell 1;have u2:=S.cell 2
  have aW:l.length<=2000000:=by have:=j.o.cnt;omega
  replace O:=Ab O
  by_cases N:(x.k,x.i)∈l.map Oy
  ·rw[decide_eq_true N]at m;have r:=λW (hbW:Below w.heap.size w W)=>Ab (Aib (a:=(q:Int)) (c:=7) (j.o.tto.twice F.o h2.o O.o N) (by decide) hbW)
   go_wp2_with fail
   refine(Lw _ _ _ _).mono ?_;rintro e w6 ⟨rfl,E⟩;clear u0 u1 u2;have z:=Ab (j.o.after E)
   go_wp2_with (at_lookup;refine Gt Qx AeM So rfl _ _ rfl z.o.map.toO (x.k,x.i) (by rfl) (by rfl) ?_;rw[m])
   exact Va (r _ (by rw[B];exact z.o.bel)).o rfl rfl rfl rfl
  rw[decide_eq_false N]at m
  have aS:(rest s q').length<(rest s q).length:=by rw[Qr,Qr];omega
  have aU:=Ab (j.o.tto.step F.o h2.o O.o N aS)
  go_wp2_with fail
  refine(Lw _ _ _ _).mono ?_;rintro e w6 ⟨rfl,E⟩;clear u0 u1 u2;have z:=Ab (j.o.after E);have b6:=S.below E S.lt;have v0:=b6.cell 0;have v1:=b6.cell 1;have v2:=b6.cell 2;clear j S E
  go_wp2_with (at_lookup;refine Gt Qx AeM So rfl _ _ rfl z.o.map.toO (x.k,x.i) (by rfl) (by rfl) ?_;rw[m])
  refine(Lw _ _ _ _).mono ?_;rintro e w7 ⟨rfl,Z⟩;clear v0 v1 v2;have Y:=Ab (z.o.after Z);have b7:=Ab (b6.below Z b6.lt);clear z b6 Z
  go_upto_region 15 with(at_mapUpdate;refine Jg Qx AeM rfl _ _ _ rfl Y.o.map (x.k,x.i) (.bool true) (by rfl) (by rfl) (by rfl) ?_;intro w8 aH aA bF)
  have X:=Ab (Y.o.next aH aA B);have b8:=b7.o.grown aA (by intro e;injection e with e;omega);have v0:=b8.cell 0;have v1:=b8.cell 1;have v2:=b8.cell 2
  have bB:w.heap.size<=n0:=by omega
  have aK:=Ab (show l.length+1<=maxLen by unfold maxLen;omega);have aO:=Ab (show(l.length+1)*32<=140737488355328 by omega);clear Y b7 aH aA
  go_wp2_with (at_builtin;refine Ah rfl _ _ _ rfl Tryz.underlying29 AeK rfl (by decide) rfl (by first|rfl|simp[go_sem]) X.o.own X.o.bel (Nat.le_of_eq B.symm) (by rfl) (by simp[Value.oneCell']) aK.o aO.o ?_;intro v9 w9 aC aN aP)
  have aM:=Ab (X.o.push aU.o aJ (by unfold sy3;rw[Ane aB]) aC aN aP);go_roundw
  case rel=>exact⟨q',rfl,aJ,Ab ⟨_,_,_,aM.o⟩⟩
  case measure=>simp[intOf];omega
theorem Agp (w:World):Calls Tryz.prog 187 #[.float .f64 0,.float .f64 0] w λe j=>e= .returned (.bool false)/\w=j:=by
 go_enter Tryz.func187,Tryz.ntmps187
 go_wp2;go_ret
 exact⟨rfl,rfl⟩
theorem heap_ahead (H gs n:Nat) (tv av:Value) (a b:Nat) (w:World) (hb:Blk w H 193 #[.slice (some ⟨gs,0,none⟩) n n,tv,av]) (hs:∀ i,i<n->w.cell? ⟨gs,i,none⟩=some (.float .f64 0)) (ha:a<n) (hbn:b<n) (hn:n<=16777216):
  Calls Tryz.prog 143 #[.pointer (some ⟨H,0,none⟩),.int .i64 a,.int .i64 b] w λe y=>e= .returned (.bool (decide (a<b)))/\Dr w y:=by
 have q:(a:Int)<n:=by omega
 have r:(b:Int)<n:=by omega
 have x:(n:Int)<=16777216:=by omega
 have h:=hs a ha;have B:=hs b hbn;have z:=hb.cell 0;clear hs hb;have l:=Ab Agp
 by_cases j:a<b
 ·have p:(a:Int)<b:=by omega
  rw[decide_eq_true j]
  go_enter Tryz.func143,Tryz.ntmps143
  go_wp2
  go_quiet (fail)
  go_wp2_with fail
  refine(l.o _).mono ?_;rintro e m ⟨rfl,rfl⟩
  go_wp2_with fail
  refine(l.o _).mono ?_;rintro e m ⟨rfl,rfl⟩;go_wp2;go_ret
  exact⟨rfl,⟨_,rfl⟩⟩
 have p:¬ (a:Int)<b:=by omega
 rw[decide_eq_false j]
 go_enter Tryz.func143,Tryz.ntmps143
 go_wp2
 go_quiet (fail)
 go_wp2_with fail
 refine(l.o _).mono ?_;rintro e m ⟨rfl,rfl⟩
 go_wp2_with fail
 refine(l.o _).mono ?_;rintro e m ⟨rfl,rfl⟩;go_wp2;go_ret
 exact⟨rfl,⟨_,rfl⟩⟩
structure Aaz (tree:List Nat) (n:Nat) (ats:List Int):Prop where
 len:ats.length=n
 nod:tree.Nodup
 lt:∀ x∈tree,x<n
 pos:∀ j,j<tree.length->ats[atH tree j]?=some (j:Int)
 neg:∀ x,x<n->x∉tree->ats[x]?=some (-1)
theorem Ia {t:List Nat} {j:Nat} (h:j<t.length):atH t j∈t:=by
 unfold atH;rw[List.getD_eq_getElem?_getD,List.getElem?_eq_getElem h];exact List.getElem_mem h
theorem Zm {t:List Nat} {j:Nat} (h:j<t.length):t[j]?=some (atH t j):=by
 unfold atH;rw[List.getD_eq_getElem?_getD,List.getElem?_eq_getElem h];rfl
theorem Adh {t:List Nat} (hn:t.Nodup) {i j:Nat} (hi:i<t.length) (hj:j<t.length) (e:atH t i=atH t j):i=j:=by
 have l:=Zm hi;have h2:=Zm hj;rw[e,<-h2]at l;exact Wv hn hi hj (by rw[List.getElem?_eq_getElem hi,List.getElem?_eq_getElem hj]at l;exact Option.some.inj l)
theorem Aaz.swap {tree:List Nat} {n i k:Nat} {ats:List Int} (h:Aaz tree n ats) (hi:i<tree.length) (hk:k<tree.length):
  Aaz (Cc tree i k) n ((ats.set (atH (Cc tree i k) i) i).set (atH (Cc tree i k) k) k):=by
 have E:=Sf hi hk;have m:(Cc tree i k).Nodup:=E.nodup_iff.2 h.nod;have r:∀ x∈Cc tree i k,x<n:=λx F=>h.lt x (E.mem_iff.1 F);have l:=Dz tree i k;refine⟨by simp[h.len],m,r,λj p=>?_,λx F B=>?_⟩
 ·rw[l]at p
  have q:atH (Cc tree i k) j<ats.length:=by rw[h.len];exact r _ (Ia (by rw[l];exact p))
  rw[List.getElem?_set,List.getElem?_set,List.length_set]
  by_cases y:atH (Cc tree i k) k=atH (Cc tree i k) j
  ·have:=Adh m (by rw[l];exact hk) (by rw[l];exact p) y
   subst this;rw[if_pos rfl,if_pos q]
  rw[if_neg y]
  by_cases z:atH (Cc tree i k) i=atH (Cc tree i k) j
  ·have:=Adh m (by rw[l];exact hi) (by rw[l];exact p) z
   subst this;rw[if_pos rfl,if_pos q]
  rw[if_neg z,Vy hi hk,if_neg (λe=>y (by rw[e])),if_neg (λe=>z (by rw[e]))];exact h.pos j p
 have D:x∉tree:=λI=>B (E.mem_iff.2 I);rw[List.getElem?_set,List.getElem?_set,if_neg (λe=>B (by rw[<-e];exact Ia (by rw[l];exact hk))),if_neg (λe=>B (by rw[<-e];exact Ia (by rw[l];exact hi)))];exact h.neg x F D
abbrev Rp (n:Nat):Array Value:=(List.replicate n (Value.float .f64 0)).toArray
structure HpM (W:World) (H gs ga n B:Nat) (tv:Value) (tree:List Nat):Prop where
 box:Blk W H 193 #[.slice (some ⟨gs,0,none⟩) n n,tv,.slice (some ⟨ga,0,none⟩) n n]
 sc:Blk W gs 75 (Rp n)
 own:W.ownsRow B 3 1 tv tree.length (nvs tree)
 ats:∃ ats:List Int,Blk W ga 3 (ivs ats).toArray/\Aaz tree n ats
 low:H<B/\gs<B/\ga<B
 few:n<=1048576
section
variable {W W':World} {H gs ga n B:Nat} {tv:Value} {tree:List Nat}
theorem HpM.fr {S:Nat->Prop} (h:HpM W H gs ga n B tv tree) (hf:Fr S W W') (h1:¬ S H) (h2:¬ S gs) (h3:¬ S ga) (h4:∀ g,tv.ownBlock=some g->¬S g):HpM W' H gs ga n B tv tree:=by
 obtain⟨j,m,l⟩:=h.ats
 exact⟨hf.blk h.box h1,hf.blk h.sc h2,hf.own h.own h4,⟨j,hf.blk m h3,l⟩,h.low,h.few⟩
theorem HpM.below (h:HpM W H gs ga n B tv tree) (hb:Below W.heap.size W W'):HpM W' H gs ga n B tv tree:=h.fr (S:=λ_=>False) (Fr.of_below hb) id id id (λ_ _=>id)
theorem HpM.dr (h:HpM W H gs ga n B tv tree) (hd:Dr W W'):HpM W' H gs ga n B tv tree:=h.below (hd.below _)
theorem HpM.nod (h:HpM W H gs ga n B tv tree):tree.Nodup:=by obtain⟨l,_,j⟩:=h.ats;exact j.nod
theorem HpM.lt (h:HpM W H gs ga n B tv tree):∀ x∈tree,x<n:=by obtain⟨l,_,j⟩:=h.ats;exact j.lt
theorem HpM.len (h:HpM W H gs ga n B tv tree):tree.length<=n:=by
 have:=Ll tree (List.range n) h.nod (λx j=>List.mem_range.2 (h.lt x j))
 simpa using this
theorem HpM.score (h:HpM W H gs ga n B tv tree):∀ i,i<n->W.cell? ⟨gs,i,none⟩=some (.float .f64 0):=λi hi=>by
 rw[h.sc.cell i];simp[List.getElem?_replicate,hi]
theorem HpM.row (h:HpM W H gs ga n B tv tree) (hne:0<tree.length):∃ g j cs,tv= .slice (some ⟨g,0,none⟩) tree.length j/\B<=g/\Blk W g 3 cs/\cs.size=j/\tree.length<=j/\j<=maxLen/\cs.toList.take tree.length=nvs tree:=by
 obtain⟨_,h2⟩:=h.own
 rcases h2 with⟨_,D⟩|⟨g,j,m,y,p,z,x,q,r,l⟩
 ·omega
 exact⟨g,j,m,y,p,z,by simpa using r,x,q,by simpa using l⟩
end
theorem Ul {cs:Array Value} {t:List Nat} {j:Nat} (h:cs.toList.take t.length=nvs t) (hj:j<t.length):cs[j]?=some (.int .i64 (atH t j:Nat)):=by
 have l:(cs.toList.take t.length)[j]?=(nvs t)[j]?:=by rw[h]
 rw[List.getElem?_take,if_pos hj,List.getElem?_map,Zm hj]at l
 simpa using l
theorem Zt {cs:Array Value} {t:List Nat} {j x:Nat} (h:cs.toList.take t.length=nvs t) (hj:j<t.length):(cs.setIfInBounds j (.int .i64 (x:Nat))).toList.take (t.set j x).length=nvs (t.set j x):=by
 rw[List.length_set,Array.toList_setIfInBounds,List.take_set,h];unfold nvs;rw[List.map_set]
theorem Vx (l:List Int) (j:Nat) (x:Int):(ivs l).toArray.setIfInBounds j (.int .i64 x)=(ivs (l.set j x)).toArray:=by
 unfold ivs;rw[List.map_set]
 simp
theorem HpM.swap {W W1 W2:World} {H gs ga n B g cap i k:Nat} {tree:List Nat} (h:HpM W H gs ga n B (.slice (some ⟨g,0,none⟩) tree.length cap) tree) (hi:i<tree.length) (hk:k<tree.length)
  (h1:W1=(W.drew.setCell ⟨g,i,none⟩ (.int .i64 (atH tree k:Nat))).setCell ⟨g,k,none⟩ (.int .i64 (atH tree i:Nat))) (h2:W2=(W1.drew.setCell ⟨ga,atH (Cc tree i k) i,none⟩ (.int .i64 i)).setCell ⟨ga,atH (Cc tree i k) k,none⟩ (.int .i64 k)):
  HpM W2 H gs ga n B (.slice (some ⟨g,0,none⟩) tree.length cap) (Cc tree i k)/\Fr (λq=>q=ga∨q=g) W W2:=by
 obtain⟨g',J,m,Z,D,X,F,I,E,j⟩:=h.row (by omega);injection Z with hv1 _ hv2;injection hv1 with hv1;injection hv1 with hv1 _ _;subst hv1 hv2;obtain⟨l,y,z⟩:=h.ats;obtain⟨l1,l2,l3⟩:=h.low
 have R:Fr (λq=>q=ga∨q=g) W W1:=by
  subst h1
  exact(((Fr.refl _ W).drew).set (p:=⟨g,i,none⟩) (.inr rfl) _).set (p:=⟨g,k,none⟩) (.inr rfl) _
 have r:Fr (λq=>q=ga∨q=g) W W2:=by
  subst h2
  exact(R.drew.set (p:=⟨ga,_,none⟩) (.inl rfl) _).set (p:=⟨ga,_,none⟩) (.inl rfl) _
 have S:Blk W1 g 3 ((m.setIfInBounds i (.int .i64 (atH tree k:Nat))).setIfInBounds k (.int .i64 (atH tree i:Nat))):=by
  subst h1
  exact((X.dr (Dr.refl _).drew).set_ i _).set_ k _
 have N:Blk W1 ga 3 (ivs l).toArray:=by
  subst h1
  exact((y.dr (Dr.refl _).drew).far (p:=⟨g,i,none⟩) (by simp;omega) _).far (p:=⟨g,k,none⟩) (by simp;omega) _
 have Y:ga≠g:=by omega
 have hH:H≠ga:=Af h.box y (by decide);have hS:gs≠ga:=Af h.sc y (by decide)
 have U:Blk W2 g 3 ((m.setIfInBounds i (.int .i64 (atH tree k:Nat))).setIfInBounds k (.int .i64 (atH tree i:Nat))):=by
  subst h2
  exact((S.dr (Dr.refl _).drew).far (p:=⟨ga,_,none⟩) (by simp;omega) _).far (p:=⟨ga,_,none⟩) (by simp;omega) _
 have O:Blk W2 ga 3 (ivs ((l.set (atH (Cc tree i k) i) i).set (atH (Cc tree i k) k) k)).toArray:=by
  subst h2;rw[<-Vx,<-Vx]
  exact((N.dr (Dr.refl _).drew).set_ _ _).set_ _ _
 refine⟨⟨r.blk h.box (by omega),r.blk h.sc (by omega),?_,⟨_,O,z.swap hi hk⟩,h.low,h.few⟩,r⟩
 have M:((m.setIfInBounds i (.int .i64 (atH tree k:Nat))).setIfInBounds k (.int .i64 (atH tree i:Nat))).toList.take (Cc tree i k).length=nvs (Cc tree i k):=by
  have A:=Zt (x:=atH tree k) j hi;exact Zt (x:=atH tree i) A (by rw[List.length_set];exact hk)
 rw[Dz]at M ⊢
 exact⟨by simp[Dz],.inr ⟨g,cap,_,rfl,D,U,I,E,by simp[F],by simpa using M⟩⟩
end Go.Proofs.YtmidbhnhcbpneaaGreatDoor.Top
end
