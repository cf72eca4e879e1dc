/- A part of the proof. -/
import Derived.Test.YtmidbhnhcbpneaaGreatDoorM4
import Derived.Test.YtmidbhnhcbpneaaGreatDoorM3
import Derived.Lib.AtoiErrMem
import Derived.Lib.Strings
import Derived.Test.YtmidbhnhcbpneaaGreatDoorM1
import Derived.Shelf.LaysM
import Derived.Shelf.Strings.Builder1
import Derived.Shelf.Strings.Builder2
import Derived.Shelf.Strings.OnBuilder
import Derived.Shelf.Small.Strs
import Derived.Shelf.Small.Wraps
import Derived.Shelf.Strings.BuilderF
import Derived.Shelf.Strings.BuilderK
import Derived.Shelf.Strings.Search1
import Derived.Shelf.Slices.Equal
import Derived.Shelf.Slices.Clone
import Derived.Shelf.Slices.Turned
import Derived.Ground.NamesProg
import Derived.Ground.Names2Prog
import Derived.Test.YtmidbhnhcbpneaaGreatDoorProg
import Derived.Test.YtmidbhnhcbpneaaGreatDoorM2
import Derived.WalkLawsBesides
import Derived.Defers
import Derived.Recover
import Derived.BigRegion
import Derived.ProofKit
import Derived.OpenShut
import Derived.Deep.Strs
import Derived.Deep.Grids
set_option linter.unusedVariables false
set_option linter.unusedSimpArgs false
set_option maxRecDepth 8000
set_option maxHeartbeats 8000000
section
namespace Go.Proofs.YtmidbhnhcbpneaaGreatDoor.Dec
open Go.RowKit Go.Lt YtmidbhnhcbpneaaGreatDoor.Lit
def bt (c:UInt8):Int:=((c.toNat:Nat):Int)
theorem Ff (s:ByteArray):s.data.toList.length=s.size:=by rw[Array.length_toList];rfl
theorem Da {P:Program} {t:TypeId} (h:P.underlying t=some .string) (s:ByteArray) (k:Nat) (c:UInt8) (j:s.data.toList[k]?=some c) (W:World):
  (Instr.index t (.string s) (.int .i64 k)).run P W= .ok (.int .u8 (bt c)) W:=by
 have m:k<s.size:=by have:=(List.getElem?_eq_some_iff.1 j).1;rwa [Ff]at this
 rw[run_index_string W t s .i64 k h,dif_pos ⟨by omega,by omega⟩];rw[Array.getElem?_toList]at j;have l:k<s.data.size:=m;rw[Array.getElem?_eq_getElem l]at j;have j:=Option.some.inj j;unfold bt;rw[<-j];rfl
theorem Aly {P:Program} {t:TypeId} (h:P.underlying t=some .string) (s:ByteArray) (c:UInt8) (hx:s.data.toList[0]?=some c) (W:World):
 (Instr.index t (.string s) (.int .i64 0)).run P W= .ok (.int .u8 (bt c)) W:=Da h s 0 c hx W
theorem AeG (c:UInt8):0<=bt c/\bt c<=255:=by unfold bt;have:=c.toNat_lt;omega
theorem Ahc {c:UInt8}:isD c=true↔48<=bt c/\bt c<=57:=by rw[Si];unfold bt;omega
theorem Aoo {c:UInt8}:bt c=48↔c=48:=by
 constructor
 ·intro h;apply UInt8.toNat_inj.1;unfold bt at h;have j:(48:UInt8).toNat=48:=rfl;omega
 rintro rfl;rfl
theorem AfS (c:UInt8) (w:World):Calls Tryz.prog 111 #[.int .u8 (bt c)] w λe p=>e= .returned (.bool (isD c))/\w=p:=by
 have q:=AeG c
 by_cases l:48<=bt c
 ·by_cases m:bt c<=57
  ·have j:=Ab (show true=isD c from(Ahc.2 ⟨l,m⟩).symm);generalize bt c=x at*
   go_enter Tryz.func111,Tryz.ntmps111
   go_wp2;go_ret
   exact⟨Kn j.o,rfl⟩
  have j:=Ab (show false=isD c by cases h:isD c;rfl;exact absurd (Ahc.1 h).2 m);generalize bt c=x at*
  go_enter Tryz.func111,Tryz.ntmps111
  go_wp2;go_ret
  exact⟨Kn j.o,rfl⟩
 have j:=Ab (show false=isD c by cases h:isD c;rfl;exact absurd (Ahc.1 h).1 l);generalize bt c=x at*
 go_enter Tryz.func111,Tryz.ntmps111
 go_wp2;go_ret
 exact⟨Kn j.o,rfl⟩
theorem Oi {c:UInt8} {b:Bool} (h:isD c=b) (w:World):Calls Tryz.prog 111 #[.int .u8 (bt c)] w λe j=>e= .returned (.bool b)/\w=j:=by subst h;exact AfS c w
theorem Ago {l:List UInt8} {k:Nat} (h:k<dlen l):∃ c,l[k]?=some c/\isD c=true:=by
 have j:=Vb l;refine⟨l[k]'(by omega),List.getElem?_eq_getElem _,Aay l _ ?_⟩;rw[List.mem_take_iff_getElem]
 exact⟨k,by omega,rfl⟩
theorem Akb {l:List UInt8} {c:UInt8} (h:l[dlen l]?=some c):isD c=false:=by
 have:∀ (l:List UInt8) (c:UInt8),l[(l.takeWhile isD).length]?=some c->isD c=false:=by
  intro l
  induction l with
  |nil=>intro c h;simp at h
  |cons a l j=>
   intro c h;rw[List.takeWhile_cons]at h
   split at h
   ·exact j c (by simpa using h)
   rename_i hn
   have:a=c:=by simpa using h
   subst this
   simpa using hn
 exact this l c h
theorem Akt {l:List UInt8} {d:Nat} {c:UInt8} (hd:0<d) (h:l[0]?=some c):(l.take d)[0]?=some c:=by
 rw[List.getElem?_take,if_pos hd];exact h
theorem Ud (s:ByteArray) (p:Nat) (w:World) (hp:p<=s.size) (hs:s.size<=2000000):Calls Tryz.prog 110 #[.string s,.int .i64 p] w λe q=>e= .returned (.bool false)/\w=q:=by
 have j:(p:Int)<=s.size:=by omega
 have l:¬ (p:Int)>s.size:=by omega
 have m:(s.size:Int)<=2000000:=by omega
 go_enter Tryz.func110,Tryz.ntmps110
 go_wp2;go_ret
 exact⟨rfl,rfl⟩
theorem AkC {l:List UInt8} {p k:Nat}:(l.drop p)[k]?=l[p+k]?:=List.getElem?_drop
def Xk (s:ByteArray) (p:Nat) (w:World) (e:Ending) (w':World):Prop:=
 e= .returned (.tuple #[.int .i64 ((Bq (s.data.toList.drop p)).1:Nat),.int .i64 (((if(Bq (s.data.toList.drop p)).2.2=0 then p+(Bq (s.data.toList.drop p)).2.1 else 0):Nat):Int),.int .i64 ((Bq (s.data.toList.drop p)).2.2:Nat)])/\Below w.heap.size w w'
theorem Sg {s:ByteArray} {p:Nat} {w w':World} {c:Nat} (h:Bq (s.data.toList.drop p)=(0,0,c)) (hc:c≠0) (hw:Below w.heap.size w w'):
  Xk s p w (.returned (.tuple #[.int .i64 0,.int .i64 0,.int .i64 (c:Nat)])) w':=by
 refine⟨?_,hw⟩;rw[h];simp only[if_neg hc];rfl
theorem Vg {s:ByteArray} {p q v:Nat} {w w':World} {d:Nat} (h:Bq (s.data.toList.drop p)=(v,d,0)) (hq:q=p+d) (hw:Below w.heap.size w w'):
  Xk s p w (.returned (.tuple #[.int .i64 (v:Nat),.int .i64 (q:Nat),.int .i64 0])) w':=by
 refine⟨?_,hw⟩;rw[h];simp only[if_true];rw[hq];rfl
theorem Pj (s:ByteArray) (p:Nat) (w:World) (hp:p<=s.size) (hs:s.size<=2000000):
  Calls Tryz.prog 82 #[.string s,.int .i64 p] w (Xk s p w):=by
 obtain⟨L,R⟩:∃ L,s.data.toList.drop p=L:=⟨_,rfl⟩
 have N:L.length=s.size-p:=by rw[<-R,List.length_drop,Ff]
 have bJ:(s.size:Int)<=2000000:=by omega
 have aT:(p:Int)<=s.size:=by omega
 have HD:=Ab (λk=>Ago (l:=L) (k:=k));have HX:=Ab (λc=>Akb (l:=L) (c:=c))
 have hd:dlen L<=s.size-p:=by rw[<-N];exact Vb _
 obtain⟨d,m⟩:∃ d,dlen L=d:=⟨_,rfl⟩;rw[m]at HD HX hd
 have A:∀ k c,L[k]?=some c->s.data.toList[p+k]?=some c:=λk c h=>by rw[<-R,AkC]at h;exact h
 replace A:=Ab A;replace m:=Ab m;replace R:=Ab R;obtain⟨q,I⟩:∃ q,q=p+d:=⟨_,rfl⟩
 have aW:q<=s.size:=by omega
 have aV:(q:Int)<=s.size:=by omega
 have aU:(p:Int)<=q:=by omega
 have aD:p<=q:=by omega
 have HO:=Ab (λW=>Ud s p W hp hs);replace hs:=Ab hs;replace I:=Ab I
 go_enter Tryz.func82,Tryz.ntmps82
 go_wp2_with fail
 refine(HO.o _).mono ?_;rintro e Z ⟨rfl,rfl⟩;go_wp2
 go_loop [7] (λt=>∃ k:Nat,p<=k/\k<=q/\t= .int .i64 k) (λt=>q-(intOf t).toNat)
 case atStart=>exact⟨p,Nl _,aD,rfl⟩
 case round=>
  obtain⟨k,aP,hk,rfl⟩:=hrel
  have aK:(p:Int)<=k:=by omega
  by_cases aH:k<q
  ·obtain⟨c,x,z⟩:=HD.o (k-p) (by have:=I.o;omega);have aF:=A.o _ _ x;rw[show p+(k-p)=k by omega]at aF
   have bI:(k:Int)<s.size:=by omega
   have bA:k<s.size:=by omega
   have B:=λW=>Da (P:=Tryz.prog) Tryz.underlying9 s k c aF W;have H:=Ab (Oi z);clear x z aF
   go_wp2_with fail
   refine(H.o _).mono ?_;rintro e Z ⟨rfl,rfl⟩;go_wp2
   go_round
   case rel=>exact⟨k+1,by omega,aH,by go_num⟩
   case measure=>simp[intOf];omega
  have aQ:k=q:=by omega
  subst aQ;clear aH aP aK hk
  have M:(k<s.size/\∃c,s.data.toList[k]?=some c/\isD c=false)∨k=s.size:=by
   rcases Nat.lt_or_ge k s.size with h|h
   ·obtain⟨c,x⟩:∃ c,L[d]?=some c:=⟨_,List.getElem?_eq_getElem (by have:=I.o;omega)⟩;have h5:=A.o _ _ x;rw[<-I.o]at h5;exact .inl ⟨h,_,h5,HX.o _ x⟩
   exact .inr (by omega)
  clear HX HD
  by_cases hz:p=s.size
  ·have X:L= []:=List.eq_nil_of_length_eq_zero (by omega);have J:=Ab (show Bq (s.data.toList.drop p)=(0,0,3) by rw[R.o,X];rfl)
   have U:k=p:=by omega
   subst U;have bN:s.size=k:=hz.symm
   have bH:¬ k<s.size:=by omega
   clear X M m aU aD aV aT aW R N A
   have bM:(s.size:Int)=k:=by omega
   clear hz;go_wp2
   go_ret3
   exact Sg (c:=3) J.o (by decide) (Below.refl _ _)
  have bK:((p:Int)==(s.size:Int))=false:=by rw[beq_eq_false_iff_ne];omega
  have bL:¬ (p:Int)=s.size:=by omega
  have X:L≠ []:=λh=>hz (by rw[h]at N;simp at N;omega);obtain⟨j,aI⟩:∃ j,s.extract p k=j:=⟨_,rfl⟩
  have D:j.data.toList=L.take d:=by
   rw[<-aI,Lib.extract_data,R.o];have h6:=I.o;rw[show k-p=d by omega]
  have aY:j.size=d:=by rw[<-Ff,D,List.length_take,N];have:=I.o;omega
  by_cases U:d=0
  ·have J:=Ab (show Bq (s.data.toList.drop p)=(0,0,2) by
    rw[R.o];unfold Bq;rw[if_neg X,if_pos (.inl (by rw[m.o];exact U))])
   have aX:j=⟨#[]⟩:=by
    have:j.data.toList= []:=by rw[D,U];rfl
    obtain⟨⟨wl⟩⟩:=j;simp at this;rw[this]
   subst aX
   have aR:k=p:=by have:=I.o;omega
   subst aR
   have aH:k<s.size:=by omega
   have bB:(k:Int)<s.size:=by omega
   rcases M with⟨h1,c,x,z⟩|h1
   ·have B:=λW=>Da (P:=Tryz.prog) Tryz.underlying9 s k c x W;have H:=Ab (Oi z);clear x z X D aY m A
    go_wp2_with fail
    refine(H.o _).mono ?_;rintro e Z ⟨rfl,rfl⟩;go_wp2
    go_ret3
    exact Sg (c:=2) J.o (by decide) (Below.refl _ _)
   omega
  obtain⟨Y,S⟩:∃ Y,L[0]?=some Y:=⟨_,List.getElem?_eq_getElem (by have:=I.o;omega)⟩
  have aC:j.data.toList[0]?=some Y:=by rw[D];exact Akt (by omega) S
  have r:L.head? =some Y:=by rw[List.head?_eq_getElem?];exact S
  have aZ:=λW=>Aly (P:=Tryz.prog) Tryz.underlying9 j Y aC W
  have aM:¬ j.toList= []:=by
   intro h
   have h1:j.data.toList.length=0:=by rw[<-Lib.toList_data,h];rfl
   rw[Ff]at h1;omega
  have aL:j.toList.isEmpty=false:=by simpa using aM
  have bD:(!j.toList.isEmpty)=true:=by rw[aL];rfl
  have y:=Ab M;clear M
  by_cases F:bt Y=48/\1<d
  ·obtain⟨h1,h2⟩:=F
   have J:=Ab (show Bq (s.data.toList.drop p)=(0,0,2) by
    rw[R.o];unfold Bq;rw[if_neg X,if_pos (.inr ⟨by rw[r,Aoo.1 h1],by rw[m.o];exact h2⟩)])
   have bG:(1:Int)<d:=by omega
   clear X D m S aC r A
   rcases y.o with⟨O,c,x,z⟩|O
   ·have B:=λW=>Da (P:=Tryz.prog) Tryz.underlying9 s k c x W
    have E:(k:Int)<s.size:=by omega
    have H:=Ab (Oi z);clear x z
    go_wp2_with fail
    refine(H.o _).mono ?_;rintro e Z ⟨rfl,rfl⟩;go_wp2
    go_ret3
    exact Sg (c:=2) J.o (by decide) (Below.refl _ _)
   have aE:¬ k<s.size:=by omega
   have E:¬ (k:Int)<s.size:=by omega
   clear O;go_wp2
   go_ret3
   exact Sg (c:=2) J.o (by decide) (Below.refl _ _)
  have aB:¬ (dlen L=0∨L.head? =some 48/\1<dlen L):=by
   rw[m.o,r];rintro(h|⟨h1,h2⟩)
   ·exact U h
   exact F ⟨Aoo.2 (Option.some.inj h1),h2⟩
  by_cases h9:9<d
  ·have J:=Ab (show Bq (s.data.toList.drop p)=(0,0,5) by
    rw[R.o];unfold Bq;rw[if_neg X,if_neg aB,if_pos (by rw[m.o];exact h9)])
   have aN:(9:Int)<d:=by omega
   have aA:¬ bt Y=48:=λh=>F ⟨h,by omega⟩
   have aO:(bt Y==48)=false:=by rw[beq_eq_false_iff_ne];exact aA
   clear X D m S aC r aB F A
   rcases y.o with⟨O,c,x,z⟩|O
   ·have B:=λW=>Da (P:=Tryz.prog) Tryz.underlying9 s k c x W
    have E:(k:Int)<s.size:=by omega
    have H:=Ab (Oi z);clear x z
    go_wp2_with fail
    refine(H.o _).mono ?_;rintro e Z ⟨rfl,rfl⟩;go_wp2
    go_ret3
    exact Sg (c:=5) J.o (by decide) (Below.refl _ _)
   have aE:¬ k<s.size:=by omega
   have E:¬ (k:Int)<s.size:=by omega
   clear O;go_wp2
   go_ret3
   exact Sg (c:=5) J.o (by decide) (Below.refl _ _)
  have J:=Ab (show Bq (s.data.toList.drop p)=(decV (L.take d),d,0) by
   rw[R.o];unfold Bq;rw[if_neg X,if_neg aB,if_neg (by rw[m.o];exact h9),m.o])
  have aJ:Lib.atoi j.data.toList=some ((decV (L.take d):Nat):Int):=by
   rw[D];refine Aek _ ?_ ?_
   ·intro h;have:=congrArg List.length h;rw[List.length_take,N]at this;have h0:([]:List UInt8).length=0:=rfl
    have:=I.o
    omega
   have:=Aay L
   rw[m.o]at this;exact this
  have HA:=Ab (λW=>Tryz.strconv_Atoi j _ (by omega) aJ W)
  have aN:¬ (9:Int)<d:=by omega
  have bC:p<k:=by have:=I.o;omega
  have aS:(p:Int)<k:=by omega
  generalize decV (L.take d)=v at*;clear X D m S aC r aB aJ A
  by_cases aA:bt Y=48
  ·have bF:¬ 1<d:=λh=>F ⟨aA,h⟩
   have bE:¬ (1:Int)<d:=by omega
   clear F
   rcases y.o with⟨O,c,x,z⟩|O
   ·have B:=λW=>Da (P:=Tryz.prog) Tryz.underlying9 s k c x W
    have E:(k:Int)<s.size:=by omega
    have H:=Ab (Oi z);clear x z
    go_wp2_with fail
    refine(H.o _).mono ?_;rintro e Z ⟨rfl,rfl⟩
    go_wp2_with fail
    refine(HA.o _).mono ?_;rintro e Z ⟨rfl,t,rfl⟩;have hb:=Lib.bytesWorld_below w 5 t;generalize Lib.bytesWorld w 5 t=w1 at*;go_wp2
    go_ret3
    exact Vg J.o I.o hb
   have aE:¬ k<s.size:=by omega
   have E:¬ (k:Int)<s.size:=by omega
   clear O
   go_wp2_with fail
   refine(HA.o _).mono ?_;rintro e Z ⟨rfl,t,rfl⟩;have hb:=Lib.bytesWorld_below w 5 t;generalize Lib.bytesWorld w 5 t=w1 at*;go_wp2
   go_ret3
   exact Vg J.o I.o hb
  have aO:(bt Y==48)=false:=by rw[beq_eq_false_iff_ne];exact aA
  clear F
  rcases y.o with⟨O,c,x,z⟩|O
  ·have B:=λW=>Da (P:=Tryz.prog) Tryz.underlying9 s k c x W
   have E:(k:Int)<s.size:=by omega
   have H:=Ab (Oi z);clear x z
   go_wp2_with fail
   refine(H.o _).mono ?_;rintro e Z ⟨rfl,rfl⟩
   go_wp2_with fail
   refine(HA.o _).mono ?_;rintro e Z ⟨rfl,t,rfl⟩;have hb:=Lib.bytesWorld_below w 5 t;generalize Lib.bytesWorld w 5 t=w1 at*;go_wp2
   go_ret3
   exact Vg J.o I.o hb
  have aE:¬ k<s.size:=by omega
  have E:¬ (k:Int)<s.size:=by omega
  clear O
  go_wp2_with fail
  refine(HA.o _).mono ?_;rintro e Z ⟨rfl,t,rfl⟩;have hb:=Lib.bytesWorld_below w 5 t;generalize Lib.bytesWorld w 5 t=w1 at*;go_wp2
  go_ret3
  exact Vg J.o I.o hb
end Go.Proofs.YtmidbhnhcbpneaaGreatDoor.Dec
end
section
namespace Go.Lt
open Go.RowKit
structure Fr (S:Nat->Prop) (w w':World):Prop where
 os:w'.os=w.os
 tape:w'.tape=w.tape
 output:w'.output=w.output
 size:w.heap.size<=w'.heap.size
 block:∀ k,k<w.heap.size->¬S k->w'.heap[k]?=w.heap[k]?
theorem Fr.refl (S:Nat->Prop) (w:World):Fr S w w:=⟨rfl,rfl,rfl,Nl _,λ_ _ _=>rfl⟩
theorem Fr.of_below {S:Nat->Prop} {w w':World} (h:Below w.heap.size w w'):Fr S w w':=⟨h.os,h.tape,h.output,h.size,λk j _=>h.block k j⟩
theorem Fr.of_grown {S:Nat->Prop} {w w':World} {row:Option Nat} (h:w.grownBy w' row) (hr:∀ k,row=some k->S k∨w.heap.size<=k):Fr S w w':=
 ⟨h.os,h.tape,h.output,h.size,λk m l=>h.block k m (λe=>by rcases hr k e.symm with j|j;exact l j;omega)⟩
theorem Fr.trans {S:Nat->Prop} {a b c:World} (h:Fr S a b) (k:Fr S b c):Fr S a c:=
 ⟨k.os.trans h.os,k.tape.trans h.tape,k.output.trans h.output,Nat.le_trans h.size k.size,λi hi j=>(k.block i (Nat.lt_of_lt_of_le hi h.size) j).trans (h.block i hi j)⟩
theorem Fr.more {S S':Nat->Prop} {a b:World} (h:Fr S a b) (hs:∀ k,k<a.heap.size->S k->S' k):Fr S' a b:=⟨h.os,h.tape,h.output,h.size,λk j l=>h.block k j (λe=>l (hs k j e))⟩
theorem Fr.set {S:Nat->Prop} {a b:World} (h:Fr S a b) {p:Addr} (hp:S p.block) (u:Value):Fr S a (b.setCell p u):=
 ⟨h.os,h.tape,h.output,by simpa using h.size,λk l j=>(Below.heap_setCell b p u k (λe=>j (e▸hp))).trans (h.block k l j)⟩
theorem Fr.then {S S':Nat->Prop} {a b c:World} (h:Fr S a b) (k:Fr S' b c) (hs:∀ i,i<a.heap.size->S' i->S i):Fr S a c:=
 ⟨k.os.trans h.os,k.tape.trans h.tape,k.output.trans h.output,Nat.le_trans h.size k.size,λi hi j=>(k.block i (Nat.lt_of_lt_of_le hi h.size) (λe=>j (hs i hi e))).trans (h.block i hi j)⟩
theorem Fr.below {S:Nat->Prop} {a b:World} {B:Nat} (h:Fr S a b) (hB:B<=a.heap.size) (hS:∀ k,S k->B<=k):Below B a b:=
 ⟨h.os,h.tape,h.output,h.size,λk j=>h.block k (by omega) (λe=>by have:=hS k e;omega)⟩
theorem Fr.thenB {S:Nat->Prop} {a b c:World} (h:Fr S a b) (k:Below a.heap.size b c):Fr S a c:=
 ⟨k.os.trans h.os,k.tape.trans h.tape,k.output.trans h.output,Nat.le_trans h.size k.size,λi hi j=>(k.block i hi).trans (h.block i hi j)⟩
theorem Fr.cell {S:Nat->Prop} {a b:World} (h:Fr S a b) {p:Addr} {v:Value} (hp:a.cell? p=some v) (hS:¬ S p.block):b.cell? p=some v:=by
 rw[World.cell?_of_block (h.block p.block (World.block_lt_of_cell? _ _ hp) hS)];exact hp
theorem Fr.blk {S:Nat->Prop} {a b:World} (h:Fr S a b) {g:Nat} {t:TypeId} {cs:Array Value} (hp:Blk a g t cs) (hS:¬ S g):Blk b g t cs:=(h.block g hp.lt hS).trans hp
theorem Fr.own {S:Nat->Prop} {a b:World} (h:Fr S a b) {base e size n:Nat} {v:Value} {xs:List Value} (ho:a.ownsRow base e size v n xs) (hS:∀ g,v.ownBlock=some g->¬S g):b.ownsRow base e size v n xs:=by
 obtain⟨p,h2⟩:=ho;refine⟨p,?_⟩
 rcases h2 with h2|⟨g,j,l,rfl,q,m,r⟩
 ·exact .inl h2
 exact .inr ⟨g,j,l,rfl,q,(h.block g (Array.getElem?_eq_some_iff.1 m).1 (hS g rfl)).trans m,r⟩
theorem Fr.rd {S:Nat->Prop} {a b:World} (h:Fr S a b) {A:Option Addr} {n:Nat} {xs:List Value} (hr:Rd a A n xs) (hS:∀ j,A=some j->¬S j.block):Rd b A n xs:=
 ⟨hr.1,λk q=>by
  obtain⟨j,u,l,h2,m,p⟩:=hr.2 k q
  exact⟨j,u,l,Nat.lt_of_lt_of_le h2 h.size,m,h.cell p (by rw[add_block];exact hS j l)⟩⟩
theorem Af {w:World} {g h:Nat} {t u:TypeId} {a b:Array Value} (x:Blk w g t a) (y:Blk w h u b) (hne:t≠u):g≠h:=λe=>by
 subst e;unfold Blk at x y;rw[x]at y;injection y with y;injection y with _ y;exact hne y
end Go.Lt
end
section
namespace Go.Proofs.YtmidbhnhcbpneaaGreatDoor.Top
open Go YtmidbhnhcbpneaaGreatDoor.Dec
theorem El {top:Nat}:∀ (n:Nat) (l:Txt) (q:List Nat×Txt),Bi top n l=some q->q.1.length=n
 |0,l,q,h=>by unfold Bi at h;injection h with h;rw[<-h];rfl
 |n+1,l,q,h=>by
  unfold Bi at h;obtain⟨p,_,h⟩:=Option.bind_eq_some_iff.1 h;obtain⟨r,j,h⟩:=Option.bind_eq_some_iff.1 h;injection h with h;rw[<-h,List.length_cons,El n _ r j]
theorem Ui {top:Nat}:∀ (n:Nat) (l:Txt) (q:List N3×Txt),Eh top n l=some q->q.1.length=n
 |0,l,q,h=>by unfold Eh at h;injection h with h;rw[<-h];rfl
 |n+1,l,q,h=>by
  unfold Eh at h;obtain⟨p,_,h⟩:=Option.bind_eq_some_iff.1 h;obtain⟨r,j,h⟩:=Option.bind_eq_some_iff.1 h;injection h with h;rw[<-h,List.length_cons,Ui n _ r j]
theorem Aar {top:Nat}:∀ (n:Nat) (l:Txt) (q:List N3×Txt),Mf top n l=some q->q.1.length=n
 |0,l,q,h=>by unfold Mf at h;injection h with h;rw[<-h];rfl
 |n+1,l,q,h=>by
  unfold Mf at h;obtain⟨p,_,h⟩:=Option.bind_eq_some_iff.1 h;obtain⟨r,j,h⟩:=Option.bind_eq_some_iff.1 h;injection h with h;rw[<-h,List.length_cons,Aar n _ r j]
theorem Tc {top:Nat}:∀ (n lit:Nat) (l:Txt) (q:List N3×Txt),Cz top n lit l=some q->q.1.length=n
 |0,lit,l,q,h=>by unfold Cz at h;injection h with h;rw[<-h];rfl
 |n+1,lit,l,q,h=>by
  unfold Cz at h;obtain⟨p,_,h⟩:=Option.bind_eq_some_iff.1 h;obtain⟨r,j,h⟩:=Option.bind_eq_some_iff.1 h;injection h with h;rw[<-h,List.length_cons,Tc n _ _ r j]
theorem Ya:∀ (n lit:Nat) (l:Txt) (q:List N3×Txt),Ib n lit l=some q->q.1.length=n
 |0,lit,l,q,h=>by unfold Ib at h;injection h with h;rw[<-h];rfl
 |n+1,lit,l,q,h=>by
  unfold Ib at h;obtain⟨p,_,h⟩:=Option.bind_eq_some_iff.1 h;obtain⟨r,j,h⟩:=Option.bind_eq_some_iff.1 h;injection h with h;rw[<-h,List.length_cons,Ya n _ _ r j]
theorem AcY {h:Hd} {l:Txt} {q:Cir×Txt} (j:Io h l=some q):Db q.1 h.bin=h:=by
 unfold Io at j
 cases m:h.bin with
 |true=>
  rw[m]at j;simp only[if_true]at j;unfold Hc at j;obtain⟨x,B,j⟩:=Option.bind_eq_some_iff.1 j;obtain⟨o,z,j⟩:=Option.bind_eq_some_iff.1 j;obtain⟨b,p,j⟩:=Option.bind_eq_some_iff.1 j;obtain⟨c,r,j⟩:=Option.bind_eq_some_iff.1 j;obtain⟨g,y,j⟩:=Option.bind_eq_some_iff.1 j;injection j with j;rw[<-j];unfold Db;simp only[Fh,Tc _ _ _ _ B,El _ _ _ z,El _ _ _ p,El _ _ _ r,Ya _ _ _ _ y];rw[<-m]
 |false=>
  rw[m]at j;simp only[Bool.false_eq_true,if_false]at j;unfold Ec at j;obtain⟨i,hi,j⟩:=Option.bind_eq_some_iff.1 j;obtain⟨x,B,j⟩:=Option.bind_eq_some_iff.1 j;obtain⟨o,z,j⟩:=Option.bind_eq_some_iff.1 j;obtain⟨b,p,j⟩:=Option.bind_eq_some_iff.1 j;obtain⟨c,r,j⟩:=Option.bind_eq_some_iff.1 j;obtain⟨g,y,j⟩:=Option.bind_eq_some_iff.1 j;injection j with j;rw[<-j];unfold Db;simp only[El _ _ _ hi,Ui _ _ _ B,El _ _ _ z,El _ _ _ p,El _ _ _ r,Aar _ _ _ y];rw[<-m]
theorem Aht {top:Nat} {l:Txt} {q:Nat×Txt} (h:Gi top l=some q):q.1<=top:=by
 unfold Gi at h
 split at h
 ·rename_i hc;injection h with h;rw[<-h];exact hc.2
 cases h
theorem Sz {p:UInt8->Bool}:∀ (l:Txt),∀b∈l.takeWhile p,p b=true
 | [],b,h=>by cases h
 |a::l,b,h=>by
  rw[List.takeWhile_cons]at h
  split at h
  ·rename_i hp
   rcases List.mem_cons.1 h with rfl|h
   ·exact hp
   exact Sz l b h
  cases h
theorem AnH {h:Hd} {l:Txt} {q:Sy×Txt} (j:Jq h l=some q):Or h q.1:=by
 cases l with
 |nil=>cases j
 |cons k t=>
  change (if k∈kinds then _ else none)=some q at j
  split at j
  ·rename_i hk
   obtain⟨p,y,j⟩:=Option.bind_eq_some_iff.1 j
   split at j
   ·rename_i hc
    obtain⟨s,_,j⟩:=Option.bind_eq_some_iff.1 j;obtain⟨r,m,j⟩:=Option.bind_eq_some_iff.1 j
    split at j
    ·rename_i hn
     injection j with j;rw[<-j];refine⟨hk,hc,by have:=Aht y;simp only;omega,hn.1,λb x=>?_,hn.2⟩;unfold Le at m
     split at m
     ·injection m with m;rw[<-m]at x
      have:=Sz _ b x
      simpa using this
     cases m
    cases j
   cases j
  cases j
theorem AeH {h:Hd}:∀ (f:Nat) (seen:List (UInt8×Nat)) (l:Txt) (q:List Sy×Txt),Fj h f seen l=some q->(∀y∈q.1,Or h y)/\(q.1.map λy=>(y.k,y.i)).Nodup/\∀y∈q.1,(y.k,y.i)∉seen
 |0,seen,l,q,j=>by cases j
 |f+1,seen,l,q,j=>by
  unfold Fj at j
  split at j
  ·injection j with j;rw[<-j];exact⟨λy hy=>(by cases hy),List.nodup_nil,λy hy=>(by cases hy)⟩
  split at j
  ·injection j with j;rw[<-j];exact⟨λy hy=>(by cases hy),List.nodup_nil,λy hy=>(by cases hy)⟩
  obtain⟨p,z,j⟩:=Option.bind_eq_some_iff.1 j
  split at j
  ·cases j
  rename_i hns
  obtain⟨r,B,j⟩:=Option.bind_eq_some_iff.1 j;injection j with j;obtain⟨D,E,x⟩:=AeH f _ _ r B;rw[<-j];refine⟨λy hy=>?_,?_,λy hy=>?_⟩
  ·rcases List.mem_cons.1 hy with rfl|hy
   ·exact AnH z
   exact D y hy
  ·rw[List.map_cons,List.nodup_cons];refine⟨λm=>?_,E⟩;obtain⟨y,hy,e⟩:=List.mem_map.1 m;exact x y hy (by rw[e];exact List.mem_cons_self)
  rcases List.mem_cons.1 hy with rfl|hy
  ·exact hns
  exact λm=>x y hy (List.mem_cons_of_mem _ m)
theorem AbI (c:Cir) (hg:(Aw c.gat).length=c.gat.length) (b d:Bool) (k:UInt8):countK (Db (Ak c) b) k=countK (Db c d) k:=by
 unfold countK Db;simp only[Ep,Eo];unfold Ak
 simp
theorem Or.of_count {h h2:Hd} (e:∀ k,countK h k=countK h2 k) {x:Sy} (hx:Or h x):Or h2 x:=⟨hx.k,by rw[<-e];exact hx.i,hx.small,hx.ne,hx.line,hx.len⟩
theorem Ajk {l:Txt} {x:Bp} (h:Np l=some x):(∀b,∀y∈x.sym,Or (Db x.c b) y)/\(x.sym.map λy=>(y.k,y.i)).Nodup:=by
 unfold Np at h;obtain⟨p,E,h⟩:=Option.bind_eq_some_iff.1 h;obtain⟨q,m,h⟩:=Option.bind_eq_some_iff.1 h;obtain⟨r,z,h⟩:=Option.bind_eq_some_iff.1 h;injection h with h;obtain⟨B,D,F⟩:=AeH _ _ _ r z;rw[<-h];refine⟨λb y hy=>?_,D⟩;have j:=B y hy;rw[<-AcY m]at j;exact Or.of_count (h:=Db q.1 p.1.bin) (h2:=Db q.1 b) (λk=>rfl) j
theorem Aij {x:Bp} (hg:Ag x.c) (hs:∀ b,∀y∈x.sym,Or (Db x.c b) y) (hn:(x.sym.map λy=>(y.k,y.i)).Nodup)
  (ho:x.c.outs.length<=16777216) (hb:x.c.bads.length<=16777216) (hc:x.c.cons.length<=16777216):Qm x false:=by
 have j:=Zc hg;have l:=hg.max;unfold Dd at j;simp only[List.length_append,List.length_map]at j;refine⟨hg.inTop,⟨l,?_,?_,ho,?_,hb,hc⟩,?_,λh=>(by cases h),hs false,hn⟩
 ·show x.c.ins.length<=_;omega
 ·show x.c.lat.length<=_;omega
 ·show x.c.gat.length<=_;omega
 unfold Jf Db
 simp
 omega
theorem Ald {x:Bp} (hg:Ag x.c) (hs:∀ b,∀y∈x.sym,Or (Db x.c b) y) (hn:(x.sym.map λy=>(y.k,y.i)).Nodup)
  (ho:x.c.outs.length<=16777216) (hb:x.c.bads.length<=16777216) (hc:x.c.cons.length<=16777216):Qm ⟨Ak x.c,x.sym,x.com⟩ true:=by
 have j:=On hg;have l:=j.max;have m:=AdT x.c;refine⟨j.inTop,⟨l,?_,?_,?_,?_,?_,?_⟩,?_,λ_=>Agh hg,λy hy=>(hs true y hy).of_count (λk=>(AbI x.c hg.all true true k).symm),hn⟩
 ·show(Ak x.c).ins.length<=_;omega
 ·show(Ak x.c).lat.length<=_;omega
 ·show(Ak x.c).outs.length<=_;unfold Ak;simpa using ho
 ·show(Ak x.c).gat.length<=_;omega
 ·show(Ak x.c).bads.length<=_;unfold Ak;simpa using hb
 ·show(Ak x.c).cons.length<=_;unfold Ak;simpa using hc
 unfold Jf Db
 simp
 omega
end Go.Proofs.YtmidbhnhcbpneaaGreatDoor.Top
end
section
namespace Go.Proofs
open Go.Shelf
def Tryz.lays169_ren:Go.Shelf.Ren:=⟨fun|169=>66|n=>n,fun|70=>126|9=>9|0=>0|72=>129|37=>127|127=>179|3=>3|5=>5|n=>n,fun|n=>n⟩
theorem Tryz.lays169:Go.Proofs.Lays.n169 Tryz.prog Tryz.lays169_ren:={
 mixed:=by kernel_rfl
 f169:=Tryz.func66.trans (congrArg some (by kernel_rfl))
 t0:=Tryz.underlying0
 a0:=Tryz.isAgg0
 z0:=Tryz.sizeOf0
 v0:=Tryz.zeroValue0
 t3:=Tryz.underlying3
 a3:=Tryz.isAgg3
 z3:=Tryz.sizeOf3
 v3:=Tryz.zeroValue3
 t9:=Tryz.underlying9
 a9:=Tryz.isAgg9
 z9:=Tryz.sizeOf9
 v9:=Tryz.zeroValue9
 t37:=Tryz.underlying127
 a37:=Tryz.isAgg127
 z37:=Tryz.sizeOf127
 v37:=Tryz.zeroValue127
 t70:=Tryz.underlying126
 a70:=Tryz.isAgg126
 z70:=Tryz.sizeOf126
 v70:=Tryz.zeroValue126
 t72:=Tryz.underlying129
 a72:=Tryz.isAgg129
 z72:=Tryz.sizeOf129
 v72:=Tryz.zeroValue129
 t127:=Tryz.underlying179
 a127:=Tryz.isAgg179
 z127:=Tryz.sizeOf179
 v127:=Tryz.zeroValue179}
theorem Tryz.Builder_Extra_169:Builder.Extra Tryz.prog Tryz.lays169_ren:={
 sizeBuilder:=by kernel_rfl
 liesBuilder:=by kernel_rfl
 t5:=Tryz.underlying5
 a5:=Tryz.isAgg5
 z5:=Tryz.sizeOf5
 v5:=Tryz.zeroValue5
 infoByte:=by kernel_rfl
 cellsByte:=by kernel_rfl
 sizeByte:=by kernel_rfl
 neB5:=by decide}
def Tryz.lays156_ren:Go.Shelf.Ren:=⟨fun|156=>105|165=>139|166=>64|169=>66|240=>104|241=>180|276=>138|277=>252|n=>n,fun|31=>177|9=>9|3=>3|4=>4|0=>0|20=>20|72=>129|76=>132|70=>126|37=>127|75=>131|127=>179|164=>226|5=>5|80=>135|n=>n,fun|n=>n⟩
theorem Tryz.lays156:Go.Proofs.Lays.n156 Tryz.prog Tryz.lays156_ren:={
 mixed:=by kernel_rfl
 f156:=Tryz.func105.trans (congrArg some (by kernel_rfl))
 f165:=Tryz.func139.trans (congrArg some (by kernel_rfl))
 f166:=Tryz.func64.trans (congrArg some (by kernel_rfl))
 f169:=Tryz.func66.trans (congrArg some (by kernel_rfl))
 f240:=Tryz.func104.trans (congrArg some (by kernel_rfl))
 f241:=Tryz.func180.trans (congrArg some (by kernel_rfl))
 f276:=Tryz.func138.trans (congrArg some (by kernel_rfl))
 f277:=Tryz.func252.trans (congrArg some (by kernel_rfl))
 t0:=Tryz.underlying0
 a0:=Tryz.isAgg0
 z0:=Tryz.sizeOf0
 v0:=Tryz.zeroValue0
 t3:=Tryz.underlying3
 a3:=Tryz.isAgg3
 z3:=Tryz.sizeOf3
 v3:=Tryz.zeroValue3
 t4:=Tryz.underlying4
 a4:=Tryz.isAgg4
 z4:=Tryz.sizeOf4
 v4:=Tryz.zeroValue4
 t9:=Tryz.underlying9
 a9:=Tryz.isAgg9
 z9:=Tryz.sizeOf9
 v9:=Tryz.zeroValue9
 t20:=Tryz.underlying20
 a20:=Tryz.isAgg20
 z20:=Tryz.sizeOf20
 v20:=Tryz.zeroValue20
 t31:=Tryz.underlying177
 a31:=Tryz.isAgg177
 z31:=Tryz.sizeOf177
 v31:=Tryz.zeroValue177
 t37:=Tryz.underlying127
 a37:=Tryz.isAgg127
 z37:=Tryz.sizeOf127
 v37:=Tryz.zeroValue127
 t70:=Tryz.underlying126
 a70:=Tryz.isAgg126
 z70:=Tryz.sizeOf126
 v70:=Tryz.zeroValue126
 t72:=Tryz.underlying129
 a72:=Tryz.isAgg129
 z72:=Tryz.sizeOf129
 v72:=Tryz.zeroValue129
 t75:=Tryz.underlying131
 a75:=Tryz.isAgg131
 z75:=Tryz.sizeOf131
 v75:=Tryz.zeroValue131
 t76:=Tryz.underlying132
 a76:=Tryz.isAgg132
 z76:=Tryz.sizeOf132
 v76:=Tryz.zeroValue132
 t127:=Tryz.underlying179
 a127:=Tryz.isAgg179
 z127:=Tryz.sizeOf179
 v127:=Tryz.zeroValue179
 t164:=Tryz.underlying226
 a164:=Tryz.isAgg226
 z164:=Tryz.sizeOf226
 v164:=Tryz.zeroValue226}
theorem Tryz.Builder_Extra_156:Builder.Extra Tryz.prog Tryz.lays156_ren:={
 sizeBuilder:=by kernel_rfl
 liesBuilder:=by kernel_rfl
 t5:=Tryz.underlying5
 a5:=Tryz.isAgg5
 z5:=Tryz.sizeOf5
 v5:=Tryz.zeroValue5
 infoByte:=by kernel_rfl
 cellsByte:=by kernel_rfl
 sizeByte:=by kernel_rfl
 neB5:=by decide}
open Go.RowKit in
theorem Tryz.strings_Join (bk o c:Nat) (xs:List ByteArray) (sep:ByteArray) (w:World) (hcells:∀ (j:Nat) x,xs[j]?=some x->w.cell? ⟨bk,o+j,none⟩=some (.string x)) (hbk:bk<w.heap.size) (hN:xs.length<=140737488355328) (hcap:xs.length<=c) (hlen:(Lib.join (xs.map (·.data.toList)) sep.data.toList).length<=140737488355328):
 Calls Tryz.prog 105 #[.slice (some ⟨bk,o,none⟩) xs.length c,.string sep] w λe l=>e= .returned (.string ⟨(Lib.join (xs.map (·.data.toList)) sep.data.toList).toArray⟩)/\Below w.heap.size w l:=Any.strings_Join Tryz.lays156 Tryz.Builder_Extra_156 bk o c xs sep w hcells hbk hN hcap hlen
def Tryz.lays137_ren:Go.Shelf.Ren:=⟨fun|137=>63|217=>103|266=>137|n=>n,fun|9=>9|5=>5|3=>3|n=>n,fun|n=>n⟩
theorem Tryz.lays137:Go.Proofs.Lays.n137 Tryz.prog Tryz.lays137_ren:={
 mixed:=by kernel_rfl
 f137:=Tryz.func63.trans (congrArg some (by kernel_rfl))
 f217:=Tryz.func103.trans (congrArg some (by kernel_rfl))
 f266:=Tryz.func137.trans (congrArg some (by kernel_rfl))
 t3:=Tryz.underlying3
 a3:=Tryz.isAgg3
 z3:=Tryz.sizeOf3
 v3:=Tryz.zeroValue3
 t5:=Tryz.underlying5
 a5:=Tryz.isAgg5
 z5:=Tryz.sizeOf5
 v5:=Tryz.zeroValue5
 t9:=Tryz.underlying9
 a9:=Tryz.isAgg9
 z9:=Tryz.sizeOf9
 v9:=Tryz.zeroValue9}
open Go.RowKit in
theorem Tryz.strings_IndexByte (s:ByteArray) (c:Int) (w:World):
 Calls Tryz.prog 63 #[.string s,.int .u8 c] w λe j=>e= .returned (.int .i64 (Lib.indexByte s.data.toList c.toNat.toUInt8))/\j=w:=Any.strings_IndexByte Tryz.lays137 s c w
def Tryz.lays103_ren:Go.Shelf.Ren:=⟨fun|103=>47|210=>88|206=>81|n=>n,fun|9=>9|4=>4|24=>82|3=>3|n=>n,fun|n=>n⟩
theorem Tryz.lays103:Go.Proofs.Lays.n103 Tryz.prog Tryz.lays103_ren:={
 mixed:=by kernel_rfl
 f103:=Tryz.func47.trans (congrArg some (by kernel_rfl))
 f206:=Tryz.func81.trans (congrArg some (by kernel_rfl))
 f210:=Tryz.func88.trans (congrArg some (by kernel_rfl))
 t3:=Tryz.underlying3
 a3:=Tryz.isAgg3
 z3:=Tryz.sizeOf3
 v3:=Tryz.zeroValue3
 t4:=Tryz.underlying4
 a4:=Tryz.isAgg4
 z4:=Tryz.sizeOf4
 v4:=Tryz.zeroValue4
 t9:=Tryz.underlying9
 a9:=Tryz.isAgg9
 z9:=Tryz.sizeOf9
 v9:=Tryz.zeroValue9
 t24:=Tryz.underlying82
 a24:=Tryz.isAgg82
 z24:=Tryz.sizeOf82
 v24:=Tryz.zeroValue82}
open Go.RowKit in
theorem Tryz.strings_CutPrefix (s p:ByteArray) (w:World):
 Calls Tryz.prog 47 #[.string s,.string p] w λe j=>e= .returned (.tuple #[.string ⟨(Lib.trimPrefix s.data.toList p.data.toList).toArray⟩,.bool (Lib.hasPrefix s.data.toList p.data.toList)])/\j=w:=Any.strings_CutPrefix Tryz.lays103 s p w
open Go.RowKit in
theorem Tryz.Builder_String_any_k (B b:Nat) (l:List UInt8) (w:World) (h:Lib.IsBuilderF 129 5 B b (Lib.byteCells l) w) (hBw:B<=w.heap.size):
 Calls Tryz.prog 66 #[.pointer (some ⟨b,0,none⟩)] w λe j=>e= .returned (.string ⟨l.toArray⟩)/\(Lib.IsBuilderF 129 5 B b (Lib.byteCells l) j/\Below B w j/\Lib.OthersKept 5 (some b) w j):=Any.Builder_String_any_k Tryz.lays169 Tryz.Builder_Extra_169 B b l w h hBw
end Go.Proofs
end
section
namespace Go.Proofs.YtmidbhnhcbpneaaGreatDoor.Top
open Go Go.RowKit Go.Lt YtmidbhnhcbpneaaGreatDoor.Lit YtmidbhnhcbpneaaGreatDoor.Dec
abbrev Rdr (w:World) (rg:Nat) (s:ByteArray) (p:Nat):Prop:=Blk w rg 106 #[.string s,.int .i64 p]
theorem Rdr.move {w:World} {rg:Nat} {s:ByteArray} {p:Nat} (h:Rdr w rg s p) (q:Nat):Rdr (w.setCell ⟨rg,1,none⟩ (.int .i64 q)) rg s q:=h.set_ 1 _
abbrev Vn (a c:Int):Value:= .iface 149 (.agg #[.int .i64 a,.int .i64 c])
def Aaw (rg:Nat) (w:World) (e:Ending) (w':World):Prop:=∃ a c:Int,c≠0/\e= .panicked [{v:=Vn a c,recovered:=false}]/\Fr (λq=>q=rg) w w'
theorem Pf (r:Value) (a c:Int) (w:World):Calls Tryz.prog 83 #[r,.int .i64 a,.int .i64 c] w λe j=>e= .panicked [{v:=Vn a c,recovered:=false}]/\w=j:=by
 go_enter Tryz.func83,Tryz.ntmps83
 go_wp2
 exact⟨rfl,rfl,rfl⟩
abbrev rest (s:ByteArray) (p:Nat):Txt:=s.data.toList.drop p
def Afi (rg:Nat) (s:ByteArray) (p top:Nat) (w:World) (e:Ending) (w':World):Prop:=
 (∃n q,Gi top (rest s p)=some (n,rest s q)/\q<=s.size/\e= .returned (.int .i64 (n:Nat))/\Rdr w' rg s q/\Fr (λq=>q=rg) w w')∨(Gi top (rest s p)=none/\Aaw rg w e w')
theorem Je (rg:Nat) (s:ByteArray) (p top:Nat) (w:World) (hp:p<=s.size) (E:s.size<=2000000) (hg:Rdr w rg s p) (ht:top<=1000000000):
  Calls Tryz.prog 43 #[.pointer (some ⟨rg,0,none⟩),.int .i64 top] w (Afi rg s p top w):=by
 have HN:=Ab (λW=>Pj s p W hp E);unfold Xk at HN;have aJ:=Ze (rest s p);have I:=Ab (show Gi top (rest s p)=if(Bq (rest s p)).2.2=0/\(Bq (rest s p)).1<=top then some ((Bq (rest s p)).1,(rest s p).drop (Bq (rest s p)).2.1) else none from rfl)
 have aB:p+(Bq (rest s p)).2.1<=s.size:=by
  have h1:(Bq (rest s p)).2.1<=(rest s p).length:=by
   unfold Bq
   repeat' split
   all_goals first|exact Nat.zero_le _|exact Vb _
  rw[List.length_drop,Ff]at h1;omega
 generalize hR:Bq (rest s p)=R at*;obtain⟨n,d,c⟩:=R;simp only at HN I aJ aB;clear hR;obtain⟨q,hq⟩:∃ q,q=if c=0 then p+d else 0:=⟨_,rfl⟩;rw[<-hq]at HN;have bC:=hg.lt;replace hg:=Ab hg
 have bD:(n:Int)<1000000000:=by omega
 have bB:(c:Int)<=5:=by omega
 have bE:(q:Int)<=2000000:=by rw[hq];split<;>omega
 replace hq:=Ab hq;replace aB:=Ab aB;clear aJ
 go_enter Tryz.func43,Tryz.ntmps43
 go_wp2;have aC:=Ab (hg.o.dr (Dr.refl w).drew);refine Za [9,10,11,12,13,14,15,16,17,8,18,19,20,5,6,7] (λD g wz=>g 0= .pointer (some ⟨rg,0,none⟩)/\Below w.drew.heap.size w.drew wz/\(D 0->g 9= .pointer (some ⟨rg,0,none⟩))/\(D 1->g 10= .pointer (some ⟨rg,0,none⟩))/\(D 2->g 11= .pointer (some ⟨rg,0,none⟩))/\(D 3->g 12= .string s)/\(D 4->g 13= .pointer (some ⟨rg,0,none⟩))/\(D 5->g 14= .pointer (some ⟨rg,0,none⟩))/\(D 6->g 15= .pointer (some ⟨rg,1,none⟩))/\(D 7->g 16= .int .i64 p)/\(D 8->g 17= .tuple #[.int .i64 (n:Nat),.int .i64 (q:Nat),.int .i64 (c:Nat)])/\(D 9->g 8= .tuple #[.int .i64 (n:Nat),.int .i64 (q:Nat),.int .i64 (c:Nat)])/\(D 10->g 18= .int .i64 (n:Nat))/\(D 11->g 19= .int .i64 (q:Nat))/\(D 12->g 20= .int .i64 (c:Nat))/\(D 13->g 5= .int .i64 (n:Nat))/\(D 14->g 6= .int .i64 (q:Nat))/\(D 15->g 7= .int .i64 (c:Nat))) (by kernel_rfl) (by kernel_rfl) 42 rfl (by kernel_rfl) ?h0 ?hstep ?hdone
 case h0=>exact⟨rfl,Below.refl _ _,nt0,nt0,nt0,nt0,nt0,nt0,nt0,nt0,nt0,nt0,nt0,nt0,nt0,nt0,nt0,nt0⟩
 case hstep=>
  intro D g wz i aI hn F aZ;obtain⟨M,l,N,O,U,X,Y,Z,A,f7,f8,J,m,r,x,y,z,B⟩:=aZ;have aI:i<16:=aI
  rcases(show i=0∨i=1∨i=2∨i=3∨i=4∨i=5∨i=6∨i=7∨i=8∨i=9∨i=10∨i=11∨i=12∨i=13∨i=14∨i=15 by omega) with rfl|rfl|rfl|rfl|rfl|rfl|rfl|rfl|rfl|rfl|rfl|rfl|rfl|rfl|rfl|rfl
  ·
   refine Di rfl rfl (λaz E K j=>?_);have j:Shut _:=j;have e0:=E.get 0;rw[M]at e0;go_simp;exact j.o _ _ ⟨M,l,λ_=>rfl,kp O,kp U,kp X,kp Y,kp Z,kp A,kp f7,kp f8,kp J,kp m,kp r,kp x,kp y,kp z,kp B⟩
  ·
   have d0:=N (F 0 (by kernel_rfl));refine Di rfl rfl (λaz E K j=>?_);have j:Shut _:=j;have e9:=E.get 9;rw[d0]at e9;go_simp;exact j.o _ _ ⟨M,l,kp N,λ_=>rfl,kp U,kp X,kp Y,kp Z,kp A,kp f7,kp f8,kp J,kp m,kp r,kp x,kp y,kp z,kp B⟩
  ·
   have d1:=O (F 1 (by kernel_rfl));refine Di rfl rfl (λaz E K j=>?_);have j:Shut _:=j;have aO:=E.get 10;rw[d1]at aO;go_simp;exact j.o _ _ ⟨M,l,kp N,kp O,λ_=>rfl,kp X,kp Y,kp Z,kp A,kp f7,kp f8,kp J,kp m,kp r,kp x,kp y,kp z,kp B⟩
  ·
   have d2:=U (F 2 (by kernel_rfl));refine Di rfl rfl (λaz E K j=>?_);have j:Shut _:=j;have cz:wz.cell? ⟨rg,0,none⟩=some (.string s):=(aC.o.below l aC.o.lt).cell 0;have aP:=E.get 11;rw[d2]at aP;go_simp;exact j.o _ _ ⟨M,l,kp N,kp O,kp U,λ_=>rfl,kp Y,kp Z,kp A,kp f7,kp f8,kp J,kp m,kp r,kp x,kp y,kp z,kp B⟩
  ·
   refine Di rfl rfl (λaz E K j=>?_);have j:Shut _:=j;have e0:=E.get 0;rw[M]at e0;go_simp;exact j.o _ _ ⟨M,l,kp N,kp O,kp U,kp X,λ_=>rfl,kp Z,kp A,kp f7,kp f8,kp J,kp m,kp r,kp x,kp y,kp z,kp B⟩
  ·
   have d4:=Y (F 4 (by kernel_rfl));refine Di rfl rfl (λaz E K j=>?_);have j:Shut _:=j;have aR:=E.get 13;rw[d4]at aR;go_simp;exact j.o _ _ ⟨M,l,kp N,kp O,kp U,kp X,kp Y,λ_=>rfl,kp A,kp f7,kp f8,kp J,kp m,kp r,kp x,kp y,kp z,kp B⟩
  ·
   have d5:=Z (F 5 (by kernel_rfl));refine Di rfl rfl (λaz E K j=>?_);have j:Shut _:=j;have aS:=E.get 14;rw[d5]at aS;go_simp;exact j.o _ _ ⟨M,l,kp N,kp O,kp U,kp X,kp Y,kp Z,λ_=>rfl,kp f7,kp f8,kp J,kp m,kp r,kp x,kp y,kp z,kp B⟩
  ·
   have d6:=A (F 6 (by kernel_rfl));refine Di rfl rfl (λaz E K j=>?_);have j:Shut _:=j;have cz:wz.cell? ⟨rg,1,none⟩=some (.int .i64 p):=(aC.o.below l aC.o.lt).cell 1;have aT:=E.get 15;rw[d6]at aT;go_simp;exact j.o _ _ ⟨M,l,kp N,kp O,kp U,kp X,kp Y,kp Z,kp A,λ_=>rfl,kp f8,kp J,kp m,kp r,kp x,kp y,kp z,kp B⟩
  ·
   have d3:=X (F 3 (by kernel_rfl));have d7:=f7 (F 7 (by kernel_rfl));refine Di rfl rfl (λaz E K j=>?_);have j:Shut _:=j;have aQ:=E.get 12;rw[d3]at aQ;have aU:=E.get 16;rw[d7]at aU
   go_wp2_with (go_at_call 82;refine(HN.o wz).mono ?_;rintro e wy ⟨rfl,bA⟩)
   exact⟨M,l.trans (bA.mono l.size),kp N,kp O,kp U,kp X,kp Y,kp Z,kp A,kp f7,λ_=>rfl,kp J,kp m,kp r,kp x,kp y,kp z,kp B⟩
  ·
   have d8:=f8 (F 8 (by kernel_rfl));refine Di rfl rfl (λaz E K j=>?_);have j:Shut _:=j;have aV:=E.get 17;rw[d8]at aV;go_simp;exact j.o _ _ ⟨M,l,kp N,kp O,kp U,kp X,kp Y,kp Z,kp A,kp f7,kp f8,λ_=>rfl,kp m,kp r,kp x,kp y,kp z,kp B⟩
  ·
   have d9:=J (F 9 (by kernel_rfl));refine Di rfl rfl (λaz E K j=>?_);have j:Shut _:=j;have e8:=E.get 8;rw[d9]at e8;go_simp;exact j.o _ _ ⟨M,l,kp N,kp O,kp U,kp X,kp Y,kp Z,kp A,kp f7,kp f8,kp J,λ_=>rfl,kp r,kp x,kp y,kp z,kp B⟩
  ·
   have d9:=J (F 9 (by kernel_rfl));refine Di rfl rfl (λaz E K j=>?_);have j:Shut _:=j;have e8:=E.get 8;rw[d9]at e8;go_simp;exact j.o _ _ ⟨M,l,kp N,kp O,kp U,kp X,kp Y,kp Z,kp A,kp f7,kp f8,kp J,kp m,λ_=>rfl,kp x,kp y,kp z,kp B⟩
  ·
   have d9:=J (F 9 (by kernel_rfl));refine Di rfl rfl (λaz E K j=>?_);have j:Shut _:=j;have e8:=E.get 8;rw[d9]at e8;go_simp;exact j.o _ _ ⟨M,l,kp N,kp O,kp U,kp X,kp Y,kp Z,kp A,kp f7,kp f8,kp J,kp m,kp r,λ_=>rfl,kp y,kp z,kp B⟩
  ·
   have aL:=m (F 10 (by kernel_rfl));refine Di rfl rfl (λaz E K j=>?_);have j:Shut _:=j;have aW:=E.get 18;rw[aL]at aW;go_simp;exact j.o _ _ ⟨M,l,kp N,kp O,kp U,kp X,kp Y,kp Z,kp A,kp f7,kp f8,kp J,kp m,kp r,kp x,λ_=>rfl,kp z,kp B⟩
  ·
   have aM:=r (F 11 (by kernel_rfl));refine Di rfl rfl (λaz E K j=>?_);have j:Shut _:=j;have aX:=E.get 19;rw[aM]at aX;go_simp;exact j.o _ _ ⟨M,l,kp N,kp O,kp U,kp X,kp Y,kp Z,kp A,kp f7,kp f8,kp J,kp m,kp r,kp x,kp y,λ_=>rfl,kp B⟩
  
  have aN:=x (F 12 (by kernel_rfl));refine Di rfl rfl (λaz E K j=>?_);have j:Shut _:=j;have aY:=E.get 20;rw[aN]at aY;go_simp;exact j.o _ _ ⟨M,l,kp N,kp O,kp U,kp X,kp Y,kp Z,kp A,kp f7,kp f8,kp J,kp m,kp r,kp x,kp y,kp z,λ_=>rfl⟩
 case hdone=>
  rintro D g wz hD ⟨M,l,N,O,U,X,Y,Z,A,f7,f8,J,m,r,x,y,z,B⟩;simp only[Fw,List.foldl_cons,List.foldl_nil,List.setIfInBounds_toArray,List.set_cons_succ,List.set_cons_zero];rw[y (hD 13),z (hD 14),B (hD 15)];clear N O U X Y Z A f7 f8 J m r x y z B hD M;obtain⟨w8,bF⟩:∃ w8,w8=wz:=⟨_,rfl⟩;subst bF;have aF:Below w.heap.size w w8:=((Dr.refl w).drew.below _).trans l;have aH:=hg.o.below aF bC;clear l aC HN;have c0:=aH.cell 0;have c1:=aH.cell 1;have z1:=aH.frozen 1
  by_cases hc:c=0
  ·subst hc;have aE:q=p+d:=hq.o
   by_cases hn:n<=top
   ·have aK:¬ (n:Int)>top:=by omega
    have aD:=Ab (show Gi top (rest s p)=some (n,rest s q) by
     rw[I.o,if_pos ⟨rfl,hn⟩,aE];unfold rest;rw[List.drop_drop])
    replace aE:=Ab aE;clear hq I;go_wp2;go_ret;refine .inl ⟨n,q,aD.o,?_,rfl,?_,?_⟩
    ·rw[aE.o];exact aB.o
    ·have h9:=aH.set_ 1 (.int .i64 (q:Nat));exact h9
    exact(Fr.of_below (S:=λq=>q=rg) aF).set (p:=⟨rg,1,none⟩) rfl _
   have aK:(n:Int)>top:=by omega
   have aD:=Ab (show Gi top (rest s p)=none by rw[I.o,if_neg (λh=>hn h.2)]);clear aE hq I
   go_wp2_with fail
   refine(Pf _ _ _ _).mono ?_;rintro e w' ⟨rfl,rfl⟩;go_wp2
   exact⟨rfl,.inr ⟨aD.o,_,_,by decide,rfl,Fr.of_below aF⟩⟩
  have aA:¬ (c:Int)=0:=by omega
  have bG:((c:Int)==0)=false:=by rw[beq_eq_false_iff_ne];exact aA
  have bH:((c:Int) != 0)=true:=by rw[bne_iff_ne];exact aA
  have aD:=Ab (show Gi top (rest s p)=none by rw[I.o,if_neg (λh=>hc h.1)]);replace aA:=Ab aA;clear hq I hc bB bE bD
  go_wp2_with fail
  refine(Pf _ _ _ _).mono ?_;rintro e w' ⟨rfl,rfl⟩;go_wp2
  exact⟨rfl,.inr ⟨aD.o,_,_,aA.o,rfl,Fr.of_below aF⟩⟩
theorem Ov:∀ (l:Txt) (c:UInt8),(Lib.indexByte l c<0↔c∉l)/\ -1<=Lib.indexByte l c
 | [],c=>by simp[Lib.indexByte]
 |b::l,c=>by
  obtain⟨p,h2⟩:=Ov l c;unfold Lib.indexByte
  by_cases j:b=c
  ·subst j;simp
  have m:(b==c)=false:=by simpa using j
  rw[m];simp only[Bool.false_eq_true,if_false]
  by_cases q:Lib.indexByte l c= -1
  ·have:c∉l:=p.1 (by omega)
   rw[q];simp[this];exact λe=>j e.symm
  have x:(Lib.indexByte l c== -1)=false:=by simpa using q
  rw[x]
  have:c∈l:=by
   by_cases r:c∈l
   ·exact r
   have:=p.2 r;omega
  simp[this];omega
theorem Pm (b:UInt8):(bt b).toNat.toUInt8=b:=by unfold bt;simp
def AoS (rg:Nat) (s:ByteArray) (p:Nat) (cs:Txt) (w:World) (e:Ending) (w':World):Prop:=
 (∃b,Dv cs (rest s p)=some (b,rest s (p+1))/\p<s.size/\e= .returned (.int .u8 (bt b))/\Rdr w' rg s (p+1)/\Fr (λq=>q=rg) w w')∨(Dv cs (rest s p)=none/\Aaw rg w e w')
theorem Up {s:ByteArray} {p:Nat} (h:s.size<=p):rest s p= []:=List.drop_eq_nil_of_le (by rw[Ff];exact h)
theorem Ol {s:ByteArray} {p:Nat} (h:p<s.size):∃ b,s.data.toList[p]?=some b/\rest s p=b::rest s (p+1):=by
 have j:p<s.data.toList.length:=by rw[Ff];exact h
 exact⟨_,List.getElem?_eq_getElem j,List.drop_eq_getElem_cons j⟩
theorem Lu (rg:Nat) (s:ByteArray) (p:Nat) (cs:Txt) (w:World) (hp:p<=s.size) (hs:s.size<=2000000) (m:Rdr w rg s p):
  Calls Tryz.prog 44 #[.pointer (some ⟨rg,0,none⟩),.string ⟨cs.toArray⟩] w (AoS rg s p cs w):=by
 have A:=m.lt;have c0:=m.cell 0;have c1:=m.cell 1;have z1:=m.frozen 1;replace m:=Ab m
 have aB:(s.size:Int)<=2000000:=by omega
 have aA:(p:Int)<=s.size:=by omega
 by_cases E:p<s.size
 ·obtain⟨b,U,y⟩:=Ol E;have X:=λW=>Da (P:=Tryz.prog) Tryz.underlying9 s p b U W;have M:=Ab (Tryz.strings_IndexByte ⟨cs.toArray⟩ (bt b));rw[Pm]at M;have l:=Ab (show Dv cs (rest s p)=if b∈cs then some (b,rest s (p+1)) else none by rw[y];rfl)
  have Y:(p:Int)<s.size:=by omega
  have N:((p:Int)==(s.size:Int))=false:=by rw[beq_eq_false_iff_ne];omega
  have F:¬ (p:Int)=s.size:=by omega
  clear U y;obtain⟨z,h2⟩:=Ov cs b;obtain⟨r,y⟩:∃ r,Lib.indexByte cs b=r:=⟨_,rfl⟩;have D:=Ab (show ∀w,Calls Tryz.prog 63 #[.string ⟨cs.toArray⟩,.int .u8 (bt b)] w λe I=>e= .returned (.int .i64 r)/\I=w from y▸M.o);rw[y]at z h2;clear y M;have Z:=AeG b;generalize J:bt b=B at*;replace J:=Ab J
  by_cases x:b∈cs
  ·have R:¬ r<0:=λh=>z.1 h x;have j:=Ab (show Dv cs (rest s p)=some (b,rest s (p+1)) by rw[l.o,if_pos x]);clear l z x;replace h2:=Ab h2
   go_enter Tryz.func44,Tryz.ntmps44
   go_wp2
   go_quiet (fail)
   go_wp2
   go_quiet (fail)
   go_wp2_with fail
   refine(D.o _).mono ?_;rintro e I ⟨rfl,rfl⟩;go_wp2;go_ret;refine .inl ⟨b,j.o,E,by rw[J.o];rfl,?_,?_⟩
   ·exact Rdr.move (m.o.dr ⟨_,rfl⟩) (p+1)
   exact(Fr.of_below (S:=λq=>q=rg) (Dr.below ⟨_,rfl⟩ _)).set (p:=⟨rg,1,none⟩) rfl _
  have R:r<0:=z.2 x;have j:=Ab (show Dv cs (rest s p)=none by rw[l.o,if_neg x]);clear l z x;replace h2:=Ab h2
  go_enter Tryz.func44,Tryz.ntmps44
  go_wp2
  go_quiet (fail)
  go_wp2
  go_quiet (fail)
  go_wp2_with fail
  refine(D.o _).mono ?_;rintro e I ⟨rfl,rfl⟩
  go_wp2_with fail
  refine(Pf _ _ _ _).mono ?_;rintro e I ⟨rfl,rfl⟩;go_wp2
  exact⟨rfl,.inr ⟨j.o,_,_,by decide,rfl,Fr.of_below (Dr.below ⟨_,rfl⟩ _)⟩⟩
 have O:p=s.size:=by omega
 have j:=Ab (show Dv cs (rest s p)=none by rw[Up (by omega)];rfl)
 have N:((p:Int)==(s.size:Int))=true:=by rw[beq_iff_eq];omega
 have F:(p:Int)=s.size:=by omega
 clear O
 go_enter Tryz.func44,Tryz.ntmps44
 go_wp2
 go_quiet (fail)
 go_wp2_with fail
 refine(Pf _ _ _ _).mono ?_;rintro e I ⟨rfl,rfl⟩;go_wp2
 exact⟨rfl,.inr ⟨j.o,_,_,by decide,rfl,Fr.of_below (Dr.below ⟨_,rfl⟩ _)⟩⟩
theorem AdP (pa pe:Addr) (w:World):CallsD Tryz.prog 42 #[.pointer (some pa),.pointer (some pe)] .returning w λe m j=>e= .returned (.tuple #[])/\m= .returning/\j=w:=by
 refine callsD_of_wpS Tryz.func42 rfl λl q x=>?_
 apply wpS_seq
 apply wpS_region
 simp[wpOpsS,go_sem,recoverD,x,Tryz.ntmps42,Exit.thenS]
 have r:(#[Value.pointer (some pa),Value.pointer (some pe)]++(Array.replicate 19 undef).setIfInBounds 5 Value.nilIface)= #[.pointer (some pa),.pointer (some pe),undef,undef,undef,undef,undef,.nilIface,undef,undef,undef,undef,undef,undef,undef,undef,undef,undef,undef,undef,undef]:=by kernel_rfl
 rw[r];refine wpS_of_wp ?_;obtain⟨p,hQ⟩:∃ p:Exit->Act->World->Prop,(λ(e:Exit) (a':Act) (j:World)=>bodyPostS Tryz.prog Tryz.f42 l q (λe m j=>e=Ending.returned (Value.tuple #[])/\m=FrameMode.returning/\j=w) e a' (l::q) j)=p:=⟨_,rfl⟩;rw[hQ];replace hQ:=Ab hQ;go_wp2;rw[<-hQ.o];cases l
 simp_all [bodyPostS,results,Tryz.results42]
structure AhD (ba be:Nat) (a c:Int) (w w':World):Prop where
 fr:Fr (λq=>q=ba∨q=be) w w'
 ca:Blk w' ba 3 #[.int .i64 a]
 ce:Blk w' be 32 #[.int .i64 c]
theorem AkU {ba be:Nat} {a c xa xe:Int} {w W1:World} (hb:Below w.heap.size w W1) (ha:Blk W1 ba 3 #[.int .i64 xa]) (he:Blk W1 be 32 #[.int .i64 xe]) (hne:ba≠be):
  AhD ba be a c w ((W1.setCell ⟨ba,0,none⟩ (.int .i64 a)).setCell ⟨be,0,none⟩ (.int .i64 c)).drew:=
 ⟨((((Fr.of_below (S:=λq=>q=ba∨q=be) hb).set (p:=⟨ba,0,none⟩) (.inl rfl) (.int .i64 a)).set (p:=⟨be,0,none⟩) (.inr rfl) (.int .i64 c))).trans (Fr.of_below ((Dr.refl _).drew.below _)),
   ((ha.set_ 0 (.int .i64 a)).far (p:=⟨be,0,none⟩) hne _).dr (Dr.refl _).drew,((he.far (p:=⟨ba,0,none⟩) (λe=>hne e.symm) _).set_ 0 (.int .i64 c)).dr (Dr.refl _).drew⟩
theorem AbL (ba be:Nat) (a c xa xe:Int) (older:List PanicEntry) (w:World) (hne:ba≠be) (ha:Blk w ba 3 #[.int .i64 xa]) (he:Blk w be 32 #[.int .i64 xe]):
  CallsD Tryz.prog 42 #[.pointer (some ⟨ba,0,none⟩),.pointer (some ⟨be,0,none⟩)] (.panicking ({v:=Vn a c,recovered:=false}::older)) w (λe h q=>e=Ending.returned (Value.tuple #[])/\h=FrameMode.panicking ({v:=Vn a c,recovered:=true}::older)/\AhD ba be a c w q):=by
 have R:∀ (v:Value) (W:World),(Instr.typeAssert (.iface 149 v) 20 149 true).run Tryz.prog W= .ok (.tuple #[v,.bool true]) W:=λv W=>by kernel_rfl
 have M:=(Below.refl w.heap.size w).alloc (Nl _) (Obj.cells #[Value.int IntKind.i64 a,Value.int IntKind.i64 c] 149);have j:=ha.alloc (Obj.cells #[Value.int IntKind.i64 a,Value.int IntKind.i64 c] 149);have l:=he.alloc (Obj.cells #[Value.int IntKind.i64 a,Value.int IntKind.i64 c] 149);have m:=Blk.new w 149 #[Value.int IntKind.i64 a,Value.int IntKind.i64 c];have N:=ha.lt;have E:=he.lt;clear ha he;refine callsD_of_wpS Tryz.func42 rfl λy B S=>?_
 apply wpS_seq
 apply wpS_region
 simp[wpOpsS,go_sem,recoverD,S,Tryz.ntmps42,Exit.thenS]
 have O:(#[Value.pointer (some ⟨ba,0,none⟩),Value.pointer (some ⟨be,0,none⟩)]++(Array.replicate 19 undef).setIfInBounds 5 (.iface 149 (.agg #[.int .i64 a,.int .i64 c])))= #[.pointer (some ⟨ba,0,none⟩),.pointer (some ⟨be,0,none⟩),undef,undef,undef,undef,undef,.iface 149 (.agg #[.int .i64 a,.int .i64 c]),undef,undef,undef,undef,undef,undef,undef,undef,undef,undef,undef,undef,undef]:=by kernel_rfl
 rw[O];refine wpS_of_wp ?_;obtain⟨x,hQ⟩:∃ x:Exit->Act->World->Prop,(λ(e:Exit) (a':Act) (q:World)=>bodyPostS Tryz.prog Tryz.f42 y B (λe h q=>e=Ending.returned (Value.tuple #[])/\h=FrameMode.panicking ({v:=Vn a c,recovered:=true}::older)/\AhD ba be a c w q) e a' ({y with mode:=FrameMode.panicking ({v:=Vn a c,recovered:=true}::older)}::B) q)=x:=⟨_,rfl⟩;rw[hQ];replace hQ:=Ab hQ;go_wp2;generalize D:w.alloc (Obj.cells #[Value.int IntKind.i64 a,Value.int IntKind.i64 c] 149)=W1 at*
 have p:W1.heap.size=w.heap.size+1:=by rw[<-D];simp
 clear D;replace p:=Ab p;generalize z:w.heap.size=r at*
 have Y:¬ ba=r:=by omega
 have Z:¬ be=r:=by omega
 have A:¬ r=ba:=by omega
 have n4:¬ r=be:=by omega
 have n5:¬ be=ba:=λe=>hne e.symm;have U:=j.cell 0;have X:=l.cell 0;have F:=m.cell 0;have I:=m.cell 1;have za:=j.frozen 0;have ze:=l.frozen 0
 go_region
 all_goals
  show x Exit.normal _ _
  rw[<-hQ.o];have J:=AkU (a:=a) (c:=c) (by rw[z];exact M) j l hne;cases y;simp[bodyPostS,results,Tryz.results42];exact J
theorem Dh:(Tryz.prog.info? 3).map (λi=>(i.zero,i.size,i.bytes))=some (some (.int .i64 0),1,8):=by kernel_rfl
abbrev Bt (h:Hd):Array Value:= #[.bool h.bin,.int .i64 h.m,.int .i64 h.i,.int .i64 h.l,.int .i64 h.o,.int .i64 h.a,.int .i64 h.b,.int .i64 h.c]
def Apj (rg:Nat) (s:ByteArray) (p top:Nat) (cs:Txt) (w:World) (e:Ending) (w':World):Prop:=
 (∃n b q,Bv top cs (rest s p)=some (n,b,rest s q)/\q<=s.size/\e= .returned (.tuple #[.int .i64 (n:Nat),.int .u8 (bt b)])/\Rdr w' rg s q/\Fr (λq=>q=rg) w w')∨(Bv top cs (rest s p)=none/\Aaw rg w e w')
theorem Aaw.before {rg:Nat} {w w1 w':World} {e:Ending} (h:Aaw rg w1 e w') (hf:Fr (λq=>q=rg) w w1):Aaw rg w e w':=by
 obtain⟨a,c,j,h2,l⟩:=h
 exact⟨a,c,j,h2,hf.trans l⟩
theorem AfI (rg cr ch:Nat) (s:ByteArray) (p:Nat) (h:Hd) (cs:Txt) (w:World) (hp:p<=s.size) (D:s.size<=2000000) (hm:h.m<=16777216) (B:Rdr w rg s p)
  (z:Blk w cr 104 #[.pointer (some ⟨rg,0,none⟩)]) (M:Blk w ch 47 (Bt h)):
  Calls Tryz.prog 84 #[.string ⟨cs.toArray⟩,.pointer (some ⟨cr,0,none⟩),.pointer (some ⟨ch,0,none⟩)] w (Apj rg s p (2*h.m+1) cs w):=by
 have X:(h.m:Int)<=16777216:=by omega
 have N:cr≠rg:=Af z B (by decide);have S:=z.cell 0;have Z:=M.cell 1;have E:=Ab (Je rg s p (2*h.m+1) w hp D B (by omega))
 have y:((2*h.m+1:Nat):Int)=2*(h.m:Int)+1:=by omega
 rw[y]at E;replace B:=Ab B;replace z:=Ab z;replace M:=Ab M;replace D:=Ab D
 go_enter Tryz.func84,Tryz.ntmps84
 go_wp2_with fail
 refine E.o.mono ?_;rintro e A (⟨n,q,x,Y,rfl,r,j⟩|⟨x,a,c,I,rfl,j⟩)
 ·have O:=Ab (j.blk z.o N);have c1:=O.o.cell 0;have R:=Ab (Lu rg s q cs A Y D.o r);replace x:=Ab x;replace j:=Ab j;replace r:=Ab r;clear S Z E
  go_wp2_with fail
  refine R.o.mono ?_;rintro e w2 (⟨b,F,U,rfl,J,l⟩|⟨F,a,c,I,rfl,l⟩)
  ·go_wp2
   go_ret2
   refine .inl ⟨n,b,q+1,?_,by omega,rfl,J,j.o.trans l⟩;unfold Bv;rw[x.o];simp only[Option.bind_some];rw[F];rfl
  go_wp2;refine⟨rfl,.inr ⟨?_,a,c,I,rfl,j.o.trans l⟩⟩;unfold Bv;rw[x.o];simp only[Option.bind_some];rw[F];rfl
 go_wp2;refine⟨rfl,.inr ⟨?_,a,c,I,rfl,j⟩⟩;unfold Bv;rw[x];rfl
end Go.Proofs.YtmidbhnhcbpneaaGreatDoor.Top
end
section
namespace Go.Proofs.YtmidbhnhcbpneaaGreatDoor.Circ
open Go.RowKit Go.Lt
theorem Mg (ad:Addr) (n j:Nat) (hj:0<j):(⟨(ad.add n).block,(ad.add n).off+j,none⟩:Addr)=ad.add (n+j):=by
 unfold Addr.add;rw[if_neg (show ¬n+j=0 by omega)];split
 ·rename_i h;subst h;simp
 simp[Nat.add_assoc]
structure T3 where
 a:Int
 b:Int
 c:Int
def enc3 (l:List T3):List Value:=l.flatMap λx=>[.int .i64 x.a,.int .i64 x.b,.int .i64 x.c]
theorem Uk (l:List T3):(enc3 l).length=l.length*3:=Mt _ 3 (λ_=>rfl) l
def RdT (w:World) (A:Option Addr) (n:Nat) (l:List T3):Prop:=
 l.length=n/\∀k,k<n->∃ad x,A=some ad/\ad.block<w.heap.size/\l[k]?=some x/\w.cell? (ad.add (k*3))=some (.int .i64 x.a)/\w.cell? (ad.add (k*3+1))=some (.int .i64 x.b)/\w.cell? (ad.add (k*3+2))=some (.int .i64 x.c)
theorem RdT.nil (w:World) (A:Option Addr):RdT w A 0 []:=⟨rfl,λ_ h=>absurd h (Nat.not_lt_zero _)⟩
theorem RdT.below {w w':World} {A:Option Addr} {n B:Nat} {l:List T3} (h:RdT w A n l) (hb:Below B w w') (hB:w.heap.size<=B):RdT w' A n l:=
 ⟨h.1,λk D=>by
  obtain⟨m,x,p,h2,q,r,y,z⟩:=h.2 k D;have j:m.block<B:=Nat.lt_of_lt_of_le h2 hB
  exact⟨m,x,p,Nat.lt_of_lt_of_le h2 hb.size,q,(hb.cell (by rw[add_block];exact j)).trans r,(hb.cell (by rw[add_block];exact j)).trans y,(hb.cell (by rw[add_block];exact j)).trans z⟩⟩
theorem RdT.get {w:World} {A:Option Addr} {n k:Nat} {l:List T3} (h:RdT w A n l) (hk:k<n):
  ∃j x,A=some j/\j.block<w.heap.size/\l[k]?=some x/\w.cell? (j.add (k*3))=some (.int .i64 x.a)/\w.cell? ⟨(j.add (k*3)).block,(j.add (k*3)).off+1,none⟩=some (.int .i64 x.b)/\w.cell? ⟨(j.add (k*3)).block,(j.add (k*3)).off+2,none⟩=some (.int .i64 x.c):=by
 obtain⟨j,x,m,h2,p,q,r,y⟩:=h.2 k hk
 exact⟨j,x,m,h2,p,q,by rw[Mg _ _ _ (by omega)];exact r,by rw[Mg _ _ _ (by omega)];exact y⟩
theorem RdT.rdS {w:World} {A:Option Addr} {n:Nat} {l:List T3} (h:RdT w A n l):RdS w A n 3 (enc3 l):=by
 refine⟨by rw[Uk,h.1],?_⟩
 rcases Nat.eq_zero_or_pos n with p|p
 ·exact .inl p
 obtain⟨r,_,q,h2,_⟩:=h.2 0 p;refine .inr ⟨r,q,h2,λk u m=>?_⟩
 have F:k<l.length*3:=by have:=(List.getElem?_eq_some_iff.1 m).1;rwa [Uk]at this
 have E:k/3<n:=by rw[<-h.1];omega
 obtain⟨y,x,j,_,I,z,B,D⟩:=h.2 (k/3) E;rw[q]at j;injection j with j;subst j
 have e:k=k/3*3+k%3:=by omega
 have J:k%3<3:=Nat.mod_lt _ (by omega);unfold enc3 at m;rw[flat_get _ 3 (λ_=>rfl) (by omega),I]at m;simp only[Option.bind_some]at m
 rcases(show k%3=0∨k%3=1∨k%3=2 by omega) with hz|hz|hz
 all_goals
  rw[hz]at m e;injection m with m;subst m;rw[e]
  first|exact z|exact B|exact D
theorem RdT.of_own {w:World} {base n:Nat} {e:TypeId} {v:Value} {l:List T3} (h:w.ownsRow base e 3 v n (enc3 l)):∃ A c,v= .slice A n c/\n<=c/\c<=maxLen/\RdT w A n l:=by
 have D:l.length=n:=by have:=h.1;rw[Uk]at this;omega
 obtain⟨_,h2⟩:=h
 rcases h2 with⟨rfl,rfl⟩|⟨g,p,y,rfl,z,F,x,r,B,q⟩
 ·exact⟨none,0,rfl,Nl _,Nat.zero_le _,D,λk I=>absurd I (Nat.not_lt_zero _)⟩
 refine⟨some ⟨g,0,none⟩,p,rfl,x,r,D,λk I=>?_⟩;have J:l[k]?=some (l[k]'(by omega)):=List.getElem?_eq_getElem _;have m:=World.ownsRow.cells (w:=w) (v:= .slice (some ⟨g,0,none⟩) n p) ⟨by rw[Uk,D],.inr ⟨g,p,y,rfl,z,F,x,r,B,q⟩⟩ rfl
 have E:∀ j,j<3->(enc3 l)[k*3+j]?= [Value.int .i64 (l[k]'(by omega)).a,.int .i64 (l[k]'(by omega)).b,.int .i64 (l[k]'(by omega)).c][j]?:=by
  intro j M;unfold enc3;rw[flat_get _ 3 (λ_=>rfl) (by omega),show(k*3+j)/3=k by omega,show(k*3+j)%3=j by omega,J];rfl
 exact⟨_,_,rfl,(Array.getElem?_eq_some_iff.1 F).1,J,m _ _ ((E 0 (by omega)).trans rfl),m _ _ ((E 1 (by omega)).trans rfl),m _ _ ((E 2 (by omega)).trans rfl)⟩
structure Ci where
 max:Int
 ins:List Int
 lat:List T3
 outs:List Int
 bads:List Int
 cons:List Int
 gat:List T3
def Aap (c:Ci):List Int:=c.ins++c.lat.map T3.a++c.gat.map T3.a
def AaA (c:Ci):List Int:=c.outs++c.bads++c.cons++c.lat.map T3.b++c.gat.flatMap λg=>[g.b,g.c]
end Go.Proofs.YtmidbhnhcbpneaaGreatDoor.Circ
end
section
namespace Go.Proofs.YtmidbhnhcbpneaaGreatDoor.Circ
open Go.RowKit Go.ChangeShapes Go.WideShapes Go.Deep Go.Lt YtmidbhnhcbpneaaGreatDoor.Lit
theorem add_add (a:Addr) (n j:Nat):(a.add n).add j=a.add (n+j):=by
 unfold Addr.add
 by_cases m:n=0<;>by_cases l:j=0<;>simp_all [Nat.add_assoc]
section
variable {H:Type} {enc:TypeId×Value->H} {P:Program} {w:World} {base:Nat} {held:Bool}
end
structure Sl where
 A:Option Addr
 n:Nat
 c:Nat
structure Cv where
 ins:Sl
 lat:Sl
 outs:Sl
 bads:Sl
 cons:Sl
 gat:Sl
 sym:Sl
 com:ByteArray
abbrev Ae (m:Int) (v:Cv):Array Value:= #[.int .i64 m,.slice v.ins.A v.ins.n v.ins.c,.slice v.lat.A v.lat.n v.lat.c,.slice v.outs.A v.outs.n v.outs.c,.slice v.bads.A v.bads.n v.bads.c,.slice v.cons.A v.cons.n v.cons.c,.slice v.gat.A v.gat.n v.gat.c,.slice v.sym.A v.sym.n v.sym.c,.string v.com]
structure AbX (w:World) (v:Cv) (c:Ci):Prop where
 ins:Rd w v.ins.A v.ins.n (ivs c.ins)
 lat:RdT w v.lat.A v.lat.n c.lat
 outs:Rd w v.outs.A v.outs.n (ivs c.outs)
 bads:Rd w v.bads.A v.bads.n (ivs c.bads)
 cons:Rd w v.cons.A v.cons.n (ivs c.cons)
 gat:RdT w v.gat.A v.gat.n c.gat
 sym:∃ xs,RdS w v.sym.A v.sym.n 3 xs/\∀u∈xs,u.oneCell'=true
theorem AbX.below {w w':World} {v:Cv} {c:Ci} {B:Nat} (h:AbX w v c) (hb:Below B w w') (hB:w.heap.size<=B):AbX w' v c:=
 ⟨h.ins.below hb hB,h.lat.below hb hB,h.outs.below hb hB,h.bads.below hb hB,h.cons.below hb hB,h.gat.below hb hB,by obtain⟨l,j,h2⟩:=h.sym;exact⟨l,j.below hb hB,h2⟩⟩
section
variable {H:Type} {enc:TypeId×Value->H} {P:Program} {w:World} {base:Nat} {held:Bool}
end
end Go.Proofs.YtmidbhnhcbpneaaGreatDoor.Circ
end
