/- A part of the proof. -/
import Derived.Test.YtmidbhnhcbpneaaGreatDoorM6
import Derived.Test.YtmidbhnhcbpneaaGreatDoorM15
import Derived.Test.YtmidbhnhcbpneaaGreatDoorM8
import Derived.Test.YtmidbhnhcbpneaaGreatDoorM3
set_option linter.unusedVariables false
set_option linter.unusedSimpArgs false
set_option maxRecDepth 8000
set_option maxHeartbeats 8000000
section
namespace Go.Proofs.YtmidbhnhcbpneaaGreatDoor.Top
open Go YtmidbhnhcbpneaaGreatDoor.Dec
theorem AhI {l t:Txt} {h:Hd} (e:Jr l=some (h,t)):Jf h=true:=by
 unfold Jr at e
 split at e
 ·obtain⟨q,_,e⟩:=Option.bind_eq_some_iff.1 e
  split at e
  ·rename_i hok
   injection e with e;injection e with e _;rw[<-e];exact hok
  cases e
 cases e
theorem Alg {cs l t:Txt} {b:UInt8} (h:Dv cs l=some (b,t)):t.length+1=l.length:=by
 cases l with
 |nil=>cases h
 |cons a l=>
  change (if a∈cs then some (a,l) else none)=some (b,t)at h
  split at h
  ·injection h with h;injection h with _ h2;rw[<-h2];rfl
  cases h
theorem AnI {top n:Nat} {l t:Txt} (h:Gi top l=some (n,t)):t.length<=l.length:=by
 unfold Gi at h
 split at h
 ·injection h with h;injection h with _ h2;rw[<-h2,List.length_drop];omega
 cases h
theorem Li {top n:Nat} {cs l t:Txt} {b:UInt8} (h:Bv top cs l=some (n,b,t)):t.length+1<=l.length/\n<=top:=by
 unfold Bv at h;obtain⟨q,j,h⟩:=Option.bind_eq_some_iff.1 h;obtain⟨r,m,h⟩:=Option.bind_eq_some_iff.1 h;injection h with h;injection h with h1 h2;injection h2 with h2 h3;have a:=AnI (n:=q.1) (t:=q.2) j;have b:=Alg (b:=r.1) (t:=r.2) m;have c:=Aaf (n:=q.1) (t:=q.2) j;rw[<-h1,<-h3];omega
theorem Kq {top:Nat}:∀ (n:Nat) {t u:Txt} {l:List Nat},Bi top n t=some (l,u)->(∀x∈l,x<=top)/\u.length<=t.length
 |0,t,u,l,h=>by injection h with h;injection h with h h2;rw[<-h,<-h2];exact⟨λx j=>(by cases j),Nat.le_refl _⟩
 |n+1,t,u,l,h=>by
  obtain⟨p,y,h⟩:=Option.bind_eq_some_iff.1 h;obtain⟨q,z,h⟩:=Option.bind_eq_some_iff.1 h;injection h with h;injection h with h h2;have m:=Li (n:=p.1) (b:=p.2.1) (t:=p.2.2) y;obtain⟨r,B⟩:=Kq n (u:=q.2) z;rw[<-h,<-h2];refine⟨λx j=>?_,by omega⟩
  rcases List.mem_cons.1 j with rfl|j
  ·exact m.2
  exact r x j
def InT (top:Nat) (x:N3):Prop:=x.a<=top/\x.b<=top/\x.c<=top
theorem Akw {top:Nat} {t u:Txt} {x:N3} (h:Gw top t=some (x,u)):u.length+1<=t.length/\InT top x:=by
 unfold Gw at h;obtain⟨p,j,h⟩:=Option.bind_eq_some_iff.1 h;obtain⟨q,l,h⟩:=Option.bind_eq_some_iff.1 h;have a:=Li (n:=p.1) (b:=p.2.1) (t:=p.2.2) j;have b:=Li (n:=q.1) (b:=q.2.1) (t:=q.2.2) l
 split at h
 ·obtain⟨r,m,h⟩:=Option.bind_eq_some_iff.1 h;have c:=Li (n:=r.1) (b:=r.2.1) (t:=r.2.2) m;injection h with h;injection h with h1 h2;rw[<-h1,<-h2]
  exact⟨by omega,a.2,b.2,c.2⟩
 injection h with h;injection h with h1 h2;rw[<-h1,<-h2]
 exact⟨by omega,a.2,b.2,Nat.zero_le _⟩
theorem AkT {top:Nat} {t u:Txt} {x:N3} (h:Ma top t=some (x,u)):u.length+1<=t.length/\InT top x:=by
 unfold Ma at h;obtain⟨p,j,h⟩:=Option.bind_eq_some_iff.1 h;obtain⟨q,l,h⟩:=Option.bind_eq_some_iff.1 h;obtain⟨r,m,h⟩:=Option.bind_eq_some_iff.1 h;have a:=Li (n:=p.1) (b:=p.2.1) (t:=p.2.2) j;have b:=Li (n:=q.1) (b:=q.2.1) (t:=q.2.2) l;have c:=Li (n:=r.1) (b:=r.2.1) (t:=r.2.2) m;injection h with h;injection h with h1 h2;rw[<-h1,<-h2]
 exact⟨by omega,a.2,b.2,c.2⟩
section
variable {one:Txt->Option (N3×Txt)} {many:Nat->Txt->Option (List N3×Txt)} {top:Nat}
theorem AbA (h0:∀ t,many 0 t=some ([],t)) (hs:∀ m t,many (m+1) t=(one t).bind λp=>(many m p.2).bind λq=>some (p.1::q.1,q.2)) (h1:∀ t u x,one t=some (x,u)->u.length+1<=t.length/\InT top x):
  ∀(n:Nat) {t u:Txt} {l:List N3},many n t=some (l,u)->(∀x∈l,InT top x)/\n+u.length<=t.length
 |0,t,u,l,h=>by rw[h0]at h;injection h with h;injection h with h h2;rw[<-h,<-h2];exact⟨λx j=>(by cases j),by omega⟩
 |n+1,t,u,l,h=>by
  rw[hs]at h;obtain⟨p,z,h⟩:=Option.bind_eq_some_iff.1 h;obtain⟨q,B,h⟩:=Option.bind_eq_some_iff.1 h;injection h with h;injection h with h h2;have r:=h1 t p.2 p.1 z;obtain⟨y,D⟩:=AbA h0 hs h1 n (u:=q.2) B;rw[<-h,<-h2];refine⟨λx j=>?_,by omega⟩
  rcases List.mem_cons.1 j with rfl|j
  ·exact r.2
  exact y x j
end
structure Aot (top:Nat) (c:Cir):Prop where
 ins:∀ x∈c.ins,x<=top
 lat:∀ x∈c.lat,InT top x
 outs:∀ x∈c.outs,x<=top
 bads:∀ x∈c.bads,x<=top
 cons:∀ x∈c.cons,x<=top
 gat:∀ x∈c.gat,InT top x
theorem Ajh {h:Hd} {t u:Txt} {c:Cir} (e:Ec h t=some (c,u)):Aot (2*h.m+1) c/\h.a+u.length<=t.length/\c.max=h.m:=by
 obtain⟨i,hi,e⟩:=Option.bind_eq_some_iff.1 e;obtain⟨x,F,e⟩:=Option.bind_eq_some_iff.1 e;obtain⟨o,E,e⟩:=Option.bind_eq_some_iff.1 e;obtain⟨b,z,e⟩:=Option.bind_eq_some_iff.1 e;obtain⟨k,D,e⟩:=Option.bind_eq_some_iff.1 e;obtain⟨g,B,e⟩:=Option.bind_eq_some_iff.1 e;injection e with e;injection e with e e2;have j:=Kq _ (u:=i.2) hi;have l:=AbA (λt=>rfl) (Hg _) (λt u x h=>Akw h) _ (u:=x.2) F;have p:=Kq _ (u:=o.2) E;have q:=Kq _ (u:=b.2) z;have r:=Kq _ (u:=k.2) D;have y:=AbA (λt=>rfl) (Mh _) (λt u x h=>AkT h) _ (u:=g.2) B;subst e;rw[<-e2]
 exact⟨⟨j.1,l.1,p.1,q.1,r.1,y.1⟩,by have:=j.2;have:=l.2;have:=p.2;have:=q.2;have:=r.2;have:=y.2;omega,rfl⟩
theorem AfO:∀ (f k:Nat) {n:Nat} {t u:Txt},Ke f k t=some (n,u)->u.length+1<=t.length
 |0,k,n,t,u,h=>by cases h
 |f+1,k,n,[],u,h=>by cases h
 |f+1,k,n,b::t,u,h=>by
  change (if k=4/\15<b.toNat then none else if 0<k/\b.toNat=0 then none else if b.toNat<128 then some (b.toNat,t) else _)=_ at h
  split at h
  ·cases h
  split at h
  ·cases h
  split at h
  ·injection h with h;injection h with _ h2;rw[<-h2];simp
  obtain⟨p,j,h⟩:=Option.bind_eq_some_iff.1 h;injection h with h;injection h with _ h2
  have:=AfO f (k+1) (n:=p.1) (u:=p.2) j
  rw[<-h2]
  simp
  omega
theorem AcK {least top n:Nat} {t u:Txt} (h:Do least top t=some (n,u)):u.length+1<=t.length:=by
 unfold Do at h;obtain⟨p,j,h⟩:=Option.bind_eq_some_iff.1 h
 split at h
 ·injection h with h
  have:=AfO 5 0 (n:=p.1) (u:=p.2) j
  rw[h]at this;exact this
 cases h
theorem Vs {top:Nat}:∀ (n lit:Nat) {t u:Txt} {l:List N3},Cz top n lit t=some (l,u)->(∀x∈l,x.a<=lit+2*n/\x.b<=top/\x.c<=top)/\u.length<=t.length
 |0,lit,t,u,l,h=>by injection h with h;injection h with h h2;rw[<-h,<-h2];exact⟨λx m=>(by cases m),Nat.le_refl _⟩
 |n+1,lit,t,u,l,h=>by
  obtain⟨p,j,h⟩:=Option.bind_eq_some_iff.1 h;obtain⟨q,F,h⟩:=Option.bind_eq_some_iff.1 h;injection h with h;injection h with h h2;obtain⟨D,J⟩:=Vs n (lit+2) (u:=q.2) F
  have z:p.1.a=lit/\p.1.b<=top/\p.1.c<=top/\p.2.length<=t.length:=by
   unfold Fv at j;obtain⟨a,E,j⟩:=Option.bind_eq_some_iff.1 j;have y:=Li (n:=a.1) (b:=a.2.1) (t:=a.2.2) E
   split at j
   ·obtain⟨r,I,j⟩:=Option.bind_eq_some_iff.1 j;have B:=Li (n:=r.1) (b:=r.2.1) (t:=r.2.2) I;injection j with j;rw[<-j]
    exact⟨rfl,y.2,B.2,by show r.2.2.length<=_;omega⟩
   injection j with j;rw[<-j]
   exact⟨rfl,y.2,Nat.zero_le _,by show a.2.2.length<=_;omega⟩
  rw[<-h,<-h2];refine⟨λx m=>?_,by omega⟩
  rcases List.mem_cons.1 m with rfl|m
  ·exact⟨by omega,z.2.1,z.2.2.1⟩
  have:=D x m;exact⟨by omega,this.2⟩
theorem Abp:∀ (n lit:Nat) {t u:Txt} {l:List N3},Ib n lit t=some (l,u)->(∀x∈l,InT (lit+2*n) x)/\n+u.length<=t.length
 |0,lit,t,u,l,h=>by injection h with h;injection h with h h2;rw[<-h,<-h2];exact⟨λx m=>(by cases m),by omega⟩
 |n+1,lit,t,u,l,h=>by
  obtain⟨p,j,h⟩:=Option.bind_eq_some_iff.1 h;obtain⟨q,B,h⟩:=Option.bind_eq_some_iff.1 h;injection h with h;injection h with h h2;obtain⟨r,I⟩:=Abp n (lit+2) (u:=q.2) B
  have F:p.1.a<=lit/\p.1.b<=lit/\p.1.c<=lit/\p.2.length+1<=t.length:=by
   unfold Ly at j;obtain⟨a,y,j⟩:=Option.bind_eq_some_iff.1 j;obtain⟨b,z,j⟩:=Option.bind_eq_some_iff.1 j;have D:=AcK (n:=a.1) (u:=a.2) y;have E:=AcK (n:=b.1) (u:=b.2) z;injection j with j;rw[<-j]
   exact⟨Nat.le_refl _,by show lit-a.1<=lit;omega,by show lit-a.1-b.1<=lit;omega,by show b.2.length+1<=_;omega⟩
  rw[<-h,<-h2];refine⟨λx m=>?_,by omega⟩
  rcases List.mem_cons.1 m with rfl|m
  ·exact⟨by omega,by omega,by omega⟩
  have:=r x m;exact⟨by have:=this.1;omega,by have:=this.2.1;omega,by have:=this.2.2;omega⟩
theorem AnN {h:Hd} {t u:Txt} {c:Cir} {T:Nat} (hT:2*h.m+1<=T) (hT2:2+2*h.i+2*h.l+2*h.a<=T) (e:Hc h t=some (c,u)):Aot T c/\h.a+u.length<=t.length/\c.max=h.m:=by
 obtain⟨x,J,e⟩:=Option.bind_eq_some_iff.1 e;obtain⟨o,I,e⟩:=Option.bind_eq_some_iff.1 e;obtain⟨b,D,e⟩:=Option.bind_eq_some_iff.1 e;obtain⟨k,F,e⟩:=Option.bind_eq_some_iff.1 e;obtain⟨g,E,e⟩:=Option.bind_eq_some_iff.1 e;injection e with e;injection e with e e2;have j:=Vs _ _ (u:=x.2) J;have p:=Kq _ (u:=o.2) I;have r:=Kq _ (u:=b.2) D;have z:=Kq _ (u:=k.2) F;have B:=Abp _ _ (u:=g.2) E;subst e;rw[<-e2];refine⟨⟨λy hy=>?_,λy hy=>?_,λy hy=>?_,λy hy=>?_,λy hy=>?_,λy hy=>?_⟩,by have:=j.2;have:=p.2;have:=r.2;have:=z.2;have:=B.2;omega,rfl⟩
 ·obtain⟨q,M,rfl⟩:=Oe.1 hy;omega
 ·have:=j.1 y hy;exact⟨by omega,by omega,by omega⟩
 ·have:=p.1 y hy;omega
 ·have:=r.1 y hy;omega
 ·have:=z.1 y hy;omega
 have:=B.1 y hy;exact⟨by have:=this.1;omega,by have:=this.2.1;omega,by have:=this.2.2;omega⟩
theorem AfR {h:Hd} {t u:Txt} {c:Cir} (ht:Nq h) (hk:Jf h=true) (e:Io h t=some (c,u)):Aot 33554434 c/\h.a+u.length<=t.length/\c.max=h.m:=by
 have p:=ht.m
 have j:h.i+h.l+h.a<=h.m:=by
  unfold Jf at hk;rw[Bool.and_eq_true,decide_eq_true_eq]at hk;exact hk.1
 unfold Io at e
 split at e
 ·obtain⟨a,b⟩:=AnN (T:=33554434) (by omega) (by omega) e
  exact⟨⟨λy hy=>by have:=a.ins y hy;omega,λy hy=>by have:=a.lat y hy;exact⟨by have:=this.1;omega,by have:=this.2.1;omega,by have:=this.2.2;omega⟩,λy hy=>by have:=a.outs y hy;omega,λy hy=>by have:=a.bads y hy;omega,λy hy=>by have:=a.cons y hy;omega,λy hy=>by have:=a.gat y hy;exact⟨by have:=this.1;omega,by have:=this.2.1;omega,by have:=this.2.2;omega⟩⟩,b⟩
 obtain⟨a,b⟩:=Ajh e
 exact⟨⟨λy hy=>by have:=a.ins y hy;omega,λy hy=>by have:=a.lat y hy;exact⟨by have:=this.1;omega,by have:=this.2.1;omega,by have:=this.2.2;omega⟩,λy hy=>by have:=a.outs y hy;omega,λy hy=>by have:=a.bads y hy;omega,λy hy=>by have:=a.cons y hy;omega,λy hy=>by have:=a.gat y hy;exact⟨by have:=this.1;omega,by have:=this.2.1;omega,by have:=this.2.2;omega⟩⟩,b⟩
end Go.Proofs.YtmidbhnhcbpneaaGreatDoor.Top
end
section
namespace Go.Lt
open Go.RowKit Go.Instr Go.ChangeMaps
def Abg (x:Bool):Value:= .bool x
theorem AdU (x:Bool):∀ (es:List MapEntry) (l:List (Bool×Value)) (i:Nat),es.map (λe=>(e.key,e.val))=l.map (λp=>(Abg p.1,p.2))->
  findNow .bool (Abg x) es i=some (mfind l x i):=by
 intro es
 induction es with
 |nil=>
  intro l i h
  cases l with
  |nil=>rfl
  |cons p l=>cases h
 |cons e es y=>
  intro l i h
  cases l with
  |nil=>cases h
  |cons p l=>
   obtain⟨k,u⟩:=p;rw[List.map_cons,List.map_cons]at h;injection h with h1 h2;have m:e.key=Abg k:=congrArg Prod.fst h1;have r:e.val=u:=congrArg Prod.snd h1;unfold findNow mfind;rw[m]
   have q:sameNow .bool (Abg x) (Abg k)=some (x==k):=by simp[sameNow,Abg]
   rw[q]
   by_cases j:k=x
   ·subst j;simp[r]
   have:(x==k)=false:=by rw[beq_eq_false_iff_ne];exact λe=>j e.symm
   rw[this,if_neg j];exact y l (i+1) h2
theorem Kp {P:Program} {K:TypeId} (hK:P.underlying K=some .bool):KeyLaw P K Abg where
 check b a w:=by
  unfold checkKey;simp[run_underlying hK,Abg]
 find a es l w h:=by
  simp[findKey,run_underlying hK,AdU a es l 0 h]
 same a:=by simp[sameBits,Abg]
end Go.Lt
namespace Go.Proofs.YtmidbhnhcbpneaaGreatDoor.Top
open Go Go.RowKit Go.Lt Go.Proofs.YtmidbhnhcbpneaaGreatDoor.Lit Go.Proofs.YtmidbhnhcbpneaaGreatDoor.Dec Go.Instr
open Go.Proofs.YtmidbhnhcbpneaaGreatDoor.Circ (T3 enc3 RdT Sl Cv Ae)
abbrev fnA:Value:= .func (.func 45) #[] #[]
abbrev fnB:Value:= .func (.func 46) #[] #[]
theorem Aem:Tryz.prog.underlying 51=some (.map 4 50):=by kernel_rfl
theorem AeA:Tryz.prog.underlying 4=some .bool:=by kernel_rfl
theorem AdI:∀ w:World,(zeroValue 50).run Tryz.prog w= .ok .nilFunc w:=λw=>by kernel_rfl
def AjU (w:World) (e:Ending) (w':World):Prop:=
 ∃mb ml,e= .returned (.map (some mb))/\Ds w' Abg mb ml/\(∀b,mget ml b=some (if b then fnB else fnA))/\Below w.heap.size w w'
theorem Sv (w:World):Calls Tryz.prog 15 #[] w (AjU w):=by
 have F:= @run_makeMap Tryz.prog;have p:=Ds.made w Abg;have l:=(Below.refl w.heap.size w).alloc (Nl _) (.map #[] 0);obtain⟨r,j⟩:∃ r,w.alloc (.map #[] 0)=r:=⟨_,rfl⟩;rw[j]at p l;have m:=Ab j;clear j
 go_enter Tryz.func15,Tryz.ntmps15
 go_wp2_with (first|(rw[m.o];refine Mi (Kp AeA) Aem rfl _ _ _ rfl p false fnA (by rfl) (by rfl) (by rfl) ?_;intro B z x I)|(refine Mi (Kp AeA) Aem rfl _ _ _ rfl z true fnB (by rfl) (by rfl) (by rfl) ?_;intro M h y J))
 go_ret;refine⟨_,_,rfl,h,λb=>?_,?_⟩
 ·cases b<;>rfl
 have D:Fr (λq=>q=w.heap.size) r B:=Fr.of_grown x (λq e=> .inl (Option.some.inj e).symm);have E:Fr (λq=>q=w.heap.size) B M:=Fr.of_grown y (λq e=> .inl (Option.some.inj e).symm);exact l.trans ((D.trans E).below l.size (λq e=>by omega))
end Go.Proofs.YtmidbhnhcbpneaaGreatDoor.Top
end
section
namespace Go.Proofs.YtmidbhnhcbpneaaGreatDoor.Top
open Go Go.RowKit Go.Lt YtmidbhnhcbpneaaGreatDoor.Lit YtmidbhnhcbpneaaGreatDoor.Dec
open YtmidbhnhcbpneaaGreatDoor.Circ (T3 enc3 RdT Sl Cv Ae)
structure Said (s:ByteArray) (x:Bp):Prop where
 file:Np s.data.toList=some x
 len:Mx x
 num:Xz x.c
theorem AmJ {s:ByteArray} {h:Hd} {p q:Nat} {c:Cir} {l:List Sy} {com:Txt} (hs:s.size<=1000000) (hh:Jr s.data.toList=some (h,rest s p)) (ht:Nq h) (hb:Io h (rest s p)=some (c,rest s q))
  (hT:Fj h ((rest s q).length+1) [] (rest s q)=some (l,com)) (hl:l.length<=s.size):Said s ⟨c,l,com⟩:=by
 have B:=AhI hh;obtain⟨r,D,E⟩:=AfR ht B hb;have z:=AcY hb
 have X:c.gat.length=h.a:=by rw[<-z];rfl
 have hi:c.ins.length=h.i:=by rw[<-z];rfl
 have U:c.lat.length=h.l:=by rw[<-z];rfl
 have Y:c.outs.length=h.o:=by rw[<-z];rfl
 have R:c.bads.length=h.b:=by rw[<-z];rfl
 have S:c.cons.length=h.c:=by rw[<-z];rfl
 have Z:(rest s p).length<=s.size:=by rw[Qr];omega
 have F:=ht.m;have I:=ht.i;have J:=ht.l;have M:=ht.o;have N:=ht.b;have O:=ht.c;refine⟨?_,⟨by show c.ins.length<=_;omega,by show c.lat.length<=_;omega,by show c.outs.length<=_;omega,by show c.bads.length<=_;omega,by show c.cons.length<=_;omega,by show c.gat.length<=_;omega,by show l.length<=_;omega⟩,?_⟩
 ·unfold Np;rw[hh,Option.bind_some]
  show((Io h (rest s p)).bind _)=_
  rw[hb,Option.bind_some]
  show((Fj h ((rest s q).length+1) [] (rest s q)).bind _)=_
  rw[hT,Option.bind_some]
 refine⟨by show c.max<=_;omega,λx j=>?_,λx j=>?_,λx j=>?_⟩
 ·unfold Dd at j
  rcases List.mem_append.1 j with j|j
  ·rcases List.mem_append.1 j with j|j
   ·have:=r.ins x j;omega
   obtain⟨y,hy,rfl⟩:=List.mem_map.1 j
   have:=(r.lat y hy).1;omega
  obtain⟨y,hy,rfl⟩:=List.mem_map.1 j
  have:=(r.gat y hy).1;omega
 ·unfold Ch at j;simp only[List.mem_append,List.mem_map,List.mem_flatMap,List.mem_cons,List.not_mem_nil,or_false]at j
  rcases j with(((j|j)|j)|⟨y,hy,rfl⟩)|⟨y,hy,rfl|rfl⟩
  ·have:=r.outs x j;omega
  ·have:=r.bads x j;omega
  ·have:=r.cons x j;omega
  ·have:=(r.lat y hy).2.1;omega
  ·have:=(r.gat y hy).2.1;omega
  have:=(r.gat y hy).2.2;omega
 have:=(r.lat x j).2.2;omega
theorem AiS {s:ByteArray} (h:Jr s.data.toList=none):Np s.data.toList=none:=by unfold Np;rw[h];rfl
theorem Aks {s:ByteArray} {h:Hd} {p:Nat} (hh:Jr s.data.toList=some (h,rest s p)) (hb:Io h (rest s p)=none):Np s.data.toList=none:=by
 unfold Np;rw[hh,Option.bind_some]
 show((Io h (rest s p)).bind _)=_
 rw[hb];rfl
theorem Ajw {s:ByteArray} {h:Hd} {p q:Nat} {c:Cir} (hh:Jr s.data.toList=some (h,rest s p)) (hb:Io h (rest s p)=some (c,rest s q)) (hT:Fj h ((rest s q).length+1) [] (rest s q)=none):Np s.data.toList=none:=by
 unfold Np;rw[hh,Option.bind_some]
 show((Io h (rest s p)).bind _)=_
 rw[hb,Option.bind_some]
 show((Fj h ((rest s q).length+1) [] (rest s q)).bind _)=_
 rw[hT];rfl
theorem Lj.val {B:Nat} {W:World} {v:Cv} {x:Bp} (h:Lj B W v x):Wy W.heap.size v:=by
 intro j l
 rcases l with e|e|e
 ·exact(Dm h.c.outs (g:=j.block) (by unfold sv;rw[e];rfl)).2
 ·exact(Dm h.c.bads (g:=j.block) (by unfold sv;rw[e];rfl)).2
 exact(Dm h.c.cons (g:=j.block) (by unfold sv;rw[e];rfl)).2
theorem Lj.base {B B':Nat} {W:World} {v:Cv} {x:Bp} (h:Lj B' W v x) (hb:B<=B'):Lj B W v x:=⟨h.c.base hb,Az h.sym hb,h.com⟩
theorem Lj.fr {B:Nat} {W W':World} {v:Cv} {x:Bp} {S:Nat->Prop} (h:Lj B W v x) (hf:Fr S W W') (hS:∀ k,S k->k<B∨∃t j,Blk W k t j/\t≠3/\t≠59/\t≠62/\t≠65):Lj B W' v x:=by
 refine⟨h.c.fr hf (λk r=>(hS k r).imp id (λ⟨t,j,a,b,c,d,_⟩=>⟨t,j,a,b,c,d⟩)),hf.own h.sym (λg l y=>?_),h.com⟩
 rcases hS g y with m|⟨t,j,q,_,_,_,p⟩
 ·exact Dw h.sym m l.symm
 exact Ba h.sym q (λe=>p e.symm) l.symm
theorem Lj.below {B:Nat} {W W':World} {v:Cv} {x:Bp} (h:Lj B W v x) (hb:Below W.heap.size W W'):Lj B W' v x:=
 h.fr (S:=λ_=>False) (Fr.of_below hb) (λk j=>j.elim)
def Zi (s:ByteArray) (w:World) (e:Ending) (w':World):Prop:=
 ((∃x v a,Said s x/\Ag x.c/\Lj w.heap.size w' v x/\e= .returned (.tuple #[.agg (Ae x.c.max v),.int .i64 a,.int .i64 0]))∨
  ((∀x,Np s.data.toList=some x->¬Ag x.c)/\∃(a c:Int),c≠0/\e= .returned (.tuple #[.agg (Ae 0 Vj),.int .i64 a,.int .i64 c])))/\Below w.heap.size w w'
structure Aoa (h:Hd) (s:ByteArray) (p:Nat) (W4 W:World) (g:Nat) (a c m':Int) (v:Cv):Prop where
 blk:Blk W g 31 (Ae m' v)
 new:W4.heap.size<=g
 bel:Below W4.heap.size W4 W
 res:(c=0/\∃cc q,Io h (rest s p)=some (cc,rest s q)/\q<=s.size/\a=(q:Nat)/\m'=(h.m:Nat)/\Fi W4.heap.size W v cc/\v.sym=Ap/\v.com= .empty)∨(c≠0/\Io h (rest s p)=none)
def Yn (h:Hd) (s:ByteArray) (p:Nat) (B:Nat) (W:World) (a c m':Int) (v:Cv):Prop:=
 (c=0/\∃cc q,Io h (rest s p)=some (cc,rest s q)/\q<=s.size/\a=(q:Nat)/\m'=(h.m:Nat)/\Fi B W v cc/\v.sym=Ap/\v.com= .empty)∨(c≠0/\Io h (rest s p)=none)
theorem Acp.get {h:Hd} {s:ByteArray} {p:Nat} {w w':World} {e:Ending} (hR:Acp Io h s p w e w'):∃ (a c l:Int) (v:Cv),e= .returned (.tuple #[.agg (Ae l v),.int .i64 a,.int .i64 c])/\Yn h s p w.heap.size w' a c l v/\Below w.heap.size w w':=by
 obtain⟨⟨c,v,q,j,h2,r,x,y,rfl⟩|⟨j,l,v',a,c,z,rfl⟩,m⟩:=hR
 ·exact⟨_,_,_,_,rfl,.inl ⟨rfl,c,q,j,h2,rfl,rfl,r,x,y⟩,m⟩
 exact⟨_,_,_,_,rfl,.inr ⟨z,j⟩,m⟩
theorem Aji (h:Hd) (s:ByteArray) (p:Nat) (w:World) (hp:p<=s.size) (hs:s.size<=2000000) (ht:Nq h):
  Calls Tryz.prog (if h.bin then 46 else 45) #[.string s,.int .i64 p,.agg (Bt h)] w (Acp Io h s p w):=by
 obtain⟨b,m,i,l,o,a,j,c⟩:=h;cases b
 ·exact AfZ _ s p w hp hs ht
 exact Afw _ s p w hp hs ht
theorem Yn.base {h:Hd} {s:ByteArray} {p B B':Nat} {W:World} {a c m':Int} {v:Cv} (hR:Yn h s p B' W a c m' v) (hb:B<=B'):Yn h s p B W a c m' v:=by
 rcases hR with⟨m,l,q,j,h2,r,x,y,z⟩|j
 ·exact .inl ⟨m,l,q,j,h2,r,x,y.base hb,z⟩
 exact .inr j
theorem Yn.below {h:Hd} {s:ByteArray} {p B:Nat} {W W':World} {a c m':Int} {v:Cv} (hR:Yn h s p B W a c m' v) (hb:Below W.heap.size W W'):Yn h s p B W' a c m' v:=by
 rcases hR with⟨m,l,q,j,h2,r,x,y,z⟩|j
 ·exact .inl ⟨m,l,q,j,h2,r,x,y.below hb,z⟩
 exact .inr j
theorem Ve {h:Hd} {s:ByteArray} {p g:Nat} {W4 Wx:World} {a c m':Int} {v:Cv} {x0 x1 x2 x3 x4 x5 x6 x7 x8:Value} (hB:Below W4.heap.size W4 Wx) (b:Blk Wx g 31 #[x0,x1,x2,x3,x4,x5,x6,x7,x8]) (hg:W4.heap.size<=g) (hR:Yn h s p W4.heap.size Wx a c m' v):
  Aoa h s p W4 (((((((((Wx.setCell ⟨g,0,none⟩ (.int .i64 m')).setCell ⟨g,1,none⟩ (sv v.ins)).setCell ⟨g,2,none⟩ (sv v.lat)).setCell ⟨g,3,none⟩ (sv v.outs)).setCell ⟨g,4,none⟩ (sv v.bads)).setCell ⟨g,5,none⟩ (sv v.cons)).setCell ⟨g,6,none⟩ (sv v.gat)).setCell ⟨g,7,none⟩ (sv v.sym)).setCell ⟨g,8,none⟩ (.string v.com)) g a c m' v:=by
 have l:=fr9 (Fr.refl (λq=>q=g) Wx) rfl (.int .i64 m') (sv v.ins) (sv v.lat) (sv v.outs) (sv v.bads) (sv v.cons) (sv v.gat) (sv v.sym) (.string v.com);have E:=hB.size;refine⟨Xj b _ _ _ _ _ _ _ _ _,hg,hB.trans (l.below (B:=W4.heap.size) (by omega) (λk e=>by omega)),?_⟩
 rcases hR with⟨r,m,q,j,h2,x,y,z,D⟩|j
 ·exact .inl ⟨r,m,q,j,h2,x,y,z.fr l (λk e=> .inr ⟨31,_,e▸b,by decide,by decide,by decide⟩),D⟩
 exact .inr j
def Afk (h:Hd) (hd:Nat) (W4 W:World):Prop:=Below W4.heap.size W4 W/\Blk W hd 47 (Bt h)
theorem Afk.below {h:Hd} {hd:Nat} {W4 W W':World} (hH:Afk h hd W4 W) (hb:Below W.heap.size W W'):Afk h hd W4 W':=⟨hH.1.trans (hb.mono hH.1.size),hH.2.below hb hH.2.lt⟩
theorem Oj {s:ByteArray} {n0:Nat} {w W l:World} {tmps:Array Value} {x0 x1 x2 x3 x4 x5 x6 x7 x8 y0 y1 y2 y3 y4 y5 y6 y7 y8:Value} {a c:Int} (hn0:w.heap.size=n0) (hb:Below n0 w W) (b1:Blk W n0 31 #[x0,x1,x2,x3,x4,x5,x6,x7,x8])
  (hW:l=(((((((((W.setCell ⟨n0,0,none⟩ y0).setCell ⟨n0,1,none⟩ y1).setCell ⟨n0,2,none⟩ y2).setCell ⟨n0,3,none⟩ y3).setCell ⟨n0,4,none⟩ y4).setCell ⟨n0,5,none⟩ y5).setCell ⟨n0,6,none⟩ y6).setCell ⟨n0,7,none⟩ y7).setCell ⟨n0,8,none⟩ y8))
  (hP:(∃x v,Said s x/\Ag x.c/\Lj n0 W v x/\c=0/\Value.agg #[y0,y1,y2,y3,y4,y5,y6,y7,y8]= .agg (Ae x.c.max v))∨((∀x,Np s.data.toList=some x->¬Ag x.c)/\c≠0/\Value.agg #[y0,y1,y2,y3,y4,y5,y6,y7,y8]= .agg (Ae 0 Vj)))
  (h2:tmps[2]?=some (.pointer (some ⟨n0,0,none⟩))) (j:tmps[3]?=some (.int .i64 a)) (h4:tmps[4]?=some (.int .i64 c)):bodyPost Tryz.prog Tryz.f4 (Zi s w) .ret {tmps:=tmps,defers:=[]} l:=by
 subst hW;have y:=Xj b1 y0 y1 y2 y3 y4 y5 y6 y7 y8;have r:=fr9 (Fr.refl (λq=>q=n0) W) rfl y0 y1 y2 y3 y4 y5 y6 y7 y8;generalize (((((((((W.setCell ⟨n0,0,none⟩ y0).setCell ⟨n0,1,none⟩ y1).setCell ⟨n0,2,none⟩ y2).setCell ⟨n0,3,none⟩ y3).setCell ⟨n0,4,none⟩ y4).setCell ⟨n0,5,none⟩ y5).setCell ⟨n0,6,none⟩ y6).setCell ⟨n0,7,none⟩ y7).setCell ⟨n0,8,none⟩ y8)=l at*;obtain⟨z,h,D,E,F,I,J,M,N⟩:=c9c (y)
 have p:Below w.heap.size w l:=by rw[hn0];exact hb.trans (r.below (B:=n0) (Nat.le_of_lt b1.lt) (λk R=>by omega))
 refine bodyPost_ret (v:= .tuple #[.agg #[y0,y1,y2,y3,y4,y5,y6,y7,y8],.int .i64 a,.int .i64 c]) ?_ rfl ⟨?_,p⟩
 ·simp[results,Tryz.results4,go_sem,h2,j,h4,z,h,D,E,F,I,J,M,N]
 rcases hP with⟨x,v,m,h2,j,rfl,O⟩|⟨m,h2,j⟩
 ·exact .inl ⟨x,v,a,m,h2,by rw[hn0];exact j.fr r (λk e=> .inr ⟨31,_,e▸b1,by decide,by decide,by decide,by decide⟩),by rw[O]⟩
 exact .inr ⟨m,a,c,h2,by rw[j]⟩
theorem AiB (args:Array Value) (w:World):(callFunc 45 args).run Tryz.prog w= .ok (.enter 45 args) w:=by
 simp[callFunc,go_sem,Tryz.func45,Tryz.f45]
theorem AiK (args:Array Value) (w:World):(callFunc 46 args).run Tryz.prog w= .ok (.enter 46 args) w:=by
 simp[callFunc,go_sem,Tryz.func46,Tryz.f46]
theorem AhT {W:World} {g:Nat} {t:TypeId} {x0 x1 x2 x3 x4 x5 x6 x7 x8:Value} (b:Blk W g t #[x0,x1,x2,x3,x4,x5,x6,x7,x8]) (y7 y8:Value):∃ W',(W.setCell ⟨g,7,none⟩ y7).setCell ⟨g,8,none⟩ y8=W'/\Fr (λq=>q=g) W W'/\Blk W' g t #[x0,x1,x2,x3,x4,x5,x6,y7,y8]:=by
 refine⟨_,rfl,((Fr.refl (λq=>q=g) W).set (p:=⟨g,7,none⟩) rfl y7).set (p:=⟨g,8,none⟩) rfl y8,?_⟩;have h:=(b.set_ 7 y7).set_ 8 y8
 simpa using h
def rdr (b:Bool):FuncId:=if b then 46 else 45
theorem AiG (b:Bool) (args:Array Value) (w:World):(callFunc (rdr b) args).run Tryz.prog w= .ok (.enter (rdr b) args) w:=by
 cases b
 ·exact AiB args w
 exact AiK args w
theorem Ys (s:ByteArray) (w:World) (hs:s.size<=1000000):
  Calls Tryz.prog 4 #[.string s] w (Zi s w):=by
 have i1:¬ (s.size:Int)>1048576:=by omega
 obtain⟨W2,cB,b0,b1,eH,dT⟩:=Qd w #[.int .i64 0,.slice none 0 0,.slice none 0 0,.slice none 0 0,.slice none 0 0,.slice none 0 0,.slice none 0 0,.slice none 0 0,.string ⟨#[]⟩] #[.int .i64 0,.slice none 0 0,.slice none 0 0,.slice none 0 0,.slice none 0 0,.slice none 0 0,.slice none 0 0,.slice none 0 0,.string ⟨#[]⟩] 31 31;replace cB:=Ab cB;have HH:=Ab (λW=>AaD s W (by omega))
 go_enter Tryz.func4,Tryz.ntmps4
 go_upto_region 2 with fail
 rw[cB.o];clear cB;generalize aS:w.heap.size=n0 at*
 go_wp2_with fail
 refine(HH.o _).mono ?_;rintro e w3 ⟨hP,aO⟩;clear HH i1;have c0:=b0.below aO b0.lt;have c1:=b1.below aO b1.lt;have cC:Below n0 w w3:=dT.trans (aO.mono (by omega));have eI:=aO.size;clear aO b0 b1 dT
 rcases hP with⟨h,p,hh,hp,ht,rfl⟩|⟨aE,h',a,c,hc,rfl⟩
 rotate_left
 ·obtain⟨W4,aC,b2,R⟩:=Bb w3 (Bt h') 47;have b0:=c0.below R c0.lt;have b1:=Ab (c1.below R c1.lt);have cE:=Ab (cC.trans (R.mono (by omega)));have aF:=Ab (AiS aE);replace aC:=Ab aC;clear aE cC c0 c1 b2 R eI
  go_upto_region 5 with fail
  rw[aC.o];clear aC;generalize w3.heap.size=m0 at*;have D:=b1.o;have cY:=(D).cell 0;have aW:=(D).frozen 0;have cZ:=(D).cell 1;have aX:=(D).frozen 1;have dA:=(D).cell 2;have aY:=(D).frozen 2;have dB:=(D).cell 3;have aZ:=(D).frozen 3;have dC:=(D).cell 4;have bA:=(D).frozen 4;have dD:=(D).cell 5;have bB:=(D).frozen 5;have dE:=(D).cell 6;have bC:=(D).frozen 6;have dF:=(D).cell 7;have bD:=(D).frozen 7;have dG:=(D).cell 8;have bE:=(D).frozen 8;clear D;have z:=b0;have dH:=(z).cell 0;have bF:=(z).frozen 0;have dI:=(z).cell 1;have bG:=(z).frozen 1;have dJ:=(z).cell 2;have bH:=(z).frozen 2;have dK:=(z).cell 3;have bI:=(z).frozen 3;have dL:=(z).cell 4;have bJ:=(z).frozen 4;have dM:=(z).cell 5;have bK:=(z).frozen 5;have dN:=(z).cell 6;have bL:=(z).frozen 6;have dO:=(z).cell 7;have bM:=(z).frozen 7;have dP:=(z).cell 8;have bN:=(z).frozen 8;clear z;go_wp2;exact Oj aS cE.o b0 rfl (.inr ⟨λx e=>(by rw[aF.o]at e;cases e),hc,rfl⟩) rfl rfl rfl
 obtain⟨W4,aC,b2,R⟩:=Bb w3 (Bt h) 47;have b0:=Ab (c0.below R c0.lt);have b1:=Ab (c1.below R c1.lt);have cE:=Ab (cC.trans (R.mono (by omega)));replace aC:=Ab aC;replace hh:=Ab hh;have dR:n0<W4.heap.size:=b0.o.lt;have bY:=b2.lt;clear cC c0 c1 R eH
 go_upto_region 5 with fail
 rw[aC.o];clear aC;generalize w3.heap.size=m0 at*
 go_upto_region 7 with fail
 have pI:(p:Int)<=s.size:=by omega
 go_cut [7,8,9] from 7 to 38 (λs7 s8 s9 wx=>∃ (g:Nat) (a c m':Int) (v:Cv),s7= .int .i64 a/\s8= .int .i64 c/\s9= .pointer (some ⟨g,0,none⟩)/\Hid (Aoa h s p W4 wx g a c m' v))
 case first=>
  have HC:=Ab (λW=>Aji h s p W hp (by omega) ht);have eG:Afk h m0 W4 W4.drew:=⟨(Dr.refl W4).drew.below _,b2⟩;replace HC:Hid (∀W,Calls Tryz.prog (rdr h.bin) #[.string s,.int .i64 p,.agg (Bt h)] W (Acp Io h s p W)):=HC;have eT:=AiG h.bin;have cS:∀ ml:List (Bool×Value),(∀b,mget ml b=some (if b then fnB else fnA))->mget ml h.bin=some (.func (.func (rdr h.bin)) #[] #[]):=λml h0=>(h0 h.bin).trans (by cases h.bin<;>rfl);generalize rdr h.bin=fr at*;obtain⟨cA,hm,hi,hl,ho,ha,hb,hc⟩:=h;refine wp_region_held_drew (S:=λW'=>Hid (Afk ⟨cA,hm,hi,hl,ho,ha,hb,hc⟩ m0 W4 W')) (by kernel_rfl) (Ab eG) (λj=>?_);generalize W4.drew=W0 at*;refine tk 1 (h:=tk 2 (hy:=by intro wz X;(try dsimp only at X);have bO:=X.o.2.cell 0;go_simp;(try with_reducible rfl)) (h:=tk 4 (h:=tk 5 (h:=tk 6 (hy:=by intro wz X;(try dsimp only at X);have bO:=X.o.2.cell 0;have cJ:=X.o.2.cell 1;have cK:=X.o.2.cell 2;have cL:=X.o.2.cell 3;have cM:=X.o.2.cell 4;have cN:=X.o.2.cell 5;have cO:=X.o.2.cell 6;have cP:=X.o.2.cell 7;go_simp;(try with_reducible rfl)) (h:=?_)))));refine wpAnyH_ready (rs:=[0,12]) (by kernel_rfl) (by simp) ?_;refine AllReadyH.cons rfl (λK M=>?_) (AllReadyH.cons rfl (λK M=>?_) AllReadyH.nil)
  ·
   go_simp
   go_wp2_with fail
   refine(Sv _).mono ?_;rintro e w1 ⟨mb,ml,rfl,E,aR,aI⟩;replace E:=Ab E;have cG:=cS ml aR
   try replace J:=Ab (J.o.below aI J.o.lt)
   replace j:=Ab (j.o.below aI)
   try clear aI
   clear aR;refine M.o _ _ (j) (λj=>?_);clear M K
   try simp only[Act.put,pt]
   refine wpAnyH_ready (rs:=[3,12]) (by kernel_rfl) (by simp) ?_;refine AllReadyH.cons rfl (λK M=>?_) (AllReadyH.cons rfl (λK M=>?_) AllReadyH.nil)
   ·
    simp only[Region.wanted,if_true];refine Pk (Kp AeA) Aem AdI (.tmp 27) (.tmp 29) rfl E.o.toO cA (by rfl) (by rfl) ?_;rw[cG,Option.getD_some];refine M.o _ _ (j) (λj=>?_);clear M K
    try simp only[Act.put,pt]
    refine wpAnyH_ready (rs:=[7,12]) (by kernel_rfl) (by simp) ?_;refine AllReadyH.cons rfl (λK M=>?_) (AllReadyH.cons rfl (λK M=>?_) AllReadyH.nil)
    ·
     go_simp
     go_wp2_with fail
     refine(HC.o _).mono ?_;intro e w8 aH;obtain⟨a,c,m',v,rfl,Z,O⟩:=aH.get;replace Z:=Ab (Z.base j.o.1.size);obtain⟨⟨A1,M1,C1⟩,⟨A2,M2,C2⟩,⟨A3,M3,C3⟩,⟨A4,M4,C4⟩,⟨A5,M5,C5⟩,⟨A6,M6,C6⟩,⟨A7,M7,C7⟩,aA⟩:=v
     try replace J:=Ab (J.o.below O J.o.lt)
     replace j:=Ab (j.o.below O);clear O;refine M.o _ _ (j) (λj=>?_);refine tk 8 (h:=tk 9 (h:=tk 10 (h:=tk 11 (h:=?_))));refine rd1 12 λK M=>?_;go_simp
     first
      |(obtain⟨Wg,F,J,I⟩:=Bb w8 #[.int .i64 0,.slice none 0 0,.slice none 0 0,.slice none 0 0,.slice none 0 0,.slice none 0 0,.slice none 0 0,.slice none 0 0,.string ⟨#[]⟩] 31;rw[F])
      |(obtain⟨Wg,F,J,I⟩:=Bb w1 #[.int .i64 0,.slice none 0 0,.slice none 0 0,.slice none 0 0,.slice none 0 0,.slice none 0 0,.slice none 0 0,.slice none 0 0,.string ⟨#[]⟩] 31;rw[F])
      |(obtain⟨Wg,F,J,I⟩:=Bb W0 #[.int .i64 0,.slice none 0 0,.slice none 0 0,.slice none 0 0,.slice none 0 0,.slice none 0 0,.slice none 0 0,.slice none 0 0,.string ⟨#[]⟩] 31;rw[F])
     clear F;have aK:=j.o.1.size;replace J:=Ab J
     try replace E:=Ab (E.o.below I E.o.lt)
     try replace Z:=Ab (Z.o.below I)
     replace j:=Ab (j.o.below I);clear I;refine M.o _ _ (j) (λj=>?_);clear M K
     try simp only[Act.put,pt]
     refine rd1 13 λK M=>?_;have y:=J.o;have bO:=(y).cell 0;have bP:=(y).frozen 0;have cJ:=(y).cell 1;have bQ:=(y).frozen 1;have cK:=(y).cell 2;have bR:=(y).frozen 2;have cL:=(y).cell 3;have bS:=(y).frozen 3;have cM:=(y).cell 4;have bT:=(y).frozen 4;have cN:=(y).cell 5;have bU:=(y).frozen 5;have cO:=(y).cell 6;have bV:=(y).frozen 6;have cP:=(y).cell 7;have bW:=(y).frozen 7;have dQ:=(y).cell 8;have bX:=(y).frozen 8;go_simp;have N:=Ab (Ve j.o.1 J.o aK Z.o);refine M.o _ _ (Ab ⟨N.o.bel,b2.below N.o.bel bY⟩) (λj=>?_);refine tk 14 (h:=tk 15 (h:=?_));refine wpAnyH_done (by kernel_rfl) ?_ _;go_wp2;go_meet
     case rel=>exact⟨_,_,_,_,_,rfl,rfl,rfl,N⟩
    
    go_simp
    first
     |(obtain⟨Wg,F,J,I⟩:=Bb w8 #[.int .i64 0,.slice none 0 0,.slice none 0 0,.slice none 0 0,.slice none 0 0,.slice none 0 0,.slice none 0 0,.slice none 0 0,.string ⟨#[]⟩] 31;rw[F])
     |(obtain⟨Wg,F,J,I⟩:=Bb w1 #[.int .i64 0,.slice none 0 0,.slice none 0 0,.slice none 0 0,.slice none 0 0,.slice none 0 0,.slice none 0 0,.slice none 0 0,.string ⟨#[]⟩] 31;rw[F])
     |(obtain⟨Wg,F,J,I⟩:=Bb W0 #[.int .i64 0,.slice none 0 0,.slice none 0 0,.slice none 0 0,.slice none 0 0,.slice none 0 0,.slice none 0 0,.slice none 0 0,.string ⟨#[]⟩] 31;rw[F])
    clear F;have aK:=j.o.1.size;replace J:=Ab J
    try replace E:=Ab (E.o.below I E.o.lt)
    try replace Z:=Ab (Z.o.below I)
    replace j:=Ab (j.o.below I);clear I;refine M.o _ _ (j) (λj=>?_);clear M K
    try simp only[Act.put,pt]
    refine rd1 7 λK M=>?_;go_simp
    go_wp2_with fail
    refine(HC.o _).mono ?_;intro e w8 aH;obtain⟨a,c,m',v,rfl,Z,O⟩:=aH.get;replace Z:=Ab (Z.base j.o.1.size);obtain⟨⟨A1,M1,C1⟩,⟨A2,M2,C2⟩,⟨A3,M3,C3⟩,⟨A4,M4,C4⟩,⟨A5,M5,C5⟩,⟨A6,M6,C6⟩,⟨A7,M7,C7⟩,aA⟩:=v
    try replace J:=Ab (J.o.below O J.o.lt)
    replace j:=Ab (j.o.below O);clear O;refine M.o _ _ (j) (λj=>?_);refine tk 8 (h:=tk 9 (h:=tk 10 (h:=tk 11 (h:=?_))));refine rd1 13 λK M=>?_;have y:=J.o;have bO:=(y).cell 0;have bP:=(y).frozen 0;have cJ:=(y).cell 1;have bQ:=(y).frozen 1;have cK:=(y).cell 2;have bR:=(y).frozen 2;have cL:=(y).cell 3;have bS:=(y).frozen 3;have cM:=(y).cell 4;have bT:=(y).frozen 4;have cN:=(y).cell 5;have bU:=(y).frozen 5;have cO:=(y).cell 6;have bV:=(y).frozen 6;have cP:=(y).cell 7;have bW:=(y).frozen 7;have dQ:=(y).cell 8;have bX:=(y).frozen 8;go_simp;have N:=Ab (Ve j.o.1 J.o aK Z.o);refine M.o _ _ (Ab ⟨N.o.bel,b2.below N.o.bel bY⟩) (λj=>?_);refine tk 14 (h:=tk 15 (h:=?_));refine wpAnyH_done (by kernel_rfl) ?_ _;go_wp2;go_meet
    case rel=>exact⟨_,_,_,_,_,rfl,rfl,rfl,N⟩
   
   go_simp
   first
    |(obtain⟨Wg,F,J,I⟩:=Bb w8 #[.int .i64 0,.slice none 0 0,.slice none 0 0,.slice none 0 0,.slice none 0 0,.slice none 0 0,.slice none 0 0,.slice none 0 0,.string ⟨#[]⟩] 31;rw[F])
    |(obtain⟨Wg,F,J,I⟩:=Bb w1 #[.int .i64 0,.slice none 0 0,.slice none 0 0,.slice none 0 0,.slice none 0 0,.slice none 0 0,.slice none 0 0,.slice none 0 0,.string ⟨#[]⟩] 31;rw[F])
    |(obtain⟨Wg,F,J,I⟩:=Bb W0 #[.int .i64 0,.slice none 0 0,.slice none 0 0,.slice none 0 0,.slice none 0 0,.slice none 0 0,.slice none 0 0,.slice none 0 0,.string ⟨#[]⟩] 31;rw[F])
   clear F;have aK:=j.o.1.size;replace J:=Ab J
   try replace E:=Ab (E.o.below I E.o.lt)
   try replace Z:=Ab (Z.o.below I)
   replace j:=Ab (j.o.below I);clear I;refine M.o _ _ (j) (λj=>?_);clear M K
   try simp only[Act.put,pt]
   refine rd1 3 λK M=>?_;simp only[Region.wanted,if_true];refine Pk (Kp AeA) Aem AdI (.tmp 27) (.tmp 29) rfl E.o.toO cA (by rfl) (by rfl) ?_;rw[cG,Option.getD_some];refine M.o _ _ (j) (λj=>?_);clear M K
   try simp only[Act.put,pt]
   refine rd1 7 λK M=>?_;go_simp
   go_wp2_with fail
   refine(HC.o _).mono ?_;intro e w8 aH;obtain⟨a,c,m',v,rfl,Z,O⟩:=aH.get;replace Z:=Ab (Z.base j.o.1.size);obtain⟨⟨A1,M1,C1⟩,⟨A2,M2,C2⟩,⟨A3,M3,C3⟩,⟨A4,M4,C4⟩,⟨A5,M5,C5⟩,⟨A6,M6,C6⟩,⟨A7,M7,C7⟩,aA⟩:=v
   try replace J:=Ab (J.o.below O J.o.lt)
   replace j:=Ab (j.o.below O);clear O;refine M.o _ _ (j) (λj=>?_);refine tk 8 (h:=tk 9 (h:=tk 10 (h:=tk 11 (h:=?_))));refine rd1 13 λK M=>?_;have y:=J.o;have bO:=(y).cell 0;have bP:=(y).frozen 0;have cJ:=(y).cell 1;have bQ:=(y).frozen 1;have cK:=(y).cell 2;have bR:=(y).frozen 2;have cL:=(y).cell 3;have bS:=(y).frozen 3;have cM:=(y).cell 4;have bT:=(y).frozen 4;have cN:=(y).cell 5;have bU:=(y).frozen 5;have cO:=(y).cell 6;have bV:=(y).frozen 6;have cP:=(y).cell 7;have bW:=(y).frozen 7;have dQ:=(y).cell 8;have bX:=(y).frozen 8;go_simp;have N:=Ab (Ve j.o.1 J.o aK Z.o);refine M.o _ _ (Ab ⟨N.o.bel,b2.below N.o.bel bY⟩) (λj=>?_);refine tk 14 (h:=tk 15 (h:=?_));refine wpAnyH_done (by kernel_rfl) ?_ _;go_wp2;go_meet
   case rel=>exact⟨_,_,_,_,_,rfl,rfl,rfl,N⟩
  
  go_simp
  first
   |(obtain⟨Wg,F,J,I⟩:=Bb w8 #[.int .i64 0,.slice none 0 0,.slice none 0 0,.slice none 0 0,.slice none 0 0,.slice none 0 0,.slice none 0 0,.slice none 0 0,.string ⟨#[]⟩] 31;rw[F])
   |(obtain⟨Wg,F,J,I⟩:=Bb w1 #[.int .i64 0,.slice none 0 0,.slice none 0 0,.slice none 0 0,.slice none 0 0,.slice none 0 0,.slice none 0 0,.slice none 0 0,.string ⟨#[]⟩] 31;rw[F])
   |(obtain⟨Wg,F,J,I⟩:=Bb W0 #[.int .i64 0,.slice none 0 0,.slice none 0 0,.slice none 0 0,.slice none 0 0,.slice none 0 0,.slice none 0 0,.slice none 0 0,.string ⟨#[]⟩] 31;rw[F])
  clear F;have aK:=j.o.1.size;replace J:=Ab J
  try replace E:=Ab (E.o.below I E.o.lt)
  try replace Z:=Ab (Z.o.below I)
  replace j:=Ab (j.o.below I);clear I;refine M.o _ _ (j) (λj=>?_);clear M K
  try simp only[Act.put,pt]
  refine rd1 0 λK M=>?_;go_simp
  go_wp2_with fail
  refine(Sv _).mono ?_;rintro e w1 ⟨mb,ml,rfl,E,aR,aI⟩;replace E:=Ab E;have cG:=cS ml aR
  try replace J:=Ab (J.o.below aI J.o.lt)
  replace j:=Ab (j.o.below aI)
  try clear aI
  clear aR;refine M.o _ _ (j) (λj=>?_);clear M K
  try simp only[Act.put,pt]
  refine rd1 3 λK M=>?_;simp only[Region.wanted,if_true];refine Pk (Kp AeA) Aem AdI (.tmp 27) (.tmp 29) rfl E.o.toO cA (by rfl) (by rfl) ?_;rw[cG,Option.getD_some];refine M.o _ _ (j) (λj=>?_);clear M K
  try simp only[Act.put,pt]
  refine rd1 7 λK M=>?_;go_simp
  go_wp2_with fail
  refine(HC.o _).mono ?_;intro e w8 aH;obtain⟨a,c,m',v,rfl,Z,O⟩:=aH.get;replace Z:=Ab (Z.base j.o.1.size);obtain⟨⟨A1,M1,C1⟩,⟨A2,M2,C2⟩,⟨A3,M3,C3⟩,⟨A4,M4,C4⟩,⟨A5,M5,C5⟩,⟨A6,M6,C6⟩,⟨A7,M7,C7⟩,aA⟩:=v
  try replace J:=Ab (J.o.below O J.o.lt)
  replace j:=Ab (j.o.below O);clear O;refine M.o _ _ (j) (λj=>?_);refine tk 8 (h:=tk 9 (h:=tk 10 (h:=tk 11 (h:=?_))));refine rd1 13 λK M=>?_;have y:=J.o;have bO:=(y).cell 0;have bP:=(y).frozen 0;have cJ:=(y).cell 1;have bQ:=(y).frozen 1;have cK:=(y).cell 2;have bR:=(y).frozen 2;have cL:=(y).cell 3;have bS:=(y).frozen 3;have cM:=(y).cell 4;have bT:=(y).frozen 4;have cN:=(y).cell 5;have bU:=(y).frozen 5;have cO:=(y).cell 6;have bV:=(y).frozen 6;have cP:=(y).cell 7;have bW:=(y).frozen 7;have dQ:=(y).cell 8;have bX:=(y).frozen 8;go_simp;have N:=Ab (Ve j.o.1 J.o aK Z.o);refine M.o _ _ (Ab ⟨N.o.bel,b2.below N.o.bel bY⟩) (λj=>?_);refine tk 14 (h:=tk 15 (h:=?_));refine wpAnyH_done (by kernel_rfl) ?_ _;go_wp2;go_meet
  case rel=>exact⟨_,_,_,_,_,rfl,rfl,rfl,N⟩
 obtain⟨g,a,c,m',v,rfl,rfl,rfl,hM⟩:=hcut;have eS:n0+1<W4.heap.size:=b1.o.lt;have aP:=hM.o.bel;have e0:=b0.o.below aP dR;have e1:=b1.o.below aP eS;have e2:=b2.below aP bY;have cV:=Ab (cE.o.trans (aP.mono (Nat.le_of_lt dR)));have hg:=hM.o.new;have aN:=hM.o.blk;clear b0 b1 b2 cE aP
 rcases hM.o.res with⟨rfl,cc,q,A,hq,rfl,rfl,aL,aU,aQ⟩|⟨hc,aE⟩
 rotate_left
 ·have aF:=Ab (Aks hh.o aE);clear aE hM aN e2;have D:=e1;have cY:=(D).cell 0;have aW:=(D).frozen 0;have cZ:=(D).cell 1;have aX:=(D).frozen 1;have dA:=(D).cell 2;have aY:=(D).frozen 2;have dB:=(D).cell 3;have aZ:=(D).frozen 3;have dC:=(D).cell 4;have bA:=(D).frozen 4;have dD:=(D).cell 5;have bB:=(D).frozen 5;have dE:=(D).cell 6;have bC:=(D).frozen 6;have dF:=(D).cell 7;have bD:=(D).frozen 7;have dG:=(D).cell 8;have bE:=(D).frozen 8;have z:=e0;have dH:=(z).cell 0;have bF:=(z).frozen 0;have dI:=(z).cell 1;have bG:=(z).frozen 1;have dJ:=(z).cell 2;have bH:=(z).frozen 2;have dK:=(z).cell 3;have bI:=(z).frozen 3;have dL:=(z).cell 4;have bJ:=(z).frozen 4;have dM:=(z).cell 5;have bK:=(z).frozen 5;have dN:=(z).cell 6;have bL:=(z).frozen 6;have dO:=(z).cell 7;have bM:=(z).frozen 7;have dP:=(z).cell 8;have bN:=(z).frozen 8;clear D z e1;go_wp2;exact Oj aS cV.o e0 rfl (.inr ⟨λx e=>(by rw[aF.o]at e;cases e),hc,rfl⟩) rfl rfl rfl
 clear hM;obtain⟨⟨A1,M1,C1⟩,⟨A2,M2,C2⟩,⟨A3,M3,C3⟩,⟨A4,M4,C4⟩,⟨A5,M5,C5⟩,⟨A6,M6,C6⟩,s7,aA⟩:=v;replace aU:s7=Ap:=aU;replace aQ:aA= .empty:=aQ;subst aU aQ;have cX:cc.max=h.m:=(AfR ht (AhI hh.o) A).2.2;have HT:=Ab (λW=>Akm h s q W hq (by omega) ht);replace A:=Ab A;replace aL:=Ab aL;replace cX:=Ab cX;obtain⟨k0,k1,k2,k3,k4,k5,k6,k7⟩:=c8c e2
 go_wp2_with fail
 refine(HT.o _).mono ?_;rintro e w5 ⟨hT,aJ⟩;clear HT k0 k1 k2 k3 k4 k5 k6 k7 e2;have p0:=e0.below aJ e0.lt;have p1:=e1.below aJ e1.lt;have pg:=aN.below aJ aN.lt;have dU:=Ab (cV.o.trans (aJ.mono (by have:=e0.lt;omega)));have bZ:=Ab (aL.o.below aJ);have fE:=aJ.size;have gw:g<wc.heap.size:=aN.lt;have lw:n0<wc.heap.size:=e0.lt
 have ww:W4.heap.size<=wc.heap.size:=by have:=aN.lt;omega
 clear aL cV aJ e0 e1 aN
 rcases hT with⟨l,aA,⟨Al,Ml,Cl⟩,aV,aT,hl,fD,rfl⟩|⟨aE,a,c,hc,rfl⟩
 rotate_left
 ·have aF:=Ab (Ajw hh.o A.o aE);clear aE bZ;obtain⟨W6,aD,f6,Y⟩:=AhT pg (.slice none 0 0) (.string ⟨#[]⟩);have z:=f6.blk p0 (by omega);have D:=f6.blk p1 (by omega);have cF:=Ab (dU.o.trans (f6.below (B:=n0) (by omega) (λk e=>by omega)));have j7:=pg.cell 7;have j8:=pg.cell 8;have z7:=pg.frozen 7;have z8:=pg.frozen 8;replace aD:=Ab aD
  go_upto_region 11 with fail
  rw[aD.o];clear aD f6 Y p0 p1 pg j7 j8 z7 z8;have e0:=Ab z;have cY:=(D).cell 0;have aW:=(D).frozen 0;have cZ:=(D).cell 1;have aX:=(D).frozen 1;have dA:=(D).cell 2;have aY:=(D).frozen 2;have dB:=(D).cell 3;have aZ:=(D).frozen 3;have dC:=(D).cell 4;have bA:=(D).frozen 4;have dD:=(D).cell 5;have bB:=(D).frozen 5;have dE:=(D).cell 6;have bC:=(D).frozen 6;have dF:=(D).cell 7;have bD:=(D).frozen 7;have dG:=(D).cell 8;have bE:=(D).frozen 8;have dH:=(z).cell 0;have bF:=(z).frozen 0;have dI:=(z).cell 1;have bG:=(z).frozen 1;have dJ:=(z).cell 2;have bH:=(z).frozen 2;have dK:=(z).cell 3;have bI:=(z).frozen 3;have dL:=(z).cell 4;have bJ:=(z).frozen 4;have dM:=(z).cell 5;have bK:=(z).frozen 5;have dN:=(z).cell 6;have bL:=(z).frozen 6;have dO:=(z).cell 7;have bM:=(z).frozen 7;have dP:=(z).cell 8;have bN:=(z).frozen 8;clear D z;go_wp2;exact Oj aS cF.o e0.o rfl (.inr ⟨λx e=>(by rw[aF.o]at e;cases e),hc,rfl⟩) rfl rfl rfl
 have U:=AmJ hs hh.o ht A.o aV hl;obtain⟨W6,aD,f6,Y⟩:=AhT pg (.slice Al Ml Cl) (.string (bstr aA));have z:=f6.blk p0 (by omega);have D:=f6.blk p1 (by omega);have cF:=Ab (dU.o.trans (f6.below (B:=n0) (by omega) (λk e=>by omega)))
 have aB:Lj n0 W6 ⟨⟨A1,M1,C1⟩,⟨A2,M2,C2⟩,⟨A3,M3,C3⟩,⟨A4,M4,C4⟩,⟨A5,M5,C5⟩,⟨A6,M6,C6⟩,⟨Al,Ml,Cl⟩,bstr aA⟩ ⟨cc,l,aA⟩:=
  ⟨have o:=(bZ.o.base (Nat.le_of_lt dR)).fr f6 (λk e=> .inr ⟨31,_,e▸pg,by decide,by decide,by decide⟩);⟨o.ins,o.lat,o.outs,o.bads,o.cons,o.gat⟩,f6.own (Az aT (Nat.le_of_lt lw)) (λk hk e=>by have:=(Dm aT hk).1;omega),rfl⟩
 have cT:=Mn _ _ W6 aB.rd U.len aB.val U.num;have dV:(⟨cc,l,aA⟩:Bp).c.max=h.m:=cX.o;rw[dV]at cT;have HK:=Ab cT;have j7:=pg.cell 7;have j8:=pg.cell 8;have z7:=pg.frozen 7;have z8:=pg.frozen 8;replace aD:=Ab aD;replace aB:=Ab aB;replace U:=Ab U;clear aT bZ cT aV;dsimp only[sv]
 go_upto_region 11 with fail
 rw[aD.o];clear aD f6 p0 p1 pg j7 j8 z7 z8;have eJ:=(Y).cell 0;have dW:=(Y).frozen 0;have eK:=(Y).cell 1;have dX:=(Y).frozen 1;have eL:=(Y).cell 2;have dY:=(Y).frozen 2;have eM:=(Y).cell 3;have dZ:=(Y).frozen 3;have eN:=(Y).cell 4;have eA:=(Y).frozen 4;have eO:=(Y).cell 5;have eB:=(Y).frozen 5;have eP:=(Y).cell 6;have eC:=(Y).frozen 6;have eQ:=(Y).cell 7;have eD:=(Y).frozen 7;have eR:=(Y).cell 8;have eE:=(Y).frozen 8
 go_wp2_with fail
 refine HK.o.mono ?_;rintro e w7 ⟨r,rfl,hr,aM⟩;clear HK eJ dW eK dX eL dY eM dZ eN eA eO eB eP eC eQ eD eR eE;have e0:=z.below aM z.lt;have e1:=D.below aM D.lt;have b7:=Y.below aM Y.lt;have cQ:=Ab (cF.o.trans (aM.mono (Nat.le_of_lt z.lt)));have eF:=Ab (aB.o.below aM);clear z D Y cF aB aM;have z:=e0;have dH:=(z).cell 0;have bF:=(z).frozen 0;have dI:=(z).cell 1;have bG:=(z).frozen 1;have dJ:=(z).cell 2;have bH:=(z).frozen 2;have dK:=(z).cell 3;have bI:=(z).frozen 3;have dL:=(z).cell 4;have bJ:=(z).frozen 4;have dM:=(z).cell 5;have bK:=(z).frozen 5;have dN:=(z).cell 6;have bL:=(z).frozen 6;have dO:=(z).cell 7;have bM:=(z).frozen 7;have dP:=(z).cell 8;have bN:=(z).frozen 8;clear z
 by_cases cH:r=0
 rotate_left
 ·have dS:=Ab (mt hr.2 cH);have D:=e1;have cY:=(D).cell 0;have aW:=(D).frozen 0;have cZ:=(D).cell 1;have aX:=(D).frozen 1;have dA:=(D).cell 2;have aY:=(D).frozen 2;have dB:=(D).cell 3;have aZ:=(D).frozen 3;have dC:=(D).cell 4;have bA:=(D).frozen 4;have dD:=(D).cell 5;have bB:=(D).frozen 5;have dE:=(D).cell 6;have bC:=(D).frozen 6;have dF:=(D).cell 7;have bD:=(D).frozen 7;have dG:=(D).cell 8;have bE:=(D).frozen 8;clear D;go_wp2;exact Oj aS cQ.o e0 rfl (.inr ⟨λx e=>(by rw[U.o.file]at e;injection e with e;rw[<-e];exact dS.o),cH,rfl⟩) rfl rfl rfl
 have cW:=Ab (hr.1 cH);subst cH;clear hr;have fF:=(b7).cell 0;have eU:=(b7).frozen 0;have fG:=(b7).cell 1;have eV:=(b7).frozen 1;have fH:=(b7).cell 2;have eW:=(b7).frozen 2;have fI:=(b7).cell 3;have eX:=(b7).frozen 3;have fJ:=(b7).cell 4;have eY:=(b7).frozen 4;have fK:=(b7).cell 5;have eZ:=(b7).frozen 5;have fL:=(b7).cell 6;have fA:=(b7).frozen 6;have fM:=(b7).cell 7;have fB:=(b7).frozen 7;have fN:=(b7).cell 8;have fC:=(b7).frozen 8;go_wp2;exact Oj aS cQ.o e0 rfl (.inl ⟨_,_,U.o,cW.o,eF.o,rfl,by rw[dV]⟩) rfl rfl rfl
end Go.Proofs.YtmidbhnhcbpneaaGreatDoor.Top
end
