/- A part of the proof. -/
import Derived.Test.YtmidbhnhcbpneaaGreatDoorM14
import Derived.KernelRfl
import Derived.Test.YtmidbhnhcbpneaaGreatDoorM3
import Derived.Test.YtmidbhnhcbpneaaGreatDoorM8
set_option linter.unusedVariables false
set_option linter.unusedSimpArgs false
set_option maxRecDepth 8000
set_option maxHeartbeats 8000000
section
namespace Go.Proofs.YtmidbhnhcbpneaaGreatDoor.Top
open Go Go.RowKit Go.Lt YtmidbhnhcbpneaaGreatDoor.Lit YtmidbhnhcbpneaaGreatDoor.Dec
open YtmidbhnhcbpneaaGreatDoor.Circ (T3 enc3 RdT Sl Cv Ae)
theorem Ce {w:World} {A:Option Addr} {g:List N3} {n k:Nat} (h:RdT w A n (g.map t3)) (hk:k<n):
  ∃j x,A=some j/\g[k]?=some x/\w.cell? (j.add (k*3))=some (.int .i64 (x.a:Nat))/\w.cell? ⟨(j.add (k*3)).block,(j.add (k*3)).off+1,none⟩=some (.int .i64 (x.b:Nat))/\w.cell? ⟨(j.add (k*3)).block,(j.add (k*3)).off+2,none⟩=some (.int .i64 (x.c:Nat)):=by
 obtain⟨j,y,m,_,h2,p,q,r⟩:=h.get hk;rw[List.getElem?_map]at h2
 cases l:g[k]? with
 |none=>rw[l]at h2;cases h2
 |some x=>
  rw[l]at h2;injection h2 with h2;subst h2
  exact⟨j,x,m,rfl,p,q,r⟩
theorem AbC (l:List Nat) (x:Nat):nvs (l++ [x])=nvs l++ [.int .i64 (x:Nat)]:=by unfold nvs;rw[List.map_append];rfl
theorem Alt {l:List N3} {k:Nat} {x:N3} (p:List Nat) (f:N3->Nat) (h:l[k]?=some x):p++(l.take (k+1)).map f=(p++(l.take k).map f)++ [f x]:=by
 rw[List.take_add_one,h,List.map_append,List.append_assoc];rfl
structure AbP (w:World) (n0:Nat) (cs:Array Value) (W:World) (v:Value) (n:Nat) (l:List Nat):Prop where
 box:Blk W n0 31 cs
 own:W.ownsRow n0 3 1 v n (nvs l)
 bel:Below n0 w W
theorem AbP.after {w W W':World} {n0 n:Nat} {cs:Array Value} {v:Value} {l:List Nat} (h:AbP w n0 cs W v n l) (hb:Below W.heap.size W W'):AbP w n0 cs W' v n l:=
 ⟨h.box.below hb h.box.lt,Au h.own hb,h.bel.trans (hb.mono (Nat.le_of_lt h.box.lt))⟩
theorem AbP.push {w W W':World} {n0 n x:Nat} {cs:Array Value} {v v':Value} {l:List Nat} {o:Obj} (h:AbP w n0 cs W v n l) (hown:W'.ownsRow n0 3 1 v' (n+1) (nvs l++ [.int .i64 (x:Nat)])) (hb:Below n0 w W') (hg:(W.alloc o).grownBy W' v.ownBlock):AbP w n0 cs W' v' (n+1) (l++ [x]):=
 ⟨(h.box.alloc o).grown hg (Ba h.own h.box (by decide)),by rw[AbC];exact hown,hb⟩
def Aom (c:Cir) (w:World) (e:Ending) (w':World):Prop:=∃ s:Sl,e= .returned (sv s)/\s.n=(Dd c).length/\w'.ownsRow w.heap.size 3 1 (sv s) (Dd c).length (nvs (Dd c))/\Below w.heap.size w w'
theorem Aeg (v:Cv) (x:Bp) (w:World) (hr:RdC w v x) (hl:Mx x):
  Calls Tryz.prog 50 #[.agg (Ae x.c.max v)] w (Aom x.c w):=by
 obtain⟨⟨A1,M1,C1⟩,⟨A2,m,C2⟩,⟨A3,M3,C3⟩,⟨A4,M4,C4⟩,⟨A5,M5,C5⟩,⟨A6,B,C6⟩,⟨A7,M7,C7⟩,aE⟩:=v;obtain⟨N,E⟩:∃ N,N=Ae x.c.max ⟨⟨A1,M1,C1⟩,⟨A2,m,C2⟩,⟨A3,M3,C3⟩,⟨A4,M4,C4⟩,⟨A5,M5,C5⟩,⟨A6,B,C6⟩,⟨A7,M7,C7⟩,aE⟩:=⟨_,rfl⟩;rw[<-E];obtain⟨W1,R,b0,X⟩:=Bb w N 31;replace R:=Ab R;have l1:=hl.ins;have l2:=hl.lat;have l3:=hl.gat;have n1:M1=x.c.ins.length:=hr.nIns;have n2:m=x.c.lat.length:=hr.nLat;have n3:B=x.c.gat.length:=hr.nGat
 have k1:N[1]?=some (.slice A1 M1 C1):=by rw[E];rfl
 have k2:N[2]?=some (.slice A2 m C2):=by rw[E];rfl
 have k6:N[6]?=some (.slice A6 B C6):=by rw[E];rfl
 replace k1:=Ab k1;replace k2:=Ab k2;replace k6:=Ab k6;clear E;generalize z:w.heap.size=n0 at*;have aD:=hr.below X (Nat.le_of_eq z);have HC:=Ab (Mp A1 M1 C1 (nvs x.c.ins) W1 (by omega) (Go.Lt.Wh aD.ins) Ux)
 have aH:(m:Int)<=16777216:=by omega
 have aI:(B:Int)<=1000000:=by omega
 replace n1:=Ab n1;replace n2:=Ab n2;replace n3:=Ab n3;have c1:=(b0.cell 1).trans k1.o
 go_enter Tryz.func50,Tryz.ntmps50
 go_upto_region 1 with fail
 rw[R.o];clear R
 go_wp2_with fail
 refine HC.o.mono ?_;rintro e w2 ⟨s1,rfl,aF,J,Y⟩
 have O:Hid (AbP w n0 N w2 (sv s1) (x.c.ins.length+0) (x.c.ins++(x.c.lat.take 0).map N3.a)):=by
  refine Ab ⟨b0.below Y b0.lt,?_,X.trans (Y.mono (Nat.le_of_lt b0.lt))⟩
  have:=Az J (Nat.le_of_lt b0.lt)
  rw[n1.o]at this
  simpa using this
 have c2:=(O.o.box.cell 2).trans k2.o;clear HC c1 b0 X J Y aF aD;go_wp2;clear c2
 go_loopw [3,14] (λu i wr=>∃ k:Nat,i= .int .i64 k/\k<=m/\Hid (AbP w n0 N wr u (x.c.ins.length+k) (x.c.ins++(x.c.lat.take k).map N3.a))) (λ_ i _=>m-(intOf i).toNat)
 case atStart=>exact⟨0,rfl,Nat.zero_le _,O⟩
 case round=>
  obtain⟨k,rfl,hk,q⟩:=hrel;obtain⟨s2,rfl,M⟩:=Be q.o.own
  by_cases F:k<m
  ·have I:(k:Int)<m:=by omega
   have aB:=hr.below q.o.bel (Nat.le_of_eq z);obtain⟨ad,y,hA,hy,g0,g1,g2⟩:=Ce (show RdT wr A2 m (x.c.lat.map t3) from aB.lat) F;subst hA;have l:=Ab (Alt x.c.ins N3.a hy);obtain⟨W5,j,b5,p⟩:=Bb wr #[.int .i64 (y.a:Nat),.int .i64 (y.b:Nat),.int .i64 (y.c:Nat)] 59;have r:=Ab (q.o.after p);have u0:=b5.cell 0;have U:=Ab (show x.c.ins.length+k+1<=maxLen by unfold maxLen;omega);have A:=Ab (show(x.c.ins.length+k+1)*8<=140737488355328 by omega);replace j:=Ab j;replace hy:=Ab hy;clear p
   go_upto_region 5 with fail
   rw[j.o];clear j g0 g1 g2
   go_wp2_with (at_builtin;refine Ah rfl _ _ _ rfl Tryz.underlying26 Dh rfl (by decide) rfl (by first|rfl|simp[go_sem]) r.o.own r.o.bel (Nat.le_of_eq z.symm) (by rfl) (by simp[Value.oneCell']) U.o A.o ?_;intro v9 w9 h Z aA)
   have D:=Ab (r.o.push h Z aA);rw[<-l.o]at D;go_roundw
   case rel=>exact⟨k+1,by go_num,F,D⟩
   case measure=>simp[intOf];omega
  obtain rfl:m=k:=by omega
  have I:¬ (m:Int)<m:=by omega
  have l:x.c.lat.take m=x.c.lat:=List.take_of_length_le (by have:=n2.o;omega);rw[l]at q;have O:Hid (AbP w n0 N wr (sv s2) (x.c.ins.length+m+0) (x.c.ins++x.c.lat.map N3.a++(x.c.gat.take 0).map N3.a)):=Ab (by simpa using q.o);have c6:=(q.o.box.cell 6).trans k6.o;clear q l M;go_wp2;clear c6
  go_loopw [3,27] (λu i wr=>∃ k:Nat,i= .int .i64 k/\k<=B/\Hid (AbP w n0 N wr u (x.c.ins.length+m+k) (x.c.ins++x.c.lat.map N3.a++(x.c.gat.take k).map N3.a))) (λ_ i _=>B-(intOf i).toNat)
  case atStart=>exact⟨0,rfl,Nat.zero_le _,O⟩
  case round=>
   obtain⟨k,rfl,hk,q⟩:=hrel;obtain⟨s2,rfl,M⟩:=Be q.o.own
   by_cases F:k<B
   ·have I:(k:Int)<B:=by omega
    have aB:=hr.below q.o.bel (Nat.le_of_eq z);obtain⟨ad,y,hA,hy,g0,g1,g2⟩:=Ce (show RdT wr A6 B (x.c.gat.map t3) from aB.gat) F;subst hA;have l:=Ab (Alt (x.c.ins++x.c.lat.map N3.a) N3.a hy);obtain⟨W5,j,b5,p⟩:=Bb wr #[.int .i64 (y.a:Nat),.int .i64 (y.b:Nat),.int .i64 (y.c:Nat)] 62;have r:=Ab (q.o.after p);have u0:=b5.cell 0;have U:=Ab (show x.c.ins.length+m+k+1<=maxLen by unfold maxLen;omega);have A:=Ab (show(x.c.ins.length+m+k+1)*8<=140737488355328 by omega);replace j:=Ab j;replace hy:=Ab hy;clear p
    go_upto_region 10 with fail
    rw[j.o];clear j g0 g1 g2
    go_wp2_with (at_builtin;refine Ah rfl _ _ _ rfl Tryz.underlying26 Dh rfl (by decide) rfl (by first|rfl|simp[go_sem]) r.o.own r.o.bel (Nat.le_of_eq z.symm) (by rfl) (by simp[Value.oneCell']) U.o A.o ?_;intro v9 w9 h Z aA)
    have D:=Ab (r.o.push h Z aA);rw[<-l.o]at D;go_roundw
    case rel=>exact⟨k+1,by go_num,F,D⟩
    case measure=>simp[intOf];omega
   obtain rfl:B=k:=by omega
   have I:¬ (B:Int)<B:=by omega
   have l:x.c.gat.take B=x.c.gat:=List.take_of_length_le (by have:=n3.o;omega);rw[l]at q
   have S:x.c.ins.length+m+B=(Dd x.c).length:=by have:=n2.o;have:=n3.o;unfold Dd;simp;omega
   rw[S]at q M;have aC:Hid (Aom x.c w (.returned (sv s2)) wr):=Ab ⟨s2,rfl,M,by rw[z];exact q.o.own,by rw[z];exact q.o.bel⟩;clear q l M S;go_wp2;go_ret;exact aC.o
def Hb (c:Cir):List (List Nat):=[c.outs,c.bads,c.cons]++c.lat.map (λx=>[x.b])++c.gat.map λx=>[x.b,x.c]
theorem Tv (c:Cir):(Hb c).flatten=Ch c:=by
 unfold Hb Ch;simp only[List.flatten_append,List.flatten_cons,List.flatten_nil,List.append_nil,List.append_assoc]
 congr 3
 congr 1
 induction c.lat with
 |nil=>rfl
 |cons x l j=>simp[j]
def ElM (n0 okb:Nat) (W:World) (u:Value) (r:List Nat):Prop:=∃ A cc,u= .slice A r.length cc/\Rd W A r.length (nvs r)/\∀ad,A=some ad->ad.block≠okb/\(ad.block<n0∨∃cs,Blk W ad.block 3 cs)
theorem ElM.fr {n0 okb:Nat} {W W':World} {u:Value} {r:List Nat} (h:ElM n0 okb W u r) (hf:Fr (λq=>q=okb) W W'):ElM n0 okb W' u r:=by
 obtain⟨A,m,p,h2,l⟩:=h;refine⟨A,m,p,hf.rd h2 (λj e=>(l j e).1),λj e=>⟨(l j e).1,?_⟩⟩
 rcases(l j e).2 with h4|⟨cs,h4⟩
 ·exact .inl h4
 exact .inr ⟨cs,hf.blk h4 (l j e).1⟩
theorem ElM.grown {n0 okb n:Nat} {W W':World} {u v:Value} {r:List Nat} {us:List Value} {o:Obj} (h:ElM n0 okb W u r) (hown:W.ownsRow n0 26 1 v n us) (hg:(W.alloc o).grownBy W' v.ownBlock):ElM n0 okb W' u r:=by
 obtain⟨A,z,B,h2,p⟩:=h
 have m:∀ j,A=some j->some j.block≠v.ownBlock:=λj e=>by
  rcases(p j e).2 with h4|⟨cs,h4⟩
  ·exact Dw hown h4
  exact Ba hown h4 (by decide)
 refine⟨A,z,B,⟨h2.1,λk D=>?_⟩,λj e=>⟨(p j e).1,?_⟩⟩
 ·obtain⟨j,u,q,E,x,y⟩:=h2.2 k D
  have l:j.block<(W.alloc o).heap.size:=by simp;omega
  refine⟨j,u,q,Nat.lt_of_lt_of_le l hg.size,x,?_⟩;rw[World.cell?_of_block (show W'.heap[(j.add k).block]?=(W.alloc o).heap[(j.add k).block]? from by rw[add_block];exact hg.block _ l (m j q))];exact Gs y o
 rcases(p j e).2 with h4|⟨cs,h4⟩
 ·exact .inl h4
 exact .inr ⟨cs,(h4.alloc o).grown hg (m j e)⟩
theorem ElM.lit {n0 okb b:Nat} {W:World} {r:List Nat} (hb:Blk W b 3 (nvs r).toArray) (hbo:b≠okb):ElM n0 okb W (.slice (some ⟨b,0,none⟩) r.length r.length) r:=by
 refine⟨_,_,rfl,⟨by simp[nvs],λj m=>?_⟩,λp e=>by injection e with e;subst e;exact⟨hbo,.inr ⟨_,hb⟩⟩⟩
 have l:(nvs r)[j]?=some (.int .i64 ((r[j]'m:Nat):Int)):=by unfold nvs;rw[List.getElem?_map,List.getElem?_eq_getElem m];rfl
 refine⟨_,_,rfl,hb.lt,l,?_⟩
 have:(⟨b,0,none⟩:Addr).add j=⟨b,j,none⟩:=by unfold Addr.add;split<;>simp_all
 rw[this,hb.cell j]
 simpa using l
structure Xm (n0 okb:Nat) (W:World) (v:Value) (n:Nat) (us:List Value) (rows:List (List Nat)):Prop where
 own:W.ownsRow n0 26 1 v n us
 el:∀ (k:Nat) u r,us[k]?=some u->rows[k]?=some r->ElM n0 okb W u r
 len:rows.length=n
theorem Xm.fr {n0 okb n:Nat} {W W':World} {v:Value} {us:List Value} {rows:List (List Nat)} (h:Xm n0 okb W v n us rows) (hf:Fr (λq=>q=okb) W W') (ho:okb<n0):Xm n0 okb W' v n us rows:=
 ⟨hf.own h.own (λg j e=>by have:=(Dm h.own j).1;omega),λk u r a b=>(h.el k u r a b).fr hf,h.len⟩
theorem Xm.push {n0 okb n:Nat} {W W':World} {v v' u:Value} {us:List Value} {rows:List (List Nat)} {r:List Nat} {o:Obj} (h:Xm n0 okb W v n us rows) (hu:ElM n0 okb W u r) (hown:W'.ownsRow n0 26 1 v' (n+1) (us++ [u])) (hg:(W.alloc o).grownBy W' v.ownBlock):Xm n0 okb W' v' (n+1) (us++ [u]) (rows++ [r]):=by
 have m:us.length=n:=by have:=h.own.1;omega
 refine⟨hown,λk y x l j=>?_,by rw[List.length_append,h.len];rfl⟩
 by_cases q:k<n
 ·rw[List.getElem?_append_left (by omega)]at l;rw[List.getElem?_append_left (by rw[h.len];exact q)]at j
  exact(h.el k y x l j).grown h.own hg
 have p:k=n:=by
  have:=(List.getElem?_eq_some_iff.1 j).1
  rw[List.length_append,h.len]at this;simp at this;omega
 subst p;rw[List.getElem?_append_right (by omega),m,Nat.sub_self]at l;rw[List.getElem?_append_right (by rw[h.len];exact Nl _),h.len,Nat.sub_self]at j;injection l with l;injection j with j;subst l j;exact hu.grown h.own hg
theorem Xm.get {n0 okb n k:Nat} {W:World} {v:Value} {us:List Value} {rows:List (List Nat)} (h:Xm n0 okb W v n us rows) (hk:k<n):∃ r A j g,rows[k]?=some r/\(∃c,v= .slice (some ⟨g,0,none⟩) n c)/\W.cell? ⟨g,k,none⟩=some (.slice A r.length j)/\ElM n0 okb W (.slice A r.length j) r:=by
 have E:us.length=n:=by have:=h.own.1;omega
 have F:rows[k]?=some (rows[k]'(by rw[h.len];exact hk)):=List.getElem?_eq_getElem _;have I:us[k]?=some (us[k]'(by omega)):=List.getElem?_eq_getElem _;have N:=h.el k _ _ I F;obtain⟨A,j,J,M⟩:=N
 rcases Jx h.own with⟨D,S⟩|⟨y,q,D,_⟩
 ·omega
 subst D;obtain⟨O,c',B,_,_,z⟩:=Rd.of_own h.own;injection B with B _ _;subst B;obtain⟨R,x,m,_,l,p⟩:=z.2 k hk;injection m with m;subst m
 have:(⟨y,0,none⟩:Addr).add k=⟨y,k,none⟩:=by unfold Addr.add;split<;>simp_all
 rw[this]at p;rw[I]at l;injection l with l;rw[<-l,J]at p
 exact⟨_,A,j,y,F,⟨q,rfl⟩,p,A,j,rfl,M⟩
theorem Acx:(Tryz.prog.info? 26).map (λi=>(i.zero,i.size,i.bytes))=some (some (.slice none 0 0),1,24):=by kernel_rfl
def Wy (B:Nat) (v:Cv):Prop:=∀ ad,v.outs.A=some ad∨v.bads.A=some ad∨v.cons.A=some ad->ad.block<B
theorem AaU {α:Type} (f:N3->α) {l:List N3} {k:Nat} {x:N3} (p:List α) (h:l[k]?=some x):p++(l.take (k+1)).map f=(p++(l.take k).map f)++ [f x]:=by
 rw[List.take_add_one,h,List.map_append,List.append_assoc];rfl
structure Tb (w:World) (n0 okb:Nat) (cs:Array Value) (W:World) (v:Value) (n:Nat) (rows:List (List Nat)):Prop where
 box:Blk W n0 31 cs
 all:∃ us,Xm n0 okb W v n us rows
 bel:Below n0 w W
theorem Xm.after {n0 okb n:Nat} {W W':World} {v:Value} {us:List Value} {rows:List (List Nat)} (h:Xm n0 okb W v n us rows) (hb:Below W.heap.size W W'):Xm n0 okb W' v n us rows:=by
 refine⟨Au h.own hb,λk u r a b=>?_,h.len⟩;obtain⟨A,m,p,h2,l⟩:=h.el k u r a b;refine⟨A,m,p,h2.below hb (Nl _),λj e=>⟨(l j e).1,?_⟩⟩
 rcases(l j e).2 with h4|⟨cs,h4⟩
 ·exact .inl h4
 exact .inr ⟨cs,h4.below hb h4.lt⟩
theorem Tb.after {w W W':World} {n0 okb n:Nat} {cs:Array Value} {v:Value} {rows:List (List Nat)} (h:Tb w n0 okb cs W v n rows) (hb:Below W.heap.size W W'):Tb w n0 okb cs W' v n rows:=by
 obtain⟨l,j⟩:=h.all
 exact⟨h.box.below hb h.box.lt,⟨l,j.after hb⟩,h.bel.trans (hb.mono (Nat.le_of_lt h.box.lt))⟩
theorem Tb.push {w W W':World} {n0 okb n b:Nat} {cs:Array Value} {v v':Value} {us:List Value} {rows:List (List Nat)} {r:List Nat} {o:Obj} (h:Tb w n0 okb cs W v n rows) (hA:Xm n0 okb W v n us rows) (hb:Blk W b 3 (nvs r).toArray) (hbo:b≠okb) (hown:W'.ownsRow n0 26 1 v' (n+1) (us++ [.slice (some ⟨b,0,none⟩) r.length r.length])) (hbl:Below n0 w W') (hg:(W.alloc o).grownBy W' v.ownBlock):Tb w n0 okb cs W' v' (n+1) (rows++ [r]):=
 ⟨(h.box.alloc o).grown hg (Ba hA.own h.box (by decide)),⟨_,hA.push (ElM.lit hb hbo) hown hg⟩,hbl⟩
structure Adn (f:FuncId) (p1 p2:Value) (okb:Nat) (c:Cir) (T:Nat->Bool) (St:World->Bool->Prop):Prop where
 calls:∀ W b x,x∈Ch c->St W b->Calls Tryz.prog f #[.int .i64 (x:Nat),p1,p2] W λe W'=>e= .returned (.bool (b&&T x))/\St W' (b&&T x)/\Fr (λq=>q=okb) W W'
 keep:∀ W W' b,St W b->Below W.heap.size W W'->St W' b
 ent:∀ args w,(callFunc f args).run Tryz.prog w= .ok (.enter f args) w
def Ahj (okb:Nat) (c:Cir) (T:Nat->Bool) (St:World->Bool->Prop) (b0:Bool) (w:World) (e:Ending) (w':World):Prop:=
 e= .returned (.tuple #[])/\St w' (b0&&(Ch c).all T)/\Fr (λq=>q=okb) w w'
theorem AkO {x:Bp} (hl:Mx x) {r:List Nat} (h:r∈Hb x.c):r.length<=16777216:=by
 unfold Hb at h
 rcases List.mem_append.1 h with h|h
 ·rcases List.mem_append.1 h with h|h
  ·simp at h
   rcases h with rfl|rfl|rfl
   ·exact hl.outs
   ·exact hl.bads
   exact hl.cons
  obtain⟨y,_,rfl⟩:=List.mem_map.1 h;simp
 obtain⟨y,_,rfl⟩:=List.mem_map.1 h;simp
theorem AkW {c:Cir} {k q:Nat} {r:List Nat} (h:(Hb c)[k]?=some r):∃ s,Ch c=(((Hb c).take k).flatten++r.take q)++s:=by
 refine⟨r.drop q++((Hb c).drop (k+1)).flatten,?_⟩;have m:=(List.getElem?_eq_some_iff.1 h);obtain⟨j,l⟩:=m;rw[<-Tv]
 conv=>lhs;rw[<-List.take_append_drop k (Hb c),List.flatten_append]
 rw[List.drop_eq_getElem_cons j,l,List.flatten_cons,List.append_assoc,<-List.append_assoc (r.take q),List.take_append_drop]
theorem AmL {l p s:List Nat} {T:Nat->Bool} {b0:Bool} (h:l=p++s) (hf:(b0&&p.all T)=false):(b0&&l.all T)=false:=by
 subst h;rw[List.all_append]
 cases b0 with
 |false=>rfl
 |true=>simp at hf ⊢;exact λh=>by obtain⟨y,j,h2⟩:=hf;rw[h y j]at h2;cases h2
theorem Aco (v:Cv) (x:Bp) (f:FuncId) (p1 p2:Value) (okb:Nat) (T:Nat->Bool) (St:World->Bool->Prop) (b0:Bool) (w:World) (hr:RdC w v x) (hl:Mx x) (hv:Wy okb v) (hok:okb<w.heap.size) (hY:Adn f p1 p2 okb x.c T St) (hS:St w b0):
  Calls Tryz.prog 51 #[.agg (Ae x.c.max v),.func (.func f) #[] #[p1,p2]] w (Ahj okb x.c T St b0 w):=by
 obtain⟨⟨A1,M1,C1⟩,⟨A2,B,C2⟩,⟨A3,M3,C3⟩,⟨A4,M4,C4⟩,⟨A5,M5,C5⟩,⟨A6,S,C6⟩,⟨A7,M7,C7⟩,bZ⟩:=v;obtain⟨Z,I⟩:∃ Z,Z=Ae x.c.max ⟨⟨A1,M1,C1⟩,⟨A2,B,C2⟩,⟨A3,M3,C3⟩,⟨A4,M4,C4⟩,⟨A5,M5,C5⟩,⟨A6,S,C6⟩,⟨A7,M7,C7⟩,bZ⟩:=⟨_,rfl⟩;rw[<-I];obtain⟨W1,aS,q0,bE⟩:=Bb w Z 31;replace aS:=Ab aS;have l2:=hl.lat;have l3:=hl.gat;have n2:B=x.c.lat.length:=hr.nLat;have n3:S=x.c.gat.length:=hr.nGat;have n4:M3=x.c.outs.length:=hr.nOuts;have n5:M4=x.c.bads.length:=hr.nBads;have n6:M5=x.c.cons.length:=hr.nCons
 have k2:Z[2]?=some (.slice A2 B C2):=by rw[I];rfl
 have k3:Z[3]?=some (.slice A3 M3 C3):=by rw[I];rfl
 have k4:Z[4]?=some (.slice A4 M4 C4):=by rw[I];rfl
 have k5:Z[5]?=some (.slice A5 M5 C5):=by rw[I];rfl
 have k6:Z[6]?=some (.slice A6 S C6):=by rw[I];rfl
 replace k2:=Ab k2;replace k6:=Ab k6;clear I;generalize J:w.heap.size=n0 at*;have bU:=hr.below bE (Nat.le_of_eq J)
 have cK:(B:Int)<=16777216:=by omega
 have cL:(S:Int)<=1000000:=by omega
 obtain⟨W2,aT,qa,aU⟩:=Bb W1 #[.slice A3 M3 C3,.slice A4 M4 C4,.slice A5 M5 C5] 26
 have aR:Hid (Tb w n0 okb Z W2 (.slice (some ⟨W1.heap.size,0,none⟩) 3 3) (3+0) ([x.c.outs,x.c.bads,x.c.cons]++(x.c.lat.take 0).map λy=>[y.b])):=by
  have O:=bU.below aU (Nl _);have hz:=q0.lt;refine Ab ⟨q0.below aU q0.lt,⟨[.slice A3 M3 C3,.slice A4 M4 C4,.slice A5 M5 C5],⟨rfl,.inr ⟨W1.heap.size,3,_,rfl,by omega,qa,Nl _,by unfold maxLen;omega,rfl,rfl⟩⟩,λk u r hu hq=>?_,rfl⟩,bE.trans (aU.mono (by omega))⟩;have aK:∀ X,A3=some X∨A4=some X∨A5=some X->X.block<okb:=hv
  match k with
  |0=>
   injection hu with hu;injection hq with hq;subst hu hq
   exact⟨A3,C3,by rw[n4],by have:=O.outs;rw[show({A:=A3,n:=M3,c:=C3}:Sl).n=x.c.outs.length from n4]at this;exact this,λX e=>by have:=aK X (.inl e);exact⟨by omega,.inl (by omega)⟩⟩
  |1=>
   injection hu with hu;injection hq with hq;subst hu hq
   exact⟨A4,C4,by rw[n5],by have:=O.bads;rw[show({A:=A4,n:=M4,c:=C4}:Sl).n=x.c.bads.length from n5]at this;exact this,λX e=>by have:=aK X (.inr (.inl e));exact⟨by omega,.inl (by omega)⟩⟩
  |2=>
   injection hu with hu;injection hq with hq;subst hu hq
   exact⟨A5,C5,by rw[n6],by have:=O.cons;rw[show({A:=A5,n:=M5,c:=C5}:Sl).n=x.c.cons.length from n6]at this;exact this,λX e=>by have:=aK X (.inr (.inr e));exact⟨by omega,.inl (by omega)⟩⟩
  |k+3=>simp at hu
 replace n2:=Ab n2;replace n3:=Ab n3;clear n4 n5 n6;replace aT:=Ab aT;have c3:=(q0.cell 3).trans k3;have c4:=(q0.cell 4).trans k4;have c5:=(q0.cell 5).trans k5
 go_enter Tryz.func51,Tryz.ntmps51
 go_upto_region 1 with fail
 rw[aS.o];clear aS
 go_upto_region 2 with fail
 rw[aT.o];clear aT c3 c4 c5 k3 k4 k5 bU aU qa q0 bE;have c2:=(aR.o.box.cell 2).trans k2.o;go_wp2;clear c2
 go_loopw [4,23] (λu i wr=>∃ k:Nat,i= .int .i64 k/\k<=B/\Hid (Tb w n0 okb Z wr u (3+k) ([x.c.outs,x.c.bads,x.c.cons]++(x.c.lat.take k).map λy=>[y.b]))) (λ_ i _=>B-(intOf i).toNat)
 case atStart=>exact⟨0,rfl,Nat.zero_le _,aR⟩
 case round=>
  obtain⟨k,rfl,hk,z⟩:=hrel;obtain⟨us,U⟩:=z.o.all;obtain⟨s2,rfl,aN⟩:=Be U.own
  by_cases D:k<B
  ·have E:(k:Int)<B:=by omega
   have O:=hr.below z.o.bel (Nat.le_of_eq J);obtain⟨X,y,aB,hy,g0,g1,g2⟩:=Ce (show RdT wr A2 B (x.c.lat.map t3) from O.lat) D;subst aB;have l:=Ab (AaU (λy=>[y.b]) [x.c.outs,x.c.bads,x.c.cons] hy);obtain⟨W5,h,b5,j⟩:=Bb wr #[.int .i64 (y.a:Nat),.int .i64 (y.b:Nat),.int .i64 (y.c:Nat)] 59;obtain⟨W6,F,b6,m⟩:=Bb W5 #[.int .i64 (y.b:Nat)] 3
   have aO:W6.heap.size=W5.heap.size+1:=by rw[<-F];simp
   have bX:=j.size;have bS:=z.o.box.lt;have aC:=Ab ((z.o.after j).after m);have aA:=(U.after j).after m
   have aH:W5.heap.size≠okb:=by omega
   have u1:=b5.cell 1;have bA:=Ab (show 3+k+1<=maxLen by unfold maxLen;omega);have bH:=Ab (show(3+k+1)*24<=140737488355328 by omega);replace h:=Ab h;have aF:Hid (∀ob,(W5.alloc (.cells #[.int .i64 (y.b:Nat)] 3)).alloc ob=W6.alloc ob):=Ab (λob=>by rw[F]);clear F;replace hy:=Ab hy;clear j m U
   go_upto_region 5 with fail
   rw[h.o];clear h g0 g1 g2
   go_wp2_with (at_builtin;rw[aF.o,<-aO];refine Ah rfl _ _ _ rfl Tryz.underlying91 Acx rfl (by decide) rfl (by first|rfl|simp[go_sem]) aA.own aC.o.bel (Nat.le_of_eq J.symm) (by rfl) (by simp[Value.oneCell']) bA.o bH.o ?_;intro v9 w9 M bF bL)
   have aD:=Ab (aC.o.push (r:=[y.b]) aA b6 aH M bF bL);rw[<-l.o]at aD;go_roundw
   case rel=>exact⟨k+1,by go_num,D,aD⟩
   case measure=>simp[intOf];omega
  obtain rfl:B=k:=by omega
  have E:¬ (B:Int)<B:=by omega
  have l:x.c.lat.take B=x.c.lat:=List.take_of_length_le (by have:=n2.o;omega);rw[l]at z;have aR:Hid (Tb w n0 okb Z wr (sv s2) (3+B+0) ([x.c.outs,x.c.bads,x.c.cons]++(x.c.lat.map λy=>[y.b])++(x.c.gat.take 0).map λy=>[y.b,y.c])):=Ab (by simpa using z.o);have c6:=(z.o.box.cell 6).trans k6.o;clear z l aN U;go_wp2;clear c6
  go_loopw [4,37] (λu i wr=>∃ k:Nat,i= .int .i64 k/\k<=S/\Hid (Tb w n0 okb Z wr u (3+B+k) ([x.c.outs,x.c.bads,x.c.cons]++(x.c.lat.map λy=>[y.b])++(x.c.gat.take k).map λy=>[y.b,y.c]))) (λ_ i _=>S-(intOf i).toNat)
  case atStart=>exact⟨0,rfl,Nat.zero_le _,aR⟩
  case round=>
   obtain⟨k,rfl,hk,z⟩:=hrel;obtain⟨us,U⟩:=z.o.all;obtain⟨s2,rfl,aN⟩:=Be U.own
   by_cases D:k<S
   ·have E:(k:Int)<S:=by omega
    have O:=hr.below z.o.bel (Nat.le_of_eq J);obtain⟨X,y,aB,hy,g0,g1,g2⟩:=Ce (show RdT wr A6 S (x.c.gat.map t3) from O.gat) D;subst aB;have l:=Ab (AaU (λy=>[y.b,y.c]) ([x.c.outs,x.c.bads,x.c.cons]++(x.c.lat.map λy=>[y.b])) hy);obtain⟨W5,h,b5,j⟩:=Bb wr #[.int .i64 (y.a:Nat),.int .i64 (y.b:Nat),.int .i64 (y.c:Nat)] 62;obtain⟨W6,F,b6,m⟩:=Bb W5 #[.int .i64 (y.b:Nat),.int .i64 (y.c:Nat)] 3
    have aO:W6.heap.size=W5.heap.size+1:=by rw[<-F];simp
    have bX:=j.size;have bS:=z.o.box.lt;have aC:=Ab ((z.o.after j).after m);have aA:=(U.after j).after m
    have aH:W5.heap.size≠okb:=by omega
    have u1:=b5.cell 1;have u2:=b5.cell 2;have bA:=Ab (show 3+B+k+1<=maxLen by have:=n2.o;unfold maxLen;omega);have bH:=Ab (show(3+B+k+1)*24<=140737488355328 by have:=n2.o;omega);replace h:=Ab h;have aF:Hid (∀ob,(W5.alloc (.cells #[.int .i64 (y.b:Nat),.int .i64 (y.c:Nat)] 3)).alloc ob=W6.alloc ob):=Ab (λob=>by rw[F]);clear F;replace hy:=Ab hy;clear j m U
    go_upto_region 10 with fail
    rw[h.o];clear h g0 g1 g2
    go_wp2_with (at_builtin;rw[aF.o,<-aO];refine Ah rfl _ _ _ rfl Tryz.underlying91 Acx rfl (by decide) rfl (by first|rfl|simp[go_sem]) aA.own aC.o.bel (Nat.le_of_eq J.symm) (by rfl) (by simp[Value.oneCell']) bA.o bH.o ?_;intro v9 w9 M bF bL)
    have aD:=Ab (aC.o.push (r:=[y.b,y.c]) aA b6 aH M bF bL);rw[<-l.o]at aD;go_roundw
    case rel=>exact⟨k+1,by go_num,D,aD⟩
    case measure=>simp[intOf];omega
   obtain rfl:S=k:=by omega
   have E:¬ (S:Int)<S:=by omega
   have l:x.c.gat.take S=x.c.gat:=List.take_of_length_le (by have:=n3.o;omega);rw[l]at z;have hL:([x.c.outs,x.c.bads,x.c.cons]++(x.c.lat.map λy=>[y.b])++x.c.gat.map λy=>[y.b,y.c])=Hb x.c:=rfl;rw[hL]at z;have bQ:=hY.keep w wr b0 hS (by rw[J];exact z.o.bel);have bJ:Fr (λq=>q=okb) w wr:=Fr.of_below (by rw[J];exact z.o.bel);obtain⟨us,U⟩:=z.o.all;obtain⟨N,hN⟩:∃ N,N=3+B+S:=⟨_,rfl⟩;rw[<-hN]at U aN
   have cG:(N:Int)<=17777219:=by have:=n2.o;have:=n3.o;omega
   have cJ:(Hb x.c).length=N:=U.len;obtain⟨⟨A9,L9,C9⟩,cE,bN⟩:∃ s:Sl,s2=s/\s.n=N:=⟨_,rfl,aN⟩;subst cE;replace bN:L9=N:=bN;subst bN;dsimp only[sv]at U ⊢;obtain⟨wa,aW⟩:∃ wa,wa=wr:=⟨_,rfl⟩;have p:Hid (St wr (b0&&((Hb x.c).take 0).flatten.all T)/\Fr (λq=>q=okb) wa wr):=Ab ⟨by simpa using bQ,by rw[aW];exact Fr.refl _ _⟩;rw[<-aW]at U bJ;replace aW:=Ab aW;replace hN:=Ab hN;clear z l hL aN bQ;go_wp2
   go_loopw [52] (λi wr=>∃ k:Nat,i= .int .i64 k/\k<=L9/\Hid (St wr (b0&&((Hb x.c).take k).flatten.all T)/\Fr (λq=>q=okb) wa wr)) (λi _=>L9-(intOf i).toNat)
   case atStart=>exact⟨0,rfl,Nat.zero_le _,p⟩
   case round=>
    obtain⟨k,rfl,hk,p⟩:=hrel
    by_cases D:k<L9
    ·have E:(k:Int)<L9:=by omega
     obtain⟨r,Ar,Cr,g,Y,⟨c9,cA⟩,aI,bI⟩:=(U.fr p.o.2 hok).get D;injection cA with e1 _ e2;subst e1 e2
     have l:((Hb x.c).take (k+1)).flatten=((Hb x.c).take k).flatten++r:=by rw[List.take_add_one,Y];simp
     have bW:∀ y∈r,y∈Ch x.c:=λy hy=>by rw[<-Tv,List.mem_flatten];exact⟨r,List.mem_of_getElem? Y,hy⟩
     have cC:=AkO hl (List.mem_of_getElem? Y);obtain⟨R,hR⟩:∃ R,R=r.length:=⟨_,rfl⟩;rw[<-hR]at aI bI
     have cH:(R:Int)<=16777216:=by omega
     have bB:Hid (St wr (b0&&(((Hb x.c).take k).flatten++r.take 0).all T)/\Fr (λq=>q=okb) wa wr):=Ab (by simpa using p.o);obtain⟨wb,aQ⟩:∃ wb,wb=wr:=⟨_,rfl⟩;have aX:=bI;rw[<-aQ]at aX;have bK:=p.o.2;rw[<-aQ]at bK
     have aY:Fr (λq=>q=okb) wb wr:=by rw[aQ];exact Fr.refl _ _
     have bB:Hid (St wr (b0&&(((Hb x.c).take k).flatten++r.take 0).all T)/\Fr (λq=>q=okb) wb wr):=Ab ⟨bB.o.1,aY⟩;replace hR:=Ab hR;replace aQ:=Ab aQ;replace l:=Ab l;replace Y:=Ab Y;clear p bI aY;go_wp2;clear aI
     go_loopw [58] (λi wr=>∃ q:Nat,i= .int .i64 q/\q<=R/\Hid (St wr (b0&&(((Hb x.c).take k).flatten++r.take q).all T)/\Fr (λq=>q=okb) wb wr)) (λi _=>R-(intOf i).toNat)
     case atStart=>exact⟨0,rfl,Nat.zero_le _,bB⟩
     case round=>
      obtain⟨q,rfl,hq,p⟩:=hrel
      by_cases aZ:q<R
      ·have cB:(q:Int)<R:=by omega
       obtain⟨A',c',bP,bM,_⟩:=aX.fr p.o.2;injection bP with bP hv2 hv3;subst bP;clear hv2 hv3;rw[<-hR.o]at bM;obtain⟨X,y,aB,_,hy,cy⟩:=bM.get (f:=λn:Nat=>Value.int .i64 n) aZ;subst aB
       have bO:r.take (q+1)=r.take q++ [y]:=by rw[List.take_add_one,hy];rfl
       have bT:y∈Ch x.c:=bW y (List.mem_of_getElem? hy);obtain⟨bb,bG⟩:∃ bb,(b0&&(((Hb x.c).take k).flatten++r.take q).all T)=bb:=⟨_,rfl⟩;have bD:=p.o.1;rw[bG]at bD;have hC:=Ab (hY.calls wr bb y bT bD)
       have aL:(b0&&(((Hb x.c).take k).flatten++r.take (q+1)).all T)=(bb&&T y):=by
        rw[bO,<-bG,<-List.append_assoc,List.all_append];simp[Bool.and_assoc]
       obtain⟨tb,bY⟩:∃ tb,(bb&&T y)=tb:=⟨_,rfl⟩;rw[bY]at hC aL;have aV:=p.o.2;replace aL:=Ab aL;replace aV:=Ab aV;clear bD bG bY p bM;replace bO:=Ab bO;replace hy:=Ab hy;have cF:=hY.ent
       cases tb with
       |false=>
        obtain⟨su,bV⟩:=AkW (q:=q+1) Y.o;have bR:=Ab (AmL bV aL.o);clear bV
        go_wp2_with fail
        refine hC.o.mono ?_;rintro e w9 ⟨rfl,aE,aJ⟩;have aM:Hid (Ahj okb x.c T St b0 w (.returned (.tuple #[])) w9):=Ab ⟨rfl,by rw[bR.o];exact aE,(bJ.trans (bK.trans (aV.o.trans aJ)))⟩;clear hC cy aE aJ;go_wp2;refine bodyPost_ret (results_none rfl _ _ _) rfl ?_;exact aM.o
       |true=>
        go_wp2_with fail
        refine hC.o.mono ?_;rintro e w9 ⟨rfl,aE,aJ⟩;have bC:Hid (St w9 (b0&&(((Hb x.c).take k).flatten++r.take (q+1)).all T)/\Fr (λq=>q=okb) wb w9):=Ab ⟨by rw[aL.o];exact aE,aV.o.trans aJ⟩;clear hC cy aE aJ;go_wp2;go_roundw
        case rel=>exact⟨q+1,by go_num,aZ,bC⟩
        case measure=>simp[intOf];omega
      obtain rfl:R=q:=by omega
      have cB:¬ (R:Int)<R:=by omega
      have aP:r.take R=r:=List.take_of_length_le (by rw[hR.o];exact Nl _);rw[aP,<-l.o]at p;have bC:Hid (St wr (b0&&((Hb x.c).take (k+1)).flatten.all T)/\Fr (λq=>q=okb) wa wr):=Ab ⟨p.o.1,bK.trans p.o.2⟩;clear p aP;go_wp2;go_roundw
      case rel=>exact⟨k+1,by go_num,D,bC⟩
      case measure=>simp[intOf];omega
    obtain rfl:L9=k:=by omega
    have E:¬ (L9:Int)<L9:=by omega
    have aP:(Hb x.c).take L9=Hb x.c:=List.take_of_length_le (by omega);rw[aP,Tv]at p;have aM:Hid (Ahj okb x.c T St b0 w (.returned (.tuple #[])) wr):=Ab ⟨rfl,p.o.1,bJ.trans p.o.2⟩;clear p aP;go_wp2;refine bodyPost_end (results_none rfl _ _ _) rfl ?_;exact aM.o
end Go.Proofs.YtmidbhnhcbpneaaGreatDoor.Top
end
section
namespace Go.Lt
open Go.RowKit
theorem Fc {P:Program} {ops:Array Oper} {Q:Exit->Act->World->Prop} {a:Act} {w:World} {rest:List Oper} {d:Option Tmp} {op:Op} {ty:TypeId} {pos:String} {af:Array Edge} {gd:Option (Nat×Bool)}
  (hw:Region.wanted ⟨d,op,ty,pos,af,gd⟩ (yielded ops a.tmps)=true) (h:wpList P ops Q (⟨d,op,ty,pos,af,none⟩::rest) a w):wpList P ops Q (⟨d,op,ty,pos,af,gd⟩::rest) a w:=by
 unfold wpList at h ⊢;rw[if_pos hw];rw[if_pos (by simp[Region.wanted])]at h;exact h
end Go.Lt
namespace Go.Proofs.YtmidbhnhcbpneaaGreatDoor.Top
open Go Go.RowKit Go.Lt Go.Proofs.YtmidbhnhcbpneaaGreatDoor.Lit Go.Proofs.YtmidbhnhcbpneaaGreatDoor.Dec
open Go.Proofs.YtmidbhnhcbpneaaGreatDoor.Circ (T3 enc3 RdT Sl Cv Ae)
theorem AfF:Tryz.prog.underlying 117=some (.map 3 4):=by kernel_rfl
def ApK (okb:Nat) (b:Bool) (W:World) (e:Ending) (W':World):Prop:=e= .returned (.bool b)/\W'=W.setCell ⟨okb,0,none⟩ (.bool b)
theorem AjC (okb n0 x m:Nat) (b:Bool) (cs:Array Value) (W:World) (hok:Blk W okb 4 #[.bool b]) (hc:Blk W n0 31 cs) (k0:cs[0]?=some (.int .i64 (m:Nat))) (hx:x<=40000000) (hm:m<=16777216):
  Calls Tryz.prog 52 #[.int .i64 (x:Nat),.pointer (some ⟨okb,0,none⟩),.pointer (some ⟨n0,0,none⟩)] W (ApK okb (b&&decide (x<=2*m+1)) W):=by
 have q:=hok.cell 0;have y:=hok.frozen 0;have r:=(hc.cell 0).trans k0
 have B:(x:Int)<=40000000:=by omega
 have h:(m:Int)<=16777216:=by omega
 have z:(x:Int)≥0:=by omega
 obtain⟨p,j⟩:∃ p,p=W.setCell ⟨okb,0,none⟩ (.bool (b&&decide (x<=2*m+1))):=⟨_,rfl⟩
 have D:p.cell? ⟨okb,0,none⟩=some (.bool (b&&decide (x<=2*m+1))):=by
  subst j
  exact(hok.set_ 0 _).cell 0
 clear hok hc;replace j:=Ab j
 cases b with
 |false=>
  rw[Bool.false_and]at*
  go_enter Tryz.func52,Tryz.ntmps52
  go_upto_region 2 with fail
  rw[<-j.o];clear q y r;go_wp2;go_ret
  exact⟨rfl,j.o⟩
 |true=>
  rw[Bool.true_and]at*
  by_cases hle:x<=2*m+1
  ·have l:(x:Int)<=2*(m:Int)+1:=by omega
   rw[decide_eq_true hle]at*
   go_enter Tryz.func52,Tryz.ntmps52
   go_upto_region 2 with fail
   rw[<-j.o];clear q y r;go_wp2;go_ret
   exact⟨rfl,j.o⟩
  have l:¬ (x:Int)<=2*(m:Int)+1:=by omega
  rw[decide_eq_false hle]at*
  go_enter Tryz.func52,Tryz.ntmps52
  go_upto_region 2 with fail
  rw[<-j.o];clear q y r;go_wp2;go_ret
  exact⟨rfl,j.o⟩
theorem AjI (okb hb mb x:Nat) (b t:Bool) (ml:List (Int×Value)) (W:World) (hok:Blk W okb 4 #[.bool b]) (hc:Blk W hb 117 #[.map (some mb)]) (hm:Ds W encI mb ml) (ht:(mget ml ((x/2:Nat):Int)).getD (.bool false)= .bool t) (hx:x<=40000000):
  Calls Tryz.prog 53 #[.int .i64 (x:Nat),.pointer (some ⟨okb,0,none⟩),.pointer (some ⟨hb,0,none⟩)] W (ApK okb (b&&t) W):=by
 have m:=hok.cell 0;have q:=hok.frozen 0;have p:=hc.cell 0;obtain⟨y,hy⟩:∃ y,y=x/2:=⟨_,rfl⟩;have r:=Zu x y hy;rw[<-hy]at ht
 have z:(x:Int)<=40000000:=by omega
 have h:(y:Int)<=40000000:=by omega
 obtain⟨l,j⟩:∃ l,l=W.setCell ⟨okb,0,none⟩ (.bool (b&&t)):=⟨_,rfl⟩
 have B:l.cell? ⟨okb,0,none⟩=some (.bool (b&&t)):=by
  subst j
  exact(hok.set_ 0 _).cell 0
 clear hok hc;replace j:=Ab j;replace hy:=Ab hy
 cases b with
 |false=>
  rw[Bool.false_and]at*
  go_enter Tryz.func53,Tryz.ntmps53
  go_upto_region 2 with fail
  rw[<-j.o];clear m q p;go_wp2;go_ret
  exact⟨rfl,j.o⟩
 |true=>
  rw[Bool.true_and]at*
  go_enter Tryz.func53,Tryz.ntmps53
  go_upto_region 2 with(at_lookup;refine Fc (by rfl) ?_;refine Gt (Ha Tryz.underlying3) AfF So rfl _ _ rfl hm.toO (y:Int) (by rfl) (by rfl) ?_;rw[ht])
  rw[<-j.o];clear m q p;go_wp2;go_ret
  exact⟨rfl,j.o⟩
theorem AjV (args:Array Value) (w:World):(callFunc 52 args).run Tryz.prog w= .ok (.enter 52 args) w:=by
 simp[callFunc,go_sem,Tryz.func52,Tryz.f52]
theorem Ajd (args:Array Value) (w:World):(callFunc 53 args).run Tryz.prog w= .ok (.enter 53 args) w:=by
 simp[callFunc,go_sem,Tryz.func53,Tryz.f53]
end Go.Proofs.YtmidbhnhcbpneaaGreatDoor.Top
end
section
namespace Go.Proofs.YtmidbhnhcbpneaaGreatDoor.Top
open Go Go.RowKit Go.Lt YtmidbhnhcbpneaaGreatDoor.Lit YtmidbhnhcbpneaaGreatDoor.Dec
open YtmidbhnhcbpneaaGreatDoor.Circ (T3 enc3 RdT Sl Cv Ae)
def Sq (m x:Nat):Bool:=decide (1<x)&&(decide (x%2=0)&&decide (x<=2*m))
def Tg (x:N3):Bool:=decide (x.c=0)||(decide (x.c=1)||decide (x.c=x.a))
def Aej (m x:Nat):Bool:=decide (x<=2*m+1)
def Ajn (l:List Nat) (x:Nat):Bool:=decide (x/2=0∨x/2∈halves l)
theorem AcG (c:Cir):Py c↔((true&&(Dd c).all (Sq c.max))&&c.lat.all Tg&&(Ch c).all (Aej c.max))=true:=by
 rw[Bool.true_and,Bool.and_eq_true,Bool.and_eq_true,List.all_eq_true,List.all_eq_true,List.all_eq_true];constructor
 ·intro h;refine⟨⟨λx j=>?_,λx j=>?_⟩,λx j=>?_⟩
  ·have:=h.own x j
   unfold Abt at this;simp[Sq,this]
  ·have:=h.res x j
   unfold AmI at this;simp[Tg]
   rcases this with h|h|h<;>simp[h]
  have:=h.used x j
  simpa[Aej] using this
 rintro⟨⟨h1,h2⟩,h3⟩;refine⟨λx j=>?_,λx j=>?_,λx j=>?_⟩
 ·have:=h1 x j
  unfold Abt
  simpa[Sq] using this
 ·have:=h2 x j
  unfold AmI
  simpa[Tg] using this
 have:=h3 x j
 simpa[Aej] using this
theorem Vl (c:Cir):Ag c↔c.max<=16777216/\((true&&(Dd c).all (Sq c.max))&&c.lat.all Tg&&(Ch c).all (Aej c.max))=true/\(halves (Dd c)).Nodup/\(Ch c).all (Ajn (Dd c))=true/\(Aw c.gat).length=c.gat.length:=by
 rw[Afa,AcG,List.all_eq_true];constructor
 ·rintro⟨h1,h2,h3,h4,h5⟩
  exact⟨h1,h2,h3,λx j=>decide_eq_true (h4 x j),h5⟩
 rintro⟨h1,h2,h3,h4,h5⟩
 exact⟨h1,h2,h3,λx j=>of_decide_eq_true (h4 x j),h5⟩
structure Xz (c:Cir):Prop where
 max:c.max<=16777216
 own:∀ x∈Dd c,x<=40000000
 used:∀ x∈Ch c,x<=40000000
 res:∀ x∈c.lat,x.c<=40000000
theorem Xz.gat {c:Cir} (h:Xz c):AkF c.gat:=λx j=>⟨h.own _ (Nf j),h.used _ (Bg j).1,h.used _ (Bg j).2⟩
theorem Abz {α:Type} {l:List α} {k:Nat} {x:α} (T:α->Bool) (h:l[k]?=some x):(l.take (k+1)).all T=((l.take k).all T&&T x):=by
 rw[List.take_add_one,h,List.all_append];simp
structure Nz (w:World) (n0 okb:Nat) (cs:Array Value) (so:Sl) (l:List Nat) (W:World) (b:Bool):Prop where
 box:Blk W n0 31 cs
 own:W.ownsRow n0 3 1 (sv so) l.length (nvs l)
 ok:Blk W okb 4 #[.bool b]
 bel:Below n0 w W
 lo:n0<okb
section
variable {w W W':World} {n0 okb:Nat} {cs:Array Value} {so:Sl} {l:List Nat} {b b':Bool}
theorem Nz.after (h:Nz w n0 okb cs so l W b) (hb:Below W.heap.size W W'):Nz w n0 okb cs so l W' b:=
 ⟨h.box.below hb h.box.lt,Au h.own hb,h.ok.below hb h.ok.lt,h.bel.trans (hb.mono (Nat.le_of_lt h.box.lt)),h.lo⟩
theorem Nz.fr (h:Nz w n0 okb cs so l W b) (hf:Fr (λq=>q=okb) W W') (hok:Blk W' okb 4 #[.bool b']) (hw:w.heap.size<=n0):Nz w n0 okb cs so l W' b':=
 ⟨hf.blk h.box (by have:=h.lo;omega),hf.own h.own (λg j e=>Ba h.own h.ok (by decide) (by rw[j,e])),hok,h.bel.trans (hf.below (Nat.le_of_lt h.box.lt) (λq e=>by have:=h.lo;omega)),h.lo⟩
theorem Nz.set (h:Nz w n0 okb cs so l W b) (hw:w.heap.size<=n0):Nz w n0 okb cs so l (W.setCell ⟨okb,0,none⟩ (.bool b')) b':=
 h.fr ((Fr.refl (λq=>q=okb) W).set (p:=⟨okb,0,none⟩) rfl _) (h.ok.set_ 0 _) hw
theorem Nz.cell {k:Nat} (h:Nz w n0 okb cs so l W b) (hk:k<l.length) (j:so.n=l.length):∃ g x,so.A=some ⟨g,0,none⟩/\l[k]?=some x/\W.cell? ⟨g,k,none⟩=some (.int .i64 (x:Nat)):=by
 have q:=h.own;obtain⟨A,n,c⟩:=so;replace j:n=l.length:=j;subst j;obtain⟨g,m,x,h2,p⟩:=Jp q hk
 exact⟨g,x,m,h2,p⟩
end
structure Aca (w:World) (n0 okb hb mb:Nat) (cs:Array Value) (so:Sl) (l:List Nat) (W:World) (b:Bool) (ml:List (Int×Value)) (k:Nat):Prop where
 m:Nz w n0 okb cs so l W b
 hc:Blk W hb 117 #[.map (some mb)]
 map:Ds W encI mb ml
 is:∀ v:Nat,(mget ml (v:Int)).getD (.bool false)= .bool (decide (v=0∨v∈(halves l).take k))
 nod:((halves l).take k).Nodup
 lo:n0<mb/\n0<hb/\hb≠okb
section
variable {w W W':World} {n0 okb hb mb k:Nat} {cs:Array Value} {so:Sl} {l:List Nat} {b b':Bool} {ml:List (Int×Value)}
theorem Aca.after (h:Aca w n0 okb hb mb cs so l W b ml k) (hbl:Below W.heap.size W W'):Aca w n0 okb hb mb cs so l W' b ml k:=
 ⟨h.m.after hbl,h.hc.below hbl h.hc.lt,h.map.below hbl h.map.lt,h.is,h.nod,h.lo⟩
theorem Aca.put {x y:Nat} (h:Aca w n0 okb hb mb cs so l W b ml k) (hx:l[k]?=some x) (hy:y=x/2) (hn:¬ (y=0∨y∈(halves l).take k)) (hm:Ds W' encI mb (mput ml (y:Int) (.bool true))) (r:W.grownBy W' (some mb)) (hw:w.heap.size<=n0):
  Aca w n0 okb hb mb cs so l W' b (mput ml (y:Int) (.bool true)) (k+1):=by
 have j:Fr (λq=>q=mb) W W':=Fr.of_grown r (λq e=> .inl (Option.some.inj e).symm);obtain⟨E,F,I⟩:=h.lo;have z:=h.m.lo
 have p:(halves l).take (k+1)=(halves l).take k++ [y]:=by
  rw[List.take_add_one];unfold halves;rw[List.getElem?_map,hx,hy];rfl
 refine⟨⟨j.blk h.m.box (by omega),j.own h.m.own (λg r e=>h.map.own_ne h.m.own (by rw[r,e])),j.blk h.m.ok (λe=>Gx h.map h.m.ok e.symm),h.m.bel.trans (j.below (Nat.le_of_lt h.m.box.lt) (λq e=>by omega)),z⟩,j.blk h.hc (λe=>Gx h.map h.hc e.symm),hm,λv=>?_,?_,h.lo⟩
 ·rw[Xb,p]
  by_cases e:y=v
  ·subst e;rw[if_pos rfl]
   simp
  rw[if_neg (by omega),h.is v]
  congr 1
  rw[Bool.eq_iff_iff,decide_eq_true_iff,decide_eq_true_iff,List.mem_append,List.mem_singleton];constructor
  ·rintro(h|h)
   ·exact .inl h
   exact .inr (.inl h)
  rintro(h|h|h)
  ·exact .inl h
  ·exact .inr h
  exact absurd h.symm e
 rw[p,List.nodup_append];refine⟨h.nod,by simp,λa D c B=>?_⟩;rw[List.mem_singleton]at B;subst B;rintro rfl;exact hn (.inr D)
theorem Aca.twice {x y:Nat} (h:Aca w n0 okb hb mb cs so l W b ml k) (hx:l[k]?=some x) (hy:y=x/2) (h1:1<x) (j:y=0∨y∈(halves l).take k):¬ (halves l).Nodup:=by
 intro m
 rcases j with j|j
 ·omega
 have p:(halves l).take (k+1)=(halves l).take k++ [y]:=by
  rw[List.take_add_one];unfold halves;rw[List.getElem?_map,hx,hy];rfl
 have h2:=m.sublist (List.take_sublist (k+1) _);rw[p,List.nodup_append]at h2;exact h2.2.2 y j y (List.mem_singleton.2 rfl) rfl
end
def Add (c:Cir) (w:World) (e:Ending) (w':World):Prop:=∃ r:Int,e= .returned (.int .i64 r)/\(r=0↔Ag c)/\Below w.heap.size w w'
theorem Mn (v:Cv) (x:Bp) (w:World) (hr:RdC w v x) (hl:Mx x) (hv:Wy w.heap.size v) (hN:Xz x.c):
  Calls Tryz.prog 17 #[.agg (Ae x.c.max v)] w (Add x.c w):=by
 obtain⟨⟨A1,M1,C1⟩,⟨A2,R,C2⟩,⟨A3,M3,C3⟩,⟨A4,M4,C4⟩,⟨A5,M5,C5⟩,⟨A6,M6,C6⟩,⟨A7,M7,C7⟩,Z⟩:=v;obtain⟨m,hm⟩:∃ m,m=x.c.max:=⟨_,rfl⟩;obtain⟨W1,bK,q0,cF⟩:=Bb w #[.int .i64 (m:Nat),.slice A1 M1 C1,.slice A2 R C2,.slice A3 M3 C3,.slice A4 M4 C4,.slice A5 M5 C5,.slice A6 M6 C6,.slice A7 M7 C7,.string Z] 31;obtain⟨cs,cJ⟩:∃ cs:Array Value,cs= #[.int .i64 (m:Nat),.slice A1 M1 C1,.slice A2 R C2,.slice A3 M3 C3,.slice A4 M4 C4,.slice A5 M5 C5,.slice A6 M6 C6,.slice A7 M7 C7,.string Z]:=⟨_,rfl⟩;rw[<-cJ]at q0;obtain⟨aI,bC,aQ,bD,bE,bF,bG,bH,bI⟩:=c9k cJ;clear cJ
 have dB:m<=16777216:=by rw[hm];exact hN.max
 have eE:(m:Int)<=16777216:=by omega
 have i1:¬ (m:Int)<0:=by omega
 have i2:¬ (m:Int)>16777216:=by omega
 have n2:R=x.c.lat.length:=hr.nLat;have n6:M6=x.c.gat.length:=hr.nGat;have l2:=hl.lat;have l6:=hl.gat
 have dZ:(R:Int)<=16777216:=by omega
 have eA:(M6:Int)<=1000000:=by omega
 replace n2:=Ab n2;replace n6:=Ab n6;replace bK:=Ab bK;have dC:=hr.below cF (Nl _);have HD:=Ab (Aeg ⟨⟨A1,M1,C1⟩,⟨A2,R,C2⟩,⟨A3,M3,C3⟩,⟨A4,M4,C4⟩,⟨A5,M5,C5⟩,⟨A6,M6,C6⟩,⟨A7,M7,C7⟩,Z⟩ x W1 dC hl);rw[<-hm]at HD ⊢;simp only[Ae]at HD ⊢;replace hm:=Ab hm;obtain⟨L,hL⟩:∃ L,L=Dd x.c:=⟨_,rfl⟩
 have eC:L.length<=34554432:=by
  rw[hL];unfold Dd
  have:=hl.ins
  simp
  omega
 generalize O:w.heap.size=J at*;obtain⟨c0,c1,c2,c3,c4,c5,c6,c7,c8⟩:=c9t q0 aI.o bC.o aQ.o bD.o bE.o bF.o bG.o bH.o bI.o
 go_enter Tryz.func17,Tryz.ntmps17
 go_upto_region 1 with fail
 rw[bK.o];clear bK
 go_wp2_with fail
 refine HD.o.mono ?_;rintro e w2 ⟨so,rfl,bR,bA,aW⟩;rw[<-hL]at bR bA;replace hL:=Ab hL;clear HD c0 c1 c2 c3 c4 c5 c6 c7 c8 i1 i2;obtain⟨W3,bL,b3,bN⟩:=Bb w2 #[.bool true] 4
 have dJ:Hid (Nz w J w2.heap.size cs so L W3 (true&&(L.take 0).all (Sq m))):=by
  have h1:Below J w w2:=cF.trans (aW.mono (Nat.le_of_lt q0.lt));have hz:=aW.size;have hq:=q0.lt;exact Ab ⟨(q0.below aW q0.lt).below bN (Nat.lt_of_lt_of_le q0.lt aW.size),Au (Az bA (Nat.le_of_lt q0.lt)) bN,b3,h1.trans (bN.mono (by omega)),by omega⟩
 replace bL:=Ab bL;clear bA aW b3 bN q0 cF dC;obtain⟨⟨Ao,Lo,Co⟩,dD⟩:∃ s:Sl,so=s:=⟨_,rfl⟩;subst dD;replace bR:Lo=L.length:=bR;subst bR;dsimp only[sv]
 go_upto_region 4 with fail
 rw[bL.o];clear bL;generalize w2.heap.size=j at*
 have eB:(L.length:Int)<=34554432:=by omega
 go_wp2
 go_loopw [24] (λi wr=>∃ k:Nat,i= .int .i64 k/\k<=L.length/\Hid (Nz w J j cs ⟨Ao,L.length,Co⟩ L wr (true&&(L.take k).all (Sq m)))) (λi _=>L.length-(intOf i).toNat)
 case atStart=>exact⟨0,rfl,Nat.zero_le _,dJ⟩
 case round=>
  obtain⟨k,rfl,hk,M⟩:=hrel
  by_cases D:k<L.length
  ·have aC:(k:Int)<L.length:=by omega
   obtain⟨g,y,hA,hy,cy⟩:=M.o.cell D rfl;replace hA:Ao=some ⟨g,0,none⟩:=hA;subst hA;have dV:y<=40000000:=hN.own y (by rw[<-hL.o];exact List.mem_of_getElem? hy)
   have dU:(y:Int)<=40000000:=by omega
   have aF:=Abz (Sq m) hy;have bV:=Go.Proofs.YtmidbhnhcbpneaaGreatDoor.Lit.and_one (y:Int) (by omega) (by omega);obtain⟨z,hz⟩:∃ z,z=y%2:=⟨_,rfl⟩
   have dL:bits .and .i64 (y:Int) 1=(z:Int):=by rw[bV,hz];omega
   clear bV;obtain⟨b,hb⟩:∃ b,(L.take k).all (Sq m)=b:=⟨_,rfl⟩;rw[Bool.true_and,hb]at M;rw[hb]at aF;have d0:=(M.o.box.cell 0).trans aI.o;have d3:=M.o.ok.cell 0;have z3:=M.o.ok.frozen 0;obtain⟨U,B⟩:∃ U,(b&&Sq m y)=U:=⟨_,rfl⟩;have E:=Ab (M.o.set (b':=U) (Nat.le_of_eq O));rw[B]at aF;replace aF:=Ab aF;replace hy:=Ab hy;clear M hb
   have N:∀ c:Bool,c=U->Hid (Nz w J j cs ⟨some ⟨g,0,none⟩,L.length,Co⟩ L (wr.setCell ⟨j,0,none⟩ (.bool c)) (true&&(L.take (k+1)).all (Sq m))):=λc hc=>by
    subst hc;rw[aF.o,Bool.true_and];exact Ab E.o
   cases b with
   |false=>
    have l:=Ab (show false=U from B);clear B hz;go_wp2;go_roundw
    case rel=>exact⟨k+1,by go_num,D,N _ l.o⟩
    case measure=>simp[intOf];omega
   |true=>
    by_cases h1:1<y
    rotate_left
    ·have bZ:¬ (y:Int)>1:=by omega
     have l:=Ab (show false=U by rw[<-B];simp[Sq,h1]);clear B hz;go_wp2;go_roundw
     case rel=>exact⟨k+1,by go_num,D,N _ l.o⟩
     case measure=>simp[intOf];omega
    have bZ:(y:Int)>1:=by omega
    by_cases h2:z=0
    rotate_left
    ·have cT:¬ (z:Int)=0:=by omega
     have l:=Ab (show false=U by rw[<-B];simp[Sq,<-hz,h2]);clear B hz;go_wp2;go_roundw
     case rel=>exact⟨k+1,by go_num,D,N _ l.o⟩
     case measure=>simp[intOf];omega
    subst h2
    by_cases h3:y<=2*m
    ·have cA:(y:Int)<=2*(m:Int):=by omega
     have l:=Ab (show true=U by rw[<-B];simp[Sq,<-hz,h1,h3]);clear B hz;go_wp2;go_roundw
     case rel=>exact⟨k+1,by go_num,D,N _ l.o⟩
     case measure=>simp[intOf];omega
    have cA:¬ (y:Int)<=2*(m:Int):=by omega
    have l:=Ab (show false=U by rw[<-B];simp[Sq,<-hz,h1,h3]);clear B hz;go_wp2;go_roundw
    case rel=>exact⟨k+1,by go_num,D,N _ l.o⟩
    case measure=>simp[intOf];omega
  obtain⟨KL,cV⟩:∃ KL,KL=L.length:=⟨_,rfl⟩
  have aZ:k=L.length:=by omega
  have dN:¬ (k:Int)<L.length:=by omega
  have aH:L.take k=L:=List.take_of_length_le (by omega);rw[aH]at M;clear aH;replace aZ:=Ab aZ;replace cV:=Ab cV;have c2:=(M.o.box.cell 2).trans aQ.o;go_wp2;clear c2;have cW:Hid (Nz w J j cs ⟨Ao,L.length,Co⟩ L wr ((true&&L.all (Sq m))&&(x.c.lat.take 0).all Tg)):=Ab (by simpa using M.o);obtain⟨B1,aM⟩:∃ B1,(true&&L.all (Sq m))=B1:=⟨_,rfl⟩;rw[aM]at cW;replace aM:=Ab aM;clear M
  go_loopw [49] (λi wr=>∃ k:Nat,i= .int .i64 k/\k<=R/\Hid (Nz w J j cs ⟨Ao,L.length,Co⟩ L wr (B1&&(x.c.lat.take k).all Tg))) (λi _=>R-(intOf i).toNat)
  case atStart=>exact⟨0,rfl,Nat.zero_le _,cW⟩
  case round=>
   obtain⟨k,rfl,hk,M⟩:=hrel
   by_cases D:k<R
   ·have aC:(k:Int)<R:=by omega
    have dQ:=hr.below M.o.bel (Nat.le_of_eq O);obtain⟨ad,y,dH,hy,g0,g1,g2⟩:=Ce (show RdT wr A2 R (x.c.lat.map t3) from dQ.lat) D;subst dH;have eF:y.c<=40000000:=hN.res y (List.mem_of_getElem? hy);have aF:=Abz Tg hy;obtain⟨W5,bM,b5,bW⟩:=Bb wr #[.int .i64 (y.a:Nat),.int .i64 (y.b:Nat),.int .i64 (y.c:Nat)] 59;obtain⟨b,hb⟩:∃ b,(B1&&(x.c.lat.take k).all Tg)=b:=⟨_,rfl⟩;rw[hb]at M
    have aJ:(B1&&(x.c.lat.take (k+1)).all Tg)=(b&&Tg y):=by rw[aF,<-hb,Bool.and_assoc]
    have bJ:=M.o.after bW;have d3:=bJ.ok.cell 0;have z3:=bJ.ok.frozen 0;have u0:=b5.cell 0;have u2:=b5.cell 2;obtain⟨U,B⟩:∃ U,(b&&Tg y)=U:=⟨_,rfl⟩;have E:=Ab (bJ.set (b':=U) (Nat.le_of_eq O));rw[B]at aJ;replace aJ:=Ab aJ;replace hy:=Ab hy;replace bM:=Ab bM;clear M hb bJ bW aF
    have N:∀ c:Bool,c=U->Hid (Nz w J j cs ⟨Ao,L.length,Co⟩ L (W5.setCell ⟨j,0,none⟩ (.bool c)) (B1&&(x.c.lat.take (k+1)).all Tg)):=λc hc=>by
     subst hc;rw[aJ.o];exact Ab E.o
    go_upto_region 12 with fail
    rw[bM.o];clear bM g0 g1 g2;obtain⟨yc,aL⟩:∃ yc,y.c=yc:=⟨_,rfl⟩;obtain⟨ya,aK⟩:∃ ya,y.a=ya:=⟨_,rfl⟩
    have hT:Tg y=(decide (yc=0)||(decide (yc=1)||decide (yc=ya))):=by rw[<-aL,<-aK];rfl
    rw[hT]at B;rw[aL]at u2 ⊢;rw[aK]at u0 ⊢;clear hT;replace aL:=Ab aL;replace aK:=Ab aK
    cases b with
    |false=>
     have l:=Ab (show false=U from B);clear B;go_wp2;go_roundw
     case rel=>exact⟨k+1,by go_num,D,N _ l.o⟩
     case measure=>simp[intOf];omega
    |true=>
     by_cases h1:yc=0
     ·subst h1;have l:=Ab (show true=U by rw[<-B];rfl);clear B;go_wp2;go_roundw
      case rel=>exact⟨k+1,by go_num,D,N _ l.o⟩
      case measure=>simp[intOf];omega
     have bZ:¬ (yc:Int)=0:=by omega
     by_cases h2:yc=1
     ·subst h2;have l:=Ab (show true=U by rw[<-B];rfl);clear B;go_wp2;go_roundw
      case rel=>exact⟨k+1,by go_num,D,N _ l.o⟩
      case measure=>simp[intOf];omega
     have cT:¬ (yc:Int)=1:=by omega
     by_cases h3:yc=ya
     ·subst h3;have l:=Ab (show true=U by rw[<-B];simp);clear B;go_wp2;go_roundw
      case rel=>exact⟨k+1,by go_num,D,N _ l.o⟩
      case measure=>simp[intOf];omega
     have cA:¬ (yc:Int)=ya:=by omega
     have l:=Ab (show false=U by rw[<-B];simp[h1,h2,h3])
     have f1:((yc:Int)==0)=false:=by simpa using bZ
     have f2:((yc:Int)==1)=false:=by simpa using cT
     have f3:((yc:Int)==(ya:Int))=false:=by simpa using cA
     clear B;go_wp2;go_roundw
     case rel=>exact⟨k+1,by go_num,D,N _ l.o⟩
     case measure=>simp[intOf];omega
   obtain rfl:R=k:=by omega
   have aC:¬ (R:Int)<R:=by omega
   have aH:x.c.lat.take R=x.c.lat:=List.take_of_length_le (by have:=n2.o;omega);rw[aH]at M;clear aH
   have cC:Adn 52 (.pointer (some ⟨j,0,none⟩)) (.pointer (some ⟨J,0,none⟩)) j x.c (Aej m) (λW b=>Blk W j 4 #[.bool b]/\Blk W J 31 cs):=by
    refine⟨λW b y hy F=>(AjC j J y m b cs W F.1 F.2 aI.o (hN.used y hy) dB).mono (λe W' h=>?_),λW W' b F hb=>⟨F.1.below hb F.1.lt,F.2.below hb F.2.lt⟩,AjV⟩;obtain⟨rfl,rfl⟩:=h;have cO:J≠j:=Af F.2 F.1 (by decide)
    exact⟨rfl,⟨F.1.set_ 0 _,F.2.far (p:=⟨j,0,none⟩) (by simpa using cO) _⟩,(Fr.refl (λq=>q=j) W).set (p:=⟨j,0,none⟩) rfl _⟩
   have bS:Wy j ⟨⟨A1,M1,C1⟩,⟨A2,R,C2⟩,⟨A3,M3,C3⟩,⟨A4,M4,C4⟩,⟨A5,M5,C5⟩,⟨A6,M6,C6⟩,⟨A7,M7,C7⟩,Z⟩:=λad h=>by have:=hv ad h;have:=M.o.lo;omega
   have HU:=Ab (Aco ⟨⟨A1,M1,C1⟩,⟨A2,R,C2⟩,⟨A3,M3,C3⟩,⟨A4,M4,C4⟩,⟨A5,M5,C5⟩,⟨A6,M6,C6⟩,⟨A7,M7,C7⟩,Z⟩ x 52 (.pointer (some ⟨j,0,none⟩)) (.pointer (some ⟨J,0,none⟩)) j (Aej m) (λW b=>Blk W j 4 #[.bool b]/\Blk W J 31 cs) _ wr (hr.below M.o.bel (Nat.le_of_eq O)) hl bS M.o.ok.lt cC ⟨M.o.ok,M.o.box⟩);rw[<-hm.o]at HU;simp only[Ae]at HU;replace cC:=Ab cC;replace bS:=Ab bS;have cM:∀ (fn:Fn) (first cap:Array Value) (w:World),(Instr.makeFunc fn first cap).run Tryz.prog w= .ok (.func fn first cap) w:=λ_ _ _ _=>rfl;obtain⟨c0,c1,c2,c3,c4,c5,c6,c7,c8⟩:=c9t M.o.box aI.o bC.o aQ.o bD.o bE.o bF.o bG.o bH.o bI.o
   go_wp2_with fail
   refine HU.o.mono ?_;rintro e Y ⟨rfl,aV,aY⟩;have E:Hid (Nz w J j cs ⟨Ao,L.length,Co⟩ L Y ((B1&&x.c.lat.all Tg)&&(Ch x.c).all (Aej m))):=Ab (M.o.fr aY aV.1 (Nat.le_of_eq O));obtain⟨B2,aN⟩:∃ B2,((B1&&x.c.lat.all Tg)&&(Ch x.c).all (Aej m))=B2:=⟨_,rfl⟩;rw[aN]at E;replace aN:=Ab aN;clear HU M aV aY cM c0 c1 c2 c3 c4 c5 c6 c7 c8
   have cP:B2=false->¬Ag x.c:=λh1 h2=>by
    have h3:=(Vl x.c).1 h2;rw[<-hm.o,<-hL.o,aM.o,aN.o,h1]at h3;exact Bool.noConfusion h3.2.1
   have d3:=E.o.ok.cell 0;have X:∀ (r:Int) W,r≠0->¬Ag x.c->Below J w W->Hid (Add x.c w (.returned (.int .i64 r)) W):=λr W h1 h2 h3=>Ab ⟨r,rfl,⟨λh=>absurd h h1,λh=>absurd h h2⟩,by rw[O];exact h3⟩
   cases B2 with
   |false=>
    have I:=X 5 Y (by decide) (cP rfl) E.o.bel;clear X cP;go_wp2;go_ret;exact I.o
   |true=>
    clear cP;have dP:= @run_makeMap Tryz.prog;have cL:=Ds.made Y encI;have cH:=(Below.refl Y.heap.size Y).alloc (Nl _) (.map #[] 0);have aA:=E.o.after cH
    have bB:(Y.alloc (.map #[] 0)).heap.size=Y.heap.size+1:=by simp
    have cX:=E.o.ok.lt;obtain⟨Wm,cB⟩:∃ Wm,Y.alloc (.map #[] 0)=Wm:=⟨_,rfl⟩;rw[cB]at cL cH aA bB;have bU:=Ab cB;clear cB
    go_upto_region 18 with(rw[bU.o];refine Mi (Ha Tryz.underlying3) AfF rfl _ _ _ rfl cL (0:Int) (.bool true) (by rfl) (by rfl) (by rfl) ?_;intro w6 aP bO cS)
    have bQ:Py x.c:=(AcG x.c).2 (by rw[<-hm.o,<-hL.o,aM.o,aN.o]);have aX:Fr (λq=>q=Y.heap.size) Wm w6:=Fr.of_grown bO (λq e=> .inl (Option.some.inj e).symm);obtain⟨W7,cY,b7,cG⟩:=Bb w6 #[.map (some Y.heap.size)] 117
    have dK:Hid (Aca w J j (Y.heap.size+1) Y.heap.size cs ⟨Ao,L.length,Co⟩ L W7 true (mput [] (0:Int) (.bool true)) 0):=by
     have dO:=aA.lo;have dM:=aA.box.lt
     have dS:w6.heap.size=Y.heap.size+1:=by rw[cS,bB]
     have h6:Nz w J j cs ⟨Ao,L.length,Co⟩ L w6 true:=⟨aX.blk aA.box (by omega),aX.own aA.own (λg hg e=>by have:=(Dm E.o.own hg).2;omega),aX.blk aA.ok (by omega),aA.bel.trans (aX.below (Nat.le_of_lt dM) (λq e=>by omega)),dO⟩;rw[dS]at b7;refine Ab ⟨h6.after cG,b7,aP.below cG aP.lt,λv=>?_,List.nodup_nil,by omega,by omega,by omega⟩
     show(mget [((0:Int),Value.bool true)] (v:Int)).getD (.bool false)=_
     unfold mget
     by_cases dE:v=0
     ·subst dE;rfl
     rw[if_neg (by omega)];simp[mget,dE]
    rw[cY];have dW:=aP.lt;generalize Y.heap.size=mb at*;clear cY b7 cG aP bO cS aX bU cL cH aA bB cX E d3 dP;go_wp2
    go_loopw [81] (λi wr=>∃ (k:Nat) (ml:List (Int×Value)),i= .int .i64 k/\k<=L.length/\Hid (Aca w J j (mb+1) mb cs ⟨Ao,L.length,Co⟩ L wr true ml k)) (λi _=>L.length-(intOf i).toNat)
    case atStart=>exact⟨0,_,rfl,Nat.zero_le _,dK⟩
    case round=>
     obtain⟨k,ml,rfl,hk,A⟩:=hrel
     by_cases D:k<L.length
     ·have aC:(k:Int)<L.length:=by omega
      obtain⟨g,y,hA,hy,cy⟩:=A.o.m.cell D rfl;replace hA:Ao=some ⟨g,0,none⟩:=hA;subst hA
      have dF:y∈Dd x.c:=by rw[<-hL.o];exact List.mem_of_getElem? hy
      have dV:y<=40000000:=hN.own y dF;have dT:1<y:=(bQ.own y dF).1
      have dU:(y:Int)<=40000000:=by omega
      obtain⟨z,hz⟩:∃ z,z=y/2:=⟨_,rfl⟩;have eD:=Zu y z hz
      have eG:(z:Int)<=40000000:=by omega
      have aB:=A.o.is z;have d9:=A.o.hc.cell 0;have bX:=Ab (λW' hm hg hn=>A.o.put (W':=W') hy hz hn hm hg (Nat.le_of_eq O));have cQ:=Ab (λhn=>A.o.twice hy hz dT hn);have cN:=A.o.map;replace hz:=Ab hz;replace hy:=Ab hy
      by_cases aO:z=0∨z∈(halves L).take k
      ·rw[decide_eq_true aO]at aB;have aD:¬ Ag x.c:=λhg=>cQ.o aO (by rw[hL.o];exact((Vl x.c).1 hg).2.2.1);have I:=X 7 wr (by decide) aD A.o.m.bel;clear X aD aO cQ bX
       go_wp2_with (at_lookup;refine Gt (Ha Tryz.underlying3) AfF So rfl _ _ rfl cN.toO (z:Int) (by rfl) (by rfl) ?_;rw[aB])
       go_ret;exact I.o
      rw[decide_eq_false aO]at aB;have dA:=Ab aO;clear aO cQ
      go_wp2_with (first|(at_lookup;refine Gt (Ha Tryz.underlying3) AfF So rfl _ _ rfl cN.toO (z:Int) (by rfl) (by rfl) ?_;rw[aB])|(at_mapUpdate;refine Jg (Ha Tryz.underlying3) AfF rfl _ _ _ rfl cN (z:Int) (.bool true) (by rfl) (by rfl) (by rfl) ?_;intro w6 aP bO cS))
      have dI:=Ab (bX.o w6 aP bO dA.o);go_roundw
      case rel=>exact⟨k+1,_,by go_num,D,dI⟩
      case measure=>simp[intOf];omega
     have aZ:k=L.length:=by omega
     have dN:¬ (k:Int)<L.length:=by omega
     have aH:(halves L).take k=halves L:=List.take_of_length_le (by unfold halves;simp;omega);have aE:=A.o.nod;have aB:=A.o.is;rw[aH]at aE aB;replace aZ:=Ab aZ;replace aE:=Ab aE;clear aH
     have cE:Adn 53 (.pointer (some ⟨j,0,none⟩)) (.pointer (some ⟨mb+1,0,none⟩)) j x.c (Ajn L) (λW b=>Blk W j 4 #[.bool b]/\Blk W (mb+1) 117 #[.map (some mb)]/\Ds W encI mb ml):=by
      refine⟨λW b y hy F=>(AjI j (mb+1) mb y b (Ajn L y) ml W F.1 F.2.1 F.2.2 (aB (y/2)) (hN.used y hy)).mono (λe W' h=>?_),λW W' b F hb=>⟨F.1.below hb F.1.lt,F.2.1.below hb F.2.1.lt,F.2.2.below hb F.2.2.lt⟩,Ajd⟩;obtain⟨rfl,rfl⟩:=h;have cO:mb+1≠j:=Af F.2.1 F.1 (by decide)
      exact⟨rfl,⟨F.1.set_ 0 _,F.2.1.far (p:=⟨j,0,none⟩) (by simpa using cO) _,F.2.2.setCell (p:=⟨j,0,none⟩) (Gx F.2.2 F.1) _⟩,(Fr.refl (λq=>q=j) W).set (p:=⟨j,0,none⟩) rfl _⟩
     have HU:=Ab (Aco ⟨⟨A1,M1,C1⟩,⟨A2,R,C2⟩,⟨A3,M3,C3⟩,⟨A4,M4,C4⟩,⟨A5,M5,C5⟩,⟨A6,M6,C6⟩,⟨A7,M7,C7⟩,Z⟩ x 53 (.pointer (some ⟨j,0,none⟩)) (.pointer (some ⟨mb+1,0,none⟩)) j (Ajn L) (λW b=>Blk W j 4 #[.bool b]/\Blk W (mb+1) 117 #[.map (some mb)]/\Ds W encI mb ml) true wr (hr.below A.o.m.bel (Nat.le_of_eq O)) hl bS.o A.o.m.ok.lt cE ⟨A.o.m.ok,A.o.hc,A.o.map⟩);rw[<-hm.o]at HU;simp only[Ae]at HU;replace cE:=Ab cE;have cM:∀ (fn:Fn) (first cap:Array Value) (w:World),(Instr.makeFunc fn first cap).run Tryz.prog w= .ok (.func fn first cap) w:=λ_ _ _ _=>rfl;obtain⟨c0,c1,c2,c3,c4,c5,c6,c7,c8⟩:=c9t A.o.m.box aI.o bC.o aQ.o bD.o bE.o bF.o bG.o bH.o bI.o;clear aB
     go_wp2_with fail
     refine HU.o.mono ?_;rintro e Y ⟨rfl,aV,aY⟩;have E:Hid (Nz w J j cs ⟨Ao,L.length,Co⟩ L Y (true&&(Ch x.c).all (Ajn L))):=Ab (A.o.m.fr aY aV.1 (Nat.le_of_eq O));obtain⟨B3,aR⟩:∃ B3,(Ch x.c).all (Ajn L)=B3:=⟨_,rfl⟩;rw[Bool.true_and,aR]at E;replace aR:=Ab aR;clear HU A aV aY cM c0 c1 c2 c3 c4 c5 c6 c7 c8;have d3:=E.o.ok.cell 0
     cases B3 with
     |false=>
      have aD:¬ Ag x.c:=λhg=>by
       have h3:=((Vl x.c).1 hg).2.2.2.1;rw[<-hL.o,aR.o]at h3;exact Bool.noConfusion h3
      have I:=X 9 Y (by decide) aD E.o.bel;clear X aD;go_wp2;go_ret;exact I.o
     |true=>
      have aU:=Ab (E.o.after ((Dr.refl Y).drew.below _));have dR:=hr.below aU.o.bel (Nat.le_of_eq O);have cK:=AhG (show(halves (Dd x.c)).Nodup by rw[<-hL.o];exact aE.o);have HO:=Ab (Abl (m:Int) ⟨⟨A1,M1,C1⟩,⟨A2,R,C2⟩,⟨A3,M3,C3⟩,⟨A4,M4,C4⟩,⟨A5,M5,C5⟩,⟨A6,M6,C6⟩,⟨A7,M7,C7⟩,Z⟩ x.c.gat Y.drew (show M6<=1048576 by omega) dR.gat cK hN.gat);simp only[Ae]at HO;obtain⟨c0,c1,c2,c3,c4,c5,c6,c7,c8⟩:=c9t aU.o.box aI.o bC.o aQ.o bD.o bE.o bF.o bG.o bH.o bI.o
      go_wp2_with fail
      refine wp_region_held_drew (S:=λW'=>W'.cell? ⟨J,0,none⟩=some (.int .i64 (m:Nat))/\W'.cell? ⟨J,1,none⟩=some (.slice A1 M1 C1)/\W'.cell? ⟨J,2,none⟩=some (.slice A2 R C2)/\W'.cell? ⟨J,3,none⟩=some (.slice A3 M3 C3)/\W'.cell? ⟨J,4,none⟩=some (.slice A4 M4 C4)/\W'.cell? ⟨J,5,none⟩=some (.slice A5 M5 C5)/\W'.cell? ⟨J,6,none⟩=some (.slice A6 M6 C6)/\W'.cell? ⟨J,7,none⟩=some (.slice A7 M7 C7)/\W'.cell? ⟨J,8,none⟩=some (.string Z)) (by kernel_rfl) (⟨c0,c1,c2,c3,c4,c5,c6,c7,c8⟩) (λaS=>?_);refine tk 0 (h:=tk 3 (h:=tk 4 (h:=tk 5 (h:=?_))));refine rd1 1 λK hK=>?_;go_simp;refine HO.o.mono ?_;rintro e dG ⟨⟨dX,bY,dY⟩,rfl,bP,cZ⟩;have bT:=Ab (Et bP);dsimp only[sv];have aT:=Ab (aU.o.after cZ);obtain⟨e0,e1,e2,e3,e4,e5,e6,e7,e8⟩:=c9t aT.o.box aI.o bC.o aQ.o bD.o bE.o bF.o bG.o bH.o bI.o
      try go_wp2_with fail
      refine hK.o _ _ (⟨e0,e1,e2,e3,e4,e5,e6,e7,e8⟩) (λaS=>?_);refine tk 2 (h:=tk 6 (h:=tk 7 (h:=?_)));refine wpAnyH_done (by kernel_rfl) ?_ _;clear c0 c1 c2 c3 c4 c5 c6 c7 c8 e0 e1 e2 e3 e4 e5 e6 e7 e8 aS
      by_cases D:bY<M6
      ·have aC:(bY:Int)<M6:=by omega
       have aD:¬ Ag x.c:=λhg=>by
        have h3:=hg.all;rw[<-bT.o,<-n6.o]at h3;omega
       have I:=X 8 dG (by decide) aD aT.o.bel;clear X aD;go_wp2;go_ret;exact I.o
      have aC:¬ (bY:Int)<M6:=by omega
      have hle:(Aw x.c.gat).length<=x.c.gat.length:=by
       have:=Ll (Aw x.c.gat) (List.range x.c.gat.length) (Ge x.c.gat).1 (λq hq=>List.mem_range.2 ((Ge x.c.gat).2 q hq))
       simpa using this
      have hg:Ag x.c:=(Vl x.c).2 ⟨by rw[<-hm.o];exact dB,by rw[<-hm.o,<-hL.o,aM.o,aN.o],by rw[<-hL.o];exact aE.o,by rw[<-hL.o];exact aR.o,by have:=bT.o;have:=n6.o;omega⟩;have I:Hid (Add x.c w (.returned (.int .i64 0)) dG):=Ab ⟨0,rfl,⟨λ_=>hg,λ_=>rfl⟩,by rw[O];exact aT.o.bel⟩;clear X hg hle;go_wp2;go_ret;exact I.o
end Go.Proofs.YtmidbhnhcbpneaaGreatDoor.Top
end
