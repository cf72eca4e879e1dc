/- A part of the proof. -/
import Derived.Test.YtmidbhnhcbpneaaGreatDoorM13
import Derived.Test.YtmidbhnhcbpneaaGreatDoorM4
import Derived.Test.YtmidbhnhcbpneaaGreatDoorM3
import Derived.Test.YtmidbhnhcbpneaaGreatDoorM8
import Derived.Test.YtmidbhnhcbpneaaGreatDoorM2
import Derived.Lib.SliceRun
set_option linter.unusedVariables false
set_option linter.unusedSimpArgs false
set_option maxRecDepth 8000
set_option maxHeartbeats 8000000
section
namespace Go.Proofs.YtmidbhnhcbpneaaGreatDoor.Top
open Go Go.RowKit Go.Lt YtmidbhnhcbpneaaGreatDoor.Lit YtmidbhnhcbpneaaGreatDoor.Dec
open YtmidbhnhcbpneaaGreatDoor.Circ (T3 enc3 RdT Sl Cv Ae)
def Ads (g:List N3) (k v:Nat):Option Nat:=(List.range k).find? λi=>decide (aG g i/2=v)
def AgZ (g:List N3) (k:Nat) (ml:List (Int×Value)):Prop:=∀ v:Nat,mget ml (v:Int)=(Ads g k v).map λi=>Value.int .i64 (i:Nat)
theorem AgZ.zero (g:List N3):AgZ g 0 []:=λv=>rfl
theorem AgZ.step {g:List N3} {k:Nat} {ml:List (Int×Value)} (hd:Qe g) (h:AgZ g k ml) (hk:k<g.length):AgZ g (k+1) (mput ml ((aG g k/2:Nat):Int) (.int .i64 (k:Nat))):=by
 intro v;rw[Xb];unfold Ads;rw[List.range_succ,List.find?_append]
 by_cases e:aG g k/2=v
 ·have l:(List.range k).find? (λi=>decide (aG g i/2=v))=none:=by
   rw[List.find?_eq_none];intro i hi;rw[List.mem_range]at hi;simp only[decide_eq_true_eq];intro j
   have:=hd i k (by omega) hk (by rw[j,e])
   omega
  rw[l,if_pos (by rw[e])];simp[e]
 rw[if_neg (by omega),h v];unfold Ads;simp[e]
structure Fam (W:World) (B K:Nat) (us:Nat->Value) (LL:Nat->List Nat):Prop where
 own:∀ k,k<K->W.ownsRow B 3 1 (us k) (LL k).length (nvs (LL k))
 ap:∀ j k,j<K->k<K->j≠k->∀g,(us j).ownBlock=some g->(us k).ownBlock≠some g
def Fs {α:Type} (f:Nat->α) (j:Nat) (x:α):Nat->α:=λk=>if k=j then x else f k
theorem Fx {α:Type} {f:Nat->α} {j:Nat} {x:α}:Fs f j x j=x:=by unfold Fs;rw[if_pos rfl]
theorem Bs {α:Type} {f:Nat->α} {j k:Nat} {x:α} (h:k≠j):Fs f j x k=f k:=by unfold Fs;rw[if_neg h]
section
variable {W W':World} {B K j:Nat} {us:Nat->Value} {LL:Nat->List Nat} {u':Value} {l':List Nat}
theorem Dm {w:World} {b s n g:Nat} {e:TypeId} {v:Value} {xs:List Value} (h:w.ownsRow b e s v n xs) (hg:v.ownBlock=some g):b<=g/\g<w.heap.size:=by
 rcases Jx h with⟨rfl,_⟩|⟨l,j,rfl,m,h2,_⟩
 ·simp[Value.ownBlock]at hg
 have:l=g:=by simpa[Value.ownBlock] using hg
 omega
theorem Fam.fr {S:Nat->Prop} (h:Fam W B K us LL) (hf:Fr S W W') (hS:∀ k,k<K->∀g,(us k).ownBlock=some g->¬S g):Fam W' B K us LL:=
 ⟨λk j=>hf.own (h.own k j) (hS k j),h.ap⟩
theorem Fam.below (h:Fam W B K us LL) (hb:Below W.heap.size W W'):Fam W' B K us LL:=h.fr (S:=λ_=>False) (Fr.of_below hb) (λ_ _ _ _=>id)
theorem Fam.low {S:Nat->Prop} (h:Fam W B K us LL) (hf:Fr S W W') (hS:∀ g,S g->g<B):Fam W' B K us LL:=
 h.fr hf (λk l g j m=>by have:=(Dm (h.own k l) j).1;have:=hS g m;omega)
theorem Fam.turn {S:Nat->Prop} (h:Fam W B K us LL) (hj:j<K) (hf:Fr S W W') (hS:∀ g,S g->g<B∨(us j).ownBlock=some g) (hown:W'.ownsRow B 3 1 u' l'.length (nvs l')) (hto:Pb W (us j) u'):Fam W' B K (Fs us j u') (Fs LL j l'):=by
 have z:∀ k,k<K->k≠j->∀g,(us k).ownBlock=some g->¬S g:=λk q e g E F=>by
  rcases hS g F with l|l
  ·have:=(Dm (h.own k q) E).1;omega
  exact h.ap k j q hj e g E l
 refine⟨λk q=>?_,λa b r x m g l h2=>?_⟩
 ·by_cases e:k=j
  ·subst e;rw[Fx,Fx];exact hown
  rw[Bs e,Bs e];exact hf.own (h.own k q) (z k q e)
 by_cases y:a=j
 ·subst y;rw[Fx]at l;rw[Bs (λe=>m e.symm)]at h2
  rcases hto g l with p|p
  ·exact h.ap b a x r (λe=>m e.symm) g h2 p
  have:=(Dm (h.own b x) h2).2;omega
 rw[Bs y]at l
 by_cases D:b=j
 ·subst D;rw[Fx]at h2
  rcases hto g h2 with p|p
  ·exact h.ap a b r x y g l p
  have:=(Dm (h.own a r) l).2;omega
 rw[Bs D]at h2;exact h.ap a b r x m g l h2
end
abbrev Uv (us:Nat->Value) (N:Nat):Array Value:=((List.range N).map us).toArray
theorem Alm {us:Nat->Value} {N k:Nat} {u:Value} (hk:k<N):(Uv us N).setIfInBounds k u=Uv (Fs us k u) N:=by
 unfold Uv;rw[List.setIfInBounds_toArray]
 congr 1
 apply List.ext_getElem?
 intro i;rw[List.getElem?_set,List.getElem?_map,List.getElem?_map]
 by_cases e:k=i
 ·subst e;rw[if_pos rfl,if_pos (by simpa using hk),List.getElem?_range hk];simp[Fx]
 rw[if_neg e]
 by_cases hi:i<N
 ·rw[List.getElem?_range hi];simp[Bs (λj=>e j.symm)]
 rw[List.getElem?_eq_none (by simpa using hi)];rfl
theorem AaT {us:Nat->Value} {N k:Nat} (hk:k<N):(Uv us N)[k]?=some (us k):=by
 unfold Uv;simp[List.getElem?_range hk,hk]
theorem Afr {us:Nat->Value} {N k:Nat} {u:Value} (hk:N<=k):Uv (Fs us k u) N=Uv us N:=by
 unfold Uv
 congr 1
 apply List.map_congr_left
 intro i hi;rw[List.mem_range]at hi;exact Bs (by omega)
structure Pl (w:World) (n0 M gl gb H gs ga B N:Nat) (m:Int) (v:Cv) (W:World) (ml:List (Int×Value)) (lacks:List Nat) (us:Nat->Value) (LL:Nat->List Nat):Prop where
 box:Blk W n0 31 (Ae m v)
 map:Ds W encI M ml
 lk:Blk W gl 3 (nvs lacks).toArray
 ll:lacks.length=N
 ab:Blk W gb 26 (Uv us N)
 fam:Fam W B (N+2) us LL
 hp:HpM W H gs ga N B (us N) (LL N)
 lo:n0<B/\M<B/\gl<B/\gb<B
 sz:B<=W.heap.size
 ne:gl≠ga
 bel:Below w.heap.size w W
 new:w.heap.size<=n0/\w.heap.size<=M/\w.heap.size<=gl/\w.heap.size<=gb/\w.heap.size<=H/\w.heap.size<=gs/\w.heap.size<=ga
section
variable {w W W':World} {n0 M gl gb H gs ga B N:Nat} {m:Int} {v:Cv} {ml:List (Int×Value)} {lacks:List Nat} {us:Nat->Value} {LL:Nat->List Nat}
theorem Pl.wB (h:Pl w n0 M gl gb H gs ga B N m v W ml lacks us LL):w.heap.size<=B:=by have:=h.new.1;have:=h.lo.1;omega
theorem Gx {κ:Type} [DecidableEq κ] {enc:κ->Value} {l:List (κ×Value)} {g:Nat} {t:TypeId} {cs:Array Value} (h:Ds W enc M l) (k:Blk W g t cs):M≠g:=by
 rintro rfl;obtain⟨es,c,j,_⟩:=h.toO;unfold Blk at k;rw[k]at j;cases j
theorem Pl.after (h:Pl w n0 M gl gb H gs ga B N m v W ml lacks us LL) (hb:Below W.heap.size W W'):Pl w n0 M gl gb H gs ga B N m v W' ml lacks us LL:=
 ⟨h.box.below hb h.box.lt,h.map.below hb h.map.lt,h.lk.below hb h.lk.lt,h.ll,h.ab.below hb h.ab.lt,h.fam.below hb,h.hp.below hb,h.lo,Nat.le_trans h.sz hb.size,h.ne,h.bel.trans (hb.mono (Nat.le_trans h.wB h.sz)),h.new⟩
theorem Pl.setLack {i x:Nat} (h:Pl w n0 M gl gb H gs ga B N m v W ml lacks us LL):Pl w n0 M gl gb H gs ga B N m v (W.setCell ⟨gl,i,none⟩ (.int .i64 (x:Nat))) ml (lacks.set i x) us LL:=by
 have j:=(Fr.refl (λq=>q=gl) W).set (p:=⟨gl,i,none⟩) rfl (.int .i64 (x:Nat));have D:n0≠gl:=Af h.box h.lk (by decide);have E:gb≠gl:=Af h.ab h.lk (by decide);have F:H≠gl:=Af h.hp.box h.lk (by decide);have I:gs≠gl:=Af h.hp.sc h.lk (by decide);have J:M≠gl:=Gx h.map h.lk;have y:=h.lo.2.2.1;have z:=h.new.2.2.1;refine⟨j.blk h.box D,h.map.setCell J _,?_,by rw[List.length_set];exact h.ll,j.blk h.ab E,h.fam.low j (λg e=>by omega),h.hp.fr j F I (λe=>h.ne e.symm) (λg r e=>?_),h.lo,by simpa using h.sz,h.ne,h.bel.trans (j.below (by have:=h.bel.size;omega) (λg e=>by omega)),h.new⟩
 ·have l:=h.lk.set_ i (.int .i64 (x:Nat))
  have e:(nvs lacks).toArray.setIfInBounds i (.int .i64 (x:Nat))=(nvs (lacks.set i x)).toArray:=by unfold nvs;rw[List.map_set];simp
  rw[e]at l;exact l
 have:=(Dm h.hp.own r).1;omega
theorem Pl.push {k:Nat} {o:Obj} {W2:World} {u':Value} {x:Nat} (h:Pl w n0 M gl gb H gs ga B N m v W ml lacks us LL) (hk:k<N) (hown:W2.ownsRow B 3 1 u' ((LL k).length+1) (nvs (LL k)++ [.int .i64 (x:Nat)])) (z:(W.alloc o).grownBy W2 (us k).ownBlock) (hto:Pb W (us k) u'):
  Pl w n0 M gl gb H gs ga B N m v (W2.setCell ⟨gb,k,none⟩ u') ml lacks (Fs us k u') (Fs LL k (LL k++ [x])):=by
 have E:Fr (λq=>some q=(us k).ownBlock) W W2:=(Fr.of_below ((Below.refl _ W).alloc (Nl _) o) |>.trans (Fr.of_grown z (λq D=> .inl D.symm)));have r:Fr (λq=>q=gb∨some q=(us k).ownBlock) W (W2.setCell ⟨gb,k,none⟩ u'):=(E.more (λq _ e=> .inr e)).set (p:=⟨gb,k,none⟩) (.inl rfl) u';have I:∀ q,some q=(us k).ownBlock->B<=q:=λq e=>(Dm (h.fam.own k (by omega)) e.symm).1;obtain⟨X,Y,Z,J⟩:=h.lo;obtain⟨p1,p2,p3⟩:=h.hp.low;have A:n0≠gb:=Af h.box h.ab (by decide);have n2:gl≠gb:=Af h.lk h.ab (by decide);have n3:H≠gb:=Af h.hp.box h.ab (by decide);have n4:gs≠gb:=Af h.hp.sc h.ab (by decide);obtain⟨O,S,_⟩:=h.hp.ats;have n5:ga≠gb:=Af S h.ab (by decide);have n6:M≠gb:=Gx h.map h.ab
 have y:∀ q,q<B->¬some q=(us k).ownBlock:=λq D e=>by have:=I q e;omega
 have j:∀ q,q<B->q≠gb->¬(q=gb∨some q=(us k).ownBlock):=λq D U e=>e.elim U (y q D)
 have l:(W2.setCell ⟨gb,k,none⟩ u').ownsRow B 3 1 u' (LL k++ [x]).length (nvs (LL k++ [x])):=by
  have:W2.ownsRow B 3 1 u' (LL k++ [x]).length (nvs (LL k++ [x])):=by rw[List.length_append];unfold nvs;rw[List.map_append];exact hown
  exact ownsRow_setCell_below this J u'
 have R:Fs us k u' N=us N:=Bs (by omega);have F:Fs LL k (LL k++ [x]) N=LL N:=Bs (by omega);refine⟨r.blk h.box (j _ X A),?_,r.blk h.lk (j _ Z n2),h.ll,?_,h.fam.turn (by omega) r (λg e=>e.elim (λe=> .inl (by omega)) (λe=> .inr e.symm)) l hto,?_,h.lo,by simpa using Nat.le_trans h.sz E.size,h.ne,h.bel.trans (r.below (by have:=h.bel.size;omega) (λq e=>e.elim (λe=>by have:=h.new;omega) (λe=>by have:=I q e;have:=h.wB;omega))),h.new⟩
 ·exact h.map.block (r.block M h.map.lt (j _ Y n6))
 ·rw[<-Alm hk]
  exact(E.blk h.ab (y _ J)).set_ k u'
 rw[R,F];refine h.hp.fr r (j _ p1 n3) (j _ p2 n4) (j _ p3 n5) (λg z e=>?_)
 rcases e with e|e
 ·have:=(Dm h.hp.own z).1;omega
 exact h.fam.ap N k (by omega) (by omega) (by omega) g z e.symm
theorem Pl.turnHp {tv':Value} {tree':List Nat} (h:Pl w n0 M gl gb H gs ga B N m v W ml lacks us LL) (hf:Fr (λq=>q=H∨q=ga∨some q=(us N).ownBlock) W W') (hp:HpM W' H gs ga N B tv' tree') (hto:Pb W (us N) tv'):
  Pl w n0 M gl gb H gs ga B N m v W' ml lacks (Fs us N tv') (Fs LL N tree'):=by
 have p:∀ q,some q=(us N).ownBlock->B<=q:=λq e=>(Dm h.hp.own e.symm).1;obtain⟨x,y,z,D⟩:=h.lo;obtain⟨X,Y,Z⟩:=h.hp.low;obtain⟨r,l,_⟩:=h.hp.ats;have J:n0≠H:=Af h.box h.hp.box (by decide);have E:n0≠ga:=Af h.box l (by decide);have O:gl≠H:=Af h.lk h.hp.box (by decide);have R:gb≠H:=Af h.ab h.hp.box (by decide);have F:gb≠ga:=Af h.ab l (by decide);have S:M≠H:=Gx h.map h.hp.box;have I:M≠ga:=Gx h.map l;have j:∀ q,q<B->q≠H->q≠ga->¬(q=H∨q=ga∨some q=(us N).ownBlock):=λq U a b e=>e.elim a (λe=>e.elim b (λe=>by have:=p q e;omega))
 refine⟨hf.blk h.box (j _ x J E),h.map.block (hf.block M h.map.lt (j _ y S I)),hf.blk h.lk (j _ z O h.ne),h.ll,by rw[Afr (Nl _)];exact hf.blk h.ab (j _ D R F),
  h.fam.turn (by omega) hf (λg e=>?_) hp.own hto,by rw[Fx,Fx];exact hp,h.lo,Nat.le_trans h.sz hf.size,h.ne,h.bel.trans (hf.below (by have:=h.bel.size;omega) (λq e=>?_)),h.new⟩
 ·rcases e with e|e|e
  ·exact .inl (by omega)
  ·exact .inl (by omega)
  exact .inr e.symm
 have:=h.new
 rcases e with e|e|e
 ·omega
 ·omega
 have:=p q e;have:=h.wB;omega
theorem Pl.o {o:Obj} {u':Value} {x:Nat} (h:Pl w n0 M gl gb H gs ga B N m v W ml lacks us LL) (hown:W'.ownsRow B 3 1 u' ((LL (N+1)).length+1) (nvs (LL (N+1))++ [.int .i64 (x:Nat)])) (y:(W.alloc o).grownBy W' (us (N+1)).ownBlock) (hto:Pb W (us (N+1)) u'):
  Pl w n0 M gl gb H gs ga B N m v W' ml lacks (Fs us (N+1) u') (Fs LL (N+1) (LL (N+1)++ [x])):=by
 have l:Fr (λq=>some q=(us (N+1)).ownBlock) W W':=(Fr.of_below ((Below.refl _ W).alloc (Nl _) o) |>.trans (Fr.of_grown y (λq D=> .inl D.symm)));have z:∀ q,some q=(us (N+1)).ownBlock->B<=q:=λq e=>(Dm (h.fam.own (N+1) (by omega)) e.symm).1;obtain⟨F,I,J,O⟩:=h.lo;obtain⟨R,S,U⟩:=h.hp.low
 have j:∀ q,q<B->¬some q=(us (N+1)).ownBlock:=λq D e=>by have:=z q e;omega
 have p:W'.ownsRow B 3 1 u' (LL (N+1)++ [x]).length (nvs (LL (N+1)++ [x])):=by rw[List.length_append];unfold nvs;rw[List.map_append];exact hown
 have E:Fs us (N+1) u' N=us N:=Bs (by omega);have r:Fs LL (N+1) (LL (N+1)++ [x]) N=LL N:=Bs (by omega);refine⟨l.blk h.box (j _ F),h.map.block (l.block M h.map.lt (j _ I)),l.blk h.lk (j _ J),h.ll,by rw[Afr (by omega)];exact l.blk h.ab (j _ O),h.fam.turn (by omega) l (λg e=> .inr e.symm) p hto,?_,h.lo,Nat.le_trans h.sz l.size,h.ne,h.bel.trans (l.below (by have:=h.bel.size;omega) (λq e=>by have:=z q e;have:=h.wB;omega)),h.new⟩;rw[E,r];exact h.hp.fr l (j _ R) (j _ S) (j _ U) (λg y e=>h.fam.ap N (N+1) (by omega) (by omega) (by omega) g y e.symm)
end
end Go.Proofs.YtmidbhnhcbpneaaGreatDoor.Top
end
section
namespace Go.Proofs.YtmidbhnhcbpneaaGreatDoor.Top
open Go Go.RowKit Go.Lt YtmidbhnhcbpneaaGreatDoor.Lit YtmidbhnhcbpneaaGreatDoor.Dec Go.Instr
open YtmidbhnhcbpneaaGreatDoor.Circ (T3 enc3 RdT Sl Cv Ae)
theorem AjD (g:List N3) (i k:Nat):(Cw g i).count k<=2:=by
 have j:=List.count_le_length (a:=k) (l:=Cw g i)
 have h2:(Cw g i).length<=2:=by
  unfold Cw;exact Nat.le_trans (List.length_filterMap_le _ _) (by simp)
 omega
theorem Agn (g:List N3) (i j k:Nat):(Mo g i j).count k<=2:=by
 have m:=List.count_le_length (a:=k) (l:=Mo g i j)
 have h2:(Mo g i j).length<=2:=by
  unfold Mo;refine Nat.le_trans (List.length_filterMap_le _ _) ?_;rw[List.length_take];simp[inG];omega
 omega
theorem AlB (g:List N3) (i j:Nat):(Mo g i j).length<=2:=by
 unfold Mo;refine Nat.le_trans (List.length_filterMap_le _ _) ?_;rw[List.length_take];simp[inG];omega
theorem Xf (g:List N3) (k:Nat):∀ n,(Jt g n k).length<=2*n
 |0=>by simp[Jt]
 |n+1=>by
  rw[Tk,List.length_append,List.length_replicate]
  have:=Xf g k n
  have:=AjD g n k
  omega
def Ql (w:World) (n0 gl gb H gs ga N B:Nat) (m:Int) (v:Cv) (g:List N3) (ml:List (Int×Value)) (us:Nat->Value) (LL:Nat->List Nat) (W:World) (i:Nat) (ds:List Nat):Prop:=
 Pl w n0 (n0+1) gl gb H gs ga B N m v W ml (Mw g N i ds.length) us LL/\(∀k,k<N->LL k=Jt g i k++List.replicate (ds.count k) i)/\AaW g i (LL N)/\LL (N+1)= []/\us (N+1)=sv Ap
structure Aff (W:World) (rb:Nat) (xs:Array Value) (us:Nat->Value) (K:Nat):Prop where
 blk:Blk W rb 3 xs
 ap:∀ k,k<K->∀g,(us k).ownBlock=some g->g≠rb
section
variable {w W W':World} {n0 gl gb H gs ga B N rb:Nat} {m:Int} {v:Cv} {g:List N3} {ml:List (Int×Value)} {us:Nat->Value} {LL:Nat->List Nat} {i:Nat} {ds:List Nat} {xs:Array Value}
theorem Ql.after (h:Ql w n0 gl gb H gs ga N B m v g ml us LL W i ds) (hb:Below W.heap.size W W'):Ql w n0 gl gb H gs ga N B m v g ml us LL W' i ds:=⟨h.1.after hb,h.2⟩
theorem Aff.after {K:Nat} (h:Aff W rb xs us K) (hb:Below W.heap.size W W'):Aff W' rb xs us K:=⟨h.blk.below hb h.blk.lt,h.ap⟩
theorem Ql.add {k:Nat} {o:Obj} {W1 W2:World} {u':Value} (h:Ql w n0 gl gb H gs ga N B m v g ml us LL W i ds) (hi:i<N) (hk:k<N) (h1:W1=W.setCell ⟨gl,i,none⟩ (.int .i64 ((ds.length+1:Nat):Int))) (hown:W2.ownsRow B 3 1 u' ((LL k).length+1) (nvs (LL k)++ [.int .i64 (i:Nat)])) (hg:(W1.alloc o).grownBy W2 (us k).ownBlock) (hto:Pb W1 (us k) u'):
  Ql w n0 gl gb H gs ga N B m v g ml (Fs us k u') (Fs LL k (LL k++ [i])) (W2.setCell ⟨gb,k,none⟩ u') i (ds++ [k]):=by
 obtain⟨y,l,r,z,D⟩:=h;have h2:=y.setLack (i:=i) (x:=ds.length+1);rw[AiZ,<-h1]at h2;have q:=h2.push (x:=i) hk hown hg hto;refine⟨?_,λj p=>?_,?_,?_,?_⟩
 ·rw[List.length_append,List.length_singleton];exact q
 ·by_cases e:j=k
  ·subst e;rw[Fx,l j p,Ali,List.append_assoc]
  rw[Bs e,l j p,AiP e]
 ·rw[Bs (by omega)];exact r
 ·rw[Bs (by omega)];exact z
 rw[Bs (by omega)];exact D
theorem Aff.add {k:Nat} {o:Obj} {W1 W2:World} {u':Value} (h:Aff W rb xs us (N+2)) (hne:rb≠gl) (hn2:gb≠rb) (hk:k<N+2) (h1:W1=W.setCell ⟨gl,i,none⟩ (.int .i64 ((ds.length+1:Nat):Int))) (hg:(W1.alloc o).grownBy W2 (us k).ownBlock) (hto:Pb W1 (us k) u'):
  Aff (W2.setCell ⟨gb,k,none⟩ u') rb xs (Fs us k u') (N+2):=by
 have m:Blk W1 rb 3 xs:=by subst h1;exact h.blk.far (p:=⟨gl,i,none⟩) (by simpa using hne) _
 have x:Blk W2 rb 3 xs:=(m.alloc o).grown hg (λe=>h.ap k hk rb e.symm rfl);refine⟨x.far (p:=⟨gb,k,none⟩) (by simpa using λe:rb=gb=>hn2 e.symm) _,λj r q l=>?_⟩
 by_cases e:j=k
 ·subst e;rw[Fx]at l
  rcases hto q l with h2|h2
  ·exact h.ap j r q h2
  have:=m.lt;omega
 rw[Bs e]at l;exact h.ap j r q l
theorem Ql.next (h:Ql w n0 gl gb H gs ga N B m v g ml us LL W i (Cw g i)) (hne:Cw g i≠ []):Ql w n0 gl gb H gs ga N B m v g ml us LL W (i+1) []:=by
 obtain⟨j,p,l,r⟩:=h;rw[Abk]at j;refine⟨j,λk q=>by rw[p k q,Tk];simp,?_,r⟩
 have:=Acg l
 rwa [if_neg hne]at this
theorem Ql.pushed {tv':Value} (h:Ql w n0 gl gb H gs ga N B m v g ml us LL W i (Cw g i)) (he:Cw g i= []) (hf:Fr (λq=>q=H∨q=ga∨some q=(us N).ownBlock) W W') (hp:HpM W' H gs ga N B tv' (Pd (LL N) i)) (hto:Pb W (us N) tv'):
  Ql w n0 gl gb H gs ga N B m v g ml (Fs us N tv') (Fs LL N (Pd (LL N) i)) W' (i+1) []:=by
 obtain⟨j,p,l,x,y⟩:=h;rw[Abk]at j;have h2:=j.turnHp hf hp hto;refine⟨h2,λk r=>by rw[Bs (by omega),p k r,Tk];simp,?_,by rw[Bs (by omega)];exact x,by rw[Bs (by omega)];exact y⟩;rw[Fx]
 have:=Acg l
 rwa [if_pos he]at this
theorem AaW.fresh {tree:List Nat} (h:AaW g i tree):i∉tree:=λj=>by have:=((h.mem i).1 j).1;omega
end
def Ku (w:World) (n0 gl gb H gs ga N B:Nat) (m:Int) (v:Cv) (g:List N3) (ml:List (Int×Value)) (us:Nat->Value) (LL:Nat->List Nat) (W:World) (out:List Nat) (s:List Nat×List Nat):Prop:=
 Pl w n0 (n0+1) gl gb H gs ga B N m v W ml s.1 us LL/\(∀k,k<N->LL k=Br g k)/\LL N=s.2/\LL (N+1)=out
section
variable {w W W':World} {n0 gl gb H gs ga B N:Nat} {m:Int} {v:Cv} {g:List N3} {ml:List (Int×Value)} {us:Nat->Value} {LL:Nat->List Nat} {out:List Nat} {s:List Nat×List Nat}
theorem Ku.after (h:Ku w n0 gl gb H gs ga N B m v g ml us LL W out s) (hb:Below W.heap.size W W'):Ku w n0 gl gb H gs ga N B m v g ml us LL W' out s:=⟨h.1.after hb,h.2⟩
theorem Ku.start (h:Ql w n0 gl gb H gs ga N B m v g ml us LL W N []) (hN:g.length=N):Ku w n0 gl gb H gs ga N B m v g ml us LL W [] ((List.range g.length).map (λi=>(Cw g i).length),LL N)/\Rr g [] ((List.range g.length).map λi=>(Cw g i).length) (LL N):=by
 subst hN;obtain⟨j,p,l,r,x⟩:=h;rw[List.length_nil,Ajl]at j;refine⟨⟨j,λk q=>by rw[p k q];simp[Br],rfl,r⟩,AgC l rfl⟩
theorem Ku.less {k x:Nat} (h:Ku w n0 gl gb H gs ga N B m v g ml us LL W out s) (hx:x=atH s.1 k-1) (hne:x≠0):Ku w n0 gl gb H gs ga N B m v g ml us LL (W.setCell ⟨gl,k,none⟩ (.int .i64 (x:Nat))) out (AcR s k):=by
 obtain⟨l,j,q,p⟩:=h;have h2:=l.setLack (i:=k) (x:=x);unfold AcR;rw[<-hx,if_neg hne]
 exact⟨h2,j,q,p⟩
theorem Ku.freed {k x:Nat} {W1:World} {tv':Value} (h:Ku w n0 gl gb H gs ga N B m v g ml us LL W out s) (hx:x=atH s.1 k-1) (h0:x=0) (h1:W1=W.setCell ⟨gl,k,none⟩ (.int .i64 (x:Nat))) (hf:Fr (λq=>q=H∨q=ga∨some q=(us N).ownBlock) W1 W') (hp:HpM W' H gs ga N B tv' (Pd s.2 k)) (hto:Pb W1 (us N) tv'):
  Ku w n0 gl gb H gs ga N B m v g ml (Fs us N tv') (Fs LL N (Pd s.2 k)) W' out (AcR s k):=by
 obtain⟨r,p,D,z⟩:=h;have h2:=r.setLack (i:=k) (x:=x);rw[<-h1]at h2;have l:=h2.turnHp hf hp hto;unfold AcR;rw[<-hx,if_pos h0]
 exact⟨l,λj y=>by rw[Bs (by omega)];exact p j y,Fx,by rw[Bs (by omega)];exact z⟩
theorem Ku.popped {tv':Value} (h:Ku w n0 gl gb H gs ga N B m v g ml us LL W out s) (hf:Fr (λq=>q=H∨q=ga∨some q=(us N).ownBlock) W W') (hp:HpM W' H gs ga N B tv' (Lh s.2)) (hob:tv'.ownBlock=(us N).ownBlock):
  Ku w n0 gl gb H gs ga N B m v g ml (Fs us N tv') (Fs LL N (Lh s.2)) W' out (s.1,Lh s.2):=by
 obtain⟨r,p,D,y⟩:=h;have l:=r.turnHp hf hp (λq z=> .inl (by rw[<-hob];exact z))
 exact⟨l,λj x=>by rw[Bs (by omega)];exact p j x,Fx,by rw[Bs (by omega)];exact y⟩
theorem Ku.told {o:Obj} {u':Value} {x:Nat} (h:Ku w n0 gl gb H gs ga N B m v g ml us LL W out s) (hown:W'.ownsRow B 3 1 u' (out.length+1) (nvs out++ [.int .i64 (x:Nat)])) (hg:(W.alloc o).grownBy W' (us (N+1)).ownBlock) (hto:Pb W (us (N+1)) u'):
  Ku w n0 gl gb H gs ga N B m v g ml (Fs us (N+1) u') (Fs LL (N+1) (out++ [x])) W' (out++ [x]) s:=by
 obtain⟨q,p,z,y⟩:=h;subst y;have l:=q.o (x:=x) hown hg hto
 exact⟨l,λj r=>by rw[Bs (by omega)];exact p j r,by rw[Bs (by omega)];exact z,Fx⟩
theorem Ku.lack {k:Nat} (h:Ku w n0 gl gb H gs ga N B m v g ml us LL W out s) (hk:k<N):W.cell? ⟨gl,k,none⟩=some (.int .i64 (atH s.1 k:Nat))/\W.frozen? ⟨gl,k,none⟩=false:=by
 refine⟨?_,h.1.lk.frozen k⟩;rw[h.1.lk.cell k];have l:=h.1.ll
 have:=Zm (t:=s.1) (j:=k) (by omega)
 simp[this]
end
def AoP (w:World) (n0 gl gb H gs ga N B:Nat) (m:Int) (v:Cv) (g:List N3) (ml:List (Int×Value)) (us:Nat->Value) (LL:Nat->List Nat) (W:World) (out:List Nat) (x:Nat) (b:Bool):Prop:=
 (b=false/\∃lacks,Ku w n0 gl gb H gs ga N B m v g ml us LL W out (lacks,[])/\Rr g out lacks [])∨(b=true/\∃lacks tree,tree≠ []/\x=atH tree 0/\Rr g out lacks tree/\Ku w n0 gl gb H gs ga N B m v g ml us LL W out (lacks,Lh tree))
section
variable {w W W':World} {n0 gl gb H gs ga B N:Nat} {m:Int} {v:Cv} {g:List N3} {ml:List (Int×Value)} {us:Nat->Value} {LL:Nat->List Nat} {out:List Nat}
theorem Aln {lacks tree:List Nat} {e:Ending} (h:Ku w n0 gl gb H gs ga N B m v g ml us LL W out (lacks,tree)) (hK:Rr g out lacks tree) (hP:Aoi H gs ga N B (us N) tree W e W'):
  ∃x b us' LL',e= .returned (.tuple #[.int .i64 (x:Nat),.bool b])/\us' (N+1)=us (N+1)/\AoP w n0 gl gb H gs ga N B m v g ml us' LL' W' out x b:=by
 obtain⟨y,x,b,rfl,I,p,z⟩:=hP
 rcases I with⟨l,rfl,rfl,r⟩|⟨l,rfl,R,r⟩
 ·refine⟨x,false,Fs us N (us N),Fs LL N tree,rfl,Bs (by omega),.inl ⟨rfl,lacks,?_,by rw[l]at hK;exact hK⟩⟩;obtain⟨F,E,S,M⟩:=h;have D:=F.turnHp z r (λq O=> .inl O)
  exact⟨D,λj J=>by rw[Bs (by omega)];exact E j J,by rw[Fx];exact l,by rw[Bs (by omega)];exact M⟩
 exact⟨x,true,Fs us N y,Fs LL N (Lh tree),rfl,Bs (by omega),.inr ⟨rfl,lacks,tree,l,R,hK,h.popped z r p⟩⟩
theorem Jp {n c k:Nat} {A:Option Addr} {l:List Nat} (h:W.ownsRow B 3 1 (.slice A n c) n (nvs l)) (hk:k<n):∃ j,A=some ⟨j,0,none⟩/\∃x,l[k]?=some x/\W.cell? ⟨j,k,none⟩=some (.int .i64 (x:Nat)):=by
 rcases Jx h with⟨m,F⟩|⟨j,r,m,_⟩
 ·omega
 injection m with m _ _;subst m;obtain⟨D,c',p,_,_,z⟩:=Rd.of_own h;injection p with p _ _;subst p;obtain⟨E,x,h2,_,y,q⟩:=z.get (f:=λx:Nat=>Value.int .i64 x) hk;injection h2 with h2;subst h2;refine⟨j,rfl,x,y,?_⟩
 have:(⟨j,0,none⟩:Addr).add k=⟨j,k,none⟩:=by unfold Addr.add;split<;>simp_all
 rw[this]at q;exact q
def AdO:Value->Nat
 | .slice _ n _=>n
 |_=>0
end
theorem Alr:Tryz.prog.underlying 164=some (.map 3 3):=by kernel_rfl
theorem AhM:∀ w:World,(zeroValue 3).run Tryz.prog w= .ok (.int .i64 0) w:=λw=>by kernel_rfl
theorem AiI:(Tryz.prog.info? 26).map (λi=>(i.zero,i.size,i.bytes))=some (some (.slice none 0 0),1,24):=by kernel_rfl
theorem AjF (n:Nat):madeCells (Value.slice none 0 0).cells (n*1)=Uv (λ_=>sv Ap) n:=by
 apply Array.ext
 ·simp[madeCells,Uv]
 intro i j h2;simp[madeCells,Uv,Value.cells,Nat.mod_one]
def AkF (g:List N3):Prop:=∀ x∈g,x.a<=40000000/\x.b<=40000000/\x.c<=40000000
theorem AcD {w:World} {A:Option Addr} {g:List N3} {n k:Nat} (h:RdT w A n (g.map t3)) (hk:k<n):
  ∃j,A=some j/\w.cell? (j.add (k*3))=some (.int .i64 (aG g k:Nat))/\w.cell? ⟨(j.add (k*3)).block,(j.add (k*3)).off+1,none⟩=some (.int .i64 ((g.getD k ⟨0,0,0⟩).b:Nat))/\w.cell? ⟨(j.add (k*3)).block,(j.add (k*3)).off+2,none⟩=some (.int .i64 ((g.getD k ⟨0,0,0⟩).c:Nat)):=by
 obtain⟨j,x,m,_,h2,p,q,r⟩:=h.get hk;rw[List.getElem?_map]at h2
 have l:k<g.length:=by have:=h.1;rw[List.length_map]at this;omega
 rw[List.getElem?_eq_getElem l]at h2;injection h2 with h2
 have e:g.getD k ⟨0,0,0⟩=g[k]:=by rw[List.getD_eq_getElem?_getD,List.getElem?_eq_getElem l];rfl
 unfold aG;rw[e];subst h2
 exact⟨j,m,p,q,r⟩
theorem Alb {g:List N3} (h:AkF g) (k:Nat):aG g k<=40000000/\(g.getD k ⟨0,0,0⟩).b<=40000000/\(g.getD k ⟨0,0,0⟩).c<=40000000:=by
 unfold aG;rw[List.getD_eq_getElem?_getD]
 by_cases j:k<g.length
 ·rw[List.getElem?_eq_getElem j];exact h _ (List.getElem_mem j)
 rw[List.getElem?_eq_none (by omega)];simp
theorem Zu (x y:Nat) (h:y=x/2):((x:Int)).tdiv 2=y:=by rw[Int.tdiv_eq_ediv_of_nonneg (by omega)];omega
theorem AlD (n:Nat):ivs (List.replicate n 0)=nvs (List.replicate n 0):=by simp[ivs,nvs]
structure AoX (w:World) (n0:Nat) (m:Int) (v:Cv) (g:List N3) (W:World) (k:Nat) (ml:List (Int×Value)):Prop where
 box:Blk W n0 31 (Ae m v)
 map:Ds W encI (n0+1) ml
 pl:AgZ g k ml
 bel:Below n0 w W
def Zp (g:List N3) (w:World) (e:Ending) (w':World):Prop:=
 ∃s:Sl,e= .returned (sv s)/\w'.ownsRow w.heap.size 3 1 (sv s) (Aw g).length (nvs (Aw g))/\Below w.heap.size w w'
theorem Abl (m:Int) (v:Cv) (g:List N3) (w:World) (hgn:v.gat.n<=1048576) (hg:RdT w v.gat.A v.gat.n (g.map t3)) (hd:Qe g) (hok:AkF g):
  Calls Tryz.prog 54 #[.agg (Ae m v)] w (Zp g w):=by
 obtain⟨W1,bK,b0,dL⟩:=Bb w (Ae m v) 31
 have fH:W1.heap.size=w.heap.size+1:=by rw[<-bK];simp
 replace bK:=Ab bK;have fB:= @run_makeMap Tryz.prog
 have aI:g.length=v.gat.n:=by have:=hg.1;rwa [List.length_map]at this
 obtain⟨GA,N,GC,bA⟩:∃ A n c,v.gat=⟨A,n,c⟩:=⟨_,_,_,rfl⟩
 have e1:v.gat.A=GA:=by rw[bA]
 have e2:v.gat.n=N:=by rw[bA]
 have e3:v.gat.c=GC:=by rw[bA]
 rw[e1,e2]at hg;rw[e2]at hgn aI
 have aT:∀ W n0,Blk W n0 31 (Ae m v)->W.cell? ⟨n0,6,none⟩=some (.slice GA N GC):=λW n0 h=>by
  rw[h.cell 6,<-e1,<-e2,<-e3];rfl
 replace aT:=Ab aT;clear e1 e2 e3 bA
 have fZ:(N:Int)<=1048576:=by omega
 go_enter Tryz.func54,Tryz.ntmps54
 go_upto_region 1 with fail
 rw[bK.o];clear bK;generalize dX:w.heap.size=n0 at*;have c6:=aT.o _ _ (b0.alloc (.map #[] 0))
 have eN:Hid (AoX w n0 m v g (W1.alloc (.map #[] 0)) 0 []):=by
  have hm:=Ds.made W1 encI;have dO:=(Below.refl W1.heap.size W1).alloc (Nl _) (.map #[] 0);rw[fH]at hm;exact Ab ⟨b0.below dO b0.lt,hm,AgZ.zero g,dL.trans (dO.mono (by omega))⟩
 go_wp2;generalize W1.alloc (.map #[] 0)=W2 at*;clear fB c6 b0 dL
 go_loopw [24] (λi wr=>∃ k:Nat,i= .int .i64 k/\k<=N/\Hid (∃ml,AoX w n0 m v g wr k ml)) (λi _=>N-(intOf i).toNat)
 case atStart=>exact⟨0,rfl,Nat.zero_le _,Ab ⟨[],eN.o⟩⟩
 case round=>
  obtain⟨k,rfl,hk,hA⟩:=hrel;obtain⟨ml,hA⟩:=hA.o;replace hA:=Ab hA
  by_cases dU:k<N
  ·have fT:(k:Int)<N:=by omega
   have cX:=hg.below hA.o.bel (Nat.le_of_eq dX);obtain⟨ad,rfl,g0,g1,g2⟩:=AcD cX dU;obtain⟨o1,o2,o3⟩:=Alb hok k;have bS:=Ab (hA.o.pl.step hd (by omega));obtain⟨x,hx⟩:∃ x,aG g k=x:=⟨_,rfl⟩;rw[hx]at g0 o1 bS;obtain⟨xb,aX⟩:∃ x,(g.getD k ⟨0,0,0⟩).b=x:=⟨_,rfl⟩;obtain⟨xc,aY⟩:∃ x,(g.getD k ⟨0,0,0⟩).c=x:=⟨_,rfl⟩;rw[aX]at g1 o2;rw[aY]at g2 o3;replace aX:=Ab aX;replace aY:=Ab aY;obtain⟨y,hy⟩:∃ y,y=x/2:=⟨_,rfl⟩;rw[<-hy]at bS;have eU:=Zu x y hy
   have fG:(y:Int)<=40000000:=by omega
   have eD:(x:Int)<=40000000:=by omega
   obtain⟨W5,aN,b5,aF⟩:=Bb wr #[.int .i64 (x:Nat),.int .i64 (xb:Nat),.int .i64 (xc:Nat)] 62;have eZ:=Ab (hA.o.map.below aF hA.o.map.lt);have dM:=Ab (hA.o.box.below aF hA.o.box.lt);have cW:=Ab (hA.o.bel.trans (aF.mono (Nat.le_of_lt hA.o.box.lt)));replace aN:=Ab aN;replace hy:=Ab hy;replace hx:=Ab hx;clear aF
   go_upto_region 5 with fail
   rw[aN.o];clear aN g0 g1 g2;have u0:=b5.cell 0
   go_wp2_with (at_mapUpdate;refine Jg (Ha Tryz.underlying3) Alr rfl _ _ _ rfl eZ.o (y:Int) (.int .i64 (k:Nat)) (by rfl) (by rfl) (by rfl) ?_;intro w6 fA aD gK)
   have eO:=Ab (show AoX w n0 m v g w6 (k+1) (mput ml (y:Int) (.int .i64 (k:Nat))) from⟨dM.o.grown aD (by intro e;injection e with e;omega),fA,bS.o,cW.o.trans ((Fr.of_grown (S:=λq=>q=n0+1) aD (λq e=> .inl (Option.some.inj e).symm)).below (by have:=dM.o.lt;omega) (λq e=>by omega))⟩);go_roundw
   case rel=>exact⟨k+1,by go_num,dU,Ab ⟨_,eO.o⟩⟩
   case measure=>simp[intOf];omega
  have eY:k=N:=by omega
  subst eY
  have gI:¬ (k:Int)<k:=by omega
  have c6:=aT.o _ _ hA.o.box;go_wp2;have cQ:=hA.o.box.lt;have gA:=Ab (aT.o);generalize gB:g=E at*
  apply Ed [_,_,_,undef,_,_,_,undef,undef,undef] [35,36,37,38,39,40,41,42,6,7] (λvs D g wz=>(Below wr.heap.size wr.drew wz)/\(D 0->g 35=Bl vs 0)/\(D 1->g 36=Bl vs 1)/\(D 2->g 37=Bl vs 2)/\(D 3->∃Z,wr.heap.size<=Z/\g 38= .slice (some ⟨Z,0,none⟩) k k/\Blk wz Z 3 (nvs (List.replicate k 0)).toArray)/\(D 4->g 39=Bl vs 4)/\(D 5->g 40=Bl vs 5)/\(D 6->g 41=Bl vs 6)/\(D 7->∃gb,wr.heap.size<=gb/\g 42= .slice (some ⟨gb,0,none⟩) k k/\Blk wz gb 26 (Uv (λ_=>sv Ap) k))/\(D 8->∃Z,wr.heap.size<=Z/\g 6= .slice (some ⟨Z,0,none⟩) k k/\Blk wz Z 3 (nvs (List.replicate k 0)).toArray)/\(D 9->∃gb,wr.heap.size<=gb/\g 7= .slice (some ⟨gb,0,none⟩) k k/\Blk wz gb 26 (Uv (λ_=>sv Ap) k))/\True) 10 139 (by kernel_rfl) (by kernel_rfl) rfl rfl (by kernel_rfl)
  case h0=>exact⟨Below.refl _ _,nt0,nt0,nt0,nt0,nt0,nt0,nt0,nt0,nt0,nt0,trivial⟩
  case hstep=>
   refine⟨⟨⟨⟨⟨⟨⟨⟨⟨⟨trivial,?s0⟩,?s1⟩,?s2⟩,?s3⟩,?s4⟩,?s5⟩,?s6⟩,?s7⟩,?s8⟩,?s9⟩
   case s0=>
    refine sst λD g wz az J hI K M=>?_;obtain⟨Y,f0,f1,f2,f3,f4,f5,f6,f7,f8,f9,_⟩:=hI;have e1:=J.u 1;go_simp;exact M.o _ _ ⟨Y,λ_=>Aj.trans rfl,kp f1,kp f2,kp f3,kp f4,kp f5,kp f6,kp f7,kp f8,kp f9,trivial⟩
   case s1=>
    refine sst λD g wz az J hI K M=>?_;obtain⟨Y,f0,f1,f2,f3,f4,f5,f6,f7,f8,f9,_⟩:=hI;have cz:=(Y.cell (p:=⟨n0,6,none⟩) cQ).trans c6;have fV:=J.t 35 (f0 (J.d 0));go_simp;exact M.o _ _ ⟨Y,kp f0,λ_=>Aj.trans rfl,kp f2,kp f3,kp f4,kp f5,kp f6,kp f7,kp f8,kp f9,trivial⟩
   case s2=>
    refine sst λD g wz az J hI K M=>?_;obtain⟨Y,f0,f1,f2,f3,f4,f5,f6,f7,f8,f9,_⟩:=hI;have fW:=J.t 36 (f1 (J.d 1));go_simp;exact M.o _ _ ⟨Y,kp f0,kp f1,λ_=>Aj.trans rfl,kp f3,kp f4,kp f5,kp f6,kp f7,kp f8,kp f9,trivial⟩
   case s3=>
    refine sst λD g wz az J hI K M=>?_;obtain⟨Y,f0,f1,f2,f3,f4,f5,f6,f7,f8,f9,_⟩:=hI;have cS:=J.t 37 (f2 (J.d 2));have fL:=cS;rw[Array.getD_eq_getD_getElem?]at fL;refine Of (.tmp 37) (.tmp 37) 26 rfl 3 Tryz.underlying26 Dh k cS cS (by omega) (by omega) ?_;rw[Xn,AlD];exact M.o _ _ ⟨Y.alloc Y.size _,kp f0,kp f1,kp f2,λ_=>⟨_,Y.size,Aj,Blk.new2 rfl⟩,kp f4,kp f5,kp f6,kp (λh=>let⟨b,u0,u1,u2⟩:=(f7 h);⟨b,u0,u1,u2.alloc _⟩),kp (λh=>absurd (J.l _ 3 (h)) J.new),kp (λh=>absurd (J.l _ 3 (h)) J.new),trivial⟩
   case s4=>
    refine sst λD g wz az J hI K M=>?_;obtain⟨Y,f0,f1,f2,f3,f4,f5,f6,f7,f8,f9,_⟩:=hI;have e1:=J.u 1;go_simp;exact M.o _ _ ⟨Y,kp f0,kp f1,kp f2,kp f3,λ_=>Aj.trans rfl,kp f5,kp f6,kp f7,kp f8,kp f9,trivial⟩
   case s5=>
    refine sst λD g wz az J hI K M=>?_;obtain⟨Y,f0,f1,f2,f3,f4,f5,f6,f7,f8,f9,_⟩:=hI;have cz:=(Y.cell (p:=⟨n0,6,none⟩) cQ).trans c6;have fX:=J.t 39 (f4 (J.d 4));go_simp;exact M.o _ _ ⟨Y,kp f0,kp f1,kp f2,kp f3,kp f4,λ_=>Aj.trans rfl,kp f6,kp f7,kp f8,kp f9,trivial⟩
   case s6=>
    refine sst λD g wz az J hI K M=>?_;obtain⟨Y,f0,f1,f2,f3,f4,f5,f6,f7,f8,f9,_⟩:=hI;have fY:=J.t 40 (f5 (J.d 5));go_simp;exact M.o _ _ ⟨Y,kp f0,kp f1,kp f2,kp f3,kp f4,kp f5,λ_=>Aj.trans rfl,kp f7,kp f8,kp f9,trivial⟩
   case s7=>
    refine sst λD g wz az J hI K M=>?_;obtain⟨Y,f0,f1,f2,f3,f4,f5,f6,f7,f8,f9,_⟩:=hI;have cT:=J.t 41 (f6 (J.d 6));have fM:=cT;rw[Array.getD_eq_getD_getElem?]at fM;refine Of (.tmp 41) (.tmp 41) 91 rfl 26 Tryz.underlying91 AiI k cT cT (by omega) (by omega) ?_;rw[AjF];exact M.o _ _ ⟨Y.alloc Y.size _,kp f0,kp f1,kp f2,kp (λh=>let⟨b,u0,u1,u2⟩:=(f3 h);⟨b,u0,u1,u2.alloc _⟩),kp f4,kp f5,kp f6,λ_=>⟨_,Y.size,Aj,Blk.new2 rfl⟩,kp (λh=>let⟨b,u0,u1,u2⟩:=(f8 h);⟨b,u0,u1,u2.alloc _⟩),kp (λh=>absurd (J.l _ 7 (h)) J.new),trivial⟩
   case s8=>
    refine sst λD g wz az J hI K M=>?_;obtain⟨Y,f0,f1,f2,f3,f4,f5,f6,f7,f8,f9,_⟩:=hI;have d3:=f3 (J.d 3);obtain⟨Z,l1,eL,B1⟩:=d3;have eJ:=(J.get 38).trans eL
    try simp only[Bl,List.toList_toArray]at eJ
    go_simp;exact M.o _ _ ⟨Y,kp f0,kp f1,kp f2,kp f3,kp f4,kp f5,kp f6,kp f7,λ_=>⟨Z,l1,Aj,B1⟩,kp f9,trivial⟩
   case s9=>
    refine sst λD g wz az J hI K M=>?_;obtain⟨Y,f0,f1,f2,f3,f4,f5,f6,f7,f8,f9,_⟩:=hI;have d3:=f3 (J.d 3);have d7:=f7 (J.d 7);have d8:=f8 (J.d 8);obtain⟨gb,l1,eM,B1⟩:=d7;have eK:=(J.get 42).trans eM
    try simp only[Bl,List.toList_toArray]at eK
    go_simp;exact M.o _ _ ⟨Y,kp f0,kp f1,kp f2,kp f3,kp f4,kp f5,kp f6,kp f7,kp f8,λ_=>⟨gb,l1,Aj,B1⟩,trivial⟩
  case hdone=>
   rintro g w8 D hD ⟨Y,f0,f1,f2,f3,f4,f5,f6,f7,f8,f9,_⟩;have d3:=f3 (hD _);have d7:=f7 (hD _);have d8:=f8 (hD _);have d9:=f9 (hD _);clear hD D f0 f1 f2 f3 f4 f5 f6 f7 f8 f9;simp only[Fw,List.foldl_cons,List.foldl_nil,List.setIfInBounds_toArray,List.set_cons_succ,List.set_cons_zero];obtain⟨Z,gP,g6,BL⟩:=d8;obtain⟨gb,gM,g7,BB⟩:=d9;rw[g6,g7];clear g6 g7 d3 d7;generalize g 35=gQ at*;generalize g 36=gR at*;generalize g 37=gS at*;generalize g 38=gT at*;generalize g 39=gU at*;generalize g 40=gV at*;generalize g 41=gW at*;generalize g 42=gX at*;clear g;have bY:Below wr.heap.size wr w8:=((Dr.refl wr).drew.below _).trans Y;have aZ:=hA.o.box.below bY hA.o.box.lt;have bV:=hA.o.map.below bY hA.o.map.lt;have cJ:=hA.o.bel.trans (bY.mono (Nat.le_of_lt cQ));have gG:=hA.o.map.lt;have bS:=hA.o.pl;have gF:Z≠gb:=Af BL BB (by decide);have dV:=BL.lt;have dW:=BB.lt;clear Y hA;have c6:=aT.o _ _ aZ
   go_wp2_with fail
   refine(AkB k w8 hgn).mono ?_;rintro e w9 ⟨HH,gs,ga,rfl,lH,gO,gN,bR,aS⟩
   have dI:Hid (Ql w n0 Z gb HH gs ga k w9.heap.size m v E ml (λ_=>sv Ap) (λ_=>[]) w9 0 []):=by
    have hs:=aS.size;refine Ab ⟨⟨aZ.below aS aZ.lt,bV.below aS bV.lt,?_,Ajp _ _ _ _,BB.below aS BB.lt,⟨λj _=>Bd,λa b _ _ _ q hq=>by simp[Value.ownBlock]at hq⟩,bR,⟨by omega,by omega,by omega,by omega⟩,Nl _,by omega,?_,by omega⟩,λj _=>by simp[Jt],AkP E,rfl,rfl⟩
    ·rw[List.length_nil,AgV];exact BL.below aS BL.lt
    rw[dX];exact cJ.trans (aS.mono (by omega))
   generalize w9.heap.size=B at*;clear bR aS aZ bV BL BB cJ dV dW bY;have c6:=aT.o _ _ dI.o.1.box;go_wp2;clear c6
   go_loopw [50] (λx wr=>∃ i:Nat,x= .int .i64 i/\i<=k/\Hid (∃F LL,Ql w n0 Z gb HH gs ga k B m v E ml F LL wr i [])) (λx _=>k-(intOf x).toNat)
   case atStart=>exact⟨0,rfl,Nat.zero_le _,Ab ⟨_,_,dI.o⟩⟩
   case round=>
    obtain⟨i,rfl,hi,O⟩:=hrel;obtain⟨F,LL,O⟩:=O.o;replace O:=Ab O
    by_cases aU:i<k
    ·have fQ:(i:Int)<k:=by omega
     have cX:=hg.below O.o.1.bel (Nat.le_of_eq rfl);obtain⟨ad,rfl,g0,g1,g2⟩:=AcD cX aU;obtain⟨o1,o2,o3⟩:=Alb hok i;obtain⟨xa,eE⟩:∃ x,aG E i=x:=⟨_,rfl⟩;obtain⟨xb,aX⟩:∃ x,(E.getD i ⟨0,0,0⟩).b=x:=⟨_,rfl⟩;obtain⟨xc,aY⟩:∃ x,(E.getD i ⟨0,0,0⟩).c=x:=⟨_,rfl⟩;rw[eE]at g0 o1;rw[aX]at g1 o2;rw[aY]at g2 o3
     have cB:inG E i= [xb,xc]:=by unfold inG;rw[aX,aY]
     obtain⟨W5,aN,b5,aF⟩:=Bb wr #[.int .i64 (xa:Nat),.int .i64 (xb:Nat),.int .i64 (xc:Nat)] 62;have bH:=Ab (O.o.after aF);replace aN:=Ab aN;replace cB:=Ab cB;clear aF eE aX aY O
     go_upto_region 12 with fail
     rw[aN.o];clear aN g0 g1 g2;have u1:=b5.cell 1;have u2:=b5.cell 2;go_wp2;clear u1 u2 b5;have cK:=(Below.refl W5.heap.size W5).alloc (Nl _) (.cells #[.int .i64 (xb:Nat),.int .i64 (xc:Nat)] 3);have bI:=Ab (bH.o.after cK)
     have eR:Hid (Aff (W5.alloc (.cells #[.int .i64 (xb:Nat),.int .i64 (xc:Nat)] 3)) W5.heap.size #[.int .i64 (xb:Nat),.int .i64 (xc:Nat)] F (k+2)):=
      Ab ⟨Blk.new2 rfl,λa ha q hq=>by have:=(Dm (bH.o.1.fam.own a ha) hq).2;omega⟩
     have fJ:W5.heap.size≠Z:=by have:=bH.o.1.lk.lt;omega
     have fI:gb≠W5.heap.size:=by have:=bH.o.1.ab.lt;omega
     generalize W5.alloc (.cells #[.int .i64 (xb:Nat),.int .i64 (xc:Nat)] 3)=W6 at*;generalize W5.heap.size=rb at*;clear cK bH
     go_loopw [61] (λy wr=>∃ j:Nat,y= .int .i64 j/\j<=2/\Hid (∃F LL,Ql w n0 Z gb HH gs ga k B m v E ml F LL wr i (Mo E i j)/\Aff wr rb #[.int .i64 (xb:Nat),.int .i64 (xc:Nat)] F (k+2))) (λy _=>2-(intOf y).toNat)
     case atStart=>exact⟨0,rfl,by omega,Ab ⟨_,_,bI.o,eR.o⟩⟩
     case round=>
      obtain⟨j,rfl,hj,O⟩:=hrel;obtain⟨F,LL,O,hR⟩:=O.o;replace O:=Ab O;replace hR:=Ab hR
      by_cases gD:j<2
      ·have eX:(j:Int)<2:=by omega
       obtain⟨x,hx,eT⟩:∃ x,(inG E i)[j]?=some x/\wr.cell? ⟨rb,j,none⟩=some (.int .i64 (x:Nat)):=by
        rw[cB.o]
        rcases(show j=0∨j=1 by omega) with rfl|rfl
        ·exact⟨xb,rfl,hR.o.blk.cell 0⟩
        exact⟨xc,rfl,hR.o.blk.cell 1⟩
       have gJ:x<=40000000:=by
        have:=List.mem_of_getElem? hx
        rw[cB.o]at this;simp at this;omega
       obtain⟨y,hy⟩:∃ y,y=x/2:=⟨_,rfl⟩;have eU:=Zu x y hy
       have fG:(y:Int)<=40000000:=by omega
       have eD:(x:Int)<=40000000:=by omega
       have aO:=bS y;have bN:=O.o.1.map
       have dA:Ads E k y=Kw E (x/2):=by rw[<-aI,hy];rfl
       rw[dA]at aO;replace hy:=Ab hy
       cases aV:Kw E (x/2) with
       |none=>
        rw[aV]at aO;have cZ:=Ab (Agb hx aV);replace hx:=Ab hx;clear aV dA
        have l1:(mget ml (y:Int)).getD (Value.int .i64 0)= .int .i64 0:=by rw[aO];rfl
        have l2:(mget ml (y:Int)).isSome=false:=by rw[aO];rfl
        clear aO
        go_wp2_with (at_lookup;refine Qc (Ha Tryz.underlying3) Alr AhM rfl _ _ rfl bN.toO (y:Int) (by rfl) (by rfl) ?_;rw[l1,l2])
        go_roundw
        case rel=>exact⟨j+1,by go_num,by omega,Ab ⟨F,LL,by rw[cZ.o];exact O.o,hR.o⟩⟩
        case measure=>simp[intOf];omega
       |some q=>
        rw[aV]at aO
        have cF:q<k:=by rw[<-aI];exact(Tp aV).1
        have cZ:=Ab (AgA hx aV);replace hx:=Ab hx;clear aV dA
        have l1:(mget ml (y:Int)).getD (Value.int .i64 0)= .int .i64 (q:Nat):=by rw[aO];rfl
        have l2:(mget ml (y:Int)).isSome=true:=by rw[aO];rfl
        clear aO;obtain⟨dl,aM⟩:∃ dl,(Mo E i j).length=dl:=⟨_,rfl⟩
        have fO:dl<=2:=by rw[<-aM];exact AlB E i j
        have fP:(dl:Int)<=2:=by omega
        have cl:wr.cell? ⟨Z,i,none⟩=some (.int .i64 (dl:Nat)):=by
         rw[O.o.1.lk.cell i,aM]
         have:=Afb (g:=E) (x:=dl) aU
         simp[this]
        have zl:=O.o.1.lk.frozen i
        have dZ:(q:Int)<k:=by omega
        have fD:=Be (O.o.1.fam.own q (by omega));obtain⟨⟨Aq,Lq,Cq⟩,aC,aR⟩:=fD;replace aR:Lq=(LL q).length:=aR;replace aC:F q= .slice Aq Lq Cq:=aC
        have eP:Lq<=4000000:=by
         rw[aR,O.o.2.1 q cF,List.length_append,List.length_replicate]
         have:=Xf E q i
         have:=Agn E i j q
         omega
        obtain⟨W7,U⟩:∃ W7,W7=wr.setCell ⟨Z,i,none⟩ (.int .i64 ((dl+1:Nat):Int)):=⟨_,rfl⟩;have R:=O.o.1.setLack (i:=i) (x:=dl+1);rw[<-U]at R
        have cq:W7.cell? ⟨gb,q,none⟩=some (.slice Aq Lq Cq):=by
         rw[R.ab.cell q,AaT cF,aC]
        have bQ:W7.ownsRow B 3 1 (.slice Aq Lq Cq) Lq (nvs (LL q)):=by
         have:=R.fam.own q (by omega)
         rwa [aC,<-aR]at this
        have cG:B<=W7.heap.size:=R.sz;have dK:=Ab R.ab;have dS:=R.lo.2.2.2;have bW:=Ab (show Lq+1<=maxLen by unfold maxLen;omega);have bZ:=Ab (show(Lq+1)*8<=140737488355328 by omega);have gH:=Ab R;have bL:wr.setCell ⟨Z,i,none⟩ (.int .i64 ((dl:Int)+1))=W7:=U.symm;replace U:=Ab U;replace bL:=Ab bL;replace aM:=Ab aM;replace aC:=Ab aC;replace aR:=Ab aR;clear R
        go_upto_region 18 with(at_lookup;refine Qc (Ha Tryz.underlying3) Alr AhM rfl _ _ rfl bN.toO (y:Int) (by rfl) (by rfl) ?_;rw[l1,l2])
        rw[bL.o];clear cl zl eT bN
        go_wp2_with (at_builtin;refine Nx rfl _ _ _ rfl Tryz.underlying26 Dh rfl (by decide) rfl (by first|rfl|simp[go_sem]) bQ (Below.refl _ W7) cG (by rfl) (by simp[Value.oneCell']) bW.o bZ.o ?_;intro v6 w6 aA dN aD aB;obtain⟨⟨A6,N6,C6⟩,aE,aL⟩:=Be aA;replace aL:N6=Lq+1:=aL;subst aL;replace aE:v6= .slice A6 (Lq+1) C6:=aE;subst aE;replace aD:(W7.alloc (.cells #[.int .i64 (i:Nat)] 3)).grownBy w6 (Value.slice Aq Lq Cq).ownBlock:=aD;replace aB:(Value.slice A6 (Lq+1) C6).ownBlock=(Value.slice Aq Lq Cq).ownBlock∨(Value.slice A6 (Lq+1) C6).ownBlock=some (W7.heap.size+1):=aB;have b6:=(dK.o.alloc _).grown aD (Dw bQ dS);have z6:=b6.frozen q;have d6:=(b6.cell q).trans (AaT cF))
        have bT:Pb W7 (F q) (.slice A6 (Lq+1) C6):=by
         intro gq aH
         rcases aB with e|e
         ·left;rw[e]at aH;rw[aC.o];exact aH
         right;rw[e]at aH;injection aH with aH;omega
        have cL:(W7.alloc (.cells #[.int .i64 (i:Nat)] 3)).grownBy w6 (F q).ownBlock:=by rw[aC.o];exact aD
        have eQ:=Ab (O.o.add aU cF (by rw[aM.o];exact U.o) (by rw[<-aR.o];exact aA) cL bT);have eS:=Ab (hR.o.add (ds:=Mo E i j) fJ fI (by omega) (by rw[aM.o];exact U.o) cL bT);go_roundw
        case rel=>exact⟨j+1,by go_num,by omega,Ab ⟨_,_,by rw[cZ.o];exact eQ.o,eS.o⟩⟩
        case measure=>simp[intOf];omega
      have dT:j=2:=by omega
      subst dT
      have eX:¬ (2:Int)<2:=by omega
      replace O:Hid (Ql w n0 Z gb HH gs ga k B m v E ml F LL wr i (Cw E i)):=Ab O.o;obtain⟨dl,aM⟩:∃ dl,(Cw E i).length=dl:=⟨_,rfl⟩
      have cl:wr.cell? ⟨Z,i,none⟩=some (.int .i64 (dl:Nat)):=by
       rw[O.o.1.lk.cell i,aM]
       have:=Afb (g:=E) (x:=dl) aU
       simp[this]
      by_cases cA:Cw E i= []
      ·have dP:dl=0:=by rw[<-aM,cA];rfl
       subst dP;have hP:=Ab (Acm HH gs ga k B i (F k) (LL k) wr O.o.1.hp O.o.1.sz aU O.o.2.2.1.fresh)
       go_wp2_with fail
       refine hP.o.mono ?_;rintro e w6 ⟨rfl,dF,dY,cN,dQ⟩;have bI:=Ab (O.o.pushed cA dQ dY cN);clear hP cl dY cN dQ;go_wp2;go_roundw
       case rel=>exact⟨i+1,by go_num,aU,Ab ⟨_,_,bI.o⟩⟩
       case measure=>simp[intOf];omega
      have dP:¬ (dl:Int)=0:=by
       have:dl≠0:=by rw[<-aM];exact λe=>cA (List.length_eq_zero_iff.1 e)
       omega
      have fN:¬ dl=0:=by omega
      have bI:=Ab (O.o.next cA);go_wp2;go_roundw
      case rel=>exact⟨i+1,by go_num,aU,Ab ⟨_,_,bI.o⟩⟩
      case measure=>simp[intOf];omega
    have eW:i=k:=by omega
    subst eW
    have gC:¬ (i:Int)<i:=by omega
    obtain⟨I,M⟩:=Ku.start O.o aI;have bD:=O.o.2.2.2.2;have hP:=Ab (Afn HH gs ga i B (F i) (LL i) wr O.o.1.hp);replace I:=Ab I;replace M:=Ab M
    go_wp2_with fail
    refine hP.o.mono ?_;intro e w6 bJ;obtain⟨x0,b0,eF,dG,rfl,cH,dJ⟩:=Aln I.o M.o bJ;rw[bD]at cH;have hS:Hid (AoP w n0 Z gb HH gs ga i B m v E ml eF dG w6 [] x0 b0):=Ab dJ;clear hP I M bJ dJ bD O;replace cH:=Ab cH;go_wp2
    go_loopw [15,16,17] (λo x b wr=>∃ (out:List Nat) (z:Nat) (bl:Bool) (F:Nat->Value) (LL:Nat->List Nat),o=F (i+1)/\x= .int .i64 z/\b= .bool bl/\Hid (AoP w n0 Z gb HH gs ga i B m v E ml F LL wr out z bl)) (λo _ _ _=>i-AdO o)
    case atStart=>exact⟨[],x0,b0,eF,dG,cH.o.symm,rfl,rfl,hS⟩
    case round=>
     obtain⟨out,x,bl,F,LL,rfl,rfl,rfl,hS⟩:=hrel
     cases bl with
     |false=>
      obtain⟨r,I,M⟩:=(show ∃r,Ku w n0 Z gb HH gs ga i B m v E ml F LL wr out (r,[])/\Rr E out r [] from by
       rcases hS.o with⟨_,h⟩|⟨h,_⟩
       ·exact h
       cases h)
      have cM:=AmE hd M;have aP:=I.1.fam.own (i+1) (by omega);have fE:=I.1.wB;rw[I.2.2.2,cM]at aP;obtain⟨⟨A6,N6,C6⟩,aE,aL⟩:=Be aP;replace aL:N6=(Aw E).length:=aL;subst aL;replace aE:F (i+1)= .slice A6 (Aw E).length C6:=aE;rw[aE]at aP ⊢;have eA:Hid (Zp E w (.returned (.slice A6 (Aw E).length C6)) wr):=Ab ⟨⟨A6,(Aw E).length,C6⟩,rfl,Az aP fE,I.1.bel⟩;clear I M aP aE cM;go_wp2;go_ret;exact eA.o
     |true=>
      obtain⟨r,X,cY,hx,M,I⟩:=(show ∃r X,X≠ []/\x=atH X 0/\Rr E out r X/\Ku w n0 Z gb HH gs ga i B m v E ml F LL wr out (r,Lh X) from by
       rcases hS.o with⟨h,_⟩|⟨_,h⟩
       ·cases h
       exact h)
      clear hS;obtain⟨bF,_,bG⟩:=Alh hd M cY;have bO:=Ab (λq z=>AlI (q:=q) (k:=z) hd M cY);rw[<-hx]at bF bG bO;rw[aI]at bF bO;replace I:=Ab I;replace bG:=Ab bG
      have eD:(x:Int)<i:=by omega
      have fU:out.length<i:=by
       rw[<-aI];exact Xq M.onod M.olt (λhm=>((M.mem x).1 (by rw[hx];exact(Ahl M.heap cY).2.1.mem_iff.2 List.mem_cons_self)).2.1 hm) (by rw[aI];exact bF)
      clear hx M;have aJ:=I.o.1.fam.own (i+1) (by omega);rw[I.o.2.2.2]at aJ;obtain⟨⟨Ao,No,Co⟩,aQ,dC⟩:=Be aJ;replace dC:No=out.length:=dC;subst dC;replace aQ:F (i+1)= .slice Ao out.length Co:=aQ;rw[aQ]at aJ ⊢;have aK:=I.o.1.fam.own x (by omega);rw[I.o.2.1 x bF]at aK;obtain⟨⟨Ax,Lx,Cx⟩,bE,aW⟩:=Be aK;replace aW:Lx=(Br E x).length:=aW;replace bE:F x= .slice Ax Lx Cx:=bE
      have eP:(Lx:Int)<=4000000:=by
       have:=Xf E x E.length
       unfold Br at aW;omega
      have cG:B<=wr.heap.size:=I.o.1.sz;have bW:=Ab (show out.length+1<=maxLen by unfold maxLen;omega);have bZ:=Ab (show(out.length+1)*8<=140737488355328 by omega);clear aK;replace aQ:=Ab aQ;replace bE:=Ab bE;replace aW:=Ab aW
      go_upto_region 28 with(at_builtin;refine Nx rfl _ _ _ rfl Tryz.underlying26 Dh rfl (by decide) rfl (by first|rfl|simp[go_sem]) aJ (Below.refl _ wr) cG (by rfl) (by simp[Value.oneCell']) bW.o bZ.o ?_;intro v6 w6 aA dN aD aB;obtain⟨⟨A6,N6,C6⟩,aE,aL⟩:=Be aA;replace aL:N6=out.length+1:=aL;subst aL;replace aE:v6= .slice A6 (out.length+1) C6:=aE;subst aE;replace aD:(wr.alloc (.cells #[.int .i64 (x:Nat)] 3)).grownBy w6 (Value.slice Ao out.length Co).ownBlock:=aD;replace aB:(Value.slice A6 (out.length+1) C6).ownBlock=(Value.slice Ao out.length Co).ownBlock∨(Value.slice A6 (out.length+1) C6).ownBlock=some (wr.heap.size+1):=aB)
      have bT:Pb wr (F (i+1)) (.slice A6 (out.length+1) C6):=by
       intro gq aH
       rcases aB with e|e
       ·left;rw[e]at aH;rw[aQ.o];exact aH
       right;rw[e]at aH;injection aH with aH;omega
      have dH:=Ab (I.o.told aA (by rw[aQ.o];exact aD) bT);obtain⟨ov,bP⟩:∃ ov,Value.slice A6 (out.length+1) C6=ov:=⟨_,rfl⟩
      have bU:Fs F (i+1) (.slice A6 (out.length+1) C6) (i+1)=ov:=by rw[Fx,bP]
      have bC:Fs F (i+1) (.slice A6 (out.length+1) C6) x= .slice Ax Lx Cx:=by rw[Bs (by omega)];exact bE.o
      have cE:AdO ov=out.length+1:=by rw[<-bP];rfl
      rw[bP];replace bP:=Ab bP;generalize Fs F (i+1) (.slice A6 (out.length+1) C6)=fK at*;generalize Fs LL (i+1) (out++ [x])=eH at*;clear I aJ aA dN aD aB bT bW bZ cG aQ bE
      have cx:w6.cell? ⟨gb,x,none⟩=some (.slice Ax Lx Cx):=by
       rw[dH.o.1.ab.cell x,AaT bF,bC]
      replace bC:=Ab bC;replace bU:=Ab bU;replace cE:=Ab cE;go_wp2;clear cx
      go_loopw [119] (λy wr=>∃ (q:Nat) (F:Nat->Value) (LL:Nat->List Nat),y= .int .i64 q/\q<=Lx/\Hid (F x= .slice Ax Lx Cx)/\Hid (F (i+1)=ov)/\Hid (Ku w n0 Z gb HH gs ga i B m v E ml F LL wr (out++ [x]) (Fa (r,Lh X) ((Br E x).take q)))) (λy _=>Lx-(intOf y).toNat)
      case atStart=>exact⟨0,fK,eH,rfl,Nat.zero_le _,bC,bU,Ab dH.o⟩
      case round=>
       obtain⟨q,F,LL,rfl,hq,dE,bD,I⟩:=hrel
       by_cases dB:q<Lx
       ·have dZ:(q:Int)<Lx:=by omega
        have aK:=I.o.1.fam.own x (by omega);rw[I.o.2.1 x bF,dE.o,<-aW.o]at aK;obtain⟨gx,rfl,z,hz,cz⟩:=Jp aK dB;obtain⟨m1,m2,m3,m4,m5⟩:=bO.o q z hz;have dD:=Ab (Afl (s:=(r,Lh X)) hz);obtain⟨S,hS⟩:∃ S,Fa (r,Lh X) ((Br E x).take q)=S:=⟨_,rfl⟩;rw[hS]at m2 m3 m4 m5 dD I
        have gL:(z:Int)<i:=by omega
        obtain⟨cl,zl⟩:=I.o.lack m1;obtain⟨lz,bM⟩:∃ lz,atH S.1 z=lz+1:=⟨atH S.1 z-1,by omega⟩;rw[bM]at cl
        have gE:lz<=1000000000:=by omega
        have fS:(lz:Int)<=1000000000:=by omega
        replace bM:=Ab bM;replace hz:=Ab hz;clear aK hS;obtain⟨W7,U⟩:∃ W7,W7=wr.setCell ⟨Z,z,none⟩ (.int .i64 (lz:Nat)):=⟨_,rfl⟩;have R:=I.o.1.setLack (i:=z) (x:=lz);rw[<-U]at R
        have c7:W7.cell? ⟨Z,z,none⟩=some (.int .i64 (lz:Nat)):=by
         rw[R.lk.cell z];simp[I.o.1.ll,m1]
        replace U:=Ab U
        by_cases cC:lz=0
        ·have bB:(lz:Int)=0:=by omega
         replace bB:=Ab bB;replace cC:=Ab cC;have hP:=Ab (Acm HH gs ga i B z (F i) S.2 W7 (by have:=R.hp;rwa [I.o.2.2.1]at this) R.sz m1 m4);clear R
         go_upto_region 32 with fail
         rw[<-U.o];clear cl zl cz;have fR:=bB.o
         go_wp2_with fail
         refine hP.o.mono ?_;rintro e w9 ⟨rfl,dF,bR,cO,dR⟩;have bX:=Ab (I.o.freed (by rw[bM.o];rfl) cC.o U.o dR bR cO);have fF:Fs F i dF x=F x:=Bs (by omega);have eV:Fs F i dF (i+1)=F (i+1):=Bs (by omega);clear hP c7 bR cO dR;go_wp2;go_roundw
         case rel=>exact⟨q+1,_,_,by go_num,dB,Ab (fF.trans dE.o),Ab (eV.trans bD.o),Ab (by rw[dD.o];exact bX.o)⟩
         case measure=>simp[intOf];omega
        have bB:¬ (lz:Int)=0:=by omega
        have bX:=Ab (I.o.less (x:=lz) (by rw[bM.o];rfl) cC);rw[<-U.o]at bX;clear R
        go_upto_region 32 with fail
        rw[<-U.o];clear cl zl cz;go_wp2;go_roundw
        case rel=>exact⟨q+1,F,LL,by go_num,dB,dE,bD,Ab (by rw[dD.o];exact bX.o)⟩
        case measure=>simp[intOf];omega
       have fC:q=Lx:=by omega
       subst fC
       have dZ:¬ (q:Int)<q:=by omega
       have eB:(Br E x).take q=Br E x:=List.take_of_length_le (by rw[aW.o];exact Nl _);rw[eB]at I;obtain⟨S,hS⟩:∃ S,Fa (r,Lh X) (Br E x)=S:=⟨_,rfl⟩;rw[hS]at I bG;obtain⟨S1,S2⟩:=S;have hp:=I.o.1.hp;have hP:=Ab (Afn HH gs ga i B (F i) S2 wr (by rwa [I.o.2.2.1]at hp));clear hp hS eB
       go_wp2_with fail
       refine hP.o.mono ?_;intro e w9 bJ;obtain⟨x9,b9,eG,eI,rfl,eC,cV⟩:=Aln I.o bG.o bJ;have cP:=Ab (eC.trans bD.o);replace cV:=Ab cV;clear hP bJ eC;go_wp2;go_roundw
       case rel=>exact⟨out++ [x],x9,b9,eG,eI,cP.o.symm,rfl,rfl,cV⟩
       case measure=>
        have e1:AdO (eG (i+1))=out.length+1:=by rw[cP.o,cE.o]
        simp[e1,cE.o,show AdO (Value.slice Ao out.length Co)=out.length from rfl];omega
end Go.Proofs.YtmidbhnhcbpneaaGreatDoor.Top
end
section
namespace Go.Proofs.YtmidbhnhcbpneaaGreatDoor.Top
open Go Go.RowKit Go.Lt YtmidbhnhcbpneaaGreatDoor.Lit YtmidbhnhcbpneaaGreatDoor.Dec
open YtmidbhnhcbpneaaGreatDoor.Circ (T3 enc3 RdT Sl Cv Ae)
theorem RdS.of_own {w:World} {base n size:Nat} {e:TypeId} {v:Value} {xs:List Value} (h:w.ownsRow base e size v n xs):∃ A c,v= .slice A n c/\n<=c/\c<=maxLen/\RdS w A n size xs:=by
 obtain⟨y,h2⟩:=h
 rcases h2 with⟨rfl,rfl⟩|⟨g,j,q,rfl,r,z,p,m,x,l⟩
 ·exact⟨none,0,rfl,Nl _,Nat.zero_le _,y,.inl rfl⟩
 exact⟨some ⟨g,0,none⟩,j,rfl,p,m,y,.inr ⟨_,rfl,(Array.getElem?_eq_some_iff.1 z).1,λk u B=>World.ownsRow.cells (v:= .slice (some ⟨g,0,none⟩) n j) ⟨y,.inr ⟨g,j,q,rfl,r,z,p,m,x,l⟩⟩ rfl k u B⟩⟩
structure RdC (W:World) (v:Cv) (x:Bp):Prop where
 ins:Rd W v.ins.A v.ins.n (nvs x.c.ins)
 lat:RdT W v.lat.A v.lat.n (x.c.lat.map t3)
 outs:Rd W v.outs.A v.outs.n (nvs x.c.outs)
 bads:Rd W v.bads.A v.bads.n (nvs x.c.bads)
 cons:Rd W v.cons.A v.cons.n (nvs x.c.cons)
 gat:RdT W v.gat.A v.gat.n (x.c.gat.map t3)
 sym:RdS W v.sym.A v.sym.n 3 (Kv x.sym)
 com:v.com=bstr x.com
theorem RdC.below {W W':World} {v:Cv} {x:Bp} {B:Nat} (h:RdC W v x) (hb:Below B W W') (hB:W.heap.size<=B):RdC W' v x:=
 ⟨h.ins.below hb hB,h.lat.below hb hB,h.outs.below hb hB,h.bads.below hb hB,h.cons.below hb hB,h.gat.below hb hB,h.sym.below hb hB,h.com⟩
section
variable {W:World} {v:Cv} {x:Bp} (h:RdC W v x)
include h
theorem RdC.nIns:v.ins.n=x.c.ins.length:=by have:=h.ins.1;rw[List.length_map]at this;omega
theorem RdC.nLat:v.lat.n=x.c.lat.length:=by have:=h.lat.1;rw[List.length_map]at this;omega
theorem RdC.nOuts:v.outs.n=x.c.outs.length:=by have:=h.outs.1;rw[List.length_map]at this;omega
theorem RdC.nBads:v.bads.n=x.c.bads.length:=by have:=h.bads.1;rw[List.length_map]at this;omega
theorem RdC.nCons:v.cons.n=x.c.cons.length:=by have:=h.cons.1;rw[List.length_map]at this;omega
theorem RdC.nGat:v.gat.n=x.c.gat.length:=by have:=h.gat.1;rw[List.length_map]at this;omega
theorem RdC.nSym:v.sym.n=x.sym.length:=by have:=h.sym.1;rw[Uu]at this;omega
end
structure Lj (B:Nat) (W:World) (v:Cv) (x:Bp):Prop where
 c:Fi B W v x.c
 sym:W.ownsRow B 65 3 (sv v.sym) x.sym.length (Kv x.sym)
 com:v.com=bstr x.com
theorem AdE {W:World} {B:Nat} {s:Sl} {l:List Nat} (h:W.ownsRow B 3 1 (sv s) l.length (nvs l)):Rd W s.A s.n (nvs l):=by
 obtain⟨A,c,m,_,_,j⟩:=Rd.of_own h;injection m with h1 h2 _;rw[h1,h2];exact j
theorem Ahv {W:World} {B:Nat} {e:TypeId} {s:Sl} {l:List N3} (h:W.ownsRow B e 3 (sv s) l.length (Iv l)):RdT W s.A s.n (l.map t3):=by
 have j:W.ownsRow B e 3 (sv s) (l.map t3).length (enc3 (l.map t3)):=by rw[List.length_map];exact h
 obtain⟨A,c,p,_,_,m⟩:=RdT.of_own j;injection p with h1 h2 _;rw[h1,h2];exact m
theorem Lj.rd {B:Nat} {W:World} {v:Cv} {x:Bp} (h:Lj B W v x):RdC W v x:=by
 refine⟨AdE h.c.ins,Ahv h.c.lat,AdE h.c.outs,AdE h.c.bads,AdE h.c.cons,Ahv h.c.gat,?_,h.com⟩;obtain⟨A,c,l,_,_,j⟩:=RdS.of_own h.sym;injection l with h1 h2 _;rw[h1,h2];exact j
structure Mx (x:Bp):Prop where
 ins:x.c.ins.length<=16777216
 lat:x.c.lat.length<=16777216
 outs:x.c.outs.length<=16777216
 bads:x.c.bads.length<=16777216
 cons:x.c.cons.length<=16777216
 gat:x.c.gat.length<=1000000
 sym:x.sym.length<=2000000
theorem Ux {l:List Nat}:∀ u∈nvs l,u.oneCell'=true:=by
 intro u j;obtain⟨x,_,rfl⟩:=List.mem_map.1 j;rfl
theorem AfP {l:List Sy}:∀ u∈Kv l,u.oneCell'=true:=by
 intro u m;obtain⟨x,_,j⟩:=List.mem_flatMap.1 m;unfold sy3 at j;simp at j
 rcases j with rfl|rfl|rfl<;>rfl
theorem Fq (w:World) (base:Nat) (e:TypeId) (size:Nat) (h:base<=w.heap.size):(w.alloc (.cells #[] e)).ownsRow base e size (.slice (some ⟨w.heap.size,0,none⟩) 0 0) 0 []:=
 ⟨by simp,.inr ⟨w.heap.size,0,#[],rfl,h,heap_alloc_new w _,Nl _,Nat.zero_le _,by simp,by simp⟩⟩
theorem Mp (A:Option Addr) (n c:Nat) (xs:List Value) (w:World) (hn:n<=20000000) (hr:RdS w A n 1 xs) (h1:∀ u∈xs,u.oneCell'=true):
  Calls Tryz.prog 73 #[.slice A n c] w λe y=>∃ s:Sl,e= .returned (sv s)/\s.n=n/\y.ownsRow w.heap.size 3 1 (sv s) n xs/\Below w.heap.size w y:=by
 have F:∀ (w:World) (a:Option Addr) (n c q c':Nat),(binOp .eql 26 (.slice a n c) (.slice none q c')).run Tryz.prog w= .ok (.bool a.isNone) w:=λw a n c q c'=>Lib.run_eql_slice_nil w _ _ a n c q c' Tryz.underlying26;have r:=Ab hn;clear hn
 rcases A with _|z
 ·have B:n=0:=by
   rcases hr.2 with h|⟨z,h,_⟩
   ·exact h
   cases h
  subst B;have p:xs= []:=List.eq_nil_of_length_eq_zero (by have:=hr.1;simpa using this);subst p
  go_enter Tryz.func73,Tryz.ntmps73
  go_wp2;go_ret
  exact⟨Ap,rfl,rfl,Bd,Below.refl _ _⟩
 have x:=(Below.refl w.heap.size w).alloc (Nl _) (.cells #[] 3)
 go_enter Tryz.func73,Tryz.ntmps73
 go_wp2_with (at_builtin;refine Gq rfl _ _ _ rfl Tryz.underlying26 Dh rfl (by decide) rfl rfl (Fq w w.heap.size 3 1 (Nl _)) x (by simp) (hr.below x (Nl _)) h1 (by have:=r.o;unfold maxLen;omega) (by have:=r.o;omega) ?_;intro I J l m _)
 go_ret
 have j:J.ownsRow w.heap.size 3 1 I n xs:=by simpa using l
 obtain⟨s,E,D⟩:=Be j;rw[E]at j ⊢
 exact⟨s,rfl,D,j,m⟩
theorem Aga (A:Option Addr) (n c:Nat) (xs:List Value) (w:World) (hn:n<=20000000) (hr:RdS w A n 3 xs) (h1:∀ u∈xs,u.oneCell'=true):
  Calls Tryz.prog 74 #[.slice A n c] w λe y=>∃ s:Sl,e= .returned (sv s)/\s.n=n/\y.ownsRow w.heap.size 59 3 (sv s) n xs/\Below w.heap.size w y:=by
 have F:∀ (w:World) (a:Option Addr) (n c q c':Nat),(binOp .eql 27 (.slice a n c) (.slice none q c')).run Tryz.prog w= .ok (.bool a.isNone) w:=λw a n c q c'=>Lib.run_eql_slice_nil w _ _ a n c q c' Tryz.underlying27;have r:=Ab hn;clear hn
 rcases A with _|z
 ·have B:n=0:=by
   rcases hr.2 with h|⟨z,h,_⟩
   ·exact h
   cases h
  subst B;have p:xs= []:=List.eq_nil_of_length_eq_zero (by have:=hr.1;simpa using this);subst p
  go_enter Tryz.func74,Tryz.ntmps74
  go_wp2;go_ret
  exact⟨Ap,rfl,rfl,Bd,Below.refl _ _⟩
 have x:=(Below.refl w.heap.size w).alloc (Nl _) (.cells #[] 59)
 go_enter Tryz.func74,Tryz.ntmps74
 go_wp2_with (at_builtin;refine Gq rfl _ _ _ rfl Tryz.underlying27 Ro rfl (by decide) rfl rfl (Fq w w.heap.size 59 3 (Nl _)) x (by simp) (hr.below x (Nl _)) h1 (by have:=r.o;unfold maxLen;omega) (by have:=r.o;omega) ?_;intro I J l m _)
 go_ret
 have j:J.ownsRow w.heap.size 59 3 I n xs:=by simpa using l
 obtain⟨s,E,D⟩:=Be j;rw[E]at j ⊢
 exact⟨s,rfl,D,j,m⟩
theorem Agd (A:Option Addr) (n c:Nat) (xs:List Value) (w:World) (hn:n<=20000000) (hr:RdS w A n 3 xs) (h1:∀ u∈xs,u.oneCell'=true):
  Calls Tryz.prog 75 #[.slice A n c] w λe y=>∃ s:Sl,e= .returned (sv s)/\s.n=n/\y.ownsRow w.heap.size 62 3 (sv s) n xs/\Below w.heap.size w y:=by
 have F:∀ (w:World) (a:Option Addr) (n c q c':Nat),(binOp .eql 28 (.slice a n c) (.slice none q c')).run Tryz.prog w= .ok (.bool a.isNone) w:=λw a n c q c'=>Lib.run_eql_slice_nil w _ _ a n c q c' Tryz.underlying28;have r:=Ab hn;clear hn
 rcases A with _|z
 ·have B:n=0:=by
   rcases hr.2 with h|⟨z,h,_⟩
   ·exact h
   cases h
  subst B;have p:xs= []:=List.eq_nil_of_length_eq_zero (by have:=hr.1;simpa using this);subst p
  go_enter Tryz.func75,Tryz.ntmps75
  go_wp2;go_ret
  exact⟨Ap,rfl,rfl,Bd,Below.refl _ _⟩
 have x:=(Below.refl w.heap.size w).alloc (Nl _) (.cells #[] 62)
 go_enter Tryz.func75,Tryz.ntmps75
 go_wp2_with (at_builtin;refine Gq rfl _ _ _ rfl Tryz.underlying28 Vo rfl (by decide) rfl rfl (Fq w w.heap.size 62 3 (Nl _)) x (by simp) (hr.below x (Nl _)) h1 (by have:=r.o;unfold maxLen;omega) (by have:=r.o;omega) ?_;intro I J l m _)
 go_ret
 have j:J.ownsRow w.heap.size 62 3 I n xs:=by simpa using l
 obtain⟨s,E,D⟩:=Be j;rw[E]at j ⊢
 exact⟨s,rfl,D,j,m⟩
theorem Ahh (A:Option Addr) (n c:Nat) (xs:List Value) (w:World) (hn:n<=20000000) (hr:RdS w A n 3 xs) (h1:∀ u∈xs,u.oneCell'=true):
  Calls Tryz.prog 76 #[.slice A n c] w λe y=>∃ s:Sl,e= .returned (sv s)/\s.n=n/\y.ownsRow w.heap.size 65 3 (sv s) n xs/\Below w.heap.size w y:=by
 have F:∀ (w:World) (a:Option Addr) (n c q c':Nat),(binOp .eql 29 (.slice a n c) (.slice none q c')).run Tryz.prog w= .ok (.bool a.isNone) w:=λw a n c q c'=>Lib.run_eql_slice_nil w _ _ a n c q c' Tryz.underlying29;have r:=Ab hn;clear hn
 rcases A with _|z
 ·have B:n=0:=by
   rcases hr.2 with h|⟨z,h,_⟩
   ·exact h
   cases h
  subst B;have p:xs= []:=List.eq_nil_of_length_eq_zero (by have:=hr.1;simpa using this);subst p
  go_enter Tryz.func76,Tryz.ntmps76
  go_wp2;go_ret
  exact⟨Ap,rfl,rfl,Bd,Below.refl _ _⟩
 have x:=(Below.refl w.heap.size w).alloc (Nl _) (.cells #[] 65)
 go_enter Tryz.func76,Tryz.ntmps76
 go_wp2_with (at_builtin;refine Gq rfl _ _ _ rfl Tryz.underlying29 AeK rfl (by decide) rfl rfl (Fq w w.heap.size 65 3 (Nl _)) x (by simp) (hr.below x (Nl _)) h1 (by have:=r.o;unfold maxLen;omega) (by have:=r.o;omega) ?_;intro I J l m _)
 go_ret
 have j:J.ownsRow w.heap.size 65 3 I n xs:=by simpa using l
 obtain⟨s,E,D⟩:=Be j;rw[E]at j ⊢
 exact⟨s,rfl,D,j,m⟩
end Go.Proofs.YtmidbhnhcbpneaaGreatDoor.Top
end
