/- A part of the proof. -/
import Derived.Test.YtmidbhnhcbpneaaGreatDoorM3
import Derived.Test.YtmidbhnhcbpneaaGreatDoorProg
import Derived.WalkKit
import Derived.WalkLawsBesides
import Derived.KernelRfl
import Derived.Test.YtmidbhnhcbpneaaGreatDoorM1
import Derived.Shelf.Strconv.Atoi
import Derived.Shelf.LaysM
import Derived.Shelf.Strconv.Itoa3
import Derived.Shelf.Strings.Prefix
import Derived.Ground.Names2Prog
set_option linter.unusedVariables false
set_option linter.unusedSimpArgs false
set_option maxRecDepth 8000
set_option maxHeartbeats 8000000
section
namespace Go.Proofs.YtmidbhnhcbpneaaGreatDoor.Top
open Go YtmidbhnhcbpneaaGreatDoor.Dec
def z3:N3:=⟨0,0,0⟩
def Av (c:Cir):List Nat:=c.ins++c.lat.map N3.a++(Aw c.gat).map λi=>(c.gat.getD i z3).a
def ofC (c:Cir) (l:Nat):Nat:=if l<2 then l else 2*((Av c).idxOf (l-l%2)+1)+l%2
def Qj (c:Cir) (g:N3):N3:=⟨ofC c g.a,max (ofC c g.b) (ofC c g.c),min (ofC c g.b) (ofC c g.c)⟩
def Ak (c:Cir):Cir:=⟨(Av c).length,c.ins.map (ofC c),c.lat.map λx=>⟨ofC c x.a,ofC c x.b,if x.c=x.a then ofC c x.a else x.c⟩,c.outs.map (ofC c),c.bads.map (ofC c),c.cons.map (ofC c),(Aw c.gat).map λi=>Qj c (c.gat.getD i z3)⟩
theorem Fh (n lit:Nat):(evens n lit).length=n:=by simp[evens]
theorem Se {n lit k:Nat} (h:k<n):(evens n lit)[k]?=some (lit+2*k):=by
 unfold evens;rw[List.getElem?_map,List.getElem?_range h];rfl
theorem Jw (m n lit:Nat):evens (m+n) lit=evens m lit++evens n (lit+2*m):=by
 unfold evens;rw[List.range_add,List.map_append,List.map_map]
 congr 1
 apply List.map_congr_left
 intro k _
 show lit+2*(m+k)=lit+2*m+2*k
 omega
theorem Oe {n lit x:Nat}:x∈evens n lit↔∃k,k<n/\x=lit+2*k:=by
 unfold evens;rw[List.mem_map]
 exact⟨λ⟨k,h,e⟩=>⟨k,List.mem_range.1 h,e.symm⟩,λ⟨k,h,e⟩=>⟨k,List.mem_range.2 h,e.symm⟩⟩
theorem Xu (n lit:Nat):(evens n lit).Nodup:=by
 unfold evens List.Nodup;rw[List.pairwise_map];exact List.pairwise_lt_range.imp (λh e=>by omega)
theorem Wv {l:List Nat} (h:l.Nodup) {p q:Nat} (hp:p<l.length) (hq:q<l.length) (e:l[p]=l[q]):p=q:=by
 rcases Nat.lt_trichotomy p q with j|j|j
 ·exact absurd e (List.pairwise_iff_getElem.1 h p q hp hq j)
 ·exact j
 exact absurd e.symm (List.pairwise_iff_getElem.1 h q p hq hp j)
theorem Ll:∀ (a b:List Nat),a.Nodup->(∀x∈a,x∈b)->a.length<=b.length
 | [],b,_,_=>Nat.zero_le _
 |x::a,b,hn,hs=>by
  rw[List.nodup_cons]at hn;have j:=hs x List.mem_cons_self;have l:=Ll a (b.erase x) hn.2 (λy hy=>(List.mem_erase_of_ne (show y≠x from λe=>hn.1 (by rw[<-e];exact hy))).2 (hs y (List.mem_cons_of_mem _ hy)));rw[List.length_erase_of_mem j]at l
  have:=List.length_pos_of_mem j
  rw[List.length_cons];omega
theorem Aml {a b:List Nat} (ha:a.Nodup) (hb:b.Nodup) (hs:∀ x∈a,x∈b) (hl:b.length<=a.length):List.Perm a b:=by
 refine(List.perm_ext_iff_of_nodup ha hb).2 (λx=>⟨hs x,λj=>?_⟩)
 by_cases h:x∈a
 ·exact h
 have:=Ll (x::a) b (List.nodup_cons.2 ⟨h,ha⟩) (λy hy=>by
  rcases List.mem_cons.1 hy with rfl|hy
  ·exact j
  exact hs y hy)
 rw[List.length_cons]at this;omega
theorem AgR (g:List N3) (h:(Aw g).length=g.length):List.Perm (Aw g) (List.range g.length):=by
 obtain⟨j,h2⟩:=Ge g;refine Aml j List.nodup_range (λi hi=>List.mem_range.2 (h2 i hi)) ?_;rw[List.length_range,h];exact Nat.le_refl _
theorem AhK (g:List N3):((List.range g.length).map λi=>(g.getD i z3).a)=g.map N3.a:=by
 apply List.ext_getElem?
 intro k;rw[List.getElem?_map,List.getElem?_map]
 by_cases h:k<g.length
 ·rw[List.getElem?_range h,List.getElem?_eq_getElem h];simp[List.getD,h]
 rw[List.getElem?_eq_none (by simp;omega),List.getElem?_eq_none (by omega)];rfl
theorem Lm {c:Cir} (h:Ag c):List.Perm (Av c) (Dd c):=by
 unfold Av Dd;refine List.Perm.append_left _ ?_;rw[<-AhK c.gat]
 exact(AgR c.gat h.all).map _
section
variable {c:Cir}
theorem Ts (h:Ag c):(Av c).Nodup:=(Lm h).nodup_iff.2 h.one
theorem Jk (h:Ag c) {x:Nat}:x∈Av c↔x∈Dd c:=(Lm h).mem_iff
theorem AeC (h:Ag c) {x:Nat} (hx:x∈Av c):2<=x/\x%2=0:=⟨(h.own x ((Jk h).1 hx)).1,(h.own x ((Jk h).1 hx)).2.1⟩
theorem Ht (c:Cir):(Av c).length=c.ins.length+c.lat.length+(Aw c.gat).length:=by unfold Av;simp;omega
theorem Ale (h:Ag c) {k x:Nat} (hx:(Av c)[k]?=some x):ofC c x=2*(k+1):=by
 obtain⟨l,e⟩:=List.getElem?_eq_some_iff.1 hx;obtain⟨h2,j⟩:=AeC h (List.mem_of_getElem? hx);unfold ofC;rw[if_neg (by omega),j,Nat.sub_zero,<-e,(Ts h).idxOf_getElem k l];rfl
theorem AlK (h:Ag c):(Av c).map (ofC c)=evens (Av c).length 2:=by
 apply List.ext_getElem?
 intro k;rw[List.getElem?_map]
 by_cases j:k<(Av c).length
 ·rw[List.getElem?_eq_getElem j,Se j];simp only[Option.map_some,Option.some.injEq];rw[Ale h (List.getElem?_eq_getElem j)];omega
 rw[List.getElem?_eq_none (by omega),List.getElem?_eq_none (by rw[Fh];omega)];rfl
theorem Tu (h:Ag c):c.ins.map (ofC c)=evens c.ins.length 2/\(c.lat.map λx=>ofC c x.a)=evens c.lat.length (2+2*c.ins.length)/\((Aw c.gat).map λi=>ofC c (c.gat.getD i z3).a)=evens (Aw c.gat).length (2+2*c.ins.length+2*c.lat.length):=by
 have j:=AlK h;rw[Ht,Jw,Jw]at j;unfold Av at j;rw[List.map_append,List.map_append]at j;obtain⟨h2,l⟩:=List.append_inj j (by simp[Fh]);obtain⟨p,m⟩:=List.append_inj h2 (by simp[Fh]);rw[List.map_map]at m l;refine⟨p,m,?_⟩
 have e:2+2*c.ins.length+2*c.lat.length=2+2*(c.ins.length+c.lat.length):=by omega
 rw[e];exact l
theorem Zk (h:Ag c) {l:Nat} (hl:l<2∨l-l%2∈Dd c):ofC c l<=2*(Av c).length+1/\(ofC c l)%2=l%2/\(ofC c l<2↔l<2):=by
 unfold ofC
 by_cases h2:l<2
 ·rw[if_pos h2];omega
 rw[if_neg h2];have j:l-l%2∈Av c:=(Jk h).2 (hl.resolve_left h2)
 have:=List.idxOf_lt_length_of_mem j
 omega
theorem Du (h:Ag c) {l:Nat} (hl:l∈Ch c):l<2∨l-l%2∈Dd c:=by
 by_cases h2:l<2
 ·exact .inl h2
 exact .inr (h.def_ l hl (by omega))
theorem of_low (h:Ag c) {k i:Nat} (hk:(Aw c.gat)[k]?=some i) {y:Nat} (hy:y=(c.gat.getD i z3).b∨y=(c.gat.getD i z3).c):ofC c y<2*(c.ins.length+c.lat.length+k+1):=by
 have hi:=(Ge c.gat).2 i (List.mem_of_getElem? hk)
 have A:c.gat[i]?=some (c.gat.getD i z3):=by simp[List.getD,hi]
 have l:=List.mem_of_getElem? A
 have hu:y∈Ch c:=by
  rcases hy with rfl|rfl
  ·exact(Bg l).1
  exact(Bg l).2
 have D:=Aaj c.gat k i hk;unfold De at D;simp only[Bool.and_eq_true,Bool.not_eq_true']at D
 have M:Gj c.gat ((Aw c.gat).take k) y=false:=by
  rcases hy with rfl|rfl
  ·exact D.1.2
  exact D.2
 by_cases h2:y<2
 ·unfold ofC;rw[if_pos h2];omega
 have hm:=(Du h hu).resolve_left h2;have hv:=(Jk h).2 hm;unfold ofC;rw[if_neg h2]
 suffices (Av c).idxOf (y-y%2)<c.ins.length+c.lat.length+k by omega
 have z:=hv;unfold Av at z
 rcases List.mem_append.1 z with B|B
 ·have:(Av c).idxOf (y-y%2)=(c.ins++c.lat.map N3.a).idxOf (y-y%2):=by
   unfold Av;rw[List.idxOf_append,if_pos B]
  rw[this]
  have:=List.idxOf_lt_length_of_mem B
  simp at this;omega
 obtain⟨j,O,e⟩:=List.mem_map.1 B;obtain⟨q,S,x⟩:=List.getElem_of_mem O;have F:=(Ge c.gat).2 j O
 have aA:q<k:=by
  refine Nat.lt_of_not_le λhle=>?_;unfold Gj at M;rw[List.any_eq_false]at M;have E:=M j (List.mem_range.2 F)
  have X:((Aw c.gat).take k).contains j=false:=by
   cases Y:((Aw c.gat).take k).contains j with
   |false=>rfl
   |true=>
    have I:=List.contains_iff_mem.1 Y;obtain⟨p,R,m⟩:=List.getElem_of_mem I;rw[List.getElem_take]at m
    have J:p<(Aw c.gat).length:=by rw[List.length_take]at R;omega
    have:=Wv (Ge c.gat).1 J S (m.trans x.symm)
    rw[List.length_take]at R;omega
  rw[X]at E;simp only[Bool.not_false,Bool.true_and,decide_eq_true_eq]at E;have U:(c.gat.getD j ⟨0,0,0⟩).a=y-y%2:=e;rw[U]at E;omega
 have r:(Av c)[c.ins.length+c.lat.length+q]?=some (y-y%2):=by
  unfold Av;rw[List.getElem?_append_right (by simp),List.getElem?_map]
  have:c.ins.length+c.lat.length+q-(c.ins++c.lat.map N3.a).length=q:=by simp
  rw[this,List.getElem?_eq_getElem S,x];simp only[Option.map_some,e]
 obtain⟨hl,Z⟩:=List.getElem?_eq_some_iff.1 r;have N:=(Ts h).idxOf_getElem _ hl;rw[Z]at N;rw[N];omega
end
section
variable {c:Cir}
theorem AdZ (h:Ag c) {k:Nat} {g:N3} (hk:(Ak c).gat[k]?=some g):∃ i,(Aw c.gat)[k]?=some i/\g=Qj c (c.gat.getD i z3):=by
 have:(Ak c).gat=(Aw c.gat).map λi=>Qj c (c.gat.getD i z3):=rfl
 rw[this,List.getElem?_map]at hk
 cases j:(Aw c.gat)[k]? with
 |none=>rw[j]at hk;cases hk
 |some i=>rw[j]at hk;injection hk with hk;exact⟨i,rfl,hk.symm⟩
theorem Ep (c:Cir):(Ak c).ins.length=c.ins.length:=by unfold Ak;simp
theorem Eo (c:Cir):(Ak c).lat.length=c.lat.length:=by unfold Ak;simp
theorem It (c:Cir):(Ak c).gat.length=(Aw c.gat).length:=by unfold Ak;simp
theorem Aiv (h:Ag c):(Ak c).ins=evens (Ak c).ins.length 2:=by rw[Ep];exact(Tu h).1
theorem AhN (h:Ag c):(Ak c).lat.map N3.a=evens (Ak c).lat.length (2+2*(Ak c).ins.length):=by
 rw[Ep,Eo,<-(Tu h).2.1];unfold Ak;simp[List.map_map,Function.comp_def]
theorem AdV (h:Ag c):(Ak c).gat.map N3.a=evens (Ak c).gat.length (2+2*(Ak c).ins.length+2*(Ak c).lat.length):=by
 rw[Ep,Eo,It,<-(Tu h).2.2];unfold Ak Qj;simp[List.map_map,Function.comp_def]
theorem AdT (c:Cir):(Ak c).max=(Ak c).ins.length+(Ak c).lat.length+(Ak c).gat.length:=by
 rw[Ep,Eo,It,<-Ht];rfl
theorem Zb (h:Ag c):Dd (Ak c)=evens (Ak c).max 2:=by
 unfold Dd;rw[AdT,Jw,Jw,<-AhN h,<-Aiv h]
 have e:2+2*((Ak c).ins.length+(Ak c).lat.length)=2+2*(Ak c).ins.length+2*(Ak c).lat.length:=by omega
 rw[e,<-AdV h]
theorem Ua (h:Ag c) {k:Nat} {g:N3} (hk:(Ak c).gat[k]?=some g):g.a=2*(c.ins.length+c.lat.length+k+1):=by
 have j:((Ak c).gat.map N3.a)[k]?=some g.a:=by rw[List.getElem?_map,hk];rfl
 have l:k<(Ak c).gat.length:=(List.getElem?_eq_some_iff.1 hk).1;rw[AdV h,Se l,Ep,Eo]at j;injection j with j;omega
theorem AdC (h:Ag c):∀ g∈(Ak c).gat,g.c<=g.b/\g.b<g.a:=λg m=>by
 obtain⟨k,p,e⟩:=List.getElem_of_mem m
 have j:(Ak c).gat[k]?=some g:=by rw[List.getElem?_eq_getElem p,e]
 have l:=Ua h j;obtain⟨i,hi,rfl⟩:=AdZ h j;have q:=of_low h hi (y:=(c.gat.getD i z3).b) (.inl rfl);have r:=of_low h hi (y:=(c.gat.getD i z3).c) (.inr rfl);unfold Qj at l ⊢;simp only at l ⊢;omega
theorem Aez (h:Ag c) {x:Nat} (j:x∈Ch (Ak c)):∃ y,(y<2∨y-y%2∈Dd c)/\x=ofC c y:=by
 unfold Ch at j;simp only[List.mem_append]at j
 have q:∀ (l:List Nat),(∀y∈l,y∈Ch c)->x∈l.map (ofC c)->∃y,(y<2∨y-y%2∈Dd c)/\x=ofC c y:=λl J j=>by
  obtain⟨y,hy,e⟩:=List.mem_map.1 j
  exact⟨y,Du h (J y hy),e.symm⟩
 rcases j with(((j|j)|j)|j)|j
 ·exact q c.outs (λy hy=>Hu hy) j
 ·exact q c.bads (λy hy=>Ez hy) j
 ·exact q c.cons (λy hy=>Ey hy) j
 ·obtain⟨y,hy,e⟩:=List.mem_map.1 j;have r:y∈c.lat.map λx=>(⟨ofC c x.a,ofC c x.b,if x.c=x.a then ofC c x.a else x.c⟩:N3):=hy;obtain⟨z,M,rfl⟩:=List.mem_map.1 r
  exact⟨z.b,Du h (Fo M),e.symm⟩
 obtain⟨g,F,e⟩:=List.mem_flatMap.1 j;obtain⟨k,I,E⟩:=List.getElem_of_mem F;obtain⟨i,hi,rfl⟩:=AdZ h (show(Ak c).gat[k]?=some g by rw[List.getElem?_eq_getElem I,E]);have p:=(Ge c.gat).2 i (List.mem_of_getElem? hi)
 have m:c.gat.getD i z3∈c.gat:=by
  rw[List.getD_eq_getElem?_getD,List.getElem?_eq_getElem p];exact List.getElem_mem p
 have B:=Du h (Bg m).1;have D:=Du h (Bg m).2;unfold Qj at e;simp only[List.mem_cons,List.not_mem_nil,or_false]at e
 rcases e with e|e
 ·rcases Nat.le_total (ofC c (c.gat.getD i z3).b) (ofC c (c.gat.getD i z3).c) with hle|hle
  ·exact⟨_,D,by rw[e,Nat.max_eq_right hle]⟩
  exact⟨_,B,by rw[e,Nat.max_eq_left hle]⟩
 rcases Nat.le_total (ofC c (c.gat.getD i z3).b) (ofC c (c.gat.getD i z3).c) with hle|hle
 ·exact⟨_,B,by rw[e,Nat.min_eq_left hle]⟩
 exact⟨_,D,by rw[e,Nat.min_eq_right hle]⟩
theorem Akk (h:Ag c):∀ k,k<(Ak c).gat.length->De (Ak c).gat (List.range k) k=true:=λk E=>by
 have x:(Ak c).gat[k]?=some ((Ak c).gat.getD k ⟨0,0,0⟩):=by simp[List.getD,E]
 have l:=AdC h _ (List.mem_of_getElem? x);have F:=Ua h x
 have z:∀ y,y<((Ak c).gat.getD k ⟨0,0,0⟩).a->Gj (Ak c).gat (List.range k) y=false:=λy hy=>by
  unfold Gj;rw[List.any_eq_false];intro j D;have r:=List.mem_range.1 D
  by_cases q:j<k
  ·rw[List.contains_iff_mem.2 (List.mem_range.2 q)]
   simp
  have p:(Ak c).gat[j]?=some ((Ak c).gat.getD j ⟨0,0,0⟩):=by simp[List.getD,r]
  have B:=Ua h p;simp only[Bool.and_eq_true,Bool.not_eq_true',decide_eq_true_eq,not_and];intro _;omega
 unfold De;rw[z _ l.2,z _ (by omega)]
 have m:(List.range k).contains k=false:=by
  cases m:(List.range k).contains k with
  |false=>rfl
  |true=>have:=List.mem_range.1 (List.contains_iff_mem.1 m);omega
 rw[m];rfl
theorem Ru (h:Ag c):Aw (Ak c).gat=List.range (Ak c).gat.length:=Amu _ (Akk h)
theorem Zc (h:Ag c):(Dd c).length<=c.max:=by
 have l:((Dd c).map (· /2)).Nodup:=by
  have j:=h.one;unfold List.Nodup at j ⊢;rw[List.pairwise_map];refine List.Pairwise.imp_of_mem (λ{a b} ha hb hne e=>hne ?_) j
  have:=h.own a ha;have:=h.own b hb
  omega
 have h2:∀ x∈(Dd c).map (· /2),x∈(List.range (c.max+1)).erase 0:=λx p=>by
  obtain⟨y,hy,rfl⟩:=List.mem_map.1 p
  have:=h.own y hy
  exact(List.mem_erase_of_ne (by omega)).2 (List.mem_range.2 (by omega))
 have m:=Ll _ _ l h2;rw[List.length_map,List.length_erase_of_mem (List.mem_range.2 (by omega)),List.length_range]at m;omega
theorem On (h:Ag c):Ag (Ak c):=by
 have j:=Zb h;have m:(Ak c).max=(Av c).length:=rfl
 have p:(Ak c).max<=16777216:=by
  rw[m,(Lm h).length_eq];exact Nat.le_trans (Zc h) h.max
 refine⟨p,λx l=>?_,λx l=>?_,λx l=>?_,by rw[j];exact Xu _ _,λx l B=>?_,by rw[Ru h,List.length_range]⟩
 ·rw[j,Oe]at l;obtain⟨k,F,rfl⟩:=l;omega
 ·obtain⟨y,hy,rfl⟩:=Aez h l
  exact(Zk h hy).1
 ·have q:x∈c.lat.map λx=>(⟨ofC c x.a,ofC c x.b,if x.c=x.a then ofC c x.a else x.c⟩:N3):=l;obtain⟨z,r,rfl⟩:=List.mem_map.1 q;simp only
  rcases h.res z r with e|e|e
  ·rw[e];have:=h.own _ (Em r);rw[if_neg (by omega)];exact .inl rfl
  ·rw[e];have:=h.own _ (Em r);rw[if_neg (by omega)];exact .inr (.inl rfl)
  rw[if_pos e];exact .inr (.inr rfl)
 obtain⟨y,hy,rfl⟩:=Aez h l;obtain⟨h2,D,E⟩:=Zk h hy;rw[j,Oe]
 exact⟨(ofC c y)/2-1,by rw[m];omega,by omega⟩
theorem Agh (h:Ag c):AbH (Ak c):=⟨(On h).inTop,Aiv h,AhN h,AdV h,AdC h⟩
theorem Pw (h:Ag c) {l:Nat} (hl:l<2∨l-l%2∈Dd (Ak c)):ofC (Ak c) l=l:=by
 unfold ofC
 by_cases h2:l<2
 ·rw[if_pos h2]
 rw[if_neg h2];have q:=(Jk (On h)).2 (hl.resolve_left h2)
 have x:Av (Ak c)=evens (Ak c).max 2:=by
  rw[<-Zb h];unfold Av Dd;rw[Ru h,AhK]
 rw[x]at q ⊢;obtain⟨k,m,e⟩:=Oe.1 q;have p:=(Xu (Ak c).max 2).idxOf_getElem k (by rw[Fh];exact m)
 have r:(evens (Ak c).max 2)[k]'(by rw[Fh];exact m)=l-l%2:=by
  have j:=Se (lit:=2) m;rw[List.getElem?_eq_getElem (by rw[Fh];exact m)]at j;injection j with j;rw[j,e]
 rw[r]at p;rw[p];omega
theorem AmQ (h:Ag c):Ak (Ak c)=Ak c:=by
 have p:=On h
 have j:∀ l:List Nat,(∀x∈l,x<2∨x-x%2∈Dd (Ak c))->l.map (ofC (Ak c))=l:=λl U=>by
  rw[List.map_congr_left (λx m=>Pw h (U x m)),List.map_id']
 have r:∀ {x:Nat},x∈Dd (Ak c)->x-x%2∈Dd (Ak c):=λm=>by
  have:=p.own _ m
  rwa [this.2.1,Nat.sub_zero]
 have F:(Av (Ak c)).length=(Ak c).max:=by
  rw[(Lm p).length_eq,Zb h,Fh]
 have I:=j (Ak c).ins (λx m=> .inr (r (Nr m)))
 have J:((Ak c).lat.map λx=>(⟨ofC (Ak c) x.a,ofC (Ak c) x.b,if x.c=x.a then ofC (Ak c) x.a else x.c⟩:N3))=(Ak c).lat:=by
  conv=>rhs;rw[<-List.map_id (Ak c).lat]
  apply List.map_congr_left
  intro x m;have B:=Pw h (.inr (r (Em m)));have D:=Pw h (Du p (Fo m));rw[B,D];obtain⟨a,b,d⟩:=x;simp only[id];split
  ·rename_i e;rw[e]
  rfl
 have M:=j (Ak c).outs (λx m=>Du p (Hu m));have N:=j (Ak c).bads (λx m=>Du p (Ez m));have O:=j (Ak c).cons (λx m=>Du p (Ey m))
 have R:((Aw (Ak c).gat).map λi=>Qj (Ak c) ((Ak c).gat.getD i z3))=(Ak c).gat:=by
  rw[Ru h]
  apply List.ext_getElem?
  intro k;rw[List.getElem?_map]
  by_cases E:k<(Ak c).gat.length
  ·rw[List.getElem?_range E]
   have y:(Ak c).gat[k]?=some ((Ak c).gat.getD k z3):=by simp[List.getD,E]
   have z:=List.mem_of_getElem? y;rw[y];simp only[Option.map_some,Option.some.injEq];have q:=AdC h _ z;have B:=Pw h (.inr (r (Nf z)));have D:=Pw h (Du p (Bg z).1);have S:=Pw h (Du p (Bg z).2);unfold Qj;rw[B,D,S,Nat.max_eq_left q.1,Nat.min_eq_right q.1]
  rw[List.getElem?_eq_none (by simp;omega),List.getElem?_eq_none (by omega)];rfl
 show(⟨_,_,_,_,_,_,_⟩:Cir)=_
 rw[F,I,J,M,N,O,R]
end
def atH (t:List Nat) (i:Nat):Nat:=t.getD i 0
def Cc (t:List Nat) (i k:Nat):List Nat:=(t.set i (atH t k)).set k (atH t i)
def upH (t:List Nat) (i:Nat):List Nat:=
 if h:0<i/\atH t i<atH t ((i-1)/2) then upH (Cc t i ((i-1)/2)) ((i-1)/2) else t
termination_by i
decreasing_by omega
def Ij (t:List Nat) (first k:Nat):Nat:=if k<t.length/\atH t k<atH t first then k else first
def Hv (t:List Nat) (i:Nat):Nat:=Ij t (Ij t i (2*i+1)) (2*i+2)
theorem Jh (t:List Nat) (f k:Nat):Ij t f k=f∨(Ij t f k=k/\k<t.length/\atH t k<atH t f):=by
 unfold Ij;split
 ·rename_i h;exact .inr ⟨rfl,h.1,h.2⟩
 exact .inl rfl
theorem Rt (t:List Nat) (i:Nat):Hv t i=i∨((Hv t i=2*i+1∨Hv t i=2*i+2)/\Hv t i<t.length/\atH t (Hv t i)<atH t i):=by
 unfold Hv
 rcases Jh t i (2*i+1) with e|⟨e,p,h2⟩<;>rw[e]
 ·rcases Jh t i (2*i+2) with j|⟨j,l,m⟩<;>rw[j]
  ·exact .inl rfl
  exact .inr ⟨.inr rfl,l,m⟩
 rcases Jh t (2*i+1) (2*i+2) with j|⟨j,l,m⟩<;>rw[j]
 ·exact .inr ⟨.inl rfl,p,h2⟩
 exact .inr ⟨.inr rfl,l,Nat.lt_trans m h2⟩
theorem Ajb (t:List Nat) (f k:Nat):atH t (Ij t f k)<=atH t f:=by
 rcases Jh t f k with e|⟨e,_,h⟩<;>rw[e]
 ·exact Nat.le_refl _
 exact Nat.le_of_lt h
theorem AaX (t:List Nat) (f k:Nat) (hk:k<t.length):atH t (Ij t f k)<=atH t k:=by
 unfold Ij;split
 ·exact Nat.le_refl _
 rename_i h
 exact Nat.le_of_not_lt λh2=>h ⟨hk,h2⟩
theorem AhZ (t:List Nat) (i:Nat) (h:2*i+1<t.length):atH t (Hv t i)<=atH t (2*i+1):=Nat.le_trans (Ajb t _ _) (AaX t _ _ h)
theorem Ahz (t:List Nat) (i:Nat) (h:2*i+2<t.length):atH t (Hv t i)<=atH t (2*i+2):=AaX t _ _ h
def Qg (t:List Nat) (i:Nat):List Nat:=
 if h:Hv t i=i then t else Qg (Cc t i (Hv t i)) (Hv t i)
termination_by t.length-i
decreasing_by
 rcases Rt t i with e|⟨e,h1,_⟩
 ·exact absurd e h
 have:(Cc t i (Hv t i)).length=t.length:=by simp[Cc]
 rw[this];omega
def Pd (t:List Nat) (x:Nat):List Nat:=upH (t++ [x]) t.length
def Lh (t:List Nat):List Nat:=Qg ((Cc t 0 (t.length-1)).take (t.length-1)) 0
theorem Dz (t:List Nat) (i k:Nat):(Cc t i k).length=t.length:=by simp[Cc]
theorem Vy {t:List Nat} {i k j:Nat} (hi:i<t.length) (hk:k<t.length):atH (Cc t i k) j=if j=k then atH t i else if j=i then atH t k else atH t j:=by
 unfold Cc atH;simp only[List.getD_eq_getElem?_getD,List.getElem?_set,List.length_set]
 by_cases l:j=k
 ·subst l;simp[hk]
 rw[if_neg (show ¬k=j from λe=>l e.symm),if_neg l]
 by_cases h2:j=i
 ·subst h2;simp[hi]
 rw[if_neg (show ¬i=j from λe=>h2 e.symm),if_neg h2]
theorem Sf {t:List Nat} {i k:Nat} (hi:i<t.length) (hk:k<t.length):List.Perm (Cc t i k) t:=by
 unfold Cc atH;rw[List.getD_eq_getElem?_getD,List.getD_eq_getElem?_getD,List.getElem?_eq_getElem hi,List.getElem?_eq_getElem hk];exact List.set_set_perm hi hk
def Mu (t:List Nat):Prop:=∀ j,0<j->j<t.length->atH t ((j-1)/2)<=atH t j
structure Apl (t:List Nat) (i:Nat):Prop where
 edge:∀ j,0<j->j<t.length->j≠i->atH t ((j-1)/2)<=atH t j
 over:0<i->∀j,0<j->j<t.length->(j-1)/2=i->atH t ((i-1)/2)<=atH t j
structure AmV (t:List Nat) (i:Nat):Prop where
 edge:∀ j,0<j->j<t.length->(j-1)/2≠i->atH t ((j-1)/2)<=atH t j
 over:0<i->∀j,0<j->j<t.length->(j-1)/2=i->atH t ((i-1)/2)<=atH t j
theorem Aof:∀ (n i:Nat) (t:List Nat),i<=n->i<t.length->Apl t i->Mu (upH t i)/\List.Perm (upH t i) t
 |n,i,t,hn,hi,h=>by
  unfold upH;split
  ·rename_i hc
   cases n with
   |zero=>omega
   |succ n=>
    have r:(i-1)/2<t.length:=by omega
    have x:=λj=>Vy (j:=j) hi r;have E:=Aof n ((i-1)/2) (Cc t i ((i-1)/2)) (by omega) (by rw[Dz];exact r) ⟨λj p l D=>?_,λp j B l q=>?_⟩
    ·exact⟨E.1,E.2.trans (Sf hi r)⟩
    ·rw[Dz]at l;rw[x,x,if_neg D]
     by_cases m:j=i
     ·subst m;rw[if_pos rfl,if_pos rfl];exact Nat.le_of_lt hc.2
     rw[if_neg m]
     by_cases y:(j-1)/2=(i-1)/2
     ·rw[if_pos y]
      have:=h.edge j p l m
      rw[y]at this;omega
     rw[if_neg y]
     by_cases z:(j-1)/2=i
     ·rw[if_pos z];exact h.over hc.1 j p l z
     rw[if_neg z];exact h.edge j p l m
    rw[Dz]at l;rw[x,x,if_neg (by omega),if_neg (by omega)];have F:=h.edge ((i-1)/2) p r (by omega)
    by_cases m:j=i
    ·rw[if_neg (by omega),if_pos m];exact F
    rw[if_neg (by omega),if_neg m]
    have:=h.edge j B l m
    rw[q]at this;omega
  rename_i hc
  refine⟨λj p l=>?_,List.Perm.refl _⟩
  by_cases e:j=i
  ·subst e;exact Nat.le_of_not_lt λh2=>hc ⟨p,h2⟩
  exact h.edge j p l e
theorem Ahx:∀ (n i:Nat) (t:List Nat),t.length-i<=n->AmV t i->Mu (Qg t i)/\List.Perm (Qg t i) t
 |n,i,t,hn,h=>by
  unfold Qg;split
  ·rename_i hc
   refine⟨λj q m=>?_,List.Perm.refl _⟩
   by_cases e:(j-1)/2=i
   ·rw[e]
    have B:j=2*i+1∨j=2*i+2:=by omega
    rcases B with rfl|rfl
    ·have:=AhZ t i m;rw[hc]at this;exact this
    have:=Ahz t i m;rw[hc]at this;exact this
   exact h.edge j q m e
  rename_i hc
  rcases Rt t i with e|⟨e,m,E⟩
  ·exact absurd e hc
  have hi:i<t.length:=by omega
  cases n with
  |zero=>omega
  |succ n=>
   have y:=λj=>Vy (j:=j) hi m
   have x:(Hv t i-1)/2=i:=by omega
   have I:=Ahx n (Hv t i) (Cc t i (Hv t i)) (by rw[Dz];omega) ⟨λj q l F=>?_,λq j D l r=>?_⟩
   ·exact⟨I.1,I.2.trans (Sf hi m)⟩
   ·rw[Dz]at l;rw[y,y,if_neg F]
    by_cases z:(j-1)/2=i
    ·rw[if_pos z]
     by_cases p:j=Hv t i
     ·rw[if_pos p];exact Nat.le_of_lt E
     rw[if_neg p,if_neg (by omega)]
     have B:j=2*i+1∨j=2*i+2:=by omega
     rcases B with rfl|rfl
     ·exact AhZ t i l
     exact Ahz t i l
    rw[if_neg z]
    by_cases p:j=i
    ·subst p;rw[if_neg (by omega),if_pos rfl];exact h.over q _ (by omega) m x
    rw[if_neg (by omega),if_neg p];exact h.edge j q l z
   rw[Dz]at l;rw[x,y,y,if_neg (by omega),if_pos rfl,if_neg (by omega),if_neg (by omega)]
   have:=h.edge j D l (by omega)
   rw[r]at this;exact this
theorem AfG {t:List Nat} (h:Mu t):∀ j,j<t.length->atH t 0<=atH t j
 |0,_=>Nat.le_refl _
 |j+1,hj=>Nat.le_trans (AfG h (j/2) (by omega)) (by have:=h (j+1) (by omega) hj;rwa [Nat.add_sub_cancel]at this)
theorem AdR {t:List Nat} {x j:Nat} (h:j<t.length):atH (t++ [x]) j=atH t j:=by
 unfold atH;rw[List.getD_eq_getElem?_getD,List.getElem?_append_left h,List.getD_eq_getElem?_getD]
theorem AhJ {t:List Nat} (h:Mu t) (x:Nat):Mu (Pd t x)/\List.Perm (Pd t x) (x::t):=by
 have:=Aof t.length t.length (t++ [x]) (Nat.le_refl _) (by simp) ⟨λj m l q=>?_,λm j p l r=>?_⟩
 ·exact⟨this.1,this.2.trans (List.perm_append_singleton _ _)⟩
 ·rw[List.length_append,List.length_singleton]at l;rw[AdR (by omega),AdR (by omega)];exact h j m (by omega)
 rw[List.length_append,List.length_singleton]at l;omega
theorem Aby {t:List Nat} {n j:Nat} (h:j<n):atH (t.take n) j=atH t j:=by
 unfold atH;rw[List.getD_eq_getElem?_getD,List.getD_eq_getElem?_getD,List.getElem?_take,if_pos h]
theorem Ahl {t:List Nat} (h:Mu t) (hne:t≠ []):Mu (Lh t)/\List.Perm t (atH t 0::Lh t)/\∀x∈t,atH t 0<=x:=by
 have l:0<t.length:=List.length_pos_iff.2 hne
 have y:t.length-1<t.length:=by omega
 have z:=λj=>Vy (j:=j) l y;have D:=Ahx _ 0 ((Cc t 0 (t.length-1)).take (t.length-1)) (Nat.le_refl _) ⟨λj q r M=>?_,λq=>absurd q (by omega)⟩
 ·refine⟨D.1,?_,λx J=>?_⟩
  ·have F:Cc t 0 (t.length-1)=(Cc t 0 (t.length-1)).take (t.length-1)++ [atH t 0]:=by
    have h2:=List.take_append_drop (t.length-1) (Cc t 0 (t.length-1))
    have I:(Cc t 0 (t.length-1)).drop (t.length-1)= [atH t 0]:=by
     have p:t.length-1<(Cc t 0 (t.length-1)).length:=by rw[Dz];exact y
     rw[List.drop_eq_getElem_cons p,List.drop_eq_nil_of_le (by rw[Dz];omega)];have m:=z (t.length-1);rw[if_pos rfl]at m;unfold atH at m;rw[List.getD_eq_getElem?_getD,List.getElem?_eq_getElem p]at m;simp only[Option.getD_some]at m;rw[m];rfl
    rw[I]at h2;exact h2.symm
   have B:=(Sf l y).symm;rw[F]at B;exact B.trans ((List.perm_append_singleton _ _).trans (D.2.symm.cons _))
  obtain⟨j,E,e⟩:=List.getElem_of_mem J
  have:=AfG h j E
  unfold atH at this ⊢;rw[show t.getD j 0=x by rw[List.getD_eq_getElem?_getD,List.getElem?_eq_getElem E,e];rfl]at this;exact this
 rw[List.length_take,Dz]at r;rw[Aby (by omega),Aby (by omega),z,z,if_neg (by omega),if_neg (by omega),if_neg (by omega),if_neg (by omega)];exact h j q (by omega)
def aG (g:List N3) (i:Nat):Nat:=(g.getD i ⟨0,0,0⟩).a
def Kw (g:List N3) (v:Nat):Option Nat:=(List.range g.length).find? λi=>decide (aG g i/2=v)
def Cw (g:List N3) (i:Nat):List Nat:=[(g.getD i ⟨0,0,0⟩).b,(g.getD i ⟨0,0,0⟩).c].filterMap λx=>Kw g (x/2)
def Jt (g:List N3) (n k:Nat):List Nat:=(List.range n).flatMap λi=>List.replicate ((Cw g i).count k) i
def Br (g:List N3) (k:Nat):List Nat:=Jt g g.length k
def Qe (g:List N3):Prop:=∀ i j,i<g.length->j<g.length->aG g i/2=aG g j/2->i=j
theorem Tp {g:List N3} {v k:Nat} (h:Kw g v=some k):k<g.length/\aG g k/2=v:=by
 have j:=List.mem_of_find?_eq_some h;have h2:=List.find?_some h
 exact⟨List.mem_range.1 j,by simpa using h2⟩
theorem Ahb {g:List N3} {v:Nat} (h:Kw g v=none):∀ i,i<g.length->aG g i/2≠v:=λi hi=>by
 have:=List.find?_eq_none.1 h i (List.mem_range.2 hi)
 simpa using this
theorem AkL {g:List N3} (hd:Qe g) {i:Nat} (hi:i<g.length):Kw g (aG g i/2)=some i:=by
 cases h:Kw g (aG g i/2) with
 |none=>exact absurd rfl (Ahb h i hi)
 |some k=>obtain⟨j,h2⟩:=Tp h;rw[hd k i j hi h2]
theorem Amc {g:List N3} (hd:Qe g) (told:List Nat) (x:Nat):Gj g told x=true↔∃k,Kw g (x/2)=some k/\k∉told:=by
 unfold Gj;rw[List.any_eq_true];constructor
 ·rintro⟨i,hi,h⟩;simp only[Bool.and_eq_true,Bool.not_eq_true',decide_eq_true_eq]at h;have j:=List.mem_range.1 hi;refine⟨i,?_,λp=>?_⟩
  ·rw[<-h.2];exact AkL hd j
  have:=h.1;rw[List.contains_iff_mem.2 p]at this;cases this
 rintro⟨k,hk,hn⟩;obtain⟨l,h2⟩:=Tp hk;refine⟨k,List.mem_range.2 l,?_⟩;simp only[Bool.and_eq_true,Bool.not_eq_true',decide_eq_true_eq];refine⟨?_,h2⟩
 cases m:told.contains k with
 |false=>rfl
 |true=>exact absurd (List.contains_iff_mem.1 m) hn
theorem Vm {g:List N3} (hd:Qe g) (told:List Nat) (i:Nat):De g told i=true↔i∉told/\∀k∈Cw g i,k∈told:=by
 have r:∀ x,Gj g told x=false↔∀k,Kw g (x/2)=some k->k∈told:=λx=>by
  rw[<-Bool.not_eq_true,Amc hd];constructor
  ·intro h k j
   by_cases l:k∈told
   ·exact l
   exact absurd ⟨k,j,l⟩ h
  rintro h ⟨k,j,q⟩;exact q (h k j)
 have p:told.contains i=false↔i∉told:=by
  rw[<-Bool.not_eq_true,List.contains_iff_mem]
 unfold De;simp only[Bool.and_eq_true,Bool.not_eq_true',r,p,and_assoc];refine and_congr_right λ_=>?_;unfold Cw;constructor
 ·rintro⟨h1,h2⟩ k j;obtain⟨x,m,e⟩:=List.mem_filterMap.1 j;simp only[List.mem_cons,List.not_mem_nil,or_false]at m
  rcases m with rfl|rfl
  ·exact h1 k e
  exact h2 k e
 intro h
 exact⟨λk j=>h k (List.mem_filterMap.2 ⟨_,by simp,j⟩),λk j=>h k (List.mem_filterMap.2 ⟨_,by simp,j⟩)⟩
theorem En (g:List N3) (k x:Nat):∀ n,(Jt g n k).count x=if x<n then(Cw g x).count k else 0
 |0=>by simp[Jt]
 |n+1=>by
  have e:Jt g (n+1) k=Jt g n k++List.replicate ((Cw g n).count k) n:=by
   unfold Jt;rw[List.range_succ,List.flatMap_append];simp
  rw[e,List.count_append,En g k x n,List.count_replicate]
  by_cases j:x<n
  ·rw[if_pos j,if_pos (show x<n+1 by omega),if_neg (show ¬(n==x)=true by simp;omega)];omega
  rw[if_neg j]
  by_cases h2:x=n
  ·subst h2;rw[if_pos (show x<x+1 by omega)];simp
  rw[if_neg (show ¬x<n+1 by omega),if_neg (show ¬(n==x)=true by simp;omega)]
def AcR (s:List Nat×List Nat) (k:Nat):List Nat×List Nat:=(s.1.set k (atH s.1 k-1),if atH s.1 k-1=0 then Pd s.2 k else s.2)
def Fa (s:List Nat×List Nat) (ks:List Nat):List Nat×List Nat:=ks.foldl AcR s
theorem Ani {t:List Nat} {k j v:Nat} (hk:k<t.length):atH (t.set k v) j=if j=k then v else atH t j:=by
 unfold atH;simp only[List.getD_eq_getElem?_getD,List.getElem?_set]
 by_cases h:k=j
 ·subst h;simp[hk]
 rw[if_neg h,if_neg (λe=>h e.symm)]
theorem Vv:∀ (ks lacks tree:List Nat),(∀k∈ks,k<lacks.length)->(∀x,ks.count x<=atH lacks x)->Mu tree->tree.Nodup->(∀x∈ks,x∉tree)->
  (Fa (lacks,tree) ks).1.length=lacks.length/\(∀x,atH (Fa (lacks,tree) ks).1 x=atH lacks x-ks.count x)/\Mu (Fa (lacks,tree) ks).2/\(Fa (lacks,tree) ks).2.Nodup/\
  (∀x,x∈(Fa (lacks,tree) ks).2↔x∈tree∨(x∈ks/\atH lacks x=ks.count x))
 | [],lacks,tree,_,_,hh,hn,_=>⟨rfl,λx=>by simp[Fa],hh,hn,λx=>by simp[Fa]⟩
 |k::ks,lacks,tree,hl,hc,hh,hn,hx=>by
  have R:=hl k List.mem_cons_self
  have O:ks.count k+1<=atH lacks k:=by have:=hc k;rwa [List.count_cons_self]at this
  have l:=λj=>Ani (v:=atH lacks k-1) (j:=j) R;have e:Fa (lacks,tree) (k::ks)=Fa (lacks.set k (atH lacks k-1),if atH lacks k-1=0 then Pd tree k else tree) ks:=rfl;rw[e]
  have m:∀ x,ks.count x<=atH (lacks.set k (atH lacks k-1)) x:=λx=>by
   rw[l]
   by_cases h:x=k
   ·subst h;rw[if_pos rfl];omega
   rw[if_neg h]
   have:=hc x
   rwa [List.count_cons_of_ne (λe=>h e.symm)]at this
  by_cases N:atH lacks k-1=0
  ·rw[if_pos N]
   have q:k∉ks:=λp=>by have:=List.count_pos_iff.2 p;omega
   obtain⟨S,M⟩:=AhJ hh k;have B:(Pd tree k).Nodup:=M.nodup_iff.2 (List.nodup_cons.2 ⟨hx k List.mem_cons_self,hn⟩)
   obtain⟨D,E,F,I,J⟩:=Vv ks (lacks.set k (atH lacks k-1)) (Pd tree k) (λj y=>by rw[List.length_set];exact hl j (List.mem_cons_of_mem _ y)) m S B (λx p z=>by
    rcases List.mem_cons.1 (M.mem_iff.1 z) with r|r
    ·subst r;exact q p
    exact hx x (List.mem_cons_of_mem _ p) r)
   refine⟨by rw[D,List.length_set],λx=>?_,F,I,λx=>?_⟩
   ·rw[E,l]
    by_cases h:x=k
    ·subst h;rw[if_pos rfl,List.count_cons_self];omega
    rw[if_neg h,List.count_cons_of_ne (λe=>h e.symm)]
   rw[J,M.mem_iff,List.mem_cons,List.mem_cons,l]
   by_cases h:x=k
   ·subst h;have U:=List.count_eq_zero.2 q;rw[List.count_cons_self];simp only[true_or,true_iff,true_and];exact .inr (by omega)
   rw[if_neg h,List.count_cons_of_ne (λe=>h e.symm)];simp only[h,false_or]
  rw[if_neg N];obtain⟨D,E,F,I,J⟩:=Vv ks (lacks.set k (atH lacks k-1)) tree (λj y=>by rw[List.length_set];exact hl j (List.mem_cons_of_mem _ y)) m hh hn (λx p=>hx x (List.mem_cons_of_mem _ p));refine⟨by rw[D,List.length_set],λx=>?_,F,I,λx=>?_⟩
  ·rw[E,l]
   by_cases h:x=k
   ·subst h;rw[if_pos rfl,List.count_cons_self];omega
   rw[if_neg h,List.count_cons_of_ne (λe=>h e.symm)]
  rw[J,List.mem_cons,l]
  by_cases h:x=k
  ·subst h;rw[if_pos rfl,List.count_cons_self];refine or_congr_right ⟨λh2=>⟨.inl rfl,by omega⟩,λh2=>⟨?_,by omega⟩⟩;exact List.count_pos_iff.1 (by omega)
  rw[if_neg h,List.count_cons_of_ne (λe=>h e.symm)];simp only[h,false_or]
structure Rr (g:List N3) (out lacks tree:List Nat):Prop where
 len:lacks.length=g.length
 lack:∀ i,i<g.length->atH lacks i=((Cw g i).filter λk=>decide (k∉out)).length
 zero:∀ i,g.length<=i->atH lacks i=0
 heap:Mu tree
 nodup:tree.Nodup
 mem:∀ i,i∈tree↔i<g.length/\i∉out/\∀k∈Cw g i,k∈out
 onod:out.Nodup
 olt:∀ i∈out,i<g.length
 ord:Fg g (g.length-out.length) out=Aw g
theorem AnV {g:List N3} (hd:Qe g) {out:List Nat} {i:Nat} (h1:i<g.length) (h2:De g out i=true) (h3:∀ j,j<i->De g out j=false):Hy g out=some i:=by
 unfold Hy;rw[show List.range g.length=List.range i++(List.range (g.length-i)).map (i+ ·) by rw[<-List.range_add];congr 1;omega,List.find?_append]
 have l:(List.range i).find? (De g out)=none:=by
  rw[List.find?_eq_none];intro j m;rw[h3 j (List.mem_range.1 m)]
  simp
 rw[l,show g.length-i=(g.length-i-1)+1 by omega,List.range_succ_eq_map];simp[h2]
theorem Xq {l:List Nat} {n x:Nat} (h1:l.Nodup) (h2:∀ i∈l,i<n) (h3:x∉l) (h4:x<n):l.length<n:=by
 have:=Ll (x::l) (List.range n) (List.nodup_cons.2 ⟨h3,h1⟩) (λy hy=>by
  rcases List.mem_cons.1 hy with rfl|hy
  ·exact List.mem_range.2 h4
  exact List.mem_range.2 (h2 y hy))
 rw[List.length_cons,List.length_range]at this;omega
theorem Kt (l:List Nat) (out:List Nat) (x:Nat) (hx:x∉out):((l.filter λk=>decide (k∉out++ [x])).length)=(l.filter λk=>decide (k∉out)).length-l.count x/\l.count x<=(l.filter λk=>decide (k∉out)).length:=by
 induction l with
 |nil=>simp
 |cons a l j=>
  by_cases h:a=x
  ·subst h;rw[List.count_cons_self,List.filter_cons_of_neg (by simp),List.filter_cons_of_pos (by simpa using hx),List.length_cons];omega
  rw[List.count_cons_of_ne h]
  by_cases h2:a∈out
  ·rw[List.filter_cons_of_neg (by simp[h2]),List.filter_cons_of_neg (by simp[h2])];exact j
  rw[List.filter_cons_of_pos (by simp[h2,h]),List.filter_cons_of_pos (by simp[h2]),List.length_cons,List.length_cons];omega
theorem Aku {g:List N3} (hd:Qe g) {f:Nat} {out:List Nat} (ho:Fg g f out=Aw g) {i:Nat} (hm:i∈out):∀ k∈Cw g i,k∈out:=by
 obtain⟨r,l⟩:=AbF g f out;obtain⟨p,j,e⟩:=List.getElem_of_mem hm
 have hi:(Aw g)[p]?=some i:=by rw[<-ho,l,List.getElem?_append_left j,List.getElem?_eq_getElem j,e]
 have q:=((Vm hd _ i).1 (Aaj g p i hi)).2;intro k m
 have:=q k m
 rw[<-ho,l,List.take_append_of_le_length (Nat.le_of_lt j)]at this;exact List.mem_of_mem_take this
theorem Alh {g:List N3} (hd:Qe g) {out lacks tree:List Nat} (h:Rr g out lacks tree) (hne:tree≠ []):
  atH tree 0<g.length/\(∀k∈Br g (atH tree 0),k<g.length/\0<atH lacks k)/\Rr g (out++ [atH tree 0]) (Fa (lacks,Lh tree) (Br g (atH tree 0))).1 (Fa (lacks,Lh tree) (Br g (atH tree 0))).2:=by
 obtain⟨q1,O,q3⟩:=Ahl h.heap hne;have hi:atH tree 0∈tree:=O.mem_iff.2 List.mem_cons_self;obtain⟨F,m,D⟩:=(h.mem _).1 hi;generalize hx:atH tree 0=x at*;have I:=O.nodup_iff.1 h.nodup;rw[List.nodup_cons]at I
 have r:∀ k∈Br g x,k<g.length/\x∈Cw g k:=λk p=>by
  have:=List.count_pos_iff.2 p
  unfold Br at this;rw[En]at this
  by_cases E:k<g.length
  ·rw[if_pos E]at this
   exact⟨E,List.count_pos_iff.1 this⟩
  rw[if_neg E]at this;omega
 have B:∀ y,(Br g x).count y<=atH lacks y:=λy=>by
  unfold Br;rw[En]
  by_cases hy:y<g.length
  ·rw[if_pos hy,h.lack y hy]
   exact(Kt _ _ _ m).2
  rw[if_neg hy];exact Nat.zero_le _
 obtain⟨s1,s2,s3,s4,s5⟩:=Vv (Br g x) lacks (Lh tree) (λk p=>by rw[h.len];exact(r k p).1) B q1 I.2 (λy hy l=>by
  have X:y∈tree:=O.mem_iff.2 (List.mem_cons_of_mem _ l)
  exact m (((h.mem y).1 X).2.2 x (r y hy).2))
 have z:De g out x=true:=(Vm hd out x).2 ⟨m,D⟩
 have J:Hy g out=some x:=AnV hd F z (λj hj=>by
  cases hr:De g out j with
  |false=>rfl
  |true=>
   obtain⟨r1,r2⟩:=(Vm hd out j).1 hr
   have:=q3 j ((h.mem j).2 ⟨by omega,r1,r2⟩)
   omega)
 have aA:=Xq h.onod h.olt m F;refine⟨F,λk p=>⟨(r k p).1,?_⟩,?_⟩
 ·have:=List.count_pos_iff.2 p;have:=B k;omega
 refine⟨by rw[s1,h.len],λi q=>?_,λi q=>?_,s3,s4,λi=>?_,?_,λi q=>?_,?_⟩
 ·rw[s2];unfold Br;rw[En,if_pos q,h.lack i q,(Kt (Cw g i) out x m).1]
 ·rw[s2,h.zero i q];exact Nat.zero_sub _
 ·rw[s5]
  have Y:i∈Lh tree↔i∈tree/\i≠x:=by
   constructor
   ·exact λl=>⟨O.mem_iff.2 (List.mem_cons_of_mem _ l),λe=>I.1 (e▸l)⟩
   rintro⟨l,hnx⟩
   exact(List.mem_cons.1 (O.mem_iff.1 l)).resolve_left hnx
  rw[Y,h.mem];constructor
  ·rintro(⟨⟨a1,a2,a3⟩,S⟩|⟨b1,b2⟩)
   ·refine⟨a1,λl=>?_,λk p=>List.mem_append_left _ (a3 k p)⟩
    rcases List.mem_append.1 l with l|l
    ·exact a2 l
    exact S (List.mem_singleton.1 l)
   obtain⟨U,Z⟩:=r i b1
   have hz:((Cw g i).filter λk=>decide (k∉out++ [x])).length=0:=by
    rw[(Kt (Cw g i) out x m).1,<-h.lack i U,b2];unfold Br;rw[En,if_pos U,Nat.sub_self]
   have M:∀ k∈Cw g i,k∈out++ [x]:=λk p=>by
    by_cases l:k∈out++ [x]
    ·exact l
    have:k∈(Cw g i).filter λk=>decide (k∉out++ [x]):=List.mem_filter.2 ⟨p,by simpa using l⟩
    rw[List.length_eq_zero_iff.1 hz]at this;cases this
   refine⟨U,λl=>?_,M⟩
   rcases List.mem_append.1 l with l|l
   ·exact m (Aku hd h.ord l x Z)
   rw[List.mem_singleton]at l;subst l;exact m (D _ Z)
  rintro⟨a1,a2,a3⟩;have S:i∉out:=λl=>a2 (List.mem_append_left _ l);have a5:i≠x:=λe=>a2 (by rw[e];simp)
  by_cases N:x∈Cw g i
  ·refine .inr ⟨?_,?_⟩
   ·have:0<(Br g x).count i:=by
     unfold Br;rw[En,if_pos a1];exact List.count_pos_iff.2 N
    exact List.count_pos_iff.1 this
   unfold Br;rw[En,if_pos a1,h.lack i a1];have A:=Kt (Cw g i) out x m
   have h2:((Cw g i).filter λk=>decide (k∉out++ [x]))= []:=by
    rw[List.filter_eq_nil_iff];intro k p;have h3:=List.mem_append.1 (a3 k p);simp only[List.mem_singleton]at h3;simp only[List.mem_append,List.mem_singleton,decide_eq_true_eq,Decidable.not_not];exact h3
   rw[h2]at A;simp only[List.length_nil]at A;omega
  refine .inl ⟨⟨a1,S,λk p=>?_⟩,a5⟩
  rcases List.mem_append.1 (a3 k p) with l|l
  ·exact l
  rw[List.mem_singleton]at l;subst l;exact absurd p N
 ·rw[List.nodup_append];refine⟨h.onod,by simp,λa ha b hb=>?_⟩;rw[List.mem_singleton]at hb;subst hb;exact λe=>m (e▸ha)
 ·rcases List.mem_append.1 q with l|l
  ·exact h.olt i l
  rw[List.mem_singleton]at l;omega
 have R:=h.ord;rw[show g.length-out.length=(g.length-(out++ [x]).length)+1 by rw[List.length_append,List.length_singleton];omega]at R;unfold Fg at R;rw[J]at R;exact R
theorem AmE {g:List N3} (hd:Qe g) {out lacks:List Nat} (h:Rr g out lacks []):out=Aw g:=by
 have m:Hy g out=none:=by
  unfold Hy;rw[List.find?_eq_none];intro i hi;rw[Bool.not_eq_true]
  cases p:De g out i with
  |false=>rfl
  |true=>
   obtain⟨q,r⟩:=(Vm hd out i).1 p
   have:=(h.mem i).2 ⟨List.mem_range.1 hi,q,r⟩
   cases this
 have j:=h.ord
 cases l:g.length-out.length with
 |zero=>rw[l]at j;exact j
 |succ f=>
  rw[l]at j;unfold Fg at j;rw[m]at j;exact j
structure AaW (g:List N3) (n:Nat) (tree:List Nat):Prop where
 heap:Mu tree
 nodup:tree.Nodup
 mem:∀ i,i∈tree↔i<n/\Cw g i= []
theorem AkP (g:List N3):AaW g 0 []:=⟨λj _ h=>absurd h (by simp),List.nodup_nil,λi=>by simp⟩
theorem Acg {g:List N3} {n:Nat} {tree:List Nat} (h:AaW g n tree):AaW g (n+1) (if Cw g n= [] then Pd tree n else tree):=by
 by_cases j:Cw g n= []
 ·rw[if_pos j];obtain⟨p,l⟩:=AhJ h.heap n;refine⟨p,l.nodup_iff.2 (List.nodup_cons.2 ⟨λm=>by have:=((h.mem n).1 m).1;omega,h.nodup⟩),λi=>?_⟩;rw[l.mem_iff,List.mem_cons,h.mem];constructor
  ·rintro(rfl|⟨a,b⟩)
   ·exact⟨by omega,j⟩
   exact⟨by omega,b⟩
  rintro⟨a,b⟩
  by_cases e:i=n
  ·exact .inl e
  exact .inr ⟨by omega,b⟩
 rw[if_neg j];refine⟨h.heap,h.nodup,λi=>?_⟩;rw[h.mem];constructor
 ·rintro⟨a,b⟩;exact⟨by omega,b⟩
 rintro⟨a,b⟩
 by_cases e:i=n
 ·subst e;exact absurd b j
 exact⟨by omega,b⟩
theorem AgC {g:List N3} {tree lacks:List Nat} (h:AaW g g.length tree) (hl:lacks=(List.range g.length).map λi=>(Cw g i).length):Rr g [] lacks tree:=by
 subst hl
 have j:∀ i,i<g.length->atH ((List.range g.length).map λi=>(Cw g i).length) i=(Cw g i).length:=λi hi=>by
  unfold atH;rw[List.getD_eq_getElem?_getD,List.getElem?_map,List.getElem?_range hi];rfl
 refine⟨by simp,λi hi=>?_,λi hi=>?_,h.heap,h.nodup,λi=>?_,List.nodup_nil,λi hi=>(by cases hi),rfl⟩
 ·rw[j i hi];congr 1;exact(List.filter_eq_self.2 (λa _=>by simp)).symm
 ·unfold atH;rw[List.getD_eq_getElem?_getD,List.getElem?_eq_none (by simpa using hi)];rfl
 rw[h.mem];refine and_congr_right λ_=>?_;constructor
 ·intro e;rw[e];simp
 rintro⟨_,h2⟩
 exact List.eq_nil_iff_forall_not_mem.2 λk l=>by have:=h2 k l;cases this
def inG (g:List N3) (i:Nat):List Nat:=[(g.getD i ⟨0,0,0⟩).b,(g.getD i ⟨0,0,0⟩).c]
def Mo (g:List N3) (i j:Nat):List Nat:=((inG g i).take j).filterMap λx=>Kw g (x/2)
theorem Agb {g:List N3} {i j x:Nat} (hx:(inG g i)[j]?=some x) (hp:Kw g (x/2)=none):Mo g i (j+1)=Mo g i j:=by
 unfold Mo;rw[List.take_add_one,hx,List.filterMap_append];simp[hp]
theorem AgA {g:List N3} {i j x k:Nat} (hx:(inG g i)[j]?=some x) (hp:Kw g (x/2)=some k):Mo g i (j+1)=Mo g i j++ [k]:=by
 unfold Mo;rw[List.take_add_one,hx,List.filterMap_append];simp[hp]
def Mw (g:List N3) (N i x:Nat):List Nat:=(List.range N).map λj=>if j<i then(Cw g j).length else if j=i then x else 0
theorem Ajp (g:List N3) (N i x:Nat):(Mw g N i x).length=N:=by simp[Mw]
theorem Afb {g:List N3} {N i x:Nat} (hi:i<N):(Mw g N i x)[i]?=some x:=by
 unfold Mw;rw[List.getElem?_map,List.getElem?_range hi]
 simp
theorem AiZ {g:List N3} {N i x y:Nat}:(Mw g N i x).set i y=Mw g N i y:=by
 apply List.ext_getElem?
 intro j;rw[List.getElem?_set];unfold Mw;simp only[List.length_map,List.length_range];rw[List.getElem?_map,List.getElem?_map]
 by_cases e:i=j
 ·subst e;rw[if_pos rfl]
  by_cases hi:i<N
  ·rw[if_pos hi,List.getElem?_range hi];simp
  rw[if_neg hi,List.getElem?_eq_none (by simpa using hi)];rfl
 rw[if_neg e]
 by_cases l:j<N
 ·rw[List.getElem?_range l];simp only[Option.map_some];rw[if_neg (λe2:j=i=>e e2.symm),if_neg (λe2:j=i=>e e2.symm)]
 rw[List.getElem?_eq_none (by simpa using l)];rfl
theorem Abk {g:List N3} {N i:Nat}:Mw g N i (Cw g i).length=Mw g N (i+1) 0:=by
 unfold Mw
 apply List.map_congr_left
 intro j _
 by_cases l:j<i
 ·rw[if_pos l,if_pos (by omega)]
 rw[if_neg l]
 by_cases h2:j=i
 ·subst h2;rw[if_pos rfl,if_pos (by omega)]
 rw[if_neg h2,if_neg (by omega)]
 split<;>rfl
theorem AgV (g:List N3) (N:Nat):Mw g N 0 0=List.replicate N 0:=by
 apply List.ext_getElem?
 intro j;unfold Mw;rw[List.getElem?_map,List.getElem?_replicate]
 by_cases l:j<N
 ·rw[List.getElem?_range l,if_pos l];simp
 rw[List.getElem?_eq_none (by simpa using l),if_neg l];rfl
theorem Ajl (g:List N3):Mw g g.length g.length 0=(List.range g.length).map λi=>(Cw g i).length:=by
 unfold Mw
 apply List.map_congr_left
 intro j l;rw[List.mem_range]at l;rw[if_pos l]
theorem Tk (g:List N3) (i k:Nat):Jt g (i+1) k=Jt g i k++List.replicate ((Cw g i).count k) i:=by
 unfold Jt;rw[List.range_succ,List.flatMap_append]
 simp
theorem Ali (l:List Nat) (k i:Nat):List.replicate ((l++ [k]).count k) i=List.replicate (l.count k) i++ [i]:=by
 rw[List.count_append,List.count_singleton_self,List.replicate_succ']
theorem AiP {l:List Nat} {k j i:Nat} (h:j≠k):List.replicate ((l++ [k]).count j) i=List.replicate (l.count j) i:=by
 rw[List.count_append,List.count_singleton]
 have:(k==j)=false:=by simpa using λe:k=j=>h e.symm
 rw[this]
 simp
theorem Afl {ks:List Nat} {s:List Nat×List Nat} {q k:Nat} (h:ks[q]?=some k):Fa s (ks.take (q+1))=AcR (Fa s (ks.take q)) k:=by
 unfold Fa;rw[List.take_add_one,h,List.foldl_append];rfl
theorem AlI {g:List N3} (hd:Qe g) {out lacks tree:List Nat} (h:Rr g out lacks tree) (hne:tree≠ []) {q k:Nat} (z:(Br g (atH tree 0))[q]?=some k):
  k<g.length/\(Fa (lacks,Lh tree) ((Br g (atH tree 0)).take q)).1.length=g.length/\0<atH (Fa (lacks,Lh tree) ((Br g (atH tree 0)).take q)).1 k/\k∉(Fa (lacks,Lh tree) ((Br g (atH tree 0)).take q)).2/\atH (Fa (lacks,Lh tree) ((Br g (atH tree 0)).take q)).1 k<=2:=by
 obtain⟨Y,N,q3⟩:=Ahl h.heap hne;have hi:atH tree 0∈tree:=N.mem_iff.2 List.mem_cons_self;obtain⟨X,E,O⟩:=(h.mem _).1 hi;generalize hx:atH tree 0=x at*;have D:=N.nodup_iff.1 h.nodup;rw[List.nodup_cons]at D
 have j:∀ k∈Br g x,k<g.length/\x∈Cw g k:=λk z=>by
  have:=List.count_pos_iff.2 z
  unfold Br at this;rw[En]at this
  by_cases p:k<g.length
  ·rw[if_pos p]at this
   exact⟨p,List.count_pos_iff.1 this⟩
  rw[if_neg p]at this;omega
 have l:∀ y,(Br g x).count y<=atH lacks y:=λy=>by
  unfold Br;rw[En]
  by_cases hy:y<g.length
  ·rw[if_pos hy,h.lack y hy]
   exact(Kt _ _ _ E).2
  rw[if_neg hy];exact Nat.zero_le _
 have I:∀ y,((Br g x).take q).count y<=(Br g x).count y:=λy=>(List.take_sublist _ _).count_le _
 have F:∀ y∈Br g x,y∉Lh tree:=λy hy J=>by
  have M:y∈tree:=N.mem_iff.2 (List.mem_cons_of_mem _ J);exact E (((h.mem y).1 M).2.2 x (j y hy).2)
 have m:∀ y∈(Br g x).take q,y∈Br g x:=λy hy=>List.mem_of_mem_take hy;obtain⟨Z,S,s3,s4,A⟩:=Vv ((Br g x).take q) lacks (Lh tree) (λk z=>by rw[h.len];exact(j k (m k z)).1) (λy=>Nat.le_trans (I y) (l y)) Y D.2 (λy hy=>F y (m y hy));have r:k∈Br g x:=List.mem_of_getElem? z
 have U:((Br g x).take q).count k<atH lacks k:=by
  have B:((Br g x).take (q+1)).count k<=(Br g x).count k:=(List.take_sublist _ _).count_le _;rw[List.take_add_one,z,List.count_append]at B
  have h2:(List.count k (some k).toList)=1:=by simp
  rw[h2]at B
  have:=l k
  omega
 have R:atH lacks k<=2:=by
  rw[h.lack k (j k r).1];refine Nat.le_trans (List.length_filter_le _ _) ?_;unfold Cw;exact Nat.le_trans (List.length_filterMap_le _ _) (by simp)
 refine⟨(j k r).1,by rw[Z,h.len],by rw[S];omega,λJ=>?_,by rw[S];omega⟩
 rcases(A k).1 J with B|⟨_,B⟩
 ·exact F k r B
 omega
end Go.Proofs.YtmidbhnhcbpneaaGreatDoor.Top
end
section
namespace Go.Proofs.YtmidbhnhcbpneaaGreatDoor.Lit
open Go.RowKit Go.Lt
theorem Kn {a b:Bool} (h:a=b):Ending.returned (.bool a)= .returned (.bool b):=by rw[h]
def AhW (l:Int):Bool:=decide (0<=l/\l<=33554433)
theorem Afa {l:Int}:AhW l=true↔0<=l/\l<=33554433:=by simp[AhW]
theorem Ano (l:Int) (h0:0<=l) (j:l<=33554433):bits .xor .i64 l 1=(if l%2=1 then l-1 else l+1):=by
 obtain⟨n,rfl⟩:=Int.eq_ofNat_of_zero_le h0
 have p:n<=33554433:=by omega
 have e:BitVec.ofInt 64 (n:Int)=BitVec.ofNat 64 n:=BitVec.ofInt_natCast ..
 show IntKind.i64.wrap ((BitVec.ofInt 64 (n:Int) ^^^ BitVec.ofInt 64 ((1:Nat):Int)).toNat:Int)=_
 rw[BitVec.toNat_xor,ofInt_u64 n (by omega),ofInt_u64 1 (by omega)]
 have m:n ^^^ 1=if n%2=1 then n-1 else n+1:=by
  have j:(n ^^^ 1)/2=n/2 ^^^ 1/2:=Nat.xor_div_two
  have h2:(n ^^^ 1)%2=(n+1)%2:=by
   rw[show(2:Nat)=2^1 from rfl,Nat.xor_mod_two_pow]
   rcases Nat.mod_two_eq_zero_or_one n with h|h<;>simp[h,Nat.add_mod]
  rw[show(1:Nat)/2=0 from rfl,Nat.xor_zero]at j;generalize n ^^^ 1=x at*
  split<;>omega
 rw[m]
 have:IntKind.i64.wrap (((if n%2=1 then n-1 else n+1:Nat)):Int)=((if n%2=1 then n-1 else n+1:Nat):Int):=IntWalk.i64_in _ (by split<;>omega)
 rw[this]
 split<;>split<;>omega
theorem and_one (l:Int) (h0:0<=l) (h1:l<=9223372036854775807):bits .and .i64 l 1=l%2:=by
 obtain⟨n,rfl⟩:=Int.eq_ofNat_of_zero_le h0
 show IntKind.i64.wrap ((BitVec.ofInt 64 (n:Int) &&& BitVec.ofInt 64 ((1:Nat):Int)).toNat:Int)=_
 rw[BitVec.toNat_and,ofInt_u64 n (by omega),ofInt_u64 1 (by omega),show n &&& 1=n%2 from Nat.and_one_is_mod n];rw[IntWalk.i64_in _ (by omega)];omega
def ivs (l:List Int):List Value:=l.map (Value.int .i64)
def bvs (l:List Bool):List Value:=l.map Value.bool
def hasB (l:List Int) (x:Int):Bool:=decide (x∈l)
theorem AnP {l:List Int} {x:Int}:hasB l x=true↔x∈l:=by simp[hasB]
theorem AoA {l:List Int} {x:Int} (h:∀ k:Nat,k<l.length->l[k]?≠some x):hasB l x=false:=by
 unfold hasB;rw[decide_eq_false_iff_not];intro p;obtain⟨k,j,m⟩:=List.getElem_of_mem p;exact h k j (by rw[List.getElem?_eq_getElem j,m])
theorem AmW {l:List Int} {x:Int} {k:Nat} (h:l[k]?=some x):hasB l x=true:=AnP.2 (List.mem_of_getElem? h)
theorem Aiu (A:Option Addr) (n c:Nat) (l:List Int) (x:Int) (w:World) (hn:n<=1000000) (hr:Rd w A n (ivs l)):
  Calls Tryz.prog 60 #[.slice A n c,.int .i64 x] w λe J=>e= .returned (.bool (hasB l x))/\w=J:=by
 go_enter Tryz.func60,Tryz.ntmps60
 go_wp2
 go_loop [5] (λi=>∃ k:Nat,k<=n/\i= .int .i64 k/\Hid (∀j:Nat,j<k->l[j]?≠some x)) (λi=>n-(intOf i).toNat)
 case atStart=>exact⟨0,Nat.zero_le _,rfl,λj r=>absurd r (Nat.not_lt_zero _)⟩
 case round=>
  obtain⟨k,R,rfl,q⟩:=hrel
  by_cases p:k<n
  ·obtain⟨M,y,rfl,N,hy,O⟩:=hr.get p
   by_cases m:y=x
   ·have E:=Ab (show true=hasB l x from(AmW (m▸hy)).symm)
    have I:(y==x)=true:=by simp[m]
    clear m hy;go_wp2;go_ret
    exact⟨Kn E.o,rfl⟩
   have I:(y==x)=false:=by simp[m]
   have D:=Ab (show ∀j:Nat,j<k+1->l[j]?≠some x from λj r=>by
    by_cases F:j<k
    ·exact q.o j F
    have:j=k:=by omega
    subst this;rw[hy]
    intro h;injection h with h;exact m h)
   clear m hy;go_wp2
   go_round
   case rel=>exact⟨k+1,p,by go_num,D.o⟩
   case measure=>simp[intOf];omega
  have z:n=k:=by omega
  subst z;have B:=Ab (show false=hasB l x from(AoA (λj r=>q.o j (by have:=hr.len;omega))).symm);go_wp2;go_ret
  exact⟨Kn B.o,rfl⟩
def Ahq (a b:List Int):Bool:=decide (a=b)
theorem AmU {α:Type} {a b:List α} {k:Nat} {x y:α} (hx:a[k]?=some x) (hy:b[k]?=some y) (h:x≠y):a≠b:=by
 rintro rfl;rw[hx]at hy;injection hy with hy;exact h hy
theorem Alf {α:Type} {a b:List α} (hl:a.length=b.length) (h:∀ k:Nat,k<a.length->a[k]?=b[k]?):a=b:=by
 apply List.ext_getElem?
 intro k
 by_cases j:k<a.length
 ·exact h k j
 rw[List.getElem?_eq_none (by omega),List.getElem?_eq_none (by omega)]
theorem Qp (A B:Option Addr) (n m c d:Nat) (a b:List Int) (w:World) (hn:n<=1000000) (hra:Rd w A n (ivs a)) (hrb:Rd w B m (ivs b)):
  Calls Tryz.prog 34 #[.slice A n c,.slice B m d] w λe w'=>e= .returned (.bool (Ahq a b))/\Dr w w':=by
 have l:=hra.len;have p:=hrb.len
 by_cases O:n=m
 ·subst O;have R:=Ab (show a.length=b.length by omega);have D:=Ab l;clear l p
  go_enter Tryz.func34,Tryz.ntmps34
  go_wp2
  go_loopw [5] (λi wr=>∃ k:Nat,k<=n/\i= .int .i64 k/\Dr w wr/\Hid (∀j:Nat,j<k->a[j]?=b[j]?)) (λi _=>n-(intOf i).toNat)
  case atStart=>exact⟨0,Nat.zero_le _,rfl,Dr.refl _,λj J=>absurd J (Nat.not_lt_zero _)⟩
  case round=>
   obtain⟨k,hk,rfl,z,E⟩:=hrel
   by_cases q:k<n
   ·obtain⟨ad,x,rfl,hB,F,hc⟩:=(Dr.rd z hra).get q;obtain⟨X,y,rfl,Z,hy,aA⟩:=(Dr.rd z hrb).get q
    by_cases r:x=y
    ·have N:(x != y)=false:=by simp[r]
     have S:=Ab (show ∀j:Nat,j<k+1->a[j]?=b[j]? from λj J=>by
      by_cases Y:j<k
      ·exact E.o j Y
      have:j=k:=by omega
      subst this
      rw[F,hy,r])
     clear r F hy;go_wp2
     go_quiet (fail)
     go_wp2;go_roundw
     case rel=>exact⟨k+1,q,by go_num,z.more _,S.o⟩
     case measure=>simp[intOf];omega
    have N:(x != y)=true:=by simp[r]
    have I:=Ab (show false=Ahq a b from(decide_eq_false (AmU F hy r)).symm);clear r F hy;go_wp2
    go_quiet (fail)
    go_wp2;go_ret
    exact⟨Kn I.o,z.more _⟩
   have M:n=k:=by omega
   subst M;have U:=Ab (show true=Ahq a b from(decide_eq_true (Alf R.o (λj J=>E.o j (by have:=D.o;omega)))).symm);go_wp2;go_ret
   exact⟨Kn U.o,z⟩
 have I:=Ab (show false=Ahq a b from(decide_eq_false (λh=>O (by rw[<-l,<-p,h]))).symm)
 have N:((n:Int) != (m:Int))=true:=by simp;omega
 clear l p
 go_enter Tryz.func34,Tryz.ntmps34
 go_wp2;go_ret
 exact⟨Kn I.o,Dr.refl _⟩
end Go.Proofs.YtmidbhnhcbpneaaGreatDoor.Lit
end
section
namespace Go.Proofs
open Go.Shelf
def Tryz.lays172_ren:Go.Shelf.Ren:=⟨fun|172=>112|244=>141|245=>142|247=>182|279=>183|280=>184|281=>185|282=>186|287=>257|316=>258|171=>107|205=>259|321=>323|322=>324|243=>140|246=>181|283=>253|284=>254|285=>255|286=>256|129=>319|317=>318|318=>320|319=>321|320=>322|337=>358|338=>359|n=>n,fun|9=>9|3=>3|75=>131|76=>132|4=>4|5=>5|167=>276|37=>127|0=>0|85=>277|2=>2|168=>279|53=>74|175=>356|46=>181|210=>360|127=>179|145=>410|143=>408|21=>21|171=>352|173=>354|212=>404|51=>139|20=>20|213=>405|232=>435|233=>436|80=>135|n=>n,fun|15=>1|16=>2|17=>3|18=>5|19=>6|n=>n⟩
theorem Tryz.lays172:Go.Proofs.Lays.n172 Tryz.prog Tryz.lays172_ren:={
 mixed:=by kernel_rfl
 f129:=Tryz.func319.trans (congrArg some (by kernel_rfl))
 f171:=Tryz.func107.trans (congrArg some (by kernel_rfl))
 f172:=Tryz.func112.trans (congrArg some (by kernel_rfl))
 f205:=Tryz.func259.trans (congrArg some (by kernel_rfl))
 f243:=Tryz.func140.trans (congrArg some (by kernel_rfl))
 f244:=Tryz.func141.trans (congrArg some (by kernel_rfl))
 f245:=Tryz.func142.trans (congrArg some (by kernel_rfl))
 f246:=Tryz.func181.trans (congrArg some (by kernel_rfl))
 f247:=Tryz.func182.trans (congrArg some (by kernel_rfl))
 f279:=Tryz.func183.trans (congrArg some (by kernel_rfl))
 f280:=Tryz.func184.trans (congrArg some (by kernel_rfl))
 f281:=Tryz.func185.trans (congrArg some (by kernel_rfl))
 f282:=Tryz.func186.trans (congrArg some (by kernel_rfl))
 f283:=Tryz.func253.trans (congrArg some (by kernel_rfl))
 f284:=Tryz.func254.trans (congrArg some (by kernel_rfl))
 f285:=Tryz.func255.trans (congrArg some (by kernel_rfl))
 f286:=Tryz.func256.trans (congrArg some (by kernel_rfl))
 f287:=Tryz.func257.trans (congrArg some (by kernel_rfl))
 f316:=Tryz.func258.trans (congrArg some (by kernel_rfl))
 f317:=Tryz.func318.trans (congrArg some (by kernel_rfl))
 f318:=Tryz.func320.trans (congrArg some (by kernel_rfl))
 f319:=Tryz.func321.trans (congrArg some (by kernel_rfl))
 f320:=Tryz.func322.trans (congrArg some (by kernel_rfl))
 f321:=Tryz.func323.trans (congrArg some (by kernel_rfl))
 f322:=Tryz.func324.trans (congrArg some (by kernel_rfl))
 f337:=Tryz.func358.trans (congrArg some (by kernel_rfl))
 f338:=Tryz.func359.trans (congrArg some (by kernel_rfl))
 t0:=Tryz.underlying0
 a0:=Tryz.isAgg0
 z0:=Tryz.sizeOf0
 v0:=Tryz.zeroValue0
 t2:=Tryz.underlying2
 a2:=Tryz.isAgg2
 z2:=Tryz.sizeOf2
 v2:=Tryz.zeroValue2
 t3:=Tryz.underlying3
 a3:=Tryz.isAgg3
 z3:=Tryz.sizeOf3
 v3:=Tryz.zeroValue3
 t4:=Tryz.underlying4
 a4:=Tryz.isAgg4
 z4:=Tryz.sizeOf4
 v4:=Tryz.zeroValue4
 t5:=Tryz.underlying5
 a5:=Tryz.isAgg5
 z5:=Tryz.sizeOf5
 v5:=Tryz.zeroValue5
 t9:=Tryz.underlying9
 a9:=Tryz.isAgg9
 z9:=Tryz.sizeOf9
 v9:=Tryz.zeroValue9
 t20:=Tryz.underlying20
 a20:=Tryz.isAgg20
 z20:=Tryz.sizeOf20
 v20:=Tryz.zeroValue20
 t21:=Tryz.underlying21
 a21:=Tryz.isAgg21
 z21:=Tryz.sizeOf21
 v21:=Tryz.zeroValue21
 t37:=Tryz.underlying127
 a37:=Tryz.isAgg127
 z37:=Tryz.sizeOf127
 v37:=Tryz.zeroValue127
 t46:=Tryz.underlying181
 a46:=Tryz.isAgg181
 z46:=Tryz.sizeOf181
 v46:=Tryz.zeroValue181
 t51:=Tryz.underlying139
 a51:=Tryz.isAgg139
 z51:=Tryz.sizeOf139
 v51:=Tryz.zeroValue139
 t53:=Tryz.underlying74
 a53:=Tryz.isAgg74
 z53:=Tryz.sizeOf74
 v53:=Tryz.zeroValue74
 t75:=Tryz.underlying131
 a75:=Tryz.isAgg131
 z75:=Tryz.sizeOf131
 v75:=Tryz.zeroValue131
 t76:=Tryz.underlying132
 a76:=Tryz.isAgg132
 z76:=Tryz.sizeOf132
 v76:=Tryz.zeroValue132
 t85:=Tryz.underlying277
 a85:=Tryz.isAgg277
 z85:=Tryz.sizeOf277
 v85:=Tryz.zeroValue277
 t127:=Tryz.underlying179
 a127:=Tryz.isAgg179
 z127:=Tryz.sizeOf179
 v127:=Tryz.zeroValue179
 t143:=Tryz.underlying408
 a143:=Tryz.isAgg408
 z143:=Tryz.sizeOf408
 v143:=Tryz.zeroValue408
 t145:=Tryz.underlying410
 a145:=Tryz.isAgg410
 z145:=Tryz.sizeOf410
 v145:=Tryz.zeroValue410
 t167:=Tryz.underlying276
 a167:=Tryz.isAgg276
 z167:=Tryz.sizeOf276
 v167:=Tryz.zeroValue276
 t168:=Tryz.underlying279
 a168:=Tryz.isAgg279
 z168:=Tryz.sizeOf279
 v168:=Tryz.zeroValue279
 t171:=Tryz.underlying352
 a171:=Tryz.isAgg352
 z171:=Tryz.sizeOf352
 v171:=Tryz.zeroValue352
 t173:=Tryz.underlying354
 a173:=Tryz.isAgg354
 z173:=Tryz.sizeOf354
 v173:=Tryz.zeroValue354
 t175:=Tryz.underlying356
 a175:=Tryz.isAgg356
 z175:=Tryz.sizeOf356
 v175:=Tryz.zeroValue356
 t210:=Tryz.underlying360
 a210:=Tryz.isAgg360
 z210:=Tryz.sizeOf360
 v210:=Tryz.zeroValue360
 t212:=Tryz.underlying404
 a212:=Tryz.isAgg404
 z212:=Tryz.sizeOf404
 v212:=Tryz.zeroValue404
 t213:=Tryz.underlying405
 a213:=Tryz.isAgg405
 z213:=Tryz.sizeOf405
 t232:=Tryz.underlying435
 a232:=Tryz.isAgg435
 z232:=Tryz.sizeOf435
 v232:=Tryz.zeroValue435
 t233:=Tryz.underlying436
 a233:=Tryz.isAgg436
 z233:=Tryz.sizeOf436
 v233:=Tryz.zeroValue436
 g15:=by kernel_rfl
 g16:=by kernel_rfl
 g17:=by kernel_rfl
 g18:=by kernel_rfl
 g19:=by kernel_rfl}
open Go.RowKit in
theorem Tryz.strconv_Atoi (s:ByteArray) (n:Int) (hl:s.size<=18) (h:Lib.atoi s.data.toList=some n) (w:World):
 Calls Tryz.prog 112 #[.string s] w λe j=>e= .returned (.tuple #[.int .i64 n,.nilIface])/\∃t,j=Lib.bytesWorld w 5 t:=Any.strconv_Atoi Tryz.lays172 s n hl h w
def Tryz.laysM171_ren:Go.Shelf.Ren:=⟨fun|171=>107|243=>140|246=>181|283=>253|284=>254|285=>255|286=>256|129=>319|317=>318|318=>320|319=>321|320=>322|337=>358|338=>359|n=>n,fun|3=>3|9=>9|2=>2|4=>4|171=>352|0=>0|53=>74|37=>127|5=>5|173=>354|212=>404|51=>139|20=>20|213=>405|46=>181|232=>435|233=>436|n=>n,fun|17=>3|18=>5|19=>6|n=>n⟩
theorem Tryz.laysM171:Go.Proofs.LaysM.n171 Tryz.prog Tryz.laysM171_ren:={
 mixed:=by kernel_rfl
 f129:=Tryz.func319.trans (congrArg some (by kernel_rfl))
 f171:=Tryz.func107.trans (congrArg some (by kernel_rfl))
 f243:=Tryz.func140.trans (congrArg some (by kernel_rfl))
 f246:=Tryz.func181.trans (congrArg some (by kernel_rfl))
 f283:=Tryz.func253.trans (congrArg some (by kernel_rfl))
 f284:=Tryz.func254.trans (congrArg some (by kernel_rfl))
 f285:=Tryz.func255.trans (congrArg some (by kernel_rfl))
 f286:=Tryz.func256.trans (congrArg some (by kernel_rfl))
 f317:=Tryz.func318.trans (congrArg some (by kernel_rfl))
 f318:=Tryz.func320.trans (congrArg some (by kernel_rfl))
 f319:=Tryz.func321.trans (congrArg some (by kernel_rfl))
 f320:=Tryz.func322.trans (congrArg some (by kernel_rfl))
 f337:=Tryz.func358.trans (congrArg some (by kernel_rfl))
 f338:=Tryz.func359.trans (congrArg some (by kernel_rfl))
 t0:=Tryz.underlying0
 a0:=Tryz.isAgg0
 z0:=Tryz.sizeOf0
 v0:=Tryz.zeroValue0
 t2:=Tryz.underlying2
 a2:=Tryz.isAgg2
 z2:=Tryz.sizeOf2
 v2:=Tryz.zeroValue2
 t3:=Tryz.underlying3
 a3:=Tryz.isAgg3
 z3:=Tryz.sizeOf3
 v3:=Tryz.zeroValue3
 t4:=Tryz.underlying4
 a4:=Tryz.isAgg4
 z4:=Tryz.sizeOf4
 v4:=Tryz.zeroValue4
 t5:=Tryz.underlying5
 a5:=Tryz.isAgg5
 z5:=Tryz.sizeOf5
 v5:=Tryz.zeroValue5
 t9:=Tryz.underlying9
 a9:=Tryz.isAgg9
 z9:=Tryz.sizeOf9
 v9:=Tryz.zeroValue9
 t20:=Tryz.underlying20
 a20:=Tryz.isAgg20
 z20:=Tryz.sizeOf20
 v20:=Tryz.zeroValue20
 t37:=Tryz.underlying127
 a37:=Tryz.isAgg127
 z37:=Tryz.sizeOf127
 v37:=Tryz.zeroValue127
 t46:=Tryz.underlying181
 a46:=Tryz.isAgg181
 z46:=Tryz.sizeOf181
 v46:=Tryz.zeroValue181
 t51:=Tryz.underlying139
 a51:=Tryz.isAgg139
 z51:=Tryz.sizeOf139
 v51:=Tryz.zeroValue139
 t53:=Tryz.underlying74
 a53:=Tryz.isAgg74
 z53:=Tryz.sizeOf74
 v53:=Tryz.zeroValue74
 t171:=Tryz.underlying352
 a171:=Tryz.isAgg352
 z171:=Tryz.sizeOf352
 v171:=Tryz.zeroValue352
 t173:=Tryz.underlying354
 a173:=Tryz.isAgg354
 z173:=Tryz.sizeOf354
 v173:=Tryz.zeroValue354
 t212:=Tryz.underlying404
 a212:=Tryz.isAgg404
 z212:=Tryz.sizeOf404
 v212:=Tryz.zeroValue404
 t213:=Tryz.underlying405
 a213:=Tryz.isAgg405
 z213:=Tryz.sizeOf405
 t232:=Tryz.underlying435
 a232:=Tryz.isAgg435
 z232:=Tryz.sizeOf435
 v232:=Tryz.zeroValue435
 t233:=Tryz.underlying436
 a233:=Tryz.isAgg436
 z233:=Tryz.sizeOf436
 v233:=Tryz.zeroValue436
 g17:=by kernel_rfl
 g18:=by kernel_rfl
 g19:=by kernel_rfl
 i0:=by kernel_rfl
 i2:=by kernel_rfl
 i3:=by kernel_rfl
 i4:=by kernel_rfl
 i5:=by kernel_rfl
 i9:=by kernel_rfl
 i20:=by kernel_rfl
 i37:=by kernel_rfl
 i46:=by kernel_rfl
 i51:=by kernel_rfl
 i53:=by kernel_rfl
 i171:=by kernel_rfl
 i173:=by kernel_rfl
 i212:=by kernel_rfl
 i232:=by kernel_rfl
 i233:=by kernel_rfl
 m17:=by kernel_rfl
 m18:=by kernel_rfl
 m19:=by kernel_rfl}
open Go.RowKit Go.Sort Go.Lib in
theorem Tryz.strconv_Itoa (n:Int) (h0: -9223372036854775808<=n) (h1:n<=9223372036854775807) (w:World) (htab:Lib.TabIs Tryz.prog w "internal/strconv.uint64pow10" .u64 Lib.pow10Tab):
 Calls Tryz.prog 107 #[.int .i64 n] w λe j=>e= .returned (.string ⟨(Lib.itoa n).toArray⟩)/\∃k os,j=grow (w.drewN k) os:=Any.strconv_Itoa Tryz.laysM171 n h0 h1 w htab
def Tryz.lays99_ren:Go.Shelf.Ren:=⟨fun|99=>41|206=>81|n=>n,fun|9=>9|4=>4|3=>3|n=>n,fun|n=>n⟩
theorem Tryz.lays99:Go.Proofs.Lays.n99 Tryz.prog Tryz.lays99_ren:={
 mixed:=by kernel_rfl
 f99:=Tryz.func41.trans (congrArg some (by kernel_rfl))
 f206:=Tryz.func81.trans (congrArg some (by kernel_rfl))
 t3:=Tryz.underlying3
 a3:=Tryz.isAgg3
 z3:=Tryz.sizeOf3
 v3:=Tryz.zeroValue3
 t4:=Tryz.underlying4
 a4:=Tryz.isAgg4
 z4:=Tryz.sizeOf4
 v4:=Tryz.zeroValue4
 t9:=Tryz.underlying9
 a9:=Tryz.isAgg9
 z9:=Tryz.sizeOf9
 v9:=Tryz.zeroValue9}
open Go.RowKit Go.Lib in
theorem Tryz.strings_HasPrefix (s p:ByteArray) (w:World):
 Calls Tryz.prog 41 #[.string s,.string p] w λe j=>e= .returned (.bool (Lib.hasPrefix s.data.toList p.data.toList))/\j=w:=Any.strings_HasPrefix Tryz.lays99 s p w
end Go.Proofs
end
