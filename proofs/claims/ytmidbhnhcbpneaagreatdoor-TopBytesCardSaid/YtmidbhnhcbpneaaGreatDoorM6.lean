/- A part of the proof. -/
import Derived.Test.YtmidbhnhcbpneaaGreatDoorM5
import Derived.Test.YtmidbhnhcbpneaaGreatDoorM3
set_option linter.unusedVariables false
set_option linter.unusedSimpArgs false
set_option maxRecDepth 8000
set_option maxHeartbeats 8000000
section
namespace Go.Proofs.YtmidbhnhcbpneaaGreatDoor.Top
open Go YtmidbhnhcbpneaaGreatDoor.Dec
def valOf (vals:List Bool) (l:Nat):Bool:=(vals.getD (l/2) false) != (decide (l%2=1))
def Tl (vals:List Bool) (ps:List (Nat×Nat)):List Bool:=ps.foldl (λv p=>v++ [valOf v p.1&&valOf v p.2]) vals
def gpair (c:Cir):List (Nat×Nat):=(Aw c.gat).map λi=>(ofC c (c.gat.getD i z3).b,ofC c (c.gat.getD i z3).c)
def Oz (c:Cir) (ins:List Bool):List Bool:=Tl (false::ins) (gpair c)
def Mj (c:Cir) (ins:List Bool) (l:Nat):Bool:=valOf (Oz c ins) (ofC c l)
def brought (l:List Bool) (n:Nat):List Bool:=(List.range n).map λi=>l.getD i false
def Hl (c:Cir) (s i:List Bool):List Bool:=brought i c.ins.length++brought s c.lat.length
def Eb (r:Nat) (b:Bool):Bool:= !(decide (r=0)&&b)&& !(decide (r=1)&& !b)
def Gm (c:Cir) (s:List Bool):Bool:=decide (s.length=c.lat.length)&&(List.range s.length).all λi=>Eb (c.lat.getD i z3).c (s.getD i false)
def Is (c:Cir) (s i:List Bool):List Bool:=c.lat.map λx=>Mj c (Hl c s i) x.b
def Xg (c:Cir) (s i:List Bool) (prop:Int):Bool:=decide (0<=prop)&&decide (prop<c.bads.length)&&Mj c (Hl c s i) (c.bads.getD prop.toNat 0)
def Kc (c:Cir) (s i:List Bool):Bool:=c.cons.all (Mj c (Hl c s i))
def Hz (c:Cir):List Bool->List (List Bool)->List (List Bool)
 |_,[]=>[]
 |s,i::r=>s::Hz c (Is c s i) r
def Fe (c:Cir) (start:List Bool) (r:List (List Bool)) (prop:Int):Bool:=
 Gm c start&& !r.isEmpty&&((List.range r.length).all λi=>decide ((r.getD i []).length=c.ins.length)&&Kc c ((Hz c (brought start c.lat.length) r).getD i []) (r.getD i []))&&
  Xg c ((Hz c (brought start c.lat.length) r).getD (r.length-1) []) (r.getD (r.length-1) []) prop
theorem AkQ (l:List (Nat×Nat)):∀ j,Tl j (l.map λp=>(max p.1 p.2,min p.1 p.2))=Tl j l:=by
 induction l with
 |nil=>intro j;rfl
 |cons p l m=>
  intro j
  have e:(valOf j (max p.1 p.2)&&valOf j (min p.1 p.2))=(valOf j p.1&&valOf j p.2):=by
   rcases Nat.le_total p.1 p.2 with h|h
   ·rw[Nat.max_eq_right h,Nat.min_eq_left h,Bool.and_comm]
   rw[Nat.max_eq_left h,Nat.min_eq_right h]
  show Tl (j++ [_]) (l.map _)=Tl (j++ [_]) l
  rw[m,e]
section
variable {c:Cir}
theorem Aiz (h:Ag c):gpair (Ak c)=(gpair c).map λp=>(max p.1 p.2,min p.1 p.2):=by
 have m:=On h;unfold gpair;rw[Ru h,List.map_map]
 apply List.ext_getElem?
 intro k;rw[List.getElem?_map,List.getElem?_map]
 by_cases l:k<(Ak c).gat.length
 ·rw[List.getElem?_range l]
  have j:(Ak c).gat[k]?=some ((Ak c).gat.getD k z3):=by simp[List.getD,l]
  have q:=List.mem_of_getElem? j;obtain⟨i,hi,e⟩:=AdZ h j;rw[hi];simp only[Option.map_some,Function.comp_apply];rw[Pw h (Du m (Bg q).1),Pw h (Du m (Bg q).2),e];rfl
 rw[List.getElem?_eq_none (by simp;omega),List.getElem?_eq_none (by rw[It]at l;omega)];rfl
theorem AlW (h:Ag c) (ins:List Bool):Oz (Ak c) ins=Oz c ins:=by
 unfold Oz;rw[Aiz h,AkQ]
theorem Adg (h:Ag c) (ins:List Bool) {l:Nat} (hl:l∈Ch c):Mj (Ak c) ins (ofC c l)=Mj c ins l:=by
 unfold Mj;rw[AlW h];have j:=Zk h (Du h hl);rw[Pw h]
 by_cases h2:l<2
 ·exact .inl (j.2.2.2 h2)
 refine .inr ?_;rw[Zb h,Oe];have e:(Ak c).max=(Av c).length:=rfl;rw[e];have p:¬ ofC c l<2:=λm=>h2 (j.2.2.1 m)
 exact⟨(ofC c l)/2-1,by omega,by omega⟩
theorem Adw (h:Ag c) (s i:List Bool):Hl (Ak c) s i=Hl c s i:=by
 unfold Hl;rw[Ep,Eo]
theorem AlS (h:Ag c) (s i:List Bool):Is (Ak c) s i=Is c s i:=by
 unfold Is;rw[Adw h];have e:(Ak c).lat=c.lat.map λx=>(⟨ofC c x.a,ofC c x.b,if x.c=x.a then ofC c x.a else x.c⟩:N3):=rfl;rw[e,List.map_map];exact List.map_congr_left λx j=>Adg h _ (Fo j)
theorem AiE (h:Ag c) (s i:List Bool):Kc (Ak c) s i=Kc c s i:=by
 unfold Kc;rw[Adw h];have e:(Ak c).cons=c.cons.map (ofC c):=rfl;rw[e,List.all_map]
 have:∀ l:List Nat,(∀x∈l,x∈Ch c)->l.all (Mj (Ak c) (Hl c s i)∘ofC c)=l.all (Mj c (Hl c s i)):=λl m=>by
  induction l with
  |nil=>rfl
  |cons a l p=>
   rw[List.all_cons,List.all_cons,p (λx j=>m x (List.mem_cons_of_mem _ j))];rw[Function.comp_apply,Adg h _ (m a List.mem_cons_self)]
 exact this _ (λx j=>Ey j)
theorem Anm (h:Ag c) (s i:List Bool) (prop:Int):Xg (Ak c) s i prop=Xg c s i prop:=by
 unfold Xg;rw[Adw h];have e:(Ak c).bads=c.bads.map (ofC c):=rfl;rw[e,List.length_map]
 by_cases p:0<=prop/\prop<c.bads.length
 ·have j:prop.toNat<c.bads.length:=by omega
  have l:c.bads[prop.toNat]?=some (c.bads.getD prop.toNat 0):=by simp[List.getD,j]
  have m:(c.bads.map (ofC c)).getD prop.toNat 0=ofC c (c.bads.getD prop.toNat 0):=by
   rw[List.getD_eq_getElem?_getD,List.getElem?_map,l];rfl
  rw[m,Adg h _ (Ez (List.mem_of_getElem? l))]
 have:(decide (0<=prop)&&decide (prop<(c.bads.length:Int)))=false:=by
  rw[<-Bool.not_eq_true];simp;omega
 rw[this,Bool.false_and,Bool.false_and]
theorem Aag (h:Ag c):∀ (r:List (List Bool)) (s:List Bool),Hz (Ak c) s r=Hz c s r
 | [],s=>rfl
 |i::r,s=>by
  show s::Hz (Ak c) (Is (Ak c) s i) r=s::Hz c (Is c s i) r
  rw[AlS h,Aag h]
theorem AgN (h:Ag c) (s:List Bool):Gm (Ak c) s=Gm c s:=by
 unfold Gm;rw[Eo]
 by_cases j:s.length=c.lat.length
 ·congr 1
  have:∀ l:List Nat,(∀i∈l,i<c.lat.length)->(l.all λi=>Eb ((Ak c).lat.getD i z3).c (s.getD i false))=l.all λi=>Eb (c.lat.getD i z3).c (s.getD i false):=λl j=>by
   induction l with
   |nil=>rfl
   |cons i l D=>
    rw[List.all_cons,List.all_cons,D (λx B=>j x (List.mem_cons_of_mem _ B))]
    congr 1
    have hi:=j i List.mem_cons_self
    have p:c.lat[i]?=some (c.lat.getD i z3):=by simp[List.getD,hi]
    have e:(Ak c).lat.getD i z3=⟨ofC c (c.lat.getD i z3).a,ofC c (c.lat.getD i z3).b,if(c.lat.getD i z3).c=(c.lat.getD i z3).a then ofC c (c.lat.getD i z3).a else(c.lat.getD i z3).c⟩:=by
     rw[List.getD_eq_getElem?_getD]
     show((c.lat.map λx=>(⟨ofC c x.a,ofC c x.b,if x.c=x.a then ofC c x.a else x.c⟩:N3))[i]?).getD z3=_
     rw[List.getElem?_map,p];rfl
    rw[e];have z:=List.mem_of_getElem? p;have q:=Em z;have h2:=h.own _ q
    by_cases m:(c.lat.getD i z3).c=(c.lat.getD i z3).a
    ·simp only[if_pos m];have r:=Zk h (l:=(c.lat.getD i z3).a) (.inr (by rw[h2.2.1,Nat.sub_zero];exact q))
     have E:¬ ofC c (c.lat.getD i z3).a<2:=λy=>by have:=r.2.2.1 y;omega
     unfold Eb;rw[m,decide_eq_false (show ¬ofC c (c.lat.getD i z3).a=0 by omega),decide_eq_false (show ¬ofC c (c.lat.getD i z3).a=1 by omega),decide_eq_false (show ¬(c.lat.getD i z3).a=0 by omega),decide_eq_false (show ¬(c.lat.getD i z3).a=1 by omega)]
    simp only[if_neg m]
  exact this _ (λi hi=>by have:=List.mem_range.1 hi;omega)
 rw[decide_eq_false j,Bool.false_and,Bool.false_and]
theorem AgO (h:Ag c) (s:List Bool) (r:List (List Bool)) (prop:Int):Fe (Ak c) s r prop=Fe c s r prop:=by
 unfold Fe;rw[AgN h,Eo,Ep,Aag h,Anm h];simp only[AiE h]
end
def Abt (m x:Nat):Prop:=1<x/\x%2=0/\x<=2*m
def AmI (x:N3):Prop:=x.c=0∨x.c=1∨x.c=x.a
structure Py (c:Cir):Prop where
 own:∀ x∈Dd c,Abt c.max x
 res:∀ x∈c.lat,AmI x
 used:∀ x∈Ch c,x<=2*c.max+1
def halves (l:List Nat):List Nat:=l.map (· /2)
theorem AkD {c:Cir} (h:Py c) {x y:Nat} (hx:x∈Dd c) (hy:y∈Dd c) (e:x/2=y/2):x=y:=by
 have:=h.own x hx;have:=h.own y hy
 unfold Abt at*;omega
theorem Ahy {c:Cir} (h:Py c):(halves (Dd c)).Nodup↔(Dd c).Nodup:=by
 unfold halves List.Nodup;rw[List.pairwise_map];constructor
 ·intro l;exact l.imp (λj e=>j (by rw[e]))
 intro l;exact List.Pairwise.imp_of_mem (λm p j e=>j (AkD h m p e)) l
theorem Aim {c:Cir} (h:Py c) {x:Nat}:(x/2=0∨x/2∈halves (Dd c))↔(1<x->x-x%2∈Dd c):=by
 unfold halves;constructor
 ·rintro(j|j) l
  ·omega
  obtain⟨y,hy,e⟩:=List.mem_map.1 j
  have:=h.own y hy
  unfold Abt at this
  have:y=x-x%2:=by omega
  rw[<-this];exact hy
 intro j
 by_cases l:1<x
 ·exact .inr (List.mem_map.2 ⟨_,j l,by omega⟩)
 exact .inl (by omega)
theorem Afa (c:Cir):Ag c↔c.max<=16777216/\Py c/\(halves (Dd c)).Nodup/\(∀x∈Ch c,x/2=0∨x/2∈halves (Dd c))/\(Aw c.gat).length=c.gat.length:=by
 constructor
 ·intro h;have l:Py c:=⟨λx j=>by have:=h.own x j;unfold Abt;omega,λx j=>h.res x j,h.used⟩
  exact⟨h.max,l,(Ahy l).2 h.one,λx j=>(Aim l).2 (h.def_ x j),h.all⟩
 rintro⟨h1,h2,h3,h4,h5⟩
 exact⟨h1,λx j=>by have:=h2.own x j;unfold Abt at this;omega,h2.used,h2.res,(Ahy h2).1 h3,λx j=>(Aim h2).1 (h4 x j),h5⟩
theorem AhG {c:Cir} (h:(halves (Dd c)).Nodup):Qe c.gat:=by
 have r:(halves (c.gat.map N3.a)).Nodup:=by
  unfold halves Dd at h;rw[List.map_append]at h
  exact(List.nodup_append.1 h).2.1
 intro i j hi p e
 have m:(halves (c.gat.map N3.a)).length=c.gat.length:=by simp[halves]
 have q:∀ k (l:k<c.gat.length),(halves (c.gat.map N3.a))[k]'(by rw[m];exact l)=aG c.gat k/2:=λk l=>by
  unfold halves aG;simp[List.getD,l]
 exact Wv r (by rw[m];exact hi) (by rw[m];exact p) (by rw[q i hi,q j p,e])
end Go.Proofs.YtmidbhnhcbpneaaGreatDoor.Top
end
section
namespace Go.Proofs.YtmidbhnhcbpneaaGreatDoor.Top
open Go Go.RowKit Go.Lt YtmidbhnhcbpneaaGreatDoor.Lit YtmidbhnhcbpneaaGreatDoor.Dec
open YtmidbhnhcbpneaaGreatDoor.Circ (T3 enc3 RdT Sl Cv Ae)
abbrev nvs (l:List Nat):List Value:=l.map λ(n:Nat)=>Value.int .i64 n
def t3 (x:N3):T3:=⟨x.a,x.b,x.c⟩
abbrev Iv (l:List N3):List Value:=enc3 (l.map t3)
theorem Ww (l:List N3) (x:N3):Iv (l++ [x])=Iv l++ [.int .i64 (x.a:Nat),.int .i64 (x.b:Nat),.int .i64 (x.c:Nat)]:=by
 unfold Iv enc3 t3;rw[List.map_append,List.flatMap_append];rfl
abbrev sv (s:Sl):Value:= .slice s.A s.n s.c
abbrev Ap:Sl:=⟨none,0,0⟩
abbrev Vj:Cv:=⟨Ap,Ap,Ap,Ap,Ap,Ap,Ap,.empty⟩
structure Fi (B:Nat) (W:World) (v:Cv) (c:Cir):Prop where
 ins:W.ownsRow B 3 1 (sv v.ins) c.ins.length (nvs c.ins)
 lat:W.ownsRow B 59 3 (sv v.lat) c.lat.length (Iv c.lat)
 outs:W.ownsRow B 3 1 (sv v.outs) c.outs.length (nvs c.outs)
 bads:W.ownsRow B 3 1 (sv v.bads) c.bads.length (nvs c.bads)
 cons:W.ownsRow B 3 1 (sv v.cons) c.cons.length (nvs c.cons)
 gat:W.ownsRow B 62 3 (sv v.gat) c.gat.length (Iv c.gat)
theorem Bd {W:World} {B size:Nat} {e:TypeId}:W.ownsRow B e size (sv Ap) 0 []:=⟨by simp,.inl ⟨rfl,rfl⟩⟩
theorem Fi.nil (B:Nat) (W:World) (m:Nat):Fi B W Vj ⟨m,[],[],[],[],[],[]⟩:=⟨Bd,Bd,Bd,Bd,Bd,Bd⟩
theorem Fi.fr {B:Nat} {W W':World} {v:Cv} {c:Cir} {S:Nat->Prop} (h:Fi B W v c) (hf:Fr S W W') (hS:∀ k,S k->k<B∨∃t m,Blk W k t m/\t≠3/\t≠59/\t≠62):Fi B W' v c:=by
 have j:∀ {e:TypeId} {size n:Nat} {u:Value} {xs:List Value},(e=3∨e=59∨e=62)->W.ownsRow B e size u n xs->W'.ownsRow B e size u n xs:=λ{e size n u xs} he ho=>by
  refine hf.own ho (λg p x=>?_)
  rcases hS g x with l|⟨t,m,r,l,h2,q⟩
  ·exact Dw ho l p.symm
  refine Ba ho r ?_ p.symm
  rcases he with rfl|rfl|rfl
  ·exact λe=>l e.symm
  ·exact λe=>h2 e.symm
  exact λe=>q e.symm
 exact⟨j (.inl rfl) h.ins,j (.inr (.inl rfl)) h.lat,j (.inl rfl) h.outs,j (.inl rfl) h.bads,j (.inl rfl) h.cons,j (.inr (.inr rfl)) h.gat⟩
theorem Fi.below {B:Nat} {W W':World} {v:Cv} {c:Cir} (h:Fi B W v c) (hb:Below W.heap.size W W'):Fi B W' v c:=
 h.fr (S:=λ_=>False) (Fr.of_below hb) (λk j=>j.elim)
end Go.Proofs.YtmidbhnhcbpneaaGreatDoor.Top
end
section
namespace Go.Proofs.YtmidbhnhcbpneaaGreatDoor.Top
open Go Go.RowKit Go.Lt YtmidbhnhcbpneaaGreatDoor.Lit YtmidbhnhcbpneaaGreatDoor.Dec
structure Jc (s:ByteArray) (p top k:Nat) (l:List Nat) (q:Nat):Prop where
 len:l.length=k
 le:q<=s.size
 more:∀ m,Bi top (k+m) (rest s p)=(Bi top m (rest s q)).map λr=>(l++r.1,r.2)
theorem Jc.zero {s:ByteArray} {p top:Nat} (hp:p<=s.size):Jc s p top 0 [] p:=
 ⟨rfl,hp,λm=>by rw[Nat.zero_add];cases Bi top m (rest s p)<;>rfl⟩
theorem Jc.step {s:ByteArray} {p top k q q' n:Nat} {b:UInt8} {l:List Nat} (h:Jc s p top k l q) (h1:Bv top [10] (rest s q)=some (n,b,rest s q')) (hq:q'<=s.size):Jc s p top (k+1) (l++ [n]) q':=by
 refine⟨by rw[List.length_append,h.len];rfl,hq,λm=>?_⟩;rw[show k+1+m=k+(m+1) by omega,h.more (m+1)]
 show((Bv top [10] (rest s q)).bind λp=>(Bi top m p.2.2).bind λq=>some (p.1::q.1,q.2)).map _=_
 rw[h1];simp only[Option.bind_some]
 cases Bi top m (rest s q')<;>simp
theorem Jc.fail {s:ByteArray} {p top k q:Nat} {l:List Nat} (h:Jc s p top k l q) (h1:Bv top [10] (rest s q)=none) (m:Nat) (hm:k<m):Bi top m (rest s p)=none:=by
 obtain⟨d,rfl⟩:∃ d,m=k+(d+1):=⟨m-k-1,by omega⟩;rw[h.more]
 show((Bv top [10] (rest s q)).bind λp=>(Bi top d p.2.2).bind λq=>some (p.1::q.1,q.2)).map _=none
 rw[h1];rfl
theorem Jc.done {s:ByteArray} {p top k q:Nat} {l:List Nat} (h:Jc s p top k l q):Bi top k (rest s p)=some (l,rest s q):=by
 have:=h.more 0
 rw[Nat.add_zero]at this;rw[this];simp[Bi]
def AoQ (rg:Nat) (s:ByteArray) (p top many:Nat) (w:World) (e:Ending) (w':World):Prop:=
 (∃l q v,Bi top many (rest s p)=some (l,rest s q)/\q<=s.size/\e= .returned v/\w'.ownsRow w.heap.size 3 1 v many (nvs l)/\Rdr w' rg s q/\Fr (λq=>q=rg) w w')∨(Bi top many (rest s p)=none/\Aaw rg w e w')
structure Aoe (rg:Nat) (s:ByteArray) (p top k:Nat) (w:World) (v:Value) (W:World) (l:List Nat) (q:Nat):Prop where
 to:Jc s p top k l q
 own:W.ownsRow w.heap.size 3 1 v k (nvs l)
 rdr:Rdr W rg s q
 fr:Fr (λq=>q=rg) w W
theorem AjS (rg cr ch cl:Nat) (s:ByteArray) (p many:Nat) (h:Hd) (w:World) (hp:p<=s.size) (hs:s.size<=2000000) (hm:h.m<=16777216) (hmany:many<=16777216) (y:Rdr w rg s p)
  (hr:Blk w cr 104 #[.pointer (some ⟨rg,0,none⟩)]) (hh:Blk w ch 47 (Bt h)) (hl:Blk w cl 153 #[.func (.func 84) #[] #[.pointer (some ⟨cr,0,none⟩),.pointer (some ⟨ch,0,none⟩)]]):
  Calls Tryz.prog 85 #[.int .i64 many,.pointer (some ⟨cl,0,none⟩)] w (AoQ rg s p (2*h.m+1) many w):=by
 have aA:(many:Int)<=16777216:=by omega
 have n1:cr≠rg:=Af hr y (by decide);have n2:ch≠rg:=Af hh y (by decide);have n3:cl≠rg:=Af hl y (by decide);have I:=y.lt;have h0:=Ab (⟨Jc.zero hp,⟨rfl,.inl ⟨rfl,rfl⟩⟩,y,Fr.refl _ _⟩:Aoe rg s p (2*h.m+1) 0 w (.slice none 0 0) w [] p);have A:=Ab (λ(W:World) (q:Nat) (f:Fr (λq=>q=rg) w W) (a:q<=s.size) (b:Rdr W rg s q)=>AfI rg cr ch s q h [10] W a hs hm b (f.blk hr n1) (f.blk hh n2));have Z:=Ab (λ(W:World) (f:Fr (λq=>q=rg) w W)=>(f.blk hl n3).cell 0);clear hr hh hl hp hs hm y;generalize 2*h.m+1=top at*
 go_enter Tryz.func85,Tryz.ntmps85
 go_wp2
 go_loopw [4,8] (λv t wr=>∃ k:Nat,k<=many/\t= .int .i64 k/\Hid (∃l q,Aoe rg s p top k w v wr l q)) (λv t _=>many-(intOf t).toNat)
 case atStart=>exact⟨0,Nat.zero_le _,rfl,Ab ⟨[],p,h0.o⟩⟩
 case round=>
  obtain⟨k,hk,rfl,j⟩:=hrel;obtain⟨l,q,j⟩:=j.o;replace j:=Ab j
  by_cases F:k<many
  ·have Y:(k:Int)<many:=by omega
   obtain⟨U,cU,rfl,_,_,_⟩:=Rd.of_own j.o.own;have c0:=Z.o wr j.o.fr;have M:=Ab (A.o wr q j.o.fr j.o.to.le j.o.rdr)
   go_wp2_with fail
   refine M.o.mono ?_;rintro e w1 (⟨n,b,q',J,S,rfl,z,r⟩|⟨J,a,c,hc,rfl,r⟩)
   ·have B:=r.own j.o.own (λg y e=>Dw j.o.own I (by rw[y,e]));have x:=Ab (j.o.fr.trans r);have X:=Ab (j.o.to.step J S);have N:=Ab (show k+1<=maxLen by unfold maxLen;omega);have O:=Ab (show(k+1)*8<=140737488355328 by omega);replace z:=Ab z;clear r J c0
    go_wp2_with (at_builtin;refine Yk rfl _ _ _ rfl Tryz.underlying26 Dh rfl (by decide) rfl (by first|rfl|simp[go_sem]) B (Below.refl _ w1) x.o.size rfl (by simp[Value.oneCell']) N.o O.o ?_;intro v6 w6 D E)
    go_roundw
    case rel=>exact⟨k+1,F,by go_num,Ab ⟨l++ [n],q',⟨X.o,by unfold nvs;rw[List.map_append];exact D,z.o.below E I,x.o.thenB E⟩⟩⟩
    case measure=>simp[intOf];omega
   go_wp2
   exact⟨rfl,.inr ⟨j.o.to.fail J many F,a,c,hc,rfl,j.o.fr.trans r⟩⟩
  have R:k=many:=by omega
  subst R;go_wp2;go_ret;exact .inl ⟨l,q,_,j.o.to.done,j.o.to.le,rfl,j.o.own,j.o.rdr,j.o.fr⟩
abbrev AhY (ba be:Nat):Deferred:={target:= .fn (.func 42) #[],args:= #[.pointer (some ⟨ba,0,none⟩),.pointer (some ⟨be,0,none⟩)]}
theorem Il {fn:Func} {tmps:Array Value} {R:Ending->World->Prop} {ba be:Nat} {w:World} (h:∃ v,(results fn tmps).run Tryz.prog w= .ok v w/\R (.returned v) w):
  Leaves Tryz.prog fn tmps R [AhY ba be] .returning w:=by
 refine leaves_cons (f:=42) (args:= #[.pointer (some ⟨ba,0,none⟩),.pointer (some ⟨be,0,none⟩)]) (by simp) (by simp[go_sem]) ?_;refine(AdP _ _ w).mono ?_;rintro e l j ⟨rfl,rfl,rfl⟩;exact h
theorem Yj {fn:Func} {tmps:Array Value} {R:Ending->World->Prop} {ba be:Nat} {a c xa xe:Int} {w:World} (hne:ba≠be) (ha:Blk w ba 3 #[.int .i64 xa]) (he:Blk w be 32 #[.int .i64 xe])
  (h:∀ w',AhD ba be a c w w'->∃v,(results fn tmps).run Tryz.prog w'= .ok v w'/\R (.returned v) w'):
  Leaves Tryz.prog fn tmps R [AhY ba be] (.panicking [{v:=Vn a c,recovered:=false}]) w:=by
 refine leaves_cons (f:=42) (args:= #[.pointer (some ⟨ba,0,none⟩),.pointer (some ⟨be,0,none⟩)]) (by simp) (by simp[go_sem]) ?_;refine(AbL ba be a c xa xe [] w hne ha he).mono ?_;rintro e m j ⟨rfl,rfl,l⟩;exact h j l
end Go.Proofs.YtmidbhnhcbpneaaGreatDoor.Top
end
section
namespace Go.Proofs.YtmidbhnhcbpneaaGreatDoor.Top
open Go YtmidbhnhcbpneaaGreatDoor.Dec
theorem Jb {cs l t:Txt} {b:UInt8} (h:Dv cs l=some (b,t)):b∈cs:=by
 cases l with
 |nil=>cases h
 |cons a l=>
  change (if a∈cs then some (a,l) else none)=some (b,t)at h
  split at h
  ·injection h with h;injection h with h1 h2;rw[<-h1];assumption
  cases h
theorem Zx {top:Nat} {cs l t u:Txt} {n:Nat} {b:UInt8} (h1:Gi top l=some (n,t)) (h2:Dv cs t=some (b,u)):Bv top cs l=some (n,b,u):=by
 unfold Bv;rw[h1];simp only[Option.bind_some];rw[h2];rfl
theorem Oo {top:Nat} {cs l:Txt} (h1:Gi top l=none):Bv top cs l=none:=by unfold Bv;rw[h1];rfl
theorem Oq {top:Nat} {cs l t:Txt} {n:Nat} (h1:Gi top l=some (n,t)) (h2:Dv cs t=none):Bv top cs l=none:=by
 unfold Bv;rw[h1];simp only[Option.bind_some];rw[h2];rfl
theorem Aaf {top:Nat} {l t:Txt} {n:Nat} (h:Gi top l=some (n,t)):n<=top:=Aht (q:=(n,t)) h
theorem Alw {top n:Nat} {cs l t:Txt} {b:UInt8} (h:Bv top cs l=some (n,b,t)):∃ u,Dv cs u=some (b,t):=by
 unfold Bv at h;obtain⟨q,m,h⟩:=Option.bind_eq_some_iff.1 h;obtain⟨r,j,h⟩:=Option.bind_eq_some_iff.1 h;injection h with h;injection h with h2 h3;injection h3 with h3 h4
 exact⟨q.2,by rw[j,<-h3,<-h4]⟩
section
variable {α:Type} {many:Nat->Txt->Option (List α×Txt)} {one:Txt->Option (α×Txt)}
structure Gl (many:Nat->Txt->Option (List α×Txt)) (t0:Txt) (k:Nat) (l:List α) (t:Txt):Prop where
 len:l.length=k
 more:∀ m,many (k+m) t0=(many m t).map λr=>(l++r.1,r.2)
theorem Gl.zero (t:Txt):Gl many t 0 [] t:=⟨rfl,λm=>by rw[Nat.zero_add];cases many m t<;>rfl⟩
theorem Gl.step (hs:∀ m t,many (m+1) t=(one t).bind λp=>(many m p.2).bind λq=>some (p.1::q.1,q.2)) {t0 t t':Txt} {k:Nat} {l:List α} {x:α} (h:Gl many t0 k l t) (h1:one t=some (x,t')):Gl many t0 (k+1) (l++ [x]) t':=by
 refine⟨by rw[List.length_append,h.len];rfl,λm=>?_⟩;rw[show k+1+m=k+(m+1) by omega,h.more (m+1),hs,h1];simp only[Option.bind_some]
 cases many m t'<;>simp
theorem Gl.fail (hs:∀ m t,many (m+1) t=(one t).bind λp=>(many m p.2).bind λq=>some (p.1::q.1,q.2)) {t0 t:Txt} {k:Nat} {l:List α} (h:Gl many t0 k l t) (h1:one t=none) {m:Nat} (hm:k<m):many m t0=none:=by
 obtain⟨d,rfl⟩:∃ d,m=k+(d+1):=⟨m-k-1,by omega⟩;rw[h.more,hs,h1];rfl
theorem Gl.done (h0:∀ t,many 0 t=some ([],t)) {t0 t:Txt} {k:Nat} {l:List α} (h:Gl many t0 k l t):many k t0=some (l,t):=by
 have:=h.more 0
 rw[Nat.add_zero,h0]at this;rw[this]
 simp
end
theorem Hg (top m:Nat) (t:Txt):Eh top (m+1) t=(Gw top t).bind λp=>(Eh top m p.2).bind λq=>some (p.1::q.1,q.2):=rfl
theorem Mh (top m:Nat) (t:Txt):Mf top (m+1) t=(Ma top t).bind λp=>(Mf top m p.2).bind λq=>some (p.1::q.1,q.2):=rfl
theorem Akd {top:Nat} {t:Txt} (h:Bv top [32] t=none):Gw top t=none:=by unfold Gw;rw[h];rfl
theorem Akh {top n:Nat} {b:UInt8} {t t1:Txt} (h:Bv top [32] t=some (n,b,t1)) (h2:Bv top [32,10] t1=none):Gw top t=none:=by
 unfold Gw;rw[h];simp only[Option.bind_some];rw[h2];rfl
theorem Akj {top n m:Nat} {b:UInt8} {t t1 t2:Txt} (h:Bv top [32] t=some (n,b,t1)) (h2:Bv top [32,10] t1=some (m,32,t2)) (h3:Bv top [10] t2=none):Gw top t=none:=by
 unfold Gw;rw[h];simp only[Option.bind_some];rw[h2];simp only[Option.bind_some,if_true];rw[h3];rfl
theorem AjE {top n m:Nat} {b:UInt8} {t t1 t2:Txt} (h:Bv top [32] t=some (n,b,t1)) (h2:Bv top [32,10] t1=some (m,10,t2)):Gw top t=some (⟨n,m,0⟩,t2):=by
 unfold Gw;rw[h];simp only[Option.bind_some];rw[h2];simp only[Option.bind_some];rw[if_neg (by decide)]
theorem Afp {top n m r:Nat} {b c:UInt8} {t t1 t2 t3:Txt} (h:Bv top [32] t=some (n,b,t1)) (h2:Bv top [32,10] t1=some (m,32,t2)) (h3:Bv top [10] t2=some (r,c,t3)):Gw top t=some (⟨n,m,r⟩,t3):=by
 unfold Gw;rw[h];simp only[Option.bind_some];rw[h2];simp only[Option.bind_some,if_true];rw[h3];rfl
theorem AkH {top:Nat} {t:Txt} (h:Bv top [32] t=none):Ma top t=none:=by unfold Ma;rw[h];rfl
theorem AlG {top n:Nat} {b:UInt8} {t t1:Txt} (h:Bv top [32] t=some (n,b,t1)) (h2:Bv top [32] t1=none):Ma top t=none:=by
 unfold Ma;rw[h];simp only[Option.bind_some];rw[h2];rfl
theorem Alu {top n m:Nat} {b c:UInt8} {t t1 t2:Txt} (h:Bv top [32] t=some (n,b,t1)) (h2:Bv top [32] t1=some (m,c,t2)) (h3:Bv top [10] t2=none):Ma top t=none:=by
 unfold Ma;rw[h];simp only[Option.bind_some];rw[h2];simp only[Option.bind_some];rw[h3];rfl
theorem AmC {top n m r:Nat} {b c d:UInt8} {t t1 t2 t3:Txt} (h:Bv top [32] t=some (n,b,t1)) (h2:Bv top [32] t1=some (m,c,t2)) (h3:Bv top [10] t2=some (r,d,t3)):Ma top t=some (⟨n,m,r⟩,t3):=by
 unfold Ma;rw[h];simp only[Option.bind_some];rw[h2];simp only[Option.bind_some];rw[h3];rfl
theorem Ajg {h:Hd} {t t1 t2 t3 t4 t5 t6:Txt} {i o b c:List Nat} {x g:List N3} (h1:Bi (2*h.m+1) h.i t=some (i,t1)) (h2:Eh (2*h.m+1) h.l t1=some (x,t2)) (h3:Bi (2*h.m+1) h.o t2=some (o,t3))
  (h4:Bi (2*h.m+1) h.b t3=some (b,t4)) (h5:Bi (2*h.m+1) h.c t4=some (c,t5)) (h6:Mf (2*h.m+1) h.a t5=some (g,t6)):Ec h t=some (⟨h.m,i,x,o,b,c,g⟩,t6):=by
 unfold Ec;rw[h1];simp only[Option.bind_some];rw[h2];simp only[Option.bind_some];rw[h3];simp only[Option.bind_some];rw[h4];simp only[Option.bind_some];rw[h5];simp only[Option.bind_some];rw[h6];rfl
theorem Akp {h:Hd} {t:Txt} (h1:Bi (2*h.m+1) h.i t=none):Ec h t=none:=by unfold Ec;rw[h1];rfl
theorem Xp {h:Hd} {t t1:Txt} {i:List Nat} (h1:Bi (2*h.m+1) h.i t=some (i,t1)) (h2:Eh (2*h.m+1) h.l t1=none):Ec h t=none:=by
 unfold Ec;rw[h1];simp only[Option.bind_some];rw[h2];rfl
theorem Ajs {h:Hd} {t t1 t2:Txt} {i:List Nat} {x:List N3} (h1:Bi (2*h.m+1) h.i t=some (i,t1)) (h2:Eh (2*h.m+1) h.l t1=some (x,t2)) (h3:Bi (2*h.m+1) h.o t2=none):Ec h t=none:=by
 unfold Ec;rw[h1];simp only[Option.bind_some];rw[h2];simp only[Option.bind_some];rw[h3];rfl
theorem AiQ {h:Hd} {t t1 t2 t3:Txt} {i o:List Nat} {x:List N3} (h1:Bi (2*h.m+1) h.i t=some (i,t1)) (h2:Eh (2*h.m+1) h.l t1=some (x,t2)) (h3:Bi (2*h.m+1) h.o t2=some (o,t3)) (h4:Bi (2*h.m+1) h.b t3=none):Ec h t=none:=by
 unfold Ec;rw[h1];simp only[Option.bind_some];rw[h2];simp only[Option.bind_some];rw[h3];simp only[Option.bind_some];rw[h4];rfl
theorem AjO {h:Hd} {t t1 t2 t3 t4:Txt} {i o b:List Nat} {x:List N3} (h1:Bi (2*h.m+1) h.i t=some (i,t1)) (h2:Eh (2*h.m+1) h.l t1=some (x,t2)) (h3:Bi (2*h.m+1) h.o t2=some (o,t3)) (h4:Bi (2*h.m+1) h.b t3=some (b,t4)) (h5:Bi (2*h.m+1) h.c t4=none):Ec h t=none:=by
 unfold Ec;rw[h1];simp only[Option.bind_some];rw[h2];simp only[Option.bind_some];rw[h3];simp only[Option.bind_some];rw[h4];simp only[Option.bind_some];rw[h5];rfl
theorem Wn {h:Hd} {t t1 t2 t3 t4 t5:Txt} {i o b c:List Nat} {x:List N3} (h1:Bi (2*h.m+1) h.i t=some (i,t1)) (h2:Eh (2*h.m+1) h.l t1=some (x,t2)) (h3:Bi (2*h.m+1) h.o t2=some (o,t3)) (h4:Bi (2*h.m+1) h.b t3=some (b,t4)) (h5:Bi (2*h.m+1) h.c t4=some (c,t5)) (h6:Mf (2*h.m+1) h.a t5=none):Ec h t=none:=by
 unfold Ec;rw[h1];simp only[Option.bind_some];rw[h2];simp only[Option.bind_some];rw[h3];simp only[Option.bind_some];rw[h4];simp only[Option.bind_some];rw[h5];simp only[Option.bind_some];rw[h6];rfl
end Go.Proofs.YtmidbhnhcbpneaaGreatDoor.Top
end
section
namespace Go.Lt
open Go.RowKit
theorem Blk.new2 {w:World} {t:TypeId} {cs:Array Value} {n:Nat} (h:w.heap.size=n):Blk (w.alloc (.cells cs t)) n t cs:=by rw[<-h];exact Blk.new w t cs
theorem Gs {w:World} {p:Addr} {v:Value} (h:w.cell? p=some v):∀ o,(w.alloc o).cell? p=some v:=λo=>(((Below.refl w.heap.size w).alloc (Nl _) o).cell (World.block_lt_of_cell? w _ h)).trans h
theorem Fr.alloc {S:Nat->Prop} {a b:World} (h:Fr S a b) (o:Obj):Fr S a (b.alloc o):=h.thenB ((Below.refl _ _).alloc h.size _)
theorem Fr.drew {S:Nat->Prop} {a b:World} (h:Fr S a b):Fr S a b.drew:=h.thenB ((Dr.refl _).drew.below _)
theorem Fr.setNew {S:Nat->Prop} {a b:World} (h:Fr S a b) {p:Addr} (hp:a.heap.size<=p.block) (u:Value):Fr S a (b.setCell p u):=
 h.thenB ((Below.refl _ _).setCell hp u)
theorem Az {w:World} {b b' e size n:Nat} {v:Value} {xs:List Value} (h:w.ownsRow b' e size v n xs) (hb:b<=b'):w.ownsRow b e size v n xs:=by
 obtain⟨m,h2⟩:=h;refine⟨m,?_⟩
 rcases h2 with h2|⟨g,j,l,p,q,r⟩
 ·exact .inl h2
 exact .inr ⟨g,j,l,p,Nat.le_trans hb q,r⟩
theorem AcT {w:World} {b1 s1 n1 b2 s2 n2:Nat} {e1 e2:TypeId} {v1 v2:Value} {xs1 xs2:List Value} (h:w.ownsRow b1 e1 s1 v1 n1 xs1) (k:w.ownsRow b2 e2 s2 v2 n2 xs2) (hne:e1≠e2):v1.ownBlock=none∨v1.ownBlock≠v2.ownBlock:=by
 rcases h.2 with⟨rfl,_⟩|⟨g,l,j,rfl,_,m,_⟩
 ·left;simp[Value.ownBlock]
 right
 intro e;exact Ba k (show Blk w g e1 j from m) (λe=>hne e.symm) (by simpa[Value.ownBlock] using e)
theorem Et {w:World} {base e size n m c:Nat} {A:Option Addr} {xs:List Value} (h:w.ownsRow base e size (.slice A n c) m xs):n=m:=by
 rcases h.2 with⟨j,q⟩|⟨g,l,p,j,_⟩
 ·simp at j;omega
 simp at j;omega
theorem Fr.two {x y:Nat} {a b:World} (g:Fr (λq=>q=x) a b):Fr (λq=>q=x∨q=y) a b:=Fr.more g (λ_ _ h=> .inl h)
end Go.Lt
namespace Go.Proofs.YtmidbhnhcbpneaaGreatDoor.Top
open Go Go.RowKit Go.Lt Go.Proofs.YtmidbhnhcbpneaaGreatDoor.Lit Go.Proofs.YtmidbhnhcbpneaaGreatDoor.Dec
open Go.Proofs.YtmidbhnhcbpneaaGreatDoor.Circ (T3 enc3 RdT Sl Cv Ae)
theorem Be {w:World} {base e size n:Nat} {v:Value} {xs:List Value} (h:w.ownsRow base e size v n xs):∃ s:Sl,v=sv s/\s.n=n:=by
 rcases h.2 with⟨rfl,m⟩|⟨g,j,l,rfl,_⟩
 ·exact⟨⟨none,0,0⟩,rfl,m.symm⟩
 exact⟨⟨some ⟨g,0,none⟩,n,j⟩,rfl,rfl⟩
section
variable {B:Nat} {W w':World} {v:Cv} {c:Cir}
theorem Fi.base {B':Nat} (h:Fi B' W v c) (hb:B<=B'):Fi B W v c:=⟨Az h.ins hb,Az h.lat hb,Az h.outs hb,Az h.bads hb,Az h.cons hb,Az h.gat hb⟩
theorem Fi.pushLat (h:Fi B W v c) {o:Obj} (hg:(W.alloc o).grownBy w' (sv v.lat).ownBlock) {s:Sl} {x:N3} {n:Nat} (hn:n=c.lat.length) (hr:w'.ownsRow B 59 3 (sv s) (n+1) (Iv c.lat++ [.int .i64 (x.a:Nat),.int .i64 (x.b:Nat),.int .i64 (x.c:Nat)])):
  Fi B w' ⟨v.ins,s,v.outs,v.bads,v.cons,v.gat,v.sym,v.com⟩ ⟨c.max,c.ins,c.lat++ [x],c.outs,c.bads,c.cons,c.gat⟩:=by
 subst hn;have k:∀ {e:TypeId} {size n:Nat} {u:Value} {xs:List Value},e≠59->W.ownsRow B e size u n xs->w'.ownsRow B e size u n xs:=λj l=>(l.alloc o).kept hg (AcT (l.alloc o) (h.lat.alloc o) j)
 exact⟨k (by decide) h.ins,by rw[Ww,List.length_append];exact hr,k (by decide) h.outs,k (by decide) h.bads,k (by decide) h.cons,k (by decide) h.gat⟩
theorem Fi.pushGat (h:Fi B W v c) {o:Obj} (hg:(W.alloc o).grownBy w' (sv v.gat).ownBlock) {s:Sl} {x:N3} {n:Nat} (hn:n=c.gat.length) (hr:w'.ownsRow B 62 3 (sv s) (n+1) (Iv c.gat++ [.int .i64 (x.a:Nat),.int .i64 (x.b:Nat),.int .i64 (x.c:Nat)])):
  Fi B w' ⟨v.ins,v.lat,v.outs,v.bads,v.cons,s,v.sym,v.com⟩ ⟨c.max,c.ins,c.lat,c.outs,c.bads,c.cons,c.gat++ [x]⟩:=by
 subst hn;have k:∀ {e:TypeId} {size n:Nat} {u:Value} {xs:List Value},e≠62->W.ownsRow B e size u n xs->w'.ownsRow B e size u n xs:=λj l=>(l.alloc o).kept hg (AcT (l.alloc o) (h.gat.alloc o) j)
 exact⟨k (by decide) h.ins,k (by decide) h.lat,k (by decide) h.outs,k (by decide) h.bads,k (by decide) h.cons,by rw[Ww,List.length_append];exact hr⟩
end
theorem Ro:(Tryz.prog.info? 59).map (λi=>(i.zero,i.size,i.bytes))=some (some (.agg #[.int .i64 0,.int .i64 0,.int .i64 0]),3,24):=by kernel_rfl
theorem Vo:(Tryz.prog.info? 62).map (λi=>(i.zero,i.size,i.bytes))=some (some (.agg #[.int .i64 0,.int .i64 0,.int .i64 0]),3,24):=by kernel_rfl
theorem Xj {W:World} {n:Nat} {t:TypeId} {x0 x1 x2 x3 x4 x5 x6 x7 x8:Value} (b:Blk W n t #[x0,x1,x2,x3,x4,x5,x6,x7,x8]) (y0 y1 y2 y3 y4 y5 y6 y7 y8:Value):
  Blk (((((((((W.setCell ⟨n,0,none⟩ y0).setCell ⟨n,1,none⟩ y1).setCell ⟨n,2,none⟩ y2).setCell ⟨n,3,none⟩ y3).setCell ⟨n,4,none⟩ y4).setCell ⟨n,5,none⟩ y5).setCell ⟨n,6,none⟩ y6).setCell ⟨n,7,none⟩ y7).setCell ⟨n,8,none⟩ y8) n t #[y0,y1,y2,y3,y4,y5,y6,y7,y8]:=by
 have h:=((((((((b.set_ 0 y0).set_ 1 y1).set_ 2 y2).set_ 3 y3).set_ 4 y4).set_ 5 y5).set_ 6 y6).set_ 7 y7).set_ 8 y8
 simpa using h
theorem AiY {W:World} {n m:Nat} {t:TypeId} {cs:Array Value} (b:Blk W m t cs) (hne:m≠n) (y0 y1 y2 y3 y4 y5 y6 y7 y8:Value):
  Blk (((((((((W.setCell ⟨n,0,none⟩ y0).setCell ⟨n,1,none⟩ y1).setCell ⟨n,2,none⟩ y2).setCell ⟨n,3,none⟩ y3).setCell ⟨n,4,none⟩ y4).setCell ⟨n,5,none⟩ y5).setCell ⟨n,6,none⟩ y6).setCell ⟨n,7,none⟩ y7).setCell ⟨n,8,none⟩ y8) m t cs:=
 ((((((((b.far (p:=⟨n,0,none⟩) hne y0).far (p:=⟨n,1,none⟩) hne y1).far (p:=⟨n,2,none⟩) hne y2).far (p:=⟨n,3,none⟩) hne y3).far (p:=⟨n,4,none⟩) hne y4).far (p:=⟨n,5,none⟩) hne y5).far (p:=⟨n,6,none⟩) hne y6).far (p:=⟨n,7,none⟩) hne y7).far (p:=⟨n,8,none⟩) hne y8
theorem fr9 {S:Nat->Prop} {W0 W:World} {n:Nat} (f:Fr S W0 W) (h:S n) (y0 y1 y2 y3 y4 y5 y6 y7 y8:Value):
  Fr S W0 (((((((((W.setCell ⟨n,0,none⟩ y0).setCell ⟨n,1,none⟩ y1).setCell ⟨n,2,none⟩ y2).setCell ⟨n,3,none⟩ y3).setCell ⟨n,4,none⟩ y4).setCell ⟨n,5,none⟩ y5).setCell ⟨n,6,none⟩ y6).setCell ⟨n,7,none⟩ y7).setCell ⟨n,8,none⟩ y8):=
 ((((((((f.set (p:=⟨n,0,none⟩) h y0).set (p:=⟨n,1,none⟩) h y1).set (p:=⟨n,2,none⟩) h y2).set (p:=⟨n,3,none⟩) h y3).set (p:=⟨n,4,none⟩) h y4).set (p:=⟨n,5,none⟩) h y5).set (p:=⟨n,6,none⟩) h y6).set (p:=⟨n,7,none⟩) h y7).set (p:=⟨n,8,none⟩) h y8
end Go.Proofs.YtmidbhnhcbpneaaGreatDoor.Top
end
