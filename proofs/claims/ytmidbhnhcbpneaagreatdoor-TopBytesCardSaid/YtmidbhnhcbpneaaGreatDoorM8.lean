/- A part of the proof. -/
import Derived.Test.YtmidbhnhcbpneaaGreatDoorM1
import Derived.Test.YtmidbhnhcbpneaaGreatDoorM3
import Derived.Test.YtmidbhnhcbpneaaGreatDoorM6
import Derived.Test.YtmidbhnhcbpneaaGreatDoorM4
import Derived.Test.YtmidbhnhcbpneaaGreatDoorM7
import Derived.Deep.CutRange
import Derived.Deep.LoopGhost
set_option linter.unusedVariables false
set_option linter.unusedSimpArgs false
set_option maxRecDepth 8000
set_option maxHeartbeats 8000000
section
namespace Go.Lt
open Go.RowKit
section
variable {w:World} {g:Nat} {t:TypeId} {cs:Array Value}
theorem c4c (b:Blk w g t cs):w.cell? ⟨g,0,none⟩=cs[0]?/\w.cell? ⟨g,1,none⟩=cs[1]?/\w.cell? ⟨g,2,none⟩=cs[2]?/\w.cell? ⟨g,3,none⟩=cs[3]?:=⟨b.cell 0,b.cell 1,b.cell 2,b.cell 3⟩
theorem c6d {x0 x1 x2 x3 x4 x5:Value} {l:List Value} (b:Blk w g t ⟨x0::x1::x2::x3::x4::x5::l⟩):w.cell? ⟨g,0,none⟩=some x0/\w.cell? ⟨g,1,none⟩=some x1/\w.cell? ⟨g,2,none⟩=some x2/\w.cell? ⟨g,3,none⟩=some x3/\w.cell? ⟨g,4,none⟩=some x4/\w.cell? ⟨g,5,none⟩=some x5:=⟨b.cell 0,b.cell 1,b.cell 2,b.cell 3,b.cell 4,b.cell 5⟩
theorem c7d {x0 x1 x2 x3 x4 x5 x6:Value} {l:List Value} (b:Blk w g t ⟨x0::x1::x2::x3::x4::x5::x6::l⟩):w.cell? ⟨g,0,none⟩=some x0/\w.cell? ⟨g,1,none⟩=some x1/\w.cell? ⟨g,2,none⟩=some x2/\w.cell? ⟨g,3,none⟩=some x3/\w.cell? ⟨g,4,none⟩=some x4/\w.cell? ⟨g,5,none⟩=some x5/\w.cell? ⟨g,6,none⟩=some x6:=⟨b.cell 0,b.cell 1,b.cell 2,b.cell 3,b.cell 4,b.cell 5,b.cell 6⟩
theorem c8c (b:Blk w g t cs):w.cell? ⟨g,0,none⟩=cs[0]?/\w.cell? ⟨g,1,none⟩=cs[1]?/\w.cell? ⟨g,2,none⟩=cs[2]?/\w.cell? ⟨g,3,none⟩=cs[3]?/\w.cell? ⟨g,4,none⟩=cs[4]?/\w.cell? ⟨g,5,none⟩=cs[5]?/\w.cell? ⟨g,6,none⟩=cs[6]?/\w.cell? ⟨g,7,none⟩=cs[7]?:=⟨b.cell 0,b.cell 1,b.cell 2,b.cell 3,b.cell 4,b.cell 5,b.cell 6,b.cell 7⟩
theorem c8z (b:Blk w g t cs):w.frozen? ⟨g,0,none⟩=false/\w.frozen? ⟨g,1,none⟩=false/\w.frozen? ⟨g,2,none⟩=false/\w.frozen? ⟨g,3,none⟩=false/\w.frozen? ⟨g,4,none⟩=false/\w.frozen? ⟨g,5,none⟩=false/\w.frozen? ⟨g,6,none⟩=false/\w.frozen? ⟨g,7,none⟩=false:=⟨b.frozen 0,b.frozen 1,b.frozen 2,b.frozen 3,b.frozen 4,b.frozen 5,b.frozen 6,b.frozen 7⟩
theorem c8d {x0 x1 x2 x3 x4 x5 x6 x7:Value} {l:List Value} (b:Blk w g t ⟨x0::x1::x2::x3::x4::x5::x6::x7::l⟩):w.cell? ⟨g,0,none⟩=some x0/\w.cell? ⟨g,1,none⟩=some x1/\w.cell? ⟨g,2,none⟩=some x2/\w.cell? ⟨g,3,none⟩=some x3/\w.cell? ⟨g,4,none⟩=some x4/\w.cell? ⟨g,5,none⟩=some x5/\w.cell? ⟨g,6,none⟩=some x6/\w.cell? ⟨g,7,none⟩=some x7:=⟨b.cell 0,b.cell 1,b.cell 2,b.cell 3,b.cell 4,b.cell 5,b.cell 6,b.cell 7⟩
theorem c9c (b:Blk w g t cs):w.cell? ⟨g,0,none⟩=cs[0]?/\w.cell? ⟨g,1,none⟩=cs[1]?/\w.cell? ⟨g,2,none⟩=cs[2]?/\w.cell? ⟨g,3,none⟩=cs[3]?/\w.cell? ⟨g,4,none⟩=cs[4]?/\w.cell? ⟨g,5,none⟩=cs[5]?/\w.cell? ⟨g,6,none⟩=cs[6]?/\w.cell? ⟨g,7,none⟩=cs[7]?/\w.cell? ⟨g,8,none⟩=cs[8]?:=⟨b.cell 0,b.cell 1,b.cell 2,b.cell 3,b.cell 4,b.cell 5,b.cell 6,b.cell 7,b.cell 8⟩
theorem c9z (b:Blk w g t cs):w.frozen? ⟨g,0,none⟩=false/\w.frozen? ⟨g,1,none⟩=false/\w.frozen? ⟨g,2,none⟩=false/\w.frozen? ⟨g,3,none⟩=false/\w.frozen? ⟨g,4,none⟩=false/\w.frozen? ⟨g,5,none⟩=false/\w.frozen? ⟨g,6,none⟩=false/\w.frozen? ⟨g,7,none⟩=false/\w.frozen? ⟨g,8,none⟩=false:=⟨b.frozen 0,b.frozen 1,b.frozen 2,b.frozen 3,b.frozen 4,b.frozen 5,b.frozen 6,b.frozen 7,b.frozen 8⟩
theorem c9d {x0 x1 x2 x3 x4 x5 x6 x7 x8:Value} {l:List Value} (b:Blk w g t ⟨x0::x1::x2::x3::x4::x5::x6::x7::x8::l⟩):w.cell? ⟨g,0,none⟩=some x0/\w.cell? ⟨g,1,none⟩=some x1/\w.cell? ⟨g,2,none⟩=some x2/\w.cell? ⟨g,3,none⟩=some x3/\w.cell? ⟨g,4,none⟩=some x4/\w.cell? ⟨g,5,none⟩=some x5/\w.cell? ⟨g,6,none⟩=some x6/\w.cell? ⟨g,7,none⟩=some x7/\w.cell? ⟨g,8,none⟩=some x8:=⟨b.cell 0,b.cell 1,b.cell 2,b.cell 3,b.cell 4,b.cell 5,b.cell 6,b.cell 7,b.cell 8⟩
theorem c9t {x0 x1 x2 x3 x4 x5 x6 x7 x8:Value} (b:Blk w g t cs) (h0:cs[0]?=some x0) (h1:cs[1]?=some x1) (h2:cs[2]?=some x2) (h3:cs[3]?=some x3) (h4:cs[4]?=some x4) (h5:cs[5]?=some x5) (h6:cs[6]?=some x6) (h7:cs[7]?=some x7) (h8:cs[8]?=some x8):w.cell? ⟨g,0,none⟩=some x0/\w.cell? ⟨g,1,none⟩=some x1/\w.cell? ⟨g,2,none⟩=some x2/\w.cell? ⟨g,3,none⟩=some x3/\w.cell? ⟨g,4,none⟩=some x4/\w.cell? ⟨g,5,none⟩=some x5/\w.cell? ⟨g,6,none⟩=some x6/\w.cell? ⟨g,7,none⟩=some x7/\w.cell? ⟨g,8,none⟩=some x8:=⟨(b.cell 0).trans h0,(b.cell 1).trans h1,(b.cell 2).trans h2,(b.cell 3).trans h3,(b.cell 4).trans h4,(b.cell 5).trans h5,(b.cell 6).trans h6,(b.cell 7).trans h7,(b.cell 8).trans h8⟩
theorem c9k {x0 x1 x2 x3 x4 x5 x6 x7 x8:Value} {l:List Value} (h:cs=⟨x0::x1::x2::x3::x4::x5::x6::x7::x8::l⟩):Hid (cs[0]?=some x0)/\Hid (cs[1]?=some x1)/\Hid (cs[2]?=some x2)/\Hid (cs[3]?=some x3)/\Hid (cs[4]?=some x4)/\Hid (cs[5]?=some x5)/\Hid (cs[6]?=some x6)/\Hid (cs[7]?=some x7)/\Hid (cs[8]?=some x8):=by subst h;exact⟨Ab rfl,Ab rfl,Ab rfl,Ab rfl,Ab rfl,Ab rfl,Ab rfl,Ab rfl,Ab rfl⟩
end
section
variable {P:Program} {ops:Array Oper} {Q:Exit->Act->World->Prop} {n i:Nat} {a:Act} {vs:List Value} {I:(Nat->Prop)->World->Prop} {J:(Nat->Prop)->(Nat->Value)->World->Prop} {o:Oper}
theorem fst (h:∀ D wz az,Ng ops n a vs i D az->I D wz->∀K:Act->World->Prop,Shut (∀w',I (λj=>j=i∨D j) w'->K (az.put o.dst (Bl vs i)) w')->Oper.wp P o az wz K Q) (ho:ops[i]?=some o:=by rfl) (hgd:o.guard=none:=by rfl):Aal P ops Q n a vs I i:=AcP ho hgd h
theorem sst (h:∀ D g wz az,Qz ops n a i D g az->J D g wz->∀K:Act->World->Prop,Shut (∀v w',J (λj=>j=i∨D j) (AbV g o.dst v) w'->K (az.put o.dst v) w')->Oper.wp P o az wz K Q) (ho:ops[i]?=some o:=by rfl) (hgd:o.guard=none:=by rfl):Ade P ops Q n a J i:=AfT ho hgd h
end
end Go.Lt
end
section
namespace Go.Proofs.YtmidbhnhcbpneaaGreatDoor.Top
open Go Go.RowKit Go.Lt YtmidbhnhcbpneaaGreatDoor.Lit YtmidbhnhcbpneaaGreatDoor.Dec
theorem Apq (w:World) (c1 c2 c3 c4 c5:Array Value) (t1 t2 t3 t4 t5:TypeId):∃ W,(((((w.alloc (.cells c1 t1)).alloc (.cells c2 t2)).alloc (.cells c3 t3)).alloc (.cells c4 t4)).alloc (.cells c5 t5))=W/\
  Blk W w.heap.size t1 c1/\Blk W (w.heap.size+1) t2 c2/\Blk W (w.heap.size+1+1) t3 c3/\Blk W (w.heap.size+1+1+1) t4 c4/\Blk W (w.heap.size+1+1+1+1) t5 c5/\W.heap.size=w.heap.size+1+1+1+1+1/\Below w.heap.size w W:=by
 refine⟨_,rfl,?_,?_,?_,?_,?_,by simp,?_⟩
 ·exact((((Blk.new2 rfl).alloc _).alloc _).alloc _).alloc _
 ·exact(((Blk.new2 (by simp)).alloc _).alloc _).alloc _
 ·exact((Blk.new2 (by simp)).alloc _).alloc _
 ·exact(Blk.new2 (by simp)).alloc _
 ·exact Blk.new2 (by simp)
 exact(((((Below.refl _ w).alloc (Nl _) _).alloc (by simp) _).alloc (by simp;omega) _).alloc (by simp;omega) _).alloc (by simp;omega) _
def AkG (s:ByteArray) (w:World) (e:Ending) (w':World):Prop:=
 ((∃h q,Jr s.data.toList=some (h,rest s q)/\q<=s.size/\Nq h/\e= .returned (.tuple #[.agg (Bt h),.int .i64 q,.int .i64 0]))∨(Jr s.data.toList=none/\∃(h':Hd) (a c:Int),c≠0/\e= .returned (.tuple #[.agg (Bt h'),.int .i64 a,.int .i64 c])))/\Below w.heap.size w w'
def AfY (l:List Nat):Array Value:= #[.int .i64 (l.getD 0 0:Nat),.int .i64 (l.getD 1 0:Nat),.int .i64 (l.getD 2 0:Nat),.int .i64 (l.getD 3 0:Nat),.int .i64 (l.getD 4 0:Nat),.int .i64 (l.getD 5 0:Nat),.int .i64 (l.getD 6 0:Nat),.int .i64 (l.getD 7 0:Nat),.int .i64 (l.getD 8 0:Nat)]
theorem Aic {l:List Nat} {k:Nat} (n:Nat) (hl:l.length=k) (hk:k<9):(AfY l).setIfInBounds k (.int .i64 (n:Nat))=AfY (l++ [n]):=by
 subst hl
 match l,hk with
 | [],_=>rfl
 | [a],_=>rfl
 | [a,b],_=>rfl
 | [a,b,c],_=>rfl
 | [a,b,c,d],_=>rfl
 | [a,b,c,d,e],_=>rfl
 | [a,b,c,d,e,f],_=>rfl
 | [a,b,c,d,e,f,g],_=>rfl
 | [a,b,c,d,e,f,g,h],_=>rfl
 |a::b::c::d::e::f::g::h::i::l,hk=>simp at hk;omega
structure HdM (s:ByteArray) (rg la k:Nat) (ns:List Nat) (p:Nat) (w W:World):Prop where
 lt:k<9
 len:ns.length=k
 le:p<=s.size
 more:Ft 9 0 (rest s 4)=(Ft (9-k) k (rest s p)).map λr=>(ns++r.1,r.2)
 top:∀ i,i<k->ns.getD i 0<=Kr i
 rdr:Rdr W rg s p
 arr:Blk W la 107 (AfY ns)
 fr:Fr (λq=>q=rg∨q=la) w W
structure HdE (s:ByteArray) (rg la:Nat) (ns:List Nat) (p:Nat) (w W:World):Prop where
 le:p<=s.size
 all:Ft 9 0 (rest s 4)=some (ns,rest s p)
 top:∀ i,i<9->ns.getD i 0<=16777216
 rdr:Rdr W rg s p
 arr:Blk W la 107 (AfY ns)
 fr:Fr (λq=>q=rg∨q=la) w W
theorem HdM.start {s:ByteArray} {rg la:Nat} {W:World} (h4:4<=s.size) (hr:Blk W rg 106 #[.string s,.int .i64 4]) (ha:Blk W la 107 #[.int .i64 0,.int .i64 0,.int .i64 0,.int .i64 0,.int .i64 0,.int .i64 0,.int .i64 0,.int .i64 0,.int .i64 0]):HdM s rg la 0 [] 4 W W:=
 ⟨by decide,rfl,h4,by cases Ft 9 0 (rest s 4)<;>rfl,λi hi=>absurd hi (Nat.not_lt_zero _),hr,ha,Fr.refl _ _⟩
theorem Ri {k:Nat} (hk:k<9) (l:Txt):Ft (9-k) k l=(Bv (Kr k) (Ev k) l).bind λp=>if p.2.1=10 then some ([p.1],p.2.2) else(Ft (9-(k+1)) (k+1) p.2.2).bind λq=>some (p.1::q.1,q.2):=by
 rw[show 9-k=(9-(k+1))+1 by omega];rfl
theorem HdM.none {s:ByteArray} {rg la k p:Nat} {ns:List Nat} {w W:World} (h:HdM s rg la k ns p w W) (h1:Bv (Kr k) (Ev k) (rest s p)=none):Ft 9 0 (rest s 4)=none:=by
 rw[h.more,Ri h.lt,h1];rfl
theorem AcU {l:List Nat} {n i:Nat}:(l++ [n]).getD i 0=if i<l.length then l.getD i 0 else if i=l.length then n else 0:=by
 simp only[List.getD_eq_getElem?_getD,List.getElem?_append]
 by_cases h:i<l.length
 ·rw[if_pos h,if_pos h]
 rw[if_neg h,if_neg h]
 by_cases h2:i=l.length
 ·rw[if_pos h2,h2];simp
 rw[if_neg h2,List.getElem?_eq_none (by simp;omega)];rfl
theorem HdM.go {s:ByteArray} {rg la k p p' n:Nat} {ns:List Nat} {b:UInt8} {w W W':World} (h:HdM s rg la k ns p w W) (j:Bv (Kr k) (Ev k) (rest s p)=some (n,b,rest s p')) (hn:n<=Kr k) (hb:b≠10) (hp:p'<=s.size)
  (m:Rdr W' rg s p') (ha:Blk W' la 107 ((AfY ns).setIfInBounds k (.int .i64 (n:Nat)))) (hf:Fr (λq=>q=rg∨q=la) W W'):HdM s rg la (k+1) (ns++ [n]) p' w W':=by
 have x:k+1<9:=by
  have:=h.lt
  rcases Nat.lt_or_ge (k+1) 9 with h2|h2
  ·exact h2
  exfalso
  have l:k=8:=by omega
  subst l;unfold Bv at j;obtain⟨q,y,j⟩:=Option.bind_eq_some_iff.1 j;obtain⟨r,m,j⟩:=Option.bind_eq_some_iff.1 j;injection j with j;injection j with h2 h3;injection h3 with h3 h4
  have:=Jb (show Dv (Ev 8) q.2=some (r.1,r.2) from m)
  rw[h3]at this;simp[Ev]at this;exact hb this
 refine⟨x,by rw[List.length_append,h.len];rfl,hp,?_,λi hi=>?_,m,by rw[<-Aic n h.len h.lt];exact ha,h.fr.trans hf⟩
 ·rw[h.more,Ri h.lt,j];simp only[Option.bind_some];rw[if_neg hb]
  cases Ft (9-(k+1)) (k+1) (rest s p')<;>simp
 rw[AcU,h.len]
 by_cases h2:i<k
 ·rw[if_pos h2];exact h.top i h2
 have:i=k:=by omega
 rw[if_neg h2,if_pos this,this];exact hn
theorem HdM.last {s:ByteArray} {rg la k p p' n:Nat} {ns:List Nat} {w W W':World} (h:HdM s rg la k ns p w W) (h1:Bv (Kr k) (Ev k) (rest s p)=some (n,10,rest s p')) (hn:n<=Kr k) (hp:p'<=s.size)
  (hr:Rdr W' rg s p') (ha:Blk W' la 107 ((AfY ns).setIfInBounds k (.int .i64 (n:Nat)))) (hf:Fr (λq=>q=rg∨q=la) W W'):HdE s rg la (ns++ [n]) p' w W':=by
 refine⟨hp,?_,λi hi=>?_,hr,by rw[<-Aic n h.len h.lt];exact ha,h.fr.trans hf⟩
 ·rw[h.more,Ri h.lt,h1];rfl
 have l:∀ i,Kr i<=16777216:=λi=>by unfold Kr;split<;>omega
 rw[AcU,h.len]
 by_cases h2:i<k
 ·rw[if_pos h2];exact Nat.le_trans (h.top i h2) (l i)
 rw[if_neg h2]
 by_cases j:i=k
 ·rw[if_pos j];exact Nat.le_trans hn (l k)
 rw[if_neg j];omega
theorem Acf {l p:Txt} (hp:p.length=4):Lib.hasPrefix l p=decide (l.take 4=p):=by
 unfold Lib.hasPrefix;rw[Bool.eq_iff_iff,List.isPrefixOf_iff_prefix,decide_eq_true_eq,List.prefix_iff_eq_take,hp]
 exact⟨λh=>h.symm,λh=>h.symm⟩
theorem Anj {l:Txt} (ha:Lib.hasPrefix l Hk=false) (hb:Lib.hasPrefix l Dy=false):Jr l=none:=by
 rw[Acf (by decide),decide_eq_false_iff_not]at ha hb;unfold Jr;rw[if_neg (λh=>h.elim ha hb)]
theorem Akz {l:Txt} {pa pb:Bool} (h:(!pa&& !pb)=true) (ha:Lib.hasPrefix l Hk=pa) (hb:Lib.hasPrefix l Dy=pb):Jr l=none:=by
 cases pa<;>cases pb<;>first|exact Anj ha hb|cases h
theorem Ajv {s:ByteArray} {pa pb:Bool} (h:(!pa&& !pb)=false) (ha:Lib.hasPrefix s.data.toList Hk=pa) (hb:Lib.hasPrefix s.data.toList Dy=pb):4<=s.size/\(∃c,s.data.toList[1]?=some c/\(c=105)=(s.data.toList.take 4=Dy)/\(s.data.toList.take 4=Hk∨s.data.toList.take 4=Dy)):=by
 have l:∀ p:Txt,p.length=4->Lib.hasPrefix s.data.toList p=true->4<=s.size/\s.data.toList[1]?=p[1]?/\s.data.toList.take 4=p:=λp r h=>by
  rw[Acf r,decide_eq_true_eq]at h
  have h2:4<=s.size:=by
   have:=congrArg List.length h
   rw[List.length_take,r,Ff]at this;omega
  refine⟨h2,?_,h⟩;rw[<-h,List.getElem?_take]
  simp
 have q:Hk≠Dy:=by decide
 cases pa with
 |true=>
  obtain⟨m,h2,j⟩:=l Hk rfl ha
  exact⟨m,97,h2,by rw[j];exact propext ⟨λe=>absurd e (by decide),λe=>absurd e q⟩,.inl j⟩
 |false=>
  cases pb with
  |true=>
   obtain⟨m,h2,j⟩:=l Dy rfl hb
   exact⟨m,105,h2,by rw[j];exact propext ⟨λ_=>rfl,λ_=>rfl⟩,.inr j⟩
  |false=>cases h
theorem Zn (l:List Nat) {k:Nat} (hk:k<9):∃ v,(AfY l)[k]?=some v:=⟨_,Array.getElem?_eq_getElem (by exact hk)⟩
theorem AjM {l:Txt} (h:Ft 9 0 (l.drop 4)=none):Jr l=none:=by
 unfold Jr;rw[h]
 split<;>rfl
theorem Aid {l p:Txt} (h:l.take 4=p):l[1]?=p[1]?:=by rw[<-h,List.getElem?_take];simp
theorem Ape (w:World) (c:Array Value) (t:TypeId):∃ W,(w.alloc (.cells c t)).drew=W/\Blk W w.heap.size t c/\Below w.heap.size w W:=
 ⟨_,rfl,(Blk.new2 rfl).dr (Dr.refl _).drew,((Below.refl _ w).alloc (Nl _) _).trans ((Dr.refl _).drew.below _)⟩
theorem Air {s:ByteArray} {p:Nat} {ns:List Nat} {wd:Txt} (h:s.data.toList.take 4=wd) (hf:Ft 9 0 (rest s 4)=some (ns,rest s p)) (hw:wd=Hk∨wd=Dy:=by simp):
  Jr s.data.toList=if Jf ⟨decide (wd=Dy),ns.getD 0 0,ns.getD 1 0,ns.getD 2 0,ns.getD 3 0,ns.getD 4 0,ns.getD 5 0,ns.getD 6 0⟩=true then some (⟨decide (wd=Dy),ns.getD 0 0,ns.getD 1 0,ns.getD 2 0,ns.getD 3 0,ns.getD 4 0,ns.getD 5 0,ns.getD 6 0⟩,rest s p) else none:=by
 unfold Jr;rw[h,if_pos hw]
 show(Ft 9 0 (rest s 4)).bind _=_
 rw[hf];rfl
theorem Ow {n0:Nat} {W:World} {tmps:Array Value} {h:Hd} {a c:Int} (b1:Blk W n0 47 (Bt h)) (b2:Blk W (n0+1) 3 #[.int .i64 a]) (b3:Blk W (n0+1+1) 32 #[.int .i64 c])
  (h2:tmps[2]?=some (.pointer (some ⟨n0,0,none⟩))) (h3:tmps[3]?=some (.pointer (some ⟨n0+1,0,none⟩))) (h4:tmps[4]?=some (.pointer (some ⟨n0+1+1,0,none⟩))):
  (results Tryz.f14 tmps).run Tryz.prog W= .ok (.tuple #[.agg (Bt h),.int .i64 a,.int .i64 c]) W:=by
 have j:=b2.cell 0;have l:=b3.cell 0;obtain⟨m,p,q,r,x,y,z,B⟩:=c8c b1;simp[results,Tryz.results14,go_sem,h2,h3,h4,m,p,q,r,x,y,z,B,j,l]
theorem ApG {W:World} {n:Nat} {t:TypeId} {x0 x1 x2 x3 x4 x5 x6 x7:Value} (b:Blk W n t #[x0,x1,x2,x3,x4,x5,x6,x7]) (y0 y1 y2 y3 y4 y5 y6 y7:Value):
  Blk ((((((((W.setCell ⟨n,0,none⟩ y0).setCell ⟨n,1,none⟩ y1).setCell ⟨n,2,none⟩ y2).setCell ⟨n,3,none⟩ y3).setCell ⟨n,4,none⟩ y4).setCell ⟨n,5,none⟩ y5).setCell ⟨n,6,none⟩ y6).setCell ⟨n,7,none⟩ y7) n t #[y0,y1,y2,y3,y4,y5,y6,y7]:=by
 have h:=(((((((b.set_ 0 y0).set_ 1 y1).set_ 2 y2).set_ 3 y3).set_ 4 y4).set_ 5 y5).set_ 6 y6).set_ 7 y7
 simpa using h
theorem Apw {W:World} {n m:Nat} {t:TypeId} {cs:Array Value} (b:Blk W m t cs) (hne:m≠n) (y0 y1 y2 y3 y4 y5 y6 y7:Value):
  Blk ((((((((W.setCell ⟨n,0,none⟩ y0).setCell ⟨n,1,none⟩ y1).setCell ⟨n,2,none⟩ y2).setCell ⟨n,3,none⟩ y3).setCell ⟨n,4,none⟩ y4).setCell ⟨n,5,none⟩ y5).setCell ⟨n,6,none⟩ y6).setCell ⟨n,7,none⟩ y7) m t cs:=
 (((((((b.far (p:=⟨n,0,none⟩) hne y0).far (p:=⟨n,1,none⟩) hne y1).far (p:=⟨n,2,none⟩) hne y2).far (p:=⟨n,3,none⟩) hne y3).far (p:=⟨n,4,none⟩) hne y4).far (p:=⟨n,5,none⟩) hne y5).far (p:=⟨n,6,none⟩) hne y6).far (p:=⟨n,7,none⟩) hne y7
theorem fr8 {S:Nat->Prop} {W0 W:World} {n:Nat} (f:Fr S W0 W) (h:S n) (y0 y1 y2 y3 y4 y5 y6 y7:Value):
  Fr S W0 ((((((((W.setCell ⟨n,0,none⟩ y0).setCell ⟨n,1,none⟩ y1).setCell ⟨n,2,none⟩ y2).setCell ⟨n,3,none⟩ y3).setCell ⟨n,4,none⟩ y4).setCell ⟨n,5,none⟩ y5).setCell ⟨n,6,none⟩ y6).setCell ⟨n,7,none⟩ y7):=
 (((((((f.set (p:=⟨n,0,none⟩) h y0).set (p:=⟨n,1,none⟩) h y1).set (p:=⟨n,2,none⟩) h y2).set (p:=⟨n,3,none⟩) h y3).set (p:=⟨n,4,none⟩) h y4).set (p:=⟨n,5,none⟩) h y5).set (p:=⟨n,6,none⟩) h y6).set (p:=⟨n,7,none⟩) h y7
theorem Rj {n0:Nat} {W:World} {x0 x1 x2 x3 x4 x5 x6 x7 xa xc:Value} (b1:Blk W n0 47 #[x0,x1,x2,x3,x4,x5,x6,x7]) (b2:Blk W (n0+1) 3 #[xa]) (b3:Blk W (n0+1+1) 32 #[xc]) (h:Hd) (a c:Int) {W9:World}
  (hW:W9=(((((((((W.setCell ⟨n0,0,none⟩ (.bool h.bin)).setCell ⟨n0,1,none⟩ (.int .i64 h.m)).setCell ⟨n0,2,none⟩ (.int .i64 h.i)).setCell ⟨n0,3,none⟩ (.int .i64 h.l)).setCell ⟨n0,4,none⟩ (.int .i64 h.o)).setCell ⟨n0,5,none⟩ (.int .i64 h.a)).setCell ⟨n0,6,none⟩ (.int .i64 h.b)).setCell ⟨n0,7,none⟩ (.int .i64 h.c)).setCell ⟨n0+1,0,none⟩ (.int .i64 a)).setCell ⟨n0+1+1,0,none⟩ (.int .i64 c)):
  Blk W9 n0 47 (Bt h)/\Blk W9 (n0+1) 3 #[.int .i64 a]/\Blk W9 (n0+1+1) 32 #[.int .i64 c]:=by
 subst hW
 exact⟨((ApG b1 _ _ _ _ _ _ _ _).far (p:=⟨n0+1,0,none⟩) (show n0≠n0+1 by omega) _).far (p:=⟨n0+1+1,0,none⟩) (show n0≠n0+1+1 by omega) _,
  ((Apw b2 (by omega) _ _ _ _ _ _ _ _).set_ 0 _).far (p:=⟨n0+1+1,0,none⟩) (show n0+1≠n0+1+1 by omega) _,
  ((Apw b3 (by omega) _ _ _ _ _ _ _ _).far (p:=⟨n0+1,0,none⟩) (show n0+1+1≠n0+1 by omega) _).set_ 0 _⟩
theorem Me {n0:Nat} {w W5 W W9:World} {h:Hd} {a c:Int} (hn0:w.heap.size=n0) (hbl:Below n0 w W5) (hs:n0<=W5.heap.size) (hf:Fr (λq=>q=n0+1+1+1∨q=n0+1+1+1+1) W5 W)
  (hW:W9=(((((((((W.setCell ⟨n0,0,none⟩ (.bool h.bin)).setCell ⟨n0,1,none⟩ (.int .i64 h.m)).setCell ⟨n0,2,none⟩ (.int .i64 h.i)).setCell ⟨n0,3,none⟩ (.int .i64 h.l)).setCell ⟨n0,4,none⟩ (.int .i64 h.o)).setCell ⟨n0,5,none⟩ (.int .i64 h.a)).setCell ⟨n0,6,none⟩ (.int .i64 h.b)).setCell ⟨n0,7,none⟩ (.int .i64 h.c)).setCell ⟨n0+1,0,none⟩ (.int .i64 a)).setCell ⟨n0+1+1,0,none⟩ (.int .i64 c)):Below w.heap.size w W9:=by
 subst hW;rw[hn0];have r:=hf.below (B:=n0) hs (λk j=>by rcases j with rfl|rfl<;>omega);have h2:=((fr8 (Fr.refl (λq=>n0<=q) W) (Nl _) (.bool h.bin) (.int .i64 h.m) (.int .i64 h.i) (.int .i64 h.l) (.int .i64 h.o) (.int .i64 h.a) (.int .i64 h.b) (.int .i64 h.c)).set (p:=⟨n0+1,0,none⟩) (show n0<=n0+1 by omega) (.int .i64 a)).set (p:=⟨n0+1+1,0,none⟩) (show n0<=n0+1+1 by omega) (.int .i64 c)
 exact(hbl.trans r).trans (h2.below (by have:=hf.size;omega) (λk j=>j))
theorem Iu {s:ByteArray} {n0:Nat} {w W5 W:World} {tmps:Array Value} {a c:Int} (hn0:w.heap.size=n0) (hbl:Below n0 w W5) (hf:Fr (λq=>q=n0+1+1+1∨q=n0+1+1+1+1) W5 W)
  (b1:Blk W5 n0 47 #[.bool false,.int .i64 0,.int .i64 0,.int .i64 0,.int .i64 0,.int .i64 0,.int .i64 0,.int .i64 0]) (b2:Blk W5 (n0+1) 3 #[.int .i64 0]) (b3:Blk W5 (n0+1+1) 32 #[.int .i64 0]) (hno:Ft 9 0 (rest s 4)=none) (hc:c≠0)
  (h2:tmps[2]?=some (.pointer (some ⟨n0,0,none⟩))) (h3:tmps[3]?=some (.pointer (some ⟨n0+1,0,none⟩))) (h4:tmps[4]?=some (.pointer (some ⟨n0+1+1,0,none⟩))):Leaves Tryz.prog Tryz.f14 tmps (AkG s w) [AhY (n0+1) (n0+1+1)] (.panicking [{v:=Vn a c,recovered:=false}]) W:=by
 have m:=hf.blk b1 (by omega);refine Yj (by omega) (hf.blk b2 (by omega)) (hf.blk b3 (by omega)) (λx j=>?_);have p:=j.fr.blk m (by omega);refine⟨.tuple #[.agg #[.bool false,.int .i64 0,.int .i64 0,.int .i64 0,.int .i64 0,.int .i64 0,.int .i64 0,.int .i64 0],.int .i64 a,.int .i64 c],Ow (h:=⟨false,0,0,0,0,0,0,0⟩) p j.ca j.ce h2 h3 h4,.inr ⟨AjM hno,⟨false,0,0,0,0,0,0,0⟩,_,_,hc,rfl⟩,?_⟩;have r:=j.fr.below (B:=n0) (by have:=hf.size;have:=b3.lt;omega) (λk l=>by rcases l with rfl|rfl<;>omega);have h2:=hf.below (B:=n0) (by have:=b3.lt;omega) (λk l=>by rcases l with rfl|rfl<;>omega);rw[hn0]
 exact(hbl.trans h2).trans r
theorem AaD (s:ByteArray) (w:World) (hs:s.size<=2000000):
  Calls Tryz.prog 14 #[.string s] w (AkG s w):=by
 obtain⟨pa,aU⟩:∃ pa,Lib.hasPrefix s.data.toList Hk=pa:=⟨_,rfl⟩;obtain⟨pb,aV⟩:∃ pb,Lib.hasPrefix s.data.toList Dy=pb:=⟨_,rfl⟩;have HA:=Ab (λW=>Tryz.strings_HasPrefix s ⟨#[97,97,103,32]⟩ W);have HB:=Ab (λW=>Tryz.strings_HasPrefix s ⟨#[97,105,103,32]⟩ W);rw[show Lib.hasPrefix s.data.toList (ByteArray.mk #[97,97,103,32]).data.toList=pa from aU]at HA;rw[show Lib.hasPrefix s.data.toList (ByteArray.mk #[97,105,103,32]).data.toList=pb from aV]at HB;replace aU:=Ab aU;replace aV:=Ab aV;obtain⟨cW,aF⟩:∃ b,(!pa&& !pb)=b:=⟨_,rfl⟩;replace aF:=Ab aF;have cY:=Ab (Apq w #[.bool false,.int .i64 0,.int .i64 0,.int .i64 0,.int .i64 0,.int .i64 0,.int .i64 0,.int .i64 0] #[.int .i64 0] #[.int .i64 0] #[.string s,.int .i64 4] #[.int .i64 0,.int .i64 0,.int .i64 0,.int .i64 0,.int .i64 0,.int .i64 0,.int .i64 0,.int .i64 0,.int .i64 0] 47 3 32 106 107)
 go_enter_defers Tryz.func14,Tryz.ntmps14
 go_upto_region 1 with fail
 go_cut [19] from 12 to 20 (λs19 wx=>s19= .bool cW/\wx=(((w.alloc (Obj.cells #[.bool false,.int .i64 0,.int .i64 0,.int .i64 0,.int .i64 0,.int .i64 0,.int .i64 0,.int .i64 0] 47)).alloc (Obj.cells #[.int .i64 0] 3)).alloc (Obj.cells #[.int .i64 0] 32)))
 case first=>
  go_wp2_with fail
  refine(HA.o _).mono ?_;rintro e w' ⟨rfl,rfl⟩;cases pa
  ·go_wp2_with fail
   refine(HB.o _).mono ?_;rintro e w' ⟨rfl,rfl⟩;have Z:=aF.o;simp only[Bool.not_false,Bool.true_and]at Z;cases pb
   ·replace Z:=Ab Z;go_wp2;go_meet
    case rel=>exact⟨by rw[<-Z.o];rfl,rfl⟩
   replace Z:=Ab Z;go_wp2;go_meet
   case rel=>exact⟨by rw[<-Z.o];rfl,rfl⟩
  have Z:=aF.o;simp only[Bool.not_true,Bool.false_and]at Z;replace Z:=Ab Z;go_wp2;go_meet
  case rel=>exact⟨by rw[<-Z.o],rfl⟩
 case rest=>
  obtain⟨rfl,rfl⟩:=hcut;obtain⟨W5,aW,b1,b2,b3,b4,b5,cK,aC⟩:=cY.o;clear cY
  cases cW with
  |true=>
   have U:=Ab (Akz aF.o aU.o aV.o);clear aW b1 b2 b3 b4 b5 cK aC;have aN:=Ab (((((Below.refl w.heap.size w).alloc (Nl _) (Obj.cells #[.bool false,.int .i64 0,.int .i64 0,.int .i64 0,.int .i64 0,.int .i64 0,.int .i64 0,.int .i64 0] 47)).alloc (by simp) (Obj.cells #[.int .i64 0] 3)).alloc (by simp;omega) (Obj.cells #[.int .i64 2] 32)));go_wp2;refine⟨.tuple #[.agg #[.bool false,.int .i64 0,.int .i64 0,.int .i64 0,.int .i64 0,.int .i64 0,.int .i64 0,.int .i64 0],.int .i64 0,.int .i64 2],by simp[results,Tryz.results14,go_sem],.inr ⟨U.o,⟨false,0,0,0,0,0,0,0⟩,_,_,by decide,rfl⟩,aN.o⟩
  |false=>
   have h4:=Ajv aF.o aU.o aV.o;clear HA HB aU aV aF;replace aW:=Ab aW
   go_upto_region 5 with fail
   rw[aW.o];obtain⟨h4,cH⟩:=h4;replace cH:=Ab cH;have cG:=Ab (HdM.start h4 b4 b5);clear aW b4 b5;generalize aD:w.heap.size=y at*
   go_cut [25] from 25 to 45 (λcZ wx=>cZ= .int .i64 0/\W5=wx)
   case first=>
    go_wp2;go_meet
    case rel=>exact⟨rfl,rfl⟩
   obtain⟨rfl,rfl⟩:=hcut
   go_step
   go_cut [25] from 25 to 45 (λcZ wx=>∃ ns p,Hid (HdE s (y+1+1+1) (y+1+1+1+1) ns p W5 wx))
   case first=>
    go_wp2
    go_loopw [25] (λc wr=>∃ k:Nat,k<9/\c= .int .i64 k/\Hid (∃ns p,HdM s (y+1+1+1) (y+1+1+1+1) k ns p W5 wr)) (λc _=>9-(intOf c).toNat)
    case atStart=>exact⟨0,by decide,rfl,Ab ⟨[],4,cG.o⟩⟩
    case round=>
     obtain⟨k,bM,rfl,Y⟩:=hrel;obtain⟨ns,p,Y⟩:=Y.o;replace Y:=Ab Y
     rcases(show k<4∨(4<=k/\k<7)∨k=7∨k=8 by omega) with h|h|h|h
     ·have i4:¬ (k:Int)≥4:=by omega
      have i7:¬ (k:Int)≥7:=by omega
      have i8:¬ (k:Int)=8:=by omega
      have i9:(k:Int)<9:=by omega
      have x:Kr k=16777216:=by unfold Kr;rw[if_pos (by omega)]
      have J:Ev k= [32]:=by unfold Ev;rw[if_neg (by omega),if_neg (by omega)]
      have HN:=Ab (show Calls Tryz.prog 43 #[.pointer (some ⟨y+1+1+1,0,none⟩),.int .i64 16777216] wr (Afi (y+1+1+1) s p 16777216 wr) from Je (y+1+1+1) s p 16777216 wr Y.o.le hs Y.o.rdr (by decide));clear h;replace x:=Ab x;replace J:=Ab J
      go_wp2_with fail
      refine HN.o.mono ?_;rintro e w1 (⟨n,q,hn,hq,rfl,aJ,R⟩|⟨hn,a,c,hc,rfl,R⟩)
      ·have aB:=Ab (R.blk Y.o.arr (by omega:¬ y+1+1+1+1=y+1+1+1));obtain⟨vk,aT⟩:=Zn ns bM;have ck:=(aB.o.cell k).trans aT;have zk:=aB.o.frozen k;have aQ:=Ab (aJ.far (p:=⟨y+1+1+1+1,k,none⟩) (show y+1+1+1≠y+1+1+1+1 by omega) (.int .i64 (n:Nat)));have aS:=Ab (aB.o.set_ k (.int .i64 (n:Nat)));have aI:=Ab ((Fr.more (S':=λq=>q=y+1+1+1∨q=y+1+1+1+1) R (λ_ _ h=> .inl h)).set (p:=⟨y+1+1+1+1,k,none⟩) (.inr rfl) (.int .i64 (n:Nat)));have aM:=Ab (Aaf hn);replace hn:=Ab hn;have cJ:=Ab hq;have HS:=Ab (Lu (y+1+1+1) s q [32] _ hq hs aQ.o);clear HN aJ R hq
       go_wp2_with fail
       refine HS.o.mono ?_;rintro e w3 (⟨b,Z,X,rfl,A,S⟩|⟨Z,a,c,hc,rfl,S⟩)
       ·have hl:=Ab (Zx hn.o Z);have aH:=Jb Z;have aL:=Ab (S.blk aS.o (by omega:¬ y+1+1+1+1=y+1+1+1));have aK:=Ab (aI.o.trans (Fr.more (S':=λq=>q=y+1+1+1∨q=y+1+1+1+1) S (λ_ _ h=> .inl h)));replace A:=Ab A;replace X:=Ab X;clear S HS Z;simp only[List.mem_cons,List.not_mem_nil,or_false]at aH;subst aH;have aO:=Ab (Y.o.go (n:=n) (b:=32) (p':=q+1) (by rw[x.o,J.o];exact hl.o) (by rw[x.o];exact aM.o) (by decide) X.o A.o aL.o aK.o);go_wp2;go_roundw
        case rel=>exact⟨k+1,aO.o.lt,by go_num,Ab ⟨ns++ [n],q+1,aO.o⟩⟩
        case measure=>simp[intOf];omega
       have U:=Ab (Y.o.none (by rw[x.o,J.o];exact Oq hn.o Z));have aA:=Ab (Y.o.fr.trans (aI.o.trans (Fr.more (S':=λq=>q=y+1+1+1∨q=y+1+1+1+1) S (λ_ _ h=> .inl h))));go_wp2;exact Iu aD aC aA.o b1 b2 b3 U.o hc (by rfl) (by rfl) (by rfl)
      have U:=Ab (Y.o.none (by rw[x.o,J.o];exact Oo hn));have aA:=Ab (Y.o.fr.trans (Fr.more (S':=λq=>q=y+1+1+1∨q=y+1+1+1+1) R (λ_ _ h=> .inl h)));go_wp2;exact Iu aD aC aA.o b1 b2 b3 U.o hc (by rfl) (by rfl) (by rfl)
     ·have i4:(k:Int)≥4:=by omega
      have i7:¬ (k:Int)≥7:=by omega
      have i8:¬ (k:Int)=8:=by omega
      have i9:(k:Int)<9:=by omega
      have x:Kr k=16777216:=by unfold Kr;rw[if_pos (by omega)]
      have J:Ev k= [32,10]:=by unfold Ev;rw[if_neg (by omega),if_pos (by omega)]
      have HN:=Ab (show Calls Tryz.prog 43 #[.pointer (some ⟨y+1+1+1,0,none⟩),.int .i64 16777216] wr (Afi (y+1+1+1) s p 16777216 wr) from Je (y+1+1+1) s p 16777216 wr Y.o.le hs Y.o.rdr (by decide));clear h;replace x:=Ab x;replace J:=Ab J
      go_wp2_with fail
      refine HN.o.mono ?_;rintro e w1 (⟨n,q,hn,hq,rfl,aJ,R⟩|⟨hn,a,c,hc,rfl,R⟩)
      ·have aB:=Ab (R.blk Y.o.arr (by omega:¬ y+1+1+1+1=y+1+1+1));obtain⟨vk,aT⟩:=Zn ns bM;have ck:=(aB.o.cell k).trans aT;have zk:=aB.o.frozen k;have aQ:=Ab (aJ.far (p:=⟨y+1+1+1+1,k,none⟩) (show y+1+1+1≠y+1+1+1+1 by omega) (.int .i64 (n:Nat)));have aS:=Ab (aB.o.set_ k (.int .i64 (n:Nat)));have aI:=Ab ((Fr.more (S':=λq=>q=y+1+1+1∨q=y+1+1+1+1) R (λ_ _ h=> .inl h)).set (p:=⟨y+1+1+1+1,k,none⟩) (.inr rfl) (.int .i64 (n:Nat)));have aM:=Ab (Aaf hn);replace hn:=Ab hn;have cJ:=Ab hq;have HS:=Ab (Lu (y+1+1+1) s q [32,10] _ hq hs aQ.o);clear HN aJ R hq
       go_wp2_with fail
       refine HS.o.mono ?_;rintro e w3 (⟨b,Z,X,rfl,A,S⟩|⟨Z,a,c,hc,rfl,S⟩)
       ·have hl:=Ab (Zx hn.o Z);have aH:=Jb Z;have aL:=Ab (S.blk aS.o (by omega:¬ y+1+1+1+1=y+1+1+1));have aK:=Ab (aI.o.trans (Fr.more (S':=λq=>q=y+1+1+1∨q=y+1+1+1+1) S (λ_ _ h=> .inl h)));replace A:=Ab A;replace X:=Ab X;clear S HS Z;simp only[List.mem_cons,List.not_mem_nil,or_false]at aH
        rcases aH with rfl|rfl
        ·have aO:=Ab (Y.o.go (n:=n) (b:=32) (p':=q+1) (by rw[x.o,J.o];exact hl.o) (by rw[x.o];exact aM.o) (by decide) X.o A.o aL.o aK.o);go_wp2;go_roundw
         case rel=>exact⟨k+1,aO.o.lt,by go_num,Ab ⟨ns++ [n],q+1,aO.o⟩⟩
         case measure=>simp[intOf];omega
        go_wp2;go_meet
        case rel=>exact⟨ns++ [n],q+1,Ab (Y.o.last (by rw[x.o,J.o];exact hl.o) (by rw[x.o];exact aM.o) X.o A.o aL.o aK.o)⟩
       have U:=Ab (Y.o.none (by rw[x.o,J.o];exact Oq hn.o Z));have aA:=Ab (Y.o.fr.trans (aI.o.trans (Fr.more (S':=λq=>q=y+1+1+1∨q=y+1+1+1+1) S (λ_ _ h=> .inl h))));go_wp2;exact Iu aD aC aA.o b1 b2 b3 U.o hc (by rfl) (by rfl) (by rfl)
      have U:=Ab (Y.o.none (by rw[x.o,J.o];exact Oo hn));have aA:=Ab (Y.o.fr.trans (Fr.more (S':=λq=>q=y+1+1+1∨q=y+1+1+1+1) R (λ_ _ h=> .inl h)));go_wp2;exact Iu aD aC aA.o b1 b2 b3 U.o hc (by rfl) (by rfl) (by rfl)
     ·have i4:(k:Int)≥4:=by omega
      have i7:(k:Int)≥7:=by omega
      have i8:¬ (k:Int)=8:=by omega
      have i9:(k:Int)<9:=by omega
      have x:Kr k=0:=by unfold Kr;rw[if_neg (by omega)]
      have J:Ev k= [32,10]:=by unfold Ev;rw[if_neg (by omega),if_pos (by omega)]
      have HN:=Ab (show Calls Tryz.prog 43 #[.pointer (some ⟨y+1+1+1,0,none⟩),.int .i64 0] wr (Afi (y+1+1+1) s p 0 wr) from Je (y+1+1+1) s p 0 wr Y.o.le hs Y.o.rdr (by decide));clear h;replace x:=Ab x;replace J:=Ab J
      go_wp2_with fail
      refine HN.o.mono ?_;rintro e w1 (⟨n,q,hn,hq,rfl,aJ,R⟩|⟨hn,a,c,hc,rfl,R⟩)
      ·have aB:=Ab (R.blk Y.o.arr (by omega:¬ y+1+1+1+1=y+1+1+1));obtain⟨vk,aT⟩:=Zn ns bM;have ck:=(aB.o.cell k).trans aT;have zk:=aB.o.frozen k;have aQ:=Ab (aJ.far (p:=⟨y+1+1+1+1,k,none⟩) (show y+1+1+1≠y+1+1+1+1 by omega) (.int .i64 (n:Nat)));have aS:=Ab (aB.o.set_ k (.int .i64 (n:Nat)));have aI:=Ab ((Fr.more (S':=λq=>q=y+1+1+1∨q=y+1+1+1+1) R (λ_ _ h=> .inl h)).set (p:=⟨y+1+1+1+1,k,none⟩) (.inr rfl) (.int .i64 (n:Nat)));have aM:=Ab (Aaf hn);replace hn:=Ab hn;have cJ:=Ab hq;have HS:=Ab (Lu (y+1+1+1) s q [32,10] _ hq hs aQ.o);clear HN aJ R hq
       go_wp2_with fail
       refine HS.o.mono ?_;rintro e w3 (⟨b,Z,X,rfl,A,S⟩|⟨Z,a,c,hc,rfl,S⟩)
       ·have hl:=Ab (Zx hn.o Z);have aH:=Jb Z;have aL:=Ab (S.blk aS.o (by omega:¬ y+1+1+1+1=y+1+1+1));have aK:=Ab (aI.o.trans (Fr.more (S':=λq=>q=y+1+1+1∨q=y+1+1+1+1) S (λ_ _ h=> .inl h)));replace A:=Ab A;replace X:=Ab X;clear S HS Z;simp only[List.mem_cons,List.not_mem_nil,or_false]at aH
        rcases aH with rfl|rfl
        ·have aO:=Ab (Y.o.go (n:=n) (b:=32) (p':=q+1) (by rw[x.o,J.o];exact hl.o) (by rw[x.o];exact aM.o) (by decide) X.o A.o aL.o aK.o);go_wp2;go_roundw
         case rel=>exact⟨k+1,aO.o.lt,by go_num,Ab ⟨ns++ [n],q+1,aO.o⟩⟩
         case measure=>simp[intOf];omega
        go_wp2;go_meet
        case rel=>exact⟨ns++ [n],q+1,Ab (Y.o.last (by rw[x.o,J.o];exact hl.o) (by rw[x.o];exact aM.o) X.o A.o aL.o aK.o)⟩
       have U:=Ab (Y.o.none (by rw[x.o,J.o];exact Oq hn.o Z));have aA:=Ab (Y.o.fr.trans (aI.o.trans (Fr.more (S':=λq=>q=y+1+1+1∨q=y+1+1+1+1) S (λ_ _ h=> .inl h))));go_wp2;exact Iu aD aC aA.o b1 b2 b3 U.o hc (by rfl) (by rfl) (by rfl)
      have U:=Ab (Y.o.none (by rw[x.o,J.o];exact Oo hn));have aA:=Ab (Y.o.fr.trans (Fr.more (S':=λq=>q=y+1+1+1∨q=y+1+1+1+1) R (λ_ _ h=> .inl h)));go_wp2;exact Iu aD aC aA.o b1 b2 b3 U.o hc (by rfl) (by rfl) (by rfl)
     subst h
     have x:Kr 8=0:=by unfold Kr;rw[if_neg (by omega)]
     have J:Ev 8= [10]:=by unfold Ev;rw[if_pos (by omega)]
     have HN:=Ab (show Calls Tryz.prog 43 #[.pointer (some ⟨y+1+1+1,0,none⟩),.int .i64 0] wr (Afi (y+1+1+1) s p 0 wr) from Je (y+1+1+1) s p 0 wr Y.o.le hs Y.o.rdr (by decide))
     skip
     replace x:=Ab x;replace J:=Ab J
     go_wp2_with fail
     refine HN.o.mono ?_;rintro e w1 (⟨n,q,hn,hq,rfl,aJ,R⟩|⟨hn,a,c,hc,rfl,R⟩)
     ·have aB:=Ab (R.blk Y.o.arr (by omega:¬ y+1+1+1+1=y+1+1+1));obtain⟨vk,aT⟩:=Zn ns bM;have ck:=(aB.o.cell 8).trans aT;have zk:=aB.o.frozen 8;have aQ:=Ab (aJ.far (p:=⟨y+1+1+1+1,8,none⟩) (show y+1+1+1≠y+1+1+1+1 by omega) (.int .i64 (n:Nat)));have aS:=Ab (aB.o.set_ 8 (.int .i64 (n:Nat)));have aI:=Ab ((Fr.more (S':=λq=>q=y+1+1+1∨q=y+1+1+1+1) R (λ_ _ h=> .inl h)).set (p:=⟨y+1+1+1+1,8,none⟩) (.inr rfl) (.int .i64 (n:Nat)));have aM:=Ab (Aaf hn);replace hn:=Ab hn;have cJ:=Ab hq;have HS:=Ab (Lu (y+1+1+1) s q [10] _ hq hs aQ.o);clear HN aJ R hq
      go_wp2_with fail
      refine HS.o.mono ?_;rintro e w3 (⟨b,Z,X,rfl,A,S⟩|⟨Z,a,c,hc,rfl,S⟩)
      ·have hl:=Ab (Zx hn.o Z);have aH:=Jb Z;have aL:=Ab (S.blk aS.o (by omega:¬ y+1+1+1+1=y+1+1+1));have aK:=Ab (aI.o.trans (Fr.more (S':=λq=>q=y+1+1+1∨q=y+1+1+1+1) S (λ_ _ h=> .inl h)));replace A:=Ab A;replace X:=Ab X;clear S HS Z;simp only[List.mem_cons,List.not_mem_nil,or_false]at aH;subst aH;go_wp2;go_meet
       case rel=>exact⟨ns++ [n],q+1,Ab (Y.o.last (by rw[x.o,J.o];exact hl.o) (by rw[x.o];exact aM.o) X.o A.o aL.o aK.o)⟩
      have U:=Ab (Y.o.none (by rw[x.o,J.o];exact Oq hn.o Z));have aA:=Ab (Y.o.fr.trans (aI.o.trans (Fr.more (S':=λq=>q=y+1+1+1∨q=y+1+1+1+1) S (λ_ _ h=> .inl h))));go_wp2;exact Iu aD aC aA.o b1 b2 b3 U.o hc (by rfl) (by rfl) (by rfl)
     have U:=Ab (Y.o.none (by rw[x.o,J.o];exact Oo hn));have aA:=Ab (Y.o.fr.trans (Fr.more (S':=λq=>q=y+1+1+1∨q=y+1+1+1+1) R (λ_ _ h=> .inl h)));go_wp2;exact Iu aD aC aA.o b1 b2 b3 U.o hc (by rfl) (by rfl) (by rfl)
   case rest=>
    obtain⟨ns,p,hE⟩:=hcut
    go_step
    have aP:=Ab hE.o.arr;have top:=Ab hE.o.top;have c0:wc.cell? ⟨y+1+1+1+1,0,none⟩=some (.int .i64 (ns.getD 0 0:Nat)):=aP.o.cell 0;have t0:=Ab (top.o 0 (by decide));generalize bN:ns.getD 0 0=m0 at c0 t0;have a0:=Gs (w:=wc) c0;have c1:wc.cell? ⟨y+1+1+1+1,1,none⟩=some (.int .i64 (ns.getD 1 0:Nat)):=aP.o.cell 1;have t1:=Ab (top.o 1 (by decide));generalize bO:ns.getD 1 0=m1 at c1 t1;have a1:=Gs (w:=wc) c1;have c2:wc.cell? ⟨y+1+1+1+1,2,none⟩=some (.int .i64 (ns.getD 2 0:Nat)):=aP.o.cell 2;have t2:=Ab (top.o 2 (by decide));generalize bP:ns.getD 2 0=m2 at c2 t2;have a2:=Gs (w:=wc) c2;have c3:wc.cell? ⟨y+1+1+1+1,3,none⟩=some (.int .i64 (ns.getD 3 0:Nat)):=aP.o.cell 3;have t3:=Ab (top.o 3 (by decide));generalize bQ:ns.getD 3 0=m3 at c3 t3;have a3:=Gs (w:=wc) c3;have c4:wc.cell? ⟨y+1+1+1+1,4,none⟩=some (.int .i64 (ns.getD 4 0:Nat)):=aP.o.cell 4;have t4:=Ab (top.o 4 (by decide));generalize bR:ns.getD 4 0=m4 at c4 t4;have a4:=Gs (w:=wc) c4;have c5:wc.cell? ⟨y+1+1+1+1,5,none⟩=some (.int .i64 (ns.getD 5 0:Nat)):=aP.o.cell 5;have t5:=Ab (top.o 5 (by decide));generalize bS:ns.getD 5 0=m5 at c5 t5;have a5:=Gs (w:=wc) c5;have c6:wc.cell? ⟨y+1+1+1+1,6,none⟩=some (.int .i64 (ns.getD 6 0:Nat)):=aP.o.cell 6;have t6:=Ab (top.o 6 (by decide));generalize bT:ns.getD 6 0=m6 at c6 t6;have a6:=Gs (w:=wc) c6;obtain⟨c,hc,cX,dQ⟩:=cH.o
    rcases dQ with bB|bB
    ·have bV:s.data.toList[1]?=some 97:=Aid bB;have bA:∀ W,(Instr.index 9 (.string s) (.int .i64 1)).run Tryz.prog W= .ok (.int .u8 97) W:=λW=>Da (P:=Tryz.prog) Tryz.underlying9 s 1 97 bV W;have aR:∀ W,(Instr.index 9 (.string ⟨#[97,105,103,32]⟩) (.int .i64 1)).run Tryz.prog W= .ok (.int .u8 105) W:=λW=>Da (P:=Tryz.prog) Tryz.underlying9 ⟨#[97,105,103,32]⟩ 1 105 rfl W
     go_wp2_with fail
     apply Cu [_,_,_,_,_,_,_,_,_,_,_,_,_,_,_,_,_,_,_,_,undef] [wc.drew,_,_] [some 46,some 47,some 48,some 49,some 50,some 51,some 52,some 53,some 54,some 55,some 56,some 57,some 58,some 59,some 60,some 61,some 62,some 63,some 64,some 10,none] (λws D N=>(¬D 19->N=Bc ws 0)/\(D 19->¬D 20->N=Bc ws 1)/\(D 20->N=Bc ws 2)/\True) 21 93 (by kernel_rfl) (by kernel_rfl) rfl rfl rfl (by kernel_rfl)
     case h0=>exact⟨λ_=>rfl,λh=>absurd h (by decide),λh=>absurd h (by decide),trivial⟩
     case hstep=>
      refine⟨⟨⟨⟨⟨⟨⟨⟨⟨⟨⟨⟨⟨⟨⟨⟨⟨⟨⟨⟨⟨trivial,?s0⟩,?s1⟩,?s2⟩,?s3⟩,?s4⟩,?s5⟩,?s6⟩,?s7⟩,?s8⟩,?s9⟩,?s10⟩,?s11⟩,?s12⟩,?s13⟩,?s14⟩,?s15⟩,?s16⟩,?s17⟩,?s18⟩,?s19⟩,?s20⟩
      case s0|s1|s2|s3|s4|s6|s8|s10|s12|s14|s16=>
       refine Bh (λD w h=>⟨kB h.1,kC h.2.1,kp h.2.2.1,trivial⟩) (λD N az m K I=>?_);have e0:=m.u 0
       try have dA:=m.r 0 46
       try have dB:=m.r 1 47
       try have dC:=m.r 2 48
       have e6:=m.u 6;go_simp;exact I.o
      case s19=>
       refine fst λD N az m E K I=>?_;obtain⟨z,B,M,_⟩:=hd3 E;clear E;have j:=z.o (m.new);simp only[Bc]at j;subst j;go_simp;exact I.o _ ⟨λh2=>absurd (.inl rfl) h2,λ_ _=>nW1,λh1=>absurd h1 (λe=>e.elim (λe=>absurd e (by decide)) (λe=>(λh=>m.new (m.l _ 19 (h))) e)),trivial⟩
      case s5=>
       refine fst λD N az m E K I=>?_;obtain⟨z,B,M,_⟩:=hd3 E;clear E;have dD:=m.r 4 50
       by_cases O:D 19
       rotate_left
       ·have j:=z.o O;simp only[Bc]at j;subst j;go_simp;exact I.o _ ⟨kB z.o,kC B.o,kp M.o,trivial⟩
       have j:=B.o O (λh=>m.new (m.l _ 5 (h)));simp only[Bc]at j;subst j;go_simp;exact I.o _ ⟨kB z.o,kC B.o,kp M.o,trivial⟩
      case s7=>
       refine fst λD N az m E K I=>?_;obtain⟨z,B,M,_⟩:=hd3 E;clear E;have dE:=m.r 6 52
       by_cases O:D 19
       rotate_left
       ·have j:=z.o O;simp only[Bc]at j;subst j;go_simp;exact I.o _ ⟨kB z.o,kC B.o,kp M.o,trivial⟩
       have j:=B.o O (λh=>m.new (m.l _ 7 (h)));simp only[Bc]at j;subst j;go_simp;exact I.o _ ⟨kB z.o,kC B.o,kp M.o,trivial⟩
      case s9=>
       refine fst λD N az m E K I=>?_;obtain⟨z,B,M,_⟩:=hd3 E;clear E;have dF:=m.r 8 54
       by_cases O:D 19
       rotate_left
       ·have j:=z.o O;simp only[Bc]at j;subst j;go_simp;exact I.o _ ⟨kB z.o,kC B.o,kp M.o,trivial⟩
       have j:=B.o O (λh=>m.new (m.l _ 9 (h)));simp only[Bc]at j;subst j;go_simp;exact I.o _ ⟨kB z.o,kC B.o,kp M.o,trivial⟩
      case s11=>
       refine fst λD N az m E K I=>?_;obtain⟨z,B,M,_⟩:=hd3 E;clear E;have dG:=m.r 10 56
       by_cases O:D 19
       rotate_left
       ·have j:=z.o O;simp only[Bc]at j;subst j;go_simp;exact I.o _ ⟨kB z.o,kC B.o,kp M.o,trivial⟩
       have j:=B.o O (λh=>m.new (m.l _ 11 (h)));simp only[Bc]at j;subst j;go_simp;exact I.o _ ⟨kB z.o,kC B.o,kp M.o,trivial⟩
      case s13=>
       refine fst λD N az m E K I=>?_;obtain⟨z,B,M,_⟩:=hd3 E;clear E;have dH:=m.r 12 58
       by_cases O:D 19
       rotate_left
       ·have j:=z.o O;simp only[Bc]at j;subst j;go_simp;exact I.o _ ⟨kB z.o,kC B.o,kp M.o,trivial⟩
       have j:=B.o O (λh=>m.new (m.l _ 13 (h)));simp only[Bc]at j;subst j;go_simp;exact I.o _ ⟨kB z.o,kC B.o,kp M.o,trivial⟩
      case s15=>
       refine fst λD N az m E K I=>?_;obtain⟨z,B,M,_⟩:=hd3 E;clear E;have dI:=m.r 14 60
       by_cases O:D 19
       rotate_left
       ·have j:=z.o O;simp only[Bc]at j;subst j;go_simp;exact I.o _ ⟨kB z.o,kC B.o,kp M.o,trivial⟩
       have j:=B.o O (λh=>m.new (m.l _ 15 (h)));simp only[Bc]at j;subst j;go_simp;exact I.o _ ⟨kB z.o,kC B.o,kp M.o,trivial⟩
      case s17=>
       refine fst λD N az m E K I=>?_;obtain⟨z,B,M,_⟩:=hd3 E;clear E;have dJ:=m.r 16 62
       by_cases O:D 19
       rotate_left
       ·have j:=z.o O;simp only[Bc]at j;subst j;go_simp;exact I.o _ ⟨kB z.o,kC B.o,kp M.o,trivial⟩
       have j:=B.o O (λh=>m.new (m.l _ 17 (h)));simp only[Bc]at j;subst j;go_simp;exact I.o _ ⟨kB z.o,kC B.o,kp M.o,trivial⟩
      case s18=>
       refine fst λD N az m E K I=>?_;obtain⟨z,B,M,_⟩:=hd3 E;clear E;have bX:=m.r 3 49;have bY:=m.r 5 51;have bZ:=m.r 7 53;have cA:=m.r 9 55;have cB:=m.r 11 57;have cC:=m.r 13 59;have cE:=m.r 15 61;have cF:=m.r 17 63;have cM:=bX;rw[Array.getD_eq_getD_getElem?]at cM;have cN:=bY;rw[Array.getD_eq_getD_getElem?]at cN;have cO:=bZ;rw[Array.getD_eq_getD_getElem?]at cO;have cP:=cA;rw[Array.getD_eq_getD_getElem?]at cP;have cQ:=cB;rw[Array.getD_eq_getD_getElem?]at cQ;have cS:=cC;rw[Array.getD_eq_getD_getElem?]at cS;have cT:=cE;rw[Array.getD_eq_getD_getElem?]at cT;have cV:=cF;rw[Array.getD_eq_getD_getElem?]at cV;go_simp;exact I.o _ ⟨kB z.o,kC B.o,kp M.o,trivial⟩
      case s20=>
       refine fst λD N az m E K I=>?_;obtain⟨z,B,M,_⟩:=hd3 E;clear E;have j:=B.o (m.d 19) (m.new);simp only[Bc]at j;subst j;have bW:=m.r 19 10;have dK:=m.r 18 64;go_simp;exact I.o _ ⟨λh2=>absurd (.inr (m.d 19)) h2,λ_ h2=>absurd (.inl rfl) h2,λ_=>nW2,trivial⟩
     case hdone=>
      rintro w8 D hD ⟨z,B,M,_⟩;obtain rfl:=M (hD _);clear hD z B M D;simp only[Bc,Cf,List.setIfInBounds_toArray,List.set_cons_succ,List.set_cons_zero];obtain⟨W8,aX,b8,aY⟩:=Ape wc #[.bool false,.int .i64 (m0:Nat),.int .i64 (m1:Nat),.int .i64 (m2:Nat),.int .i64 (m3:Nat),.int .i64 (m4:Nat),.int .i64 (m5:Nat),.int .i64 (m6:Nat)] 47;rw[aX];clear aX c0 c1 c2 c3 c4 c5 c6 a0 a1 a2 a3 a4 a5 a6 bA aR;have aE:=Ab (hE.o.fr.thenB (aY.mono hE.o.fr.size));have r8:=Ab (hE.o.rdr.below aY hE.o.rdr.lt)
      have n8:¬ wc.heap.size<y+1+1+1+1+1:=by have:=hE.o.fr.size;omega
      generalize wc.heap.size=n1 at*;obtain⟨O,d1,d2,d3⟩:=c4c b8;have d5:=b8.cell 5
      have p0:(m0:Int)<=16777216:=by have:=t0.o;omega
      have p1:(m1:Int)<=16777216:=by have:=t1.o;omega
      have p2:(m2:Int)<=16777216:=by have:=t2.o;omega
      have p4:(m4:Int)<=16777216:=by have:=t4.o;omega
      have F:=Ab (aE.o.blk b1 (by omega));have e2:=Ab (aE.o.blk b2 (by omega));have e3:=Ab (aE.o.blk b3 (by omega));have cL:=Ab (show Nq ⟨false,m0,m1,m2,m3,m4,m5,m6⟩ from⟨t0.o,t1.o,t2.o,t3.o,t4.o,t5.o,t6.o⟩);have aN:=Ab (show y<=W5.heap.size by omega);clear b1 b2 b3 cK t0 t1 t2 t3 t4 t5 t6 cX hc top cG bV;have hd:=Ab (Air bB hE.o.all);rw[bN,bO,bP,bQ,bR,bS,bT]at hd;clear bN bO bP bQ bR bS bT
      by_cases X:(m0:Int)<m1+m2+m4
      ·have U:=Ab (hd.o.trans (if_neg (by rw[show decide (Hk=Dy)=false from by decide];unfold Jf;simp;omega)));clear hd;have f0:=(F.o).cell 0;have bD:=(F.o).frozen 0;have f1:=(F.o).cell 1;have bE:=(F.o).frozen 1;have f2:=(F.o).cell 2;have bF:=(F.o).frozen 2;have f3:=(F.o).cell 3;have bG:=(F.o).frozen 3;have f4:=(F.o).cell 4;have bH:=(F.o).frozen 4;have f5:=(F.o).cell 5;have bI:=(F.o).frozen 5;have f6:=(F.o).cell 6;have bJ:=(F.o).frozen 6;have f7:=(F.o).cell 7;have bK:=(F.o).frozen 7;have g0:=(e2.o).cell 0;have bL:=(e2.o).frozen 0;have h0:=(e3.o).cell 0;have bU:=(e3.o).frozen 0;go_wp2;obtain⟨o1,o2,o3⟩:=Rj F.o e2.o e3.o ⟨false,0,0,0,0,0,0,0⟩ 4 5 rfl;refine Il ⟨_,Ow o1 o2 o3 rfl rfl rfl,.inr ⟨U.o,⟨false,0,0,0,0,0,0,0⟩,_,_,by decide,rfl⟩,Me aD aC (by have:=aN.o;omega) aE.o (h:=⟨false,0,0,0,0,0,0,0⟩) (a:=4) (c:=5) rfl⟩
      have bC:=Ab (hd.o.trans (if_pos (by rw[show decide (Hk=Dy)=false from by decide];unfold Jf;simp;omega)));clear hd;have f0:=(F.o).cell 0;have bD:=(F.o).frozen 0;have f1:=(F.o).cell 1;have bE:=(F.o).frozen 1;have f2:=(F.o).cell 2;have bF:=(F.o).frozen 2;have f3:=(F.o).cell 3;have bG:=(F.o).frozen 3;have f4:=(F.o).cell 4;have bH:=(F.o).frozen 4;have f5:=(F.o).cell 5;have bI:=(F.o).frozen 5;have f6:=(F.o).cell 6;have bJ:=(F.o).frozen 6;have f7:=(F.o).cell 7;have bK:=(F.o).frozen 7;have g0:=(e2.o).cell 0;have bL:=(e2.o).frozen 0;have h0:=(e3.o).cell 0;have bU:=(e3.o).frozen 0;have k0:=(r8.o).cell 0;have dR:=(r8.o).frozen 0;have k1:=(r8.o).cell 1;have dS:=(r8.o).frozen 1;have d4:=(b8).cell 4;have d5:=(b8).cell 5;have d6:=(b8).cell 6;have d7:=(b8).cell 7
      go_wp2_with fail
      apply Cu [_,_,_,_,_,undef,undef,undef] [W8.drew,_,_,_] [some 88,some 89,some 90,some 91,some 92,none,none,none] (λws D N=>(¬D 5->N=Bc ws 0)/\(D 5->¬D 6->N=Bc ws 1)/\(D 6->¬D 7->N=Bc ws 2)/\(D 7->N=Bc ws 3)/\True) 8 93 (by kernel_rfl) (by kernel_rfl) rfl rfl rfl (by kernel_rfl)
      case h0=>exact⟨λ_=>rfl,λh=>absurd h (by decide),λh=>absurd h (by decide),λh=>absurd h (by decide),trivial⟩
      case hstep=>
       refine⟨⟨⟨⟨⟨⟨⟨⟨trivial,?s0⟩,?s1⟩,?s2⟩,?s3⟩,?s4⟩,?s5⟩,?s6⟩,?s7⟩
       case s0=>
        refine fst λD N az m E K I=>?_;obtain⟨z,B,M,q3,_⟩:=hd4 E;clear E;have j:=z.o (λh=>m.new (m.l _ 0 (h)));simp only[Bc]at j;subst j;have bW:=m.u 10;go_simp;exact I.o _ ⟨kB z.o,kC B.o,kC M.o,kp q3.o,trivial⟩
       case s1|s2|s3=>
        refine Bh (λD w h=>⟨kB h.1,kC h.2.1,kC h.2.2.1,kp h.2.2.2.1,trivial⟩) (λD N az m K I=>?_);have e5:=m.u 5
        try have dM:=m.r 1 89
        try have dN:=m.r 2 90
        go_simp;exact I.o
       case s5=>
        refine fst λD N az m E K I=>?_;obtain⟨z,B,M,q3,_⟩:=hd4 E;clear E;have j:=z.o (m.new);simp only[Bc]at j;subst j;have e2:=m.u 2;have dL:=m.r 0 88;go_simp;exact I.o _ ⟨λh2=>absurd (.inl rfl) h2,λ_ _=>nW1,λh1 _=>absurd h1 (λe=>e.elim (λe=>absurd e (by decide)) (λe=>(λh=>m.new (m.l _ 5 (h))) e)),λh1=>absurd h1 (λe=>e.elim (λe=>absurd e (by decide)) (λe=>(λh=>m.new (m.l _ 5 (h))) e)),trivial⟩
       case s4=>
        refine fst λD N az m E K I=>?_;obtain⟨z,B,M,q3,_⟩:=hd4 E;clear E;have dO:=m.r 3 91
        by_cases O:D 5
        rotate_left
        ·have j:=z.o O;simp only[Bc]at j;subst j;go_simp;exact I.o _ ⟨kB z.o,kC B.o,kC M.o,kp q3.o,trivial⟩
        have j:=B.o O (λh=>m.new (m.l _ 4 (h)));simp only[Bc]at j;subst j;go_simp;exact I.o _ ⟨kB z.o,kC B.o,kC M.o,kp q3.o,trivial⟩
       case s6=>
        refine fst λD N az m E K I=>?_;obtain⟨z,B,M,q3,_⟩:=hd4 E;clear E;have j:=B.o (m.d 5) (m.new);simp only[Bc]at j;subst j;have e3:=m.u 3;have dP:=m.r 4 92;go_simp;exact I.o _ ⟨λh2=>absurd (.inr (m.d 5)) h2,λ_ h2=>absurd (.inl rfl) h2,λ_ _=>nW2,λh1=>absurd h1 (λe=>e.elim (λe=>absurd e (by decide)) (λe=>(λh=>m.new (m.l _ 6 (h))) e)),trivial⟩
       case s7=>
        refine fst λD N az m E K I=>?_;obtain⟨z,B,M,q3,_⟩:=hd4 E;clear E;have j:=M.o (m.d 6) (m.new);simp only[Bc]at j;subst j;have e4:=m.u 4;go_simp;exact I.o _ ⟨λh2=>absurd (.inr (m.d 5)) h2,λ_ h2=>absurd (.inr (m.d 6)) h2,λ_ h2=>absurd (.inl rfl) h2,λ_=>nW3,trivial⟩
      case hdone=>
       rintro w9 D hD ⟨z,B,M,q3,_⟩;obtain rfl:=q3 (hD _);clear hD z B M q3 D;simp only[Bc,Cf,List.setIfInBounds_toArray,List.set_cons_succ,List.set_cons_zero];go_wp2;obtain⟨o1,o2,o3⟩:=Rj F.o e2.o e3.o ⟨false,m0,m1,m2,m3,m4,m5,m6⟩ p 0 rfl;have ob:=Me aD aC aN.o aE.o (h:=⟨false,m0,m1,m2,m3,m4,m5,m6⟩) (a:=p) (c:=0) rfl;refine Il ⟨_,Ow (o1.dr (Dr.refl _).drew) (o2.dr (Dr.refl _).drew) (o3.dr (Dr.refl _).drew) rfl rfl rfl,.inl ⟨_,p,bC.o,hE.o.le,cL.o,rfl⟩,ob.trans ((Dr.refl _).drew.below _)⟩
    have aZ:s.data.toList[1]?=some 105:=Aid bB;have bA:∀ W,(Instr.index 9 (.string s) (.int .i64 1)).run Tryz.prog W= .ok (.int .u8 105) W:=λW=>Da (P:=Tryz.prog) Tryz.underlying9 s 1 105 aZ W;have aR:∀ W,(Instr.index 9 (.string ⟨#[97,105,103,32]⟩) (.int .i64 1)).run Tryz.prog W= .ok (.int .u8 105) W:=λW=>Da (P:=Tryz.prog) Tryz.underlying9 ⟨#[97,105,103,32]⟩ 1 105 rfl W
    go_wp2_with fail
    apply Cu [_,_,_,_,_,_,_,_,_,_,_,_,_,_,_,_,_,_,_,_,undef] [wc.drew,_,_] [some 46,some 47,some 48,some 49,some 50,some 51,some 52,some 53,some 54,some 55,some 56,some 57,some 58,some 59,some 60,some 61,some 62,some 63,some 64,some 10,none] (λws D N=>(¬D 19->N=Bc ws 0)/\(D 19->¬D 20->N=Bc ws 1)/\(D 20->N=Bc ws 2)/\True) 21 93 (by kernel_rfl) (by kernel_rfl) rfl rfl rfl (by kernel_rfl)
    case h0=>exact⟨λ_=>rfl,λh=>absurd h (by decide),λh=>absurd h (by decide),trivial⟩
    case hstep=>
     refine⟨⟨⟨⟨⟨⟨⟨⟨⟨⟨⟨⟨⟨⟨⟨⟨⟨⟨⟨⟨⟨trivial,?s0⟩,?s1⟩,?s2⟩,?s3⟩,?s4⟩,?s5⟩,?s6⟩,?s7⟩,?s8⟩,?s9⟩,?s10⟩,?s11⟩,?s12⟩,?s13⟩,?s14⟩,?s15⟩,?s16⟩,?s17⟩,?s18⟩,?s19⟩,?s20⟩
     case s0|s1|s2|s3|s4|s6|s8|s10|s12|s14|s16=>
      refine Bh (λD w h=>⟨kB h.1,kC h.2.1,kp h.2.2.1,trivial⟩) (λD N az m K I=>?_);have e0:=m.u 0
      try have dA:=m.r 0 46
      try have dB:=m.r 1 47
      try have dC:=m.r 2 48
      have e6:=m.u 6;go_simp;exact I.o
     case s19=>
      refine fst λD N az m E K I=>?_;obtain⟨z,B,M,_⟩:=hd3 E;clear E;have j:=z.o (m.new);simp only[Bc]at j;subst j;go_simp;exact I.o _ ⟨λh2=>absurd (.inl rfl) h2,λ_ _=>nW1,λh1=>absurd h1 (λe=>e.elim (λe=>absurd e (by decide)) (λe=>(λh=>m.new (m.l _ 19 (h))) e)),trivial⟩
     case s5=>
      refine fst λD N az m E K I=>?_;obtain⟨z,B,M,_⟩:=hd3 E;clear E;have dD:=m.r 4 50
      by_cases O:D 19
      rotate_left
      ·have j:=z.o O;simp only[Bc]at j;subst j;go_simp;exact I.o _ ⟨kB z.o,kC B.o,kp M.o,trivial⟩
      have j:=B.o O (λh=>m.new (m.l _ 5 (h)));simp only[Bc]at j;subst j;go_simp;exact I.o _ ⟨kB z.o,kC B.o,kp M.o,trivial⟩
     case s7=>
      refine fst λD N az m E K I=>?_;obtain⟨z,B,M,_⟩:=hd3 E;clear E;have dE:=m.r 6 52
      by_cases O:D 19
      rotate_left
      ·have j:=z.o O;simp only[Bc]at j;subst j;go_simp;exact I.o _ ⟨kB z.o,kC B.o,kp M.o,trivial⟩
      have j:=B.o O (λh=>m.new (m.l _ 7 (h)));simp only[Bc]at j;subst j;go_simp;exact I.o _ ⟨kB z.o,kC B.o,kp M.o,trivial⟩
     case s9=>
      refine fst λD N az m E K I=>?_;obtain⟨z,B,M,_⟩:=hd3 E;clear E;have dF:=m.r 8 54
      by_cases O:D 19
      rotate_left
      ·have j:=z.o O;simp only[Bc]at j;subst j;go_simp;exact I.o _ ⟨kB z.o,kC B.o,kp M.o,trivial⟩
      have j:=B.o O (λh=>m.new (m.l _ 9 (h)));simp only[Bc]at j;subst j;go_simp;exact I.o _ ⟨kB z.o,kC B.o,kp M.o,trivial⟩
     case s11=>
      refine fst λD N az m E K I=>?_;obtain⟨z,B,M,_⟩:=hd3 E;clear E;have dG:=m.r 10 56
      by_cases O:D 19
      rotate_left
      ·have j:=z.o O;simp only[Bc]at j;subst j;go_simp;exact I.o _ ⟨kB z.o,kC B.o,kp M.o,trivial⟩
      have j:=B.o O (λh=>m.new (m.l _ 11 (h)));simp only[Bc]at j;subst j;go_simp;exact I.o _ ⟨kB z.o,kC B.o,kp M.o,trivial⟩
     case s13=>
      refine fst λD N az m E K I=>?_;obtain⟨z,B,M,_⟩:=hd3 E;clear E;have dH:=m.r 12 58
      by_cases O:D 19
      rotate_left
      ·have j:=z.o O;simp only[Bc]at j;subst j;go_simp;exact I.o _ ⟨kB z.o,kC B.o,kp M.o,trivial⟩
      have j:=B.o O (λh=>m.new (m.l _ 13 (h)));simp only[Bc]at j;subst j;go_simp;exact I.o _ ⟨kB z.o,kC B.o,kp M.o,trivial⟩
     case s15=>
      refine fst λD N az m E K I=>?_;obtain⟨z,B,M,_⟩:=hd3 E;clear E;have dI:=m.r 14 60
      by_cases O:D 19
      rotate_left
      ·have j:=z.o O;simp only[Bc]at j;subst j;go_simp;exact I.o _ ⟨kB z.o,kC B.o,kp M.o,trivial⟩
      have j:=B.o O (λh=>m.new (m.l _ 15 (h)));simp only[Bc]at j;subst j;go_simp;exact I.o _ ⟨kB z.o,kC B.o,kp M.o,trivial⟩
     case s17=>
      refine fst λD N az m E K I=>?_;obtain⟨z,B,M,_⟩:=hd3 E;clear E;have dJ:=m.r 16 62
      by_cases O:D 19
      rotate_left
      ·have j:=z.o O;simp only[Bc]at j;subst j;go_simp;exact I.o _ ⟨kB z.o,kC B.o,kp M.o,trivial⟩
      have j:=B.o O (λh=>m.new (m.l _ 17 (h)));simp only[Bc]at j;subst j;go_simp;exact I.o _ ⟨kB z.o,kC B.o,kp M.o,trivial⟩
     case s18=>
      refine fst λD N az m E K I=>?_;obtain⟨z,B,M,_⟩:=hd3 E;clear E;have bX:=m.r 3 49;have bY:=m.r 5 51;have bZ:=m.r 7 53;have cA:=m.r 9 55;have cB:=m.r 11 57;have cC:=m.r 13 59;have cE:=m.r 15 61;have cF:=m.r 17 63;have cM:=bX;rw[Array.getD_eq_getD_getElem?]at cM;have cN:=bY;rw[Array.getD_eq_getD_getElem?]at cN;have cO:=bZ;rw[Array.getD_eq_getD_getElem?]at cO;have cP:=cA;rw[Array.getD_eq_getD_getElem?]at cP;have cQ:=cB;rw[Array.getD_eq_getD_getElem?]at cQ;have cS:=cC;rw[Array.getD_eq_getD_getElem?]at cS;have cT:=cE;rw[Array.getD_eq_getD_getElem?]at cT;have cV:=cF;rw[Array.getD_eq_getD_getElem?]at cV;go_simp;exact I.o _ ⟨kB z.o,kC B.o,kp M.o,trivial⟩
     case s20=>
      refine fst λD N az m E K I=>?_;obtain⟨z,B,M,_⟩:=hd3 E;clear E;have j:=B.o (m.d 19) (m.new);simp only[Bc]at j;subst j;have bW:=m.r 19 10;have dK:=m.r 18 64;go_simp;exact I.o _ ⟨λh2=>absurd (.inr (m.d 19)) h2,λ_ h2=>absurd (.inl rfl) h2,λ_=>nW2,trivial⟩
    case hdone=>
     rintro w8 D hD ⟨z,B,M,_⟩;obtain rfl:=M (hD _);clear hD z B M D;simp only[Bc,Cf,List.setIfInBounds_toArray,List.set_cons_succ,List.set_cons_zero];obtain⟨W8,aX,b8,aY⟩:=Ape wc #[.bool true,.int .i64 (m0:Nat),.int .i64 (m1:Nat),.int .i64 (m2:Nat),.int .i64 (m3:Nat),.int .i64 (m4:Nat),.int .i64 (m5:Nat),.int .i64 (m6:Nat)] 47;rw[aX];clear aX c0 c1 c2 c3 c4 c5 c6 a0 a1 a2 a3 a4 a5 a6 bA aR;have aE:=Ab (hE.o.fr.thenB (aY.mono hE.o.fr.size));have r8:=Ab (hE.o.rdr.below aY hE.o.rdr.lt)
     have n8:¬ wc.heap.size<y+1+1+1+1+1:=by have:=hE.o.fr.size;omega
     generalize wc.heap.size=n1 at*;obtain⟨O,d1,d2,d3⟩:=c4c b8;have d5:=b8.cell 5
     have p0:(m0:Int)<=16777216:=by have:=t0.o;omega
     have p1:(m1:Int)<=16777216:=by have:=t1.o;omega
     have p2:(m2:Int)<=16777216:=by have:=t2.o;omega
     have p4:(m4:Int)<=16777216:=by have:=t4.o;omega
     have F:=Ab (aE.o.blk b1 (by omega));have e2:=Ab (aE.o.blk b2 (by omega));have e3:=Ab (aE.o.blk b3 (by omega));have cL:=Ab (show Nq ⟨true,m0,m1,m2,m3,m4,m5,m6⟩ from⟨t0.o,t1.o,t2.o,t3.o,t4.o,t5.o,t6.o⟩);have aN:=Ab (show y<=W5.heap.size by omega);clear b1 b2 b3 cK t0 t1 t2 t3 t4 t5 t6 cX hc top cG aZ;have hd:=Ab (Air bB hE.o.all);rw[bN,bO,bP,bQ,bR,bS,bT]at hd;clear bN bO bP bQ bR bS bT
     by_cases X:(m0:Int)<m1+m2+m4
     ·have U:=Ab (hd.o.trans (if_neg (by rw[show decide (Dy=Dy)=true from by decide];unfold Jf;simp;omega)));clear hd;have f0:=(F.o).cell 0;have bD:=(F.o).frozen 0;have f1:=(F.o).cell 1;have bE:=(F.o).frozen 1;have f2:=(F.o).cell 2;have bF:=(F.o).frozen 2;have f3:=(F.o).cell 3;have bG:=(F.o).frozen 3;have f4:=(F.o).cell 4;have bH:=(F.o).frozen 4;have f5:=(F.o).cell 5;have bI:=(F.o).frozen 5;have f6:=(F.o).cell 6;have bJ:=(F.o).frozen 6;have f7:=(F.o).cell 7;have bK:=(F.o).frozen 7;have g0:=(e2.o).cell 0;have bL:=(e2.o).frozen 0;have h0:=(e3.o).cell 0;have bU:=(e3.o).frozen 0;go_wp2;obtain⟨o1,o2,o3⟩:=Rj F.o e2.o e3.o ⟨false,0,0,0,0,0,0,0⟩ 4 5 rfl;refine Il ⟨_,Ow o1 o2 o3 rfl rfl rfl,.inr ⟨U.o,⟨false,0,0,0,0,0,0,0⟩,_,_,by decide,rfl⟩,Me aD aC (by have:=aN.o;omega) aE.o (h:=⟨false,0,0,0,0,0,0,0⟩) (a:=4) (c:=5) rfl⟩
     by_cases dT:(m0:Int)>m1+m2+m4
     ·have U:=Ab (hd.o.trans (if_neg (by rw[show decide (Dy=Dy)=true from by decide];unfold Jf;simp;omega)));clear hd;have f0:=(F.o).cell 0;have bD:=(F.o).frozen 0;have f1:=(F.o).cell 1;have bE:=(F.o).frozen 1;have f2:=(F.o).cell 2;have bF:=(F.o).frozen 2;have f3:=(F.o).cell 3;have bG:=(F.o).frozen 3;have f4:=(F.o).cell 4;have bH:=(F.o).frozen 4;have f5:=(F.o).cell 5;have bI:=(F.o).frozen 5;have f6:=(F.o).cell 6;have bJ:=(F.o).frozen 6;have f7:=(F.o).cell 7;have bK:=(F.o).frozen 7;have g0:=(e2.o).cell 0;have bL:=(e2.o).frozen 0;have h0:=(e3.o).cell 0;have bU:=(e3.o).frozen 0;go_wp2;obtain⟨o1,o2,o3⟩:=Rj F.o e2.o e3.o ⟨false,0,0,0,0,0,0,0⟩ 4 5 rfl;refine Il ⟨_,Ow o1 o2 o3 rfl rfl rfl,.inr ⟨U.o,⟨false,0,0,0,0,0,0,0⟩,_,_,by decide,rfl⟩,Me aD aC (by have:=aN.o;omega) aE.o (h:=⟨false,0,0,0,0,0,0,0⟩) (a:=4) (c:=5) rfl⟩
     have bC:=Ab (hd.o.trans (if_pos (by rw[show decide (Dy=Dy)=true from by decide];unfold Jf;simp;omega)));clear hd;have f0:=(F.o).cell 0;have bD:=(F.o).frozen 0;have f1:=(F.o).cell 1;have bE:=(F.o).frozen 1;have f2:=(F.o).cell 2;have bF:=(F.o).frozen 2;have f3:=(F.o).cell 3;have bG:=(F.o).frozen 3;have f4:=(F.o).cell 4;have bH:=(F.o).frozen 4;have f5:=(F.o).cell 5;have bI:=(F.o).frozen 5;have f6:=(F.o).cell 6;have bJ:=(F.o).frozen 6;have f7:=(F.o).cell 7;have bK:=(F.o).frozen 7;have g0:=(e2.o).cell 0;have bL:=(e2.o).frozen 0;have h0:=(e3.o).cell 0;have bU:=(e3.o).frozen 0;have k0:=(r8.o).cell 0;have dR:=(r8.o).frozen 0;have k1:=(r8.o).cell 1;have dS:=(r8.o).frozen 1;have d4:=(b8).cell 4;have d5:=(b8).cell 5;have d6:=(b8).cell 6;have d7:=(b8).cell 7
     go_wp2_with fail
     apply Cu [_,_,_,_,_,undef,undef,undef] [W8.drew,_,_,_] [some 88,some 89,some 90,some 91,some 92,none,none,none] (λws D N=>(¬D 5->N=Bc ws 0)/\(D 5->¬D 6->N=Bc ws 1)/\(D 6->¬D 7->N=Bc ws 2)/\(D 7->N=Bc ws 3)/\True) 8 93 (by kernel_rfl) (by kernel_rfl) rfl rfl rfl (by kernel_rfl)
     case h0=>exact⟨λ_=>rfl,λh=>absurd h (by decide),λh=>absurd h (by decide),λh=>absurd h (by decide),trivial⟩
     case hstep=>
      refine⟨⟨⟨⟨⟨⟨⟨⟨trivial,?s0⟩,?s1⟩,?s2⟩,?s3⟩,?s4⟩,?s5⟩,?s6⟩,?s7⟩
      case s0=>
       refine fst λD N az m E K I=>?_;obtain⟨z,B,M,q3,_⟩:=hd4 E;clear E;have j:=z.o (λh=>m.new (m.l _ 0 (h)));simp only[Bc]at j;subst j;have bW:=m.u 10;go_simp;exact I.o _ ⟨kB z.o,kC B.o,kC M.o,kp q3.o,trivial⟩
      case s1|s2|s3=>
       refine Bh (λD w h=>⟨kB h.1,kC h.2.1,kC h.2.2.1,kp h.2.2.2.1,trivial⟩) (λD N az m K I=>?_);have e5:=m.u 5
       try have dM:=m.r 1 89
       try have dN:=m.r 2 90
       go_simp;exact I.o
      case s5=>
       refine fst λD N az m E K I=>?_;obtain⟨z,B,M,q3,_⟩:=hd4 E;clear E;have j:=z.o (m.new);simp only[Bc]at j;subst j;have e2:=m.u 2;have dL:=m.r 0 88;go_simp;exact I.o _ ⟨λh2=>absurd (.inl rfl) h2,λ_ _=>nW1,λh1 _=>absurd h1 (λe=>e.elim (λe=>absurd e (by decide)) (λe=>(λh=>m.new (m.l _ 5 (h))) e)),λh1=>absurd h1 (λe=>e.elim (λe=>absurd e (by decide)) (λe=>(λh=>m.new (m.l _ 5 (h))) e)),trivial⟩
      case s4=>
       refine fst λD N az m E K I=>?_;obtain⟨z,B,M,q3,_⟩:=hd4 E;clear E;have dO:=m.r 3 91
       by_cases O:D 5
       rotate_left
       ·have j:=z.o O;simp only[Bc]at j;subst j;go_simp;exact I.o _ ⟨kB z.o,kC B.o,kC M.o,kp q3.o,trivial⟩
       have j:=B.o O (λh=>m.new (m.l _ 4 (h)));simp only[Bc]at j;subst j;go_simp;exact I.o _ ⟨kB z.o,kC B.o,kC M.o,kp q3.o,trivial⟩
      case s6=>
       refine fst λD N az m E K I=>?_;obtain⟨z,B,M,q3,_⟩:=hd4 E;clear E;have j:=B.o (m.d 5) (m.new);simp only[Bc]at j;subst j;have e3:=m.u 3;have dP:=m.r 4 92;go_simp;exact I.o _ ⟨λh2=>absurd (.inr (m.d 5)) h2,λ_ h2=>absurd (.inl rfl) h2,λ_ _=>nW2,λh1=>absurd h1 (λe=>e.elim (λe=>absurd e (by decide)) (λe=>(λh=>m.new (m.l _ 6 (h))) e)),trivial⟩
      case s7=>
       refine fst λD N az m E K I=>?_;obtain⟨z,B,M,q3,_⟩:=hd4 E;clear E;have j:=M.o (m.d 6) (m.new);simp only[Bc]at j;subst j;have e4:=m.u 4;go_simp;exact I.o _ ⟨λh2=>absurd (.inr (m.d 5)) h2,λ_ h2=>absurd (.inr (m.d 6)) h2,λ_ h2=>absurd (.inl rfl) h2,λ_=>nW3,trivial⟩
     case hdone=>
      rintro w9 D hD ⟨z,B,M,q3,_⟩;obtain rfl:=q3 (hD _);clear hD z B M q3 D;simp only[Bc,Cf,List.setIfInBounds_toArray,List.set_cons_succ,List.set_cons_zero];go_wp2;obtain⟨o1,o2,o3⟩:=Rj F.o e2.o e3.o ⟨true,m0,m1,m2,m3,m4,m5,m6⟩ p 0 rfl;have ob:=Me aD aC aN.o aE.o (h:=⟨true,m0,m1,m2,m3,m4,m5,m6⟩) (a:=p) (c:=0) rfl;refine Il ⟨_,Ow (o1.dr (Dr.refl _).drew) (o2.dr (Dr.refl _).drew) (o3.dr (Dr.refl _).drew) rfl rfl rfl,.inl ⟨_,p,bC.o,hE.o.le,cL.o,rfl⟩,ob.trans ((Dr.refl _).drew.below _)⟩
end Go.Proofs.YtmidbhnhcbpneaaGreatDoor.Top
end
