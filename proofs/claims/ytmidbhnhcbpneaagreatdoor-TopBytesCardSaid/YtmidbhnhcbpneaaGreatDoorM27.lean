/- A part of the proof. -/
import Derived.Test.YtmidbhnhcbpneaaGreatDoorM26
set_option linter.unusedVariables false
set_option linter.unusedSimpArgs false
set_option maxRecDepth 8000
set_option maxHeartbeats 8000000
section
namespace Go.Mir
open Go.RowKit Go.Lt Go.Instr Go.Builtin
variable {P:Program} {β:Ren} {wA wB:World} {α:Type}
theorem Hp {t xt ty:TypeId} {e xe:TypeId} {i:TypeInfo} {z:Value} {base:Option Addr} {l c n:Nat} {x:Value} (w:World) (ht:P.underlying t=some (.slice e)) (hx:P.underlying xt=some (.slice xe)) (hi:P.info? e=some i) (hz:i.zero=some z)
  (hb:i.bytes<=1000) (hn:l+n<=200) (hlen:lenOf x=pure n):
  (append_ #[t,xt] ty #[.slice base l c,x]).run P w=if l+n<=c then
    (firstCells i.size n x >>= λp=>(match base with|some a=>storeCells (a.add (l*i.size)) p.toList|none=>pure ()) >>= λ_=>pure (.slice base (l+n) c)).run P w
   else(choose (.appendCap (l+n) c e) >>= λm=>firstCells i.size l (.slice base l c) >>= λD=>firstCells i.size n x >>= λp=>
    newRow e (D++p++zeroCells z.cells (m-(l+n))) >>= λa=>pure (Value.slice (some a) (l+n) m)).run P w:=by
 have j:∀ w,(typeInfo e).run P w= .ok i w:=λw=>by simp[typeInfo,hi]
 have y:∀ w,(sizeOf e).run P w= .ok i.size w:=λw=>by simp[sizeOf,j]
 have B:∀ w,(zeroValue e).run P w= .ok z w:=λw=>by simp[zeroValue,j,hz]
 have r:∀ c,¬l+n<=c->¬nextslicecap (l+n) c*i.bytes>2^48:=by
  intro c q
  have:nextslicecap (l+n) c<=400:=by
   unfold nextslicecap;split
   ·omega
   rw[if_pos (by omega)];omega
  have E:nextslicecap (l+n) c*i.bytes<=400*1000:=Nat.mul_le_mul this hb;omega
 unfold append_;simp only[List.getElem?_toArray,List.getElem?_cons_zero,List.getElem?_cons_succ,Sem.run_bind,run_underlying ht,Result.andThen_ok,y,run_underlying hx,Sem.run_pure,Bool.false_eq_true,if_false,hlen,Bool.not_false,if_true]
 by_cases q:l+n<=c
 ·rw[if_pos q,if_pos q]
  cases base<;>simp
 rw[if_neg q,if_neg q]
 have E:¬ (((l+n:Nat):Int)>IntKind.i64.max/\(False∨i.bytes=0)):=by
  intro h
  have h2:(IntKind.i64.max)=9223372036854775807:=by decide
  rw[h2]at h;omega
 simp only[Sem.run_bind,j,Result.andThen_ok,if_neg E,if_neg (r c q),run_askRoom,B];rfl
theorem Nt {w:World} {b o:Nat} {cs:Array Value} {e:TypeId} {f:Nat×Nat} (h:w.heap[b]?=some (.cells cs e f)):∀ (n i:Nat) (acc:Array Value),o+i+n<=cs.size->
  (loadCellsFrom ⟨b,o,none⟩ i n acc).run P w= .ok (acc++cs.extract (o+i) (o+i+n)) w
 |0,i,acc,hn=>by
  unfold Go.loadCellsFrom
  have:cs.extract (o+i) (o+i+0)= #[]:=by simp;exact Nat.min_le_left _ _
  rw[this]
  simp
 |n+1,i,acc,hn=>by
  unfold Go.loadCellsFrom;rw[Ik,Sem.run_bind,run_load]
  have l:w.cell? ⟨b,o+i,none⟩=some (cs[o+i]'(by omega)):=by simp[World.cell?,h]
  rw[l];simp only[Result.andThen_ok];rw[Nt h n (i+1) _ (by omega)]
  congr 1
  apply Array.ext'
  simp[Array.toList_extract,List.extract_eq_take_drop]
  have j:o+i<cs.toList.length:=by simp;omega
  rw[List.drop_eq_getElem_cons j,List.take_succ_cons];simp[Nat.add_assoc]
theorem Oa {w:World} {b o n:Nat} {cs:Array Value} {e:TypeId} {f:Nat×Nat} (h:w.heap[b]?=some (.cells cs e f)) (hn:o+n<=cs.size):(loadCells ⟨b,o,none⟩ n).run P w= .ok (cs.extract o (o+n)) w:=by
 unfold Go.loadCells;rw[Nt h n 0 #[] (by omega)]
 simp
theorem Qs {b o:Nat} {e:TypeId}:∀ (l:List Value) (i:Nat) (w:World) (c:Array Value),w.heap[b]?=some (.cells c e (0,0))->o+i+l.length<=c.size->(∀v∈l,v.oneCell'=true)->
  ∃p c',(storeCells ⟨b,o,none⟩ l i).run P w= .ok () p/\p.heap[b]?=some (.cells c' e (0,0))/\c'.size=c.size/\(∀j:Nat,j<o+i->c'[j]?=c[j]?)/\(∀j:Nat,j<l.length->c'[o+i+j]?=l[j]?)/\
   (∀j:Nat,j≠b->p.heap[j]?=w.heap[j]?)/\p.heap.size=w.heap.size/\St w p
 | [],i,w,c,h,hn,h1=>⟨w,c,rfl,h,rfl,λ_ _=>rfl,λj m=>by simp at m,λ_ _=>rfl,rfl,.refl _⟩
 |v::l,i,w,c,h,hn,h1=>by
  unfold Go.storeCells;rw[List.length_cons]at hn
  have z:w.cell? ⟨b,o+i,none⟩=some (c[o+i]'(by omega)):=by simp[World.cell?,h]
  have B:w.frozen? ⟨b,o+i,none⟩=false:=by simp[World.frozen?,h]
  have r:(store ⟨b,o+i,none⟩ v).run P w= .ok () (w.setCell ⟨b,o+i,none⟩ v):=by
   rw[run_store P w _ v _ (h1 v List.mem_cons_self),z];simp[B]
  have x:(w.setCell ⟨b,o+i,none⟩ v).heap[b]?=some (.cells (c.setIfInBounds (o+i) v) e (0,0)):=by
   rw[Dk,if_pos rfl,h]
   simp
  obtain⟨p,c',E,F,I,y,J,M,N,O⟩:=Qs (o:=o) l (i+1) _ _ x (by simp;omega) (λu D=>h1 u (List.mem_cons_of_mem _ D));refine⟨p,c',?_,F,by rw[I];simp,λj m=>?_,λj m=>?_,λj m=>?_,by rw[N];simp[World.setCell],St.trans ⟨rfl,rfl,rfl⟩ O⟩
  ·rw[Ik,Sem.run_bind,r];exact E
  ·have q:¬ o+i=j:=by omega
   rw[y j (by omega),Array.getElem?_setIfInBounds,if_neg q]
  ·cases j with
   |zero=>
    rw[Nat.add_zero,y (o+i) (by omega),Array.getElem?_setIfInBounds,if_pos rfl,if_pos (by omega)];rfl
   |succ j=>
    have:=J j (by simpa using m)
    rw[show o+(i+1)+j=o+i+(j+1) by omega]at this;rw[this]
    simp
  rw[M j m,Dk,if_neg (by simpa using λe=>m e.symm)]
theorem Fr.less {β β':Ren} {wA wA0 wA' wB wB':World} (h:Fr β wA0 wB β' wA' wB') (hl:∀ (i:Nat) (o:Obj),wA0.heap[i]?=some o->live o=true->∃m,wA.heap[i]?=some m/\live m=true):Fr β wA wB β' wA' wB':=by
 refine⟨λj x y=>h.keep j x λi o hi l=>?_,λi o hi l=>?_,h.size,h.st⟩
 ·obtain⟨m,p,h2⟩:=hl i o hi l;exact y i m p h2
 rcases h.src i o hi l with p|⟨q,D,p,h2,r⟩
 ·exact .inl p
 obtain⟨m,z,B⟩:=hl q D p h2;exact .inr ⟨q,m,z,B,r⟩
def kill (w:World) (b:Nat):World:={w with heap:=w.heap.setIfInBounds b (.coro none)}
theorem WR.kill (hW:WR P β wA wB) (b:Nat):WR P β (kill wA b) wB:=by
 have r:(Mir.kill wA b).heap.size=wA.heap.size:=by simp[Mir.kill]
 have m:∀ (i:Nat) (o:Obj),(Mir.kill wA b).heap[i]?=some o->o= .coro none∨wA.heap[i]?=some o:=by
  intro i o l;unfold Mir.kill at l;simp only[Array.getElem?_setIfInBounds]at l
  split at l
  ·split at l
   ·cases l;exact .inl rfl
   cases l
  exact .inr l
 refine⟨λi o l=>?_,λi j x y D hy p q B=>?_,hW.tape⟩
 ·rw[r]
  rcases m i o l with rfl|h
  ·trivial
  exact hW.rel i o h
 rcases m i x D with rfl|z
 ·cases p
 rcases m j y hy with rfl|h2
 ·cases q
 exact hW.inj i j x y z h2 p q B
theorem Rw {w:World} {b i:Nat} {o:Obj} (h:(Mir.kill w b).heap[i]?=some o) (hl:live o=true):i≠b/\w.heap[i]?=some o:=by
 unfold Mir.kill at h;simp only[Array.getElem?_setIfInBounds]at h
 split at h
 ·split at h
  ·cases h;cases hl
  cases h
 rename_i hb
 exact⟨λe=>hb e.symm,h⟩
variable {P:Program} {β:Ren} {wA wB:World} {α:Type}
def rowOk (h:Nat->Option Obj) (z n:Nat):Value->Bool
 | .slice none 0 0=>n==0
 | .slice (some a) l _=>l==n&&match h a.block with
  |some (.cells cs _ _)=>decide (a.off+n*z<=cs.size)
  |_=>false
 |_=>false
theorem Ahw {z n:Nat} {x x':Value} (hW:WR P β wA wB) (hok:rowOk (at_ wA) z n x=true) (h:VR β wA.heap.size x x'):∃ c c',(∀w:World,w.heap=wA.heap->(firstCells z n x).run P w= .ok c w)/\(∀w:World,w.heap=wB.heap->(firstCells z n x').run P w= .ok c' w)/\
  VRs β wA.heap.size c c'/\c.size=n*z/\lenOf x=pure n/\lenOf x'=pure n:=by
 cases h with
 |nilSlice=>
  have J:n=0:=by simpa[rowOk] using hok
  subst J
  exact⟨#[],#[],λ_ _=>rfl,λ_ _=>rfl,.empty _ _,by simp,rfl,rfl⟩
 |slice b o l c o' c' hb hc hs ho=>
  unfold rowOk at hok;simp only[at_]at hok
  cases j:wA.heap[b]? with
  |none=>simp[j]at hok
  |some ob=>
   rw[j]at hok
   cases ob with
   |cells cs e f=>
    simp only[Bool.and_eq_true,beq_iff_eq,decide_eq_true_eq]at hok;obtain⟨rfl,m⟩:=hok;obtain⟨_,B,F,M,N,O,R,I⟩:=hW.rel b _ j
    by_cases E:l=0
    ·subst E;refine⟨#[],#[],λw p=>?_,λw p=>?_,.empty _ _,by simp,rfl,rfl⟩
     ·simp[firstCells,loadCells,loadCellsFrom]
     simp[firstCells,loadCells,loadCellsFrom]
    have D:o'=o:=ho.resolve_right (λq=>E q.1);subst D;refine⟨cs.extract o' (o'+l*z),B.extract o' (o'+l*z),λw p=>?_,λw p=>?_,?_,by simp;omega,rfl,rfl⟩
    ·exact Oa (by rw[p];exact j) m
    ·exact Oa (by rw[p];exact F) (by omega)
    refine⟨by simp;omega,λi x y r hy=>?_⟩;rw[Array.getElem?_extract]at r hy
    split at r
    ·split at hy
     ·exact I _ _ _ r hy
     cases hy
    cases r
   |_=>simp at hok
 |_=>simp[rowOk]at hok
def AhF (h:Nat->Option Obj) (b:Nat):Bool:=
 match h b with
 |some (.cells cs _ _)=>cs.toList.all (·.oneCell')
 |_=>false
def AkJ (P:Program) (h:Nat->Option Obj) (t xt:TypeId) (s x:Value):Bool:=
 match P.underlying t,P.underlying xt,s,x with
 |some (.slice e),some (.slice _),.slice base l c,.slice xb n xc=>
  (match P.info? e with|some i=>decide (i.bytes<=1000)&&(match i.zero with|some z=>z.cells.size==i.size|none=>false)|none=>false)&&Gu P e&&decide (l+n<=200)&&decide (l<=c)&&rowOk h (P.cellsOf e) n (.slice xb n xc)&&
  match base with
  |none=>l==0&&c==0
  |some a=>match h a.block with
   |some (.cells cs e' _)=>(e==e')&&decide (a.off+c*P.cellsOf e<=cs.size)&&(decide (l+n<=c)||(a.off==0&&(c != 0||cs.size==0)))
   |_=>false
 |_,_,_,_=>false
def Rh (P:Program) (t xt ty:TypeId) (s x:Value) (wA:World):Option (Value×World):=
 if AkJ P (at_ wA) t xt s x then
  match (append_ #[t,xt] ty #[s,x]).run P wA with
  | .ok v wA'=>match s,x with
   | .slice base l c,.slice _ n _=>if l+n<=c then some (v,wA') else
    if AhF (at_ wA') wA.heap.size then match base with
     |none=>some (v,wA')
     |some a=>some (v,kill wA' a.block)
    else none
   |_,_=>none
  |_=>none
 else none
theorem Aba (z:Array Value):zeroCells z 0= #[]:=by simp[zeroCells]
theorem Ajc (w:World) (b:Nat) (o:Obj) (hb:b<w.heap.size) (d:Nat):kill {w with heap:=w.heap.push o,drawn:=d} b={(kill w b) with heap:=(kill w b).heap.push o,drawn:=d}:=by
 unfold kill
 show World.mk _ _ _ _ _=World.mk _ _ _ _ _
 congr 1
 apply Array.ext_getElem?
 intro i;simp only[Array.getElem?_setIfInBounds,Array.getElem?_push,Array.size_push,Array.size_setIfInBounds]
 by_cases hi:b=i
 ·subst hi;simp[hb,show ¬b=w.heap.size by omega,show b<w.heap.size+1 by omega]
 simp[hi]
theorem WR.drawn (hW:WR P β wA wB) (d d':Nat):WR P β {wA with drawn:=d} {wB with drawn:=d'}:=⟨hW.rel,hW.inj,hW.tape⟩
theorem AgF {t xt ty:TypeId} {s s' x x' v:Value} {wA':World} (hW:WR P β wA wB) (hs:VR β wA.heap.size s s') (hx:VR β wA.heap.size x x') (hev:Rh P t xt ty s x wA=some (v,wA')):
  ∃β' v' wB',(append_ #[t,xt] ty #[s',x']).run P wB= .ok v' wB'/\Ext β wA.heap.size β'/\wA.heap.size<=wA'.heap.size/\WR P β' wA' wB'/\Fr β wA wB β' wA' wB'/\VR β' wA'.heap.size v v':=by
 unfold Rh at hev
 split at hev
 case isFalse=>cases hev
 rename_i hok
 unfold AkJ at hok
 split at hok
 case h_2=>cases hok
 case h_1 e xe base l c xb n xc hut hux=>
  simp only[Bool.and_eq_true,beq_iff_eq,decide_eq_true_eq]at hok;obtain⟨⟨⟨⟨⟨R,Z⟩,aF⟩,bS⟩,bF⟩,F⟩:=hok;simp only[at_]at F
  cases hi:P.info? e with
  |none=>simp[hi]at R
  |some i=>
   rw[hi]at R;simp only[Bool.and_eq_true,decide_eq_true_eq]at R;obtain⟨R,aQ⟩:=R
   have aC:P.cellsOf e=i.size:=by simp[Program.cellsOf,hi]
   obtain⟨z,hz⟩:∃ z,i.zero=some z:=by
    unfold Gu at Z;rw[hi]at Z
    cases hz:i.zero with
    |none=>simp[hz]at Z
    |some z=>exact⟨z,rfl⟩
   have cG:∀ β n,VR β n z z:=by
    intro β n;unfold Gu at Z;rw[hi]at Z;simp[hz]at Z;exact Dt 8 z Z
   rw[aC]at bF;obtain⟨D,B,bC,aN,aI,aJ,bR,aM⟩:=Ahw (P:=P) hW bF hx;have hA:=Hp (ty:=ty) (base:=base) (l:=l) (c:=c) (n:=n) (x:= .slice xb n xc) wA hut hux hi hz R aF bR;rw[hA]at hev;clear hA
   by_cases N:l+n<=c
   ·
    rw[if_pos N]at hev;simp only[Sem.run_bind,bC wA rfl,Result.andThen_ok]at hev
    cases hs with
    |nilSlice=>
     have bV:n=0:=by omega
     subst bV;simp only[Sem.run_pure,Result.andThen_ok,N,if_true,Option.some.injEq,Prod.mk.injEq]at hev;obtain⟨rfl,rfl⟩:=hev;refine⟨β,.slice none 0 0,wB,?_,.refl _ _,Nl _,hW,.refl _ _ _,.nilSlice⟩;rw[Hp (ty:=ty) (n:=0) wB hut hux hi hz R aF aM];simp[aN wB rfl]
    |slice b o _ _ o' c' hb hc aB ho=>
     simp only at hev
     have I:B.size=n*i.size:=by rw[aI.size,aJ]
     cases aA:(storeCells ((⟨b,o,none⟩:Addr).add (l*i.size)) D.toList).run P wA with
     |halt p q=>rw[aA]at hev;cases hev
     |ok u w1=>
      rw[aA]at hev;simp only[Result.andThen_ok,Sem.run_pure,N,if_true,Option.some.injEq,Prod.mk.injEq]at hev;obtain⟨rfl,rfl⟩:=hev;rw[Ik]at aA;have cA:n≠0->o'=o:=λhn=>ho.resolve_right (by omega)
      have bH:Sim P EqR β wA wB (storeCells ⟨b,o+l*i.size,none⟩ D.toList) (storeCells ⟨β.b b,o'+l*i.size,none⟩ B.toList):=by
       by_cases hn:n=0
       ·subst hn;have e1:D= #[]:=Array.eq_empty_of_size_eq_zero (by rw[aJ];simp);have e2:B= #[]:=Array.eq_empty_of_size_eq_zero (by rw[I];simp);rw[e1,e2];exact Sim.pure rfl
       rw[cA hn];exact Sim.storeCells _ _ 0 β wA wB hb (by simpa using aI)
      obtain⟨β',u',wB',A,h2,h3,h4,hF,h5⟩:=bH hW u w1 aA;refine⟨β',.slice (some ⟨β.b b,o',none⟩) (l+n) c',wB',?_,h2,h3,h4,hF,?_⟩
      ·rw[Hp (ty:=ty) (n:=n) wB hut hux hi hz R aF aM,if_pos (by omega)];simp only[Sem.run_bind,aN wB rfl,Result.andThen_ok,Ik,A,Sem.run_pure]
      exact VR.ext (.slice b o (l+n) c o' c' hb hc aB (by
       rcases ho with ho|⟨h0,bK,hk⟩
       ·exact .inl ho
       exact .inr ⟨by omega,bK,hk⟩)) h2 h3
   
   rw[if_neg N]at hev
   have bN:(choose (.appendCap (l+n) c e)).run P wA= .ok (l+n) {wA with drawn:=wA.drawn+1}:=by
    rw[run_choose];simp[Question.forced,Question.cut,hW.tape]
   simp only[Sem.run_bind,bN,Result.andThen_ok]at hev
   have S:∃ E M,(∀w:World,w.heap=wA.heap->(firstCells i.size l (.slice base l c)).run P w= .ok E w)/\(∀w:World,w.heap=wB.heap->(firstCells i.size l s').run P w= .ok M w)/\VRs β wA.heap.size E M/\E.size=l*i.size:=by
    obtain⟨p,q,a1,a2,a3,a4,_⟩:=Ahw (P:=P) (x:= .slice base l c) (x':=s') (z:=i.size) (n:=l) hW (by
     cases base with
     |none=>simp at F;obtain⟨rfl,rfl⟩:=F;rfl
     |some a=>
      simp only at F;unfold rowOk
      cases O:wA.heap[a.block]? with
      |none=>simp[O]at F
      |some ob=>
       rw[O]at F
       cases ob<;>first|(cases F;done)|skip
       simp only[Bool.and_eq_true,beq_iff_eq,decide_eq_true_eq]at F;simp only[at_,O,beq_self_eq_true,Bool.true_and,decide_eq_true_eq]
       have:l*i.size<=c*i.size:=Nat.mul_le_mul_right _ bS
       rw[aC]at F
       omega) hs
    exact⟨p,q,a1,a2,a3,a4⟩
   obtain⟨E,M,bZ,bE,aT,aU⟩:=S;simp only[bZ {wA with drawn:=wA.drawn+1} rfl,bC {wA with drawn:=wA.drawn+1} rfl,Result.andThen_ok,Nat.sub_self,Aba,Array.append_empty]at hev;have bX:∀ w:World,(newRow e (E++D)).run P w= .ok ⟨w.heap.size,0,none⟩ {w with heap:=w.heap.push (.cells (E++D) e)}:=λw=>rfl;simp only[bX,Result.andThen_ok,Sem.run_pure,N,if_false]at hev;have aO:=aT.append aI
   have U:(E++D).size=(l+n)*i.size:=by rw[Array.size_append,aU,aJ,Nat.add_mul]
   by_cases Y:AhF (at_ {wA with drawn:=wA.drawn+1,heap:=wA.heap.push (.cells (E++D) e)}) wA.heap.size=true
   rotate_left
   ·exfalso;rw[if_neg Y]at hev;cases hev
   have bL:∀ u∈(E++D).toList,u.oneCell'=true:=by
    unfold AhF at Y;simp only[at_,Array.getElem?_push_size]at Y;exact λu hu=>List.all_eq_true.1 Y u hu
   have aE:∀ (b':Option Addr) (c':Nat) (bG:s'= .slice b' l c'),¬l+n<=c'->∃m X,l+n<=m/\(append_ #[t,xt] ty #[s',x']).run P wB= .ok (.slice (some ⟨wB.heap.size,0,none⟩) (l+n) m) X/\
     X.heap=wB.heap.push (.cells (M++B++zeroCells z.cells (m-(l+n))) e)/\St wB X:=by
    intro b' c' bG bW;refine⟨(Question.appendCap (l+n) c' e).cut (wB.tape wB.drawn (.appendCap (l+n) c' e)),{wB with drawn:=wB.drawn+1,heap:=wB.heap.push _},?_,?_,rfl,⟨rfl,rfl,rfl⟩⟩
    ·simp[Question.cut]
    subst bG;rw[Hp (ty:=ty) (n:=n) wB hut hux hi hz R aF aM,if_neg bW];simp only[Sem.run_bind,run_choose,Question.forced,Bool.false_eq_true,if_false,Result.andThen_ok];rw[bE {wB with drawn:=wB.drawn+1} rfl];simp only[Result.andThen_ok];rw[aN {wB with drawn:=wB.drawn+1} rfl];rfl
   have cE:z.cells.size=i.size:=by
    rw[hz]at aQ
    simpa using aQ
   rw[if_pos Y]at hev
   have bD:∀ (w0:World) (b':Option Addr) (c' m:Nat) (X:World),WR P β w0 wB->w0.heap.size=wA.heap.size->l+n<=m->X.heap=wB.heap.push (.cells (M++B++zeroCells z.cells (m-(l+n))) e)->St wB X->
     (∀(i:Nat) (o:Obj),w0.heap[i]?=some o->live o=true->∃o2,wA.heap[i]?=some o2/\live o2=true)->∃β',Ext β wA.heap.size β'/\WR P β' {w0 with drawn:=wA.drawn+1,heap:=w0.heap.push (.cells (E++D) e)} X/\Fr β wA wB β' {w0 with drawn:=wA.drawn+1,heap:=w0.heap.push (.cells (E++D) e)} X/\VR β' (wA.heap.size+1) (.slice (some ⟨wA.heap.size,0,none⟩) (l+n) (l+n)) (.slice (some ⟨wB.heap.size,0,none⟩) (l+n) m):=by
    intro w0 b' c' m X aZ aK hm aP aA bU
    have aB:(M++B++zeroCells z.cells (m-(l+n))).size=m*i.size:=by
     rw[Array.size_append,aO.size,U];simp only[zeroCells,Array.size_map,Array.size_range,cE];rw[<-Nat.add_mul]
     congr 1
     omega
    refine⟨β.more wA.heap.size wB.heap.size (m*i.size) ((l+n)*i.size) i.size,Ren.ext_more _ _ _ _ _ _,?_,?_,?_⟩
    ·have r:=aZ.more (o:= .cells (E++D) e) (wB':=X) (b:=wB.heap.size) (size:=m*i.size) (k:=(l+n)*i.size) (z:=i.size) (λj x hx _=>by
      rw[aP,Array.getElem?_push,if_neg (by have:=(Array.getElem?_eq_some_iff.1 hx).1;omega)]
      exact hx) (λi y hy hl=>by have:=aZ.there hy hl;omega) (by
      rw[aK];refine⟨rfl,M++B++zeroCells z.cells (m-(l+n)),?_,?_,?_,?_,?_,λj x y hx hy=>?_⟩
      ·simp only[Ren.more,if_true];rw[aP,Array.getElem?_push_size]
      ·simp only[Ren.more,if_true];exact aB
      ·rw[aB,U];exact Nat.mul_le_mul_right _ hm
      ·simp only[Ren.more,if_true];exact U
      ·simp only[Ren.more,if_true];exact aC
      have hj:j<(E++D).size:=(Array.getElem?_eq_some_iff.1 hx).1;rw[Array.getElem?_append,if_pos (by rw[aO.size];exact hj)]at hy
      exact(aO.at_ j x y hx hy).ext (Ren.ext_more _ _ _ _ _ _) (by omega))
     rw[aK]at r
     exact⟨r.rel,r.inj,r.tape⟩
    ·refine⟨λj hj _=>?_,λq o aS hl=>?_,by rw[aP];simp,aA⟩
     ·rw[aP,Array.getElem?_push,if_neg (by omega)]
     rcases Bz aS with⟨A,h2⟩|A
     ·exact .inl (by simp[Ren.more,A,aK])
     obtain⟨o2,k1,k2⟩:=bU q o A hl
     have:q<wA.heap.size:=(Array.getElem?_eq_some_iff.1 k1).1
     exact .inr ⟨q,o2,k1,k2,by simp[Ren.more,show q≠wA.heap.size by omega]⟩
    have:=VR.slice (β:=β.more wA.heap.size wB.heap.size (m*i.size) ((l+n)*i.size) i.size) (n:=wA.heap.size+1) wA.heap.size 0 (l+n) (l+n) 0 m (by omega) hm (by simp[Ren.more]) (.inl rfl)
    simpa[Ren.more] using this
   cases hs with
   |nilSlice=>
    simp only[Option.some.injEq,Prod.mk.injEq]at hev;obtain⟨rfl,rfl⟩:=hev;obtain⟨m,X,A,h2,h3,h4⟩:=aE none 0 rfl N;obtain⟨β',k1,k2,kF,k3⟩:=bD wA none 0 m X hW rfl A h3 h4 (λi o h hl=>⟨o,h,hl⟩)
    exact⟨β',_,X,h2,k1,by simp,k2,kF,by simpa using k3⟩
   |slice b o _ _ o' c' hb hc aB ho=>
    simp only[Option.some.injEq,Prod.mk.injEq]at hev;obtain⟨rfl,rfl⟩:=hev;dsimp only at F
    cases O:wA.heap[b]? with
    |none=>simp[O]at F
    |some ob=>
     rw[O]at F
     cases ob<;>first|(simp at F;done)|skip
     rename_i cs e' fz
     simp only[Bool.and_eq_true,Bool.or_eq_true,beq_iff_eq,decide_eq_true_eq,bne_iff_ne]at F;obtain⟨⟨bO,cC⟩,aV⟩:=F;have aV:=aV.resolve_left N;subst bO;obtain⟨rfl,bM⟩:=aV;obtain⟨cF,aR,g1,g2,g3,g4,g5,g6⟩:=hW.rel b _ O
     have bY:o'=0:=by
      rcases ho with h|⟨A,h2,h3⟩
      ·exact h
      rcases bM with h|h
      ·exact absurd h2 h
      omega
     subst bY;have bB:=Ajc wA b (.cells (E++D) e) hb (wA.drawn+1);dsimp only at bB ⊢;rw[bB];have bA:=hW.kill b
     have J:(kill wA b).heap.size=wA.heap.size:=by simp[kill]
     by_cases aL:l+n<=c'
     ·
      have bI:β.z b=i.size:=by rw[<-g5,aC]
      have aD:(l+n)*i.size<=aR.size:=by
       rw[g2];rw[bI]at aB
       have:=Nat.mul_le_mul_right i.size aL
       omega
      have I:B.size=n*i.size:=by rw[aI.size,aJ]
      have aY:∀ v∈B.toList,v.oneCell'=true:=by
       intro v hv;obtain⟨j,hj,rfl⟩:=List.getElem_of_mem hv
       have bQ:j<D.size:=by rw[aJ,<-I];simpa using hj
       have hrel:=aI.at_ j D[j] B[j] (Array.getElem?_eq_getElem bQ) (Array.getElem?_eq_getElem _)
       have:=hrel.oneCell
       rw[Array.getElem_toList,this];exact bL _ (by simp)
      rw[Nat.add_mul]at aD;obtain⟨X,bJ,t1,t2,t3,t4,t5,t6,t7,t8⟩:=Qs (P:=P) (b:=β.b b) (o:=0+l*i.size) (e:=e) B.toList 0 wB aR g1 (by simp[I];omega) aY;refine⟨β.more wA.heap.size (β.b b) (β.size b) ((l+n)*i.size) i.size,.slice (some ⟨β.b b,0,none⟩) (l+n) c',X,?_,Ren.ext_more _ _ _ _ _ _,by simp[J],?_,?_,?_⟩
      ·rw[Hp (ty:=ty) (n:=n) wB hut hux hi hz R aF aM,if_pos aL];simp only[Sem.run_bind,aN wB rfl,Result.andThen_ok,Ik];rw[t1];rfl
      ·have r:=bA.more (o:= .cells (E++D) e) (wB':=X) (b:=β.b b) (size:=β.size b) (k:=(l+n)*i.size) (z:=i.size) (λj x hx ⟨q,y,hy,aH,hbq⟩=>by
        obtain⟨aW,aX⟩:=Rw hy aH;rw[t6 j (λe=>aW (hW.inj q b _ _ aX O aH rfl (by rw[hbq,e])))]
        exact hx) (λq y hy aH=>by
        obtain⟨aW,aX⟩:=Rw hy aH
        exact λe=>aW (hW.inj q b _ _ aX O aH rfl e)) (by
        rw[J];refine⟨rfl,bJ,?_,?_,?_,?_,?_,λj x y hx hy=>?_⟩
        ·simp only[Ren.more,if_true];exact t2
        ·simp only[Ren.more,if_true];rw[t3];exact g2
        ·rw[t3,U,Nat.add_mul];exact aD
        ·simp only[Ren.more,if_true];exact U
        ·simp only[Ren.more,if_true];exact aC
        have hj:j<(E++D).size:=(Array.getElem?_eq_some_iff.1 hx).1;refine VR.ext ?_ (Ren.ext_more _ _ _ _ _ _) (by omega)
        have cB:(M++B)[j]?=some y:=by
         rw[Array.getElem?_append];split
         ·rename_i hjl
          rw[aT.size,aU]at hjl;rw[t4 j (by omega)]at hy;have S:=bE wB rfl;have bT:=Oa (P:=P) (o:=0) (n:=l*i.size) g1 (by omega);have bP:firstCells i.size l (.slice (some ⟨β.b b,0,none⟩) l c')=loadCells ⟨β.b b,0,none⟩ (l*i.size):=rfl;rw[bP,bT]at S;injection S with S _
          have hle:l*i.size<=aR.size:=by omega
          rw[<-S,Array.getElem?_extract,if_pos (by simp;omega),Nat.zero_add];exact hy
         rename_i hjl
         rw[aT.size,aU]at hjl ⊢
         have:=t5 (j-l*i.size) (by rw[U,Nat.add_mul]at hj;simp[I];omega)
         rw[show 0+l*i.size+0+(j-l*i.size)=j by omega,hy]at this;rw[this]
         simp
        exact aO.at_ j x y hx cB)
       rw[J]at r
       exact⟨r.rel,r.inj,r.tape⟩
      ·refine⟨λj hj hn=>t6 j (λe=>hn b _ O rfl e.symm),λq o aS hl=>?_,by rw[t7];exact Nl _,t8⟩
       rcases Bz aS with⟨A,h2⟩|A
       ·exact .inr ⟨b,_,O,rfl,by simp[Ren.more,A,J]⟩
       obtain⟨_,k1⟩:=Rw A hl
       have:q<wA.heap.size:=(Array.getElem?_eq_some_iff.1 k1).1
       exact .inr ⟨q,o,k1,hl,by simp[Ren.more,show q≠wA.heap.size by omega]⟩
      have:=VR.slice (β:=β.more wA.heap.size (β.b b) (β.size b) ((l+n)*i.size) i.size) (n:=wA.heap.size+1) wA.heap.size 0 (l+n) (l+n) 0 c' (by omega) aL (by simp[Ren.more];rw[<-bI];omega) (.inl rfl)
      simpa[Ren.more,J] using this
     obtain⟨m,X,A,h2,h3,h4⟩:=aE (some ⟨β.b b,0,none⟩) c' rfl aL;obtain⟨β',k1,k2,kF,k3⟩:=bD (kill wA b) none 0 m X bA J A h3 h4 (λi o h hl=>⟨o,(Rw h hl).2,hl⟩)
     exact⟨β',_,X,h2,k1,by simp[J],k2,kF,by simpa[J] using k3⟩
variable {P:Program} {β:Ren} {wA wB:World} {α:Type}
theorem Sim.firstCells {x x':Value} (z n:Nat) (h:VR β wA.heap.size x x') (hn:∀ a l c,x= .slice a l c->n<=l):Sim P VRs β wA wB (Builtin.firstCells z n x) (Builtin.firstCells z n x'):=by
 cases h with
 |nilSlice=>exact Sim.pure (.empty _ _)
 |slice b o l c o' c' hb hc hs ho=>
  have D:=hn _ _ _ rfl
  by_cases B:l=0
  ·have y:n=0:=by omega
   subst y
   have p:∀ a:Addr,Builtin.firstCells z 0 (.slice (some a) l c)=(Pure.pure #[]:Sem (Array Value)):=λa=>by simp[Builtin.firstCells,Go.loadCells,Go.loadCellsFrom]
   have r:∀ a:Addr,Builtin.firstCells z 0 (.slice (some a) l c')=(Pure.pure #[]:Sem (Array Value)):=λa=>by simp[Builtin.firstCells,Go.loadCells,Go.loadCellsFrom]
   rw[p,r];exact Sim.pure (.empty _ _)
  have j:o'=o:=ho.resolve_right (λq=>B q.1);subst j;exact Sim.loadCells _ hb
 |string s=>exact Sim.pure (.same λx m=>by
   rw[Array.mem_map]at m;obtain⟨b,_,rfl⟩:=m
   exact .int _ _)
 |_=>exact Sim.stuck
theorem Yv (x:Value):Hx P (lenOf x):=by
 unfold lenOf;split
 ·exact Dg _
 ·exact Dg _
 exact Ck _
theorem AaC {β:Ren} {n:Nat} {x x':Value} (h:VR β n x x'):lenOf x'=lenOf x:=by cases h<;>rfl
def Abs:Value->Bool
 | .slice none 0 0=>true
 | .slice (some _) l _=>l != 0
 |_=>false
theorem Sim.copy {d d' s s':Value} (t xt ty:TypeId) (hok:Abs d=true) (hd:VR β wA.heap.size d d') (hs:VR β wA.heap.size s s'):Sim P VR β wA wB (copy_ #[t,xt] ty #[d,s]) (copy_ #[t,xt] ty #[d',s']):=by
 unfold copy_;simp only[List.getElem?_toArray,List.getElem?_cons_zero,List.getElem?_cons_succ];refine Sim.bind (Sim.still (Ay t)) λβ1 wA1 wB1 q q' he hsz hq=>?_;cases hq;have r:=hd.ext he hsz;have j:=hs.ext he hsz
 cases q with
 |slice e=>
  dsimp only
  cases r with
  |nilSlice=>
   dsimp only;rw[AaC j];refine Sim.bind (Sim.still' (Yv s)) λβ2 wA2 wB2 n n' he2 hsz2 m=>?_;obtain⟨rfl,m⟩:=m;refine Sim.bind (Sim.still (Bo e)) λβ3 wA3 wB3 z z' he3 hsz3 hz=>?_;cases hz;refine Sim.bind (Sim.firstCells _ _ ((j.ext he2 hsz2).ext he3 hsz3) ?_) λβ4 wA4 wB4 c c' he4 hsz4 hc=>?_
   ·intro a l c y;subst y
    have:=m wA
    simp[lenOf]at this;subst this;exact Nat.min_le_left _ _
   exact Sim.pure (.int _ _)
  |slice b o l c o' c' hb hc hz ho=>
   have h:l≠0:=by simpa[Abs] using hok
   have x:o'=o:=ho.resolve_right (λq=>h q.1);subst x;dsimp only;rw[AaC j];refine Sim.bind (Sim.still' (Yv s)) λβ2 wA2 wB2 n n' he2 hsz2 m=>?_;obtain⟨rfl,m⟩:=m;refine Sim.bind (Sim.still (Bo e)) λβ3 wA3 wB3 z z' he3 hsz3 hz=>?_;cases hz;refine Sim.bind (Sim.firstCells _ _ ((j.ext he2 hsz2).ext he3 hsz3) ?_) λβ4 wA4 wB4 c c' he4 hsz4 hc=>?_
   ·intro a l c y;subst y
    have:=m wA
    simp[lenOf]at this;subst this;exact Nat.min_le_left _ _
   have p:β1.b b=β4.b b:=by rw[he4.b b (by omega),he3.b b (by omega),he2.b b hb]
   rw[p];refine Sim.bind (Sim.storeCells _ _ 0 β4 wA4 wB4 (by omega) (by simpa using hc)) λβ5 wA5 wB5 u u' he5 hsz5 hu=>?_;exact Sim.pure (.int _ _)
  |_=>simp[Abs]at hok
 |_=>exact Sim.stuck
structure MR (β:Ren) (n:Nat) (es es':Array MapEntry):Prop where
 size:es'.size=es.size
 at_:∀ (j:Nat) (x y:MapEntry),es[j]?=some x->es'[j]?=some y->y.key=x.key/\y.born=x.born/\flat 8 x.key=true/\VR β n x.val y.val
theorem WR.map (hW:WR P β wA wB) {r:Nat} {es:Array MapEntry} {clk:Nat} (h:wA.heap[r]?=some (.map es clk)):∃ j,wB.heap[β.b r]?=some (.map j clk)/\MR β wA.heap.size es j:=by
 obtain⟨j,l,h2,m⟩:=hW.rel r _ h
 exact⟨j,l,h2,m⟩
theorem Ii {w:World} {r:Nat} {es:Array MapEntry} {clk:Nat} (h:w.heap[r]?=some (.map es clk)):(getObj r).run P w= .ok (.map es clk) w:=by
 simp[getObj,Sem.run,h]
theorem AaB {w:World} {r:Nat} {es:Array MapEntry} {clk:Nat} (h:w.heap[r]?=some (.map es clk)) (o:Obj):(setObj r o).run P w= .ok () {w with heap:=w.heap.setIfInBounds r o}:=by
 simp[setObj,Sem.run,h]
theorem WR.setMap (hW:WR P β wA wB) {r:Nat} {es es2 es2':Array MapEntry} {clk c2:Nat} (h:wA.heap[r]?=some (.map es clk)) (hm:MR β wA.heap.size es2 es2'):
  WR P β {wA with heap:=wA.heap.setIfInBounds r (.map es2 c2)} {wB with heap:=wB.heap.setIfInBounds (β.b r) (.map es2' c2)}:=by
 have E:=(Array.getElem?_eq_some_iff.1 h).1;obtain⟨S,U,_⟩:=hW.map h;have m:=(Array.getElem?_eq_some_iff.1 U).1
 have p:∀ (i:Nat) (o:Obj),(wA.heap.setIfInBounds r (.map es2 c2))[i]?=some o->(i=r/\o= .map es2 c2)∨(i≠r/\wA.heap[i]?=some o):=by
  intro i o l;rw[Array.getElem?_setIfInBounds]at l
  split at l
  ·rename_i e
   have l:some (Obj.map es2 c2)=some o:=by
    first|exact l|(rw[if_pos E]at l;exact l)
   cases l;exact .inl ⟨e.symm,rfl⟩
  rename_i e
  exact .inr ⟨λq=>e q.symm,l⟩
 have z:∀ (i:Nat) (o:Obj),(wA.heap.setIfInBounds r (.map es2 c2))[i]?=some o->live o=true->∃o2,wA.heap[i]?=some o2/\live o2=true:=by
  intro i o l F
  rcases p i o l with⟨rfl,rfl⟩|⟨_,h2⟩
  ·exact⟨_,h,rfl⟩
  exact⟨o,h2,F⟩
 refine⟨λi o l=>?_,λi j x y N hy I J X=>?_,hW.tape⟩
 ·simp only[Array.size_setIfInBounds]
  rcases p i o l with⟨rfl,rfl⟩|⟨hi,h2⟩
  ·refine⟨es2',?_,hm.size,hm.at_⟩;simp[Array.getElem?_setIfInBounds,m]
  have M:=hW.rel i o h2
  by_cases F:live o=true
  ·refine M.ext (.refl _ _) (Array.getElem?_eq_some_iff.1 h2).1 (Nl _) λx N=>?_;simp only[Array.getElem?_setIfInBounds];rw[if_neg (λe=>hi (hW.inj r i _ _ h h2 rfl F e).symm)];exact N
  cases o<;>first|(simp[live]at F;done)|(simp only[BR]at M ⊢;(try (split at M<;>simp_all)))
 obtain⟨Y,O,B⟩:=z i x N I;obtain⟨Z,R,D⟩:=z j y hy J;exact hW.inj i j Y Z O R B D X
theorem Pe {β:Ren} {n:Nat} {d:TypeDesc} {k:Value}:∀ (es es':List MapEntry) (i:Nat),es'.length=es.length->(∀(j:Nat) (x y:MapEntry),es[j]?=some x->es'[j]?=some y->y.key=x.key/\VR β n x.val y.val)->
  (findNow d k es i=none->True)/\(findNow d k es i=some none->findNow d k es' i=some none)/\(∀j v,findNow d k es i=some (some (j,v))->∃v',findNow d k es' i=some (some (j,v'))/\VR β n v v'/\j<i+es.length)
 | [],[],i,_,_=>⟨λ_=>trivial,λh=>h,λj v h=>by simp[findNow]at h⟩
 | [],_::_,i,h,_=>by simp at h
 |_::_,[],i,h,_=>by simp at h
 |e::es,e'::es',i,h,hp=>by
  obtain⟨m,p⟩:=hp 0 e e' rfl rfl;unfold findNow;rw[m];obtain⟨r,h2,l⟩:=Pe (β:=β) (n:=n) (d:=d) (k:=k) es es' (i+1) (by simpa using h) (λj x y q hy=>hp (j+1) x y (by simpa using q) (by simpa using hy))
  cases z:sameNow d k e.key with
  |none=>exact⟨λ_=>trivial,λh=>by simp at h,λj v h=>by simp at h⟩
  |some b=>
   cases b
   ·refine⟨λ_=>trivial,λh=>h2 h,λj v h=>?_⟩;obtain⟨v',a,b,c⟩:=l j v h
    exact⟨v',a,b,by simp;omega⟩
   refine⟨λ_=>trivial,λh=>by simp at h,λj v h=>?_⟩;simp only[Option.some.injEq,Prod.mk.injEq]at h;obtain⟨rfl,rfl⟩:=h
   exact⟨e'.val,rfl,p,by simp⟩
def plainKey:TypeDesc->Value->Bool
 | .int _,.int _ _| .string,.string _| .bool,.bool _=>true
 |_,_=>false
theorem Qv {K:TypeId} {d:TypeDesc} {k:Value} (hK:P.underlying K=some d) (hp:plainKey d k=true) (b:Bool) (w:World):(checkKey b 10000 K k).run P w= .ok () w:=by
 unfold checkKey;rw[Sem.run_bind,run_underlying hK];simp only[Result.andThen_ok]
 cases d<;>cases k<;>first|(simp[plainKey]at hp;done)|rfl
theorem Uf {K:TypeId} {d:TypeDesc} {k:Value} {es:List MapEntry} {r:Option (Nat×Value)} (hK:P.underlying K=some d) (h:findNow d k es 0=some r) (w:World):(findKey K k es).run P w= .ok r w:=by
 unfold findKey;rw[Sem.run_bind,run_underlying hK];simp only[Result.andThen_ok,h];rfl
def Aae (P:Program) (h:Nat->Option Obj) (t:TypeId) (m k:Value):Bool:=
 match P.underlying t with
 |some (.map K E)=>Gu P E&&match P.underlying K with
  |some d=>plainKey d k&&match m with
   | .map none=>true
   | .map (some r)=>match h r with
    |some (.map es _)=>(findNow d k es.toList 0).isSome
    |_=>false
   |_=>false
  |none=>false
 |_=>false
def told (ok:Bool) (z:Value):Option (Nat×Value)->Value
 |some (_,v)=>if ok then .tuple #[v,.bool true] else v
 |none=>if ok then .tuple #[z,.bool false] else z
theorem Hs {t K E:TypeId} {d:TypeDesc} {k z:Value} {ok:Bool} {m:Option Nat} {es:Array MapEntry} {r:Option (Nat×Value)} (w:World) (ht:P.underlying t=some (.map K E)) (hK:P.underlying K=some d) (hp:plainKey d k=true) (hz:∀ w,(zeroValue E).run P w= .ok z w)
  (hm:(m=none/\es= #[])∨∃q l,m=some q/\w.heap[q]?=some (.map es l)) (hf:findNow d k es.toList 0=some r):(lookup t (.map m) k ok).run P w= .ok (told ok z r) w:=by
 unfold lookup;rw[Sem.run_bind,run_underlying ht];simp only[Result.andThen_ok]
 rcases hm with⟨rfl,rfl⟩|⟨q,l,rfl,p⟩
 ·simp only[pure_bind,Sem.run_bind,Qv hK hp,Result.andThen_ok,Uf hK hf]
  cases r with
  |none=>simp only[Sem.run_bind,hz,Result.andThen_ok,pure_bind,Sem.run_pure];cases ok<;>rfl
  |some q=>obtain⟨j,v⟩:=q;simp only[pure_bind,Sem.run_pure];cases ok<;>rfl
 simp only[Sem.run_bind,Ii p,Result.andThen_ok,pure_bind,Qv hK hp,Uf hK hf]
 cases r with
 |none=>simp only[Sem.run_bind,hz,Result.andThen_ok,pure_bind,Sem.run_pure];cases ok<;>rfl
 |some q=>obtain⟨j,v⟩:=q;simp only[pure_bind,Sem.run_pure];cases ok<;>rfl
variable {P:Program} {β:Ren} {wA wB:World} {α:Type}
theorem AeX {d:TypeDesc} {k k':Value} {n:Nat} (h:plainKey d k=true) (hk:VR β n k k'):k'=k/\flat 8 k=true:=by
 cases hk<;>first|exact⟨rfl,rfl⟩|(cases d<;>simp[plainKey]at h)
theorem AmB {t:TypeId} (h:Gu P t=true):∃ z,(∀w,(zeroValue t).run P w= .ok z w)/\flat 8 z=true:=by
 unfold Gu at h
 cases hi:P.info? t with
 |none=>simp[hi]at h
 |some i=>
  rw[hi]at h
  cases j:i.zero with
  |none=>simp[j]at h
  |some z=>
   refine⟨z,λw=>by simp[zeroValue,typeInfo,hi,j],by simpa[j] using h⟩
theorem Aau {t:TypeId} {m m' k k' v:Value} {ok:Bool} {wA':World} (hW:WR P β wA wB) (hm:VR β wA.heap.size m m') (hk:VR β wA.heap.size k k') (l:Aae P (at_ wA) t m k=true) (hr:(lookup t m k ok).run P wA= .ok v wA'):
  wA'=wA/\∃v',(lookup t m' k' ok).run P wB= .ok v' wB/\VR β wA.heap.size v v':=by
 unfold Aae at l
 split at l
 case h_2=>cases l
 rename_i K E hut
 simp only[Bool.and_eq_true]at l;obtain⟨R,l⟩:=l;obtain⟨z,I,J⟩:=AmB R
 split at l
 case h_2=>cases l
 rename_i d hK
 simp only[Bool.and_eq_true]at l;obtain⟨B,l⟩:=l;obtain⟨rfl,Z⟩:=AeX B hk
 have p:∀ (r M:Option (Nat×Value)),((r=none/\M=none)∨∃j u D,r=some (j,u)/\M=some (j,D)/\VR β wA.heap.size u D)->VR β wA.heap.size (told ok z r) (told ok z M):=by
  rintro r M (⟨rfl,rfl⟩|⟨j,u,D,rfl,rfl,X⟩)
  ·unfold told;cases ok
   ·exact Dt 8 z J
   exact .toTuple (((VRs.empty _ _).push (Dt 8 z J)).push (.bool _))
  unfold told;cases ok
  ·exact X
  exact .toTuple (((VRs.empty _ _).push X).push (.bool _))
 cases hm with
 |nilMap=>
  have N:=Hs (z:=z) (ok:=ok) (m:=none) (es:= #[]) (r:=none) wA hut hK B I (.inl ⟨rfl,rfl⟩) rfl;have Y:=Hs (z:=z) (ok:=ok) (m:=none) (es:= #[]) (r:=none) wB hut hK B I (.inl ⟨rfl,rfl⟩) rfl;rw[N]at hr;cases hr
  exact⟨rfl,_,Y,p _ _ (.inl ⟨rfl,rfl⟩)⟩
 |map r hrn=>
  simp only[at_]at l
  split at l
  case h_2=>cases l
  rename_i es clk hob
  obtain⟨h,S,U⟩:=hW.map hob;obtain⟨q,O⟩:=Option.isSome_iff_exists.1 l
  have F:=Pe (β:=β) (n:=wA.heap.size) (d:=d) (k:=k') es.toList h.toList 0 (by simpa using U.size) (λj x y A hy=>by
   obtain⟨a,_,_,b⟩:=U.at_ j x y (by simpa using A) (by simpa using hy)
   exact⟨a,b⟩)
  have N:=Hs (z:=z) (ok:=ok) (m:=some r) (es:=es) (r:=q) wA hut hK B I (.inr ⟨r,clk,rfl,hob⟩) O;rw[N]at hr;cases hr
  cases q with
  |none=>exact⟨rfl,_,Hs (z:=z) (ok:=ok) (m:=some (β.b r)) (es:=h) (r:=none) wB hut hK B I (.inr ⟨_,clk,rfl,S⟩) (F.2.1 O),p _ _ (.inl ⟨rfl,rfl⟩)⟩
  |some q=>
   obtain⟨j,u⟩:=q;obtain⟨D,k1,k2,_⟩:=F.2.2 j u O
   exact⟨rfl,_,Hs (z:=z) (ok:=ok) (m:=some (β.b r)) (es:=h) (r:=some (j,D)) wB hut hK B I (.inr ⟨_,clk,rfl,S⟩) k1,p _ _ (.inr ⟨j,u,D,rfl,rfl,k2⟩)⟩
 |_=>cases l
def Ach (P:Program) (h:Nat->Option Obj) (t:TypeId) (m k:Value):Bool:=
 match P.underlying t with
 |some (.map K E)=>match P.underlying K with
  |some d=>plainKey d k&&match m with
   | .map (some r)=>match h r with
    |some (.map es _)=>match findNow d k es.toList 0 with
     |some (some (i,_))=>sameBits 10000 (((es[i]?).map (·.key)).getD k) k
     |some none=>true
     |none=>false
    |_=>false
   |_=>false
  |none=>false
 |_=>false
theorem Kf {t K E:TypeId} {d:TypeDesc} {k v:Value} {r clk:Nat} {es:Array MapEntry} {q:Option (Nat×Value)} (w:World) (ht:P.underlying t=some (.map K E)) (hK:P.underlying K=some d) (hp:plainKey d k=true) (hm:w.heap[r]?=some (.map es clk)) (hf:findNow d k es.toList 0=some q)
  (hs:∀ i u,q=some (i,u)->sameBits 10000 (((es[i]?).map (·.key)).getD k) k=true):(mapUpdate t (.map (some r)) k v).run P w= .ok () {w with heap:=w.heap.setIfInBounds r (match q with
   |some (i,_)=> .map (es.modify i λe=>{e with key:=k,val:=v}) clk
   |none=> .map (es.push {key:=k,val:=v,born:=clk}) (clk+1))}:=by
 unfold mapUpdate;rw[Sem.run_bind,run_underlying ht];simp only[Result.andThen_ok,Sem.run_bind,Ii hm,Qv hK hp,Uf hK hf]
 cases q with
 |none=>exact AaB hm _
 |some p=>
  obtain⟨i,u⟩:=p
  have:=hs i u rfl
  simp only[Sem.run_bind,keyThatStays];rw[if_pos this];exact AaB hm _
theorem Acv {r clk:Nat} {es:Array MapEntry} (h:wA.heap[r]?=some (.map es clk)) (oA oB:Obj):Fr β wA wB β {wA with heap:=wA.heap.setIfInBounds r oA} {wB with heap:=wB.heap.setIfInBounds (β.b r) oB}:=by
 refine⟨λj p m=>?_,λi o hi l=>?_,by simp,⟨rfl,rfl,rfl⟩⟩
 ·simp only[Array.getElem?_setIfInBounds];rw[if_neg (m r _ h rfl)]
 simp only[Array.getElem?_setIfInBounds]at hi
 split at hi
 ·rename_i e
  subst e;exact .inr ⟨r,_,h,rfl,rfl⟩
 exact .inr ⟨i,o,hi,l,rfl⟩
theorem Aad {t:TypeId} {m m' k k' v v':Value} {wA':World} (hW:WR P β wA wB) (hm:VR β wA.heap.size m m') (hk:VR β wA.heap.size k k') (hv:VR β wA.heap.size v v') (l:Ach P (at_ wA) t m k=true) (hr:(mapUpdate t m k v).run P wA= .ok () wA'):
  ∃wB',(mapUpdate t m' k' v').run P wB= .ok () wB'/\wA'.heap.size=wA.heap.size/\WR P β wA' wB'/\Fr β wA wB β wA' wB':=by
 unfold Ach at l
 split at l
 case h_2=>cases l
 rename_i K E hut
 split at l
 case h_2=>cases l
 rename_i d hK
 simp only[Bool.and_eq_true]at l;obtain⟨S,l⟩:=l;obtain⟨rfl,O⟩:=AeX S hk
 cases hm with
 |map r hrn=>
  simp only[at_]at l
  split at l
  case h_2=>cases l
  rename_i es clk hob
  obtain⟨B,U,D⟩:=hW.map hob
  have M:=Pe (β:=β) (n:=wA.heap.size) (d:=d) (k:=k') es.toList B.toList 0 (by simpa using D.size) (λj x y z hy=>by
   obtain⟨a,_,_,b⟩:=D.at_ j x y (by simpa using z) (by simpa using hy)
   exact⟨a,b⟩)
  cases J:findNow d k' es.toList 0 with
  |none=>rw[J]at l;cases l
  |some q=>
   rw[J]at l
   cases q with
   |none=>
    rw[Kf wA hut hK S hob J (λi u h=>by cases h)]at hr;cases hr;refine⟨_,Kf wB hut hK S U (M.2.1 J) (λi u h=>by cases h),by simp,?_,Acv hob _ _⟩;refine hW.setMap hob ⟨by simp[D.size],λj x y z hy=>?_⟩;rw[Array.getElem?_push]at z hy;rw[D.size]at hy
    split at z
    ·rename_i hj
     rw[if_pos hj]at hy
     cases z;cases hy
     exact⟨rfl,rfl,O,hv⟩
    rename_i hj
    rw[if_neg hj]at hy;exact D.at_ j x y z hy
   |some p=>
    obtain⟨i,u⟩:=p;dsimp only at l;obtain⟨u',Y,k2,Z⟩:=M.2.2 i u J;rw[Kf wA hut hK S hob J (λX A h=>by cases h;exact l)]at hr;cases hr
    have hi:i<es.size:=by simpa using Z
    have N:i<B.size:=by rw[D.size];exact hi
    have R:sameBits 10000 (((B[i]?).map (·.key)).getD k') k'=true:=by
     have:=(D.at_ i es[i] B[i] (Array.getElem?_eq_getElem hi) (Array.getElem?_eq_getElem N)).1
     rw[Array.getElem?_eq_getElem hi]at l;rw[Array.getElem?_eq_getElem N];simp only[Option.map_some,Option.getD_some]at l ⊢;rw[this];exact l
    refine⟨_,Kf wB hut hK S U Y (λX A h=>by cases h;exact R),by simp,?_,Acv hob _ _⟩;refine hW.setMap hob ⟨by simp[D.size],λj x y z hy=>?_⟩;rw[Array.getElem?_modify]at z hy
    split at z
    ·rename_i hj
     rw[if_pos hj]at hy
     cases F:es[j]? with
     |none=>rw[F]at z;cases z
     |some x0=>
      cases I:B[j]? with
      |none=>rw[I]at hy;cases hy
      |some y0=>
       rw[F]at z;rw[I]at hy
       cases z;cases hy
       obtain⟨a,b,c,d⟩:=D.at_ j x0 y0 F I
       exact⟨rfl,b,O,hv⟩
    rename_i hj
    rw[if_neg hj]at hy;exact D.at_ j x y z hy
 |_=>cases l
theorem AmR {t ty:TypeId} {x x' v:Value} {wA':World} (hW:WR P β wA wB) (hx:VR β wA.heap.size x x') (hr:(len_ #[t] ty #[x]).run P wA= .ok v wA'):wA'=wA/\(len_ #[t] ty #[x']).run P wB= .ok v wB/\flat 8 v=true:=by
 unfold len_ at hr ⊢;simp only[List.getElem?_toArray,List.getElem?_cons_zero,List.getElem?_cons_succ]at hr ⊢;rw[Sem.run_bind]at hr ⊢
 cases p:(underlying t).run P wA with
 |halt a b=>rw[p]at hr;cases hr
 |ok d w1=>
  rw[p]at hr;obtain⟨rfl,q⟩:=Ay t _ _ _ p;rw[q];simp only[Result.andThen_ok]at hr ⊢
  cases hx with
  |map r hrn=>
   cases d<;>first|(exact absurd hr (Er _ _ _ _))|skip
   ·rename_i arr
    simp only[Sem.run_bind]at hr ⊢
    cases j:(underlying arr).run P w1 with
    |halt a b=>rw[j]at hr;cases hr
    |ok d2 w2=>
     rw[j]at hr;obtain⟨rfl,l⟩:=Ay arr _ _ _ j;rw[l];simp only[Result.andThen_ok]at hr ⊢
     cases d2<;>first|(exact absurd hr (Er _ _ _ _))|(cases hr;exact⟨rfl,rfl,rfl⟩)
   ·cases hr;exact⟨rfl,rfl,rfl⟩
   simp only[Sem.run_bind]at hr ⊢;obtain⟨ob,m⟩:∃ ob,w1.heap[r]?=some ob:=⟨_,Array.getElem?_eq_getElem hrn⟩
   cases ob with
   |map es clk=>
    obtain⟨y,z,h⟩:=hW.map m;rw[Ii m]at hr;rw[Ii z];simp only[Result.andThen_ok]at hr ⊢;cases hr
    exact⟨rfl,by rw[h.size];rfl,rfl⟩
   |cells c e f=>simp[getObj,Sem.run,m]at hr
   |_=>simp[getObj,Sem.run,m]at hr
  |_=>
   cases d<;>first
    |(exact absurd hr (Er _ _ _ _))
    |(cases hr;exact⟨rfl,rfl,rfl⟩)
    |(rename_i arr
      simp only[Sem.run_bind]at hr ⊢
      cases j:(underlying arr).run P w1 with
      |halt a b=>rw[j]at hr;cases hr
      |ok d2 w2=>
       rw[j]at hr;obtain⟨rfl,l⟩:=Ay arr _ _ _ j;rw[l];simp only[Result.andThen_ok]at hr ⊢
       cases d2<;>first|(exact absurd hr (Er _ _ _ _))|(cases hr;exact⟨rfl,rfl,rfl⟩))
variable {P:Program} {β:Ren} {wA wB:World} {α:Type}
def Md (P:Program) (e:Sem Value) (w:World):Option (Value×World):=
 match e.run P w with
 | .ok v w'=>some (v,w')
 |_=>none
def AdJ (P:Program) (e:Sem Unit) (w:World):Option (Value×World):=
 match e.run P w with
 | .ok () w'=>some (undef,w')
 |_=>none
def Po (P:Program) (e:Sem Value) (w:World):Option (Value×World):=
 match Hf P e with
 |some v=>if flat 8 v then some (v,w) else none
 |none=>none
def AhH (op:BinOp) (d:Option TypeDesc) (x y:Value):Option Bool:=
 match op,d,x,y with
 | .eql,some (.pointer _),.pointer (some _),.pointer none=>some false
 | .neq,some (.pointer _),.pointer (some _),.pointer none=>some true
 | .eql,some (.slice _),.slice (some _) _ _,.slice none _ _=>some false
 | .neq,some (.slice _),.slice (some _) _ _,.slice none _ _=>some true
 | .eql,some (.func _ _ _),.func _ _ _,.nilFunc=>some false
 | .neq,some (.func _ _ _),.func _ _ _,.nilFunc=>some true
 | .eql,some (.map _ _),.map (some _),.map none=>some false
 | .neq,some (.map _ _),.map (some _),.map none=>some true
 |_,_,_,_=>none
def Xc (P:Program) (t:TypeId):Bool:=
 match P.underlying t with
 |some (.slice e)=>Gu P e
 |_=>false
def Px (ρ:Operand->Value):Option Operand->Bool
 |none=>true
 |some x=>flat 8 (ρ x)
def Ais (P:Program) (o:Oper) (ρ:Operand->Value) (w:World):Option (Value×World):=
 match o.op with
 | .move x=>some (ρ x,w)
 | .assign x=>some (ρ x,w)
 | .pick c x y=>match ρ c with
  | .bool true=>some (ρ x,w)
  | .bool false=>some (ρ y,w)
  |_=>none
 | .alloc t=>if Gu P t then Md P (Instr.alloc t true (.tuple #[])) w else none
 | .box t x=>Md P (Instr.box t (ρ x)) w
 | .build t ps=>if Gu P t then Md P (Instr.build t (ps.map λ(i,x)=>(i,ρ x))) w else none
 | .buildSlice t sz ps=>if Xc P t then Md P (Instr.buildSlice t sz (ps.map λ(i,x)=>(i,ρ x))) w else none
 | .load t x=>Md P (Instr.loadAt t (ρ x)) w
 | .store t x y=>AdJ P (Instr.storeAt t (ρ x) (ρ y)) w
 | .nilCheck x=>match ρ x with
  | .pointer (some a)=>some (.pointer (some a),w)
  | .func (.func f) fs cs=>some (.func (.func f) fs cs,w)
  |_=>none
 | .binOp op t x y _=>if flat 8 (ρ x)&&flat 8 (ρ y) then Po P (do eqGuard op t x y (ρ x) (ρ y);binOp op t (ρ x) (ρ y)) w else
  match AhH op (P.underlying t) (ρ x) (ρ y) with
  |some b=>some (.bool b,w)
  |none=>none
 | .unOp op _ x=>if flat 8 (ρ x) then Po P (Op.unary op (ρ x)) w else none
 | .convert src dst x=>if flat 8 (ρ x) then Po P (convert src dst (ρ x)) w else none
 | .makeInterface t x=>Md P (Instr.makeInterface t (ρ x)) w
 | .makeFunc (.func fn) fs cs=>Md P (Instr.makeFunc (.func fn) (fs.map ρ) (cs.map ρ)) w
 | .makeMap t none=>Md P (Instr.makeMap t none) w
 | .makeSlice t l c=>match ρ l,ρ c with
  | .int k x,.int k' y=>if Xc P t then Md P (Instr.makeSlice t (.int k x) (.int k' y)) w else none
  |_,_=>none
 | .slice t x lo hi none=>if flat 8 (ρ x)&&Px ρ lo&&Px ρ hi then Po P (Instr.sliceAt t (ρ x) (lo.map ρ) (hi.map ρ) none) w
  else if Abw P (at_ w) t (ρ x)&&Px ρ lo&&Px ρ hi then Md P (Instr.slice t (ρ x) (lo.map ρ) (hi.map ρ) none) w else none
 | .fieldAddr s x f=>if Zr P s f then Md P (Instr.fieldAt s (ρ x) f) w else none
 | .field t x f=>Md P (Instr.field t (ρ x) f) w
 | .indexAddr t x i=>Md P (Instr.indexAt t (ρ x) (ρ i)) w
 | .index t x i=>if flat 8 (ρ x)&&flat 8 (ρ i) then Po P (Instr.index t (ρ x) (ρ i)) w else none
 | .lookup t m k ok=>if Aae P (at_ w) t (ρ m) (ρ k) then Md P (Instr.lookup t (ρ m) (ρ k) ok) w else none
 | .mapUpdate t m k x=>if Ach P (at_ w) t (ρ m) (ρ k) then AdJ P (Instr.mapUpdate t (ρ m) (ρ k) (ρ x)) w else none
 | .insert t m k x=>if Ach P (at_ w) t (ρ m) (ρ k) then AdJ P (Instr.mapUpdate t (ρ m) (ρ k) (ρ x)) w else none
 | .extract x i=>Md P (Instr.extract (ρ x) i) w
 | .call c=>match c.callee with
  | .builtin .append=>if c.args.size=2/\c.argTypes.size=2 then Rh P (c.argTypes.getD 0 0) (c.argTypes.getD 1 0) o.type (ρ (c.args.getD 0 (.func 0))) (ρ (c.args.getD 1 (.func 0))) w else none
  | .builtin .copy=>if c.args.size=2/\c.argTypes.size=2/\Abs (ρ (c.args.getD 0 (.func 0)))=true then Md P (copy_ #[c.argTypes.getD 0 0,c.argTypes.getD 1 0] o.type #[ρ (c.args.getD 0 (.func 0)),ρ (c.args.getD 1 (.func 0))]) w else none
  | .builtin .len=>if c.args.size=1/\c.argTypes.size=1 then Md P (len_ #[c.argTypes.getD 0 0] o.type #[ρ (c.args.getD 0 (.func 0))]) w else none
  |_=>if c.operands.all (λx=>flat 8 (ρ x)) then
    match Hf P (execOp ρ o) with
    |some (.value v)=>if flat 8 v then some (v,w) else none
    |_=>none
   else none
 |_=>none
def Goes (P:Program) (β:Ren) (wA wB:World) (e:Sem Next) (v:Value) (wA':World):Prop:=
 ∃β' v' wB',(e.run P wB= .ok (.value v') wB'∨(e.run P wB= .ok .skip wB'/\v'=undef))/\Ext β wA.heap.size β'/\wA.heap.size<=wA'.heap.size/\WR P β' wA' wB'/\Fr β wA wB β' wA' wB'/\VR β' wA'.heap.size v v'
theorem Ek {e:Sem Next} {v v':Value} (hW:WR P β wA wB) (hr:e.run P wB= .ok (.value v') wB) (h:VR β wA.heap.size v v'):Goes P β wA wB e v wA:=
 ⟨β,v',wB,.inl hr,.refl _ _,Nl _,hW,.refl _ _ _,h⟩
theorem Dj {eA eB:Sem Value} {v:Value} {wA':World} (hW:WR P β wA wB) (hr:Md P eA wA=some (v,wA')) (hs:Sim P VR β wA wB eA eB):Goes P β wA wB (do Pure.pure (.value (<-eB))) v wA':=by
 unfold Md at hr
 cases h:eA.run P wA with
 |halt a b=>rw[h]at hr;cases hr
 |ok u w=>
  rw[h]at hr;cases hr;obtain⟨β',v',wB',j,h2,l,m,q,p⟩:=hs hW _ _ h
  exact⟨β',v',wB',.inl (by rw[Sem.run_bind,j];rfl),h2,l,m,q,p⟩
theorem AjR {eA eB:Sem Unit} {v:Value} {wA':World} (hW:WR P β wA wB) (hr:AdJ P eA wA=some (v,wA')) (hs:Sim P EqR β wA wB eA eB):Goes P β wA wB (do eB;Pure.pure .skip) v wA':=by
 unfold AdJ at hr
 cases h:eA.run P wA with
 |halt a b=>rw[h]at hr;cases hr
 |ok u w=>
  rw[h]at hr;cases hr;obtain⟨β',v',wB',j,h2,l,m,p,q⟩:=hs hW _ _ h
  exact⟨β',undef,wB',.inr ⟨by rw[Sem.run_bind,j];rfl,rfl⟩,h2,l,m,p,.toTuple (.empty _ _)⟩
theorem Mq {e:Sem Value} {v:Value} {wA':World} (hW:WR P β wA wB) (hr:Po P e wA=some (v,wA')):Goes P β wA wB (do Pure.pure (.value (<-e))) v wA':=by
 unfold Po at hr
 cases h:Hf P e with
 |none=>rw[h]at hr;cases hr
 |some u=>
  rw[h]at hr;dsimp only at hr
  split at hr
  ·rename_i hf
   cases hr;exact Ek hW (by rw[Sem.run_bind,Xr h];rfl) (Dt 8 _ hf)
  cases hr
theorem flatAll {n:Nat} {ρ ρ':Operand->Value} {l:List Operand} (h:∀ x∈l,VR β n (ρ x) (ρ' x)) (hf:l.all (λx=>flat 8 (ρ x))=true):∀ x∈l,ρ' x=ρ x:=
 λx j=>Kh 8 _ _ (List.all_eq_true.1 hf x j) (h x j)
theorem AbT {t:TypeId} {x x':Value} {lo hi:Option Value} (hok:Abw P (at_ wA) t x=true) (w:World):(sliceAt t x' lo hi none).run P w=(Instr.slice t x' lo hi none).run P w:=by
 have j:∃ e,P.underlying t=some (.slice e):=by
  unfold Abw at hok
  split at hok
  ·split at hok
   ·exact⟨_,by assumption⟩
   cases hok
  ·split at hok
   ·exact⟨_,by assumption⟩
   cases hok
  cases hok
 obtain⟨e,j⟩:=j;unfold Instr.sliceAt;rw[Sem.run_bind,run_underlying j];rfl
theorem Sd {t:TypeId} {d:TypeDesc} {x y:Value} (hu:P.underlying t=some d) (w:World) (h:(∃e a,d= .pointer e/\x= .pointer (some a)/\y= .pointer none)∨(∃e a l c p c',d= .slice e/\x= .slice (some a) l c/\y= .slice none p c')∨
  (∃a b v f m j,d= .func a b v/\x= .func f m j/\y= .nilFunc)∨(∃k e r,d= .map k e/\x= .map (some r)/\y= .map none)):(Op.equal t x y).run P w= .ok false w:=by
 show(Op.equalIn (9999+1) t x y).run P w=_
 unfold Op.equalIn;rw[Sem.run_bind,run_underlying hu];simp only[Result.andThen_ok]
 rcases h with⟨e,a,rfl,rfl,rfl⟩|⟨e,a,l,c,p,c',rfl,rfl,rfl⟩|⟨a,b,v,f,m,j,rfl,rfl,rfl⟩|⟨k,e,r,rfl,rfl,rfl⟩<;>rfl
theorem Wr {γ:Type} {xs:Array γ} (h:xs.size=2):∃ x y,xs= #[x,y]:=by
 obtain⟨l⟩:=xs
 match l,h with
 | [x,y],_=>exact⟨x,y,rfl⟩
theorem Amz {γ:Type} {xs:Array γ} (h:xs.size=1):∃ x,xs= #[x]:=by
 obtain⟨l⟩:=xs
 match l,h with
 | [x],_=>exact⟨x,rfl⟩
theorem AgP {o:Oper} {ρ ρ':Operand->Value} {v:Value} {wA':World} (hW:WR P β wA wB) (h:∀ x∈o.op.operands.toList,VR β wA.heap.size (ρ x) (ρ' x)) (j:Ais P o ρ wA=some (v,wA')):Goes P β wA wB (execOp ρ' o) v wA':=by
 unfold Ais at j;unfold execOp
 cases B:o.op with
 |move x=>
  rw[B]at j h;cases j;exact Ek hW rfl (h x (by simp[Op.operands]))
 |assign x=>
  rw[B]at j h;cases j;exact Ek hW rfl (h x (by simp[Op.operands]))
 |pick c x y=>
  rw[B]at j h;dsimp only at j ⊢;have O:=h c (by simp[Op.operands]);generalize ρ c=a at j O;generalize ρ' c=a' at O ⊢
  split at j
  ·cases O;cases j;exact Ek hW rfl (h x (by simp[Op.operands]))
  ·cases O;cases j;exact Ek hW rfl (h y (by simp[Op.operands]))
  cases j
 |alloc t=>
  rw[B]at j h;dsimp only at j ⊢
  split at j
  ·rename_i F
   refine Dj hW j (Sim.alloc t λv hv β n=>?_);unfold Gu at F;rw[hv]at F;exact Dt 8 v F
  cases j
 |box t x=>
  rw[B]at j h;exact Dj hW j (Sim.box t (h x (by simp[Op.operands])))
 |build t ps=>
  rw[B]at j h;dsimp only at j ⊢
  split at j
  ·rename_i F
   refine Dj hW j (Sim.build t ps F λp hp=>h p.2 ?_);simp only[Op.operands,List.mem_map]
   exact⟨p,hp,rfl⟩
  cases j
 |buildSlice t sz ps=>
  rw[B]at j h;dsimp only at j ⊢
  split at j
  ·rename_i F
   refine Dj hW j (Sim.buildSlice t sz ps (λe S=>by unfold Xc at F;rw[S]at F;exact F) λp hp=>h p.2 ?_);simp only[Op.operands,List.mem_map]
   exact⟨p,hp,rfl⟩
  cases j
 |load t x=>
  rw[B]at j h;exact Dj hW j (Sim.loadAt t (h x (by simp[Op.operands])))
 |store t x y=>
  rw[B]at j h;exact AjR hW j (Sim.storeAt t (h x (by simp[Op.operands])) (h y (by simp[Op.operands])))
 |nilCheck x=>
  rw[B]at j h;dsimp only at j ⊢;have O:=h x (by simp[Op.operands]);generalize ρ x=a at j O;generalize ρ' x=a' at O ⊢
  split at j
  ·cases j
   cases O with
   |ptr b o hb=>exact Ek hW rfl (.ptr b o hb)
  ·cases j
   cases O with
   |func fn fs aI cs aH I h2 Z A=>exact Ek hW rfl (.func _ _ _ _ _ I h2 Z A)
  cases j
 |binOp op t x y ty=>
  rw[B]at j h;dsimp only at j ⊢;have N:=h x (by simp[Op.operands]);have hy:=h y (by simp[Op.operands])
  split at j
  ·rename_i D
   simp only[Bool.and_eq_true]at D;rw[Kh 8 _ _ D.1 N,Kh 8 _ _ D.2 hy];exact Mq hW j
  cases S:AhH op (P.underlying t) (ρ x) (ρ y) with
  |none=>rw[S]at j;cases j
  |some b=>
   rw[S]at j;cases j;clear h B;generalize ρ x=a at S N;generalize ρ' x=a' at N ⊢;generalize ρ y=b1 at S hy;generalize ρ' y=aF at hy ⊢;unfold AhH at S
   split at S
   all_goals first|(cases S;done)|skip
   all_goals cases S
   all_goals cases N
   all_goals cases hy
   all_goals
    refine Ek hW ?_ (.bool _);rw[Sem.run_bind,Sem.run_bind];have hg:∀ op u v,(eqGuard op t x y u v).run P wB= .ok () wB∨True:=λ_ _ _=> .inr trivial;simp only[eqGuard,binOp,Bool.not_true,Bool.false_eq_true,if_false,Sem.run_pure,Result.andThen_ok,Sem.run_bind]
    first
     |(rw[Sd (by assumption) wB (.inl ⟨_,_,rfl,rfl,rfl⟩)];rfl)
     |(rw[Sd (by assumption) wB (.inr (.inl ⟨_,_,_,_,_,_,rfl,rfl,rfl⟩))];rfl)
     |(rw[Sd (by assumption) wB (.inr (.inr (.inl ⟨_,_,_,_,_,_,rfl,rfl,rfl⟩)))];rfl)
     |(rw[Sd (by assumption) wB (.inr (.inr (.inr ⟨_,_,_,rfl,rfl,rfl⟩)))];rfl)
 |unOp op t x=>
  rw[B]at j h;dsimp only at j ⊢
  split at j
  ·rename_i D
   rw[Kh 8 _ _ D (h x (by simp[Op.operands]))];exact Mq hW j
  cases j
 |convert src dst x=>
  rw[B]at j h;dsimp only at j ⊢
  split at j
  ·rename_i D
   rw[Kh 8 _ _ D (h x (by simp[Op.operands]))];exact Mq hW j
  cases j
 |makeInterface t x=>
  rw[B]at j h;exact Dj hW j (Sim.makeInterface t (h x (by simp[Op.operands])))
 |makeFunc fn fs cs=>
  rw[B]at j h
  cases fn<;>first|(cases j;done)|skip
  rename_i fn
  refine Dj hW j (Sim.makeFunc fn (.map λx N=>h x ?_) (.map λx N=>h x ?_))
  ·simp[Op.operands];exact .inl N
  simp[Op.operands];exact .inr N
 |makeMap t r=>
  rw[B]at j h
  cases r with
  |none=>exact Dj hW j (Sim.makeMap t)
  |some r=>cases j
 |makeSlice t l c=>
  rw[B]at j h;dsimp only at j ⊢;have hl:=h l (by simp[Op.operands]);have O:=h c (by simp[Op.operands]);generalize ρ l=a at j hl;generalize ρ' l=a' at hl ⊢;generalize ρ c=b at j O;generalize ρ' c=b' at O ⊢
  split at j
  ·cases hl;cases O
   split at j
   ·rename_i F
    exact Dj hW j (Sim.makeSlice t _ _ _ _ (λe S=>by unfold Xc at F;rw[S]at F;exact F))
   cases j
  cases j
 |slice t x lo hi mx=>
  rw[B]at j h
  cases mx with
  |some m=>cases j
  |none=>
   dsimp only at j ⊢;have N:=h x (by simp[Op.operands])
   have X:∀ q:Option Operand,(∀z∈q,z∈(Op.slice t x lo hi none).operands.toList)->Px ρ q=true->q.map ρ'=q.map ρ:=by
    intro q hq D
    cases q with
    |none=>rfl
    |some z=>exact congrArg some (Kh 8 _ _ D (h z (hq z rfl)))
   have aC:=X lo (λz F=>by cases F;simp[Op.operands]);have aB:=X hi (λz F=>by cases F;simp[Op.operands])
   split at j
   ·rename_i D
    simp only[Bool.and_eq_true]at D;rw[Kh 8 _ _ D.1.1 N,aC D.1.2,aB D.2];exact Mq hW j
   split at j
   ·rename_i D
    simp only[Bool.and_eq_true]at D;rw[aC D.1.2,aB D.2];have hg:=Dj hW j (Sim.slice (lo:=lo.map ρ) (hi:=hi.map ρ) t D.1.1 N);obtain⟨β',v',wB',I,r⟩:=hg;refine⟨β',v',wB',?_,r⟩;rw[Sem.run_bind]at I ⊢;rw[Option.map_none,AbT D.1.1];exact I
   cases j
 |fieldAddr s x f=>
  rw[B]at j h;dsimp only at j ⊢
  split at j
  ·rename_i D
   exact Dj hW j (Sim.fieldAt s f D (h x (by simp[Op.operands])))
  cases j
 |field t x f=>
  rw[B]at j h;exact Dj hW j (Sim.field t f (h x (by simp[Op.operands])))
 |indexAddr t x i=>
  rw[B]at j h;exact Dj hW j (Sim.indexAt t (h x (by simp[Op.operands])) (h i (by simp[Op.operands])))
 |index t x i=>
  rw[B]at j h;dsimp only at j ⊢
  split at j
  ·rename_i D
   simp only[Bool.and_eq_true]at D;rw[Kh 8 _ _ D.1 (h x (by simp[Op.operands])),Kh 8 _ _ D.2 (h i (by simp[Op.operands]))];exact Mq hW j
  cases j
 |lookup t m k ok=>
  rw[B]at j h;dsimp only at j ⊢
  split at j
  ·rename_i D
   unfold Md at j
   cases R:(lookup t (ρ m) (ρ k) ok).run P wA with
   |halt a b=>rw[R]at j;cases j
   |ok u w=>
    rw[R]at j;cases j;obtain⟨rfl,v',I,h2⟩:=Aau hW (h m (by simp[Op.operands])) (h k (by simp[Op.operands])) D R;exact Ek hW (by rw[Sem.run_bind,I];rfl) h2
  cases j
 |mapUpdate t m k x=>
  rw[B]at j h;dsimp only at j ⊢
  split at j
  ·rename_i D
   unfold AdJ at j
   cases R:(mapUpdate t (ρ m) (ρ k) (ρ x)).run P wA with
   |halt a b=>rw[R]at j;cases j
   |ok u w=>
    rw[R]at j;cases j;obtain⟨wB',I,h2,Z,A⟩:=Aad hW (h m (by simp[Op.operands])) (h k (by simp[Op.operands])) (h x (by simp[Op.operands])) D R
    exact⟨β,undef,wB',.inr ⟨by rw[Sem.run_bind,I];rfl,rfl⟩,.refl _ _,by omega,Z,A,.toTuple (.empty _ _)⟩
  cases j
 |insert t m k x=>
  rw[B]at j h;dsimp only at j ⊢
  split at j
  ·rename_i D
   unfold AdJ at j
   cases R:(mapUpdate t (ρ m) (ρ k) (ρ x)).run P wA with
   |halt a b=>rw[R]at j;cases j
   |ok u w=>
    rw[R]at j;cases j;obtain⟨wB',I,h2,Z,A⟩:=Aad hW (h m (by simp[Op.operands])) (h k (by simp[Op.operands])) (h x (by simp[Op.operands])) D R
    exact⟨β,undef,wB',.inr ⟨by rw[Sem.run_bind,I];rfl,rfl⟩,.refl _ _,by omega,Z,A,.toTuple (.empty _ _)⟩
  cases j
 |extract x i=>
  rw[B]at j h;exact Dj hW j (Sim.extract i (h x (by simp[Op.operands])))
 |call c=>
  rw[B]at j h;obtain⟨E,args,J⟩:=c;dsimp only at j ⊢
  have U:(if(Call.operands ⟨E,args,J⟩).all (λx=>flat 8 (ρ x))=true then
    match Hf P (execOp ρ o) with
    |some (.value v)=>if flat 8 v then some (v,wA) else none
    |_=>none
   else none)=some (v,wA')->Goes P β wA wB (do let d <-resolve ρ' ⟨E,args,J⟩ o.type;invoke d.target d.args) v wA':=by
   intro j
   split at j
   case isFalse=>cases j
   rename_i D
   have M:∀ x∈(Call.operands ⟨E,args,J⟩).toList,ρ' x=ρ x:=flatAll (l:=(Call.operands ⟨E,args,J⟩).toList) (λx N=>h x (by simpa[Op.operands] using N)) (by rw[<-Array.all_toList]at D;exact D)
   have aD:resolve ρ' ⟨E,args,J⟩ o.type=resolve ρ ⟨E,args,J⟩ o.type:=by
    have aA:args.map ρ'=args.map ρ:=Array.map_congr_left λx N=>M x (by
     cases E<;>simp[Call.operands,N])
    unfold resolve;dsimp only;rw[aA]
    cases E with
    |value f=>
     have e:=M f (by simp[Call.operands])
     show Deferred.ofValue (ρ' f) _=Deferred.ofValue (ρ f) _
     rw[e]
    |builtin b=>rfl
    |invoke r n=>
     have e:=M r (by simp[Call.operands])
     show pure (Deferred.mk _ (#[ρ' r]++_))=pure (Deferred.mk _ (#[ρ r]++_))
     rw[e]
   rw[aD]
   have aE:execOp ρ o=(do let d <-resolve ρ ⟨E,args,J⟩ o.type;invoke d.target d.args):=by unfold execOp;rw[B]
   rw[aE]at j
   split at j
   ·rename_i u hu
    split at j
    ·rename_i hfl
     cases j;exact Ek hW (Xr hu wB) (Dt 8 _ hfl)
    cases j
   cases j
  split at j
  ·
   split at j
   case isFalse=>cases j
   rename_i hs
   obtain⟨x,y,rfl⟩:=Wr hs.1;obtain⟨t,xt,rfl⟩:=Wr hs.2;obtain⟨β',v',wB',I,h2,Z,A,hF,h5⟩:=AgF hW (h x (by simp[Op.operands,Call.operands])) (h y (by simp[Op.operands,Call.operands])) j;refine⟨β',v',wB',.inl ?_,h2,Z,A,hF,h5⟩;have Y:(append_ #[t,xt] o.type #[ρ' x,ρ' y]).run P wB= .ok v' wB':=I;simp only[resolve,invoke,builtin,pure_bind,List.map_toArray,List.map_cons,List.map_nil,Sem.run_bind];rw[Y];rfl
  ·
   split at j
   case isFalse=>cases j
   rename_i hs
   obtain⟨x,y,rfl⟩:=Wr hs.1;obtain⟨t,xt,rfl⟩:=Wr hs.2.1;have hg:=Dj hW j (Sim.copy t xt o.type hs.2.2 (h x (by simp[Op.operands,Call.operands])) (h y (by simp[Op.operands,Call.operands])));obtain⟨β',v',wB',I,r⟩:=hg;refine⟨β',v',wB',?_,r⟩;simp only[resolve,invoke,builtin,pure_bind,List.map_toArray,List.map_cons,List.map_nil];exact I
  ·
   split at j
   case isFalse=>cases j
   rename_i hs
   obtain⟨x,rfl⟩:=Amz hs.1;obtain⟨t,rfl⟩:=Amz hs.2;unfold Md at j
   split at j
   case h_2=>cases j
   rename_i u w R
   cases j;obtain⟨rfl,I,h2⟩:=AmR hW (h x (by simp[Op.operands,Call.operands])) R;refine Ek hW ?_ (Dt 8 _ h2);have Y:(len_ #[t] o.type #[ρ' x]).run P wB= .ok v wB:=I;simp only[resolve,invoke,builtin,pure_bind,List.map_toArray,List.map_cons,List.map_nil,Sem.run_bind];rw[Y];rfl
  exact U j
 |_=>rw[B]at j;cases j
end Go.Mir
end
