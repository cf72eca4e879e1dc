/- A part of the proof. -/
import Derived.Test.YtmidbhnhcbpneaaGreatDoorM17
import Derived.Test.YtmidbhnhcbpneaaGreatDoorM5
import Derived.Test.YtmidbhnhcbpneaaGreatDoorM4
import Derived.Test.YtmidbhnhcbpneaaGreatDoorM3
import Derived.Test.YtmidbhnhcbpneaaGreatDoorM2
import Derived.Test.YtmidbhnhcbpneaaGreatDoorM8
import Derived.Test.YtmidbhnhcbpneaaGreatDoorM15
import Derived.Test.YtmidbhnhcbpneaaGreatDoorM13
set_option linter.unusedVariables false
set_option linter.unusedSimpArgs false
set_option maxRecDepth 8000
set_option maxHeartbeats 8000000
section
namespace Go.Proofs.YtmidbhnhcbpneaaGreatDoor.Top
open Go YtmidbhnhcbpneaaGreatDoor.Dec
def Ss (n:Nat) (out:List Nat):List Bool:=(List.range n).map λi=>out.contains i
theorem Sk (n:Nat) (out:List Nat):(Ss n out).length=n:=by simp[Ss]
theorem Js {n i:Nat} (out:List Nat) (h:i<n):(Ss n out)[i]?=some (out.contains i):=by
 unfold Ss;rw[List.getElem?_map,List.getElem?_range h];rfl
theorem AjP (n:Nat):Ss n []=List.replicate n false:=by
 apply List.ext_getElem?
 intro i
 by_cases h:i<n
 ·rw[Js _ h,List.getElem?_replicate,if_pos h];rfl
 rw[List.getElem?_eq_none (by rw[Sk];omega),List.getElem?_eq_none (by simp;omega)]
theorem AiD {n q:Nat} {out:List Nat} (h:q<n):(Ss n out).set q true=Ss n (out++ [q]):=by
 apply List.ext_getElem?
 intro i;rw[List.getElem?_set,Sk]
 by_cases hi:i<n
 ·rw[Js _ hi]
  by_cases e:q=i
  ·subst e;rw[if_pos rfl,if_pos hi,Js _ hi]
   congr 1
   exact(show(out++ [q]).contains q=true from List.contains_iff_mem.2 (List.mem_append.2 (.inr (List.mem_singleton.2 rfl)))).symm
  rw[if_neg e,Js _ hi]
  congr 1
  have j:¬ i=q:=λx=>e x.symm;rw[Bool.eq_iff_iff,List.contains_iff_mem,List.contains_iff_mem];simp[j]
 rw[if_neg (by omega),List.getElem?_eq_none (by rw[Sk];omega),List.getElem?_eq_none (by rw[Sk];omega)]
structure Om (g:List N3) (out:List Nat):Prop where
 nod:out.Nodup
 lt:∀ i∈out,i<g.length
 rest:Fg g (g.length-out.length) out=Aw g
theorem Om.zero (g:List N3):Om g []:=⟨List.nodup_nil,(λi h=>by cases h),rfl⟩
theorem Om.len {g:List N3} {out:List Nat} (h:Om g out):out.length<=g.length:=by
 have:=Ll out (List.range g.length) h.nod (λx j=>List.mem_range.2 (h.lt x j))
 simpa using this
theorem Om.done {g:List N3} {out:List Nat} (h:Om g out) (hn:Hy g out=none):Aw g=out:=by
 rw[<-h.rest]
 cases g.length-out.length with
 |zero=>rfl
 |succ f=>unfold Fg;rw[hn]
theorem Om.less {g:List N3} {out:List Nat} {q:Nat} (h:Om g out) (hn:Hy g out=some q):out.length<g.length:=by
 obtain⟨l,h2,_⟩:=Rx hn
 have:=Ll (q::out) (List.range g.length) (List.nodup_cons.2 ⟨h2,h.nod⟩) (λx j=>by
  rcases List.mem_cons.1 j with rfl|j
  ·exact List.mem_range.2 l
  exact List.mem_range.2 (h.lt x j))
 simp at this;omega
theorem Om.step {g:List N3} {out:List Nat} {q:Nat} (h:Om g out) (hn:Hy g out=some q):Om g (out++ [q]):=by
 obtain⟨m,h2,_⟩:=Rx hn;have p:=h.less hn;refine⟨?_,λi hi=>?_,?_⟩
 ·rw[List.nodup_append];refine⟨h.nod,by simp,λx l y hy=>?_⟩;rw[List.mem_singleton]at hy;subst hy;rintro rfl;exact h2 l
 ·rcases List.mem_append.1 hi with hi|hi
  ·exact h.lt i hi
  rw[List.mem_singleton]at hi;omega
 have e:g.length-out.length=(g.length-(out++ [q]).length)+1:=by simp;omega
 have j:=h.rest;rw[e]at j;unfold Fg at j;rw[hn]at j;exact j
theorem Akf {g:List N3} {out:List Nat} (h:∀ j,j<g.length->De g out j=false):Hy g out=none:=by
 unfold Hy;rw[List.find?_eq_none];intro i hi;rw[h i (List.mem_range.1 hi)]
 simp
theorem AjX {g:List N3} {out:List Nat} {q:Nat} (hq:q<g.length) (h:∀ j,j<q->De g out j=false) (hr:De g out q=true):Hy g out=some q:=by
 unfold Hy
 have e:List.range g.length=List.range q++(List.range (g.length-q)).map (q+ ·):=by rw[<-List.range_add];congr 1;omega
 rw[e,List.find?_append]
 have l:(List.range q).find? (De g out)=none:=by
  rw[List.find?_eq_none];intro i hi;rw[h i (List.mem_range.1 hi)]
  simp
 rw[l]
 have h2:g.length-q=(g.length-q-1)+1:=by omega
 rw[h2,List.range_succ_eq_map];simp[hr]
def Sm (g:List N3) (out:List Nat) (x k:Nat):Bool:=(List.range k).any λi=> !out.contains i&&decide (((g.getD i ⟨0,0,0⟩).a)/2=x/2)
theorem Aea (g:List N3) (out:List Nat) (x k:Nat):Sm g out x (k+1)=(Sm g out x k||(!out.contains k&&decide (((g.getD k ⟨0,0,0⟩).a)/2=x/2))):=by
 unfold Sm;rw[List.range_succ,List.any_append]
 simp
theorem Aex {g:List N3} {out:List Nat} {x k:Nat} (hk:k<g.length) (h:(!out.contains k&&decide (((g.getD k ⟨0,0,0⟩).a)/2=x/2))=true):Gj g out x=true:=by
 unfold Gj;rw[List.any_eq_true]
 exact⟨k,List.mem_range.2 hk,h⟩
def Dl (c:Cir) (ins:List Bool) (k:Nat):List Bool:=Tl (false::ins.take k) ((gpair c).take (k-(c.ins.length+c.lat.length)))
theorem Aiy (v:List Bool) (ps:List (Nat×Nat)) (p:Nat×Nat):Tl v (ps++ [p])=Tl v ps++ [valOf (Tl v ps) p.1&&valOf (Tl v ps) p.2]:=by
 unfold Tl;rw[List.foldl_append];rfl
theorem Amo (j:List (Nat×Nat)):∀ v:List Bool,(Tl v j).length=v.length+j.length:=by
 induction j with
 |nil=>intro v;rfl
 |cons p j l=>
  intro v
  show(Tl (v++ [_]) j).length=_
  rw[l]
  simp
  omega
section
variable {c:Cir} {ins:List Bool}
theorem AeP:Dl c ins 0= [false]:=by unfold Dl;simp[Tl]
theorem Ajr {k:Nat} {b:Bool} (hk:k<c.ins.length+c.lat.length) (h:ins[k]?=some b):Dl c ins (k+1)=Dl c ins k++ [b]:=by
 unfold Dl
 have j:k+1-(c.ins.length+c.lat.length)=0:=by omega
 have l:k-(c.ins.length+c.lat.length)=0:=by omega
 rw[j,l,Cy h];simp[Tl]
theorem AgB {k i:Nat} (hl:ins.length=c.ins.length+c.lat.length) (h:(Aw c.gat)[k]?=some i):
  Dl c ins (c.ins.length+c.lat.length+k+1)=Dl c ins (c.ins.length+c.lat.length+k)++ [valOf (Dl c ins (c.ins.length+c.lat.length+k)) (ofC c (c.gat.getD i z3).b)&&valOf (Dl c ins (c.ins.length+c.lat.length+k)) (ofC c (c.gat.getD i z3).c)]:=by
 have m:(gpair c)[k]?=some (ofC c (c.gat.getD i z3).b,ofC c (c.gat.getD i z3).c):=by unfold gpair;rw[List.getElem?_map,h];rfl
 unfold Dl
 have j:c.ins.length+c.lat.length+k+1-(c.ins.length+c.lat.length)=k+1:=by omega
 have l:c.ins.length+c.lat.length+k-(c.ins.length+c.lat.length)=k:=by omega
 rw[j,l,List.take_of_length_le (show ins.length<=c.ins.length+c.lat.length+k+1 by omega),List.take_of_length_le (show ins.length<=c.ins.length+c.lat.length+k by omega),Cy m,Aiy]
theorem Aat (hl:ins.length=c.ins.length+c.lat.length):Dl c ins (Av c).length=Oz c ins:=by
 unfold Dl Oz;rw[Ht,List.take_of_length_le (show ins.length<=c.ins.length+c.lat.length+(Aw c.gat).length by omega),List.take_of_length_le (by unfold gpair;simp)]
theorem Abu {k:Nat} (hl:ins.length=c.ins.length+c.lat.length) (hk:k<=(Av c).length):(Dl c ins k).length=k+1:=by
 have j:(gpair c).length=(Aw c.gat).length:=by simp[gpair]
 rw[Ht]at hk;unfold Dl;rw[Amo,List.length_cons,List.length_take,List.length_take,hl,j];omega
end
theorem Aha (vals:List Bool) (a r:Nat) (h:a%2=0) (hr:r<2):valOf vals (a+r)=(valOf vals a != decide (r=1)):=by
 unfold valOf
 have j:(a+r)/2=a/2:=by omega
 have l:(a+r)%2=r:=by omega
 have m:¬ a%2=1:=by omega
 rw[j,l,decide_eq_false m]
 simp
end Go.Proofs.YtmidbhnhcbpneaaGreatDoor.Top
end
section
namespace Go.Proofs.YtmidbhnhcbpneaaGreatDoor.Top
open Go Go.RowKit Go.Lt YtmidbhnhcbpneaaGreatDoor.Lit YtmidbhnhcbpneaaGreatDoor.Dec
open YtmidbhnhcbpneaaGreatDoor.Circ (T3 enc3 RdT Sl Cv Ae Ci AbX)
def Aow (g:List N3):Prop:=∀ x∈g,x.a<=1000/\x.b<=1000/\x.c<=1000
theorem Zj {g:List N3} {k:Nat} {x:N3} (h:g[k]?=some x):g.getD k ⟨0,0,0⟩=x:=by rw[List.getD_eq_getElem?_getD,h];rfl
theorem Aas (m:Int) (v:Cv) (x:Bp) (B:Option Addr) (d:Nat) (out:List Nat) (y:Nat) (w:World) (hg:v.gat.n<=60) (hr:Aow x.c.gat) (h1:y<=1000) (hi:RdC w v x) (hrb:Rd w B v.gat.n (bvs (Ss v.gat.n out))):
  Calls Tryz.prog 102 #[.agg (Ae m v),.slice B v.gat.n d,.int .i64 (y:Nat)] w λe w'=>e= .returned (.bool (Gj x.c.gat out y))/\Below w.heap.size w w':=by
 have D:=hi.nGat;have p:=(Below.refl w.heap.size w).alloc (Nl _) (.cells (Ae m v) 31);have q1:=Blk.new w 31 (Ae m v);have I:=hi.below p (Nl _);obtain⟨W1,S⟩:∃ W1,w.alloc (.cells (Ae m v) 31)=W1:=⟨_,rfl⟩;rw[S]at p q1 I;have aB:w.heap.size<W1.heap.size:=q1.lt;have p:=Ab p;have J:=hrb.below p.o (Nl _);have cB:W1.cell? ⟨w.heap.size,6,none⟩=some (.slice v.gat.A v.gat.n v.gat.c):=q1.cell 6;have hR:=Ab hr;replace D:=Ab D
 have aI:(y:Int)<=1000:=by omega
 clear hr hi hrb
 go_enter Tryz.func102,Tryz.ntmps102
 go_wp2
 go_loop [7] (λi=>∃ k:Nat,k<=v.gat.n/\i= .int .i64 k/\Hid (Sm x.c.gat out y k=false)) (λi=>v.gat.n-(intOf i).toNat)
 case atStart=>exact⟨0,Nat.zero_le _,rfl,Ab rfl⟩
 case round=>
  obtain⟨k,hk,rfl,O⟩:=hrel
  have aF:(k:Int)<=60:=by omega
  by_cases r:k<v.gat.n
  ·have aC:(k:Int)<v.gat.n:=by omega
   obtain⟨ad,z,hA,R,c0,c1,c2⟩:=Ce (show RdT W1 v.gat.A v.gat.n (x.c.gat.map t3) from I.gat) r;obtain⟨aD,t,rfl,aE,Z,U⟩:=J.get r;rw[hA]at cB;have r1:=(hR.o z (List.mem_of_getElem? R)).1;have j:=Aea x.c.gat out y k;rw[O.o,Zj R,Bool.false_or]at j;rw[Js out r]at Z;obtain rfl:=Option.some.inj Z;have l:=λh=>Aex (g:=x.c.gat) (out:=out) (x:=y) (k:=k) (by rw[<-D.o];exact r) (by rw[Zj R];exact h);replace l:=Ab l;replace j:=Ab j;obtain⟨t,M⟩:∃ t,out.contains k=t:=⟨_,rfl⟩;rw[M]at U j l;obtain⟨F,N⟩:∃ F,z.a=F:=⟨_,rfl⟩;rw[N]at c0 r1 j l
   have aH:(F:Int)<=1000:=by omega
   clear R c1 c2 M Z O N;cases t
   ·obtain⟨e,he⟩:∃ e,((F:Int)/2==(y:Int)/2)=e:=⟨_,rfl⟩;have X:decide ((F:Int)/2=(y:Int)/2)=e:=he
    have E:decide (F/2=y/2)=e:=by rw[<-X];apply decide_eq_decide.2;omega
    rw[E]at j l;cases e
    ·have q:Hid (Sm x.c.gat out y (k+1)=false):=Ab (by rw[j.o];rfl);clear E j l;go_wp2
     go_round
     case rel=>exact⟨k+1,r,by go_num,q⟩
     case measure=>simp[intOf];omega
    have q:Hid (Gj x.c.gat out y=true):=Ab (l.o rfl);clear E j l;go_wp2;go_ret
    exact⟨by rw[q.o];rfl,p.o⟩
   have q:Hid (Sm x.c.gat out y (k+1)=false):=Ab (by rw[j.o];rfl);clear j l;go_wp2
   go_round
   case rel=>exact⟨k+1,r,by go_num,q⟩
   case measure=>simp[intOf];omega
  have Y:k=v.gat.n:=by omega
  have aA:¬ (k:Int)<v.gat.n:=by omega
  have q:Hid (Gj x.c.gat out y=false):=Ab (by
   have h2:=O.o;rw[Y,D.o]at h2
   exact h2)
  clear O;go_wp2;go_ret
  exact⟨by rw[q.o];rfl,p.o⟩
theorem AeN (c:Cir) (T U:List Nat) (A:Option Addr) (k m l:Nat) (w:World) (hv:Av c=T++U) (ht:Zz T l) (hl:l/2<=m) (hm:m<=16777216) (hT:T.length<=16777215) (hl2:l<=33554433) (hr:Rd w A (m+1) (zvs (atF m T))):
  Calls Tryz.prog 77 #[.slice A (m+1) k,.int .i64 (l:Nat)] w λe N=>e= .returned (.int .i64 (ofC c l:Nat))/\Dr w N:=by
 have h:l/2<m+1:=by omega
 obtain⟨X,y,rfl,Y,hy,D⟩:=hr.get h;rw[Nb T hl]at hy;obtain rfl:=Option.some.inj hy;have z:=AdB hv ht;have hi:T.idxOf (l-l%2)<=T.length:=List.idxOf_le_length
 have j:0<=atV T (l/2)/\atV T (l/2)<=33554432/\atV T (l/2)%2=0:=by
  unfold atV
  by_cases h2:l<2
  ·rw[if_pos (by omega)];omega
  have e:2*(l/2)=l-l%2:=by omega
  rw[if_neg (by omega),e,if_pos (ht.resolve_left h2)];omega
 obtain⟨q,B⟩:∃ q,q=l/2:=⟨_,rfl⟩;rw[<-B]at j z D h;generalize atV T q=a at*;generalize ofC c l=r at*;obtain⟨O,R,S⟩:=j
 have I:(q:Int)<m+1:=by omega
 have F:(m:Int)<=16777216:=by omega
 have E:(l:Int)<=33554433:=by omega
 have J:(l:Int)/2=(q:Int):=by omega
 by_cases hy:(l:Int)%2=1
 ·have p:Hid (a+1-2*(a%2)=(r:Int)):=Ab (by omega);have x:Hid (a+1=(r:Int)):=Ab (by omega);clear z hi hr hv ht;replace B:=Ab B
  go_enter Tryz.func77,Tryz.ntmps77
  go_wp2
  go_quiet (fail)
  go_wp2;go_ret;refine⟨?_,(Dr.refl _).more _⟩
  first|rw[p.o]|(simp[x.o])
 have M:((l:Int)%2==1)=false:=by simpa using hy
 have p:Hid (a=(r:Int)):=Ab (by omega);clear z hi hr hv ht;replace B:=Ab B
 go_enter Tryz.func77,Tryz.ntmps77
 go_wp2;go_ret
 exact⟨by rw[<-p.o];rfl,Dr.refl _⟩
end Go.Proofs.YtmidbhnhcbpneaaGreatDoor.Top
end
section
namespace Go.Proofs.YtmidbhnhcbpneaaGreatDoor.Circ
open Go.RowKit Go.Lt YtmidbhnhcbpneaaGreatDoor.Lit
theorem Fq (w:World) (base:Nat) (e:TypeId) (size:Nat) (h:base<=w.heap.size):(w.alloc (.cells #[] e)).ownsRow base e size (.slice (some ⟨w.heap.size,0,none⟩) 0 0) 0 []:=
 ⟨by simp,.inr ⟨w.heap.size,0,#[],rfl,h,heap_alloc_new w _,Nl _,Nat.zero_le _,by simp,by simp⟩⟩
theorem Rf:(Tryz.prog.info? 4).map (λi=>(i.zero,i.size,i.bytes))=some (some (.bool false),1,1):=by kernel_rfl
theorem Uc:(Tryz.prog.info? 3).map (λi=>(i.zero,i.size,i.bytes))=some (some (.int .i64 0),1,8):=by kernel_rfl
theorem Ahi:(Tryz.prog.info? 93).map (λi=>(i.zero,i.size,i.bytes))=some (some (.agg #[.int .i64 0,.int .i64 0]),2,16):=by kernel_rfl
theorem Vw (a b:List Int):ivs (a++b)=ivs a++ivs b:=by unfold ivs;rw[List.map_append]
structure Ug (most:Int) (v:Cv):Prop where
 ins:(v.ins.n:Int)<=most
 lat:(v.lat.n:Int)<=most
 gat:(v.gat.n:Int)<=most
 outs:(v.outs.n:Int)<=most
 bads:(v.bads.n:Int)<=most
 cons:(v.cons.n:Int)<=most
 sym:(v.sym.n:Int)<=most
 com:v.com.size<=300
def Amf (most:Int) (v:Cv) (w:World) (e:Ending) (w':World):Prop:=∃ b:Bool,e= .returned (.bool b)/\Below w.heap.size w w'/\(b=true->Ug most v)
theorem Qi {most:Int} {v:Cv} {w w':World} (h:Below w.heap.size w w'):Amf most v w (.returned (.bool false)) w':=⟨false,rfl,h,λh=>by cases h⟩
theorem AnX {most:Int} {v:Cv} {w w':World} (h:Below w.heap.size w w') (h1:Ug most v):Amf most v w (.returned (.bool true)) w':=⟨true,rfl,h,λ_=>h1⟩
theorem Ahn (m most:Int) (v:Cv) (w:World):
  Calls Tryz.prog 23 #[.agg (Ae m v),.int .i64 most] w (Amf most v w):=by
 have j:=Ab ((Below.refl w.heap.size w).alloc (Nl _) (.cells (Ae m v) 31))
 by_cases l:(v.ins.n:Int)<=most
 case neg=>
  have h:decide ((v.ins.n:Int)<=most)=false:=by rw[decide_eq_false_iff_not];exact l
  clear l
  go_enter Tryz.func23,Tryz.ntmps23
  go_wp2;go_ret;exact Qi j.o
 have h:decide ((v.ins.n:Int)<=most)=true:=by rw[decide_eq_true_iff];exact l
 have l:=Ab l
 by_cases p:(v.lat.n:Int)<=most
 case neg=>
  have B:decide ((v.lat.n:Int)<=most)=false:=by rw[decide_eq_false_iff_not];exact p
  clear p
  go_enter Tryz.func23,Tryz.ntmps23
  go_wp2;go_ret;exact Qi j.o
 have B:decide ((v.lat.n:Int)<=most)=true:=by rw[decide_eq_true_iff];exact p
 have p:=Ab p
 by_cases h2:(v.gat.n:Int)<=most
 case neg=>
  have D:decide ((v.gat.n:Int)<=most)=false:=by rw[decide_eq_false_iff_not];exact h2
  clear h2
  go_enter Tryz.func23,Tryz.ntmps23
  go_wp2;go_ret;exact Qi j.o
 have D:decide ((v.gat.n:Int)<=most)=true:=by rw[decide_eq_true_iff];exact h2
 have h2:=Ab h2
 by_cases q:(v.outs.n:Int)<=most
 case neg=>
  have E:decide ((v.outs.n:Int)<=most)=false:=by rw[decide_eq_false_iff_not];exact q
  clear q
  go_enter Tryz.func23,Tryz.ntmps23
  go_wp2;go_ret;exact Qi j.o
 have E:decide ((v.outs.n:Int)<=most)=true:=by rw[decide_eq_true_iff];exact q
 have q:=Ab q
 by_cases r:(v.bads.n:Int)<=most
 case neg=>
  have F:decide ((v.bads.n:Int)<=most)=false:=by rw[decide_eq_false_iff_not];exact r
  clear r
  go_enter Tryz.func23,Tryz.ntmps23
  go_wp2;go_ret;exact Qi j.o
 have F:decide ((v.bads.n:Int)<=most)=true:=by rw[decide_eq_true_iff];exact r
 have r:=Ab r
 by_cases x:(v.cons.n:Int)<=most
 case neg=>
  have I:decide ((v.cons.n:Int)<=most)=false:=by rw[decide_eq_false_iff_not];exact x
  clear x
  go_enter Tryz.func23,Tryz.ntmps23
  go_wp2;go_ret;exact Qi j.o
 have I:decide ((v.cons.n:Int)<=most)=true:=by rw[decide_eq_true_iff];exact x
 have x:=Ab x
 by_cases y:(v.sym.n:Int)<=most
 case neg=>
  have J:decide ((v.sym.n:Int)<=most)=false:=by rw[decide_eq_false_iff_not];exact y
  clear y
  go_enter Tryz.func23,Tryz.ntmps23
  go_wp2;go_ret;exact Qi j.o
 have J:decide ((v.sym.n:Int)<=most)=true:=by rw[decide_eq_true_iff];exact y
 have y:=Ab y
 by_cases z:(v.com.size:Int)<=300
 case neg=>
  have M:decide ((v.com.size:Int)<=300)=false:=by rw[decide_eq_false_iff_not];exact z
  have N:decide (v.com.size<=300)=false:=by rw[decide_eq_false_iff_not];omega
  clear z
  go_enter Tryz.func23,Tryz.ntmps23
  go_wp2;go_ret;exact Qi j.o
 have M:decide ((v.com.size:Int)<=300)=true:=by rw[decide_eq_true_iff];exact z
 have N:decide (v.com.size<=300)=true:=by rw[decide_eq_true_iff];omega
 have z:=Ab z
 go_enter Tryz.func23,Tryz.ntmps23
 go_wp2;go_ret;exact AnX j.o ⟨l.o,p.o,h2.o,q.o,r.o,x.o,y.o,by have:=z.o;omega⟩
end Go.Proofs.YtmidbhnhcbpneaaGreatDoor.Circ
end
section
namespace Go.Proofs.YtmidbhnhcbpneaaGreatDoor.Lit
open Go.RowKit Go.Lt
theorem Ahi:(Tryz.prog.info? 3).map (λi=>(i.zero,i.size,i.bytes))=some (some (.int .i64 0),1,8):=by kernel_rfl
theorem Afs {l:List Int}:∀ u∈ivs l,u.oneCell'=true:=by
 intro u j;obtain⟨x,_,rfl⟩:=List.mem_map.1 j;rfl
theorem Vw (a b:List Int):ivs (a++b)=ivs a++ivs b:=List.map_append
theorem Uq {w:World} {n c:Nat} {A:Option Addr} {l:List Int} {ops:Array Oper} {rest:List Oper} {o:Oper} {a:Act} {Q:Exit->Act->World->Prop} (hgd:o.guard=none) (s x:Operand)
  (ho:o.op= .call {callee:= .builtin .append,args:= #[s,x],argTypes:= #[26,26]})
  (hs:a.eval s= .slice (some ⟨w.heap.size,0,none⟩) 0 0) (hx:a.eval x= .slice A n c) (hr:Rd w A n (ivs l)) (hn:n<=1000000)
  (h:∀ v' m,m.ownsRow w.heap.size 3 1 v' n (ivs l)->Below w.heap.size w m->wpList Tryz.prog ops Q rest (a.put o.dst v') m):
  wpList Tryz.prog ops Q (o::rest) a (w.alloc (.cells #[] 3)):=by
 refine Od hgd s x 26 ho Tryz.underlying26 Ahi rfl hs hx (World.ownsRow_lit w #[] 0 (Nl _) (by unfold maxLen;omega) rfl) ((Below.refl w.heap.size w).alloc (Nl _) _) (by simp)
  (hr.below ((Below.refl w.heap.size w).alloc (Nl _) _) (Nl _)) Afs (by unfold maxLen;omega) (by omega) ?_
 intro v' m j p;rw[Nat.zero_add]at j;exact h v' m j p
theorem Xt {w0 w:World} {base n m c:Nat} {v:Value} {A:Option Addr} {k l:List Int} {ops:Array Oper} {rest:List Oper} {o:Oper} {a:Act} {Q:Exit->Act->World->Prop} (hgd:o.guard=none) (s x:Operand)
  (ho:o.op= .call {callee:= .builtin .append,args:= #[s,x],argTypes:= #[26,26]})
  (hs:a.eval s=v) (hx:a.eval x= .slice A m c) (j:w.ownsRow base 3 1 v n (ivs k)) (q:Below base w0 w) (hbase:base<=w.heap.size) (hr:Rd w A m (ivs l)) (hn:n+m<=1000000)
  (h:∀ v' p,p.ownsRow base 3 1 v' (n+m) (ivs (k++l))->Below base w0 p->wpList Tryz.prog ops Q rest (a.put o.dst v') p):
  wpList Tryz.prog ops Q (o::rest) a w:=by
 refine Od hgd s x 26 ho Tryz.underlying26 Ahi rfl hs hx j q hbase hr Afs (by unfold maxLen;omega) (by omega) ?_;intro v' p j q;rw[<-Vw]at j;exact h v' p j q
end Go.Proofs.YtmidbhnhcbpneaaGreatDoor.Lit
end
section
namespace Go.Proofs.YtmidbhnhcbpneaaGreatDoor.Circ
open YtmidbhnhcbpneaaGreatDoor.Top (tk tn pt rd1)
open Go.RowKit Go.Lt YtmidbhnhcbpneaaGreatDoor.Lit
def Agr (l:List Int) (w:World) (e:Ending) (w':World):Prop:=∃ A n k,e= .returned (.slice A n k)/\n<=k/\k<=maxLen/\Rd w' A n (ivs l)/\Below w.heap.size w w'
theorem AcV {l:List Int} {w W1 w':World} {v:Value} {n:Nat} (h1:Below w.heap.size w W1) (hown:w'.ownsRow W1.heap.size 3 1 v n (ivs l)) (h2:Below W1.heap.size W1 w'):Agr l w (.returned v) w':=by
 obtain⟨A,c,rfl,j,m,p⟩:=Rd.of_own hown
 exact⟨A,n,c,rfl,j,m,p,h1.trans (h2.mono h1.size)⟩
theorem AgT {l:List T3} {k:Nat} {x:T3} {f:T3->Int} (p:List Int) (h:l[k]?=some x):ivs (p++(l.take (k+1)).map f)=ivs (p++(l.take k).map f)++ [.int .i64 (f x)]:=by
 rw[Ajj f l k x h,<-List.append_assoc,Vw];rfl
theorem Aox {l:List T3} {k:Nat} {x:T3} (p:List Int) (h:l[k]?=some x):ivs (p++(l.take (k+1)).flatMap λg=>[g.b,g.c])=ivs (p++(l.take k).flatMap λg=>[g.b,g.c])++ [.int .i64 x.b,.int .i64 x.c]:=by
 rw[List.take_add_one,h,Option.toList_some,List.flatMap_append,<-List.append_assoc,Vw];rfl
theorem Acd (v:Cv) (c:Ci) (w:World) (hf:Ug 60 v) (hi:AbX w v c):
  Calls Tryz.prog 58 #[.agg (Ae c.max v)] w (Agr (Aap c) w):=by
 have q:=(Below.refl w.heap.size w).alloc (Nl _) (.cells (Ae c.max v) 31);have R:=Blk.new w 31 (Ae c.max v);have B:=hi.below q (Nl _);obtain⟨W1,Z⟩:∃ W1,w.alloc (.cells (Ae c.max v) 31)=W1:=⟨_,rfl⟩;rw[Z]at q R B;have D:w.heap.size<W1.heap.size:=R.lt;have h1:=hf.ins;have h2:=hf.lat;have h3:=hf.gat;have h4:=hf.outs;have h5:=hf.bads;have h6:=hf.cons;have aB:=Ab (show c.lat.take v.lat.n=c.lat from List.take_of_length_le (by rw[hi.lat.1];exact Nl _));have aC:=Ab (show c.gat.take v.gat.n=c.gat from List.take_of_length_le (by rw[hi.gat.1];exact Nl _));have q:=Ab q;clear hf hi
 go_enter Tryz.func58,Tryz.ntmps58
 have cI:(W1.alloc (.cells #[] 3)).cell? ⟨w.heap.size,1,none⟩=some (.slice v.ins.A v.ins.n v.ins.c):=(R.alloc _).cell 1
 go_wp2_with (at_builtin;refine Uq rfl _ _ rfl (by first|rfl|simp[go_sem]) (by first|rfl|simp[go_sem]) B.ins (by omega) ?_;intro v2 w2 h J)
 have l:=h;have r:=J;clear h J;go_wp2
 go_loopw [3,4] (λu i wr=>∃ k:Nat,k<=v.lat.n/\i= .int .i64 k/\wr.ownsRow W1.heap.size 3 1 u (v.ins.n+k) (ivs (c.ins++(c.lat.take k).map T3.a))/\Below W1.heap.size W1 wr) (λ_ i _=>v.lat.n-(intOf i).toNat)
 case atStart=>exact⟨0,Nat.zero_le _,rfl,by simpa using l,r⟩
 case round=>
  obtain⟨k,hk,rfl,j,p⟩:=hrel
  have aA:(k:Int)<=60:=by omega
  have X:wr.cell? ⟨w.heap.size,2,none⟩=some (.slice v.lat.A v.lat.n v.lat.c):=(R.below p D).cell 2;obtain⟨U,cU,rfl,_,_,_⟩:=Rd.of_own j
  by_cases z:k<v.lat.n
  ·obtain⟨ad,x,Y,hB,O,c0,c1,c2⟩:=(B.lat.below p (Nl _)).get z
   have y:(k:Int)<v.lat.n:=by omega
   rw[Y]at X;have S:=Ab (AgT (f:=T3.a) (c.ins) O);clear O;have E:=Ab (show v.ins.n+k+1<=maxLen by unfold maxLen;omega);have I:=Ab (show(v.ins.n+k+1)*8<=140737488355328 by omega)
   go_wp2_with (at_builtin;refine Ah rfl _ _ _ rfl Tryz.underlying26 Uc rfl (by decide) rfl (by first|rfl|simp[go_sem]) j p (Nl _) rfl (by simp[Value.oneCell']) E.o I.o ?_;intro v6 w6 m F M)
   go_roundw
   case rel=>exact⟨k+1,z,by go_num,by rw[S.o];exact m,F⟩
   case measure=>simp[intOf];omega
  have y:k=v.lat.n:=by omega
  have N:¬ (k:Int)<v.lat.n:=by omega
  subst y;rw[aB.o]at j;have l:=Ab j;have r:=Ab p;clear j p;have l:=l.o;have r:=r.o;go_wp2
  go_loopw [3,5] (λu i wr=>∃ k:Nat,k<=v.gat.n/\i= .int .i64 k/\wr.ownsRow W1.heap.size 3 1 u ((v.ins.n+v.lat.n)+k) (ivs (c.ins++c.lat.map T3.a++(c.gat.take k).map T3.a))/\Below W1.heap.size W1 wr) (λ_ i _=>v.gat.n-(intOf i).toNat)
  case atStart=>exact⟨0,Nat.zero_le _,rfl,by simpa using l,r⟩
  case round=>
   obtain⟨k,hk,rfl,j,p⟩:=hrel
   have aA:(k:Int)<=60:=by omega
   have X:wr.cell? ⟨w.heap.size,6,none⟩=some (.slice v.gat.A v.gat.n v.gat.c):=(R.below p D).cell 6;obtain⟨U,cU,rfl,_,_,_⟩:=Rd.of_own j
   by_cases z:k<v.gat.n
   ·obtain⟨ad,x,Y,hB,O,c0,c1,c2⟩:=(B.gat.below p (Nl _)).get z
    have y:(k:Int)<v.gat.n:=by omega
    rw[Y]at X;have S:=Ab (AgT (f:=T3.a) (c.ins++c.lat.map T3.a) O);clear O;have E:=Ab (show(v.ins.n+v.lat.n)+k+1<=maxLen by unfold maxLen;omega);have I:=Ab (show((v.ins.n+v.lat.n)+k+1)*8<=140737488355328 by omega)
    go_wp2_with (at_builtin;refine Ah rfl _ _ _ rfl Tryz.underlying26 Uc rfl (by decide) rfl (by first|rfl|simp[go_sem]) j p (Nl _) rfl (by simp[Value.oneCell']) E.o I.o ?_;intro v6 w6 m F M)
    go_roundw
    case rel=>exact⟨k+1,z,by go_num,by rw[S.o];exact m,F⟩
    case measure=>simp[intOf];omega
   have y:k=v.gat.n:=by omega
   have N:¬ (k:Int)<v.gat.n:=by omega
   subst y;rw[aC.o]at j;have hR:=Ab (AcV q.o j p);clear j p;go_wp2;go_ret;exact hR.o
theorem AeB (v:Cv) (c:Ci) (w:World) (hf:Ug 60 v) (hi:AbX w v c):
  Calls Tryz.prog 59 #[.agg (Ae c.max v)] w (Agr (AaA c) w):=by
 have E:=(Below.refl w.heap.size w).alloc (Nl _) (.cells (Ae c.max v) 31);have X:=Blk.new w 31 (Ae c.max v);have r:=hi.below E (Nl _);obtain⟨W1,aI⟩:∃ W1,w.alloc (.cells (Ae c.max v) 31)=W1:=⟨_,rfl⟩;rw[aI]at E X r;have q:w.heap.size<W1.heap.size:=X.lt;have h1:=hf.ins;have h2:=hf.lat;have h3:=hf.gat;have h4:=hf.outs;have h5:=hf.bads;have h6:=hf.cons;have aM:=Ab (show c.lat.take v.lat.n=c.lat from List.take_of_length_le (by rw[hi.lat.1];exact Nl _));have aN:=Ab (show c.gat.take v.gat.n=c.gat from List.take_of_length_le (by rw[hi.gat.1];exact Nl _));have E:=Ab E;clear hf hi
 go_enter Tryz.func59,Tryz.ntmps59
 have cI:(W1.alloc (.cells #[] 3)).cell? ⟨w.heap.size,3,none⟩=some (.slice v.outs.A v.outs.n v.outs.c):=(X.alloc _).cell 3
 go_wp2_with (at_builtin;first|(refine Xt rfl _ _ rfl (by first|rfl|simp[go_sem]) (by first|rfl|simp[go_sem]) M F F.size (r.cons.below F (Nl _)) (by omega) ?_;intro v4 w4 N aB;clear aF M)|(refine Xt rfl _ _ rfl (by first|rfl|simp[go_sem]) (by first|rfl|simp[go_sem]) l p p.size (r.bads.below p (Nl _)) (by omega) ?_;intro v3 w3 M F;clear aE l;have aF:w3.cell? ⟨w.heap.size,5,none⟩=some (.slice v.cons.A v.cons.n v.cons.c):=(X.below F q).cell 5)|(refine Uq rfl _ _ rfl (by first|rfl|simp[go_sem]) (by first|rfl|simp[go_sem]) r.outs (by omega) ?_;intro v2 w2 l p;clear cI;have aE:w2.cell? ⟨w.heap.size,4,none⟩=some (.slice v.bads.A v.bads.n v.bads.c):=(X.below p q).cell 4))
 have m:=N;have I:=aB;clear N aB p F;go_wp2
 go_loopw [3,4] (λu i wr=>∃ k:Nat,k<=v.lat.n/\i= .int .i64 k/\wr.ownsRow W1.heap.size 3 1 u ((v.outs.n+v.bads.n+v.cons.n)+k) (ivs (c.outs++c.bads++c.cons++(c.lat.take k).map T3.b))/\Below W1.heap.size W1 wr) (λ_ i _=>v.lat.n-(intOf i).toNat)
 case atStart=>exact⟨0,Nat.zero_le _,rfl,by simpa using m,I⟩
 case round=>
  obtain⟨k,hk,rfl,j,y⟩:=hrel
  have aL:(k:Int)<=60:=by omega
  have cB:wr.cell? ⟨w.heap.size,2,none⟩=some (.slice v.lat.A v.lat.n v.lat.c):=(X.below y q).cell 2;obtain⟨U,cU,rfl,_,_,_⟩:=Rd.of_own j
  by_cases z:k<v.lat.n
  ·obtain⟨B,x,hA,hB,hx,c0,c1,c2⟩:=(r.lat.below y (Nl _)).get z
   have J:(k:Int)<v.lat.n:=by omega
   rw[hA]at cB;have HS:=Ab (AgT (f:=T3.b) (c.outs++c.bads++c.cons) hx);clear hx;have aH:=Ab (show(v.outs.n+v.bads.n+v.cons.n)+k+1<=maxLen by unfold maxLen;omega);have aK:=Ab (show((v.outs.n+v.bads.n+v.cons.n)+k+1)*8<=140737488355328 by omega)
   go_wp2_with (at_builtin;refine Ah rfl _ _ _ rfl Tryz.underlying26 Uc rfl (by decide) rfl (by first|rfl|simp[go_sem]) j y (Nl _) rfl (by simp[Value.oneCell']) aH.o aK.o ?_;intro v6 w6 Z aJ aV)
   go_roundw
   case rel=>exact⟨k+1,z,by go_num,by rw[HS.o];exact Z,aJ⟩
   case measure=>simp[intOf];omega
  have J:k=v.lat.n:=by omega
  have aD:¬ (k:Int)<v.lat.n:=by omega
  subst J;rw[aM.o]at j;have m:=Ab j;have I:=Ab y;clear j y;have m:=m.o;have I:=I.o;go_wp2
  go_loopw [3,5] (λu i wr=>∃ k:Nat,k<=v.gat.n/\i= .int .i64 k/\wr.ownsRow W1.heap.size 3 1 u ((v.outs.n+v.bads.n+v.cons.n+v.lat.n)+2*k) (ivs (c.outs++c.bads++c.cons++c.lat.map T3.b++(c.gat.take k).flatMap λg=>[g.b,g.c]))/\Below W1.heap.size W1 wr) (λ_ i _=>v.gat.n-(intOf i).toNat)
  case atStart=>exact⟨0,Nat.zero_le _,rfl,by simpa using m,I⟩
  case round=>
   obtain⟨k,hk,rfl,j,y⟩:=hrel
   have aL:(k:Int)<=60:=by omega
   have cB:wr.cell? ⟨w.heap.size,6,none⟩=some (.slice v.gat.A v.gat.n v.gat.c):=(X.below y q).cell 6;obtain⟨U,cU,rfl,_,_,_⟩:=Rd.of_own j
   by_cases z:k<v.gat.n
   ·obtain⟨B,x,hA,hB,hx,c0,c1,c2⟩:=(r.gat.below y (Nl _)).get z
    have J:(k:Int)<v.gat.n:=by omega
    rw[hA]at cB;have aU:=Ab hx;have HS:=Ab (Aox (c.outs++c.bads++c.cons++c.lat.map T3.b) hx);clear hx;go_wp2;have j:=Ab (Dr.own (a:=wr) (b:=wr.drew) ⟨1,rfl⟩ j);have y:=Ab (y.trans ((Dr.refl wr).drew.below W1.heap.size));refine wp_region_held_drew (S:=λW'=>W'.cell? ⟨w.heap.size,6,none⟩=some (.slice (some B) v.gat.n v.gat.c)/\W'.cell? ⟨(B.add (k*3)).block,(B.add (k*3)).off+1,none⟩=some (.int .i64 x.b)/\W'.cell? ⟨(B.add (k*3)).block,(B.add (k*3)).off+2,none⟩=some (.int .i64 x.c)) (by kernel_rfl) ⟨cB,c1,c2⟩ (λD=>?_);refine tk 0 (h:=tk 1 (h:=tk 2 (h:=tk 3 (h:=tk 4 (h:=tk 5 (h:=tk 6 (h:=tk 7 (h:=tk 8 (h:=tk 9 (h:=tk 10 (h:=tk 11 (h:=tk 12 (h:=?_)))))))))))));refine rd1 13 λK hK=>?_;go_simp;have aP:((wr.drew).alloc (.cells #[.int .i64 x.b,.int .i64 x.c] 3)).cell? ⟨w.heap.size,6,none⟩=some (.slice (some B) v.gat.n v.gat.c):=(World.cell?_alloc_lt _ _ _ (World.block_lt_of_cell? _ _ cB)).trans cB;have aQ:((wr.drew).alloc (.cells #[.int .i64 x.b,.int .i64 x.c] 3)).cell? ⟨(B.add (k*3)).block,(B.add (k*3)).off+1,none⟩=some (.int .i64 x.b):=(World.cell?_alloc_lt _ _ _ (World.block_lt_of_cell? _ _ c1)).trans c1;have aR:((wr.drew).alloc (.cells #[.int .i64 x.b,.int .i64 x.c] 3)).cell? ⟨(B.add (k*3)).block,(B.add (k*3)).off+2,none⟩=some (.int .i64 x.c):=(World.cell?_alloc_lt _ _ _ (World.block_lt_of_cell? _ _ c2)).trans c2;have l:=Ab (j.o.alloc (.cells #[.int .i64 x.b,.int .i64 x.c] 3));have p:=Ab (y.o.alloc y.o.size (.cells #[.int .i64 x.b,.int .i64 x.c] 3));have aO:=Ab (show RdS ((wr.drew).alloc (.cells #[.int .i64 x.b,.int .i64 x.c] 3)) (some ⟨wr.heap.size,0,none⟩) 2 1 [.int .i64 x.b,.int .i64 x.c] from Alq wr.drew _ _ _);refine hK.o _ _ ⟨aP,aQ,aR⟩ (λD=>?_);clear hK K
    try simp only[Act.put,pt]
    refine rd1 14 λK hK=>?_;refine Ej rfl (.tmp 41) (.tmp 54) 26 rfl Tryz.underlying26 Uc rfl (by decide) rfl rfl l.o p.o.size aO.o (by intro u hu;simp at hu;rcases hu with rfl|rfl<;>rfl) (by unfold maxLen;omega) (by omega) ?_;intro v7 w7 aA aC;have Y:=p.o.grown aC p.o.size (λk hk=>(l.o.lt k hk).1)
    have aS:w7.cell? ⟨w.heap.size,6,none⟩=some (.slice (some B) v.gat.n v.gat.c):=by
     have:=(X.below Y q).cell 6
     rw[this];show some (Value.slice v.gat.A v.gat.n v.gat.c)=_;rw[hA]
    have aT:=(r.gat.below Y (Nl _)).get z;obtain⟨aW,x',O,_,R,e0,e1,e2⟩:=aT;rw[hA]at O;injection O with O;subst O;rw[aU.o]at R;injection R with R;subst R;refine hK.o _ _ ⟨aS,e1,e2⟩ (λD=>?_);refine tk 15 (h:=?_);refine wpAnyH_done (by kernel_rfl) ?_ _;go_wp2;go_roundw
    case rel=>exact⟨k+1,z,by go_num,by rw[HS.o];exact aA,Y⟩
    case measure=>simp[intOf];omega
   have J:k=v.gat.n:=by omega
   have aD:¬ (k:Int)<v.gat.n:=by omega
   subst J;rw[aN.o]at j;have hR:=Ab (AcV E.o j y);clear j y;go_wp2;go_ret;exact hR.o
end Go.Proofs.YtmidbhnhcbpneaaGreatDoor.Circ
end
section
namespace Go.Proofs.YtmidbhnhcbpneaaGreatDoor.Circ
open Go.RowKit Go.Lt YtmidbhnhcbpneaaGreatDoor.Lit
end Go.Proofs.YtmidbhnhcbpneaaGreatDoor.Circ
end
section
namespace Go.Proofs.YtmidbhnhcbpneaaGreatDoor.Circ
open YtmidbhnhcbpneaaGreatDoor.Top (tk tn pt rd1)
open Go.RowKit Go.Lt YtmidbhnhcbpneaaGreatDoor.Lit
theorem Pi {w:World} {b b' e size n:Nat} {v:Value} {xs:List Value} (h:w.ownsRow b' e size v n xs) (hb:b<=b'):w.ownsRow b e size v n xs:=by
 obtain⟨m,h2⟩:=h;refine⟨m,?_⟩
 rcases h2 with h2|⟨g,j,l,p,q,r⟩
 ·exact .inl h2
 exact .inr ⟨g,j,l,p,Nat.le_trans hb q,r⟩
def Pq (base n:Nat) (x:Value) (w:World):Prop:=∃ g,x= .slice (some ⟨g,0,none⟩) n n/\base<=g/\w.ownsRow base 4 1 (.slice (some ⟨g,0,none⟩) n n) n (bvs (List.replicate n false))
theorem Pq.step {base n:Nat} {x:Value} {w w':World} (h:Pq base n x w) (hb:Below w.heap.size w w'):Pq base n x w':=by
 obtain⟨g,j,h2,l⟩:=h
 exact⟨g,j,h2,Au l hb⟩
theorem AaF {w w':World} {base n:Nat} (h:w'.ownsRow w.heap.size 4 1 (.slice (some ⟨w.heap.size,0,none⟩) n n) n (madeCells (Value.cells (.bool false)) (n*1)).toList) (hb:base<=w.heap.size):Pq base n (.slice (some ⟨w.heap.size,0,none⟩) n n) w':=by
 have e:(madeCells (Value.cells (.bool false)) (n*1)).toList=bvs (List.replicate n false):=by
  show(madeCells #[Value.bool false] (n*1)).toList=_
  unfold bvs;rw[toList_madeCells_one,Nat.mul_one,List.map_replicate]
 rw[e]at h
 exact⟨_,rfl,hb,Pi h hb⟩
theorem AgQ {w:World} {base e g n:Nat} {xs:List Value} (h:w.ownsRow base e 1 (.slice (some ⟨g,0,none⟩) n n) n xs):Rd w (some ⟨g,0,none⟩) n xs:=by
 obtain⟨_,_,l,_,_,j⟩:=Rd.of_own h;injection l with e1 e2 e3;rw[e1];exact j
def AdO:Value->Nat
 | .slice _ n _=>n
 |_=>0
def trues (l:List Bool):Nat:=l.countP (λb=>b)
theorem AiH {l:List Bool} {q:Nat} (h:l[q]?=some false):trues (l.set q true)=trues l+1:=by
 obtain⟨j,h2⟩:=List.getElem?_eq_some_iff.1 h;unfold trues;rw[List.countP_set j,h2]
 simp
structure Ox (W1:World) (n g:Nat) (u:Value) (told:List Bool) (xs:List Int) (W:World):Prop where
 o:W.ownsRow W1.heap.size 3 1 u (trues told) (ivs xs)
 row:W.ownsRow W1.heap.size 4 1 (.slice (some ⟨g,0,none⟩) n n) n (bvs told)
 len:told.length=n
 rng:∀ x∈xs,0<=x/\x<n
 bel:Below W1.heap.size W1 W
theorem Ox.step {W1:World} {n g:Nat} {u:Value} {told:List Bool} {xs:List Int} {W W':World} (h:Ox W1 n g u told xs W) (hb:Below W.heap.size W W'):Ox W1 n g u told xs W':=
 ⟨Au h.o hb,Au h.row hb,h.len,h.rng,h.bel.trans (hb.mono h.bel.size)⟩
theorem Ox.put {W1:World} {n g q:Nat} {u u':Value} {told:List Bool} {xs:List Int} {W W':World} (h:Ox W1 n g u told xs W) (hq:told[q]?=some false)
  (h1:W'.ownsRow W1.heap.size 3 1 u' (trues told+1) (ivs xs++ [.int .i64 q])) (h2:Below W1.heap.size W1 W') (h3:(W.alloc (.cells #[.int .i64 q] 3)).grownBy W' u.ownBlock):
  Ox W1 n g u' (told.set q true) (xs++ [(q:Int)]) (W'.setCell ⟨g,q,none⟩ (.bool true))/\W'.cell? ⟨g,q,none⟩=some (.bool false)/\W'.frozen? ⟨g,q,none⟩=false:=by
 have y:=h.row.alloc (.cells #[.int .i64 q] 3);have E:=h.o.alloc (.cells #[.int .i64 q] 3);have m:=y.kept h3 (Eg y E (by decide))
 have D:q<n:=by rw[<-h.len];exact(List.getElem?_eq_some_iff.1 hq).1
 have B:W1.heap.size<=g:=by
  rcases Jx h.row with⟨j,_⟩|⟨F,c',j,z,_⟩
  ·cases j
  injection j with j _ _;injection j with j;injection j with j _ _;subst j;exact z
 have r:u'.ownBlock≠some g:=by
  rcases Eg h1 m (by decide) with j|j
  ·rw[j];simp
  simpa[Value.ownBlock] using j
 refine⟨⟨?_,?_,by rw[List.length_set];exact h.len,?_,h2.setCell (p:=⟨g,q,none⟩) B _⟩,?_,Lv m q⟩
 ·rw[AiH hq,Vw];exact ownsRow_setCell_other h1 r _
 ·have:=Uw m q (.bool true)
  unfold bvs at this ⊢;rw[List.map_set];exact this
 ·intro x l
  rcases List.mem_append.1 l with l|l
  ·exact h.rng x l
  simp at l;subst l;omega
 exact Jp m (by unfold bvs;rw[List.getElem?_map,hq];rfl)
def Zp (n:Nat) (w:World) (e:Ending) (w':World):Prop:=∃ A m k xs,e= .returned (.slice A m k)/\m<=n/\w'.ownsRow w.heap.size 3 1 (.slice A m k) m (ivs xs)/\(∀x∈xs,0<=x/\x<n)/\Below w.heap.size w w'
theorem Ox.done {w W1:World} {n g:Nat} {u:Value} {told:List Bool} {xs:List Int} {W:World} (h:Ox W1 n g u told xs W) (h1:Below w.heap.size w W1):Zp n w (.returned u) W:=by
 obtain⟨A,c,rfl,_,_,j⟩:=Rd.of_own h.o
 exact⟨A,_,c,xs,rfl,by rw[<-h.len];exact List.countP_le_length,Pi h.o h1.size,h.rng,h1.trans (h.bel.mono h1.size)⟩
end Go.Proofs.YtmidbhnhcbpneaaGreatDoor.Circ
end
section
namespace Go.Proofs.YtmidbhnhcbpneaaGreatDoor.Top
open Go Go.RowKit Go.Lt YtmidbhnhcbpneaaGreatDoor.Lit YtmidbhnhcbpneaaGreatDoor.Dec
open YtmidbhnhcbpneaaGreatDoor.Circ (T3 enc3 RdT Sl Cv Ae Ci AbX Pq AaF AdO AgQ)
theorem Ang (l:List Nat):nvs l=ivs (l.map λ(n:Nat)=>(n:Int)):=by unfold nvs ivs;rw[List.map_map];rfl
structure OxN (W1:World) (n g:Nat) (u:Value) (out:List Nat) (W:World):Prop where
 o:W.ownsRow W1.heap.size 3 1 u out.length (nvs out)
 row:W.ownsRow W1.heap.size 4 1 (.slice (some ⟨g,0,none⟩) n n) n (bvs (Ss n out))
 bel:Below W1.heap.size W1 W
theorem OxN.step {W1:World} {n g:Nat} {u:Value} {out:List Nat} {W W':World} (h:OxN W1 n g u out W) (hb:Below W.heap.size W W'):OxN W1 n g u out W':=
 ⟨Au h.o hb,Au h.row hb,h.bel.trans (hb.mono h.bel.size)⟩
theorem OxN.put {W1:World} {n g q:Nat} {u u':Value} {out:List Nat} {W W':World} (h:OxN W1 n g u out W) (hq:q<n) (hnq:q∉out)
  (h1:W'.ownsRow W1.heap.size 3 1 u' (out.length+1) (nvs out++ [.int .i64 q])) (h2:Below W1.heap.size W1 W') (h3:(W.alloc (.cells #[.int .i64 q] 3)).grownBy W' u.ownBlock):
  OxN W1 n g u' (out++ [q]) (W'.setCell ⟨g,q,none⟩ (.bool true))/\W'.cell? ⟨g,q,none⟩=some (.bool false)/\W'.frozen? ⟨g,q,none⟩=false:=by
 have x:=h.row.alloc (.cells #[.int .i64 q] 3);have z:=h.o.alloc (.cells #[.int .i64 q] 3);have j:=x.kept h3 (Eg x z (by decide));have y:W1.heap.size<=g:=(Dm h.row rfl).1
 have m:u'.ownBlock≠some g:=by
  rcases Eg h1 j (by decide) with l|l
  ·rw[l];simp
  simpa[Value.ownBlock] using l
 have r:(Ss n out)[q]?=some false:=by
  rw[Js out hq]
  congr 1
  rw[<-Bool.not_eq_true];exact λh=>hnq (List.contains_iff_mem.1 h)
 refine⟨⟨?_,?_,h2.setCell (p:=⟨g,q,none⟩) y _⟩,?_,Lv j q⟩
 ·rw[AbC,List.length_append];exact ownsRow_setCell_other h1 m _
 ·have:=Uw j q (.bool true)
  unfold bvs at this ⊢;rw[<-AiD hq,List.map_set];exact this
 exact Go.Lt.Jp j (by unfold bvs;rw[List.getElem?_map,r];rfl)
def Alv (g:List N3) (w:World) (e:Ending) (w':World):Prop:=∃ s:Sl,e= .returned (sv s)/\s.n=(Aw g).length/\w'.ownsRow w.heap.size 3 1 (sv s) (Aw g).length (nvs (Aw g))/\Below w.heap.size w w'
theorem OxN.done {w W1:World} {n g:Nat} {u:Value} {gs:List N3} {out:List Nat} {W:World} (h:OxN W1 n g u out W) (h1:Below w.heap.size w W1) (he:Aw gs=out):Alv gs w (.returned u) W:=by
 subst he;obtain⟨s,rfl,j⟩:=Be h.o
 exact⟨s,rfl,j,Az h.o h1.size,h1.trans (h.bel.mono h1.size)⟩
theorem Aje {g:List N3} {out:List Nat} {k:Nat} {x:N3} (h:g[k]?=some x):De g out k=(!out.contains k&& !Gj g out x.b&& !Gj g out x.c):=by
 unfold De;rw[Zj h]
theorem AaZ (m:Int) (v:Cv) (x:Bp) (w:World) (hg:v.gat.n<=60) (hr:Aow x.c.gat) (hi:RdC w v x):
  Calls Tryz.prog 61 #[.agg (Ae m v)] w (Alv x.c.gat w):=by
 have Z:=hi.nGat;have aD:=(Below.refl w.heap.size w).alloc (Nl _) (.cells (Ae m v) 31);have q1:=Blk.new w 31 (Ae m v);have aW:=hi.below aD (Nl _);obtain⟨W1,bR⟩:∃ W1,w.alloc (.cells (Ae m v) 31)=W1:=⟨_,rfl⟩;rw[bR]at aD q1 aW;have F:w.heap.size<W1.heap.size:=q1.lt;have aD:=Ab aD;have hR:=Ab hr;replace Z:=Ab Z;clear hr hi
 go_enter Tryz.func61,Tryz.ntmps61
 go_wp2;refine Aam (λD az wz=>∃ x3 x4 x7 x8 x9 aL aM:Value,az=⟨#[.agg (Ae m v),.pointer (some ⟨w.heap.size,0,none⟩),.slice none 0 0,x3,x4,undef,undef,x7,x8,x9,aL,aM,undef,undef,undef,undef,undef,undef,undef,undef,undef,undef,undef,undef,undef,undef,undef,undef,undef,undef,undef,undef,undef,undef,undef,undef,undef,undef,undef,undef,undef,undef,undef,undef,undef,undef,undef,undef,undef,undef,undef,undef,undef,undef,undef,undef,undef,undef,undef,undef,undef,undef,undef],[]⟩/\Below W1.heap.size W1 wz/\(D 0->Su W1.heap.size 3 x7 wz)/\(D 1->x8= .pointer (some ⟨w.heap.size,6,none⟩))/\(D 2->x9= .slice v.gat.A v.gat.n v.gat.c)/\(D 3->aL= .int .i64 v.gat.n)/\(D 4->Pq W1.heap.size v.gat.n aM wz)/\(D 5->Su W1.heap.size 3 x3 wz)/\(D 6->Pq W1.heap.size v.gat.n x4 wz)) (by kernel_rfl) (by kernel_rfl) ?h0 ?hstep ?hdone
 case h0=>
  refine⟨_,_,_,_,_,_,_,rfl,Dr.below (Dr.refl W1).drew _,λh=>absurd h (by decide),λh=>absurd h (by decide),λh=>absurd h (by decide),λh=>absurd h (by decide),λh=>absurd h (by decide),λh=>absurd h (by decide),λh=>absurd h (by decide)⟩
 case hstep=>
  intro D az wz i hi hd hI;obtain⟨x3,x4,x7,x8,x9,aL,aM,rfl,E,f0,f1,f2,f3,f4,f5,f6⟩:=hI;have hi:i<7:=hi
  rcases(show i=0∨i=1∨i=2∨i=3∨i=4∨i=5∨i=6 by omega) with rfl|rfl|rfl|rfl|rfl|rfl|rfl
  ·
   refine wpOp_step rfl (λK B=>?_);have B:Shut _:=B;go_simp;have N:=(Below.refl wz.heap.size wz).alloc (Nl _) (.cells #[] 3)
   try simp only[Act.put,pt]
   refine B.o _ _ ⟨_,_,_,_,_,_,_,rfl,E.trans (N.mono E.size),λ_=>Su.new wz W1.heap.size _ E.size,kp f1,kp f2,kp f3,kp (λh=>(f4 h).step N),kp (λh=>(f5 h).step N),kp (λh=>(f6 h).step N)⟩
  ·
   refine wpOp_step rfl (λK B=>?_);have B:Shut _:=B;go_simp
   try simp only[Act.put,pt]
   refine B.o _ _ ⟨_,_,_,_,_,_,_,rfl,E,kp f0,λ_=>rfl,kp f2,kp f3,kp f4,kp f5,kp f6⟩
  ·
   have d1:=f1 (hd 1 (by kernel_rfl));refine wpOp_step rfl (λK B=>?_);have B:Shut _:=B;subst d1;have cz:wz.cell? ⟨w.heap.size,6,none⟩=some (.slice v.gat.A v.gat.n v.gat.c):=(q1.below E F).cell 6;go_simp
   try simp only[Act.put,pt]
   refine B.o _ _ ⟨_,_,_,_,_,_,_,rfl,E,kp f0,kp f1,λ_=>rfl,kp f3,kp f4,kp f5,kp f6⟩
  ·
   have d2:=f2 (hd 2 (by kernel_rfl));refine wpOp_step rfl (λK B=>?_);have B:Shut _:=B;subst d2;go_simp
   try simp only[Act.put,pt]
   refine B.o _ _ ⟨_,_,_,_,_,_,_,rfl,E,kp f0,kp f1,kp f2,λ_=>rfl,kp f4,kp f5,kp f6⟩
  ·
   have d3:=f3 (hd 3 (by kernel_rfl));refine wpOp_step rfl (λK B=>?_);have B:Shut _:=B;subst d3;refine AjA rfl (.tmp 10) (.tmp 10) 22 rfl 4 Tryz.underlying22 Go.Proofs.YtmidbhnhcbpneaaGreatDoor.Circ.Rf .i64 .i64 v.gat.n rfl rfl (by omega) (by unfold maxLen;omega) ?_;intro w4 aX N
   try simp only[Act.put,pt]
   refine B.o _ _ ⟨_,_,_,_,_,_,_,rfl,E.trans (N.mono E.size),kp (λh=>(f0 h).step N),kp f1,kp f2,kp f3,λ_=>AaF aX E.size,kp (λh=>(f5 h).step N),kp (λh=>(f6 h).step N)⟩
  ·
   have d0:=f0 (hd 0 (by kernel_rfl));refine wpOp_step rfl (λK B=>?_);have B:Shut _:=B;go_simp
   try simp only[Act.put,pt]
   refine B.o _ _ ⟨_,_,_,_,_,_,_,rfl,E,kp f0,kp f1,kp f2,kp f3,kp f4,λ_=>d0,kp f6⟩
  
  have d4:=f4 (hd 4 (by kernel_rfl));refine wpOp_step rfl (λK B=>?_);have B:Shut _:=B;go_simp
  try simp only[Act.put,pt]
  refine B.o _ _ ⟨_,_,_,_,_,_,_,rfl,E,kp f0,kp f1,kp f2,kp f3,kp f4,kp f5,λ_=>d4⟩
 case hdone=>
  rintro D az wz hD ⟨x3,x4,x7,x8,x9,aL,aM,rfl,E,f0,f1,f2,f3,f4,f5,f6⟩;have d0:=f0 (hD 0);have d1:=f1 (hD 1);have d2:=f2 (hD 2);have d3:=f3 (hD 3);have d4:=f4 (hD 4);have d5:=f5 (hD 5);have d6:=f6 (hD 6);clear f0 f1 f2 f3 f4 f5 f6;clear d0 d1 d2 d3 d4;obtain⟨g,rfl,cE,hT⟩:=d6;have hO:=d5.own (size:=1);clear d5;have bJ:Hid (OxN W1 v.gat.n g x3 [] wz):=Ab ⟨hO,by rw[AjP];exact hT,E⟩;clear hO hT E;go_wp2
  go_loopw [3] (λu wr=>∃ out,Hid (OxN W1 v.gat.n g u out wr)/\Hid (Om x.c.gat out)) (λu _=>v.gat.n-AdO u)
  case atStart=>exact⟨[],bJ,Ab (Om.zero _)⟩
  case round=>
   obtain⟨wo,bX⟩:∃ wo,wo=wr:=⟨_,rfl⟩;subst bX;obtain⟨out,hX,aB⟩:=hrel;clear bJ;have cA:wo.cell? ⟨w.heap.size,6,none⟩=some (.slice v.gat.A v.gat.n v.gat.c):=(q1.below hX.o.bel F).cell 6;go_wp2
   go_loopw [5,6] (λz i wr=>∃ (k:Nat) (y:Int),k<=v.gat.n/\i= .int .i64 k/\z= .int .i64 y/\((y= -1/\Hid (∀j,j<k->De x.c.gat out j=false))∨∃q:Nat,y=q/\q<v.gat.n/\Hid (Hy x.c.gat out=some q))/\Below wo.heap.size wo wr) (λ_ i _=>v.gat.n-(intOf i).toNat)
   case atStart=>exact⟨0,-1,Nat.zero_le _,rfl,rfl,.inl ⟨rfl,Ab (λj hj=>absurd hj (Nat.not_lt_zero _))⟩,Below.refl _ _⟩
   case round=>
    obtain⟨k,y,hk,rfl,rfl,hy,aT⟩:=hrel
    have cF:(k:Int)<=60:=by omega
    have M:=Ab (hX.o.step aT);have X:=Ab M.o.bel
    by_cases O:k<v.gat.n
    case neg=>
     have bV:k=v.gat.n:=by omega
     have bY:¬ (k:Int)<v.gat.n:=by omega
     have cB:wr.cell? ⟨w.heap.size,6,none⟩=some (.slice v.gat.A v.gat.n v.gat.c):=(q1.below X.o F).cell 6
     rcases hy with⟨rfl,aF⟩|⟨q,rfl,aI,Y⟩
     ·have bT:=Ab (aB.o.done (Akf (λj hj=>aF.o j (by rw[bV,Z.o];exact hj))));clear aF;go_wp2;go_ret;exact M.o.done aD.o bT.o
     have bW:¬ (q:Int)<0:=by omega
     have bO:(q:Int)<v.gat.n:=by omega
     have aY:=Ab (Rx Y.o).2.1;have aC:=Ab (aB.o.step Y.o)
     have bN:out.length<v.gat.n:=by have:=aB.o.less Y.o;rw[<-Z.o]at this;exact this
     have R:=M.o.o;obtain⟨U,cU,rfl,_,_,_⟩:=Rd.of_own R;have aU:=M.o.bel;have aQ:=Ab (show out.length+1<=maxLen by unfold maxLen;omega);have aV:=Ab (show(out.length+1)*8<=140737488355328 by omega)
     go_wp2_with (at_builtin;refine Ah rfl _ _ _ rfl Tryz.underlying26 Go.Proofs.YtmidbhnhcbpneaaGreatDoor.Circ.Uc rfl (by decide) rfl (by first|rfl|simp[go_sem]) R aU (Nl _) rfl (by simp[Value.oneCell']) aQ.o aV.o ?_;intro v6 w6 I l aE;obtain⟨hP,bS,bU⟩:=M.o.put aI aY.o I l aE;have hP:=Ab hP)
     go_roundw
     case rel=>exact⟨_,hP,aC⟩
     case measure=>obtain⟨U6,c6,rfl,_,_,_⟩:=Rd.of_own I;simp[AdO];omega
    have bZ:(k:Int)<v.gat.n:=by omega
    rcases hy with⟨rfl,aF⟩|⟨q,rfl,aI,Y⟩
    case inr=>
     have cB:wr.cell? ⟨w.heap.size,6,none⟩=some (.slice v.gat.A v.gat.n v.gat.c):=(q1.below X.o F).cell 6
     have bW:¬ (q:Int)<0:=by omega
     have bO:(q:Int)<v.gat.n:=by omega
     have aY:=Ab (Rx Y.o).2.1;have aC:=Ab (aB.o.step Y.o)
     have bN:out.length<v.gat.n:=by have:=aB.o.less Y.o;rw[<-Z.o]at this;exact this
     have R:=M.o.o;obtain⟨U,cU,rfl,_,_,_⟩:=Rd.of_own R;have aU:=M.o.bel;have aQ:=Ab (show out.length+1<=maxLen by unfold maxLen;omega);have aV:=Ab (show(out.length+1)*8<=140737488355328 by omega)
     go_wp2_with (at_builtin;refine Ah rfl _ _ _ rfl Tryz.underlying26 Go.Proofs.YtmidbhnhcbpneaaGreatDoor.Circ.Uc rfl (by decide) rfl (by first|rfl|simp[go_sem]) R aU (Nl _) rfl (by simp[Value.oneCell']) aQ.o aV.o ?_;intro v6 w6 I l aE;obtain⟨hP,bS,bU⟩:=M.o.put aI aY.o I l aE;have hP:=Ab hP)
     go_roundw
     case rel=>exact⟨_,hP,aC⟩
     case measure=>obtain⟨U6,c6,rfl,_,_,_⟩:=Rd.of_own I;simp[AdO];omega
    obtain⟨ad,z,hA,hz,_,g1,g2⟩:=Ce (show RdT wr v.gat.A v.gat.n (x.c.gat.map t3) from(aW.gat.below X.o (Nl _))) O;obtain⟨_,bK,bM⟩:=hR.o z (List.mem_of_getElem? hz);have J:=Aje (out:=out) hz;obtain⟨xb,bP⟩:∃ xb,z.b=xb:=⟨_,rfl⟩;obtain⟨xc,bQ⟩:∃ xc,z.c=xc:=⟨_,rfl⟩;rw[bP]at g1 bK J;rw[bQ]at g2 bM J;clear hz bP bQ;have ct:wr.cell? ⟨g,k,none⟩=some (.bool (out.contains k)):=Go.Lt.Jp M.o.row (by unfold bvs;rw[List.getElem?_map,Js out O];rfl);have s6:wr.cell? ⟨w.heap.size,6,none⟩=some (.slice v.gat.A v.gat.n v.gat.c):=(q1.below X.o F).cell 6;rw[hA]at s6
    have aH:De x.c.gat out k=false->Hid (∀j,j<k+1->De x.c.gat out j=false):=λh=>Ab (λj hj=>by
     rcases Nat.lt_succ_iff_lt_or_eq.1 hj with h1|h1
     ·exact aF.o j h1
     rw[h1];exact h)
    have aZ:De x.c.gat out k=true->Hid (Hy x.c.gat out=some k):=λh=>Ab (AjX (by rw[<-Z.o];exact O) aF.o h);obtain⟨t,ht⟩:∃ t,out.contains k=t:=⟨_,rfl⟩;rw[ht]at ct J;clear ht;replace aH:=Ab aH;replace aZ:=Ab aZ;cases t
    case true=>
     have hrel:=aH.o (by rw[J];rfl);clear J;go_wp2
     go_quiet (fail)
     go_wp2;go_roundw
     case rel=>exact⟨k+1,-1,O,by go_num,rfl,.inl ⟨rfl,hrel⟩,aT.trans (Dr.below ((Dr.refl _).more _) _)⟩
     case measure=>simp[intOf];omega
    obtain⟨s0,s1,s2,s3,s4,s5⟩:=c6d (q1.below X.o F);have s7:wr.cell? ⟨w.heap.size,7,none⟩=some (.slice v.sym.A v.sym.n v.sym.c):=(q1.below X.o F).cell 7;have s8:wr.cell? ⟨w.heap.size,8,none⟩=some (.string v.com):=(q1.below X.o F).cell 8;replace J:=Ab J
    have aJ:∀ W,Below W1.heap.size W1 W->RdC W ⟨v.ins,v.lat,v.outs,v.bads,v.cons,⟨some ad,v.gat.n,v.gat.c⟩,v.sym,v.com⟩ x:=λW hb=>by
     have h:=aW.below hb (Nl _)
     exact⟨h.ins,h.lat,h.outs,h.bads,h.cons,by rw[<-hA];exact h.gat,h.sym,h.com⟩
    replace aJ:=Ab aJ;obtain⟨p,hp⟩:∃ p,Gj x.c.gat out xb=p:=⟨_,rfl⟩;obtain⟨p2,aK⟩:∃ p2,Gj x.c.gat out xc=p2:=⟨_,rfl⟩;rw[hp,aK]at J;replace hp:=Ab hp;replace aK:=Ab aK;go_wp2;have aS:=Ab (M.o.step (Dr.below (Dr.refl wr).drew _));have bL:=Ab (aT.trans (Dr.below (Dr.refl wr).drew wo.heap.size));refine wp_region_held_drew (S:=λW'=>W'.cell? ⟨w.heap.size,0,none⟩=some (.int .i64 m)/\W'.cell? ⟨w.heap.size,1,none⟩=some (.slice v.ins.A v.ins.n v.ins.c)/\W'.cell? ⟨w.heap.size,2,none⟩=some (.slice v.lat.A v.lat.n v.lat.c)/\W'.cell? ⟨w.heap.size,3,none⟩=some (.slice v.outs.A v.outs.n v.outs.c)/\W'.cell? ⟨w.heap.size,4,none⟩=some (.slice v.bads.A v.bads.n v.bads.c)/\W'.cell? ⟨w.heap.size,5,none⟩=some (.slice v.cons.A v.cons.n v.cons.c)/\W'.cell? ⟨w.heap.size,6,none⟩=some (.slice (some ad) v.gat.n v.gat.c)/\W'.cell? ⟨w.heap.size,7,none⟩=some (.slice v.sym.A v.sym.n v.sym.c)/\W'.cell? ⟨w.heap.size,8,none⟩=some (.string v.com)/\W'.cell? ⟨(ad.add (k*3)).block,(ad.add (k*3)).off+1,none⟩=some (.int .i64 xb)/\W'.cell? ⟨(ad.add (k*3)).block,(ad.add (k*3)).off+2,none⟩=some (.int .i64 xc)/\W'.cell? ⟨g,k,none⟩=some (.bool false)) (by kernel_rfl) ⟨s0,s1,s2,s3,s4,s5,s6,s7,s8,g1,g2,ct⟩ (λaA=>?_);refine tk 0 (h:=tk 1 (h:=tk 2 (h:=tk 3 (h:=tk 4 (h:=tk 5 (h:=tk 6 (h:=tk 7 (h:=tk 8 (h:=tk 9 (h:=tk 10 (h:=tk 11 (h:=tk 12 (h:=tk 13 (h:=?_))))))))))))));refine rd1 14 λK B=>?_;go_simp
    go_wp2_with (go_at_call 102;refine(Aas m ⟨v.ins,v.lat,v.outs,v.bads,v.cons,⟨some ad,v.gat.n,v.gat.c⟩,v.sym,v.com⟩ x (some ⟨g,0,none⟩) v.gat.n out xb _ hg hR.o bK (aJ.o _ aS.o.bel) (AgQ aS.o.row)).mono ?_;rintro e w5 ⟨rfl,r⟩;rw[hp.o])
    have aR:=Ab (aS.o.step r);have bA:=keepCell r (w:=wr.drew) s0;have bB:=keepCell r (w:=wr.drew) s1;have bC:=keepCell r (w:=wr.drew) s2;have bD:=keepCell r (w:=wr.drew) s3;have bE:=keepCell r (w:=wr.drew) s4;have bF:=keepCell r (w:=wr.drew) s5;have bG:=keepCell r (w:=wr.drew) s6;have bH:=keepCell r (w:=wr.drew) s7;have bI:=keepCell r (w:=wr.drew) s8;have aO:=keepCell r (w:=wr.drew) g1;have aP:=keepCell r (w:=wr.drew) g2;have aN:=keepCell r (w:=wr.drew) ct;have r:=Ab (bL.o.trans (r.mono bL.o.size));refine B.o _ _ ⟨bA,bB,bC,bD,bE,bF,bG,bH,bI,aO,aP,aN⟩ (λaA=>?_);clear B K
    try simp only[Act.put,pt]
    clear s0 s1 s2 s3 s4 s5 s6 s7 s8 g1 g2 ct;cases p
    case false=>
     refine tk 15 (h:=tk 16 (h:=tk 17 (h:=tk 18 (h:=tk 19 (h:=tk 20 (h:=tk 21 (h:=tk 22 (h:=tk 23 (h:=tk 24 (h:=tk 25 (h:=?_)))))))))));refine rd1 26 λK B=>?_;go_simp
     go_wp2_with (go_at_call 102;refine(Aas m ⟨v.ins,v.lat,v.outs,v.bads,v.cons,⟨some ad,v.gat.n,v.gat.c⟩,v.sym,v.com⟩ x (some ⟨g,0,none⟩) v.gat.n out xc _ hg hR.o bM (aJ.o _ aR.o.bel) (AgQ aR.o.row)).mono ?_;rintro e w6 ⟨rfl,l⟩;rw[aK.o])
     have cC:=Ab (aR.o.step l);have s0:=keepCell l bA;have s1:=keepCell l bB;have s2:=keepCell l bC;have s3:=keepCell l bD;have s4:=keepCell l bE;have s5:=keepCell l bF;have s6:=keepCell l bG;have s7:=keepCell l bH;have s8:=keepCell l bI;have g1:=keepCell l aO;have g2:=keepCell l aP;have ct:=keepCell l aN;have l:=Ab (r.o.trans (l.mono r.o.size));refine B.o _ _ ⟨s0,s1,s2,s3,s4,s5,s6,s7,s8,g1,g2,ct⟩ (λaA=>?_);clear B K
     try simp only[Act.put,pt]
     clear bA bB bC bD bE bF bG bH bI aO aP aN;refine tk 27 (h:=tk 28 (h:=?_));refine wpAnyH_done (by kernel_rfl) ?_ _;cases p2
     ·have hrel:=aZ.o (by rw[J.o];rfl);go_wp2;go_roundw
      case rel=>exact⟨k+1,k,O,by go_num,rfl,.inr ⟨k,rfl,O,hrel⟩,l.o⟩
      case measure=>simp[intOf];omega
     have hrel:=aH.o (by rw[J.o];rfl);go_wp2;go_roundw
     case rel=>exact⟨k+1,-1,O,by go_num,rfl,.inl ⟨rfl,hrel⟩,l.o⟩
     case measure=>simp[intOf];omega
    case true=>
     refine tk 15 (h:=tk 16 (h:=tk 17 (h:=tn 18 (h:=tn 19 (h:=tn 20 (h:=tn 21 (h:=tn 22 (h:=tn 23 (h:=tn 24 (h:=tn 25 (h:=tn 26 (h:=tn 27 (h:=tk 28 (h:=?_))))))))))))));refine wpAnyH_done (by kernel_rfl) ?_ _;have hrel:=aH.o (by rw[J.o];rfl);go_wp2;go_roundw
     case rel=>exact⟨k+1,-1,O,by go_num,rfl,.inl ⟨rfl,hrel⟩,r.o⟩
     case measure=>simp[intOf];omega
end Go.Proofs.YtmidbhnhcbpneaaGreatDoor.Top
end
section
namespace Go.Lt
open Go.RowKit Go.Instr
theorem Us {P:Program} {w:World} {ops:Array Oper} {rest:List Oper} {o:Oper} {a:Act} {Q:Exit->Act->World->Prop} (hgd:o.guard=none) (l c:Operand) (t:TypeId) (hop:o.op=Op.makeSlice t l c)
  (e:TypeId) {z:Value} {size bytes:Nat} (ht:P.underlying t=some (.slice e)) (hi:(P.info? e).map (λi=>(i.zero,i.size,i.bytes))=some (some z,size,bytes))
  (n:Nat) (hl:a.eval l= .int .i64 n) (hc:a.eval c= .int .i64 n) (b2:bytes*n<=281474976710656) (b3:n<=1000000000)
  (h:wpList P ops Q rest (a.put o.dst (.slice (some ⟨w.heap.size,0,none⟩) n n)) (w.alloc (.cells (madeCells z.cells (n*size)) e))):wpList P ops Q (o::rest) a w:=
 wpList_plain hgd λ_ j=>Of l c t hop e ht hi n hl hc b2 b3 (j _ _ h)
end Go.Lt
namespace Go.Proofs.YtmidbhnhcbpneaaGreatDoor.Top
open Go Go.RowKit Go.Lt Go.Proofs.YtmidbhnhcbpneaaGreatDoor.Lit Go.Proofs.YtmidbhnhcbpneaaGreatDoor.Dec
open Go.Proofs.YtmidbhnhcbpneaaGreatDoor.Circ (T3 enc3 RdT Sl Cv Ae)
def nd2 (x:Int×Int):List Value:=[.int .i64 x.1,.int .i64 x.2]
def Gz (l:List (Int×Int)):List Value:=l.flatMap nd2
theorem AaM (l:List (Int×Int)) (x:Int×Int):Gz (l++ [x])=Gz l++nd2 x:=by unfold Gz;rw[List.flatMap_append];simp
structure Mz (m n0 nb ab ga:Nat) (cs:Array Value) (w W:World) (sn:Sl) (nds:List (Int×Int)) (ys:List Int):Prop where
 box:Blk W n0 31 cs
 cn:Blk W nb 86 #[sv sn]
 ca:Blk W ab 26 #[.slice (some ⟨ga,0,none⟩) (m+1) (m+1)]
 on:W.ownsRow n0 93 2 (sv sn) nds.length (Gz nds)
 oa:Blk W ga 3 (zvs ys).toArray
 bel:Below n0 w W
 lo:n0<=nb/\n0<=ab/\n0<=ga/\n0<=w.heap.size
theorem Aig (l:List Int) (j:Nat) (x:Int):(zvs l).toArray.setIfInBounds j (.int .i64 x)=(zvs (l.set j x)).toArray:=by
 unfold zvs;rw[List.map_set]
 simp
section
variable {m n0 nb ab ga:Nat} {cs:Array Value} {w W:World} {sn:Sl} {T:List Nat} {nds:List (Int×Int)} {ys:List Int}
theorem Mz.after {W':World} (h:Mz m n0 nb ab ga cs w W sn nds ys) (hb:Below W.heap.size W W'):Mz m n0 nb ab ga cs w W' sn nds ys:=
 ⟨h.box.below hb h.box.lt,h.cn.below hb h.cn.lt,h.ca.below hb h.ca.lt,Au h.on hb,h.oa.below hb h.oa.lt,h.bel.trans (hb.mono (Nat.le_of_lt h.box.lt)),h.lo⟩
theorem Mz.grown {w9:World} {o:Obj} (hM:Mz m n0 nb ab ga cs w W sn nds ys) (hg:(W.alloc o).grownBy w9 (sv sn).ownBlock):Blk w9 nb 86 #[sv sn]/\Blk w9 ab 26 #[.slice (some ⟨ga,0,none⟩) (m+1) (m+1)]/\Blk w9 ga 3 (zvs ys).toArray:=
 ⟨(hM.cn.alloc o).grown hg (Ba hM.on hM.cn (by decide)),(hM.ca.alloc o).grown hg (Ba hM.on hM.ca (by decide)),(hM.oa.alloc o).grown hg (Ba hM.on hM.oa (by decide))⟩
theorem Mz.put {l:Nat} {A0 B0:Int} {w9 W11:World} {s9:Sl} {o:Obj} (hM:Mz m n0 nb ab ga cs w W sn nds (atF m T)) (hTn:nds.length=T.length) (he:l%2=0) (h1:1<l) (hn:l∉T)
  (hown:w9.ownsRow n0 93 2 (sv s9) (nds.length+1) (Gz nds++ [.int .i64 A0,.int .i64 B0])) (hb9:Below n0 w w9) (hg:(W.alloc o).grownBy w9 (sv sn).ownBlock)
  (hW:W11=(w9.setCell ⟨nb,0,none⟩ (sv s9)).setCell ⟨ga,l/2,none⟩ (.int .i64 ((2*(T.length+1):Nat):Int))):
  Mz m n0 nb ab ga cs w W11 s9 (nds++ [(A0,B0)]) (atF m (T++ [l])):=by
 subst hW;obtain⟨O,R,S,U⟩:=hM.lo;have z:=(hM.box.alloc o).grown hg (Ba hM.on hM.box (by decide));have j:=(hM.cn.alloc o).grown hg (Ba hM.on hM.cn (by decide));have h:=(hM.ca.alloc o).grown hg (Ba hM.on hM.ca (by decide));have r:=(hM.oa.alloc o).grown hg (Ba hM.on hM.oa (by decide));have D:n0≠nb:=Af z j (by decide);have E:n0≠ga:=Af z r (by decide);have F:ab≠nb:=Af h j (by decide);have y:nb≠ga:=Af j r (by decide);have I:ab≠ga:=Af h r (by decide);have J:=(r.far (p:=⟨nb,0,none⟩) (λe=>y e.symm) (sv s9)).set_ (l/2) (.int .i64 ((2*(T.length+1):Nat):Int));rw[Aig,AhP he h1 hn]at J
 have M:Fr (λq=>q=nb∨q=ga) w9 ((w9.setCell ⟨nb,0,none⟩ (sv s9)).setCell ⟨ga,l/2,none⟩ (.int .i64 ((2*(T.length+1):Nat):Int))):=
  ((Fr.refl (λq=>q=nb∨q=ga) w9).set (p:=⟨nb,0,none⟩) (.inl rfl) _).set (p:=⟨ga,l/2,none⟩) (.inr rfl) _
 refine⟨(z.far (p:=⟨nb,0,none⟩) D _).far (p:=⟨ga,l/2,none⟩) E _,(j.set_ 0 (sv s9)).far (p:=⟨ga,l/2,none⟩) y _,(h.far (p:=⟨nb,0,none⟩) F _).far (p:=⟨ga,l/2,none⟩) I _,?_,J,hb9.trans (M.below (B:=n0) (by have:=hb9.size;omega) (λk N=>by rcases N with rfl|rfl<;>assumption)),hM.lo⟩;rw[AaM,List.length_append]
 exact M.own hown (λg x e=>by
  rcases e with rfl|rfl
  ·exact Ba hown j (by decide) x.symm
  exact Ba hown r (by decide) x.symm)
end
theorem Na {c:Cir} (h:Ag c):Xz c:=by
 have l:=h.max;refine⟨l,λx j=>?_,λx j=>?_,λx j=>?_⟩
 ·have:=(h.own x j).2.2;omega
 ·have:=h.used x j;omega
 have:=(h.own _ (Em j)).2.2
 rcases h.res x j with e|e|e<;>omega
theorem AhB {W:World} {B g n:Nat} {t:TypeId} {cs:List Value} (h:Blk W g t cs.toArray) (hB:B<=g) (hn:cs.length=n) (hm:n<=maxLen):W.ownsRow B t 1 (.slice (some ⟨g,0,none⟩) n n) n cs:=by
 subst hn
 exact⟨by simp,.inr ⟨g,_,_,rfl,hB,h,Nl _,hm,by simp,by simp⟩⟩
def AnY (c:Cir) (w:World) (e:Ending) (w':World):Prop:=∃ sn sa:Sl,e= .returned (.tuple #[sv sn,sv sa])/\sn.n=(Av c).length/\sa.n=c.max+1/\w'.ownsRow w.heap.size 93 2 (sv sn) (Ei c).length (Gz (Ei c))/\w'.ownsRow w.heap.size 3 1 (sv sa) (c.max+1) (zvs (atF c.max (Av c)))/\Below w.heap.size w w'
theorem Zq:(Tryz.prog.info? 93).map (λi=>(i.zero,i.size,i.bytes))=some (some (.agg #[.int .i64 0,.int .i64 0]),2,16):=by kernel_rfl
theorem Ady (m n0 nb ab ga l:Nat) (A0 B0:Int) (cs:Array Value) (w W:World) (sn:Sl) (T:List Nat) (nds:List (Int×Int)) (hM:Mz m n0 nb ab ga cs w W sn nds (atF m T)) (B:nds.length=T.length) (he:l%2=0) (h1:1<l) (hl:l/2<=m) (hn:l∉T) (hm:m<=16777216) (hT:T.length<=16777216):
  Calls Tryz.prog 71 #[.int .i64 (l:Nat),.agg #[.int .i64 A0,.int .i64 B0],.pointer (some ⟨nb,0,none⟩),.pointer (some ⟨ab,0,none⟩)] W λe w'=>e= .returned (.tuple #[])/\∃sn',Mz m n0 nb ab ga cs w w' sn' (nds++ [(A0,B0)]) (atF m (T++ [l]))/\Fr (λq=>q=nb∨q=ga∨(sv sn).ownBlock=some q) W w':=by
 obtain⟨W1,E,Y,x⟩:=Bb W #[.int .i64 A0,.int .i64 B0] 93;have j:=Ab (hM.after x);have N:=hM.lo.2.2.2;have M:=B;replace x:=Ab x;clear hM;obtain⟨S,X,U⟩:=sn;have u0:=Y.cell 0;have u1:=Y.cell 1;have c0:W1.cell? ⟨nb,0,none⟩=some (.slice S X U):=j.o.cn.cell 0;have z0:=j.o.cn.frozen 0;have Z:=Ab (show nds.length+1<=maxLen by unfold maxLen;omega);have A:=Ab (show(nds.length+1)*16<=140737488355328 by omega);replace E:=Ab E
 go_enter Tryz.func71,Tryz.ntmps71
 obtain⟨q,hq⟩:∃ q,q=l/2:=⟨_,rfl⟩
 have aD:(l:Int).tdiv 2=(q:Int):=by rw[Int.tdiv_eq_ediv_of_nonneg (by omega)];omega
 have aC:(q:Int)<m+1:=by omega
 have aB:(nds.length:Int)<=16777216:=by omega
 replace hq:=Ab hq;replace B:=Ab B;clear M
 go_upto_region 1 with fail
 rw[E.o];clear E
 go_upto_region 2 with(at_builtin;refine Ah (v:= .slice S X U) rfl _ _ _ rfl Tryz.underlying86 Zq rfl (by decide) rfl (by first|rfl|simp[go_sem]) j.o.on j.o.bel N (by rfl) (by simp[Value.oneCell']) Z.o A.o ?_;intro v9 w9 r J y;obtain⟨⟨F,N9,I⟩,rfl,O⟩:=Be r;dsimp only at O;subst O;dsimp only[sv];have c9:=(j.o.grown y).1.cell 0;have z9:=(j.o.grown y).1.frozen 0)
 obtain⟨R,x2,x3⟩:=j.o.grown y;have n1:ab≠nb:=Af x2 R (by decide);have n2:ga≠nb:=Af x3 R (by decide);have hP:=Ab (λ(W11:World) (h:W11=(w9.setCell ⟨nb,0,none⟩ (.slice F (nds.length+1) I)).setCell ⟨ga,l/2,none⟩ (.int .i64 ((2*(T.length+1):Nat):Int)))=>j.o.put (s9:=⟨F,nds.length+1,I⟩) B.o he h1 hn r J y h)
 have hF:Hid (∀u,Fr (λq=>q=nb∨q=ga∨(Value.slice S X U).ownBlock=some q) W ((w9.setCell ⟨nb,0,none⟩ (.slice F (nds.length+1) I)).setCell ⟨ga,q,none⟩ u)):=Ab (λu=>
  ((((Fr.of_below x.o).trans (Fr.of_below ((Below.refl _ _).alloc (Nl _) _))).trans (Fr.of_grown y (λk e=> .inl (.inr (.inr e))))).set (p:=⟨nb,0,none⟩) (.inl rfl) _).set (p:=⟨ga,q,none⟩) (.inr (.inl rfl)) _)
 have y1:=R.set_ 0 (.slice F (nds.length+1) I);have y2:=x2.far (p:=⟨nb,0,none⟩) n1 (.slice F (nds.length+1) I);have y3:=x3.far (p:=⟨nb,0,none⟩) n2 (.slice F (nds.length+1) I);rw[<-hq.o,<-B.o]at hP;generalize w9.setCell ⟨nb,0,none⟩ (.slice F (nds.length+1) I)=aA at*;have d1:=y1.cell 0;have d2:=y2.cell 0
 have D:q<(zvs (atF m T)).toArray.size:=by unfold zvs;rw[List.size_toArray,List.length_map,Fp];omega
 obtain⟨z,hz⟩:∃ z,(zvs (atF m T)).toArray[q]?=some z:=⟨_,Array.getElem?_eq_getElem D⟩;have d3:=(y3.cell q).trans hz;have e3:=y3.frozen q;clear j r J y c9 z9 R x2 x3 y1 y2 y3 hz D n1 n2 u0 u1 Y c0 z0;go_wp2;refine bodyPost_end (results_none rfl _ _ _) rfl ?_
 exact⟨rfl,_,hP.o _ (by first|rfl|(congr 2)),hF.o _⟩
end Go.Proofs.YtmidbhnhcbpneaaGreatDoor.Top
end
