/- A part of the proof. -/
import Derived.Test.YtmidbhnhcbpneaaGreatDoorM30
import Derived.Test.YtmidbhnhcbpneaaGreatDoorM29
import Derived.Test.YtmidbhnhcbpneaaGreatDoorProg
import Derived.Test.YtmidbhnhcbpneaaGreatDoorM5
import Derived.Defers
import Derived.Recover
import Derived.BigRegion
import Derived.Tactics
import Derived.Tactics2
import Derived.TacticsInMore
import Derived.RegionIn
import Derived.RecoverIn
set_option linter.unusedVariables false
set_option linter.unusedSimpArgs false
set_option maxRecDepth 8000
set_option maxHeartbeats 8000000
section
namespace Go.Mir
open Go.RowKit Go.Lt Go.Instr Go.Builtin
section
variable {P:Program} {call:Dc} {ops:Array Oper} {a:Ac} {n:Nat}
theorem AlR {L:List Nat} {bs:List Nat}:∀ {s r:Dr},Ea P call ops bs a L s= .ok r->∀i∈L,i<ops.size:=by
 induction L with
 |nil=>intro s r h i hi;cases hi
 |cons k L m=>
  intro s r h i hi;obtain⟨p,j,h2⟩:=Bj.1 h
  rcases List.mem_cons.1 hi with rfl|hi
  ·obtain⟨o,l,_⟩:=came j
   exact(Array.getElem?_eq_some_iff.1 l).1
  exact m h2 i hi
theorem AlX {a:Ac} {d:Nat} {v:Value} (hd:d<a.n) (ha:a.n<1000000) (t:Nat):(a.put (some d) v).eval (.tmp t)=if t=d then v else a.eval (.tmp t):=by
 unfold Ac.put;dsimp only;rw[Ph.2 hd];dsimp only
 show(match Tr.get fuel (Tr.set fuel a.tm d v) t with
  |some v=>v
  |none=>undef)=_
 rw[Tr.get_set fuel a.tm d t v (by unfold fuel;omega)]
 by_cases h:t=d
 ·rw[if_pos h,if_pos h]
 rw[if_neg h,if_neg h];rfl
theorem Aph (a:Ac) (dst:Option Tmp) (v:Value):(a.put dst v).n=a.n:=by
 unfold Ac.put
 repeat' split
 all_goals rfl
theorem AoI (a:Ac) (dst:Option Tmp) (v:Value):(a.put dst v).defers=a.defers:=by
 unfold Ac.put
 repeat' split
 all_goals rfl
theorem AeE (hd:∀ j t,Cj ops j=some t->t<a.n) (ha:a.n<1000000):∀ ds:List Ky,(Ym ops a ds).n=a.n/\(Ym ops a ds).defers=a.defers/\∀t,(Ym ops a ds).eval (.tmp t)=match Lb ops ds t with
  |some d=>d.val
  |none=>a.eval (.tmp t)
 | []=>⟨rfl,rfl,λt=>rfl⟩
 |d::r=>by
  obtain⟨m,h2,q⟩:=AeE hd ha r;refine⟨by rw[Ym,Aph,m],by rw[Ym,AoI,h2],λt=>?_⟩;rw[Ym]
  cases l:Cj ops d.i with
  |none=>
   have:Vq ops d.i t=false:=by unfold Vq;rw[l]
   simp only[Lb,this];exact q t
  |some x=>
   rw[AlX (by rw[m];exact hd _ _ l) (by rw[m];exact ha)]
   by_cases p:t=x
   ·subst p
    have:Vq ops d.i t=true:=Ou.2 l
    simp only[Lb,this,if_true]
   have:Vq ops d.i t=false:=by
    cases h:Vq ops d.i t with
    |false=>rfl
    |true=>
     rw[Ou,l]at h;exact absurd (Option.some.inj h).symm p
   simp only[Lb,this,if_neg p];exact q t
end
theorem Aeh {P:Program} (hm:P.follows .mixedOrders=true) (hnm:∀ (f:FuncId) (fn:Func),P.funcs[f]?=some fn->(fn.name== "runtime.NumGoroutine")=false):Xo P (Wq P):=by
 intro call aB rr n Q id ops a a' s s' β b w z hW M hQ;unfold Wq Ain at z
 split at z
 case h_2=>cases z
 rename_i hst
 split at z
 case h_2=>cases z
 rename_i r hall
 split at z
 case h_2=>cases z
 rename_i hfin
 cases z;rw[Bool.and_eq_true,Ph]at hst hfin;have O:=Anc hst.1;have aA:∀ (j:Nat) o,ops[j]?=some o->∀e∈o.after,Region.binds .any e=true->e.on<j:=λj o q e he hb=>(O.lt j o q e he hb).1
 have S:∀ i,i<ops.size->∃d∈r.ds,d.i=i:=λi hi=>by
  obtain⟨d,p⟩:=Option.isSome_iff_exists.1 (List.all_eq_true.1 hfin.1 i (List.mem_range.2 hi))
  exact⟨d,Pa p⟩
 have J:=AlR hall
 have aC:∀ d∈r.ds,d.i∈Adp ops (Bu ops):=λd p=>by
  rcases(Oh hall).2 d p with h|h
  ·cases h
  exact h
 refine Yx (λD b' w'=>AiU P call ops a β s w b r D b' w') hm aA ?_ ?_ ?_
 ·refine⟨Adp ops (Bu ops),⟨[],[s],s⟩,β,λ_=>False,⟨hall,⟨λd p=>(by cases p),λd p=>(by cases p),λd p=>(by cases p)⟩,(Out.refl hW).shift (.refl _ _) (λj hj=>rfl) (Nl _) ⟨rfl,rfl,rfl⟩,λd p hD=>?_,λd p hD=>?_,λA i B si aD N M hi hD=>?_,λx hx=>hx.elim,λx y hx=>hx.elim,λx hx=>hx.elim,rfl,rfl,λt ht=>rfl,λi hi=>?_,λk hk hD=>?_,λd p=>(by cases p),rfl⟩,[],rfl⟩
  ·have:=J _ (aC d p);omega
  ·have:=J _ (aC d p);omega
  ·obtain⟨o,q,_⟩:=came hi
   have:=(Array.getElem?_eq_some_iff.1 q).1
   omega
  ·obtain⟨d,p,rfl⟩:=S i hi;exact .inl (aC d p)
  omega
 ·rintro D b' w' i o q hi Y ⟨L,sm,γ,F,h,I⟩;have aJ:i∈L:=(h.here i (Array.getElem?_eq_some_iff.1 q).1).resolve_right hi;obtain⟨A,B,N⟩:=List.append_of_mem aJ;have Z:=h.chain;rw[N]at Z;obtain⟨si,X,k2⟩:=Jm.1 Z;obtain⟨aD,R,k3⟩:=Bj.1 k2;obtain⟨o',aE,_,U,hc⟩:=came R;rw[q]at aE
  cases aE
  have m:=AeV aA h.closed q Y;have hn:b.tmps.size=a.n:=M.size;unfold wpOpIn;rw[q];dsimp only;obtain⟨e',E⟩:∃ e',aD=e':=⟨_,rfl⟩;rw[E]at hc
  cases hc with
  |skip hg=>
   rw[h.guard O N X R q m hg]
   exact⟨λf _=>Abo rr f,h.skip I O M hn hfin.2 N X R q hi m U E⟩
  |still v s' l ml hg hv hns hl hmm hsub=>
   rw[h.guard O N X R q m hg];exact h.still I O M hn hfin.2 N X R q hi m U hv hns hl hmm hsub E λb' w' hh=>hh
  |make v s' l ob v' hg hv hns hl hat hnv hob J hb=>
   rw[h.guard O N X R q m hg];exact h.make I O M hn hfin.2 N X R q hi m U hv hns hl hat hnv hob J hb E λb' w' hh=>hh
  |read v l ml hk hg hl hmm hall=>
   rw[h.guard O N X R q m hg];exact h.read I O M hn hfin.2 N X R q hi m U hk hl hmm hall E λb' w' hh=>hh
  |eff v s' l ml hg hsince hl J hv hmm hle=>
   rw[h.guard O N X R q m hg];exact h.eff I O M hn hfin.2 N X R q hi m U hnm aB hsince hl J hv hmm E λb' w' hh=>hh
 rintro D b' w' hD ⟨L,sm,γ,F,h,I⟩;obtain⟨aK,F',X,k2,k3,h2⟩:=Lay.settles (A:=L) (L:=[]) (by simpa using h) λi hi=>hD i;have Z:=h2.chain;cases Z
 have hF:∀ x,¬F' x:=λx hx=>by
  obtain⟨A,i,B,si,aD,ob,e,_⟩:=h2.src x hx;simp at e
 obtain⟨p1,p2,p3⟩:=AeE (ops:=ops) (a:=a) (λj t p=>(O.dst j (ops[j]'(Oc p)) j t (Array.getElem?_eq_getElem (Oc p)) p).1) M.small r.ds;refine hQ γ b' w' h2.o ⟨by rw[h2.size,p1];exact M.size,by rw[p1];exact M.small,λt=>?_,?_⟩
 ·rw[p3]
  cases aF:Lb ops r.ds t with
  |some d=>
   obtain⟨q1,q2⟩:=Yl aF
   exact((h2.val d q1 (hD _) t q2).fits 8 d.ml (h2.dsok.ml d q1)).2 γ _ λx hx=>⟨(h2.ml d q1 (hD _) x hx).resolve_right (hF x),rfl,rfl,rfl,rfl⟩
  |none=>
   rw[h2.old t λj _ p=>by
    obtain⟨d,aH,aI⟩:=S j (Oc p)
    exact Yb aF d aH (by rw[aI];exact p)]
   exact(M.tm t).ext h2.o.ext h2.o.le
 rw[p2,h2.dfr];exact M.df.ext h2.o.ext h2.o.le
end Go.Mir
end
section
namespace Go.Proofs.YtmidbhnhcbpneaaGreatDoor.Top
open Go Go.RowKit Go.Lt Go.Mir YtmidbhnhcbpneaaGreatDoor.Dec
theorem Aai (pa pe:Addr) (w:World):CallsDIn Fence.wide (0-1) Tryz.prog 42 #[.pointer (some pa),.pointer (some pe)] .returning w λe m j=>e= .returned (.tuple #[])/\m= .returning/\j=w:=by
 refine callsDIn_of_wpSIn Tryz.func42 rfl trivial λl q x=>?_
 apply wpSIn_seq
 apply wpSIn_region
 simp[wpOpsSIn,go_sem,recoverD,x,Tryz.ntmps42,Exit.thenS]
 have r:(#[Value.pointer (some pa),Value.pointer (some pe)]++(Array.replicate 19 undef).setIfInBounds 5 Value.nilIface)= #[.pointer (some pa),.pointer (some pe),undef,undef,undef,undef,undef,.nilIface,undef,undef,undef,undef,undef,undef,undef,undef,undef,undef,undef,undef,undef]:=by kernel_rfl
 rw[r];refine wpSIn_of_wpIn rfl (wpIn_wide.2 ?_);obtain⟨p,hQ⟩:∃ p:Exit->Act->World->Prop,(λ(e:Exit) (a':Act) (j:World)=>bodyPostS Tryz.prog Tryz.f42 l q (λe m j=>e=Ending.returned (Value.tuple #[])/\m=FrameMode.returning/\j=w) e a' (l::q) j)=p:=⟨_,rfl⟩;rw[hQ];replace hQ:=Ab hQ;go_wp2;rw[<-hQ.o];cases l
 simp_all [bodyPostS,results,Tryz.results42]
def orac:AmK:=λf args=>
 match args.toList with
 | [.string s,.int .i64 p]=>if f=82/\0<=p/\p.toNat<=s.size/\s.size<=2000000 then
  some (.tuple #[.int .i64 ((Dec.Bq (s.data.toList.drop p.toNat)).1:Nat),.int .i64 (((if(Dec.Bq (s.data.toList.drop p.toNat)).2.2=0 then p.toNat+(Dec.Bq (s.data.toList.drop p.toNat)).2.1 else 0):Nat):Int),.int .i64 ((Dec.Bq (s.data.toList.drop p.toNat)).2.2:Nat)]) else none
 | [.string s,.int .u8 c]=>if f=63 then some (.int .i64 (Go.Lib.indexByte s.data.toList c.toNat.toUInt8)) else none
 |_=>none
theorem Anh (f:FuncId) (args:Array Value) (v:Value) (h:orac f args=some v) (w:World):Calls Tryz.prog f args w λe m=>e= .returned v/\Below w.heap.size w m:=by
 have j:args=args.toList.toArray:=rfl;unfold orac at h
 split at h
 ·rename_i s p hl
  split at h
  case isFalse=>cases h
  rename_i hc
  obtain⟨rfl,r,h2,q⟩:=hc;cases h;rw[j,hl];obtain⟨n,rfl⟩:∃ n:Nat,p=n:=⟨p.toNat,by omega⟩;simp only[Int.toNat_natCast]at h2 ⊢;refine(Pj s n w h2 q).mono λe m l=>l
 ·rename_i s c hl
  split at h
  case isFalse=>cases h
  rename_i hc
  subst hc;cases h;rw[j,hl];refine(Tryz.strings_IndexByte s c w).mono λe m l=>⟨l.1,?_⟩;rw[l.2];exact Below.refl _ _
 cases h
def Aop (P:Program):Bool:=P.funcs.toList.all λfn=> !(fn.name== "runtime.NumGoroutine")
theorem Aen {P:Program} (h:Aop P=true) (f:FuncId) (fn:Func) (hf:P.funcs[f]?=some fn):(fn.name== "runtime.NumGoroutine")=false:=by
 have:=List.all_eq_true.1 h fn (Array.mem_toList_iff.2 (Array.mem_of_getElem? hf))
 simpa using this
theorem Afc:Aop Tryz.prog=true:=by kernel_rfl
theorem AkK:(Tryz.prog).follows .mixedOrders=true:=by kernel_rfl
theorem env:Env Tryz.prog (Wq Tryz.prog) 42 orac:=
 ⟨Aen Afc,Aeh AkK (Aen Afc),Anh,by kernel_rfl,Aai⟩
def nowhere:AS:=⟨0,.nil,0⟩
theorem AfU (P:Program) (β:Ren) (w:World):WR P β nowhere.den w:=by
 have l:∀ (i:Nat) (o:Obj),nowhere.den.heap[i]?≠some o:=λi o h=>by
  rw[nowhere.heap,AS.at_none _ (by show ¬i<0;omega)]at h;cases h
 exact⟨λi o h=>absurd h (l i o),λi j x y m=>absurd m (l i x),rfl⟩
end Go.Proofs.YtmidbhnhcbpneaaGreatDoor.Top
end
