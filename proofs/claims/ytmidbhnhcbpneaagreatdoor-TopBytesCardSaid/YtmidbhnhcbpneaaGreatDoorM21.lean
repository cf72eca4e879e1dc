/- A part of the proof. -/
import Derived.Test.YtmidbhnhcbpneaaGreatDoorM5
import Derived.Test.YtmidbhnhcbpneaaGreatDoorM4
import Derived.Shelf.Strings.BuilderK
import Derived.Test.YtmidbhnhcbpneaaGreatDoorM3
import Derived.RegionTactic
import Derived.Deep.RegionWith
import Derived.Outline
import Derived.Laws.BytesString
import Derived.Laws.Cells
import Derived.Lib.AppendIntMem
import Derived.Lib.AtoiErrMem
import Derived.Lib.LaidTab
import Derived.Test.YtmidbhnhcbpneaaGreatDoorM15
import Derived.Test.YtmidbhnhcbpneaaGreatDoorM19
import Derived.Test.YtmidbhnhcbpneaaGreatDoorM18
import Derived.Test.YtmidbhnhcbpneaaGreatDoorM8
set_option linter.unusedVariables false
set_option linter.unusedSimpArgs false
set_option maxRecDepth 8000
set_option maxHeartbeats 8000000
section
namespace Go.Proofs.YtmidbhnhcbpneaaGreatDoor.Bld
open Go.RowKit Go.Lt
theorem Aob:(Tryz.prog.info? 129).map (·.size)=some 2:=by kernel_rfl
theorem Apm:liesAt Tryz.prog Tryz.prog.depth 129 (2/Tryz.prog.cellsOf 129) 0 129 1=true:=by kernel_rfl
theorem infoByte:(Tryz.prog.info? 5).map (λi=>(i.zero,i.size,i.bytes))=some (some (.int .u8 0),1,1):=by kernel_rfl
theorem neB5:129≠5:=by decide
abbrev IsB (B b:Nat) (l:List UInt8) (w:World):Prop:=Lib.IsBuilderF 129 5 B b (Lib.byteCells l) w
set_option maxRecDepth 100000 in
theorem Afg (b:Nat) (w:World) (h0:w.cell? ⟨b,0,none⟩=some (.pointer none)) (hsh:w.shape? b=some (129,2)) (hfz:w.frozen? ⟨b,0,none⟩=false):
  Calls Tryz.prog 104 #[.pointer (some ⟨b,0,none⟩)] w λe p=>e= .returned (.tuple #[])/\p=w.setCell ⟨b,0,none⟩ (.pointer (some ⟨b,0,none⟩)):=by
 obtain⟨j,m,l⟩:=Option.map_eq_some_iff.1 Aob
 go_enter Tryz.func104,Tryz.ntmps104
 go_wp2;rw[Lib.run_to_unsafe w ⟨b,0,none⟩ Tryz.underlying126 Tryz.underlying226 m (by rw[l];decide) hsh (Nat.zero_lt_succ 1)];simp only[Result.andThen];rw[Oper.upon_value];go_wp2;rw[run_callFunc_extern Tryz.func138 (by kernel_rfl) (by kernel_rfl) (by kernel_rfl) (e:=Extern.AbiNoEscape.same) (by kernel_rfl)];rw[Lib.run_noEscape];simp only[Result.andThen];rw[Oper.upon_value];go_wp2;rw[Lib.run_from_unsafe w ⟨b,0,none⟩ Tryz.underlying226 Tryz.underlying126 m hsh Apm];simp only[Result.andThen];rw[Oper.upon_value];go_wp2
 go_end0
 exact⟨rfl,rfl⟩
set_option maxRecDepth 100000 in
theorem Ags (b:Nat) (w:World) (h0:w.cell? ⟨b,0,none⟩=some (.pointer (some ⟨b,0,none⟩))):
  Calls Tryz.prog 104 #[.pointer (some ⟨b,0,none⟩)] w λe m=>e= .returned (.tuple #[])/\m=w:=by
 obtain⟨j,l,_⟩:=Option.map_eq_some_iff.1 Aob
 go_enter Tryz.func104,Tryz.ntmps104
 go_wp2;rw[Lib.run_neq_ptr_same w _ Tryz.underlying126 l];go_wp2
 go_end0
 exact⟨rfl,rfl⟩
theorem AhE (B b:Nat) (bs:List Value) (w:World) (h:Lib.IsBuilderF 129 5 B b bs w):
  Calls Tryz.prog 104 #[.pointer (some ⟨b,0,none⟩)] w λe j=>e= .returned (.tuple #[])/\(Lib.BuilderAtF 129 5 B b (.pointer (some ⟨b,0,none⟩)) bs j/\Below B w j/\Lib.OthersKept 5 (some b) w j):=by
 rcases h with h|h
 ·refine(Afg b w h.cell0 h.shape h.frozen0).mono ?_;rintro e j ⟨rfl,rfl⟩
  exact⟨rfl,h.used _,(Below.refl B w).setCell (p:=⟨b,0,none⟩) h.1 _,(Lib.OthersKept.refl _ _ w).setCell ⟨b,0,none⟩ rfl _⟩
 refine(Ags b w h.cell0).mono ?_;rintro e j ⟨rfl,rfl⟩
 exact⟨rfl,h,Below.refl B _,Lib.OthersKept.refl _ _ _⟩
set_option maxRecDepth 100000 in
theorem write_byte (B b:Nat) (bs:List Value) (c:Int) (w:World) (h:Lib.IsBuilderF 129 5 B b bs w) (hlen:bs.length+1<=140737488355328) (hBw:B<=w.heap.size):
  Calls Tryz.prog 69 #[.pointer (some ⟨b,0,none⟩),.int .u8 c] w λe U=>e= .returned .nilIface/\(Lib.BuilderAtF 129 5 B b (.pointer (some ⟨b,0,none⟩)) (bs++ [.int .u8 c]) U/\Below B w U/\Lib.OthersKept 5 (some b) w U):=by
 obtain⟨i0,hi,O,R,S⟩:=info_parts infoByte
 go_enter Tryz.func69,Tryz.ntmps69
 go_wp2_with (go_at_call 104;refine(AhE B b bs _ h).mono ?_)
 rintro e D ⟨rfl,A,x,J⟩;obtain⟨X,v,z,m,N⟩:=A
 have c0:D.cell? ⟨b,0,none⟩=some (.pointer (some ⟨b,0,none⟩)):=by rw[Lib.cell_of_heap z];rfl
 have c1:D.cell? ⟨b,1,none⟩=some v:=by rw[Lib.cell_of_heap z];rfl
 go_wp2_with (at_builtin;refine wpList_append_ownF _ rfl _ _ 127 rfl B 5 i0 (.int .u8 0) 1 1 Tryz.underlying127 hi O R S rfl (by decide) _ _ _ rfl (m.alloc _) ⟨D.heap.size,0,none⟩ 1 1 [.int .u8 c] rfl rfl ?c1 ?c2 ?c3 ?c4 ?c5 ?_)
 case c1=>
  intro j u E
  match j,E with
  |0,E=>simp at E;subst E;simp[Addr.add]
 case c2=>intro u Y;simp at Y;subst Y;rfl
 case c3=>unfold maxLen;omega
 case c4=>omega
 case c5=>have:=x.size;simp;omega
 intro v' F q l _
 have M:b<D.heap.size:=by
  rcases Nat.lt_or_ge b D.heap.size with I|I
  ·exact I
  simp[Array.getElem?_eq_none I]at z
 have y:F.heap[b]?=some (.cells #[.pointer (some ⟨b,0,none⟩),v] 129 (0,0)):=by
  rw[l.block b (by simp;omega) (λe=>N e.symm),Lib.alloc_old D _ b M];exact z
 have d0:F.cell? ⟨b,0,none⟩=some (.pointer (some ⟨b,0,none⟩)):=by rw[Lib.cell_of_heap y];rfl
 have d1:F.cell? ⟨b,1,none⟩=some v:=by rw[Lib.cell_of_heap y];rfl
 have f1:F.frozen? ⟨b,1,none⟩=false:=Lib.frozen_of_heap y 1
 obtain⟨g,r,rfl⟩:∃ g r,v'= .slice (some ⟨g,0,none⟩) (bs.length+1) r:=by
  rcases q.2 with⟨_,h0⟩|⟨g,r,Z,fz,hv,_⟩
  ·omega
  exact⟨g,r,hv⟩
 go_wp2;go_ret;refine⟨rfl,?_,?_,((J.alloc _).grown l (Lib.ownsRowF_kind (m.alloc _))).setCell ⟨b,1,none⟩ rfl _⟩
 ·exact Lib.BuilderAtF.put (T:=129) (e:=5) X y (bs':=bs++ [.int .u8 c]) (by simpa using q) neB5
 exact((x.alloc (by have:=x.size;omega) _).grown l (by have:=x.size;simp;omega) (λk hk=>(m.lt k hk).1)).setCell (p:=⟨b,1,none⟩) X _
set_option maxRecDepth 100000 in
theorem write_string (B b:Nat) (bs:List Value) (s:ByteArray) (w:World) (h:Lib.IsBuilderF 129 5 B b bs w) (hlen:bs.length+s.size<=140737488355328) (hBw:B<=w.heap.size):
  Calls Tryz.prog 64 #[.pointer (some ⟨b,0,none⟩),.string s] w λe S=>e= .returned (.tuple #[.int .i64 s.size,.nilIface])/\(Lib.BuilderAtF 129 5 B b (.pointer (some ⟨b,0,none⟩)) (bs++Lib.strCells s) S/\Below B w S/\Lib.OthersKept 5 (some b) w S):=by
 obtain⟨i0,hi,N,O,R⟩:=info_parts infoByte
 go_enter Tryz.func64,Tryz.ntmps64
 go_wp2_with (go_at_call 104;refine(AhE B b bs _ h).mono ?_)
 rintro e z ⟨rfl,A,y,F⟩;obtain⟨X,v,r,l,J⟩:=A
 have c0:z.cell? ⟨b,0,none⟩=some (.pointer (some ⟨b,0,none⟩)):=by rw[Lib.cell_of_heap r];rfl
 have c1:z.cell? ⟨b,1,none⟩=some v:=by rw[Lib.cell_of_heap r];rfl
 go_wp2_with (at_builtin;refine Lib.wpList_append_own_stringF _ rfl _ _ 127 9 rfl B 5 i0 Tryz.underlying127 Tryz.underlying9 hi N O R _ _ _ rfl l s rfl ?c3 ?c4 ?c5 ?_)
 case c3=>unfold maxLen;omega
 case c4=>omega
 case c5=>have:=y.size;omega
 intro v' D m j _
 have I:b<z.heap.size:=by
  rcases Nat.lt_or_ge b z.heap.size with E|E
  ·exact E
  simp[Array.getElem?_eq_none E]at r
 have q:D.heap[b]?=some (.cells #[.pointer (some ⟨b,0,none⟩),v] 129 (0,0)):=by
  rw[j.block b I (λe=>J e.symm)];exact r
 have d0:D.cell? ⟨b,0,none⟩=some (.pointer (some ⟨b,0,none⟩)):=by rw[Lib.cell_of_heap q];rfl
 have d1:D.cell? ⟨b,1,none⟩=some v:=by rw[Lib.cell_of_heap q];rfl
 have f1:D.frozen? ⟨b,1,none⟩=false:=Lib.frozen_of_heap q 1
 obtain⟨U,Y,x,rfl⟩:∃ U Y x,v'= .slice U Y x:=by
  rcases m.2 with⟨M,_⟩|⟨g,x,Z,fz,M,_⟩
  ·exact⟨_,_,_,M⟩
  exact⟨_,_,_,M⟩
 go_wp2
 go_ret2
 refine⟨rfl,?_,?_,(F.grown j (Lib.ownsRowF_kind l)).setCell ⟨b,1,none⟩ rfl _⟩
 ·exact Lib.BuilderAtF.put (T:=129) (e:=5) X q (bs':=bs++Lib.strCells s) (by simpa[Lib.strCells_length] using m) neB5
 exact(y.grown j (by have:=y.size;omega) (λk hk=>(l.lt k hk).1)).setCell (p:=⟨b,1,none⟩) X _
end Go.Proofs.YtmidbhnhcbpneaaGreatDoor.Bld
end
section
namespace Go.Proofs.YtmidbhnhcbpneaaGreatDoor.Dec
open Go.RowKit Go.Lt YtmidbhnhcbpneaaGreatDoor.Lit
def Sr (w:World):Prop:=Lib.TabIs Tryz.prog w "internal/strconv.uint64pow10" .u64 Lib.pow10Tab
theorem Aoq:Tryz.prog.globalNamed "internal/strconv.uint64pow10" =some 3:=by kernel_rfl
theorem Sr.below {w w':World} (h:Sr w) (hb:Below w.heap.size w w'):Sr w':=by
 unfold Sr Lib.TabIs World.var? at*;rw[Aoq]at*
 have l:3<w.heap.size:=by
  rcases Nat.lt_or_ge 3 w.heap.size with j|j
  ·exact j
  simp[Array.getElem?_eq_none j]at h
 simp only[Option.bind_some]at*;rw[hb.block _ l];exact h
theorem Acb (n:Int) (h0: -9223372036854775808<=n) (h1:n<=9223372036854775807) (w:World) (hp:Sr w):
  Calls Tryz.prog 68 #[.int .i64 n] w λe l=>e= .returned (.string ⟨(Lib.itoa n).toArray⟩)/\Below w.heap.size w l:=by
 have H:=Ab (Tryz.strconv_Itoa n h0 h1 w hp);clear h0 h1
 go_enter Tryz.func68,Tryz.ntmps68
 go_wp2_with fail
 refine H.o.mono ?_;rintro e l ⟨rfl,k,j,rfl⟩;have m:=Lib.below_grow w.heap.size w (Nl _) k j;generalize Sort.grow (w.drewN k) j=p at*;go_wp2;go_ret
 exact⟨rfl,m⟩
end Go.Proofs.YtmidbhnhcbpneaaGreatDoor.Dec
end
section
namespace Go.Proofs.YtmidbhnhcbpneaaGreatDoor.Top
open Go Go.RowKit Go.Lt YtmidbhnhcbpneaaGreatDoor.Lit YtmidbhnhcbpneaaGreatDoor.Dec
open YtmidbhnhcbpneaaGreatDoor.Circ (T3 enc3 RdT Sl Cv Ae)
abbrev tstr (l:Txt):Value:= .string ⟨l.toArray⟩
theorem Adv:∀ l:List Txt,Lib.join l [32]=Gp l
 | []=>rfl
 | [x]=>by rw[Lib.join_one];rfl
 |x::y::r=>by
  have j:=Adv (y::r)
  show[32].intercalate (x::y::r)=x++32::Gp (y::r)
  rw[<-j]
  show[32].intercalate (x::y::r)=x++32:: [32].intercalate (y::r)
  simp[List.intercalate,List.intersperse]
theorem Aer (n:Nat):Lib.itoa (n:Int)=Lib.decDigits n:=by unfold Lib.itoa;rw[if_neg (by omega),Int.toNat_natCast]
theorem Ks {α:Type} {pre post full:Txt} {f:α->Txt} {l:List α} {k:Nat} {x:α} (h:full=pre++(l.flatMap f++post)) (hx:l[k]?=some x):(pre++(l.take k).flatMap f).length+(f x).length<=full.length:=by
 obtain⟨j,e⟩:=List.getElem?_eq_some_iff.1 hx
 have h2:l.flatMap f=(l.take k).flatMap f++(f x++(l.drop (k+1)).flatMap f):=by
  conv=>lhs;rw[<-List.take_append_drop k l,List.drop_eq_getElem_cons j,e,List.flatMap_append,List.flatMap_cons]
 rw[h,h2];simp only[List.length_append];omega
theorem Gh {α:Type} {pre:Txt} {f:α->Txt} {l:List α} {k:Nat} {x:α} (hx:l[k]?=some x):pre++(l.take (k+1)).flatMap f=(pre++(l.take k).flatMap f)++f x:=by
 rw[Cy hx,List.flatMap_append,List.append_assoc];simp
theorem Akl {B b:Nat} {l:List UInt8} {W W':World} (h:Bld.IsB B b l W) (hb:Below W.heap.size W W'):Bld.IsB B b l W':=by
 have j:∀ p,Lib.BuilderAtF 129 5 B b p (Lib.byteCells l) W->Lib.BuilderAtF 129 5 B b p (Lib.byteCells l) W':=λp h=>by
  have y:=h.lt;obtain⟨O,v,E,h2,F⟩:=h;refine⟨O,v,(hb.block b y).trans E,?_,F⟩;obtain⟨I,r⟩:=h2;refine⟨I,?_⟩
  rcases r with r|⟨g,m,q,D,J,M,z,N⟩
  ·exact .inl r
  exact .inr ⟨g,m,q,D,J,M,(hb.block g (Array.getElem?_eq_some_iff.1 z).1).trans z,N⟩
 exact h.elim (λx=> .inl (j _ x)) (λx=> .inr (j _ x))
theorem AdQ {B:Nat} {W:World} (hB:B<=W.heap.size):Bld.IsB B W.heap.size [] (W.alloc (.cells #[.pointer none,.slice none 0 0] 129)):=
 .inl ⟨hB,.slice none 0 0,heap_alloc_new W _,World.ownsRowF_nil _ _ _ _,by simp[Value.ownBlock]⟩
theorem Anx {B b:Nat} {l:List UInt8} {W:World} (h:Bld.IsB B b l W):∃ cs,Blk W b 129 cs:=by
 rcases h with⟨_,v,h,_⟩|⟨_,v,h,_⟩
 ·exact⟨_,h⟩
 exact⟨_,h⟩
theorem He {b g:Nat} {t:TypeId} {cs:Array Value} {W W':World} (h:Lib.OthersKept 5 (some b) W W') (hb:Blk W g t cs) (hg:g≠b) (ht:t≠5):Blk W' g t cs:=
 h g _ hb (by simpa using hg) (λc j e=>by injection e with _ e2 _;exact ht e2)
structure WrM (w:World) (b:Nat) (txt:Txt) (W:World):Prop where
 bld:Bld.IsB w.heap.size b txt W
 bel:Below w.heap.size w W
theorem WrM.lt {w W:World} {b:Nat} {txt:Txt} (h:WrM w b txt W):b<W.heap.size:=by obtain⟨l,j⟩:=Anx h.bld;exact j.lt
theorem WrM.after {w W W':World} {b:Nat} {txt:Txt} (h:WrM w b txt W) (hb:Below W.heap.size W W'):WrM w b txt W':=
 ⟨Akl h.bld hb,h.bel.trans (hb.mono h.bel.size)⟩
theorem Jl {w W:World} {b:Nat} {txt u:Txt} (hM:WrM w b txt W) (hl:txt.length+u.length<=2000000):
  Calls Tryz.prog 64 #[.pointer (some ⟨b,0,none⟩),tstr u] W λe W'=>(∃n:Int,e= .returned (.tuple #[.int .i64 n,.nilIface]))/\WrM w b (txt++u) W'/\Lib.OthersKept 5 (some b) W W':=by
 have m:(⟨u.toArray⟩:ByteArray).size=u.length:=by show u.toArray.size=_;simp
 refine(Bld.write_string w.heap.size b (Lib.byteCells txt) ⟨u.toArray⟩ W hM.bld (by rw[Lib.byteCells_length,m];omega) hM.bel.size).mono ?_;rintro e W' ⟨rfl,j,h2,l⟩;refine⟨⟨_,rfl⟩,⟨.inr ?_,hM.bel.trans h2⟩,l⟩;rw[Lib.byteCells_append];exact j
theorem AaH {w W:World} {b:Nat} {txt:Txt} (c:UInt8) (hM:WrM w b txt W) (hl:txt.length<=2000000):
  Calls Tryz.prog 69 #[.pointer (some ⟨b,0,none⟩),.int .u8 (bt c)] W λe W'=>e= .returned .nilIface/\WrM w b (txt++ [c]) W'/\Lib.OthersKept 5 (some b) W W':=by
 refine(Bld.write_byte w.heap.size b (Lib.byteCells txt) (bt c) W hM.bld (by rw[Lib.byteCells_length];omega) hM.bel.size).mono ?_;rintro e W' ⟨rfl,j,h2,l⟩;refine⟨rfl,⟨.inr ?_,hM.bel.trans h2⟩,l⟩;rw[Lib.byteCells_append];exact j
theorem built {w W:World} {b:Nat} {txt:Txt} (hM:WrM w b txt W):
  Calls Tryz.prog 66 #[.pointer (some ⟨b,0,none⟩)] W λe W'=>e= .returned (tstr txt)/\Below w.heap.size w W':=
 (Tryz.Builder_String_any_k w.heap.size b txt W hM.bld hM.bel.size).mono (λe W' h=>⟨h.1,hM.bel.trans h.2.2.1⟩)
theorem AlY:(Tryz.prog.info? 9).map (λi=>(i.zero,i.size,i.bytes))=some (some (.string ⟨#[]⟩),1,16):=by kernel_rfl
def Iz (ns:List Nat) (k:Nat):List Value:=(ns.take k).map (λn=>tstr (Lib.decDigits n))++List.replicate (ns.length-k) (.string ⟨#[]⟩)
theorem AgM (ns:List Nat) (k:Nat):(Iz ns k).length=ns.length:=by unfold Iz;simp;omega
theorem Agg {ns:List Nat} {k n:Nat} (h:ns[k]?=some n):(Iz ns k).set k (tstr (Lib.decDigits n))=Iz ns (k+1):=by
 obtain⟨l,e⟩:=List.getElem?_eq_some_iff.1 h;unfold Iz
 have j:k-((ns.take k).map (λn=>tstr (Lib.decDigits n))).length=0:=by simp;omega
 rw[List.set_append_right _ _ (by simp;omega),j,show ns.length-k=(ns.length-(k+1))+1 by omega,List.replicate_succ,List.set_cons_zero,Cy h,List.map_append,List.append_assoc];rfl
theorem AgJ (ns:List Nat):Iz ns ns.length=ns.map (λn=>tstr (Lib.decDigits n)):=by unfold Iz;simp
theorem AjW (n:Nat):madeCells (Value.string ⟨#[]⟩).cells (n*1)=(List.replicate n (Value.string ⟨#[]⟩)).toArray:=by
 apply Array.ext
 ·simp[madeCells]
 intro i j h2;simp[madeCells,Value.cells,Nat.mod_one]
theorem Lg (ns:List Nat) (h:∀ n∈ns,n<1000000000) (h7:ns.length<=7):(Gp (ns.map Lib.decDigits)).length<=70:=by
 have:=AdL ns h
 omega
theorem Hj (A:Option Addr) (c:Nat) (ns:List Nat) (w:World) (hr:Rd w A ns.length (nvs ns)) (h7:ns.length<=7) (hn:∀ n∈ns,n<1000000000) (hp:Sr w):
  Calls Tryz.prog 65 #[.slice A ns.length c] w λe w'=>e= .returned (tstr (By ns))/\Below w.heap.size w w':=by
 obtain⟨N,r⟩:∃ N,N=ns.length:=⟨_,rfl⟩;rw[<-r]at hr h7 ⊢
 have aJ:(N:Int)<=7:=by omega
 obtain⟨W1,y,b1,U⟩:=Bb w (List.replicate N (Value.string ⟨#[]⟩)).toArray 9;have aD:Hid (Blk W1 w.heap.size 9 (Iz ns 0).toArray/\Below w.heap.size w W1):=Ab ⟨by unfold Iz;rw[<-r];simpa using b1,U⟩;have aH:=Ab (AjW N);have Y:=Ab (Lg ns hn (by omega))
 have E:Hid (tstr (By ns)= .string (⟨(Lib.join ((ns.map (λn=>(⟨(Lib.decDigits n).toArray⟩:ByteArray))).map (·.data.toList)) ((⟨#[32]⟩:ByteArray).data.toList)).toArray⟩++⟨#[10]⟩)):=Ab (by
  have M:((ns.map (λn=>(⟨(Lib.decDigits n).toArray⟩:ByteArray))).map (·.data.toList))=ns.map Lib.decDigits:=by rw[List.map_map];apply List.map_congr_left;intro n _;rfl
  rw[M]
  show tstr (By ns)= .string (⟨(Lib.join (ns.map Lib.decDigits) [32]).toArray⟩++⟨#[10]⟩)
  rw[Adv,ByteArray.mk_append_mk];unfold By
  simp)
 have O:=Ab (λ(n:Nat) (hn:n<1000000000) (W:World) (hb:Below w.heap.size w W)=>(Acb (n:Int) (by omega) (by omega) W (hp.below hb)).mono (R':=λe w'=>e= .returned (tstr (Lib.decDigits n))/\Below W.heap.size W w') (λe w' h=>⟨by rw[h.1,Aer],h.2⟩));have aI:=Ab hn;replace r:=Ab r;replace y:=Ab y;clear hn hp b1 U
 go_enter Tryz.func65,Tryz.ntmps65
 go_upto_region 2 with(at_make;refine Us rfl _ _ _ rfl 9 Tryz.underlying177 AlY N (by rfl) (by rfl) (by omega) (by omega) ?_;rw[aH.o,y.o])
 clear y;generalize aB:w.heap.size=D at*;go_wp2
 go_loopw [4,5,11] (λ_ _ i wr=>∃ k:Nat,i= .int .i64 k/\k<=N/\Hid (Blk wr D 9 (Iz ns k).toArray/\Below D w wr)) (λ_ _ i _=>N-(intOf i).toNat)
 case atStart=>exact⟨0,rfl,Nat.zero_le _,aD⟩
 case round=>
  obtain⟨k,rfl,hk,m⟩:=hrel
  by_cases Z:k<N
  ·have aA:(k:Int)<N:=by omega
   obtain⟨ad,n,rfl,_,hy,cy⟩:=(hr.below m.o.2 (Nat.le_of_eq aB)).get (f:=λn:Nat=>Value.int .i64 n) Z;have aC:=aI.o n (List.mem_of_getElem? hy);have HD:=Ab (O.o n aC wr m.o.2);have q:=Ab (Agg hy)
   have aK:(n:Int)<1000000000:=by omega
   obtain⟨S,hS⟩:∃ S:ByteArray,⟨(Lib.decDigits n).toArray⟩=S:=⟨_,rfl⟩;dsimp only[tstr]at HD q;rw[hS]at HD q
   have aF:k<(Iz ns k).toArray.size:=by rw[List.size_toArray,AgM];have:=r.o;omega
   clear hy hS aC
   go_wp2_with fail
   refine HD.o.mono ?_;rintro e w3 ⟨rfl,l⟩;have b3:=m.o.1.below l m.o.1.lt;have cz:∃ z,w3.cell? ⟨D,k,none⟩=some z:=⟨_,(b3.cell k).trans (Array.getElem?_eq_getElem aF)⟩;obtain⟨z,cz⟩:=cz;have fz:=b3.frozen k
   have aE:Hid (Blk (w3.setCell ⟨D,k,none⟩ (.string S)) D 9 (Iz ns (k+1)).toArray/\Below D w (w3.setCell ⟨D,k,none⟩ (.string S))):=by
    have e:=b3.set_ k (.string S);rw[show(Iz ns k).toArray.setIfInBounds k (.string S)=(Iz ns (k+1)).toArray by rw[<-q.o];simp]at e;exact Ab ⟨e,(m.o.2.trans (l.mono (Nat.le_of_lt m.o.1.lt))).setCell (p:=⟨D,k,none⟩) (Nl _) _⟩
   clear HD m b3 l cy;go_wp2;go_roundw
   case rel=>exact⟨k+1,by go_num,Z,aE⟩
   case measure=>simp[intOf];omega
  obtain rfl:N=k:=by omega
  have aA:¬ (N:Int)<N:=by omega
  have hJ:=Ab (Tryz.strings_Join D 0 N (ns.map (λn=>(⟨(Lib.decDigits n).toArray⟩:ByteArray))) ⟨#[32]⟩ wr (λj x I=>by
   have hb:=m.o.1;rw[show N=ns.length from r.o,AgJ]at hb;rw[Nat.zero_add,hb.cell j];rw[List.getElem?_map]at I
   cases hq:ns[j]? with
   |none=>rw[hq]at I;cases I
   |some n=>rw[hq]at I;injection I with I;rw[<-I];simp[hq]) m.o.1.lt (by simp;have:=r.o;omega) (by simp;have:=r.o;omega) (by
    have M:((ns.map (λn=>(⟨(Lib.decDigits n).toArray⟩:ByteArray))).map (·.data.toList))=ns.map Lib.decDigits:=by rw[List.map_map];apply List.map_congr_left;intro n _;rfl
    rw[M]
    show(Lib.join (ns.map Lib.decDigits) [32]).length<=_
    rw[Adv]
    have:=Y.o
    omega))
  have R:(⟨(Lib.join ((ns.map (λn=>(⟨(Lib.decDigits n).toArray⟩:ByteArray))).map (·.data.toList)) ((⟨#[32]⟩:ByteArray).data.toList)).toArray⟩:ByteArray).size<=70:=by
   have M:((ns.map (λn=>(⟨(Lib.decDigits n).toArray⟩:ByteArray))).map (·.data.toList))=ns.map Lib.decDigits:=by rw[List.map_map];apply List.map_congr_left;intro n _;rfl
   rw[M]
   show(Lib.join (ns.map Lib.decDigits) [32]).toArray.size<=_
   rw[Adv,List.size_toArray];exact Y.o
  rw[show(ns.map (λn=>(⟨(Lib.decDigits n).toArray⟩:ByteArray))).length=N by simp;exact r.o.symm]at hJ;generalize (⟨(Lib.join ((ns.map (λn=>(⟨(Lib.decDigits n).toArray⟩:ByteArray))).map (·.data.toList)) ((⟨#[32]⟩:ByteArray).data.toList)).toArray⟩:ByteArray)=J at*
  have aL:(9223372036854775807<J.size+1)=False:=by apply eq_false;omega
  have B:=m.o.2;have F:=Ab (show Hid (tstr (By ns)= .string (J++⟨#[10]⟩)) from E);replace R:=Ab R;replace B:=Ab B;clear m E
  go_wp2_with fail
  refine hJ.o.mono ?_;rintro e w3 ⟨rfl,l⟩;have X:=Ab (B.o.trans (l.mono (by have:=B.o.size;omega)));clear hJ l;go_wp2;go_ret
  exact⟨by rw[F.o.o];rfl,by rw[aB];exact X.o⟩
theorem AoT {W5:World} {g n:Nat} {ns:List Nat} (hb:Blk W5 g 3 (nvs ns).toArray) (hn:ns.length=n):Rd W5 (some ⟨g,0,none⟩) n (nvs ns):=by
 subst hn;refine⟨by simp,λk j=>?_⟩
 have e:(nvs ns)[k]?=some (.int .i64 ((ns[k]'j:Nat):Int)):=by unfold nvs;rw[List.getElem?_map,List.getElem?_eq_getElem j];rfl
 refine⟨_,_,rfl,hb.lt,e,?_⟩
 have:(⟨g,0,none⟩:Addr).add k=⟨g,k,none⟩:=by unfold Addr.add;split<;>simp_all
 rw[this,hb.cell k]
 simpa using e
theorem Um {W5:World} {g n:Nat} {ns:List Nat} (hb:Blk W5 g 3 (nvs ns).toArray) (hn:ns.length=n) (h7:n<=7) (hlt:∀ y∈ns,y<1000000000) (hp:Sr W5):
  Calls Tryz.prog 65 #[.slice (some ⟨g,0,none⟩) n n] W5 λe j=>e= .returned (tstr (By ns))/\Below W5.heap.size W5 j:=by
 have h:=Hj (some ⟨g,0,none⟩) n ns W5 (AoT hb rfl) (by omega) hlt hp;rw[hn]at h;exact h
structure WrC (w:World) (t:TypeId) (cs:Array Value) (txt:Txt) (W:World):Prop where
 m:WrM w (w.heap.size+1) txt W
 box:Blk W w.heap.size t cs
 ty:t≠5
theorem WrC.after {w W W':World} {t:TypeId} {cs:Array Value} {txt:Txt} (h:WrC w t cs txt W) (hb:Below W.heap.size W W'):WrC w t cs txt W':=⟨h.m.after hb,h.box.below hb h.box.lt,h.ty⟩
theorem WrC.put {w W W':World} {t:TypeId} {cs:Array Value} {txt u:Txt} (h:WrC w t cs txt W) (h1:WrM w (w.heap.size+1) u W') (h2:Lib.OthersKept 5 (some (w.heap.size+1)) W W'):WrC w t cs u W':=
 ⟨h1,He h2 h.box (by omega) h.ty,h.ty⟩
structure Agx (c:Cir):Prop where
 ins:∀ x∈c.ins,x<1000000000
 lat:∀ x∈c.lat,x.a<1000000000/\x.b<1000000000/\x.c<1000000000
 outs:∀ x∈c.outs,x<1000000000
 bads:∀ x∈c.bads,x<1000000000
 cons:∀ x∈c.cons,x<1000000000
 gat:∀ x∈c.gat,x.a<1000000000/\x.b<1000000000/\x.c<1000000000
theorem Agx.of {c:Cir} (h:Afy c):Agx c:=by
 have l:=h.max;refine⟨λx j=>?_,λx j=>?_,λx j=>?_,λx j=>?_,λx j=>?_,λx j=>?_⟩
 ·have:=h.ins x j;omega
 ·have:=h.lat x j;omega
 ·have:=h.outs x j;omega
 ·have:=h.bads x j;omega
 ·have:=h.cons x j;omega
 have:=h.gat x j;omega
def Tj (n:Nat):Txt:=By [n]
theorem Ls (l:List Nat):Bw l=l.flatMap Tj:=rfl
def Dn (c:Cir):List (List Nat):=[c.outs,c.bads,c.cons]
theorem Acj {x:Bp} (hl:Mx x) {r:List Nat} (h:r∈Dn x.c):r.length<=16777216:=by
 unfold Dn at h;simp at h
 rcases h with rfl|rfl|rfl
 ·exact hl.outs
 ·exact hl.bads
 exact hl.cons
theorem AcB {c:Cir} (h:Agx c) {r:List Nat} (hr:r∈Dn c):∀ y∈r,y<1000000000:=by
 unfold Dn at hr;simp at hr
 rcases hr with rfl|rfl|rfl
 ·exact h.outs
 ·exact h.bads
 exact h.cons
def AiO (v:Cv):Array Value:= #[sv v.outs,sv v.bads,sv v.cons]
theorem AcJ {W:World} {v:Cv} {x:Bp} (hr:RdC W v x) {k:Nat} (hk:k<3):∃ s:Sl,∃r,(AiO v)[k]?=some (sv s)/\(Dn x.c)[k]?=some r/\s.n=r.length:=by
 match k with
 |0=>exact⟨v.outs,x.c.outs,rfl,rfl,hr.nOuts⟩
 |1=>exact⟨v.bads,x.c.bads,rfl,rfl,hr.nBads⟩
 |2=>exact⟨v.cons,x.c.cons,rfl,rfl,hr.nCons⟩
 |k+3=>omega
theorem AeW {W:World} {v:Cv} {x:Bp} (hr:RdC W v x) {k:Nat} {s:Sl} {r:List Nat} (h1:(AiO v)[k]?=some (sv s)) (h2:(Dn x.c)[k]?=some r):Rd W s.A s.n (nvs r):=by
 match k with
 |0=>injection h1 with h1;injection h2 with h2;injection h1 with e1 e2 e3;rw[<-e1,<-e2,<-h2];exact hr.outs
 |1=>injection h1 with h1;injection h2 with h2;injection h1 with e1 e2 e3;rw[<-e1,<-e2,<-h2];exact hr.bads
 |2=>injection h1 with h1;injection h2 with h2;injection h1 with e1 e2 e3;rw[<-e1,<-e2,<-h2];exact hr.cons
 |k+3=>simp[Dn]at h2
def Aet (c:Cir):Txt:=Bw c.ins
def Adc (c:Cir):Txt:=Aet c++c.lat.flatMap Jz
def Ahm (c:Cir):Txt:=Adc c++(Dn c).flatMap Bw
theorem ApC (c:Cir):Ew c= []++(c.ins.flatMap Tj++(c.lat.flatMap Jz++Bw c.outs++Bw c.bads++Bw c.cons++c.gat.flatMap Nn)):=by
 unfold Ew;simp only[List.nil_append,List.append_assoc];rfl
theorem Apx (c:Cir):Ew c=Aet c++(c.lat.flatMap Jz++(Bw c.outs++Bw c.bads++Bw c.cons++c.gat.flatMap Nn)):=by
 unfold Ew Aet;simp only[List.append_assoc]
theorem Amr (c:Cir):Ew c=Ahm c++(c.gat.flatMap Nn++ []):=by
 unfold Ew Ahm Adc Aet Dn;simp only[List.flatMap_cons,List.flatMap_nil,List.append_nil,List.append_assoc]
theorem Apr {c:Cir} {k:Nat} {r:List Nat} (h:(Dn c)[k]?=some r):Ew c=(Adc c++((Dn c).take k).flatMap Bw)++(r.flatMap Tj++(((Dn c).drop (k+1)).flatMap Bw++c.gat.flatMap Nn)):=by
 obtain⟨j,e⟩:=List.getElem?_eq_some_iff.1 h
 have h2:(Dn c).flatMap Bw=((Dn c).take k).flatMap Bw++(Bw r++((Dn c).drop (k+1)).flatMap Bw):=by
  conv=>lhs;rw[<-List.take_append_drop k (Dn c),List.drop_eq_getElem_cons j,e,List.flatMap_append,List.flatMap_cons]
 rw[Amr];unfold Ahm;rw[h2,<-Ls];simp only[List.append_assoc,List.append_nil]
theorem AfW {n:Nat} (h:n<=1000000):n<=2000000:=by omega
theorem AeJ (m:Int) (v:Cv) (x:Bp) (w:World) (hr:RdC w v x) (hl:Mx x) (ho:Agx x.c) (hfull:(Ew x.c).length<=1000000) (hp:Sr w):
  Calls Tryz.prog 27 #[.agg (Ae m v)] w λe w'=>e= .returned (tstr (Ew x.c))/\Below w.heap.size w w':=by
 have bI:=Ab (λ(W:World) (hb:Below w.heap.size w W) (k:Nat) (hk:k<3)=>AcJ (hr.below hb (Nl _)) hk);have bG:=Ab (λ(W:World) (hb:Below w.heap.size w W) (k:Nat) (s:Sl) (r:List Nat) (h1:(AiO v)[k]?=some (sv s)) (h2:(Dn x.c)[k]?=some r)=>AeW (hr.below hb (Nl _)) h1 h2);obtain⟨ls,aW⟩:∃ ls,ls=AiO v:=⟨_,rfl⟩;rw[<-aW]at bI bG;obtain⟨⟨A1,M1,C1⟩,⟨A2,M2,C2⟩,⟨A3,M3,C3⟩,⟨A4,M4,C4⟩,⟨A5,M5,C5⟩,⟨A6,M6,C6⟩,⟨A7,M7,C7⟩,aQ⟩:=v;simp only[Ae];obtain⟨W2,aF,q0,q1,bS,bL⟩:=Qd w #[.int .i64 m,.slice A1 M1 C1,.slice A2 M2 C2,.slice A3 M3 C3,.slice A4 M4 C4,.slice A5 M5 C5,.slice A6 M6 C6,.slice A7 M7 C7,.string aQ] #[.pointer none,.slice none 0 0] 31 129;obtain⟨cs,aU⟩:∃ cs:Array Value,cs= #[.int .i64 m,.slice A1 M1 C1,.slice A2 M2 C2,.slice A3 M3 C3,.slice A4 M4 C4,.slice A5 M5 C5,.slice A6 M6 C6,.slice A7 M7 C7,.string aQ]:=⟨_,rfl⟩;rw[<-aU]at q0;obtain⟨cG,bU,bV,bW,bX,bY,bZ,cH,cJ⟩:=c9k aU;clear aU;have bN:Hid (#[.slice A3 M3 C3,.slice A4 M4 C4,.slice A5 M5 C5]=ls):=Ab (by rw[aW];rfl);clear aW;have n1:M1=x.c.ins.length:=hr.nIns;have n2:M2=x.c.lat.length:=hr.nLat;have n6:M6=x.c.gat.length:=hr.nGat;have l1:=hl.ins;have l2:=hl.lat;have l6:=hl.gat
 have cA:(M1:Int)<=16777216:=by omega
 have cB:(M2:Int)<=16777216:=by omega
 have cC:(M6:Int)<=1000000:=by omega
 replace n1:=Ab n1;replace n2:=Ab n2;replace n6:=Ab n6
 have bE:Hid (WrC w 31 cs ([]++(x.c.ins.take 0).flatMap Tj) W2):=by
  refine Ab ⟨⟨?_,bL⟩,q0,by decide⟩;have h:=AdQ (B:=w.heap.size) (W:=w.alloc (.cells #[.int .i64 m,.slice A1 M1 C1,.slice A2 M2 C2,.slice A3 M3 C3,.slice A4 M4 C4,.slice A5 M5 C5,.slice A6 M6 C6,.slice A7 M7 C7,.string aQ] 31)) (by simp);rw[aF,World.size_alloc]at h;exact h
 replace aF:=Ab aF;have N:=Ab hfull;clear bL q1 bS hfull;have c1:=(q0.cell 1).trans bU.o;have aK:=Ab (λW (hb:Below w.heap.size w W)=>hp.below hb);clear q0
 go_enter Tryz.func27,Tryz.ntmps27
 go_upto_region 2 with fail
 rw[aF.o];clear aF;go_wp2;clear c1
 go_loopw [17] (λi wr=>∃ k:Nat,i= .int .i64 k/\k<=M1/\Hid (WrC w 31 cs ([]++(x.c.ins.take k).flatMap Tj) wr)) (λi _=>M1-(intOf i).toNat)
 case atStart=>exact⟨0,rfl,Nat.zero_le _,bE⟩
 case round=>
  clear bE;obtain⟨k,rfl,hk,F⟩:=hrel
  by_cases M:k<M1
  ·have O:(k:Int)<M1:=by omega
   have bK:=F.o.m.bel;obtain⟨ad,y,rfl,_,hy,cy⟩:=(hr.ins.below bK (Nl _)).get (f:=λn:Nat=>Value.int .i64 n) M;have Z:=ho.ins y (List.mem_of_getElem? hy);obtain⟨W5,l,A,j⟩:=Bb wr #[.int .i64 (y:Nat)] 3;have I:=Ab (F.o.after j);have HR:=Ab (Um (ns:=[y]) (n:=1) A rfl (by omega) (by simpa using Z) (aK.o W5 I.o.m.bel));have p:=Ab (AfW (Nat.le_trans (Ks (ApC x.c) hy) N.o));have E:=Ab (Gh (pre:=[]) (f:=Tj) hy)
   have bT:(y:Int)<1000000000:=by omega
   replace l:=Ab l;replace hy:=Ab hy;clear bK Z A j F
   go_wp2_with (first|(go_at_call 65;rw[l.o];refine HR.o.mono ?_;rintro e w6 ⟨rfl,U⟩;have J:=Ab (I.o.after U))|(go_at_call 64;refine(Jl J.o.m p.o).mono ?_;rintro e w7 ⟨⟨nn,rfl⟩,X,S⟩))
   have D:=Ab (J.o.put X S)
   first|rw[<-E.o]at D|(rw[show _++By [_]=_ from E.o.symm]at D)
   go_roundw
   case rel=>exact⟨k+1,by go_num,M,D⟩
   case measure=>simp[intOf];omega
  obtain rfl:M1=k:=by omega
  have O:¬ (M1:Int)<M1:=by omega
  have aA:Hid (WrC w 31 cs (Aet x.c++(x.c.lat.take 0).flatMap Jz) wr):=Ab (by
   have h:=F.o;rw[List.take_of_length_le (show x.c.ins.length<=M1 by rw[n1.o];exact Nl _)]at h
   simpa[Aet,Ls] using h)
  have c2:=(F.o.box.cell 2).trans bV.o;clear F;go_wp2;clear c2
  go_loopw [29] (λi wr=>∃ k:Nat,i= .int .i64 k/\k<=M2/\Hid (WrC w 31 cs (Aet x.c++(x.c.lat.take k).flatMap Jz) wr)) (λi _=>M2-(intOf i).toNat)
  case atStart=>exact⟨0,rfl,Nat.zero_le _,aA⟩
  case round=>
   clear aA;obtain⟨k,rfl,hk,F⟩:=hrel
   by_cases M:k<M2
   ·have O:(k:Int)<M2:=by omega
    have aL:=hr.below F.o.m.bel (Nl _);obtain⟨ad,y,rfl,hy,g0,g1,g2⟩:=Ce (show RdT wr A2 M2 (x.c.lat.map t3) from aL.lat) M;obtain⟨v1,v2,v3⟩:=ho.lat y (List.mem_of_getElem? hy);have p:=Ab (AfW (Nat.le_trans (Ks (Apx x.c) hy) N.o));have E:=Ab (Gh (pre:=Aet x.c) (f:=Jz) hy);obtain⟨W4,Y,b4,aB⟩:=Bb wr #[.int .i64 (y.a:Nat),.int .i64 (y.b:Nat),.int .i64 (y.c:Nat)] 59;have aC:=F.o.after aB;have u0:=b4.cell 0;have u1:=b4.cell 1;have u2:=b4.cell 2;have aH:Jz y=if y.c=0 then By [y.a,y.b] else By [y.a,y.b,y.c]:=rfl;rw[aH]at p E;replace Y:=Ab Y;clear aL hy F aB aH
    go_upto_region 10 with fail
    rw[Y.o];clear Y g0 g1 g2;obtain⟨ya,aZ⟩:∃ ya,y.a=ya:=⟨_,rfl⟩;obtain⟨yb,Z⟩:∃ yb,y.b=yb:=⟨_,rfl⟩;obtain⟨yc,bA⟩:∃ yc,y.c=yc:=⟨_,rfl⟩;simp only[aZ,Z,bA]at p E u0 u1 u2 v1 v2 v3 b4 ⊢
    by_cases h0:yc=0
    ·subst h0;obtain⟨W5,l,A,j⟩:=Bb W4 #[.int .i64 (ya:Nat),.int .i64 (yb:Nat)] 3;have I:=Ab (aC.after j);have HR:=Ab (Um (ns:=[ya,yb]) (n:=2) A rfl (by omega) (by intro z hz;simp at hz;rcases hz with rfl|rfl<;>assumption) (aK.o W5 I.o.m.bel));replace l:=Ab l;rw[if_pos rfl]at p E;clear A j aC v1 v2 v3
     go_wp2_with (first|(go_at_call 65;rw[l.o];refine HR.o.mono ?_;rintro e w6 ⟨rfl,U⟩;have J:=Ab (I.o.after U))|(go_at_call 64;refine(Jl J.o.m p.o).mono ?_;rintro e w7 ⟨⟨nn,rfl⟩,X,S⟩))
     have D:=Ab (J.o.put X S)
     first|rw[<-E.o]at D|(rw[show _++By [_]=_ from E.o.symm]at D)
     go_roundw
     case rel=>exact⟨k+1,by go_num,M,D⟩
     case measure=>simp[intOf];omega
    have cE:¬ (yc:Int)=0:=by omega
    obtain⟨W5,l,A,j⟩:=Bb W4 #[.int .i64 (ya:Nat),.int .i64 (yb:Nat),.int .i64 (yc:Nat)] 3;have I:=Ab (aC.after j);have HR:=Ab (Um (ns:=[ya,yb,yc]) (n:=3) A rfl (by omega) (by intro z hz;simp at hz;rcases hz with rfl|rfl|rfl<;>assumption) (aK.o W5 I.o.m.bel));replace l:=Ab l;rw[if_neg h0]at p E;clear A j aC v1 v2 v3
    go_wp2_with (first|(go_at_call 65;rw[l.o];refine HR.o.mono ?_;rintro e w6 ⟨rfl,U⟩;have J:=Ab (I.o.after U))|(go_at_call 64;refine(Jl J.o.m p.o).mono ?_;rintro e w7 ⟨⟨nn,rfl⟩,X,S⟩))
    have D:=Ab (J.o.put X S)
    first|rw[<-E.o]at D|(rw[show _++By [_]=_ from E.o.symm]at D)
    go_roundw
    case rel=>exact⟨k+1,by go_num,M,D⟩
    case measure=>simp[intOf];omega
   obtain rfl:M2=k:=by omega
   have O:¬ (M2:Int)<M2:=by omega
   have aS:WrC w 31 cs (Adc x.c++((Dn x.c).take 0).flatMap Bw) wr:=by
    have h:=F.o;rw[List.take_of_length_le (show x.c.lat.length<=M2 by rw[n2.o];exact Nl _)]at h
    simpa[Adc] using h
   have c3:=(F.o.box.cell 3).trans bW.o;have c4:=(F.o.box.cell 4).trans bX.o;have c5:=(F.o.box.cell 5).trans bY.o;obtain⟨W5,l,A,j⟩:=Bb wr #[.slice A3 M3 C3,.slice A4 M4 C4,.slice A5 M5 C5] 26;have aA:=Ab (aS.after j);have bM:Hid (wr.heap.size≠w.heap.size+1):=Ab (by have:=aS.m.lt;omega);rw[bN.o]at A;have aR:=Ab A;obtain⟨lb,aI⟩:∃ lb,wr.heap.size=lb:=⟨_,rfl⟩;rw[aI]at aR bM;replace l:=Ab l;have aJ:=Ab aI;clear F aS A j aI;go_wp2;rw[l.o,aJ.o];clear l c3 c4 c5 aJ
   go_loopw [61] (λi wr=>∃ k:Nat,i= .int .i64 k/\k<=3/\Hid (WrC w 31 cs (Adc x.c++((Dn x.c).take k).flatMap Bw) wr)/\Hid (Blk wr lb 26 ls)) (λi _=>3-(intOf i).toNat)
   case atStart=>exact⟨0,rfl,Nat.zero_le _,aA,aR⟩
   case round=>
    clear aA aR;obtain⟨k,rfl,hk,F,hB⟩:=hrel
    by_cases M:k<3
    ·have O:(k:Int)<3:=by omega
     obtain⟨⟨As,Ms,Cs⟩,r,aY,aE,aD⟩:=bI.o wr F.o.m.bel k M;have bR:=Acj hl (List.mem_of_getElem? aE);have aX:=AcB ho (List.mem_of_getElem? aE);have aN:=Apr aE;have bH:=Ab (λ(W:World) (hb:Below w.heap.size w W)=>bG.o W hb k _ r aY aE);have aO:=Ab (Gh (pre:=Adc x.c) (f:=Bw) aE);have bB:=(hB.o.cell k).trans aY;replace aD:Ms=r.length:=aD;obtain⟨R,hR⟩:∃ R,R=r.length:=⟨_,rfl⟩;rw[<-hR]at aD bR;replace aD:=aD.symm;subst aD
     have cF:(R:Int)<=16777216:=by omega
     obtain⟨T0,bJ⟩:∃ T0,Adc x.c++((Dn x.c).take k).flatMap Bw=T0:=⟨_,rfl⟩;rw[bJ]at F aN aO;have bF:Hid (WrC w 31 cs (T0++(r.take 0).flatMap Tj) wr):=Ab (by simpa using F.o);have bD:=hB;replace aX:=Ab aX;replace aN:=Ab aN;replace hR:=Ab hR;dsimp only[sv]at bB bH;clear aY aE F bJ hB;go_wp2;clear bB
     go_loopw [67] (λi wr=>∃ q:Nat,i= .int .i64 q/\q<=R/\Hid (WrC w 31 cs (T0++(r.take q).flatMap Tj) wr)/\Hid (Blk wr lb 26 ls)) (λi _=>R-(intOf i).toNat)
     case atStart=>exact⟨0,rfl,Nat.zero_le _,bF,bD⟩
     case round=>
      clear bF bD;obtain⟨q,rfl,hq,F,hB⟩:=hrel
      by_cases aP:q<R
      ·have bQ:(q:Int)<R:=by omega
       obtain⟨ad,y,rfl,_,hy,cy⟩:=(bH.o wr F.o.m.bel).get (f:=λn:Nat=>Value.int .i64 n) aP;have Z:=aX.o y (List.mem_of_getElem? hy);obtain⟨W5,l,A,j⟩:=Bb wr #[.int .i64 (y:Nat)] 3;have I:=Ab (F.o.after j);have bC:=Ab (hB.o.below j hB.o.lt);have HR:=Ab (Um (ns:=[y]) (n:=1) A rfl (by omega) (by simpa using Z) (aK.o W5 I.o.m.bel));have p:=Ab (AfW (Nat.le_trans (Ks aN.o hy) N.o));have E:=Ab (Gh (pre:=T0) (f:=Tj) hy)
       have bT:(y:Int)<1000000000:=by omega
       replace l:=Ab l;clear Z A j F hB hy
       go_wp2_with (first|(go_at_call 65;rw[l.o];refine HR.o.mono ?_;rintro e w6 ⟨rfl,U⟩;have J:=Ab (I.o.after U);have bO:=Ab (bC.o.below U bC.o.lt))|(go_at_call 64;refine(Jl J.o.m p.o).mono ?_;rintro e w7 ⟨⟨nn,rfl⟩,X,S⟩))
       have D:=Ab (J.o.put X S);have bP:=Ab (He S bO.o bM.o (by decide));rw[<-E.o]at D;go_roundw
       case rel=>exact⟨q+1,by go_num,aP,D,bP⟩
       case measure=>simp[intOf];omega
      obtain rfl:R=q:=by omega
      have bQ:¬ (R:Int)<R:=by omega
      have aM:Hid (WrC w 31 cs (Adc x.c++((Dn x.c).take (k+1)).flatMap Bw) wr):=Ab (by
       have h:=F.o;rw[List.take_of_length_le (by rw[hR.o];exact Nl _),<-Ls,<-aO.o]at h
       exact h)
      clear F;go_wp2;go_roundw
      case rel=>exact⟨k+1,by go_num,M,aM,hB⟩
      case measure=>simp[intOf];omega
    have aV:k=3:=by omega
    have O:¬ (k:Int)<3:=by omega
    have aA:Hid (WrC w 31 cs (Ahm x.c++(x.c.gat.take 0).flatMap Nn) wr):=Ab (by
     have h:=F.o;rw[aV]at h
     simpa[Ahm,Dn] using h)
    replace aV:=Ab aV;clear M hk;have c6:=(F.o.box.cell 6).trans bZ.o;clear F hB;go_wp2;clear c6
    go_loopw [80] (λi wr=>∃ k:Nat,i= .int .i64 k/\k<=M6/\Hid (WrC w 31 cs (Ahm x.c++(x.c.gat.take k).flatMap Nn) wr)) (λi _=>M6-(intOf i).toNat)
    case atStart=>exact⟨0,rfl,Nat.zero_le _,aA⟩
    case round=>
     clear aA;obtain⟨k,rfl,hk,F⟩:=hrel
     by_cases M:k<M6
     ·have O:(k:Int)<M6:=by omega
      have aL:=hr.below F.o.m.bel (Nl _);obtain⟨ad,y,rfl,hy,g0,g1,g2⟩:=Ce (show RdT wr A6 M6 (x.c.gat.map t3) from aL.gat) M;obtain⟨v1,v2,v3⟩:=ho.gat y (List.mem_of_getElem? hy);have p:=Ab (AfW (Nat.le_trans (Ks (Amr x.c) hy) N.o));have E:=Ab (Gh (pre:=Ahm x.c) (f:=Nn) hy);obtain⟨W4,Y,b4,aB⟩:=Bb wr #[.int .i64 (y.a:Nat),.int .i64 (y.b:Nat),.int .i64 (y.c:Nat)] 62;have aC:=F.o.after aB;have u0:=b4.cell 0;have u1:=b4.cell 1;have u2:=b4.cell 2;have aH:Nn y=By [y.a,y.b,y.c]:=rfl;rw[aH]at p E;replace Y:=Ab Y;clear aL hy F aB aH
      go_upto_region 26 with fail
      rw[Y.o];clear Y g0 g1 g2;obtain⟨ya,aZ⟩:∃ ya,y.a=ya:=⟨_,rfl⟩;obtain⟨yb,Z⟩:∃ yb,y.b=yb:=⟨_,rfl⟩;obtain⟨yc,bA⟩:∃ yc,y.c=yc:=⟨_,rfl⟩;simp only[aZ,Z,bA]at p E u0 u1 u2 v1 v2 v3 b4 ⊢;obtain⟨W5,l,A,j⟩:=Bb W4 #[.int .i64 (ya:Nat),.int .i64 (yb:Nat),.int .i64 (yc:Nat)] 3;have I:=Ab (aC.after j);have HR:=Ab (Um (ns:=[ya,yb,yc]) (n:=3) A rfl (by omega) (by intro z hz;simp at hz;rcases hz with rfl|rfl|rfl<;>assumption) (aK.o W5 I.o.m.bel));replace l:=Ab l;clear A j aC v1 v2 v3
      go_wp2_with (first|(go_at_call 65;rw[l.o];refine HR.o.mono ?_;rintro e w6 ⟨rfl,U⟩;have J:=Ab (I.o.after U))|(go_at_call 64;refine(Jl J.o.m p.o).mono ?_;rintro e w7 ⟨⟨nn,rfl⟩,X,S⟩))
      have D:=Ab (J.o.put X S)
      first|rw[<-E.o]at D|(rw[show _++By [_]=_ from E.o.symm]at D)
      go_roundw
      case rel=>exact⟨k+1,by go_num,M,D⟩
      case measure=>simp[intOf];omega
     obtain rfl:M6=k:=by omega
     have O:¬ (M6:Int)<M6:=by omega
     have aM:Hid (WrC w 31 cs (Ew x.c) wr):=Ab (by
      have h:=F.o;rw[List.take_of_length_le (show x.c.gat.length<=M6 by rw[n6.o];exact Nl _)]at h;rw[Amr,List.append_nil]
      exact h)
     clear F
     go_wp2_with fail
     refine(built aM.o.m).mono ?_;rintro e w9 ⟨rfl,aT⟩;replace aT:=Ab aT;clear aM;go_wp2;go_ret
     exact⟨rfl,aT.o⟩
theorem AdK (m:Nat) (v:Cv) (x:Bp) (b:Bool) (w:World) (hr:RdC w v x) (N:m=x.c.max):
  Calls Tryz.prog 25 #[.agg (Ae (m:Nat) v),.bool b] w λe w'=>e= .returned (.agg (Bt (Db x.c b)))/\Below w.heap.size w w':=by
 have O:=hr.nIns;have R:=hr.nLat;have S:=hr.nOuts;have U:=hr.nBads;have X:=hr.nCons;have Y:=hr.nGat;obtain⟨⟨A1,p,C1⟩,⟨A2,r,C2⟩,⟨A3,y,C3⟩,⟨A4,z,C4⟩,⟨A5,h,C5⟩,⟨A6,D,C6⟩,⟨A7,M7,C7⟩,M⟩:=v
 have F:Hid (Bt (Db x.c b)= #[.bool b,.int .i64 (m:Nat),.int .i64 (p:Nat),.int .i64 (r:Nat),.int .i64 (y:Nat),.int .i64 (D:Nat),.int .i64 (z:Nat),.int .i64 (h:Nat)]):=Ab (by
  dsimp only at O R S U X Y;unfold Db
  rw[O,R,S,U,X,Y,N])
 simp only[Ae];obtain⟨W2,j,A,J,I,l⟩:=Qd w #[.int .i64 (m:Nat),.slice A1 p C1,.slice A2 r C2,.slice A3 y C3,.slice A4 z C4,.slice A5 h C5,.slice A6 D C6,.slice A7 M7 C7,.string M] #[.bool false,.int .i64 0,.int .i64 0,.int .i64 0,.int .i64 0,.int .i64 0,.int .i64 0,.int .i64 0] 31 47;obtain⟨c0,c1,c2,c3,c4,c5,c6⟩:=c7d A;obtain⟨d0,d1,d2,d3,d4,d5,d6,d7⟩:=c8c J;obtain⟨z0,z1,z2,z3,z4,z5,z6,z7⟩:=c8z J;have b9:=Ab (ApG J (.bool b) (.int .i64 (m:Nat)) (.int .i64 (p:Nat)) (.int .i64 (r:Nat)) (.int .i64 (y:Nat)) (.int .i64 (D:Nat)) (.int .i64 (z:Nat)) (.int .i64 (h:Nat)));have f9:=Ab (fr8 (Fr.refl (λq=>q=w.heap.size+1) W2) rfl (.bool b) (.int .i64 (m:Nat)) (.int .i64 (p:Nat)) (.int .i64 (r:Nat)) (.int .i64 (y:Nat)) (.int .i64 (D:Nat)) (.int .i64 (z:Nat)) (.int .i64 (h:Nat)));replace j:=Ab j;replace l:=Ab l;have Z:=Ab I;replace N:=Ab N;clear hr O R S U X Y A J I
 go_enter Tryz.func25,Tryz.ntmps25
 go_upto_region 1 with fail
 rw[j.o];clear j;go_wp2;generalize ((((((((W2.setCell ⟨w.heap.size+1,0,none⟩ (.bool b)).setCell ⟨w.heap.size+1,1,none⟩ (.int .i64 (m:Nat))).setCell ⟨w.heap.size+1,2,none⟩ (.int .i64 (p:Nat))).setCell ⟨w.heap.size+1,3,none⟩ (.int .i64 (r:Nat))).setCell ⟨w.heap.size+1,4,none⟩ (.int .i64 (y:Nat))).setCell ⟨w.heap.size+1,5,none⟩ (.int .i64 (D:Nat))).setCell ⟨w.heap.size+1,6,none⟩ (.int .i64 (z:Nat))).setCell ⟨w.heap.size+1,7,none⟩ (.int .i64 (h:Nat)))=W9 at*;obtain⟨e0,e1,e2,e3,e4,e5,e6,e7⟩:=c8c b9.o;have E:Below w.heap.size w W9:=l.o.trans (f9.o.below (B:=w.heap.size) l.o.size (λk e=>by omega));refine bodyPost_ret (v:= .agg #[.bool b,.int .i64 (m:Nat),.int .i64 (p:Nat),.int .i64 (r:Nat),.int .i64 (y:Nat),.int .i64 (D:Nat),.int .i64 (z:Nat),.int .i64 (h:Nat)]) ?_ rfl ⟨by rw[F.o],E⟩;simp[results,Tryz.results25,go_sem,e0,e1,e2,e3,e4,e5,e6,e7]
theorem Ni {W:World} {B n:Nat} {A:Option Addr} {N c:Nat} {l:List Nat} (h:W.ownsRow B 3 1 (.slice A N c) n (nvs l)):Rd W A n (nvs l):=by
 obtain⟨p,c',m,_,_,j⟩:=Rd.of_own h;injection m with h1 h2 _;rw[h1];exact j
theorem Vh (l:List Nat) (x:Nat):nvs l++ [.int .i64 (x:Nat)]=nvs (l++ [x]):=by rw[AbC]
theorem Yy (h:Hd) (w:World) (hn:∀ x∈Bm h,x<1000000000) (hp:Sr w):
  Calls Tryz.prog 29 #[.agg (Bt h)] w λe w'=>e= .returned (tstr (Fl h))/\Below w.heap.size w w':=by
 obtain⟨aH,m,i,l,o,a,b,c⟩:=h;obtain⟨W1,aO,q0,aT⟩:=Bb w (Bt ⟨aH,m,i,l,o,a,b,c⟩) 47;obtain⟨W2,aP,q1,aR⟩:=Bb W1 #[.int .i64 (m:Nat),.int .i64 (i:Nat),.int .i64 (l:Nat),.int .i64 (o:Nat),.int .i64 (a:Nat)] 3;have aQ:w.heap.size<W1.heap.size:=q0.lt
 have J:W2.ownsRow w.heap.size 3 1 (.slice (some ⟨W1.heap.size,0,none⟩) 5 5) 5 (nvs [m,i,l,o,a]):=by
  exact⟨rfl,.inr ⟨W1.heap.size,5,_,rfl,Nat.le_of_lt aQ,q1,Nl _,by unfold maxLen;omega,rfl,rfl⟩⟩
 have N:Below w.heap.size w W2:=aT.trans (aR.mono (Nat.le_of_lt aQ));obtain⟨A,c1,c2,c3,c4,c5⟩:=c6d q0;have M:=Ab (q0.below aR q0.lt);have aD:=Ab (λW (hb:Below w.heap.size w W)=>hp.below hb);have hN:=Ab hn;replace aO:=Ab aO;replace aP:=Ab aP;have aY:=Ab aQ;simp only[Bt];clear hn hp aT aR q1 q0 aQ;generalize aL:w.heap.size=U at*
 go_enter Tryz.func29,Tryz.ntmps29
 go_upto_region 1 with fail
 rw[aO.o];clear aO
 go_upto_region 2 with fail
 rw[aP.o];clear aP A c1 c2 c3 c4 c5
 by_cases hc:c=0
 ·subst hc
  by_cases hb:b=0
  ·subst hb;have d6:W2.cell? ⟨U,6,none⟩=some (.int .i64 (0:Nat)):=M.o.cell 6;have d7:W2.cell? ⟨U,7,none⟩=some (.int .i64 (0:Nat)):=M.o.cell 7
   go_upto_region 6 with fail
   clear d6 d7;cases aH
   ·
    have E:=Ni (show W2.ownsRow U 3 1 (.slice (some ⟨W1.heap.size,0,none⟩) 5 5) 5 (nvs [m,i,l,o,a]) from J);have Y:=Ab (Hj (some ⟨W1.heap.size,0,none⟩) 5 [m,i,l,o,a] W2 E (by simp) (λx O=>hN.o x (by unfold Bm;simpa using O)) (aD.o _ N));have p:Hid (Calls Tryz.prog 65 #[.slice (some ⟨W1.heap.size,0,none⟩) 5 5] W2 λe w'=>e= .returned (tstr (By [m,i,l,o,a]))/\Below W2.heap.size W2 w'):=Y;have D:=Lg [m,i,l,o,a] (λx O=>hN.o x (by unfold Bm;simpa using O)) (by simp);have r:Hid (tstr (Fl ⟨false,m,i,l,o,a,0,0⟩)= .string (⟨#[97,97,103,32]⟩++⟨(By [m,i,l,o,a]).toArray⟩)):=Ab (by unfold Fl Bm;simp[Hk,ByteArray.mk_append_mk]);obtain⟨S,F⟩:∃ S:ByteArray,⟨(By [m,i,l,o,a]).toArray⟩=S:=⟨_,rfl⟩
    have aF:(9223372036854775807<4+S.size)=False:=by
     apply eq_false
     rw[<-F]
     show ¬_<4+(By [m,i,l,o,a]).toArray.size
     unfold By;rw[List.size_toArray,List.length_append];simp only[List.length_cons,List.length_nil];omega
    rw[F]at r;dsimp only[tstr]at p;rw[F]at p;have j:=Ab N;have A:W2.cell? ⟨U,0,none⟩=some (.bool false):=M.o.cell 0;clear Y E D F
    go_wp2_with fail
    refine p.o.mono ?_;rintro e w9 ⟨rfl,y⟩;replace y:=Ab y;clear p A;go_wp2;go_ret
    exact⟨by rw[r.o];rfl,j.o.trans (y.o.mono (by have:=j.o.size;omega))⟩
   
   have E:=Ni (show W2.ownsRow U 3 1 (.slice (some ⟨W1.heap.size,0,none⟩) 5 5) 5 (nvs [m,i,l,o,a]) from J);have Y:=Ab (Hj (some ⟨W1.heap.size,0,none⟩) 5 [m,i,l,o,a] W2 E (by simp) (λx O=>hN.o x (by unfold Bm;simpa using O)) (aD.o _ N));have p:Hid (Calls Tryz.prog 65 #[.slice (some ⟨W1.heap.size,0,none⟩) 5 5] W2 λe w'=>e= .returned (tstr (By [m,i,l,o,a]))/\Below W2.heap.size W2 w'):=Y;have D:=Lg [m,i,l,o,a] (λx O=>hN.o x (by unfold Bm;simpa using O)) (by simp);have r:Hid (tstr (Fl ⟨true,m,i,l,o,a,0,0⟩)= .string (⟨#[97,105,103,32]⟩++⟨(By [m,i,l,o,a]).toArray⟩)):=Ab (by unfold Fl Bm;simp[Dy,ByteArray.mk_append_mk]);obtain⟨S,F⟩:∃ S:ByteArray,⟨(By [m,i,l,o,a]).toArray⟩=S:=⟨_,rfl⟩
   have aF:(9223372036854775807<4+S.size)=False:=by
    apply eq_false
    rw[<-F]
    show ¬_<4+(By [m,i,l,o,a]).toArray.size
    unfold By;rw[List.size_toArray,List.length_append];simp only[List.length_cons,List.length_nil];omega
   rw[F]at r;dsimp only[tstr]at p;rw[F]at p;have j:=Ab N;have A:W2.cell? ⟨U,0,none⟩=some (.bool true):=M.o.cell 0;clear Y E D F
   go_wp2_with fail
   refine p.o.mono ?_;rintro e w9 ⟨rfl,y⟩;replace y:=Ab y;clear p A;go_wp2;go_ret
   exact⟨by rw[r.o];rfl,j.o.trans (y.o.mono (by have:=j.o.size;omega))⟩
  have aS:¬ (b:Int)=0:=by omega
  have aV:((b:Int)==0)=false:=by simpa using aS
  have d6:W2.cell? ⟨U,6,none⟩=some (.int .i64 (b:Nat)):=M.o.cell 6;have d7:W2.cell? ⟨U,7,none⟩=some (.int .i64 (0:Nat)):=M.o.cell 7;have aA:=Ab (show 5+1<=maxLen by unfold maxLen;omega);have aB:=Ab (show(5+1)*8<=140737488355328 by omega)
  go_upto_region 4 with(at_builtin;refine Ah rfl _ _ _ rfl Tryz.underlying26 Dh rfl (by decide) rfl (by first|rfl|simp[go_sem]) J N (Nat.le_of_eq aL.symm) (by rfl) (by simp[Value.oneCell']) aA.o aB.o ?_;intro aU I q X aC;have Z:=(M.o.alloc (.cells _ 3)).grown aC (Ba J M.o (by decide));obtain⟨⟨A0,N0,C0⟩,rfl,aE⟩:=Be q;dsimp only at aE;subst aE;dsimp only[sv])
  rw[Vh]at q;have d7:I.cell? ⟨U,7,none⟩=some (.int .i64 (0:Nat)):=Z.cell 7
  go_upto_region 6 with fail
  clear d6 d7;cases aH
  ·
   have E:=Ni (show I.ownsRow U 3 1 (.slice A0 6 C0) 6 (nvs [m,i,l,o,a,b]) from q);have Y:=Ab (Hj A0 C0 [m,i,l,o,a,b] I E (by simp) (λx O=>hN.o x (by unfold Bm;simpa[hb] using O)) (aD.o _ X));have p:Hid (Calls Tryz.prog 65 #[.slice A0 6 C0] I λe w'=>e= .returned (tstr (By [m,i,l,o,a,b]))/\Below I.heap.size I w'):=Y;have D:=Lg [m,i,l,o,a,b] (λx O=>hN.o x (by unfold Bm;simpa[hb] using O)) (by simp);have r:Hid (tstr (Fl ⟨false,m,i,l,o,a,b,0⟩)= .string (⟨#[97,97,103,32]⟩++⟨(By [m,i,l,o,a,b]).toArray⟩)):=Ab (by unfold Fl Bm;simp[hb,Hk,ByteArray.mk_append_mk]);obtain⟨S,F⟩:∃ S:ByteArray,⟨(By [m,i,l,o,a,b]).toArray⟩=S:=⟨_,rfl⟩
   have aF:(9223372036854775807<4+S.size)=False:=by
    apply eq_false
    rw[<-F]
    show ¬_<4+(By [m,i,l,o,a,b]).toArray.size
    unfold By;rw[List.size_toArray,List.length_append];simp only[List.length_cons,List.length_nil];omega
   rw[F]at r;dsimp only[tstr]at p;rw[F]at p;have j:=Ab X;have A:I.cell? ⟨U,0,none⟩=some (.bool false):=Z.cell 0;clear Y E D F
   go_wp2_with fail
   refine p.o.mono ?_;rintro e w9 ⟨rfl,y⟩;replace y:=Ab y;clear p A;go_wp2;go_ret
   exact⟨by rw[r.o];rfl,j.o.trans (y.o.mono (by have:=j.o.size;omega))⟩
  
  have E:=Ni (show I.ownsRow U 3 1 (.slice A0 6 C0) 6 (nvs [m,i,l,o,a,b]) from q);have Y:=Ab (Hj A0 C0 [m,i,l,o,a,b] I E (by simp) (λx O=>hN.o x (by unfold Bm;simpa[hb] using O)) (aD.o _ X));have p:Hid (Calls Tryz.prog 65 #[.slice A0 6 C0] I λe w'=>e= .returned (tstr (By [m,i,l,o,a,b]))/\Below I.heap.size I w'):=Y;have D:=Lg [m,i,l,o,a,b] (λx O=>hN.o x (by unfold Bm;simpa[hb] using O)) (by simp);have r:Hid (tstr (Fl ⟨true,m,i,l,o,a,b,0⟩)= .string (⟨#[97,105,103,32]⟩++⟨(By [m,i,l,o,a,b]).toArray⟩)):=Ab (by unfold Fl Bm;simp[hb,Dy,ByteArray.mk_append_mk]);obtain⟨S,F⟩:∃ S:ByteArray,⟨(By [m,i,l,o,a,b]).toArray⟩=S:=⟨_,rfl⟩
  have aF:(9223372036854775807<4+S.size)=False:=by
   apply eq_false
   rw[<-F]
   show ¬_<4+(By [m,i,l,o,a,b]).toArray.size
   unfold By;rw[List.size_toArray,List.length_append];simp only[List.length_cons,List.length_nil];omega
  rw[F]at r;dsimp only[tstr]at p;rw[F]at p;have j:=Ab X;have A:I.cell? ⟨U,0,none⟩=some (.bool true):=Z.cell 0;clear Y E D F
  go_wp2_with fail
  refine p.o.mono ?_;rintro e w9 ⟨rfl,y⟩;replace y:=Ab y;clear p A;go_wp2;go_ret
  exact⟨by rw[r.o];rfl,j.o.trans (y.o.mono (by have:=j.o.size;omega))⟩
 have aW:¬ (c:Int)=0:=by omega
 have aZ:((c:Int)==0)=false:=by simpa using aW
 by_cases hb:b=0
 ·subst hb;have d6:W2.cell? ⟨U,6,none⟩=some (.int .i64 (0:Nat)):=M.o.cell 6;have d7:W2.cell? ⟨U,7,none⟩=some (.int .i64 (c:Nat)):=M.o.cell 7;have aA:=Ab (show 5+1<=maxLen by unfold maxLen;omega);have aB:=Ab (show(5+1)*8<=140737488355328 by omega);have aI:=Ab (show 6+1<=maxLen by unfold maxLen;omega);have aJ:=Ab (show(6+1)*8<=140737488355328 by omega)
  go_upto_region 4 with(at_builtin;refine Ah rfl _ _ _ rfl Tryz.underlying26 Dh rfl (by decide) rfl (by first|rfl|simp[go_sem]) J N (Nat.le_of_eq aL.symm) (by rfl) (by simp[Value.oneCell']) aA.o aB.o ?_;intro aU I q X aC;have Z:=(M.o.alloc (.cells _ 3)).grown aC (Ba J M.o (by decide));obtain⟨⟨A0,N0,C0⟩,rfl,aE⟩:=Be q;dsimp only at aE;subst aE;dsimp only[sv])
  have q:I.ownsRow U 3 1 (.slice A0 (5+1) C0) (5+1) (nvs [m,i,l,o,a,0]):=q;have d7:I.cell? ⟨U,7,none⟩=some (.int .i64 (c:Nat)):=Z.cell 7
  go_upto_region 6 with(at_builtin;refine Ah rfl _ _ _ rfl Tryz.underlying26 Dh rfl (by decide) rfl (by first|rfl|simp[go_sem]) q X (Nat.le_of_eq aL.symm) (by rfl) (by simp[Value.oneCell']) aI.o aJ.o ?_;intro aX z B R aK;have aN:=(Z.alloc (.cells _ 3)).grown aK (Ba q Z (by decide));obtain⟨⟨A1,N1,C1⟩,rfl,aM⟩:=Be B;dsimp only at aM;subst aM;dsimp only[sv])
  rw[Vh]at B;clear d6 d7;cases aH
  ·
   have E:=Ni (show z.ownsRow U 3 1 (.slice A1 7 C1) 7 (nvs [m,i,l,o,a,0,c]) from B);have Y:=Ab (Hj A1 C1 [m,i,l,o,a,0,c] z E (by simp) (λx O=>hN.o x (by unfold Bm;simpa[hc] using O)) (aD.o _ R));have p:Hid (Calls Tryz.prog 65 #[.slice A1 7 C1] z λe w'=>e= .returned (tstr (By [m,i,l,o,a,0,c]))/\Below z.heap.size z w'):=Y;have D:=Lg [m,i,l,o,a,0,c] (λx O=>hN.o x (by unfold Bm;simpa[hc] using O)) (by simp);have r:Hid (tstr (Fl ⟨false,m,i,l,o,a,0,c⟩)= .string (⟨#[97,97,103,32]⟩++⟨(By [m,i,l,o,a,0,c]).toArray⟩)):=Ab (by unfold Fl Bm;simp[hc,Hk,ByteArray.mk_append_mk]);obtain⟨S,F⟩:∃ S:ByteArray,⟨(By [m,i,l,o,a,0,c]).toArray⟩=S:=⟨_,rfl⟩
   have aF:(9223372036854775807<4+S.size)=False:=by
    apply eq_false
    rw[<-F]
    show ¬_<4+(By [m,i,l,o,a,0,c]).toArray.size
    unfold By;rw[List.size_toArray,List.length_append];simp only[List.length_cons,List.length_nil];omega
   rw[F]at r;dsimp only[tstr]at p;rw[F]at p;have j:=Ab R;have A:z.cell? ⟨U,0,none⟩=some (.bool false):=aN.cell 0;clear Y E D F
   go_wp2_with fail
   refine p.o.mono ?_;rintro e w9 ⟨rfl,y⟩;replace y:=Ab y;clear p A;go_wp2;go_ret
   exact⟨by rw[r.o];rfl,j.o.trans (y.o.mono (by have:=j.o.size;omega))⟩
  
  have E:=Ni (show z.ownsRow U 3 1 (.slice A1 7 C1) 7 (nvs [m,i,l,o,a,0,c]) from B);have Y:=Ab (Hj A1 C1 [m,i,l,o,a,0,c] z E (by simp) (λx O=>hN.o x (by unfold Bm;simpa[hc] using O)) (aD.o _ R));have p:Hid (Calls Tryz.prog 65 #[.slice A1 7 C1] z λe w'=>e= .returned (tstr (By [m,i,l,o,a,0,c]))/\Below z.heap.size z w'):=Y;have D:=Lg [m,i,l,o,a,0,c] (λx O=>hN.o x (by unfold Bm;simpa[hc] using O)) (by simp);have r:Hid (tstr (Fl ⟨true,m,i,l,o,a,0,c⟩)= .string (⟨#[97,105,103,32]⟩++⟨(By [m,i,l,o,a,0,c]).toArray⟩)):=Ab (by unfold Fl Bm;simp[hc,Dy,ByteArray.mk_append_mk]);obtain⟨S,F⟩:∃ S:ByteArray,⟨(By [m,i,l,o,a,0,c]).toArray⟩=S:=⟨_,rfl⟩
  have aF:(9223372036854775807<4+S.size)=False:=by
   apply eq_false
   rw[<-F]
   show ¬_<4+(By [m,i,l,o,a,0,c]).toArray.size
   unfold By;rw[List.size_toArray,List.length_append];simp only[List.length_cons,List.length_nil];omega
  rw[F]at r;dsimp only[tstr]at p;rw[F]at p;have j:=Ab R;have A:z.cell? ⟨U,0,none⟩=some (.bool true):=aN.cell 0;clear Y E D F
  go_wp2_with fail
  refine p.o.mono ?_;rintro e w9 ⟨rfl,y⟩;replace y:=Ab y;clear p A;go_wp2;go_ret
  exact⟨by rw[r.o];rfl,j.o.trans (y.o.mono (by have:=j.o.size;omega))⟩
 have aS:¬ (b:Int)=0:=by omega
 have aV:((b:Int)==0)=false:=by simpa using aS
 have d6:W2.cell? ⟨U,6,none⟩=some (.int .i64 (b:Nat)):=M.o.cell 6;have d7:W2.cell? ⟨U,7,none⟩=some (.int .i64 (c:Nat)):=M.o.cell 7;have aA:=Ab (show 5+1<=maxLen by unfold maxLen;omega);have aB:=Ab (show(5+1)*8<=140737488355328 by omega);have aI:=Ab (show 6+1<=maxLen by unfold maxLen;omega);have aJ:=Ab (show(6+1)*8<=140737488355328 by omega)
 go_upto_region 4 with(at_builtin;refine Ah rfl _ _ _ rfl Tryz.underlying26 Dh rfl (by decide) rfl (by first|rfl|simp[go_sem]) J N (Nat.le_of_eq aL.symm) (by rfl) (by simp[Value.oneCell']) aA.o aB.o ?_;intro aU I q X aC;have Z:=(M.o.alloc (.cells _ 3)).grown aC (Ba J M.o (by decide));obtain⟨⟨A0,N0,C0⟩,rfl,aE⟩:=Be q;dsimp only at aE;subst aE;dsimp only[sv])
 rw[Vh]at q;have d7:I.cell? ⟨U,7,none⟩=some (.int .i64 (c:Nat)):=Z.cell 7
 go_upto_region 6 with(at_builtin;refine Ah rfl _ _ _ rfl Tryz.underlying26 Dh rfl (by decide) rfl (by first|rfl|simp[go_sem]) q X (Nat.le_of_eq aL.symm) (by rfl) (by simp[Value.oneCell']) aI.o aJ.o ?_;intro aX z B R aK;have aN:=(Z.alloc (.cells _ 3)).grown aK (Ba q Z (by decide));obtain⟨⟨A1,N1,C1⟩,rfl,aM⟩:=Be B;dsimp only at aM;subst aM;dsimp only[sv])
 rw[Vh]at B;clear d6 d7;cases aH
 ·
  have E:=Ni (show z.ownsRow U 3 1 (.slice A1 7 C1) 7 (nvs [m,i,l,o,a,b,c]) from B);have Y:=Ab (Hj A1 C1 [m,i,l,o,a,b,c] z E (by simp) (λx O=>hN.o x (by unfold Bm;simpa[hb,hc] using O)) (aD.o _ R));have p:Hid (Calls Tryz.prog 65 #[.slice A1 7 C1] z λe w'=>e= .returned (tstr (By [m,i,l,o,a,b,c]))/\Below z.heap.size z w'):=Y;have D:=Lg [m,i,l,o,a,b,c] (λx O=>hN.o x (by unfold Bm;simpa[hb,hc] using O)) (by simp);have r:Hid (tstr (Fl ⟨false,m,i,l,o,a,b,c⟩)= .string (⟨#[97,97,103,32]⟩++⟨(By [m,i,l,o,a,b,c]).toArray⟩)):=Ab (by unfold Fl Bm;simp[hb,hc,Hk,ByteArray.mk_append_mk]);obtain⟨S,F⟩:∃ S:ByteArray,⟨(By [m,i,l,o,a,b,c]).toArray⟩=S:=⟨_,rfl⟩
  have aF:(9223372036854775807<4+S.size)=False:=by
   apply eq_false
   rw[<-F]
   show ¬_<4+(By [m,i,l,o,a,b,c]).toArray.size
   unfold By;rw[List.size_toArray,List.length_append];simp only[List.length_cons,List.length_nil];omega
  rw[F]at r;dsimp only[tstr]at p;rw[F]at p;have j:=Ab R;have A:z.cell? ⟨U,0,none⟩=some (.bool false):=aN.cell 0;clear Y E D F
  go_wp2_with fail
  refine p.o.mono ?_;rintro e w9 ⟨rfl,y⟩;replace y:=Ab y;clear p A;go_wp2;go_ret
  exact⟨by rw[r.o];rfl,j.o.trans (y.o.mono (by have:=j.o.size;omega))⟩
 
 have E:=Ni (show z.ownsRow U 3 1 (.slice A1 7 C1) 7 (nvs [m,i,l,o,a,b,c]) from B);have Y:=Ab (Hj A1 C1 [m,i,l,o,a,b,c] z E (by simp) (λx O=>hN.o x (by unfold Bm;simpa[hb,hc] using O)) (aD.o _ R));have p:Hid (Calls Tryz.prog 65 #[.slice A1 7 C1] z λe w'=>e= .returned (tstr (By [m,i,l,o,a,b,c]))/\Below z.heap.size z w'):=Y;have D:=Lg [m,i,l,o,a,b,c] (λx O=>hN.o x (by unfold Bm;simpa[hb,hc] using O)) (by simp);have r:Hid (tstr (Fl ⟨true,m,i,l,o,a,b,c⟩)= .string (⟨#[97,105,103,32]⟩++⟨(By [m,i,l,o,a,b,c]).toArray⟩)):=Ab (by unfold Fl Bm;simp[hb,hc,Dy,ByteArray.mk_append_mk]);obtain⟨S,F⟩:∃ S:ByteArray,⟨(By [m,i,l,o,a,b,c]).toArray⟩=S:=⟨_,rfl⟩
 have aF:(9223372036854775807<4+S.size)=False:=by
  apply eq_false
  rw[<-F]
  show ¬_<4+(By [m,i,l,o,a,b,c]).toArray.size
  unfold By;rw[List.size_toArray,List.length_append];simp only[List.length_cons,List.length_nil];omega
 rw[F]at r;dsimp only[tstr]at p;rw[F]at p;have j:=Ab R;have A:z.cell? ⟨U,0,none⟩=some (.bool true):=aN.cell 0;clear Y E D F
 go_wp2_with fail
 refine p.o.mono ?_;rintro e w9 ⟨rfl,y⟩;replace y:=Ab y;clear p A;go_wp2;go_ret
 exact⟨by rw[r.o];rfl,j.o.trans (y.o.mono (by have:=j.o.size;omega))⟩
def ubs (l:Txt):List Value:=(l.map λc=>(c.toNat:Int)).map (Value.int .u8)
theorem AeZ (l:Txt) (c:UInt8):ubs l++ [.int .u8 (c.toNat:Int)]=ubs (l++ [c]):=by unfold ubs;simp
theorem Ant (l:Txt):(ubs l).length=l.length:=by unfold ubs;simp
theorem AnD:∀ r:Fin 256,bits .or .u8 ((r.val:Nat):Int) 128=((128+r.val%128:Nat):Int):=by decide+kernel
theorem ApB (x:Nat):bits .or .u8 ((x:Int)%256) 128=128+(x:Int)%128:=by
 have e:(x:Int)%256=((x%256:Nat):Int):=by omega
 rw[e,AnD ⟨x%256,Nat.mod_lt _ (by omega)⟩];simp only;omega
theorem AoU (x:Nat):128+(x:Int)%128=(((UInt8.ofNat (128+x%128)).toNat:Nat):Int):=by simp;omega
theorem AnO (x:Nat) (h:x<128):(x:Int)=(((UInt8.ofNat x).toNat:Nat):Int):=by simp;try omega
theorem Ahr:(Tryz.prog.info? 5).map (λi=>(i.zero,i.size,i.bytes))=some (some (.int .u8 0),1,1):=by kernel_rfl
theorem AjH {n:Nat} (h:128<=n):My n=UInt8.ofNat (128+n%128)::My (n/128):=by rw[My,dif_neg (by omega)]
theorem Amh {n:Nat} (h:n<128):My n= [UInt8.ofNat n]:=by rw[My,dif_pos h]
theorem AfK {α:Type} (l:List α) (f:α->UInt8) (acc:ByteArray):
  ((l.map λa=>((f a).toNat:Int)).foldl (λ(r:ByteArray) n=>r.push (UInt8.ofNat n.toNat)) acc).data.toList=acc.data.toList++l.map f:=by
 induction l generalizing acc with
 |nil=>simp
 |cons a l j=>
  simp only[List.map_cons,List.foldl_cons];rw[j]
  have:(acc.push (UInt8.ofNat (((f a).toNat:Int)).toNat)).data.toList=acc.data.toList++ [f a]:=by
   rw[Int.toNat_natCast,UInt8.ofNat_toNat]
   show(acc.data.push (f a)).toList=_
   rw[Array.toList_push]
  rw[this,List.append_assoc];rfl
theorem AfH {α:Type} (l:List α) (f:α->UInt8):(l.map λa=>((f a).toNat:Int)).foldl (λ(r:ByteArray) n=>r.push (UInt8.ofNat n.toNat)) ByteArray.empty=⟨(l.map f).toArray⟩:=by
 have h:=AfK l f ByteArray.empty;generalize (l.map λa=>((f a).toNat:Int)).foldl (λ(r:ByteArray) n=>r.push (UInt8.ofNat n.toNat)) ByteArray.empty=x at*
 cases x with
 |mk d=>
  congr 1
  apply Array.ext'
  simpa using h
theorem AmH {W:World} {B n:Nat} {A:Option Addr} {N c:Nat} {l:Txt} (hl:0<l.length) (h:W.ownsRow B 5 1 (.slice A N c) n (ubs l)):(convert 127 9 (.slice A N c)).run Tryz.prog W= .ok (tstr l) W:=by
 have q:=h;obtain⟨x,h|⟨g,m,p,y,_,z,D,_,E,F⟩⟩:=h
 ·rw[Ant]at x;have:=h.2;omega
 cases y;rw[run_convert_bytes_string W _ _ 5 _ _ _ Tryz.underlying127 Tryz.underlying5 Tryz.underlying9]
 have j:(loadCells ⟨g,0,none⟩ n).run Tryz.prog W= .ok (ubs l).toArray W:=by
  have:=run_loadCells_list (P:=Tryz.prog) (w:=W) ⟨g,0,none⟩ (ubs l) (q.cells (g:=g) rfl)
  rwa [show(ubs l).length=n by omega]at this
 rw[run_bytesToString W ⟨g,0,none⟩ n c _ j,show(l.map λc=>(c.toNat:Int)).foldl (λ(r:ByteArray) n=>r.push (UInt8.ofNat n.toNat)) ByteArray.empty=⟨(l.map id).toArray⟩ from AfH l id,List.map_id]
theorem Acl (n:Nat) (hn:n<4294967296) (w:World):
  Calls Tryz.prog 70 #[.int .u32 n] w λe w'=>e= .returned (tstr (My n))/\Below w.heap.size w w':=by
 have B:=Ab hn;clear hn
 go_enter Tryz.func70,Tryz.ntmps70
 go_wp2
 go_loopw [0,3] (λu s wr=>∃ (x:Nat) (A:Option Addr) (N C:Nat) (l:Txt),u= .int .u32 x/\s= .slice A N C/\Hid (wr.ownsRow w.heap.size 5 1 (.slice A N C) N (ubs l))/\Hid (My n=l++My x)/\Hid (N+x<=n)/\Hid (Below w.heap.size w wr)) (λu _ _=>(intOf u).toNat)
 case atStart=>exact⟨n,none,0,0,[],rfl,rfl,Ab (World.ownsRow_nil _ _ _ _),Ab rfl,Ab (by omega),Ab (Below.refl _ _)⟩
 case round=>
  obtain⟨x,A,N,C,l,rfl,rfl,p,E,hle,y⟩:=hrel;have r:=Ab (show N+1<=maxLen by have:=hle.o;have:=B.o;unfold maxLen;omega);have z:=Ab (show(N+1)*1<=140737488355328 by have:=hle.o;have:=B.o;omega)
  by_cases U:127<x
  ·have h:(127:Int)<(x:Int):=by omega
   have X:=ApB x;have S:=Ab (AoU x)
   go_wp2_with (at_builtin;refine Ah rfl _ _ _ rfl Tryz.underlying127 Ahr rfl (by decide) rfl (by first|rfl|simp[go_sem]) p.o y.o (Nl _) rfl (by simp[Value.oneCell']) r.o z.o ?_;intro Z w6 j q I;obtain⟨⟨J,O,M⟩,rfl,m⟩:=Be j;dsimp only at m;subst m;dsimp only[sv])
   have R:(x:Int)/128=((x/128:Nat):Int):=by omega
   rw[S.o,AeZ]at j;go_roundw
   case rel=>exact⟨x/128,J,N+1,M,_,by rw[R],rfl,Ab j,Ab (by rw[E.o,AjH (by omega)];simp),Ab (by have:=hle.o;omega),Ab q⟩
   case measure=>simp[intOf];omega
  have h:¬ (127:Int)<(x:Int):=by omega
  have D:=Ab (AnO x (by omega))
  have Y:(x:Int)%256=x:=by omega
  go_wp2_with (at_builtin;refine Ah rfl _ _ _ rfl Tryz.underlying127 Ahr rfl (by decide) rfl (by first|rfl|simp[go_sem]) p.o y.o (Nl _) rfl (by simp[Value.oneCell']) r.o z.o ?_;intro Z w6 j q I;obtain⟨⟨J,O,M⟩,rfl,m⟩:=Be j;dsimp only at m;subst m;dsimp only[sv];have F:=AmH (l:=l++ [UInt8.ofNat x]) (by simp) (by rw[D.o,AeZ]at j;exact j);dsimp only[tstr]at F)
  go_ret
  exact⟨by rw[E.o,Amh (by omega)];rfl,q⟩
end Go.Proofs.YtmidbhnhcbpneaaGreatDoor.Top
end
