/- TopBytes: for every input the law returns true and its arguments read as before. The conditions: the listed tables and sentinels read as the text lays them. -/
import Derived.Test.YtmidbhnhcbpneaaGreatDoorRows
import Derived.WalkKit
import Derived.ProofKit
import Derived.OpenShut
import Derived.ShutString
import Derived.ChangeOld
import Derived.Below
import Derived.Test.YtmidbhnhcbpneaaGreatDoorCards
import Derived.Test.YtmidbhnhcbpneaaGreatDoorTie
import Derived.Deep.DeepHandedRow
import Derived.Lib.LaidTab
import Derived.Test.YtmidbhnhcbpneaaGreatDoorM35
import Derived.Test.YtmidbhnhcbpneaaGreatDoorM38
namespace Go.Proofs.YtmidbhnhcbpneaaGreatDoor.topBytes
open Go.ChangeShapes Go.WideShapes Go.ChangeAt Go.RowKit
open Go.ChangeMaps (open_string shut_string)
set_option linter.unusedVariables false
theorem own:ownKnob Tryz.prog.godebug=none:=by kernel_rfl
theorem ldO:laidOutB Tryz.prog=true:=by kernel_rfl
open Go.Lt
open Go.Proofs.YtmidbhnhcbpneaaGreatDoor.Lit Go.Proofs.YtmidbhnhcbpneaaGreatDoor.Dec
theorem ptY:(Tryz.prog.globals[3]?).map (·.type)=some 404:=by kernel_rfl
theorem pcS:Tryz.prog.cellsOf 404=20:=by kernel_rfl
theorem pcL:Tryz.prog.cellsOf 74=1:=by kernel_rfl
theorem poL:Rows.topBytesRow.laid.filter (λx=>x.1== "internal/strconv.uint64pow10")= [("internal/strconv.uint64pow10",Lib.tabData .u64 Lib.pow10Tab)]:=by kernel_rfl
theorem psO {W:World} (h:laidMetH Tryz.prog Rows.topBytesRow.laid W):Sr W:=by
 have h1:=h.filter (λx=>x.1== "internal/strconv.uint64pow10")
 rw[poL]at h1
 exact Lib.tabIs_of_head (rest:=[]) Aoq ptY Tryz.underlying404 Tryz.underlying74 pcL pcS h1
theorem walk (x0:ByteArray) (S1 I1:Circ.Sl) (l1:List Bool) (y1:List (List Bool)) (x2:Int) (W:World) (hs:Sr W) (u0:x0.size<=maxLen) (r1:Top.RdB W S1 l1) (g1:Top.RdU W I1 y1) (u2:(Lit.int .i64 x2).wf=true):
  Calls Tryz.prog 3 #[.string x0,.agg #[Top.sv S1,Top.sv I1],.int .i64 x2] W λe w'=>e= .returned (.bool true)/\Below W.heap.size W w':=by
 exact Top.Adq x0 S1 I1 l1 y1 x2 W r1 g1 hs
set_option maxRecDepth 100000 in
theorem ctR (H : Type) (enc : TypeId × Value -> H) (W : World) (base : Nat) (args : Array Value) (ds gs : List (DataW H)) (before : List MemPlace)
    (hval0 : ∀ (j : Nat) t v, Tryz.f3.params[j]? = some t -> args[j]? = some v -> Value.okWide Tryz.prog W .any base t v)
    (hW : DataW.Whole enc Tryz.prog Tryz.f3.params.toList Rows.topBytesSpec.vars false W args.toList ds gs before) (hL : laidMetH Tryz.prog Rows.topBytesRow.laid W) :
    Calls Tryz.prog 3 args W λe W' => ∃ v, e = .returned v /\ Rows.topBytesSpec.post enc Tryz.prog Tryz.f3 false true false false W args v W' := by
  have hval : ∀ (j : Nat) t v, Tryz.f3.params[j]? = some t -> args[j]? = some v -> Value.okWide Tryz.prog W .any base t v := hval0
  have hW' := hW
  obtain ⟨p, q, hA0, hV, rfl, hfz, hnd⟩ := hW
  have hA : DataW.TrodAll enc Tryz.prog W 0 (λ_ => true) true Tryz.f3.params.toList args.toList ds p := hA0
  rw [Tryz.params3] at hA hval
  obtain ⟨v0, vs0, d0, ds0, p0, q0, hargs, rfl, rfl, h0, r0x⟩ := trodAll_cons hA
  obtain ⟨v1, vs1, d1, ds1, p1, q1, rfl, rfl, rfl, h1, r1x⟩ := trodAll_cons r0x
  obtain ⟨v2, vs2, d2, ds2, p2, q2, rfl, rfl, rfl, h2, r2x⟩ := trodAll_cons r1x
  obtain ⟨rfl, rfl, rfl⟩ := trodAll_nil r2x
  obtain rfl : args = #[v0, v1, v2] := by cases args; simp_all
  obtain ⟨rfl, rfl⟩ := trodVars_none hV
  have k0 := h0
  have lt0 : ∀ x ∈ p0, x.block < W.heap.size := by obtain ⟨m, hm⟩ := k0; exact DataW.trod_lt m _ _ _ hm
  have k1 := h1
  have lt1 : ∀ x ∈ p1, x.block < W.heap.size := by obtain ⟨m, hm⟩ := k1; exact DataW.trod_lt m _ _ _ hm
  have k2 := h2
  have lt2 : ∀ x ∈ p2, x.block < W.heap.size := by obtain ⟨m, hm⟩ := k2; exact DataW.trod_lt m _ _ _ hm
  obtain ⟨x0, rfl, _, _, u0⟩ := open_string Tryz.underlying9 (hval 0 9 v0 rfl rfl) k0
  obtain ⟨S1, I1, l1, y1, rfl, r1, g1, _⟩ := Top.AfB Tryz.underlying25 (by kernel_rfl) (by kernel_rfl) Tryz.underlying22 (by kernel_rfl) Tryz.underlying23 (by kernel_rfl) Tryz.underlying4 (by kernel_rfl) (hval 1 25 v1 rfl rfl) k1
  obtain ⟨x2, rfl, _, _, u2⟩ := open_int Tryz.underlying3 (hval 2 3 v2 rfl rfl) k2
  clear hA0
  refine (walk x0 S1 I1 l1 y1 x2 W (psO hL) u0 r1 g1 u2).mono λe W' ⟨he, bel⟩ => ?_
  subst he
  exact ⟨_, rfl, _, _, _, [], _, [], hW', trodAll_mk1 (shut_bool Tryz.underlying4 _), (trodAll_cons_mk (Below.trod ldO (by kernel_rfl) (of_decide_eq_true (by kernel_rfl)) h0 bel lt0) (trodAll_cons_mk (Below.trod ldO (by kernel_rfl) (of_decide_eq_true (by kernel_rfl)) h1 bel lt1) (trodAll_cons_mk (Below.trod ldO (by kernel_rfl) (of_decide_eq_true (by kernel_rfl)) h2 bel lt2) trodAll_mk0))), rfl, bel.frame _, λh => by cases h⟩
noncomputable def lwD (os:Os):World:=
 {World.holding Tryz.prog os ⟨#[.cells #[.string ⟨#[118,97,108,117,101,32,111,117,116,32,111,102,32,114,97,110,103,101]⟩] 410 (0,0),.cells #[.string ⟨#[105,110,118,97,108,105,100,32,115,121,110,116,97,120]⟩] 410 (0,0)],#[],[]⟩ with heap:=((((((World.holding Tryz.prog os ⟨#[.cells #[.string ⟨#[118,97,108,117,101,32,111,117,116,32,111,102,32,114,97,110,103,101]⟩] 410 (0,0),.cells #[.string ⟨#[105,110,118,97,108,105,100,32,115,121,110,116,97,120]⟩] 410 (0,0)],#[],[]⟩).heap.modify 5 fun
  | .cells _ t frozen=> .cells #[.int .u8 0,.int .u8 1,.int .u8 28,.int .u8 2,.int .u8 29,.int .u8 14,.int .u8 24,.int .u8 3,.int .u8 30,.int .u8 22,.int .u8 20,.int .u8 15,.int .u8 25,.int .u8 17,.int .u8 4,.int .u8 8,.int .u8 31,.int .u8 27,.int .u8 13,.int .u8 23,.int .u8 21,.int .u8 19,.int .u8 16,.int .u8 7,.int .u8 26,.int .u8 12,.int .u8 18,.int .u8 6,.int .u8 11,.int .u8 5,.int .u8 10,.int .u8 9] t frozen
  |o=>o).modify 6 fun
  | .cells _ t frozen=> .cells #[.int .u8 0,.int .u8 1,.int .u8 56,.int .u8 2,.int .u8 57,.int .u8 49,.int .u8 28,.int .u8 3,.int .u8 61,.int .u8 58,.int .u8 42,.int .u8 50,.int .u8 38,.int .u8 29,.int .u8 17,.int .u8 4,.int .u8 62,.int .u8 47,.int .u8 59,.int .u8 36,.int .u8 45,.int .u8 43,.int .u8 51,.int .u8 22,.int .u8 53,.int .u8 39,.int .u8 33,.int .u8 30,.int .u8 24,.int .u8 18,.int .u8 12,.int .u8 5,.int .u8 63,.int .u8 55,.int .u8 48,.int .u8 27,.int .u8 60,.int .u8 41,.int .u8 37,.int .u8 16,.int .u8 46,.int .u8 35,.int .u8 44,.int .u8 21,.int .u8 52,.int .u8 32,.int .u8 23,.int .u8 11,.int .u8 54,.int .u8 26,.int .u8 40,.int .u8 15,.int .u8 34,.int .u8 20,.int .u8 31,.int .u8 10,.int .u8 25,.int .u8 14,.int .u8 19,.int .u8 9,.int .u8 13,.int .u8 8,.int .u8 7,.int .u8 6] t frozen
  |o=>o).modify 3 fun
  | .cells _ t frozen=> .cells #[.int .u64 1,.int .u64 10,.int .u64 100,.int .u64 1000,.int .u64 10000,.int .u64 100000,.int .u64 1000000,.int .u64 10000000,.int .u64 100000000,.int .u64 1000000000,.int .u64 10000000000,.int .u64 100000000000,.int .u64 1000000000000,.int .u64 10000000000000,.int .u64 100000000000000,.int .u64 1000000000000000,.int .u64 10000000000000000,.int .u64 100000000000000000,.int .u64 1000000000000000000,.int .u64 10000000000000000000] t frozen
  |o=>o).modify 2 fun
  | .cells _ t frozen=> .cells #[.iface 408 (.pointer (some ⟨(World.settled Tryz.prog os).heap.size,0,none⟩))] t frozen
  |o=>o).modify 1 fun
  | .cells _ t frozen=> .cells #[.iface 408 (.pointer (some ⟨(World.settled Tryz.prog os).heap.size+1,0,none⟩))] t frozen
  |o=>o)}
theorem lmT (os:Os):laidMet Tryz.prog Rows.topBytesRow.laid ((lwD os).forCall (λ_ _=>0) ⟨#[],#[.string ByteArray.empty,.agg #[.slice none 0 0,.slice none 0 0],.int .i64 0],[]⟩).memory:=
 laidMet_of_run' 8 (by kernel_rfl) (by kernel_rfl)
theorem rdS2 (os:Os) {H:Type} (enc:TypeId×Value->H):∃ places,DataW.whole enc Tryz.prog ((lwD os).forCall (λ_ _=>0) ⟨#[],#[.string ByteArray.empty,.agg #[.slice none 0 0,.slice none 0 0],.int .i64 0],[]⟩).memory Tryz.f3.params.toList Rows.topBytesSpec.vars false #[.string ByteArray.empty,.agg #[.slice none 0 0,.slice none 0 0],.int .i64 0].toList 8=some ([.lit (.string []),.agg [.nil,.nil],.lit (.int .i64 0)],[],places):=
 ⟨[],by kernel_rfl⟩
set_option maxRecDepth 100000 in
theorem lfD (os : Os) (started : os.Started) (H : Type) (enc : TypeId × Value -> H) (F : Stop.Interp) :
    ReturnsInHanded {} Tryz.checked os 3 .any ((OpenSpec.ofChange Rows.topBytesSpec).preRow enc Tryz.prog Tryz.f3 Rows.topBytesRow.domain false Rows.topBytesRow.laid) (((OpenSpec.ofChange Rows.topBytesSpec).at F).post enc Tryz.prog Tryz.f3 false true false false) := by
  obtain ⟨places, hx⟩ := rdS2 os enc
  refine returnsInHanded_of_row (C := Tryz.checked) (s := OpenSpec.ofChange Rows.topBytesSpec) own started (by kernel_rfl) Tryz.func3
    (witness_row_at (enc := enc) (C := Tryz.checked) false (lwD os) #[.string ByteArray.empty, .agg #[.slice none 0 0, .slice none 0 0], .int .i64 0] rfl (by kernel_rfl) (by kernel_rfl) (by kernel_rfl)
      (OpenSpec.preRow_of_cond 8 hx (by kernel_rfl) (λk hk => by cases hk) (by kernel_rfl) (lmT os))) ?_
  intro W base args ds gs before hval hW _ _ _ hL _ _
  exact ctR H enc W base args ds gs before hval hW hL
theorem said:Rows.TopBytesSaid:=
 OpenClaim.holds_of_cond 3 Tryz.f3 rfl rfl rfl rfl rfl rfl rfl ⟨rfl,rfl,rfl,rfl,rfl⟩ rfl rfl rfl rfl rfl (by kernel_rfl) Tryz.func3 closed
  (of_decide_eq_true (by kernel_rfl)) (by unfold Func.isWrapper;first|(rw[if_pos (by decide+kernel)];kernel_rfl)|(rw[if_neg (by decide+kernel)];exact⟨rfl,rfl⟩))
  (λos started H enc _ F=>by rw[OpenClaim.pre_eq_preRow];exact lfD os started H enc F)
theorem plain (f:FuncId) (fn:Func) (hf:Tryz.pinned.checked.prog.funcNamed "latchet/latchettop.TopBytes" =some f) (hfn:Tryz.pinned.checked.prog.funcs[f]?=some fn):
  true=Tryz.pinned.checked.prog.looks []/\∀(j:Nat) t,fn.params[j]?=some t->Tryz.pinned.checked.prog.wantsStandIn t=false:=by
 obtain rfl:f=3:=Option.some.inj ((show Tryz.prog.funcNamed "latchet/latchettop.TopBytes" =some 3 by kernel_rfl).symm.trans hf) |>.symm
 obtain rfl:fn=Tryz.f3:=(Option.some.inj (Tryz.func3.symm.trans hfn)).symm
 refine⟨by kernel_rfl,λj t ht=>?_⟩
 rw[Tryz.params3]at ht
 have hm:t∈ #[9,25,3]:=Array.mem_of_getElem? ht
 have h3:t=9∨t=25∨t=3:=by simpa using hm
 rcases h3 with rfl|rfl|rfl
 ·exact(show Tryz.prog.wantsStandIn 9=false by kernel_rfl)
 ·exact(show Tryz.prog.wantsStandIn 25=false by kernel_rfl)
 ·exact(show Tryz.prog.wantsStandIn 3=false by kernel_rfl)
theorem proved:Rows.TopBytesCardSaid:=
 Claim7.holds_tied_plain_at .later [] _ _ _ _ said (λ_ h=>by cases h) AoE (λ_ h=>by cases h) topBytes_row_tie rfl ⟨rfl,rfl⟩ AoM rfl plain Aov
end Go.Proofs.YtmidbhnhcbpneaaGreatDoor.topBytes
