/- The contract of the document's Collapse. -/
import Derived.Test.YtcjoohaagdihlaaDoorFault11
import Derived.Test.YtcjoohaagdihlaaDoorFault12
import Derived.Test.YtcjoohaagdihlaaDoorFaultInj
namespace Go.Proofs.YtcjoohaagdihlaaDoor.Fault
open Go.RowKit Go.Lt Go.Proofs.YtcjoohaagdihlaaDoor.Lit Go.Instr
set_option linter.unusedVariables false
set_option linter.unusedSimpArgs false

theorem last_is (A C : Option Addr) (n m c cc : Nat) (l : List Nd) (outs : List Int) (hn : n ≤ 1000) (hm : m ≤ 1000) (hg : GoodNet l) (ho : GoodOuts l outs) : LastIs A C n m c cc l outs :=
  fun f W hf hr hro => ref_Last A C n m c cc l outs hn hm hg ho (rank l.length f + 1) f W (Nat.lt_succ_self _) hr hro (by
    obtain ⟨_, _, h⟩ := goodF_of hf
    rcases h with h | ⟨h, _⟩
    · omega
    · omega)
theorem ref_Coll (A C F : Option Addr) (n m k c cc ck : Nat) (l : List Nd) (outs : List Int) (fs : List Ft) (w : World) (hn : n ≤ 1000) (hm : m ≤ 1000) (hk : k ≤ 10000) (hg : GoodNet l) (ho : GoodOuts l outs) (hr : RdN w A n l) (hro : Rd w C m (ivs outs)) (hrf : RdF w F k fs) :
    Calls Tryd.prog 37 #[.slice A n c, .slice C m cc, .slice F k ck] w (CollIs l outs fs w) :=
  ref_Collapse A C F n m k c cc ck l outs fs w hn hk hr hro hrf (last_is A C n m c cc l outs hn hm hg ho)
end Go.Proofs.YtcjoohaagdihlaaDoor.Fault
