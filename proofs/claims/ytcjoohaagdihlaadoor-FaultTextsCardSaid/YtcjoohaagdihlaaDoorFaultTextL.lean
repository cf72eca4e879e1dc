/- The law on the texts of faults. -/
import Derived.Test.YtcjoohaagdihlaaDoorFaultTextM1
import Derived.Test.YtcjoohaagdihlaaDoorFaultTextM2
namespace Go.Proofs.YtcjoohaagdihlaaDoor.Fault
open Go.RowKit Go.Lt Go.Proofs.YtcjoohaagdihlaaDoor.Lit Go.Proofs.YtcjoohaagdihlaaDoor.Dec Go.Instr
set_option linter.unusedVariables false
set_option linter.unusedSimpArgs false

theorem ftexts (f : Ft) (s : ByteArray) (w : World) (hp : Pows w) (hx : MaxL w) (hd : Bd f) :
    Calls Tryd.prog 12 #[.agg #[.int .i64 f.v, .int .i64 f.p, .bool f.o], .string s] w fun e w' => e = .returned (.bool true) ∧ Below w.heap.size w w' := by
  by_cases h : 100 < s.size
  · exact ftexts_big f s w hp hx hd h
  · exact ftexts_small f s w hp hx hd h
end Go.Proofs.YtcjoohaagdihlaaDoor.Fault
