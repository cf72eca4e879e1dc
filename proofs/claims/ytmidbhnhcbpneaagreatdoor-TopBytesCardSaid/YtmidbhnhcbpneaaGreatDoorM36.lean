/- A part of the proof. -/
import Derived.Test.YtmidbhnhcbpneaaGreatDoorRows
import Derived.Test.YtmidbhnhcbpneaaGreatDoorCards
import Derived.ProofKit
import Derived.JoinedOf
import Derived.JoinedCond
import Derived.KernelRfl
set_option linter.unusedVariables false
set_option linter.unusedSimpArgs false
set_option maxRecDepth 8000
set_option maxHeartbeats 8000000
section
namespace Go.Proofs.YtmidbhnhcbpneaaGreatDoor.topBytes
open Go
noncomputable abbrev SP:ChangeSpec:=(OpenSpec.ofChange Rows.topBytesSpec).bare
theorem jf0:(Rows.topBytesRow.wf (OpenSpec.ofChange SP))=true:=by kernel_rfl
theorem jf1:(laidOutB Tryz.prog)=true:=by kernel_rfl
theorem jf2:(mapsRowed Tryz.prog)=true:=by kernel_rfl
theorem jf3:(Tryz.f3.params.all (Tryz.prog.readableRec ·))=true:=by kernel_rfl
theorem jf4:(namedTie Tryz.prog Rows.topBytesRow.named SP.vars)=true:=by kernel_rfl
theorem jf5:((Rows.topBytesRow.stops== []))=true:=by kernel_rfl
theorem jf6:((Tryz.prog.stops== []))=true:=by kernel_rfl
theorem jf7:((Rows.topBytesRow.knobs== []))=true:=by kernel_rfl
theorem jf8:((Tryz.prog.stopKnobs== []))=true:=by kernel_rfl
theorem jf9:((Rows.topBytesRow.inPlace==Tryz.prog.inPlace 3))=true:=by kernel_rfl
theorem ApP:((Rows.topBytesRow.unfollowed==Tryz.prog.unfollowed 3))=true:=by kernel_rfl
theorem ApV:((Rows.topBytesRow.recurses==Tryz.prog.recurses 3))=true:=by kernel_rfl
theorem ApR:((Rows.topBytesRow.named==Tryz.prog.varsNamed 3))=true:=by kernel_rfl
end Go.Proofs.YtmidbhnhcbpneaaGreatDoor.topBytes
end
