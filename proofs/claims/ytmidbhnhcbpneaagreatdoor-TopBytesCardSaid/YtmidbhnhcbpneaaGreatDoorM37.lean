/- A part of the proof. -/
import Derived.Test.YtmidbhnhcbpneaaGreatDoorRows
import Derived.Test.YtmidbhnhcbpneaaGreatDoorCards
import Derived.ProofKit
import Derived.JoinedOf
import Derived.JoinedCond
import Derived.KernelRfl
set_option linter.unusedVariables false
set_option linter.unusedSimpArgs false
set_option maxRecDepth 8000
set_option maxHeartbeats 8000000
section
namespace Go.Proofs.YtmidbhnhcbpneaaGreatDoor.topBytes
open Go
noncomputable abbrev SP2:ChangeSpec:=(OpenSpec.ofChange Rows.topBytesSpec).bare
theorem Aqh:((Rows.topBytesRow.maps==(Tryz.f3.params.toList++SP2.plain.varTypes Tryz.prog).any (Tryz.prog.mapsRec ·)))=true:=by kernel_rfl
theorem ApX:((Rows.topBytesRow.ifaces==(Tryz.f3.params.toList++SP2.plain.varTypes Tryz.prog).any (Tryz.prog.ifacesRec ·)))=true:=by kernel_rfl
theorem Aqp:((Rows.topBytesRow.mapsOut==Tryz.prog.mapsAmong Tryz.f3.resultTypes.toList))=true:=by kernel_rfl
theorem Aqe:((Rows.topBytesRow.loops==(Tryz.f3.params.toList++SP2.plain.varTypes Tryz.prog).any (Tryz.prog.loopsFrom ·)))=true:=by kernel_rfl
theorem Aqj:((Rows.topBytesRow.wideKeys==(Tryz.f3.params.toList++SP2.plain.varTypes Tryz.prog++Tryz.f3.resultTypes.toList).any (Tryz.prog.wideKeysFrom ·)))=true:=by kernel_rfl
theorem Aqm:(SP2.vars.all (Tryz.prog.varReadable ·))=true:=by kernel_rfl
theorem ApO:(Tryz.f3.resultTypes.all (λt=>Tryz.prog.readableRec t&&decide (t<Tryz.prog.types.size)))=true:=by kernel_rfl
theorem Aqd:((Rows.topBytesRow.ifacesOut==Tryz.f3.resultTypes.toList.any (Tryz.prog.ifacesRec ·)))=true:=by kernel_rfl
theorem ApW:((Rows.topBytesRow.loopsOut==Tryz.f3.resultTypes.toList.any (Tryz.prog.loopsFrom ·)))=true:=by kernel_rfl
theorem Aqi:((Rows.topBytesRow.plainKeys==Tryz.prog.plainKeys))=true:=by kernel_rfl
theorem ApQ:(Rows.topBytesRow.shortTexts.isNone)=true:=by kernel_rfl
theorem ApZ:(Tryz.prog.stopsHeard)=true:=by kernel_rfl
theorem ApS:(Tryz.prog.mayEnter)=true:=by kernel_rfl
theorem Aqg:((Rows.topBytesRow.lifted==Tryz.prog.liftsFinal))=true:=by kernel_rfl
theorem Aqq:((Tryz.prog.make==some Rows.topBytesRow.make))=true:=by kernel_rfl
theorem ApU:((Rows.topBytesRow.kinds==(if Rows.topBytesRow.domain.isEmpty then[] else Tryz.f3.params.toList.map λt=>match Tryz.prog.underlying t with|some (.int k)=>some k|_=>none)))=true:=by kernel_rfl
theorem Aqc:((Rows.topBytesRow.pinned==Rows.topBytesRow.pinnedBy))=true:=by kernel_rfl
theorem Aqa:((Rows.topBytesRow.veiled==(Tryz.f3.params.toList++SP2.plain.varTypes Tryz.prog++Tryz.f3.resultTypes.toList).any (Tryz.prog.veiledRec ·)))=true:=by kernel_rfl
theorem Aqn:(Rows.topBytesRow.veiledFits Tryz.prog Tryz.f3.params.toList (Tryz.f3.params.toList++SP2.plain.varTypes Tryz.prog++Tryz.f3.resultTypes.toList))=true:=by kernel_rfl
end Go.Proofs.YtmidbhnhcbpneaaGreatDoor.topBytes
end
