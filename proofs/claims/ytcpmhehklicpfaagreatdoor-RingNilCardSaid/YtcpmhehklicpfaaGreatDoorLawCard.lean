/- The closed facts of RingNil's card, each by itself. -/
import Derived.Test.YtcpmhehklicpfaaGreatDoorRows
import Derived.Test.YtcpmhehklicpfaaGreatDoorCards
import Derived.Test.YtcpmhehklicpfaaGreatDoorTie
import Derived.SevenTiedAt
import Derived.KernelRfl
namespace Go.Proofs.YtcpmhehklicpfaaGreatDoor.ringNil
open Go
set_option maxRecDepth 100000
theorem cw : Rows.ringNilRow.wfByText (OpenSpec.ofChange Rows.ringNilSpec) = true := by kernel_rfl
theorem cm : Tryz.pinned.checked.prog.mainIs = some (true, "6e138b2724071163c8e2b97c96a751fd2ccf7a903642327e0e608682ea315797".toList) := by kernel_rfl
theorem cf : Tryz.pinned.checked.prog.funcNamed Rows.ringNilRow.func = some 3 := by kernel_rfl
theorem ck : true = Tryz.pinned.checked.prog.looks [] := by kernel_rfl
theorem ca : ([27, 3].all fun u => !Tryz.prog.wantsStandIn u) = true := by kernel_rfl
theorem cg : false = Rows.ringNilRow.goesBy Tryz.pinned.checked.prog := by kernel_rfl
end Go.Proofs.YtcpmhehklicpfaaGreatDoor.ringNil
