/- The calls that are known, gathered. -/
import Derived.Test.YtcpmhehklicpfaaGreatDoorEvB0
import Derived.Test.YtcpmhehklicpfaaGreatDoorEvB1
import Derived.Test.YtcpmhehklicpfaaGreatDoorEvB2
import Derived.Test.YtcpmhehklicpfaaGreatDoorEvB3
import Derived.Test.YtcpmhehklicpfaaGreatDoorEvB4
namespace Go.Proofs.YtcpmhehklicpfaaGreatDoor.Ev
open Go
def C1 : Ctx := ⟨nibs, [(204, l0, v0), (204, l1, v1), (204, l2, v2), (204, l3, v3), (236, l4, v4), (236, l5, v5), (236, l6, v6), (236, l7, v7), (119, l8, v8), (119, l9, v9), (124, l10, v10), (140, l11, v11), (140, l12, v12), (207, l13, v13), (74, l14, v14), (64, l15, v15)]⟩
theorem knows1 : Knows Tryz.prog C1 := ⟨okNibs, by decide +kernel, fun x h => by
  simp only [C1, List.mem_cons, List.not_mem_nil, or_false] at h
  rcases h with rfl | rfl | rfl | rfl | rfl | rfl | rfl | rfl | rfl | rfl | rfl | rfl | rfl | rfl | rfl | rfl
  · exact c0
  · exact c1
  · exact c2
  · exact c3
  · exact c4
  · exact c5
  · exact c6
  · exact c7
  · exact c8
  · exact c9
  · exact c10
  · exact c11
  · exact c12
  · exact c13
  · exact c14
  · exact c15⟩
end Go.Proofs.YtcpmhehklicpfaaGreatDoor.Ev
