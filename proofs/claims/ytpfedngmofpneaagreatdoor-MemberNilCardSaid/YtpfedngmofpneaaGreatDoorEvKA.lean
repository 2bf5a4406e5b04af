/- A single member makes a file: reckoned, where some calls are known. -/
import Derived.Test.YtpfedngmofpneaaGreatDoorEvC0
import Derived.Test.YtpfedngmofpneaaGreatDoorEvC1
import Derived.Test.YtpfedngmofpneaaGreatDoorEvC2
import Derived.Test.YtpfedngmofpneaaGreatDoorEvC3
import Derived.Test.YtpfedngmofpneaaGreatDoorEvC4
import Derived.Test.YtpfedngmofpneaaGreatDoorEvC5
import Derived.Test.YtpfedngmofpneaaGreatDoorEvC6
namespace Go.Proofs.YtpfedngmofpneaaGreatDoor.Ev
open Go
def C1 : Ctx := ⟨nibs, [(20, l0, v0), (36, l1, v1), (80, l2, v2), (80, l3, v3), (184, l4, v4), (20, l5, v5), (176, l6, v6)]⟩
theorem knows1 : Knows Tryz.prog C1 := ⟨okNibs, by decide +kernel, fun x h => by
  simp only [C1, List.mem_cons, List.not_mem_nil, or_false] at h
  rcases h with rfl | rfl | rfl | rfl | rfl | rfl | rfl
  · exact c0
  · exact c1
  · exact c2
  · exact c3
  · exact c4
  · exact c5
  · exact c6⟩
set_option maxRecDepth 1000000 in
theorem kAlone : KnownS Tryz.prog nibs 14 [] (.bool true) := known_of (C := C1) (n := 100000) fol1 fol2 knows1 rfl (by decide +kernel)
def C2 : Ctx := ⟨nibs, [(14, [], .bool true)]⟩
theorem knows2 : Knows Tryz.prog C2 := ⟨okNibs, by decide +kernel, fun x h => by
  simp only [C2, List.mem_cons, List.not_mem_nil, or_false] at h
  subst h
  exact kAlone⟩
end Go.Proofs.YtpfedngmofpneaaGreatDoor.Ev
