/- The ring at work, reckoned, where its steps are known. -/
import Derived.Test.YtcpmhehklicpfaaGreatDoorEvR0
import Derived.Test.YtcpmhehklicpfaaGreatDoorEvR1
import Derived.Test.YtcpmhehklicpfaaGreatDoorEvR2
import Derived.Test.YtcpmhehklicpfaaGreatDoorEvR3
import Derived.Test.YtcpmhehklicpfaaGreatDoorEvR4
import Derived.Test.YtcpmhehklicpfaaGreatDoorEvR5
namespace Go.Proofs.YtcpmhehklicpfaaGreatDoor.Ev
open Go
def runs : List Run := [run0, run1, run2, run3, run4, run5, run6]
theorem runs_ran : ∀ x ∈ runs, Ran Tryz.prog x := fun x h => by
  simp only [runs, List.mem_cons, List.not_mem_nil, or_false] at h
  rcases h with rfl | rfl | rfl | rfl | rfl | rfl | rfl
  · exact ran0
  · exact ran1
  · exact ran2
  · exact ran3
  · exact ran4
  · exact ran5
  · exact ran6
set_option maxRecDepth 1000000 in
theorem kWorks : KnownS Tryz.prog nibs 13 [] (.bool true) := knownR_of (C := C1) (rs := runs) (n := 100000) fol1 fol2 knows1 runs_ran rfl (by decide +kernel)
def C2 : Ctx := ⟨nibs, [(13, [], .bool true)]⟩
theorem knows2 : Knows Tryz.prog C2 := ⟨okNibs, by decide +kernel, fun x h => by
  simp only [C2, List.mem_cons, List.not_mem_nil, or_false] at h
  subst h
  exact kWorks⟩
/-- What comes in: a struct of fourteen cells and a number. -/
def choIn : List AV := [.agg [.any, .any, .any, .any, .any, .any, .any, .any, .any, .any, .any, .any, .any, .any], .any]
set_option maxRecDepth 1000000 in
theorem k1 : KnownS Tryz.prog nibs 3 choIn (.bool true) := known_of (C := C2) (n := 100000) fol1 fol2 knows2 rfl (by decide +kernel)
end Go.Proofs.YtcpmhehklicpfaaGreatDoor.Ev
