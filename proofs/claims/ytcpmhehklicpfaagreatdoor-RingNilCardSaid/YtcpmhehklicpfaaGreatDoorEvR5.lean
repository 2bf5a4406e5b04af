/- Calls, reckoned from memory to memory. -/
import Derived.Test.YtcpmhehklicpfaaGreatDoorEvS
namespace Go.Proofs.YtcpmhehklicpfaaGreatDoor.Ev
open Go
set_option maxRecDepth 1000000 in
theorem ran5 : Ran Tryz.prog run5 := ran_of (C := C1) (rs := []) (n := 100000) fol1 fol2 knows1 (fun _ h => by cases h) (by decide +kernel)
end Go.Proofs.YtcpmhehklicpfaaGreatDoor.Ev
