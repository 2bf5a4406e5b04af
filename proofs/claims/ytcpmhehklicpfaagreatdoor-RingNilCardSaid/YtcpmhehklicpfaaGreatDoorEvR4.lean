/- Calls, reckoned from memory to memory. -/
import Derived.Test.YtcpmhehklicpfaaGreatDoorEvS
namespace Go.Proofs.YtcpmhehklicpfaaGreatDoor.Ev
open Go
set_option maxRecDepth 1000000 in
theorem iran4_0 : Ran Tryz.prog irun4_0 := ran_of (C := C1) (rs := []) (n := 100000) fol1 fol2 knows1 (fun _ h => by cases h) (by decide +kernel)
set_option maxRecDepth 1000000 in
theorem ran4 : Ran Tryz.prog run4 := ran_of (C := C1) (rs := [irun4_0]) (n := 100000) fol1 fol2 knows1 (fun _ h => by obtain rfl := List.mem_singleton.1 h; exact iran4_0) (by decide +kernel)
end Go.Proofs.YtcpmhehklicpfaaGreatDoor.Ev
