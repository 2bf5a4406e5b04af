/- MemberNil, reckoned where the second number lies between 1 and 1099511627776. -/
import Derived.Test.YtpfedngmofpneaaGreatDoorEvKA
namespace Go.Proofs.YtpfedngmofpneaaGreatDoor.Ev
open Go
set_option maxRecDepth 1000000 in
theorem k2 : KnownS Tryz.prog nibs 3 [doIn 1 1099511627776] (.bool true) := known_of (C := C2) (n := 100000) fol1 fol2 knows2 rfl (by decide +kernel)
end Go.Proofs.YtpfedngmofpneaaGreatDoor.Ev
