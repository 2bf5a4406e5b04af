/- MemberNil, reckoned where the second number lies between (-9223372036854775808) and 0. -/
import Derived.Test.YtpfedngmofpneaaGreatDoorEvKA
namespace Go.Proofs.YtpfedngmofpneaaGreatDoor.Ev
open Go
set_option maxRecDepth 1000000 in
theorem k1 : KnownS Tryz.prog nibs 3 [doIn (-9223372036854775808) 0] (.bool true) := known_of (C := C2) (n := 100000) fol1 fol2 knows2 rfl (by decide +kernel)
end Go.Proofs.YtpfedngmofpneaaGreatDoor.Ev
