/- MemberNil, reckoned where the second number lies between 1099511627777 and 9223372036854775807. -/
import Derived.Test.YtpfedngmofpneaaGreatDoorEvKA
namespace Go.Proofs.YtpfedngmofpneaaGreatDoor.Ev
open Go
set_option maxRecDepth 1000000 in
theorem k3 : KnownS Tryz.prog nibs 3 [doIn 1099511627777 9223372036854775807] (.bool true) := known_of (C := C2) (n := 100000) fol1 fol2 knows2 rfl (by decide +kernel)
end Go.Proofs.YtpfedngmofpneaaGreatDoor.Ev
