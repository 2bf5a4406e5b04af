/- A call that is reckoned for itself. -/
import Derived.Test.YtpfedngmofpneaaGreatDoorEvNib
namespace Go.Proofs.YtpfedngmofpneaaGreatDoor.Ev
open Go
def l1 : List AV := [AV.agg           [AV.int IntKind.i64 (Int.ofNat 3), AV.int IntKind.i64 (Int.ofNat 0), AV.int IntKind.i64 (Int.ofNat 1),             AV.int IntKind.i64 (Int.ofNat 0), AV.int IntKind.i64 (Int.ofNat 0), AV.str [97], AV.str [],             AV.int IntKind.i64 (Int.ofNat 0), AV.int IntKind.i64 (Int.ofNat 0), AV.str []]]
def v1 : AV := AV.tuple [AV.str [1, 0, 1, 3, 2, 0, 7, 0, 0, 0, 0, 0, 0, 1, 4, 0, 1, 97], AV.int IntKind.i64 (Int.ofNat 0)]
set_option maxRecDepth 1000000 in
theorem c1 : KnownS Tryz.prog nibs 36 l1 v1 := known_of (C := C0) (n := 100000) fol1 fol2 knows0 (by decide +kernel) (by decide +kernel)
end Go.Proofs.YtpfedngmofpneaaGreatDoor.Ev
