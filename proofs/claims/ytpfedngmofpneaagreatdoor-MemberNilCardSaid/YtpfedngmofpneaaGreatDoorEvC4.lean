/- A call that is reckoned for itself. -/
import Derived.Test.YtpfedngmofpneaaGreatDoorEvNib
namespace Go.Proofs.YtpfedngmofpneaaGreatDoor.Ev
open Go
def l4 : List AV := [AV.str [1, 0, 1, 3, 2, 0, 7, 0, 0, 0, 0, 0, 0, 1, 4, 0, 1, 97]]
def v4 : AV := AV.tuple       [AV.agg           [AV.int IntKind.i64 (Int.ofNat 3), AV.int IntKind.i64 (Int.ofNat 0), AV.int IntKind.i64 (Int.ofNat 1),             AV.int IntKind.i64 (Int.ofNat 0), AV.int IntKind.i64 (Int.ofNat 0), AV.str [97], AV.str [],             AV.int IntKind.i64 (Int.ofNat 0), AV.int IntKind.i64 (Int.ofNat 0), AV.str []],         AV.int IntKind.i64 (Int.ofNat 0)]
set_option maxRecDepth 1000000 in
theorem c4 : KnownS Tryz.prog nibs 184 l4 v4 := known_of (C := C0) (n := 100000) fol1 fol2 knows0 (by decide +kernel) (by decide +kernel)
end Go.Proofs.YtpfedngmofpneaaGreatDoor.Ev
