/- A call that is reckoned for itself. -/
import Derived.Test.YtpfedngmofpneaaGreatDoorEvNib
namespace Go.Proofs.YtpfedngmofpneaaGreatDoor.Ev
open Go
def l6 : List AV := [AV.agg           [AV.int IntKind.i64 (Int.ofNat 0), AV.int IntKind.i64 (Int.ofNat 1), AV.int IntKind.i64 (Int.ofNat 1),             AV.int IntKind.i64 (Int.ofNat 1), AV.int IntKind.i64 (Int.ofNat 1), AV.int IntKind.i64 (Int.ofNat 0),             AV.int IntKind.i64 (Int.ofNat 1), AV.str [], AV.slice none 0 0, AV.int IntKind.i64 (Int.ofNat 0)]]
def v6 : AV := AV.tuple       [AV.str [2, 0, 7, 1, 0, 0, 0, 0, 0, 1, 3, 0, 12, 1, 1, 0, 0, 0, 0, 0, 0, 0, 0, 0, 1],         AV.int IntKind.i64 (Int.ofNat 0)]
set_option maxRecDepth 1000000 in
theorem c6 : KnownS Tryz.prog nibs 176 l6 v6 := known_of (C := C0) (n := 100000) fol1 fol2 knows0 (by decide +kernel) (by decide +kernel)
end Go.Proofs.YtpfedngmofpneaaGreatDoor.Ev
