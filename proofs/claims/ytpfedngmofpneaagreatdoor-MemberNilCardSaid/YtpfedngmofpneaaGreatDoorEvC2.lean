/- A call that is reckoned for itself. -/
import Derived.Test.YtpfedngmofpneaaGreatDoorEvNib
namespace Go.Proofs.YtpfedngmofpneaaGreatDoor.Ev
open Go
def l2 : List AV := [AV.agg           [AV.int IntKind.i64 (Int.ofNat 2), AV.int IntKind.i64 (Int.ofNat 0), AV.int IntKind.i64 (Int.ofNat 0),             AV.int IntKind.i64 (Int.ofNat 1), AV.int IntKind.i64 (Int.ofNat 0), AV.int IntKind.i64 (Int.ofNat 0),             AV.int IntKind.i64 (Int.ofNat 0), AV.int IntKind.i64 (Int.ofNat 1), AV.slice none 0 0, AV.slice none 0 0,             AV.int IntKind.i64 (Int.ofNat 0), AV.int IntKind.i64 (Int.ofNat 0), AV.int IntKind.i64 (Int.ofNat 0),             AV.int IntKind.i64 (Int.ofNat 0),             AV.str [2, 0, 7, 1, 0, 0, 0, 0, 0, 1, 3, 0, 12, 1, 1, 0, 0, 0, 0, 0, 0, 0, 0, 0, 1]]]
def v2 : AV := AV.tuple       [AV.str           [1, 0, 1, 2, 4, 0, 6, 0, 0, 0, 0, 0, 1, 8, 0, 6, 0, 0, 0, 0, 0, 1, 13, 0, 25, 2, 0, 7, 1, 0, 0, 0, 0, 0, 1, 3,             0, 12, 1, 1, 0, 0, 0, 0, 0, 0, 0, 0, 0, 1, 184, 159, 115, 185],         AV.int IntKind.i64 (Int.ofNat 0)]
set_option maxRecDepth 1000000 in
theorem c2 : KnownS Tryz.prog nibs 80 l2 v2 := known_of (C := C0) (n := 100000) fol1 fol2 knows0 (by decide +kernel) (by decide +kernel)
end Go.Proofs.YtpfedngmofpneaaGreatDoor.Ev
