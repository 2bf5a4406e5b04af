/- Calls that are reckoned for themselves. -/
import Derived.Test.YtcpmhehklicpfaaGreatDoorEvNib
namespace Go.Proofs.YtcpmhehklicpfaaGreatDoor.Ev
open Go
def l10 : List AV := [AV.str [2, 0, 7, 1, 0, 0, 0, 0, 0, 1, 3, 0, 12, 1, 1, 0, 0, 0, 0, 0, 0, 0, 0, 0, 1]]
def v10 : AV := AV.tuple [AV.agg [AV.int IntKind.i64 (Int.ofNat 0), AV.int IntKind.i64 (Int.ofNat 1), AV.int IntKind.i64 (Int.ofNat 1), AV.int IntKind.i64 (Int.ofNat 1), AV.int IntKind.i64 (Int.ofNat 1), AV.int IntKind.i64 (Int.ofNat 0), AV.int IntKind.i64 (Int.ofNat 1), AV.str [], AV.slice none 0 0, AV.int IntKind.i64 (Int.ofNat 0)], AV.int IntKind.i64 (Int.ofNat 0)]
set_option maxRecDepth 1000000 in
theorem c10 : KnownS Tryz.prog nibs 124 l10 v10 := known_of (C := C0) (n := 100000) fol1 fol2 knows0 (by decide +kernel) (by decide +kernel)
def l11 : List AV := [AV.agg [AV.int IntKind.i64 (Int.ofNat 2), AV.int IntKind.i64 (Int.ofNat 0), AV.int IntKind.i64 (Int.ofNat 0), AV.int IntKind.i64 (Int.ofNat 1), AV.int IntKind.i64 (Int.ofNat 0), AV.int IntKind.i64 (Int.ofNat 0), AV.int IntKind.i64 (Int.ofNat 0), AV.int IntKind.i64 (Int.ofNat 3), AV.slice none 0 0, AV.slice none 0 0, AV.int IntKind.i64 (Int.ofNat 0), AV.int IntKind.i64 (Int.ofNat 0), AV.int IntKind.i64 (Int.ofNat 0), AV.int IntKind.i64 (Int.ofNat 0), AV.str [2, 0, 7, 1, 0, 0, 0, 0, 0, 1, 3, 0, 12, 1, 1, 0, 0, 0, 0, 0, 0, 0, 0, 0, 1]]]
def v11 : AV := AV.tuple [AV.str [1, 0, 1, 2, 4, 0, 6, 0, 0, 0, 0, 0, 1, 8, 0, 6, 0, 0, 0, 0, 0, 3, 13, 0, 25, 2, 0, 7, 1, 0, 0, 0, 0, 0, 1, 3, 0, 12, 1, 1, 0, 0, 0, 0, 0, 0, 0, 0, 0, 1, 240, 45, 124, 127], AV.int IntKind.i64 (Int.ofNat 0)]
set_option maxRecDepth 1000000 in
theorem c11 : KnownS Tryz.prog nibs 140 l11 v11 := known_of (C := C0) (n := 100000) fol1 fol2 knows0 (by decide +kernel) (by decide +kernel)
def l12 : List AV := [AV.agg [AV.int IntKind.i64 (Int.ofNat 1), AV.int IntKind.i64 (Int.ofNat 0), AV.int IntKind.i64 (Int.ofNat 0), AV.int IntKind.i64 (Int.ofNat 1), AV.int IntKind.i64 (Int.ofNat 0), AV.int IntKind.i64 (Int.ofNat 0), AV.int IntKind.i64 (Int.ofNat 0), AV.int IntKind.i64 (Int.ofNat 3), AV.slice none 0 0, AV.slice none 0 0, AV.int IntKind.i64 (Int.ofNat 0), AV.int IntKind.i64 (Int.ofNat 0), AV.int IntKind.i64 (Int.ofNat 0), AV.int IntKind.i64 (Int.ofNat 0), AV.str [1, 0, 1, 3, 2, 0, 7, 0, 0, 0, 0, 0, 0, 1, 4, 0, 1, 97]]]
def v12 : AV := AV.tuple [AV.str [1, 0, 1, 1, 4, 0, 6, 0, 0, 0, 0, 0, 1, 8, 0, 6, 0, 0, 0, 0, 0, 3, 13, 0, 18, 1, 0, 1, 3, 2, 0, 7, 0, 0, 0, 0, 0, 0, 1, 4, 0, 1, 97, 60, 81, 49, 60], AV.int IntKind.i64 (Int.ofNat 0)]
set_option maxRecDepth 1000000 in
theorem c12 : KnownS Tryz.prog nibs 140 l12 v12 := known_of (C := C0) (n := 100000) fol1 fol2 knows0 (by decide +kernel) (by decide +kernel)
end Go.Proofs.YtcpmhehklicpfaaGreatDoor.Ev
