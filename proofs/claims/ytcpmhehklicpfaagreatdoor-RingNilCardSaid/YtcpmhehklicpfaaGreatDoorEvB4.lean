/- Calls that are reckoned for themselves. -/
import Derived.Test.YtcpmhehklicpfaaGreatDoorEvNib
namespace Go.Proofs.YtcpmhehklicpfaaGreatDoor.Ev
open Go
def l13 : List AV := [AV.str [1, 0, 1, 3, 2, 0, 7, 0, 0, 0, 0, 0, 0, 1, 4, 0, 1, 97]]
def v13 : AV := AV.tuple [AV.agg [AV.int IntKind.i64 (Int.ofNat 3), AV.int IntKind.i64 (Int.ofNat 0), AV.int IntKind.i64 (Int.ofNat 1), AV.int IntKind.i64 (Int.ofNat 0), AV.int IntKind.i64 (Int.ofNat 0), AV.str [97], AV.str [], AV.int IntKind.i64 (Int.ofNat 0), AV.int IntKind.i64 (Int.ofNat 0), AV.str []], AV.int IntKind.i64 (Int.ofNat 0)]
set_option maxRecDepth 1000000 in
theorem c13 : KnownS Tryz.prog nibs 207 l13 v13 := known_of (C := C0) (n := 100000) fol1 fol2 knows0 (by decide +kernel) (by decide +kernel)
def l14 : List AV := [AV.agg [AV.int IntKind.i64 (Int.ofNat 0), AV.int IntKind.i64 (Int.ofNat 1), AV.int IntKind.i64 (Int.ofNat 1), AV.int IntKind.i64 (Int.ofNat 1), AV.int IntKind.i64 (Int.ofNat 1), AV.int IntKind.i64 (Int.ofNat 0), AV.int IntKind.i64 (Int.ofNat 1), AV.str [], AV.slice none 0 0, AV.int IntKind.i64 (Int.ofNat 0)]]
def v14 : AV := AV.tuple [AV.str [2, 0, 7, 1, 0, 0, 0, 0, 0, 1, 3, 0, 12, 1, 1, 0, 0, 0, 0, 0, 0, 0, 0, 0, 1], AV.int IntKind.i64 (Int.ofNat 0)]
set_option maxRecDepth 1000000 in
theorem c14 : KnownS Tryz.prog nibs 74 l14 v14 := known_of (C := C0) (n := 100000) fol1 fol2 knows0 (by decide +kernel) (by decide +kernel)
def l15 : List AV := [AV.agg [AV.int IntKind.i64 (Int.ofNat 3), AV.int IntKind.i64 (Int.ofNat 0), AV.int IntKind.i64 (Int.ofNat 1), AV.int IntKind.i64 (Int.ofNat 0), AV.int IntKind.i64 (Int.ofNat 0), AV.str [97], AV.str [], AV.int IntKind.i64 (Int.ofNat 0), AV.int IntKind.i64 (Int.ofNat 0), AV.str []]]
def v15 : AV := AV.tuple [AV.str [1, 0, 1, 3, 2, 0, 7, 0, 0, 0, 0, 0, 0, 1, 4, 0, 1, 97], AV.int IntKind.i64 (Int.ofNat 0)]
set_option maxRecDepth 1000000 in
theorem c15 : KnownS Tryz.prog nibs 64 l15 v15 := known_of (C := C0) (n := 100000) fol1 fol2 knows0 (by decide +kernel) (by decide +kernel)
end Go.Proofs.YtcpmhehklicpfaaGreatDoor.Ev
