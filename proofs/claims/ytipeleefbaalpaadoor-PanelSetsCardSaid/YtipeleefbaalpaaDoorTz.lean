/- math/bits.TrailingZeros at this dump, by the kit's shelf in plain words, and in the form of a printed contract: where the library's table lies as it was laid, it counts the zero bits. -/
import Derived.Ground.Names7Prog
import Derived.Shelf.Spec.TrailingZeros
import Derived.Test.YtipeleefbaalpaaDoorReached
namespace Go.Proofs
open Go.Shelf
def Tryd.lays27_ren : Go.Shelf.Ren := ⟨fun | 27 => 14 | 28 => 20 | 29 => 21 | n => n, fun | 25 => 38 | 3 => 3 | 27 => 43 | 22 => 45 | 4 => 4 | 53 => 50 | 0 => 0 | 5 => 5 | 54 => 51 | n => n, fun | 0 => 0 | 1 => 1 | n => n⟩
theorem Tryd.lays27 : Go.Proofs.Lays7.n27 Tryd.prog Tryd.lays27_ren := {
  mixed := by kernel_rfl
  f27 := Tryd.func14.trans (congrArg some (by kernel_rfl))
  f28 := Tryd.func20.trans (congrArg some (by kernel_rfl))
  f29 := Tryd.func21.trans (congrArg some (by kernel_rfl))
  t0 := Tryd.underlying0
  a0 := Tryd.isAgg0
  z0 := Tryd.sizeOf0
  v0 := Tryd.zeroValue0
  i0 := by kernel_rfl
  t3 := Tryd.underlying3
  a3 := Tryd.isAgg3
  z3 := Tryd.sizeOf3
  v3 := Tryd.zeroValue3
  i3 := by kernel_rfl
  t4 := Tryd.underlying4
  a4 := Tryd.isAgg4
  z4 := Tryd.sizeOf4
  v4 := Tryd.zeroValue4
  i4 := by kernel_rfl
  t5 := Tryd.underlying5
  a5 := Tryd.isAgg5
  z5 := Tryd.sizeOf5
  v5 := Tryd.zeroValue5
  i5 := by kernel_rfl
  t22 := Tryd.underlying45
  a22 := Tryd.isAgg45
  z22 := Tryd.sizeOf45
  v22 := Tryd.zeroValue45
  i22 := by kernel_rfl
  t25 := Tryd.underlying38
  a25 := Tryd.isAgg38
  z25 := Tryd.sizeOf38
  v25 := Tryd.zeroValue38
  i25 := by kernel_rfl
  t27 := Tryd.underlying43
  a27 := Tryd.isAgg43
  z27 := Tryd.sizeOf43
  v27 := Tryd.zeroValue43
  i27 := by kernel_rfl
  t53 := Tryd.underlying50
  a53 := Tryd.isAgg50
  z53 := Tryd.sizeOf50
  v53 := Tryd.zeroValue50
  i53 := by kernel_rfl
  t54 := Tryd.underlying51
  a54 := Tryd.isAgg51
  z54 := Tryd.sizeOf51
  g0 := by kernel_rfl
  g1 := by kernel_rfl }
/-- math/bits.TrailingZeros at this dump. -/
theorem Tryd.bits_TrailingZeros (x : Nat) (hx : x < 18446744073709551616) (w : World) (hT : x ≠ 0 → TabAt 1 Lib.deBruijn64tab w) :
    Calls Tryd.prog 14 #[.int .u64 x] w fun e w' => e = .returned (.int .i64 (Lib.ctz 64 x)) ∧ w' = w := Any7.bits_TrailingZeros Tryd.lays27 x hx w hT
end Go.Proofs
namespace Go.Proofs.YtipeleefbaalpaaDoor.Ext
open Go.RowKit Go.Shelf Go.Proofs.YtipeleefbaalpaaDoorW.PrintWords
/-- The table lies as its initialiser laid it. -/
def Tab (w : World) : Prop := TabAt 1 Lib.deBruijn64tab w
theorem tab_up {w W : World} (h : Tab w) (hb : Go.RowKit.Below w.heap.size w W) : Tab W := fun j hj => pw_cell_below hb (h j hj)
theorem tab_drewN {w : World} (h : Tab w) (n : Nat) : Tab (w.drewN n) := tab_up h (pw_below_drewN (Below.refl _ w) n)
theorem tab_alloc {w : World} (h : Tab w) (o : Obj) : Tab (w.alloc o) := tab_up h (below_alloc (Below.refl _ w) o)
def bits_TrailingZeros.f (a0 : Int) : Option Int := if 0 ≤ a0 ∧ a0 < 18446744073709551616 then some ((Lib.ctz 64 a0.toNat : Nat) : Int) else none
theorem bits_TrailingZeros.calls (a0 : Int) (r : Int) (w : World) (hT : Tab w) (h : bits_TrailingZeros.f a0 = some r) :
    Calls Tryd.prog 14 #[.int .u64 a0] w fun e w' => e = .returned (.int .i64 r) ∧ Drawn0 w w' := by
  unfold bits_TrailingZeros.f at h
  by_cases hc : 0 ≤ a0 ∧ a0 < 18446744073709551616
  · rw [if_pos hc] at h
    obtain rfl := Option.some.inj h
    obtain ⟨x, rfl⟩ : ∃ x : Nat, a0 = x := ⟨a0.toNat, by omega⟩
    exact (Tryd.bits_TrailingZeros x (by omega) w (fun _ => hT)).mono fun e w' ⟨he, hw⟩ => ⟨he, hw ▸ Drawn0.refl _⟩
  · rw [if_neg hc] at h; cases h
end Go.Proofs.YtipeleefbaalpaaDoor.Ext
