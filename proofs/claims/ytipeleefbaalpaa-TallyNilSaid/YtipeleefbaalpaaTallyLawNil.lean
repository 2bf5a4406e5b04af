/- TallyNil's walk: a nil tally has no bids. -/
import Derived.Test.YtipeleefbaalpaaReached
import Derived.Test.YtipeleefbaalpaaTallyTwo
import Derived.Below
import Derived.Deep.Draws
import Derived.Deep.AppendLies
import Derived.Maps.AppendAt
import Derived.OwnWalk
import Derived.Laws.BytesArg
import Derived.Laws.MakeOwn
import Derived.Laws.OwnMore
import Derived.Deep.OwnRows
import Derived.Tactics
import Derived.Lib.ConvBytes
import Derived.Laws.Slices
import Derived.WalkKit
import Derived.KernelRfl
import Derived.RowKit3
import Derived.Deep.LoopGhost
import Derived.Deep.QuietTactic
import Derived.BigQuiet
import Derived.WideLaws
import Derived.Deep.DeepCutAuto
import Derived.Deep.CutBlock
import Derived.Deep.RegionHeld3
import Derived.Laws.Rows
import Derived.Lib.AppendStr
import Derived.ArgAppend
import Derived.Laws.IdiomCopy
import Derived.OrdersHeld
import Derived.Laws.BitsLemmas
import Derived.RowKit
import Derived.StillTailTactics
import Derived.Deep.DeepMust
import Derived.Outline
import Derived.Test.YtipeleefbaalpaaWMore
namespace Go.Proofs.Ytipeleefbaalpaa.Ty
open Go.ChangeMaps Go.MapKept
open Go.RowKit Go.Shelf Go.Maps Go.Sort Go.Proofs.YtipeleefbaalpaaW.PrintWords Go.Proofs.YtipeleefbaalpaaW.PrintLast Go.Proofs.YtipeleefbaalpaaW.PrintMore Go.Proofs.Ytipeleefbaalpaa.Ext
set_option maxRecDepth 100000 in
set_option maxHeartbeats 4000000 in
theorem law_nil (w : World) (b : Bid) : Calls Try.prog 14 #[bidV b] w fun e w' => e = .returned (.bool true) ∧ Below w.heap.size w w' := by
  obtain ⟨b0, b1, b2⟩ := b
  have hadd := fun w => add_nil w (b0, b1, b2)
  have hbest := fun w => best_nil w
  simp only [bidV] at *
  obtain ⟨wA, hA⟩ : ∃ wA, w.alloc (.cells #[.int .i64 b0, .int .i64 b1, .int .i64 b2] 51) = wA := ⟨_, rfl⟩
  have hbA : Below w.heap.size w wA := by rw [← hA]; exact (Below.refl _ _).alloc (Nat.le_refl _) _
  have a0 : wA.cell? ⟨w.heap.size, 0, none⟩ = some (.int .i64 b0) := by rw [← hA]; exact cell_new _ _ _ _ _
  have a1 : wA.cell? ⟨w.heap.size, 1, none⟩ = some (.int .i64 b1) := by rw [← hA]; exact cell_new _ _ _ _ _
  have a2 : wA.cell? ⟨w.heap.size, 2, none⟩ = some (.int .i64 b2) := by rw [← hA]; exact cell_new _ _ _ _ _
  go_enter Try.func14, Try.ntmps14
  go_wp2_with (first
    | (
      go_at_call 30
      refine (hadd _).mono ?_
      rintro e w1 ⟨rfl, hb1⟩
      have hB1 := hbA.trans (hb1.mono hbA.size)
      have c0 := pw_cell_below hb1 a0)
    | (go_at_call 46; refine (forget_nil _ _).mono ?_; rintro e w' ⟨rfl, rfl⟩)
    | (
      go_at_call 31
      refine (hbest _).mono ?_
      rintro e w2 ⟨rfl, hb2⟩
      have hB2 := hB1.trans (hb2.mono hB1.size))
    | (go_at_call 51; refine (clear_nil _).mono ?_; rintro e w' ⟨rfl, rfl⟩)
    | (go_at_call 32; refine (count_nil _).mono ?_; rintro e w' ⟨rfl, rfl⟩)
    | (go_at_call 45; refine (enough_nil _).mono ?_; rintro e w' ⟨rfl, rfl⟩)
    | (go_at_call 47; refine (nodes_nil _).mono ?_; rintro e w' ⟨rfl, rfl⟩)
    | (
      go_at_call 29
      refine (two_ok _).mono ?_
      rintro e w3 ⟨rfl, hb3⟩))
  go_ret
  have hB3 := below_alloc hB2 (.cells #[.int .i64 0, .int .i64 0, .int .i64 0] 51)
  exact ⟨rfl, hB3.trans (hb3.mono hB3.size)⟩
end Go.Proofs.Ytipeleefbaalpaa.Ty
