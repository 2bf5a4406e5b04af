/- Forget, Count, Clear. -/
import Derived.Test.YtipeleefbaalpaaReached
import Derived.Test.YtipeleefbaalpaaTallyOps
import Derived.Below
import Derived.Deep.Draws
import Derived.Deep.AppendLies
import Derived.Maps.AppendAt
import Derived.OwnWalk
import Derived.Laws.BytesArg
import Derived.Laws.MakeOwn
import Derived.Laws.OwnMore
import Derived.Deep.OwnRows
import Derived.Tactics
import Derived.Lib.ConvBytes
import Derived.Laws.Slices
import Derived.WalkKit
import Derived.KernelRfl
import Derived.RowKit3
import Derived.Deep.LoopGhost
import Derived.Deep.QuietTactic
import Derived.BigQuiet
import Derived.WideLaws
import Derived.Deep.DeepCutAuto
import Derived.Deep.CutBlock
import Derived.Deep.RegionHeld3
import Derived.Laws.Rows
import Derived.Lib.AppendStr
import Derived.ArgAppend
import Derived.Laws.IdiomCopy
import Derived.OrdersHeld
import Derived.Laws.BitsLemmas
import Derived.RowKit
import Derived.StillTailTactics
import Derived.Deep.DeepMust
import Derived.Outline
import Derived.Test.YtipeleefbaalpaaWMore
namespace Go.Proofs.Ytipeleefbaalpaa.Ty
open Go.ChangeMaps Go.MapKept
open Go.RowKit Go.Shelf Go.Maps Go.Proofs.YtipeleefbaalpaaW.PrintWords Go.Proofs.YtipeleefbaalpaaW.PrintLast Go.Proofs.YtipeleefbaalpaaW.PrintMore Go.Proofs.Ytipeleefbaalpaa.Ext
theorem forget_bad (w : World) (p : Nat) (n i : Int) (c0 : w.cell? ⟨p, 0, none⟩ = some (.int .i64 n)) (h : inB n i = false) :
    Calls Try.prog 46 #[.pointer (some ⟨p, 0, none⟩), .int .i64 i] w fun e w' => e = .returned (.tuple #[.bool false, .int .i64 1]) ∧ w = w' := by
  have hh := has_in w p n i c0
  unfold inB at h
  rw [h] at hh
  clear h c0
  go_enter Try.func46, Try.ntmps46
  go_wp2_with (go_at_call 55; refine hh.mono ?_; rintro e w' ⟨rfl, rfl⟩)
  go_ret2
  exact ⟨rfl, rfl⟩
theorem forget_nil (w : World) (i : Int) :
    Calls Try.prog 46 #[.pointer none, .int .i64 i] w fun e w' => e = .returned (.tuple #[.bool false, .int .i64 1]) ∧ w = w' := by
  have hh := has_nil w i
  go_enter Try.func46, Try.ntmps46
  go_wp2_with (go_at_call 55; refine hh.mono ?_; rintro e w' ⟨rfl, rfl⟩)
  go_ret2
  exact ⟨rfl, rfl⟩
theorem add_nil (w : World) (b : Bid) :
    Calls Try.prog 30 #[.pointer none, bidV b] w fun e w' => e = .returned (.tuple #[.bool false, .int .i64 1]) ∧ Below w.heap.size w w' := by
  obtain ⟨b0, b1, b2⟩ := b
  have hh := fun w => has_nil w b0
  simp only [bidV] at *
  go_enter Try.func30, Try.ntmps30
  go_wp2_with (go_at_call 55; refine (hh _).mono ?_; rintro e w' ⟨rfl, rfl⟩)
  go_ret2
  exact ⟨rfl, (Below.refl _ _).alloc (Nat.le_refl _) _⟩
set_option maxRecDepth 100000 in
theorem forget_ok (w : World) (p B : Nat) (n i : Int) (l : List Bid) (hT : TallyAt w p B n l) (h : inB n i = true) (hw : (Lit.int .i64 i).wf = true) :
    Calls Try.prog 46 #[.pointer (some ⟨p, 0, none⟩), .int .i64 i] w fun e w' => e = .returned (.tuple #[.bool (hasL l i), .int .i64 0]) ∧ TallyAt w' p B n (forgetL l i) ∧ w.grownBy w' (some B) := by
  obtain ⟨c0, c1⟩ := cells_of hT
  have hh := has_in w p n i c0
  unfold inB at h
  rw [h] at hh
  have d1 := fun o => cell_alloc c1 o
  have look := look_at hT.2.1 hw
  generalize atL l i = z at look
  simp only [bidV] at look
  have HT := Aside0.mk hT
  clear hT h c0
  go_enter Try.func46, Try.ntmps46
  go_wp2_with (first
    | (go_at_call 55; refine hh.mono ?_; rintro e w' ⟨rfl, rfl⟩)
    | (at_delete; refine wpList_delete_own _ rfl _ _ 95 3 rfl 51 law Try.underlying95 bidR B l.length (mapD l) rfl (HT.out.2.1.alloc _) _ (keyL i) rfl (keyOf_int_mk Try.underlying3 hw) ?_; intro w4 hown hturn))
  rw [map_del l i] at hown
  have hres := tally_put HT.out (World.grownBy_alloc w _ _) hown hturn.grown
  clear hown hturn HT look
  go_wp2
  go_ret2
  exact ⟨rfl, hres⟩
theorem count_nil (w : World) :
    Calls Try.prog 32 #[.pointer none] w fun e w' => e = .returned (.int .i64 0) ∧ w = w' := by
  go_enter Try.func32, Try.ntmps32
  go_wp2
  go_ret
  exact ⟨rfl, rfl⟩
theorem count_ok (w : World) (p B : Nat) (n : Int) (l : List Bid) (hT : TallyAt w p B n l) :
    Calls Try.prog 32 #[.pointer (some ⟨p, 0, none⟩)] w fun e w' => e = .returned (.int .i64 l.length) ∧ w = w' := by
  obtain ⟨c0, c1⟩ := cells_of hT
  have HT := Aside0.mk hT
  clear hT c0
  go_enter Try.func32, Try.ntmps32
  go_wp2_with (at_len; refine wpList_len_own _ rfl _ 95 rfl 3 51 Try.underlying95 bidR B l.length (mapD l) rfl HT.out.2.1 ?_; rw [map_size])
  go_ret
  exact ⟨rfl, rfl⟩
theorem clear_run {P : Program} {w : World} {k t e : TypeId} {R : Value → Option (DataW Unit × List MemPlace)} {b n : Nat} {D : DataW Unit} (h : w.ownsMap P k R b n D) (ht : P.underlying t = some (.map k e)) (ty : TypeId) :
    ∃ w', (Builtin.clear_ #[t] ty #[.map (some b)]).run P w = .ok (.tuple #[]) w' ∧ w'.ownsMap P k R b 0 (.map []) ∧ w.mapTurned w' b := by
  obtain ⟨es, clock, hb, F, hs, rfl⟩ := h
  refine ⟨setBlock w b (.map #[] clock), ?_, ⟨#[], clock, heap_setBlock_same hb _, ⟨by simp, stamped_empty clock, by simp⟩, Nat.le_refl _, rfl⟩, ⟨es, clock, #[], clock, hb, rfl⟩⟩
  simp [Builtin.clear_, run_underlying ht, MapKept.run_getObj_map hb, MapKept.run_setObj_map _ hb, Result.andThen, setBlock]
theorem clear_nil (w : World) :
    Calls Try.prog 51 #[.pointer none] w fun e w' => e = .returned (.tuple #[]) ∧ w = w' := by
  go_enter Try.func51, Try.ntmps51
  go_wp2
  refine bodyPost_end (results_none rfl _ _ _) rfl ?_
  exact ⟨rfl, rfl⟩
theorem clear_ok (w : World) (p B : Nat) (n : Int) (l : List Bid) (hT : TallyAt w p B n l) :
    Calls Try.prog 51 #[.pointer (some ⟨p, 0, none⟩)] w fun e w' => e = .returned (.tuple #[]) ∧ TallyAt w' p B n [] ∧ w.grownBy w' (some B) := by
  obtain ⟨c0, c1⟩ := cells_of hT
  obtain ⟨w4, hrun, hown, hturn⟩ := clear_run hT.2.1 Try.underlying95 0
  have hres := tally_put (l' := []) hT (World.grownBy.refl w _) hown hturn.grown
  clear hT hown hturn c0
  go_enter Try.func51, Try.ntmps51
  go_wp2
  refine bodyPost_end (results_none rfl _ _ _) rfl ?_
  exact ⟨rfl, hres⟩
end Go.Proofs.Ytipeleefbaalpaa.Ty
