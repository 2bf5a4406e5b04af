/- A row of bids of the call's own, beside two tallies: what is appended, what is replaced. -/
import Derived.Test.YtipeleefbaalpaaReached
import Derived.Test.YtipeleefbaalpaaTallyLawForgets
import Derived.Test.YtipeleefbaalpaaPBetterx1
import Derived.Below
import Derived.Deep.Draws
import Derived.Deep.AppendLies
import Derived.Maps.AppendAt
import Derived.OwnWalk
import Derived.Laws.BytesArg
import Derived.Laws.MakeOwn
import Derived.Laws.OwnMore
import Derived.Deep.OwnRows
import Derived.Tactics
import Derived.Lib.ConvBytes
import Derived.Laws.Slices
import Derived.WalkKit
import Derived.KernelRfl
import Derived.RowKit3
import Derived.Deep.LoopGhost
import Derived.Deep.QuietTactic
import Derived.BigQuiet
import Derived.WideLaws
import Derived.Deep.DeepCutAuto
import Derived.Deep.CutBlock
import Derived.Deep.RegionHeld3
import Derived.Laws.Rows
import Derived.Lib.AppendStr
import Derived.ArgAppend
import Derived.Laws.IdiomCopy
import Derived.OrdersHeld
import Derived.Laws.BitsLemmas
import Derived.RowKit
import Derived.StillTailTactics
import Derived.Deep.DeepMust
import Derived.Outline
import Derived.Test.YtipeleefbaalpaaWMore
namespace Go.Proofs.Ytipeleefbaalpaa.Ty
open Go.ChangeMaps Go.MapKept
open Go.RowKit Go.Shelf Go.Maps Go.Sort Go.Proofs.YtipeleefbaalpaaW.PrintWords Go.Proofs.YtipeleefbaalpaaW.PrintLast Go.Proofs.YtipeleefbaalpaaW.PrintMore Go.Proofs.Ytipeleefbaalpaa.Ext
/-- A row of bids made since W. -/
abbrev Row (W w : World) (v : Value) (K : List Bid) : Prop := w.ownsRow W.heap.size 51 3 v K.length (rowB K)
section
variable {W w w' : World} {v : Value} {K : List Bid}
theorem Row.nil (W w : World) : Row W w (.slice none 0 0) [] := ⟨rfl, .inl ⟨rfl, rfl⟩⟩
theorem Row.apart (h : Row W w v K) {j : Nat} {o : Obj} (hj : w.heap[j]? = some o) (ho : ∀ cur, o ≠ .cells cur 51 (0, 0)) : some j ≠ v.ownBlock := by
  rcases ownsRow_ne_a h hj ho with e | e
  · rw [e]; simp
  · exact fun e' => e e'.symm
theorem Row.apart_tally (h : Row W w v K) {p B : Nat} {n : Int} {l : List Bid} (hT : TallyAt w p B n l) : some p ≠ v.ownBlock ∧ some B ≠ v.ownBlock := by
  refine ⟨h.apart hT.1 (fun cur e => by cases e), ?_⟩
  obtain ⟨es, clock, hb, _⟩ := hT.2.1
  exact h.apart hb (fun cur e => by cases e)
theorem Row.none (h : Row W w v K) (hg : w.grownBy w' none) : Row W w' v K := h.kept hg (Classical.em _)
theorem Row.map (h : Row W w v K) {p B : Nat} {n : Int} {l : List Bid} (hT : TallyAt w p B n l) (hg : w.grownBy w' (some B)) : Row W w' v K :=
  h.kept hg (.inr (fun e => (h.apart_tally hT).2 e.symm))
/-- The row's own form: a nil slice, or one at the head of a block. -/
theorem Row.form (h : Row W w v K) : (v = .slice Option.none 0 0 ∧ K = []) ∨ ∃ g cap, v = .slice (some ⟨g, 0, Option.none⟩) K.length cap ∧ W.heap.size ≤ g ∧ g < w.heap.size ∧ ∀ i, i < K.length * 3 → w.frozen? ⟨g, i, Option.none⟩ = false := by
  rcases h.2 with ⟨e, h0⟩ | ⟨g, cap, cur, e, hb, hg, _, _, hsz, _⟩
  · exact .inl ⟨e, List.eq_nil_of_length_eq_zero h0⟩
  · exact .inr ⟨g, cap, e, hb, (Array.getElem?_eq_some_iff.1 hg).1, fun i _ => by simp [World.frozen?, hg]⟩
theorem rowB_set : ∀ (K : List Bid) (i : Nat) (x : Bid), i < K.length → rowB (K.set i x) = (((rowB K).set (i * 3) (.int .i64 x.1)).set (i * 3 + 1) (.int .i64 x.2.1)).set (i * 3 + 2) (.int .i64 x.2.2)
  | [], i, x, h => by simp at h
  | k :: r, 0, x, _ => by simp [rowB, cellsB]
  | k :: r, i + 1, x, h => by
    have ih := rowB_set r i x (by simpa using h)
    have h3 : ∀ (j : Nat) (u : Value) (t : List Value), (cellsB k ++ t).set (3 + j) u = cellsB k ++ t.set j u := fun j u t => by simp [cellsB, show 3 + j = j + 1 + 1 + 1 by omega]
    have e : rowB ((k :: r).set (i + 1) x) = cellsB k ++ rowB (r.set i x) := by simp [rowB]
    have e2 : rowB (k :: r) = cellsB k ++ rowB r := by simp [rowB]
    rw [e, ih, e2, show (i + 1) * 3 = 3 + i * 3 by omega, show 3 + i * 3 + 1 = 3 + (i * 3 + 1) by omega, show 3 + i * 3 + 2 = 3 + (i * 3 + 2) by omega, h3, h3, h3]
theorem set_heap {w : World} {g i : Nat} {cur : Array Value} {t : TypeId} (h : w.heap[g]? = some (.cells cur t (0, 0))) (u : Value) : (w.setCell ⟨g, i, Option.none⟩ u).heap[g]? = some (.cells (cur.setIfInBounds i u) t (0, 0)) := by
  have hlt := (Array.getElem?_eq_some_iff.1 h).1
  have hget : w.heap[g] = .cells cur t (0, 0) := by simpa [hlt] using h
  simp only [World.setCell]
  rw [Array.getElem?_eq_getElem (by simpa using hlt)]
  simp [Array.getElem_modify, hget]
theorem Row.set {g n cap : Nat} (h : Row W w (.slice (some ⟨g, 0, Option.none⟩) n cap) K) (i : Nat) (hi : i < K.length) (x : Bid) :
    Row W (((w.setCell ⟨g, i * 3, Option.none⟩ (.int .i64 x.1)).setCell ⟨g, i * 3 + 1, Option.none⟩ (.int .i64 x.2.1)).setCell ⟨g, i * 3 + 2, Option.none⟩ (.int .i64 x.2.2)) (.slice (some ⟨g, 0, Option.none⟩) n cap) (K.set i x) := by
  obtain ⟨hl, ⟨e, _⟩ | ⟨g', cap', cur, e, hb, hg, h1, h2, hsz, ht⟩⟩ := h
  · cases e
  · cases e
    refine ⟨rowB_len _, .inr ⟨g, cap, _, by rw [List.length_set], hb, set_heap (set_heap (set_heap hg _) _) _, by simpa using h1, h2, by simpa using hsz, ?_⟩⟩
    rw [rowB_set K i x hi, ← ht, List.length_set]
    simp only [Array.toList_setIfInBounds, List.take_set]
end
end Go.Proofs.Ytipeleefbaalpaa.Ty
