/- What two bids are worth, slices.MaxFunc by it, and Best. -/
import Derived.Test.YtipeleefbaalpaaReached
import Derived.Test.YtipeleefbaalpaaTallyColl
import Derived.Test.YtipeleefbaalpaaPworthx1
import Derived.Below
import Derived.Deep.Draws
import Derived.Deep.AppendLies
import Derived.Maps.AppendAt
import Derived.OwnWalk
import Derived.Laws.BytesArg
import Derived.Laws.MakeOwn
import Derived.Laws.OwnMore
import Derived.Deep.OwnRows
import Derived.Tactics
import Derived.Lib.ConvBytes
import Derived.Laws.Slices
import Derived.WalkKit
import Derived.KernelRfl
import Derived.RowKit3
import Derived.Deep.LoopGhost
import Derived.Deep.QuietTactic
import Derived.BigQuiet
import Derived.WideLaws
import Derived.Deep.DeepCutAuto
import Derived.Deep.CutBlock
import Derived.Deep.RegionHeld3
import Derived.Laws.Rows
import Derived.Lib.AppendStr
import Derived.ArgAppend
import Derived.Laws.IdiomCopy
import Derived.OrdersHeld
import Derived.Laws.BitsLemmas
import Derived.RowKit
import Derived.StillTailTactics
import Derived.Deep.DeepMust
import Derived.Outline
import Derived.Test.YtipeleefbaalpaaWMore
namespace Go.Proofs.Ytipeleefbaalpaa.Ty
open Go.ChangeMaps Go.MapKept
open Go.RowKit Go.Shelf Go.Maps Go.Sort Go.Proofs.YtipeleefbaalpaaW.PrintWords Go.Proofs.YtipeleefbaalpaaW.PrintLast Go.Proofs.YtipeleefbaalpaaW.PrintMore Go.Proofs.Ytipeleefbaalpaa.Ext Go.Proofs.Ytipeleefbaalpaa.Pworth
set_option linter.unusedSimpArgs false
def cmpI (a b : Int) : Int := if a < b then -1 else if a > b then 1 else 0
def worthI (a b : Bid) : Int := if cmpI a.2.1 b.2.1 = 0 then (if cmpI a.2.2 b.2.2 = 0 then cmpI b.1 a.1 else cmpI a.2.2 b.2.2) else cmpI a.2.1 b.2.1
theorem compare_eq (a b : Int) : cmp_Compare_int.f a b = some (cmpI a b) := by
  unfold cmp_Compare_int.f cmp_isNaN_int.f cmpI
  simp
  split
  · rfl
  · split <;> rfl
theorem or_eq3 (a b c : Int) : cmp_Or_int.f 4 [a, b, c] = some (if a = 0 then (if b = 0 then c else b) else a) := by
  have w1 : wrap64 (0 + 1) = 1 := by decide +kernel
  have w2 : wrap64 (1 + 1) = 2 := by decide +kernel
  have w3 : wrap64 (2 + 1) = 3 := by decide +kernel
  have r0 : Go.Proofs.YtipeleefbaalpaaW.PrintWords.rd [a, b, c] 0 = a := rfl
  have r1 : Go.Proofs.YtipeleefbaalpaaW.PrintWords.rd [a, b, c] 1 = b := rfl
  have r2 : Go.Proofs.YtipeleefbaalpaaW.PrintWords.rd [a, b, c] 2 = c := rfl
  unfold cmp_Or_int.f
  simp only [cmp_Or_int.l0, List.length_cons, List.length_nil, r0, w1, r1, w2, r2, w3]
  by_cases ha : a = 0
  · by_cases hb : b = 0
    · by_cases hc : c = 0
      · simp [ha, hb, hc]
      · simp [ha, hb, hc]
    · simp [ha, hb]
  · simp [ha]
theorem worth_eq (a b : Bid) : tally_worth.f 4 a.1 a.2.1 a.2.2 b.1 b.2.1 b.2.2 = some (worthI a b) := by
  unfold tally_worth.f
  rw [compare_eq, compare_eq, compare_eq]
  simp only [Option.bind_some]
  rw [or_eq3]
  rfl
def betterB (a b : Bid) : Bool := if a.2.1 ≠ b.2.1 then decide (a.2.1 > b.2.1) else if a.2.2 ≠ b.2.2 then decide (a.2.2 > b.2.2) else decide (a.1 < b.1)
theorem worth_pos (a b : Bid) : decide (worthI a b > 0) = betterB a b := by
  unfold worthI betterB cmpI
  by_cases h1 : a.2.1 < b.2.1
  · have : a.2.1 ≠ b.2.1 := by omega
    have h2 : ¬ a.2.1 > b.2.1 := by omega
    simp [h1, this, h2]
  · by_cases h2 : a.2.1 > b.2.1
    · have : a.2.1 ≠ b.2.1 := by omega
      simp [h1, h2, this]
    · have : a.2.1 = b.2.1 := by omega
      simp only [h1, h2, if_false, this, ne_eq, not_true_eq_false, if_true]
      by_cases h3 : a.2.2 < b.2.2
      · have : a.2.2 ≠ b.2.2 := by omega
        have h4 : ¬ a.2.2 > b.2.2 := by omega
        simp [h3, this, h4]
      · by_cases h4 : a.2.2 > b.2.2
        · have : a.2.2 ≠ b.2.2 := by omega
          simp [h3, h4, this]
        · have : a.2.2 = b.2.2 := by omega
          simp only [h3, h4, if_false, this, not_true_eq_false, if_true]
          by_cases h5 : b.1 < a.1
          · have : ¬ a.1 < b.1 := by omega
            simp [h5, this]
          · by_cases h6 : b.1 > a.1
            · have : a.1 < b.1 := by omega
              simp [h5, h6, this]
            · have : ¬ a.1 < b.1 := by omega
              simp [h5, h6, this]
/-- The greatest so far. -/
def maxB (m : Bid) (l : List Bid) : Bid := l.foldl (fun m x => if worthI x m > 0 then x else m) m
theorem set3 {w : World} {m : Nat} {t : TypeId} {a b c : Value} (h : w.heap[m]? = some (.cells #[a, b, c] t (0, 0))) (x y z : Value) : (((w.setCell ⟨m, 0, none⟩ x).setCell ⟨m, 1, none⟩ y).setCell ⟨m, 2, none⟩ z).heap[m]? = some (.cells #[x, y, z] t (0, 0)) := by
  have hlt := (Array.getElem?_eq_some_iff.1 h).1
  have hget : w.heap[m] = .cells #[a, b, c] t (0, 0) := by simpa [hlt] using h
  simp only [World.setCell]
  rw [Array.getElem?_eq_getElem (by simpa using hlt)]
  simp [Array.getElem_modify, hget]
theorem rowB_get : ∀ (ss : List Bid) (i j : Nat) (hi : i < ss.length), j < 3 → (rowB ss)[i * 3 + j]? = (cellsB ss[i])[j]?
  | [], i, j, hi, _ => by simp at hi
  | b :: r, 0, j, _, hj => by
    have : (cellsB b).length = 3 := rfl
    simp only [rowB, List.flatMap_cons, Nat.zero_mul, Nat.zero_add, List.getElem_cons_zero]
    rw [List.getElem?_append_left (by omega)]
  | b :: r, i + 1, j, hi, hj => by
    have h3 : (cellsB b).length = 3 := rfl
    have := rowB_get r i j (by simpa using hi) hj
    simp only [rowB, List.flatMap_cons, List.getElem_cons_succ] at this ⊢
    rw [List.getElem?_append_right (by omega), h3, show (i + 1) * 3 + j - 3 = i * 3 + j by omega, this]
theorem rows_cells {w : World} {base g cap n : Nat} {ss : List Bid} (h : w.ownsRow base 51 3 (.slice (some ⟨g, 0, none⟩) n cap) ss.length (rowB ss)) (i : Nat) (hi : i < ss.length) :
    w.cell? ⟨g, i * 3, none⟩ = some (.int .i64 ss[i].1) ∧ w.cell? ⟨g, i * 3 + 1, none⟩ = some (.int .i64 ss[i].2.1) ∧ w.cell? ⟨g, i * 3 + 2, none⟩ = some (.int .i64 ss[i].2.2) := by
  obtain ⟨_, ⟨e, _⟩ | ⟨g', cap', cur, e, _, hb, _, _, hsz, ht⟩⟩ := h
  · cases e
  · cases e
    have key : ∀ j, j < 3 → w.cell? ⟨g, i * 3 + j, none⟩ = (cellsB ss[i])[j]? := fun j hj => by
      have hlt : i * 3 + j < ss.length * 3 := by omega
      rw [← rowB_get ss i j hi hj, ← ht, List.getElem?_take_of_lt hlt]
      simp [World.cell?, hb]
    exact ⟨key 0 (by omega), key 1 (by omega), key 2 (by omega)⟩
theorem maxB_snoc (m : Bid) (l : List Bid) (x : Bid) : maxB m (l ++ [x]) = if worthI x (maxB m l) > 0 then x else maxB m l := by simp [maxB]
set_option maxRecDepth 100000 in
set_option maxHeartbeats 1000000 in
theorem maxfunc_ok (w : World) (base g cap : Nat) (x0 : Bid) (ss : List Bid) (h : w.ownsRow base 51 3 (.slice (some ⟨g, 0, none⟩) (ss.length + 1) cap) (ss.length + 1) (rowB (x0 :: ss))) (hl : ss.length < 1000) :
    Calls Try.prog 57 #[.slice (some ⟨g, 0, none⟩) (ss.length + 1) cap, .func (.func 60) #[] #[]] w fun e w' => e = .returned (bidV (maxB x0 ss)) ∧ Below w.heap.size w w' := by
  have hworth := fun (a b : Bid) (w : World) => tally_worth.calls 4 a.1 a.2.1 a.2.2 b.1 b.2.1 b.2.2 _ w (worth_eq a b)
  obtain ⟨c0, c1, c2⟩ := rows_cells (ss := x0 :: ss) h 0 (by simp)
  simp only [Nat.zero_mul, Nat.zero_add, List.getElem_cons_zero] at c0 c1 c2
  have d0 := fun o => cell_alloc c0 o
  have d1 := fun o => cell_alloc c1 o
  have d2 := fun o => cell_alloc c2 o
  have n1 : ¬ ((ss.length : Int) + 1 < 1) := by omega
  go_enter Try.func57, Try.ntmps57
  go_wp2
  go_loopw [6] (fun v wr => ∃ (k : Nat), k ≤ ss.length ∧ v = .int .i64 ((k : Int) + 1) ∧
      wr.heap[w.heap.size + 1]? = some (.cells #[.int .i64 (maxB x0 (ss.take k)).1, .int .i64 (maxB x0 (ss.take k)).2.1, .int .i64 (maxB x0 (ss.take k)).2.2] 51 (0, 0)) ∧
      wr.heap[w.heap.size]? = some (.cells #[.int .i64 0, .int .i64 0, .int .i64 0] 51 (0, 0)) ∧ Below w.heap.size w wr)
    (fun v _ => ss.length + 1 - (Go.RowKit.intOf v).toNat)
  case atStart =>
    refine ⟨0, Nat.zero_le _, by simp, ?_, ?_, ((Below.refl _ _).alloc (Nat.le_refl _) _).alloc (by simp) _⟩
    · have := heap_new (w.alloc (.cells #[.int .i64 0, .int .i64 0, .int .i64 0] 51 (0, 0))) (.cells #[.int .i64 x0.1, .int .i64 x0.2.1, .int .i64 x0.2.2] 51 (0, 0))
      rw [World.size_alloc] at this
      exact this
    · exact (Below.heap_alloc _ _ _ (by simp)).trans (heap_new _ _)
  case round =>
    obtain ⟨k, hk, rfl, hm, hres, hb⟩ := hrel
    by_cases hlt : k < ss.length
    · have hn : w.heap.size ≤ wr.heap.size := hb.size
      obtain ⟨e0, e1, e2⟩ := rows_cells (ss := x0 :: ss) h (k + 1) (by simp; omega)
      simp only [List.getElem_cons_succ] at e0 e1 e2
      have f0 := pw_cell_below hb e0
      have f1 := pw_cell_below hb e1
      have f2 := pw_cell_below hb e2
      have m0 : wr.cell? ⟨w.heap.size + 1, 0, none⟩ = some (.int .i64 (maxB x0 (ss.take k)).1) := by simp [World.cell?, hm]
      have m1 : wr.cell? ⟨w.heap.size + 1, 1, none⟩ = some (.int .i64 (maxB x0 (ss.take k)).2.1) := by simp [World.cell?, hm]
      have m2 : wr.cell? ⟨w.heap.size + 1, 2, none⟩ = some (.int .i64 (maxB x0 (ss.take k)).2.2) := by simp [World.cell?, hm]
      have i0 : (0 : Int) ≤ (k : Int) + 1 := by omega
      have i1 : (k : Int) + 1 < (ss.length : Int) + 1 := by omega
      have i2 : ((k : Int) + 1).toNat = k + 1 := by omega
      go_wp2
      refine still_tail 6 (by kernel_rfl) (by kernel_rfl) ?_
      simp only [List.take_succ_cons, List.take_zero, List.drop_succ_cons, List.drop_zero]
      repeat still_step
      try refine wpStill_nil ?_
      have hm' : ∀ w' : World, Below wr.heap.size wr w' → w'.heap[w.heap.size + 1]? = some (.cells #[.int .i64 (maxB x0 (ss.take k)).1, .int .i64 (maxB x0 (ss.take k)).2.1, .int .i64 (maxB x0 (ss.take k)).2.2] 51 (0, 0)) := fun w' h => (h.block _ (Array.getElem?_eq_some_iff.1 hm).1).trans hm
      have hres' : ∀ w' : World, Below wr.heap.size wr w' → w'.heap[w.heap.size]? = some (.cells #[.int .i64 0, .int .i64 0, .int .i64 0] 51 (0, 0)) := fun w' h => (h.block _ (Array.getElem?_eq_some_iff.1 hres).1).trans hres
      have hsn := maxB_snoc x0 (ss.take k) ss[k]
      rw [List.take_append_getElem hlt] at hsn
      by_cases hp : worthI ss[k] (maxB x0 (ss.take k)) > 0
      · rw [if_pos hp] at hsn
        go_wp2_with (
          go_at_call 60
          refine (hworth ss[k] (maxB x0 (ss.take k)) _).mono ?_
          rintro e w' ⟨rfl, hb'⟩
          have hb'' : Below wr.heap.size wr w' := ⟨hb'.os, hb'.tape, hb'.output, hb'.size, hb'.block⟩
          have g0 := pw_cell_below hb'' f0
          have g1 := pw_cell_below hb'' f1
          have g2 := pw_cell_below hb'' f2
          have q := hm' w' hb''
          have q0 : w'.cell? ⟨w.heap.size + 1, 0, none⟩ = some (.int .i64 (maxB x0 (ss.take k)).1) := by simp [World.cell?, q]
          have q1 : w'.cell? ⟨w.heap.size + 1, 1, none⟩ = some (.int .i64 (maxB x0 (ss.take k)).2.1) := by simp [World.cell?, q]
          have q2 : w'.cell? ⟨w.heap.size + 1, 2, none⟩ = some (.int .i64 (maxB x0 (ss.take k)).2.2) := by simp [World.cell?, q]
          have z0 : w'.frozen? ⟨w.heap.size + 1, 0, none⟩ = false := by simp [World.frozen?, q]
          have z1 : w'.frozen? ⟨w.heap.size + 1, 1, none⟩ = false := by simp [World.frozen?, q]
          have z2 : w'.frozen? ⟨w.heap.size + 1, 2, none⟩ = false := by simp [World.frozen?, q])
        refine ⟨⟨k + 1, by omega, by simp, ?_, ?_, ?_⟩, ?_⟩
        · rw [hsn]
          exact set3 (hm' w' hb'') _ _ _
        · rw [Below.heap_setCell _ _ _ _ (by simp), Below.heap_setCell _ _ _ _ (by simp), Below.heap_setCell _ _ _ _ (by simp)]
          exact hres' w' hb''
        · exact below_set (below_set (below_set (hb.trans (hb''.mono hb.size)) (by omega)) (by omega)) (by omega)
        · simp only [Go.RowKit.intOf]; omega
      · rw [if_neg hp] at hsn
        go_wp2_with (go_at_call 60; refine (hworth ss[k] (maxB x0 (ss.take k)) _).mono ?_; rintro e w' ⟨rfl, hb'⟩)
        have hb'' : Below wr.heap.size wr w' := ⟨hb'.os, hb'.tape, hb'.output, hb'.size, hb'.block⟩
        go_roundw
        case rel => exact ⟨k + 1, by omega, by simp, by rw [hsn]; exact hm' w' hb'', hres' w' hb'', hb.trans (hb''.mono hb.size)⟩
        case measure => simp only [Go.RowKit.intOf]; omega
    · obtain rfl : k = ss.length := by omega
      rw [List.take_length] at hm
      have m0 : wr.cell? ⟨w.heap.size + 1, 0, none⟩ = some (.int .i64 (maxB x0 ss).1) := by simp [World.cell?, hm]
      have m1 : wr.cell? ⟨w.heap.size + 1, 1, none⟩ = some (.int .i64 (maxB x0 ss).2.1) := by simp [World.cell?, hm]
      have m2 : wr.cell? ⟨w.heap.size + 1, 2, none⟩ = some (.int .i64 (maxB x0 ss).2.2) := by simp [World.cell?, hm]
      have r0 : wr.cell? ⟨w.heap.size, 0, none⟩ = some (.int .i64 0) := by simp [World.cell?, hres]
      have r1 : wr.cell? ⟨w.heap.size, 1, none⟩ = some (.int .i64 0) := by simp [World.cell?, hres]
      have r2 : wr.cell? ⟨w.heap.size, 2, none⟩ = some (.int .i64 0) := by simp [World.cell?, hres]
      have z0 : wr.frozen? ⟨w.heap.size, 0, none⟩ = false := by simp [World.frozen?, hres]
      have z1 : wr.frozen? ⟨w.heap.size, 1, none⟩ = false := by simp [World.frozen?, hres]
      have z2 : wr.frozen? ⟨w.heap.size, 2, none⟩ = false := by simp [World.frozen?, hres]
      go_wp2
      have hq := set3 hres (.int .i64 (maxB x0 ss).1) (.int .i64 (maxB x0 ss).2.1) (.int .i64 (maxB x0 ss).2.2)
      have hbel : Below w.heap.size w (((wr.setCell ⟨w.heap.size, 0, none⟩ (.int .i64 (maxB x0 ss).1)).setCell ⟨w.heap.size, 1, none⟩ (.int .i64 (maxB x0 ss).2.1)).setCell ⟨w.heap.size, 2, none⟩ (.int .i64 (maxB x0 ss).2.2)) := below_set (below_set (below_set hb (Nat.le_refl _)) (Nat.le_refl _)) (Nat.le_refl _)
      generalize (((wr.setCell ⟨w.heap.size, 0, none⟩ (.int .i64 (maxB x0 ss).1)).setCell ⟨w.heap.size, 1, none⟩ (.int .i64 (maxB x0 ss).2.1)).setCell ⟨w.heap.size, 2, none⟩ (.int .i64 (maxB x0 ss).2.2)) = W4 at hq hbel ⊢
      clear m0 m1 m2 r0 r1 r2 z0 z1 z2 hm hres hb
      have q0 : W4.cell? ⟨w.heap.size, 0, none⟩ = some (.int .i64 (maxB x0 ss).1) := by simp [World.cell?, hq]
      have q1 : W4.cell? ⟨w.heap.size, 1, none⟩ = some (.int .i64 (maxB x0 ss).2.1) := by simp [World.cell?, hq]
      have q2 : W4.cell? ⟨w.heap.size, 2, none⟩ = some (.int .i64 (maxB x0 ss).2.2) := by simp [World.cell?, hq]
      refine bodyPost_ret (v := bidV (maxB x0 ss)) ?_ rfl ⟨rfl, hbel⟩
      simp [results, Try.f57, go_sem, q0, q1, q2, bidV]
end Go.Proofs.Ytipeleefbaalpaa.Ty
