/- sextonplain.Ints over two rows of the call's own. -/
import Derived.Test.YtipeleefbaalpaaReached
import Derived.Test.YtipeleefbaalpaaTallyTwo
import Derived.Test.YtipeleefbaalpaaPTallyStepsx1
import Derived.Below
import Derived.Deep.Draws
import Derived.Deep.AppendLies
import Derived.Maps.AppendAt
import Derived.OwnWalk
import Derived.Laws.BytesArg
import Derived.Laws.MakeOwn
import Derived.Laws.OwnMore
import Derived.Deep.OwnRows
import Derived.Tactics
import Derived.Lib.ConvBytes
import Derived.Laws.Slices
import Derived.WalkKit
import Derived.KernelRfl
import Derived.RowKit3
import Derived.Deep.LoopGhost
import Derived.Deep.QuietTactic
import Derived.BigQuiet
import Derived.WideLaws
import Derived.Deep.DeepCutAuto
import Derived.Deep.CutBlock
import Derived.Deep.RegionHeld3
import Derived.Laws.Rows
import Derived.Lib.AppendStr
import Derived.ArgAppend
import Derived.Laws.IdiomCopy
import Derived.OrdersHeld
import Derived.Laws.BitsLemmas
import Derived.RowKit
import Derived.StillTailTactics
import Derived.Deep.DeepMust
import Derived.Outline
import Derived.Test.YtipeleefbaalpaaWMore
namespace Go.Proofs.Ytipeleefbaalpaa.Ty
open Go.ChangeMaps Go.MapKept
open Go.RowKit Go.Shelf Go.Maps Go.Sort Go.Proofs.YtipeleefbaalpaaW.PrintLast Go.Proofs.YtipeleefbaalpaaW.PrintMore Go.Proofs.Ytipeleefbaalpaa.Ext Go.Proofs.Ytipeleefbaalpaa.PTallySteps
open Go.Proofs.YtipeleefbaalpaaW.PrintWords hiding rd
theorem rd_at (l : List Int) (j : Nat) (h : j < l.length) : Go.Proofs.YtipeleefbaalpaaW.PrintWords.rd l (j : Int) = l[j] := by
  simp [Go.Proofs.YtipeleefbaalpaaW.PrintWords.rd, List.getD, h]
theorem w_succ (j : Nat) (h : j < 140737488351233) : wrap64 ((j : Int) + 1) = ((j + 1 : Nat) : Int) := by
  unfold wrap64; omega
theorem pred_of (k n : Nat) (h : n < k) : ∃ m, k = m + 1 := ⟨k - 1, by omega⟩
theorem ints_l (a b : List Int) (ha : a.length ≤ 140737488351232) (d : Nat) : ∀ (k j : Nat), j ≤ a.length → j ≤ b.length → a.length - j = d → d < k →
    sextonplain_Ints.l0 k a b (a.length : Int) (j : Int) = some (decide (a.drop j = b.drop j)) := by
  induction d with
  | zero =>
    intro k j hj hb hd hk
    obtain ⟨k, rfl⟩ := pred_of k _ hk
    simp only [sextonplain_Ints.l0]
    rw [if_neg (by omega), List.drop_of_length_le (l := a) (by omega)]
    by_cases h : a.length = b.length
    · rw [List.drop_of_length_le (l := b) (by omega)]; simp [h]
    · have e : ([] : List Int) ≠ b.drop j := by
        intro e
        have := congrArg List.length e
        simp at this; omega
      have e2 : ((a.length : Int) == (b.length : Int)) = false := by simp; omega
      rw [e2]; simp [e]
  | succ d ih =>
    intro k j hj hb hd hk
    obtain ⟨k, rfl⟩ := pred_of k _ hk
    have hlt : j < a.length := by omega
    simp only [sextonplain_Ints.l0]
    rw [if_pos (by omega)]
    by_cases h : j < b.length
    · rw [if_neg (by omega), if_pos (by omega), if_pos (by omega), if_pos (by omega), rd_at a j hlt, rd_at b j h, List.drop_eq_getElem_cons hlt, List.drop_eq_getElem_cons h]
      by_cases e : a[j] = b[j]
      · rw [if_pos e, w_succ j (by omega), ih k (j + 1) (by omega) (by omega) (by omega) (by omega)]
        simp [-List.getElem_cons_drop, e]
      · rw [if_neg e]; simp [-List.getElem_cons_drop, e]
    · rw [if_pos (by omega), List.drop_eq_getElem_cons hlt, List.drop_of_length_le (l := b) (by omega)]
      simp [-List.getElem_cons_drop]
theorem ints_eq (a b : List Int) (ha : a.length ≤ 140737488351232) (k : Nat) (hk : a.length < k) :
    sextonplain_Ints.f k a b = some (decide (a = b)) := by
  unfold sextonplain_Ints.f
  have := ints_l a b ha a.length k 0 (by omega) (by omega) (by omega) hk
  simp only [List.drop_zero] at this
  exact this

theorem row_reads {w : World} {base : Nat} {v : Value} {a : List Int} (h : w.ownsRow base 3 1 v a.length (a.map encZ)) (ha : a.length < 1000) : ∃ A c, v = .slice A a.length c ∧ a.length ≤ c ∧ ReadsOf (Value.int .i64) (0 : Int) w A a.length a := by
  obtain ⟨hl, ⟨rfl, h0⟩ | ⟨g, cap, cur, rfl, _, hb, hc, _, hsz, ht⟩⟩ := h
  · exact ⟨none, 0, by rw [h0], by omega, rfl, by omega, fun h => by omega⟩
  · refine ⟨_, cap, rfl, hc, rfl, by omega, fun _ => ⟨_, rfl, fun j hj => ?_⟩⟩
    have h1 : (a.map encZ)[j]? = some (.int .i64 (a.getD j 0)) := by simp [encZ, hj]
    rw [← ht, List.getElem?_take_of_lt (by omega)] at h1
    rw [add_at, Nat.zero_add]
    simp only [World.cell?, hb]
    simpa using h1
theorem ints_call (w : World) (base1 base2 : Nat) (v1 v2 : Value) (a b : List Int) (h1 : w.ownsRow base1 3 1 v1 a.length (a.map encZ)) (h2 : w.ownsRow base2 3 1 v2 b.length (b.map encZ)) (ha : a.length < 1000) (hb : b.length < 1000) :
    Calls Try.prog 21 #[v1, v2] w fun e w' => e = .returned (.bool (decide (a = b))) ∧ Drawn0 w w' := by
  obtain ⟨A1, c1, rfl, hc1, r1⟩ := row_reads h1 ha
  obtain ⟨A2, c2, rfl, hc2, r2⟩ := row_reads h2 hb
  exact sextonplain_Ints.calls (a.length + 1) A1 c1 a A2 c2 b _ w (Kd.C_of_reads (d := (0 : Int)) (h1 := fun _ => rfl) r1) hc1 (Kd.C_of_reads (d := (0 : Int)) (h1 := fun _ => rfl) r2) hc2 (ints_eq a b (by omega) _ (by omega))
end Go.Proofs.Ytipeleefbaalpaa.Ty
