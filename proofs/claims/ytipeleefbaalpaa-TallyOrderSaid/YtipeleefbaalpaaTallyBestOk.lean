/- Best: the bid that is better than each other one. -/
import Derived.Test.YtipeleefbaalpaaReached
import Derived.Test.YtipeleefbaalpaaTallyBest
import Derived.Laws.ResultCell
import Derived.Below
import Derived.Deep.Draws
import Derived.Deep.AppendLies
import Derived.Maps.AppendAt
import Derived.OwnWalk
import Derived.Laws.BytesArg
import Derived.Laws.MakeOwn
import Derived.Laws.OwnMore
import Derived.Deep.OwnRows
import Derived.Tactics
import Derived.Lib.ConvBytes
import Derived.Laws.Slices
import Derived.WalkKit
import Derived.KernelRfl
import Derived.RowKit3
import Derived.Deep.LoopGhost
import Derived.Deep.QuietTactic
import Derived.BigQuiet
import Derived.WideLaws
import Derived.Deep.DeepCutAuto
import Derived.Deep.CutBlock
import Derived.Deep.RegionHeld3
import Derived.Laws.Rows
import Derived.Lib.AppendStr
import Derived.ArgAppend
import Derived.Laws.IdiomCopy
import Derived.OrdersHeld
import Derived.Laws.BitsLemmas
import Derived.RowKit
import Derived.StillTailTactics
import Derived.Deep.DeepMust
import Derived.Outline
import Derived.Test.YtipeleefbaalpaaWMore
namespace Go.Proofs.Ytipeleefbaalpaa.Ty
open Go.ChangeMaps Go.MapKept
open Go.RowKit Go.Shelf Go.Maps Go.Sort Go.Proofs.YtipeleefbaalpaaW.PrintWords Go.Proofs.YtipeleefbaalpaaW.PrintLast Go.Proofs.YtipeleefbaalpaaW.PrintMore Go.Proofs.Ytipeleefbaalpaa.Ext
theorem better_iff (a b : Bid) : betterB a b = true ↔ a.2.1 > b.2.1 ∨ (a.2.1 = b.2.1 ∧ (a.2.2 > b.2.2 ∨ (a.2.2 = b.2.2 ∧ a.1 < b.1))) := by
  unfold betterB
  by_cases h1 : a.2.1 = b.2.1
  · by_cases h2 : a.2.2 = b.2.2
    · simp [h1, h2]
    · simp [h1, h2]
  · simp [h1]
theorem better_trans {a b c : Bid} (h : betterB a b = true) (k : betterB b c = true) : betterB a c = true := by
  rw [better_iff] at *; omega
theorem better_total {a b : Bid} (h : a.1 ≠ b.1) (k : betterB a b = false) : betterB b a = true := by
  have k : ¬ betterB a b = true := by rw [k]; simp
  rw [better_iff] at *; omega
/-- It is of the list, and better than each other one. -/
def IsBest (l : List Bid) (b : Bid) : Prop := b ∈ l ∧ ∀ c ∈ l, c ≠ b → betterB b c = true
theorem max_best : ∀ (ss : List Bid) (x0 : Bid), (x0 :: ss).Pairwise (fun a b => a.1 ≠ b.1) → IsBest (x0 :: ss) (maxB x0 ss)
  | [], x0, _ => ⟨by simp [maxB], by simp [maxB]⟩
  | y :: r, x0, h => by
    have hxy : x0.1 ≠ y.1 := (List.pairwise_cons.1 h).1 y (by simp)
    obtain ⟨hx, hr⟩ := List.pairwise_cons.1 h
    obtain ⟨hy, hrr⟩ := List.pairwise_cons.1 hr
    have hstep : maxB x0 (y :: r) = maxB (if worthI y x0 > 0 then y else x0) r := rfl
    rw [hstep]
    have hw := worth_pos y x0
    cases hb : betterB y x0
    · rw [hb] at hw
      have hw : ¬ worthI y x0 > 0 := by simpa using hw
      rw [if_neg hw]
      have hxb : betterB x0 y = true := better_total (fun e => hxy e.symm) hb
      obtain ⟨h1, h2⟩ := max_best r x0 (List.pairwise_cons.2 ⟨fun a ha => hx a (by simp [ha]), hrr⟩)
      refine ⟨by rcases List.mem_cons.1 h1 with e | e <;> simp [e], fun c hc hne => ?_⟩
      rcases List.mem_cons.1 hc with rfl | hc
      · exact h2 c (by simp) hne
      · rcases List.mem_cons.1 hc with rfl | hc
        · by_cases e : maxB x0 r = x0
          · rw [e]; exact hxb
          · exact better_trans (h2 x0 (by simp) (fun h => e h.symm)) hxb
        · exact h2 c (by simp [hc]) hne
    · rw [hb] at hw
      have hw : worthI y x0 > 0 := by simpa using hw
      rw [if_pos hw]
      obtain ⟨h1, h2⟩ := max_best r y hr
      refine ⟨by rcases List.mem_cons.1 h1 with e | e <;> simp [e], fun c hc hne => ?_⟩
      rcases List.mem_cons.1 hc with rfl | hc
      · by_cases e : maxB y r = y
        · rw [e]; exact hb
        · exact better_trans (h2 y (by simp) (fun h => e h.symm)) hb
      · exact h2 c hc hne
theorem IsBest.perm {l m : List Bid} {b : Bid} (h : IsBest l b) (hp : l.Perm m) : IsBest m b := ⟨hp.mem_iff.1 h.1, fun c hc => h.2 c (hp.mem_iff.2 hc)⟩
theorem IsBest.unique {l : List Bid} {a b : Bid} (h : IsBest l a) (k : IsBest l b) : a = b := by
  by_cases e : a = b
  · exact e
  · have h1 := h.2 b k.1 (fun h => e h.symm)
    have h2 := k.2 a h.1 e
    rw [better_iff] at h1 h2
    omega
theorem best_nil (w : World) :
    Calls Try.prog 31 #[.pointer none] w fun e w' => e = .returned (.tuple #[bidV (0, 0, 0), .int .i64 6]) ∧ Below w.heap.size w w' := by
  have hc := count_nil (w.alloc (.cells #[.int .i64 0, .int .i64 0, .int .i64 0] 51))
  go_enter Try.func31, Try.ntmps31
  go_wp2_with (go_at_call 32; refine hc.mono ?_; rintro e w' ⟨rfl, rfl⟩)
  refine bodyPost_ret (v := .tuple #[bidV (0, 0, 0), .int .i64 6]) ?_ rfl ⟨rfl, (Below.refl _ _).alloc (Nat.le_refl _) _⟩
  simp [results, Try.f31, go_sem, bidV]
theorem best_none (w : World) (p B : Nat) (n : Int) (hT : TallyAt w p B n []) :
    Calls Try.prog 31 #[.pointer (some ⟨p, 0, none⟩)] w fun e w' => e = .returned (.tuple #[bidV (0, 0, 0), .int .i64 6]) ∧ Below w.heap.size w w' := by
  have hc := count_ok (w.alloc (.cells #[.int .i64 0, .int .i64 0, .int .i64 0] 51)) p B n [] (tally_kept hT (World.grownBy_alloc w _ none) (by simp) (by simp))
  go_enter Try.func31, Try.ntmps31
  go_wp2_with (go_at_call 32; refine hc.mono ?_; rintro e w' ⟨rfl, rfl⟩)
  refine bodyPost_ret (v := .tuple #[bidV (0, 0, 0), .int .i64 6]) ?_ rfl ⟨rfl, (Below.refl _ _).alloc (Nat.le_refl _) _⟩
  simp [results, Try.f31, go_sem, bidV]
set_option maxRecDepth 100000 in
set_option maxHeartbeats 1000000 in
theorem best_ok (w : World) (p B : Nat) (n : Int) (l : List Bid) (hT : TallyAt w p B n l) (hr : Rising l) (hl : l.length < 1000) (hne : l ≠ []) :
    Calls Try.prog 31 #[.pointer (some ⟨p, 0, none⟩)] w fun e w' => (∃ b, e = .returned (.tuple #[bidV b, .int .i64 0]) ∧ IsBest l b) ∧ Below w.heap.size w w' := by
  obtain ⟨wA, hA⟩ : ∃ wA, w.alloc (.cells #[.int .i64 0, .int .i64 0, .int .i64 0] 51) = wA := ⟨_, rfl⟩
  have hgA : w.grownBy wA none := by rw [← hA]; exact World.grownBy_alloc w _ none
  have hsA : wA.heap.size = w.heap.size + 1 := by rw [← hA]; simp
  have hrA : wA.heap[w.heap.size]? = some (.cells #[.int .i64 0, .int .i64 0, .int .i64 0] 51 (0, 0)) := by rw [← hA]; exact heap_new _ _
  have hbA : Below w.heap.size w wA := by rw [← hA]; exact (Below.refl _ _).alloc (Nat.le_refl _) _
  have hTA := tally_kept hT hgA (by simp) (by simp)
  obtain ⟨c0, c1⟩ := cells_of hTA
  have hc := count_ok wA p B n l hTA
  have hn0 : ¬ ((l.length : Int) = 0) := by
    have := List.length_pos_iff.2 hne
    omega
  have hown := hTA.2.1
  have cV := (callsIn_wide (n := 5)).1 (values_in Fence.wide 5 trivial rfl (some B) wA)
  have hseq : SeqGives Fence.wide 3 Try.prog 71 #[.pointer (some ⟨wA.heap.size, 0, none⟩)] bidV (fun ss => ss.Perm l) l.length (wA.alloc (.cells #[.map (some B)] 95)) :=
    values_gives Fence.wide 3 trivial rfl (by omega) wA.heap.size B l hr _ (by simp) (by simp) (hown.alloc _)
  have cC := (callsIn_wide (n := 5)).1 (collect_in Fence.wide 5 trivial trivial rfl (by omega) 71 #[.pointer (some ⟨wA.heap.size, 0, none⟩)] trivial (enters_of Try.func71 (by kernel_rfl) rfl) _ _ (by omega) _ hseq)
  rw [hsA] at cV cC
  clear hseq hown hTA hT
  go_enter Try.func31, Try.ntmps31
  go_wp2_with (first
    | (go_at_call 32; refine hc.mono ?_; rintro e w' ⟨rfl, rfl⟩)
    | (go_at_call 59; refine cV.mono ?_; rintro e w' ⟨rfl, rfl⟩)
    | (
      go_at_call 58
      refine cC.mono ?_
      rintro e w2 ⟨v, ss, rfl, hS, hrow, hb2⟩
      obtain ⟨x0, s1, rfl⟩ : ∃ x0 s1, ss = x0 :: s1 := by
        cases ss with
        | nil => exact absurd (List.nil_perm.1 hS) hne
        | cons a b => exact ⟨a, b, rfl⟩
      obtain ⟨g, cap, rfl⟩ : ∃ g cap, v = .slice (some ⟨g, 0, none⟩) (s1.length + 1) cap := by
        rcases hrow.2 with ⟨_, h⟩ | ⟨g, cap, _, h, _⟩
        · cases h
        · exact ⟨g, cap, h⟩
      have hls : s1.length < 1000 := by
        have := hS.length_eq
        simp at this
        omega
      have cM := maxfunc_ok w2 _ g cap x0 s1 hrow hls
      have hr2 : w2.heap[w.heap.size]? = some (.cells #[.int .i64 0, .int .i64 0, .int .i64 0] 51 (0, 0)) := (hb2.block _ (by simp; omega)).trans ((Below.heap_alloc _ _ _ (by omega)).trans hrA)
      have hbw2 : Below w.heap.size w w2 := (hbA.alloc (by omega) _).trans (hb2.mono (by simp; omega)))
    | (
      go_at_call 57
      refine cM.mono ?_
      rintro e w3 ⟨rfl, hb3⟩
      have hr3 : w3.heap[w.heap.size]? = some (.cells #[.int .i64 0, .int .i64 0, .int .i64 0] 51 (0, 0)) := (hb3.block _ (Array.getElem?_eq_some_iff.1 hr2).1).trans hr2
      have hbw3 : Below w.heap.size w w3 := hbw2.trans (hb3.mono hbw2.size)
      have r0 : w3.cell? ⟨w.heap.size, 0, none⟩ = some (.int .i64 0) := by simp [World.cell?, hr3]
      have r1 : w3.cell? ⟨w.heap.size, 1, none⟩ = some (.int .i64 0) := by simp [World.cell?, hr3]
      have r2 : w3.cell? ⟨w.heap.size, 2, none⟩ = some (.int .i64 0) := by simp [World.cell?, hr3]
      have z0 : w3.frozen? ⟨w.heap.size, 0, none⟩ = false := by simp [World.frozen?, hr3]
      have z1 : w3.frozen? ⟨w.heap.size, 1, none⟩ = false := by simp [World.frozen?, hr3]
      have z2 : w3.frozen? ⟨w.heap.size, 2, none⟩ = false := by simp [World.frozen?, hr3]
      simp only [bidV]))
  have hpw : (x0 :: s1).Pairwise (fun a b => a.1 ≠ b.1) := ((hr.imp (fun h => by omega) : l.Pairwise (fun a b => a.1 ≠ b.1))).perm hS.symm (fun h e => h e.symm)
  have hbest := (max_best s1 x0 hpw).perm hS
  generalize maxB x0 s1 = m at hbest ⊢
  have hq := set3 hr3 (.int .i64 m.1) (.int .i64 m.2.1) (.int .i64 m.2.2)
  have hbel : Below w.heap.size w (((w3.setCell ⟨w.heap.size, 0, none⟩ (.int .i64 m.1)).setCell ⟨w.heap.size, 1, none⟩ (.int .i64 m.2.1)).setCell ⟨w.heap.size, 2, none⟩ (.int .i64 m.2.2)) := below_set (below_set (below_set hbw3 (Nat.le_refl _)) (Nat.le_refl _)) (Nat.le_refl _)
  generalize (((w3.setCell ⟨w.heap.size, 0, none⟩ (.int .i64 m.1)).setCell ⟨w.heap.size, 1, none⟩ (.int .i64 m.2.1)).setCell ⟨w.heap.size, 2, none⟩ (.int .i64 m.2.2)) = W4 at hq hbel ⊢
  have q0 : W4.cell? ⟨w.heap.size, 0, none⟩ = some (.int .i64 m.1) := by simp [World.cell?, hq]
  have q1 : W4.cell? ⟨w.heap.size, 1, none⟩ = some (.int .i64 m.2.1) := by simp [World.cell?, hq]
  have q2 : W4.cell? ⟨w.heap.size, 2, none⟩ = some (.int .i64 m.2.2) := by simp [World.cell?, hq]
  refine bodyPost_ret (v := .tuple #[bidV m, .int .i64 0]) ?_ rfl ⟨⟨m, rfl, hbest⟩, hbel⟩
  simp [results, Try.f31, go_sem, q0, q1, q2, bidV]
end Go.Proofs.Ytipeleefbaalpaa.Ty
