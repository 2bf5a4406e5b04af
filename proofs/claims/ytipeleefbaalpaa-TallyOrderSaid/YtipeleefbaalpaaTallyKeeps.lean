/- TallyOrder's walk: its first loop keeps the bids in the order in which they came. -/
import Derived.Test.YtipeleefbaalpaaReached
import Derived.Test.YtipeleefbaalpaaTallyKept
import Derived.Below
import Derived.Deep.Draws
import Derived.Deep.AppendLies
import Derived.Maps.AppendAt
import Derived.OwnWalk
import Derived.Laws.BytesArg
import Derived.Laws.MakeOwn
import Derived.Laws.OwnMore
import Derived.Deep.OwnRows
import Derived.Tactics
import Derived.Lib.ConvBytes
import Derived.Laws.Slices
import Derived.WalkKit
import Derived.KernelRfl
import Derived.RowKit3
import Derived.Deep.LoopGhost
import Derived.Deep.QuietTactic
import Derived.BigQuiet
import Derived.WideLaws
import Derived.Deep.DeepCutAuto
import Derived.Deep.CutBlock
import Derived.Deep.RegionHeld3
import Derived.Laws.Rows
import Derived.Lib.AppendStr
import Derived.ArgAppend
import Derived.Laws.IdiomCopy
import Derived.OrdersHeld
import Derived.Laws.BitsLemmas
import Derived.RowKit
import Derived.StillTailTactics
import Derived.Deep.DeepMust
import Derived.Outline
import Derived.Test.YtipeleefbaalpaaWMore
namespace Go.Proofs.Ytipeleefbaalpaa.Ty
open Go.ChangeMaps Go.MapKept
open Go.RowKit Go.Shelf Go.Maps Go.Sort Go.Proofs.YtipeleefbaalpaaW.PrintWords Go.Proofs.YtipeleefbaalpaaW.PrintLast Go.Proofs.YtipeleefbaalpaaW.PrintMore Go.Proofs.Ytipeleefbaalpaa.Ext
def replB (x k : Bid) : Bid := if k.1 = x.1 then x else k
def KK (x : Bid) (K : List Bid) (j : Nat) : List Bid := (K.take j).map (replB x) ++ K.drop j
theorem KK_len (x : Bid) (K : List Bid) (j : Nat) : (KK x K j).length = K.length := by simp [KK]; omega
theorem KK_at (x : Bid) (K : List Bid) (j : Nat) (h : j < K.length) (h' : j < (KK x K j).length) : (KK x K j)[j] = K[j] := by
  simp only [KK]
  rw [List.getElem_append_right (by simp; omega)]
  simp [Nat.min_eq_left (Nat.le_of_lt h)]
theorem KK_succ (x : Bid) (K : List Bid) (j : Nat) (h : j < K.length) : KK x K (j + 1) = (KK x K j).set j (replB x K[j]) := by
  simp only [KK]
  rw [List.set_append_right _ _ (by simp; omega), List.take_succ_eq_append_getElem h, List.map_append, List.append_assoc]
  congr 1
  rw [List.drop_eq_getElem_cons h]
  simp [Nat.min_eq_left (Nat.le_of_lt h), -List.getElem_cons_drop]
theorem KK_zero (x : Bid) (K : List Bid) : KK x K 0 = K := by simp [KK]
theorem KK_all (x : Bid) (K : List Bid) : KK x K K.length = K.map (replB x) := by simp [KK]
theorem KK_same (x : Bid) (K : List Bid) (j : Nat) (h : j < K.length) (hne : K[j].1 ≠ x.1) : KK x K (j + 1) = KK x K j := by
  rw [KK_succ x K j h]
  have : replB x K[j] = K[j] := by simp [replB, hne]
  rw [this]
  have hl : j < (KK x K j).length := by rw [KK_len]; exact h
  have := KK_at x K j h hl
  rw [← this]
  exact List.set_getElem_self hl
/-- What the kept bids are to the tally's. -/
structure Keeps (LA K : List Bid) : Prop where
  dist : K.Pairwise (fun a b => a.1 ≠ b.1)
  mem : ∀ c, c ∈ K ↔ c ∈ LA
  ok : ∀ c ∈ K, addOk 7 c = true
theorem Keeps.nil : Keeps [] [] := ⟨List.Pairwise.nil, by simp, by simp⟩
theorem Keeps.perm {LA K : List Bid} (h : Keeps LA K) (hr : Rising LA) : K.Perm LA := by
  have h1 : K.Nodup := h.dist.imp (fun {a b} hab e => hab (by rw [e]))
  have h2 : LA.Nodup := hr.imp (fun {a b} hab e => by subst e; omega)
  rw [List.perm_ext_iff_of_nodup h1 h2]
  exact h.mem
theorem Keeps.new {LA K : List Bid} (h : Keeps LA K) {x : Bid} (hx : hasL LA x.1 = false) (hok : addOk 7 x = true) : Keeps (addL LA x) (K ++ [x]) := by
  have hno : ∀ c ∈ LA, c.1 ≠ x.1 := fun c hc e => by
    have := has_mem.2 ⟨c, hc, e⟩
    rw [hx] at this
    cases this
  refine ⟨List.pairwise_append.2 ⟨h.dist, by simp, fun a ha b hb => ?_⟩, fun c => ?_, fun c hc => ?_⟩
  · simp at hb
    subst hb
    exact hno a ((h.mem a).1 ha)
  · rw [add_mem, List.mem_append, h.mem c]
    constructor
    · rintro (hc | hc)
      · exact .inr ⟨hc, hno c hc⟩
      · exact .inl (by simpa using hc)
    · rintro (rfl | ⟨hc, _⟩)
      · exact .inr (by simp)
      · exact .inl hc
  · rcases List.mem_append.1 hc with hc | hc
    · exact h.ok c hc
    · simp at hc; subst hc; exact hok
theorem Keeps.repl {LA K : List Bid} (h : Keeps LA K) {x : Bid} (hx : hasL LA x.1 = true) (hok : addOk 7 x = true) : Keeps (addL LA x) (K.map (replB x)) := by
  have hnode : ∀ k : Bid, (replB x k).1 = k.1 := fun k => by unfold replB; split <;> simp_all
  obtain ⟨y, hy, hyx⟩ := has_mem.1 hx
  refine ⟨?_, fun c => ?_, fun c hc => ?_⟩
  · rw [List.pairwise_map]
    exact h.dist.imp (fun {a b} hab => by rw [hnode, hnode]; exact hab)
  · rw [add_mem, List.mem_map]
    constructor
    · rintro ⟨k, hk, rfl⟩
      by_cases e : k.1 = x.1
      · left; simp [replB, e]
      · right
        have : replB x k = k := by simp [replB, e]
        rw [this]
        exact ⟨(h.mem k).1 hk, e⟩
    · rintro (rfl | ⟨hc, hne⟩)
      · exact ⟨y, (h.mem y).2 hy, by simp [replB, hyx]⟩
      · exact ⟨c, (h.mem c).2 hc, by simp [replB, hne]⟩
  · obtain ⟨k, hk, rfl⟩ := List.mem_map.1 hc
    unfold replB
    split
    · exact hok
    · exact h.ok k hk
end Go.Proofs.Ytipeleefbaalpaa.Ty
