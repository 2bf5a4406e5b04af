/- A tally under way: each operation's contract in one form. -/
import Derived.Test.YtipeleefbaalpaaReached
import Derived.Test.YtipeleefbaalpaaTallyBestOk
import Derived.Test.YtipeleefbaalpaaTallyEnough
import Derived.Below
import Derived.Deep.Draws
import Derived.Deep.AppendLies
import Derived.Maps.AppendAt
import Derived.OwnWalk
import Derived.Laws.BytesArg
import Derived.Laws.MakeOwn
import Derived.Laws.OwnMore
import Derived.Deep.OwnRows
import Derived.Tactics
import Derived.Lib.ConvBytes
import Derived.Laws.Slices
import Derived.WalkKit
import Derived.KernelRfl
import Derived.RowKit3
import Derived.Deep.LoopGhost
import Derived.Deep.QuietTactic
import Derived.BigQuiet
import Derived.WideLaws
import Derived.Deep.DeepCutAuto
import Derived.Deep.CutBlock
import Derived.Deep.RegionHeld3
import Derived.Laws.Rows
import Derived.Lib.AppendStr
import Derived.ArgAppend
import Derived.Laws.IdiomCopy
import Derived.OrdersHeld
import Derived.Laws.BitsLemmas
import Derived.RowKit
import Derived.StillTailTactics
import Derived.Deep.DeepMust
import Derived.Outline
import Derived.Test.YtipeleefbaalpaaWMore
namespace Go.Proofs.Ytipeleefbaalpaa.Ty
open Go.ChangeMaps Go.MapKept
open Go.RowKit Go.Shelf Go.Maps Go.Sort Go.Proofs.YtipeleefbaalpaaW.PrintWords Go.Proofs.YtipeleefbaalpaaW.PrintLast Go.Proofs.YtipeleefbaalpaaW.PrintMore Go.Proofs.Ytipeleefbaalpaa.Ext
theorem rising_len : ∀ (l : List Bid) (a n : Int), Rising l → (∀ b ∈ l, a ≤ b.1 ∧ b.1 < n) → l = [] ∨ (l.length : Int) ≤ n - a
  | [], _, _, _, _ => .inl rfl
  | y :: r, a, n, h, hb => by
    obtain ⟨h1, h2⟩ := List.pairwise_cons.1 h
    have hy := hb y (by simp)
    rcases rising_len r (y.1 + 1) n h2 (fun b hbr => ⟨by have := h1 b hbr; omega, (hb b (by simp [hbr])).2⟩) with rfl | h3
    · right; simp; omega
    · right; simp; omega
theorem good_len {n : Int} {l : List Bid} (hn : n ≤ 7) (hg : Good n l) : l.length ≤ 7 := by
  rcases rising_len l 0 n hg.1 hg.2 with rfl | h
  · simp
  · omega
/-- A tally under way, made since W. -/
structure Run (W w : World) (p B : Nat) (n : Int) (l : List Bid) : Prop where
  at_ : TallyAt w p B n l
  below : Below W.heap.size W w
  hp : W.heap.size ≤ p
  hB : W.heap.size ≤ B
  panel : panelI n = true
  good : Good n l
theorem Run.len {W w : World} {p B : Nat} {n : Int} {l : List Bid} (h : Run W w p B n l) : l.length ≤ 7 := good_len (top_facts h.panel).2.2.2.1 h.good
theorem below_grown {W w w' : World} {row : Option Nat} (h : Below W.heap.size W w) (hg : w.grownBy w' row) (hr : ∀ k, row = some k → W.heap.size ≤ k) : Below W.heap.size W w' := h.grown hg h.size hr
/-- It stands where other blocks turn. -/
theorem Run.kept {W w w' : World} {p B : Nat} {n : Int} {l : List Bid} {row : Option Nat} (h : Run W w p B n l) (hg : w.grownBy w' row) (h1 : some p ≠ row) (h2 : some B ≠ row) (h3 : ∀ k, row = some k → W.heap.size ≤ k) : Run W w' p B n l :=
  ⟨tally_kept h.at_ hg h1 h2, below_grown h.below hg h3, h.hp, h.hB, h.panel, h.good⟩
theorem Run.alloc {W w : World} {p B : Nat} {n : Int} {l : List Bid} (h : Run W w p B n l) (o : Obj) : Run W (w.alloc o) p B n l := h.kept (World.grownBy_alloc w o none) (by simp) (by simp) (by simp)
theorem Run.drew {W w : World} {p B : Nat} {n : Int} {l : List Bid} (h : Run W w p B n l) : Run W w.drew p B n l := ⟨h.at_.drew, ⟨h.below.os, h.below.tape, h.below.output, h.below.size, h.below.block⟩, h.hp, h.hB, h.panel, h.good⟩
theorem grown_below {w w' : World} (h : Below w.heap.size w w') : w.grownBy w' none := ⟨h.os, h.tape, h.output, h.size, fun k hk _ => h.block k hk⟩
def addE (n : Int) (l : List Bid) (b : Bid) : Bool × Int := if addOk n b then (!hasL l b.1, 0) else (false, 1)
def addS (n : Int) (l : List Bid) (b : Bid) : List Bid := if addOk n b then addL l b else l
def forgetE (n : Int) (l : List Bid) (i : Int) : Bool × Int := if inB n i then (hasL l i, 0) else (false, 1)
def forgetS (n : Int) (l : List Bid) (i : Int) : List Bid := if inB n i then forgetL l i else l
theorem add_good {n : Int} {l : List Bid} {b : Bid} (h : Good n l) : Good n (addS n l b) := by
  unfold addS
  cases e : addOk n b
  · exact h
  · simp only [addOk, inB, Bool.and_eq_true, decide_eq_true_eq] at e
    refine ⟨add_rising h.1 b, fun x hx => ?_⟩
    rcases add_mem.1 hx with rfl | ⟨hx, _⟩
    · exact e.1.1
    · exact h.2 x hx
theorem forget_good {n : Int} {l : List Bid} {i : Int} (h : Good n l) : Good n (forgetS n l i) := by
  unfold forgetS
  split
  · exact ⟨forget_rising h.1 i, fun x hx => h.2 x (forget_mem.1 hx).1⟩
  · exact h
section
variable {W w : World} {p B : Nat} {n : Int} {l : List Bid}
theorem run_new (n : Int) (W w : World) (hb : Below W.heap.size W w) (hp : panelI n = true) :
    Calls Try.prog 28 #[.int .i64 n] w fun e w' => ∃ p B, e = .returned (.tuple #[.pointer (some ⟨p, 0, none⟩), .int .i64 0]) ∧ Run W w' p B n [] ∧ w.grownBy w' none ∧ w.heap.size ≤ p ∧ w.heap.size ≤ B :=
  (new_ok n w hp).mono fun e w' ⟨p, B, he, hT, h1, h2, h3⟩ => ⟨p, B, he, ⟨hT, hb.trans (h3.mono hb.size), Nat.le_trans hb.size h1, Nat.le_trans hb.size h2, hp, List.Pairwise.nil, by simp⟩, grown_below h3, h1, h2⟩
theorem run_add (h : Run W w p B n l) (b : Bid) (hw : (Lit.int .i64 b.1).wf = true) :
    Calls Try.prog 30 #[.pointer (some ⟨p, 0, none⟩), bidV b] w fun e w' => e = .returned (.tuple #[.bool (addE n l b).1, .int .i64 (addE n l b).2]) ∧ Run W w' p B n (addS n l b) ∧ w.grownBy w' (some B) := by
  have hl := h.len
  cases e : addOk n b
  · refine (add_bad w p n b (cells_of h.at_).1 e).mono fun e' w' ⟨he, hb⟩ => ?_
    have hg := grown_below hb
    simp only [addE, addS, e]
    exact ⟨he, h.kept hg (by simp) (by simp) (by simp), hg.but _⟩
  · refine (add_ok w p B n l b h.at_ e hw (by omega)).mono fun e' w' ⟨he, hT, hg⟩ => ?_
    have hgd := add_good (b := b) h.good
    simp only [addE, addS, e] at hgd ⊢
    exact ⟨he, ⟨hT, below_grown h.below hg (fun k e => by cases e; exact h.hB), h.hp, h.hB, h.panel, hgd⟩, hg⟩
theorem run_forget (h : Run W w p B n l) (i : Int) (hw : (Lit.int .i64 i).wf = true) :
    Calls Try.prog 46 #[.pointer (some ⟨p, 0, none⟩), .int .i64 i] w fun e w' => e = .returned (.tuple #[.bool (forgetE n l i).1, .int .i64 (forgetE n l i).2]) ∧ Run W w' p B n (forgetS n l i) ∧ w.grownBy w' (some B) := by
  cases e : inB n i
  · refine (forget_bad w p n i (cells_of h.at_).1 e).mono fun e' w' ⟨he, hb⟩ => ?_
    subst hb
    simp only [forgetE, forgetS, e]
    exact ⟨he, h, World.grownBy.refl _ _⟩
  · refine (forget_ok w p B n i l h.at_ e hw).mono fun e' w' ⟨he, hT, hg⟩ => ?_
    have hgd := forget_good (i := i) h.good
    simp only [forgetE, forgetS, e] at hgd ⊢
    exact ⟨he, ⟨hT, below_grown h.below hg (fun k e => by cases e; exact h.hB), h.hp, h.hB, h.panel, hgd⟩, hg⟩
theorem run_clear (h : Run W w p B n l) :
    Calls Try.prog 51 #[.pointer (some ⟨p, 0, none⟩)] w fun e w' => e = .returned (.tuple #[]) ∧ Run W w' p B n [] ∧ w.grownBy w' (some B) :=
  (clear_ok w p B n l h.at_).mono fun e w' ⟨he, hT, hg⟩ => ⟨he, ⟨hT, below_grown h.below hg (fun k e => by cases e; exact h.hB), h.hp, h.hB, h.panel, List.Pairwise.nil, by simp⟩, hg⟩
theorem run_count (h : Run W w p B n l) :
    Calls Try.prog 32 #[.pointer (some ⟨p, 0, none⟩)] w fun e w' => e = .returned (.int .i64 l.length) ∧ w = w' := count_ok w p B n l h.at_
theorem run_enough (h : Run W w p B n l) :
    Calls Try.prog 45 #[.pointer (some ⟨p, 0, none⟩)] w fun e w' => e = .returned (.bool (decide ((l.length : Int) > n / 2))) ∧ Run W w' p B n l ∧ w.grownBy w' none :=
  (enough_ok w p B n l h.at_ h.panel h.good).mono fun e w' ⟨he, hg⟩ => ⟨he, h.kept hg (by simp) (by simp) (by simp), hg⟩
theorem run_nodes (h : Run W w p B n l) :
    Calls Try.prog 47 #[.pointer (some ⟨p, 0, none⟩)] w fun e w' => ∃ v : Value, e = .returned v ∧ w'.ownsRow w.heap.size 3 1 v (nodesL l).length ((nodesL l).map encZ) ∧ (v = .slice none 0 0 ↔ nodesL l = []) ∧ Run W w' p B n l ∧ w.grownBy w' none :=
  (nodes_ok w p B n l h.at_ h.good.1 (by have := h.len; omega)).mono fun e w' ⟨v, he, h1, h2, h3⟩ => ⟨v, he, h1, h2, h.kept (grown_below h3) (by simp) (by simp) (by simp), grown_below h3⟩
/-- The best bid's place holder where there is none. -/
def BestIs (l : List Bid) (b : Bid) (c : Int) : Prop := (l = [] ∧ b = (0, 0, 0) ∧ c = 6) ∨ (l ≠ [] ∧ IsBest l b ∧ c = 0)
theorem run_best (h : Run W w p B n l) :
    Calls Try.prog 31 #[.pointer (some ⟨p, 0, none⟩)] w fun e w' => ∃ b c, e = .returned (.tuple #[bidV b, .int .i64 c]) ∧ BestIs l b c ∧ Run W w' p B n l ∧ w.grownBy w' none := by
  have hl := h.len
  by_cases hne : l = []
  · subst hne
    exact (best_none w p B n h.at_).mono fun e w' ⟨he, hb⟩ => ⟨_, _, he, .inl ⟨rfl, rfl, rfl⟩, h.kept (grown_below hb) (by simp) (by simp) (by simp), grown_below hb⟩
  · exact (best_ok w p B n l h.at_ h.good.1 (by omega) hne).mono fun e w' ⟨⟨b, he, hi⟩, hb⟩ => ⟨b, 0, he, .inr ⟨hne, hi, rfl⟩, h.kept (grown_below hb) (by simp) (by simp) (by simp), grown_below hb⟩
end
theorem BestIs.unique {l : List Bid} {a b : Bid} {c d : Int} (h : BestIs l a c) (k : BestIs l b d) : a = b ∧ c = d := by
  rcases h with ⟨h0, h1, h2⟩ | ⟨h0, h1, h2⟩ <;> rcases k with ⟨k0, k1, k2⟩ | ⟨k0, k1, k2⟩
  · exact ⟨h1.trans k1.symm, h2.trans k2.symm⟩
  · exact absurd h0 k0
  · exact absurd k0 h0
  · exact ⟨h1.unique k1, h2.trans k2.symm⟩
end Go.Proofs.Ytipeleefbaalpaa.Ty
