/- Enough: a walk over the map in whatever order, and what its bits are. -/
import Derived.Test.YtipeleefbaalpaaReached
import Derived.Test.YtipeleefbaalpaaTallyOps2
import Derived.Test.YtipeleefbaalpaaPEnoughx1
import Derived.Maps.RangeWalk
import Derived.Below
import Derived.Deep.Draws
import Derived.Deep.AppendLies
import Derived.Maps.AppendAt
import Derived.OwnWalk
import Derived.Laws.BytesArg
import Derived.Laws.MakeOwn
import Derived.Laws.OwnMore
import Derived.Deep.OwnRows
import Derived.Tactics
import Derived.Lib.ConvBytes
import Derived.Laws.Slices
import Derived.WalkKit
import Derived.KernelRfl
import Derived.RowKit3
import Derived.Deep.LoopGhost
import Derived.Deep.QuietTactic
import Derived.BigQuiet
import Derived.WideLaws
import Derived.Deep.DeepCutAuto
import Derived.Deep.CutBlock
import Derived.Deep.RegionHeld3
import Derived.Laws.Rows
import Derived.Lib.AppendStr
import Derived.ArgAppend
import Derived.Laws.IdiomCopy
import Derived.OrdersHeld
import Derived.Laws.BitsLemmas
import Derived.RowKit
import Derived.StillTailTactics
import Derived.Deep.DeepMust
import Derived.Outline
import Derived.Test.YtipeleefbaalpaaWMore
namespace Go.Proofs.Ytipeleefbaalpaa.Ty
open Go.ChangeMaps Go.MapKept
open Go.RowKit Go.Shelf Go.Maps Go.Proofs.YtipeleefbaalpaaW.PrintWords Go.Proofs.YtipeleefbaalpaaW.PrintLast Go.Proofs.YtipeleefbaalpaaW.PrintMore Go.Proofs.Ytipeleefbaalpaa.Ext Go.Proofs.Ytipeleefbaalpaa.PEnough
/-! ### The bits of a small set. -/
def bitsOf (s : Nat) : Nat := (List.range 7).countP fun i => s.testBit i
def onesCheck : Bool := (List.range 128).all fun s => decide (bits_OnesCount.f (s : Int) = some ((bitsOf s : Nat) : Int))
theorem ones_check : onesCheck = true := by decide +kernel
theorem ones_eq (s : Nat) (h : s < 128) : bits_OnesCount.f (s : Int) = some ((bitsOf s : Nat) : Int) := by
  have := List.all_eq_true.1 ones_check s (List.mem_range.2 h)
  simpa using this
def orCheck : Bool := (List.range 128).all fun s => (List.range 7).all fun i => s.testBit i || ((decide (Go.bits .or .i64 (s : Int) (IntKind.i64.wrap (1 * 2 ^ i)) = ((s + 2 ^ i : Nat) : Int)) && (List.range 7).all fun j => (s + 2 ^ i).testBit j == (decide (j = i) || s.testBit j)) && (List.range 8).all fun m => !(decide (s < 2 ^ m) && decide (i < m)) || decide (s + 2 ^ i < 2 ^ m))
theorem or_check : orCheck = true := by decide +kernel
theorem or_eq (s i : Nat) (h : s < 128) (hi : i < 7) (hb : s.testBit i = false) : Go.bits .or .i64 (s : Int) (IntKind.i64.wrap (1 * 2 ^ i)) = ((s + 2 ^ i : Nat) : Int) ∧ (∀ j, j < 7 → (s + 2 ^ i).testBit j = (decide (j = i) || s.testBit j)) ∧ ∀ m, m ≤ 7 → s < 2 ^ m → i < m → s + 2 ^ i < 2 ^ m := by
  have := List.all_eq_true.1 (List.all_eq_true.1 or_check s (List.mem_range.2 h)) i (List.mem_range.2 hi)
  rw [hb, Bool.false_or, Bool.and_eq_true, Bool.and_eq_true] at this
  obtain ⟨⟨t1, t2⟩, t3⟩ := this
  refine ⟨by simpa using t1, fun j hj => by simpa using List.all_eq_true.1 t2 j (List.mem_range.2 hj), fun m hm h1 h2 => ?_⟩
  have := List.all_eq_true.1 t3 m (List.mem_range.2 (by omega))
  rw [decide_eq_true h1, decide_eq_true h2] at this
  simpa using this
def topN (n : Int) : Nat := if n = 1 then 2 else if n = 3 then 8 else if n = 5 then 32 else 128
theorem top_facts {n : Int} (hp : panelI n = true) : shl .i64 1 n = (topN n : Int) ∧ topN n ≤ 128 ∧ 0 ≤ n ∧ n ≤ 7 ∧ topN n = 2 ^ n.toNat := by
  rcases panel_cases hp with rfl | rfl | rfl | rfl <;> decide +kernel
theorem u64_nat (s : Nat) (h : s < 128) : IntKind.u64.wrap (s : Int) = (s : Int) := by rw [IntKind.wrap_u64]; omega
theorem asked0_eq (n : Int) (k : Nat) (h : panelI n = true) : panel_asked.f k 0 n 0 = some 0 := by
  unfold panel_asked.f
  rw [if_neg (by decide)]
  rcases panel_cases h with rfl | rfl | rfl | rfl <;> rfl
theorem pfaults_eq (n : Int) (k : Nat) (h : panelI n = true) : panel_Faults.f k n = some (n / 2, 0) := by
  unfold panel_Faults.f
  rw [asked0_eq _ _ h]
  rcases panel_cases h with rfl | rfl | rfl | rfl <;> decide +kernel
theorem enough_eq {n : Int} (hp : panelI n = true) (s : Nat) (h : s < topN n) (k : Nat) : panel_Enough.f k n s = some (decide (((bitsOf s : Nat) : Int) > n / 2), 0) := by
  obtain ⟨h1, h2, h3, h4, _⟩ := top_facts hp
  unfold panel_Enough.f
  rw [pfaults_eq _ _ hp]
  simp only [Option.bind_some, if_true]
  rw [if_neg (by omega), if_pos h3, h1, if_neg (by omega), u64_nat s (by omega), ones_eq s (by omega)]
  rfl
/-- A list that stands for a tally of n nodes. -/
def Good (n : Int) (l : List Bid) : Prop := Rising l ∧ ∀ b ∈ l, 0 ≤ b.1 ∧ b.1 < n
theorem has_mem {l : List Bid} {i : Int} : hasL l i = true ↔ ∃ b ∈ l, b.1 = i := by simp [hasL]
theorem bits_len {n : Int} (hn : n ≤ 7) {l : List Bid} (hg : Good n l) {s : Nat} (hs : ∀ j : Nat, j < 7 → s.testBit j = hasL l j) : bitsOf s = l.length := by
  unfold bitsOf
  rw [List.countP_eq_length_filter]
  have hnd : (l.map fun b => b.1.toNat).Nodup := by
    rw [List.nodup_iff_pairwise_ne, List.pairwise_map]
    refine List.Pairwise.imp_of_mem ?_ hg.1
    intro a b ha hb hlt
    have := hg.2 a ha
    have := hg.2 b hb
    omega
  have hnr : ((List.range 7).filter fun i => s.testBit i).Nodup := List.Pairwise.filter _ List.nodup_range
  have hp : ((List.range 7).filter fun i => s.testBit i).Perm (l.map fun b => b.1.toNat) := by
    rw [List.perm_ext_iff_of_nodup hnr hnd]
    intro a
    simp only [List.mem_filter, List.mem_range, List.mem_map]
    constructor
    · rintro ⟨h1, h2⟩
      rw [hs a h1, has_mem] at h2
      obtain ⟨b, hb, e⟩ := h2
      exact ⟨b, hb, by omega⟩
    · rintro ⟨b, hb, rfl⟩
      have := hg.2 b hb
      refine ⟨by omega, ?_⟩
      rw [hs _ (by omega), has_mem]
      exact ⟨b, hb, by omega⟩
  rw [hp.length_eq, List.length_map]
theorem enough_nil (w : World) :
    Calls Try.prog 45 #[.pointer none] w fun e w' => e = .returned (.bool false) ∧ w = w' := by
  go_enter Try.func45, Try.ntmps45
  go_wp2
  go_ret
  exact ⟨rfl, rfl⟩
set_option maxRecDepth 100000 in
set_option maxHeartbeats 1000000 in
theorem enough_ok (w : World) (p B : Nat) (n : Int) (l : List Bid) (hT : TallyAt w p B n l) (hp : panelI n = true) (hg : Good n l) :
    Calls Try.prog 45 #[.pointer (some ⟨p, 0, none⟩)] w fun e w' => e = .returned (.bool (decide ((l.length : Int) > n / 2))) ∧ w.grownBy w' none := by
  obtain ⟨c0, c1⟩ := cells_of hT
  obtain ⟨t1, t2, t3, t4, t5⟩ := top_facts hp
  have hown := hT.2.1
  have hlt := hown.lt
  have HT := Aside0.mk hT
  clear hT
  go_enter Try.func45, Try.ntmps45
  go_wp2_with (at_range; refine wpList_range_own _ rfl _ 95 rfl 3 51 law Try.underlying95 bidR B _ _ rfl hown ?_; intro w0 hrg0 hg0 hs0)
  go_frame
  go_loopw [3] (fun v wr => ∃ (left : Lit → Bool) (cnt s : Nat), v = .int .i64 (s : Int) ∧ wr.ranges Try.prog 3 bidR B w.heap.size l.length (mapD l) left cnt ∧ s < 2 ^ n.toNat ∧ (∀ j : Nat, j < 7 → s.testBit j = (hasL l j && !left (keyL j))) ∧ (∀ kl, left kl = true → Maps.has (mapD l) kl = true) ∧ w.grownBy wr none)
    (fun _ wr => wr.rangeLeft B w.heap.size)
  case atStart =>
    exact ⟨_, _, 0, rfl, hrg0, Nat.two_pow_pos _, fun j hj => by rw [map_has]; simp, fun _ h => h, hg0⟩
  case round =>
    obtain ⟨left, cnt, s, rfl, hrg, hs, hbits, hleft, hgw⟩ := hrel
    have hT' := tally_kept HT.out hgw (by simp) (by simp)
    obtain ⟨d0, d1⟩ := cells_of hT'
    go_wp2_with (at_next; refine wpList_next_ranges _ rfl _ rfl 3 law bidR (Value.int .i64) bidV (fun key kl hkey => by obtain ⟨x, rfl, _⟩ := Maps.keyOf_int_inv Try.underlying3 hkey; exact ⟨x, rfl⟩) (fun v y hv => by obtain ⟨c, rfl, _⟩ := bidR_inv hv; exact ⟨c, rfl⟩) B w.heap.size _ _ _ _ rfl hrg ?_ ?_)
    · intro hc0 hl0
      have hb : ∀ j : Nat, j < 7 → s.testBit j = hasL l j := fun j hj => by rw [hbits j hj, hl0]; simp
      have hen := fun w => panel_Enough.calls 0 n s _ _ w (enough_eq hp s (by omega) 0)
      rw [bits_len t4 hg hb] at hen
      go_wp2_with (go_at_call 66; refine (hen _).mono ?_; rintro e w' ⟨rfl, ⟨nd, rfl⟩⟩)
      go_ret
      exact ⟨rfl, hgw.os, hgw.tape, hgw.output, hgw.size, hgw.block⟩
    · intro x c0 c1 c2 kl y1 y2 w1 cnt1 hkey hlx hy hat hrg1 hlt1 hg1 hs1 hen
      obtain ⟨x', ex, rfl, hwx⟩ := Maps.keyOf_int_inv Try.underlying3 hkey
      cases ex
      have hm := hleft _ hlx
      rw [show (Lit.int .i64 x) = keyL x from rfl, map_has, has_mem] at hm
      obtain ⟨b, hb, hbx⟩ := hm
      obtain ⟨i, rfl⟩ : ∃ i : Nat, x = (i : Int) := ⟨x.toNat, by have := hg.2 b hb; omega⟩
      have hin : i < n.toNat := by have := hg.2 b hb; omega
      have hnot : s.testBit i = false := by rw [hbits i (by omega)]; simp only [keyL]; rw [hlx]; simp
      obtain ⟨o1, o2, o3⟩ := or_eq s i (by omega) (by omega) hnot
      have p0 : (0 : Int) ≤ (i : Int) := by omega
      have p1 : ¬ ((i : Int) < 0) := by omega
      have p2 : ((i : Int)).toNat = i := by omega
      go_wp2
      go_roundw
      case rel =>
        refine ⟨_, cnt1, s + 2 ^ i, ?_, hrg1, o3 _ (by omega) hs hin, fun j hj => ?_, fun kl h => hleft kl (by simp only [Bool.and_eq_true] at h; exact h.1), ?_⟩
        · rw [← o1, Int.one_mul]
          exact congrArg (fun z => Value.int .i64 (bits .or .i64 (s : Int) z)) (i64_w _).symm
        · rw [o2 j hj, hbits j hj]
          have e : (keyL j).sameKey (.int .i64 (i : Int)) = decide (j = i) := by
            rw [show (Lit.int .i64 (i : Int)) = keyL i from rfl, same_key]
            exact decide_eq_decide.2 Int.ofNat_inj
          rw [e]
          by_cases hji : j = i
          · subst hji
            have : hasL l j = true := has_mem.2 ⟨b, hb, hbx⟩
            simp [this]
          · simp [hji]
        · exact ⟨hg1.os.trans hgw.os, hg1.tape.trans hgw.tape, hg1.output.trans hgw.output, Nat.le_trans hgw.size hg1.size, fun k hk _ => (hg1.block k (Nat.lt_of_lt_of_le hk hgw.size) (by intro e; have := Option.some.inj e; omega)).trans (hgw.block k hk (by simp))⟩
      case measure => rw [hrg1.left_eq, hrg.left_eq]; exact hlt1
end Go.Proofs.Ytipeleefbaalpaa.Ty
