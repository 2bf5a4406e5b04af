/- maps.Values of a tally's map and slices.Collect of it: every bid once, in some order. The proofs follow the kit's for keys of the kind int, turned to values that are structs. -/
import Derived.Test.YtipeleefbaalpaaReached
import Derived.Test.YtipeleefbaalpaaTallyNodes
import Derived.Below
import Derived.Deep.Draws
import Derived.Deep.AppendLies
import Derived.Maps.AppendAt
import Derived.OwnWalk
import Derived.Laws.BytesArg
import Derived.Laws.MakeOwn
import Derived.Laws.OwnMore
import Derived.Deep.OwnRows
import Derived.Tactics
import Derived.Lib.ConvBytes
import Derived.Laws.Slices
import Derived.WalkKit
import Derived.KernelRfl
import Derived.RowKit3
import Derived.Deep.LoopGhost
import Derived.Deep.QuietTactic
import Derived.BigQuiet
import Derived.WideLaws
import Derived.Deep.DeepCutAuto
import Derived.Deep.CutBlock
import Derived.Deep.RegionHeld3
import Derived.Laws.Rows
import Derived.Lib.AppendStr
import Derived.ArgAppend
import Derived.Laws.IdiomCopy
import Derived.OrdersHeld
import Derived.Laws.BitsLemmas
import Derived.RowKit
import Derived.StillTailTactics
import Derived.Deep.DeepMust
import Derived.Outline
import Derived.Test.YtipeleefbaalpaaWMore
namespace Go.Proofs.Ytipeleefbaalpaa.Ty
open Go.ChangeMaps Go.MapKept
open Go.RowKit Go.Shelf Go.Maps Go.Sort Go.Proofs.YtipeleefbaalpaaW.PrintWords Go.Proofs.YtipeleefbaalpaaW.PrintLast Go.Proofs.YtipeleefbaalpaaW.PrintMore Go.Proofs.Ytipeleefbaalpaa.Ext
/-- Which bids have come. -/
structure Come (l : List Bid) (left : Lit → Bool) (ss : List Bid) : Prop where
  nodup : ss.Nodup
  sub : ∀ c ∈ ss, c ∈ l
  all : ∀ b ∈ l, b ∈ ss ∨ left (keyL b.1) = true
  gone : ∀ c ∈ ss, left (keyL c.1) = false
  has : ∀ kl, left kl = true → Maps.has (mapD l) kl = true
theorem Come.start (l : List Bid) : Come l (Maps.has (mapD l)) [] :=
  ⟨List.nodup_nil, by simp, fun b hb => .inr (by rw [map_has]; simp only [hasL, List.any_eq_true, decide_eq_true_eq]; exact ⟨b, hb, rfl⟩), by simp, fun _ h => h⟩
theorem rising_inj {l : List Bid} (h : Rising l) {a b : Bid} (ha : a ∈ l) (hb : b ∈ l) (e : a.1 = b.1) : a = b := by
  have := map_at l h a ha (bidD (0, 0, 0))
  rw [e, map_at l h b hb] at this
  exact (bidD_inj this).symm
theorem Come.step {l : List Bid} {left : Lit → Bool} {ss : List Bid} (h : Come l left ss) (hr : Rising l) {x : Int} (hx : left (keyL x) = true) {c : Bid} (hat : ∀ zd, (mapD l).atKey (keyL x) zd = bidD c) :
    Come l (fun z => left z && !z.sameKey (keyL x)) (ss ++ [c]) ∧ c.1 = x := by
  have hm := h.has _ hx
  rw [map_has] at hm
  simp only [hasL, List.any_eq_true, decide_eq_true_eq] at hm
  obtain ⟨b, hb, rfl⟩ := hm
  have := hat (bidD (0, 0, 0))
  rw [map_at l hr b hb] at this
  obtain rfl := bidD_inj this
  refine ⟨⟨?_, fun d hd => ?_, fun d hd => ?_, fun d hd => ?_, fun kl hk => h.has kl (by simp only [Bool.and_eq_true] at hk; exact hk.1)⟩, rfl⟩
  · rw [List.nodup_append]
    refine ⟨h.nodup, by simp, fun a ha e he => ?_⟩
    simp at he
    subst he
    intro e
    subst e
    rw [h.gone _ ha] at hx
    cases hx
  · rcases List.mem_append.1 hd with hd | hd
    · exact h.sub d hd
    · simp at hd; subst hd; exact hb
  · by_cases e : d.1 = b.1
    · exact .inl (List.mem_append.2 (.inr (by simp [rising_inj hr hd hb e])))
    · rcases h.all d hd with h1 | h1
      · exact .inl (List.mem_append.2 (.inl h1))
      · exact .inr (by simp [h1, same_key, e])
  · rcases List.mem_append.1 hd with hd | hd
    · simp [h.gone d hd]
    · simp at hd; subst hd; simp [same_key]
theorem Come.perm {l : List Bid} {left : Lit → Bool} {ss : List Bid} (h : Come l left ss) (hr : Rising l) (hl : ∀ kl, left kl = false) : ss.Perm l := by
  have hnd : l.Nodup := hr.imp (fun {a b} hab e => by subst e; omega)
  rw [List.perm_ext_iff_of_nodup h.nodup hnd]
  intro b
  refine ⟨h.sub b, fun hb => ?_⟩
  rcases h.all b hb with h1 | h1
  · exact h1
  · rw [hl] at h1; cases h1
set_option maxRecDepth 100000 in
set_option maxHeartbeats 1000000 in
theorem values1_in (F : Fence) (n : Nat) (h10 : F.fn 71) (hro : F.round = none) (hn : 1 ≤ n) (lp Bm b : Nat) (l : List Bid) (hr : Rising l) (J : List Bid → World → Prop)
    (hY : ∀ pre x W, J pre W → pre.length < l.length → YieldAt F (n - 1) Try.prog lp #[bidV x] W fun e W' => e = .returned (.bool true) ∧ J (pre ++ [x]) W' ∧ KeepsWalks W W')
    (W : World) (hJ : AbidesFrom W.heap.size J) (hm : W.cell? ⟨Bm, 0, none⟩ = some (.map (some b))) (hown : W.ownsMap Try.prog 3 bidR b l.length (mapD l)) (h0 : J [] W) :
    CallsIn F n Try.prog 71 #[.func (.yield lp) #[] #[], .pointer (some ⟨Bm, 0, none⟩)] W fun e W' => (∃ v, e = .returned v) ∧ ∃ ss : List Bid, ss.Perm l ∧ J ss W' := by
  refine callsIn_of_wp Try.func71 rfl h10 ?_ hro
  simp only [Try.ntmps71, List.size_toArray, List.length_cons, List.length_nil, Nat.reduceAdd, Nat.reduceSub, Array.replicate_succ, Array.replicate_zero, List.push_toArray, List.append_toArray, List.nil_append, List.cons_append]
  gi_wp2_with (first
    | (gi_at_range; refine wpListIn_range_own _ rfl _ 95 rfl 3 51 law Try.underlying95 _ b _ _ rfl hown ?_; intro w0 hrg0 hg0 hs0)
    | gi_in)
  go_frame
  gi_loopw [4] (fun _ wr => ∃ (left : Lit → Bool) (cnt : Nat) (ss : List Bid), wr.ranges Try.prog 3 bidR b W.heap.size l.length (mapD l) left cnt ∧ ss.length + cnt ≤ l.length ∧ Come l left ss ∧ J ss wr)
    (fun _ wr => wr.rangeLeft b W.heap.size)
  case atStart =>
    exact ⟨_, _, [], hrg0, by simp [map_size], Come.start l, hJ [] W w0 none h0 hg0 (fun r e => by cases e)⟩
  case round =>
    obtain ⟨left, cnt, ss, hrg, hcs, hC, hJs⟩ := hrel
    gi_wp2_with (first
      | (gi_at_next; refine wpListIn_next_ranges _ rfl _ rfl 3 law bidR encZ bidV (fun key kl hk => by obtain ⟨x, hx, _⟩ := Maps.keyOf_i64 Try.underlying3 hk; exact ⟨x, hx⟩) (fun v y hv => by obtain ⟨c, rfl, _⟩ := bidR_inv hv; exact ⟨c, rfl⟩) b W.heap.size _ _ _ _ rfl hrg ?_ ?_)
      | gi_in)
    · intro hc0 hl0
      gi_wp2
      go_end0
      exact ⟨⟨_, rfl⟩, ss, hC.perm hr hl0, hJs⟩
    · intro x c0 c1 c2 kl y1 y2 w2 cnt2 hkey hlk hv hat hrg2 hlt hg2 hs2 hen
      obtain ⟨x', ex, rfl, _⟩ := Maps.keyOf_i64 Try.underlying3 hkey
      obtain rfl : x = x' := encZ_inj ex
      rw [bidR_mk] at hv
      obtain ⟨rfl, rfl⟩ := Prod.mk.inj (Option.some.inj hv)
      obtain ⟨hC2, e⟩ := hC.step hr hlk hat
      dsimp only at e
      subst e
      have hJ2 : J ss w2 := hJ ss wr w2 (some W.heap.size) hJs hg2 (fun r e => by cases e; exact ⟨Nat.le_refl _, hrg.iter_walk⟩)
      have hJ2' : J ss (w2.alloc (.cells #[.int .i64 c0, .int .i64 c1, .int .i64 c2] 51 (0, 0))) := hJ ss w2 _ none hJ2 (World.grownBy_alloc _ _ _) (fun r e => by cases e)
      obtain ⟨fn, tmps, assign, body, hy, hR⟩ := hY ss (c0, c1, c2) _ hJ2' (by omega)
      have hrg2' := hrg2.alloc (.cells #[.int .i64 c0, .int .i64 c1, .int .i64 c2] 51 (0, 0))
      simp only [bidV] at hy hen
      clear hs2 hJ2'
      gi_wp2
      refine hR.mono ?_
      rintro e W3 ⟨rfl, hJ3, hk3⟩
      gi_wp2
      have hrg3 := hrg2'.of_walks hk3
      go_roundw
      case rel => exact ⟨_, cnt2, ss ++ [(c0, c1, c2)], hrg3, by simp; omega, hC2, hJ3⟩
      case measure => rw [hrg3.left_eq, hrg.left_eq]; exact hlt
theorem values_gives (F : Fence) (n : Nat) (h10 : F.fn 71) (hro : F.round = none) (hn : 1 ≤ n) (Bm b : Nat) (l : List Bid) (hr : Rising l) (w : World) (hBm : Bm < w.heap.size)
    (hm : w.cell? ⟨Bm, 0, none⟩ = some (.map (some b))) (hown : w.ownsMap Try.prog 3 bidR b l.length (mapD l)) :
    SeqGives F n Try.prog 71 #[.pointer (some ⟨Bm, 0, none⟩)] bidV (fun ss => ss.Perm l) l.length w := fun lp J W hW hJ hY h0 => by
  have hown' : W.ownsMap Try.prog 3 bidR b l.length (mapD l) := by
    have hbl := hown.lt
    obtain ⟨es, clock, hb, Ft, hs, hD⟩ := hown
    exact ⟨es, clock, (hW.block b hbl).trans hb, Ft, hs, hD⟩
  exact values1_in F n h10 hro hn lp Bm b l hr J hY W hJ ((hW.cell (p := ⟨Bm, 0, none⟩) hBm).trans hm) hown' h0
theorem values_in (F : Fence) (n : Nat) (h7 : F.fn 59) (hro : F.round = none) (mb : Option Nat) (w : World) :
    CallsIn F n Try.prog 59 #[.map mb] w fun e w' => e = .returned (.func (.func 71) #[] #[.pointer (some ⟨w.heap.size, 0, none⟩)]) ∧ w' = w.alloc (.cells #[.map mb] 95) := by
  refine callsIn_of_wp Try.func59 rfl h7 ?_ hro
  simp only [Try.ntmps59, List.size_toArray, List.length_cons, List.length_nil, Nat.reduceAdd, Nat.reduceSub, Array.replicate_succ, Array.replicate_zero, List.push_toArray, List.append_toArray, List.nil_append, List.cons_append]
  gi_wp2
  go_ret
  exact ⟨rfl, rfl⟩
end Go.Proofs.Ytipeleefbaalpaa.Ty
