/- Which sets are enough, and their nodes: for every number of nodes and every set the program answers as the reference does; the library's table of zero bits lies as its initialiser laid it. -/
import Derived.Test.YtipeleefbaalpaaDoorPPanelSetsx2
import Derived.Test.YtipeleefbaalpaaDoorWSized
/-- The printed row names this word without its seat's prefix. -/
theorem Go.Proofs.YtipeleefbaalpaaDoor.PrintWords.sized_ints : type_of% @Go.Proofs.YtipeleefbaalpaaDoorW.PrintWords.sized_ints := @Go.Proofs.YtipeleefbaalpaaDoorW.PrintWords.sized_ints
namespace Go.Proofs.YtipeleefbaalpaaDoor.Pure
open Go.RowKit Go.Proofs.YtipeleefbaalpaaDoor.PPanelSets Go.Proofs.YtipeleefbaalpaaDoorW.PrintWords Go.Proofs.YtipeleefbaalpaaDoorW.PrintLast Go.Proofs.YtipeleefbaalpaaDoorW.PrintMore Go.Proofs.YtipeleefbaalpaaDoor.Ext

theorem rd_at (l : List Int) (j : Nat) (h : j < l.length) : rd l (j : Int) = l[j] := by
  simp [rd, List.getD, h]
theorem w_succ (j : Nat) (h : j < 140737488351233) : wrap64 ((j : Int) + 1) = ((j + 1 : Nat) : Int) := by
  unfold wrap64; omega
theorem pred_of (k n : Nat) (h : n < k) : ∃ m, k = m + 1 := ⟨k - 1, by omega⟩

theorem mid_count (s : List Int) (hs : s.Pairwise (· ≤ ·)) (f : Nat) (hf : f < s.length) : s.length - f ≤ s.countP (fun x => decide (s[f] ≤ x)) := by
  have h1 : (s.drop f).countP (fun x => decide (s[f] ≤ x)) = (s.drop f).length := by
    rw [List.countP_eq_length]
    intro a ha
    obtain ⟨i, hi, rfl⟩ := List.getElem_of_mem ha
    rw [List.getElem_drop]
    rw [List.length_drop] at hi
    rcases Nat.eq_zero_or_pos i with rfl | h0
    · simp
    · exact decide_eq_true (List.pairwise_iff_getElem.1 hs f (f + i) hf (by omega) (by omega))
  have h2 : s.countP (fun x => decide (s[f] ≤ x)) = (s.take f).countP (fun x => decide (s[f] ≤ x)) + (s.drop f).countP (fun x => decide (s[f] ≤ x)) := by
    rw [← List.countP_append, List.take_append_drop]
  rw [h2, h1, List.length_drop]; omega
theorem mid_max (s : List Int) (hs : s.Pairwise (· ≤ ·)) (f : Nat) (hf : f < s.length) (a : Int) (ha : s[f] < a) : s.countP (fun x => decide (a ≤ x)) ≤ s.length - (f + 1) := by
  have h1 : (s.take (f + 1)).countP (fun x => decide (a ≤ x)) = 0 := by
    rw [List.countP_eq_zero]
    intro x hx
    obtain ⟨i, hi, rfl⟩ := List.getElem_of_mem hx
    rw [List.getElem_take]
    rw [List.length_take] at hi
    have : s[i] ≤ s[f] := by
      rcases Nat.lt_or_ge i f with h | h
      · exact List.pairwise_iff_getElem.1 hs i f (by omega) hf h
      · have : i = f := by omega
        subst this; omega
    simp; omega
  have h2 : s.countP (fun x => decide (a ≤ x)) = (s.take (f + 1)).countP (fun x => decide (a ≤ x)) + (s.drop (f + 1)).countP (fun x => decide (a ≤ x)) := by
    rw [← List.countP_append, List.take_append_drop]
  have h3 := List.countP_le_length (p := fun x => decide (a ≤ x)) (l := s.drop (f + 1))
  rw [List.length_drop] at h3
  rw [h2, h1]; omega
theorem sorted_pw (l : List Int) : (sorted l).Pairwise (· ≤ ·) := by
  have := List.pairwise_mergeSort (le := fun x y : Int => decide (x ≤ y)) (fun a b c h1 h2 => by simp at *; omega) (fun a b => by simp; omega) l
  exact this.imp (fun h => by simpa using h)
theorem sorted_perm (l : List Int) : (sorted l).Perm l := List.mergeSort_perm _ _
theorem sorted_len (l : List Int) : (sorted l).length = l.length := (sorted_perm l).length_eq
theorem sorted_five : sorted [4, 9, 2, 7, 1] = [1, 2, 4, 7, 9] := by simp [sorted, List.mergeSort, List.MergeSort.Internal.splitInTwo]
theorem sorted_count (l : List Int) (p : Int → Bool) : (sorted l).countP p = l.countP p := (sorted_perm l).countP_eq p
/-- The middle one of an odd number: enough have it, not enough have more, and it is one of them. -/
theorem mid_all (l : List Int) (f : Nat) (h : l.length = 2 * f + 1) : ∃ m : Int, rd (sorted l) (f : Int) = m ∧ m ∈ l ∧ f + 1 ≤ l.countP (fun x => decide (m ≤ x)) ∧ ∀ a : Int, m < a → l.countP (fun x => decide (a ≤ x)) ≤ f := by
  have hl := sorted_len l
  have hf : f < (sorted l).length := by omega
  refine ⟨(sorted l)[f], rd_at _ _ hf, (sorted_perm l).mem_iff.1 (List.getElem_mem hf), ?_, fun a ha => ?_⟩
  · have := mid_count (sorted l) (sorted_pw l) f hf
    rw [sorted_count] at this; omega
  · have := mid_max (sorted l) (sorted_pw l) f hf a ha
    rw [sorted_count] at this; omega

theorem panel_nat {n : Int} (h : panelI n = true) : ∃ f : Nat, f ≤ 3 ∧ n = 2 * (f : Int) + 1 ∧ n / 2 = f := by
  rcases panel_cases h with rfl | rfl | rfl | rfl
  · exact ⟨0, by decide⟩
  · exact ⟨1, by decide⟩
  · exact ⟨2, by decide⟩
  · exact ⟨3, by decide⟩
theorem panel_not {n : Int} (h : panelI n = false) : n ≠ 1 ∧ n ≠ 3 ∧ n ≠ 5 ∧ n ≠ 7 := by
  simp [panelI] at h; omega
theorem asked0_eq (n : Int) (k : Nat) : panel_asked.f k 0 n 0 = some (if panelI n then 0 else 1) := by
  unfold panel_asked.f
  rw [if_neg (by decide)]
  cases h : panelI n
  · obtain ⟨h1, h3, h5, h7⟩ := panel_not h
    rw [if_neg h1, if_neg h3, if_neg h5, if_neg h7]; rfl
  · rcases panel_cases h with rfl | rfl | rfl | rfl <;> rfl
def viewB (v : Int) : Bool := decide (0 ≤ v) && decide (v ≤ 1099511627776)
theorem asked1_eq (n v : Int) (k : Nat) : panel_asked.f (k + 1) 1 n v = some (if panelI n && viewB v then 0 else 1) := by
  unfold panel_asked.f
  rw [if_pos rfl]
  cases h : panelI n
  · obtain ⟨h1, h3, h5, h7⟩ := panel_not h
    simp only [panel_asked.j0]
    rw [if_neg h1, if_neg h3, if_neg h5, if_neg h7, if_neg h1, if_neg h3, if_neg h5, if_neg h7]; rfl
  · have hv : viewB v = (if v < 0 then false else decide (v ≤ 1099511627776)) := by
      unfold viewB; split
      · have : ¬ 0 ≤ v := by omega
        simp [this]
      · have : 0 ≤ v := by omega
        simp [this]
    rw [hv]
    rcases panel_cases h with rfl | rfl | rfl | rfl
    all_goals
      simp only [panel_asked.j0]
      by_cases h0 : v < 0
      · simp [h0]
      · by_cases h9 : v ≤ 1099511627776
        · have : ¬ v > 1099511627776 := by omega
          simp [h0, h9]
        · have : v > 1099511627776 := by omega
          simp [h0, h9]
theorem faults_eq (n : Int) (k : Nat) : panel_Faults.f k n = some (if panelI n then (n / 2, 0) else (0, 1)) := by
  unfold panel_Faults.f
  rw [asked0_eq]
  cases h : panelI n
  · rfl
  · rcases panel_cases h with rfl | rfl | rfl | rfl <;> decide +kernel
theorem round_eq {n : Int} (h : panelI n = true) : wrap64 (wrap64 (Int.tdiv n 2) + 1) = n / 2 + 1 := by
  rcases panel_cases h with rfl | rfl | rfl | rfl <;> decide +kernel
theorem round_pos {n : Int} (h : panelI n = true) : 1 ≤ n / 2 + 1 ∧ n / 2 + 1 ≤ 4 := by
  rcases panel_cases h with rfl | rfl | rfl | rfl <;> decide
def primaryB (n v : Int) : Int × Int := if panelI n && viewB v then (v % (n / 2 + 1), 0) else (0, 1)
theorem primary_eq (n v : Int) (k : Nat) : panel_Primary.f (k + 1) n v = some (primaryB n v) := by
  unfold panel_Primary.f primaryB
  rw [asked1_eq]
  cases h : panelI n
  · rfl
  · cases h2 : viewB v
    · rfl
    · have hv : 0 ≤ v := by simp [viewB] at h2; omega
      have hr := round_pos h
      simp only [Option.bind_some, Bool.and_self, if_true, round_eq h]
      rw [if_neg (by omega), Int.tmod_eq_emod_of_nonneg hv]

theorem reached_five : reachedB 5 [4, 9, 2, 7, 1] = (4, 0) := by
  unfold reachedB
  rw [sorted_five]
  decide +kernel
theorem five_ok (k : Nat) : sextonlaw06_five.f (k + 1) = some true := by
  unfold sextonlaw06_five.f panel_Reached.f
  rw [faults_eq, primary_eq, reached_five]
  decide +kernel

theorem ref_faults_eq (n : Int) : Ev (fun k => sextonref06_Faults.f k n) (if panelI n then n / 2 else -1) := by
  cases h : panelI n
  · obtain ⟨h1, h3, h5, h7⟩ := panel_not h
    unfold sextonref06_Faults.f
    have w0 : ¬ n = wrap64 (wrap64 (2 * 0) + 1) := by rw [show wrap64 (wrap64 (2 * 0) + 1) = 1 from by decide +kernel]; exact h1
    have w1 : ¬ n = wrap64 (wrap64 (2 * 1) + 1) := by rw [show wrap64 (wrap64 (2 * 1) + 1) = 3 from by decide +kernel]; exact h3
    have w2 : ¬ n = wrap64 (wrap64 (2 * 2) + 1) := by rw [show wrap64 (wrap64 (2 * 2) + 1) = 5 from by decide +kernel]; exact h5
    have w3 : ¬ n = wrap64 (wrap64 (2 * 3) + 1) := by rw [show wrap64 (wrap64 (2 * 3) + 1) = 7 from by decide +kernel]; exact h7
    refine Ev.step (f := fun k => sextonref06_Faults.l0 k n 1) (fun k => by simp only [sextonref06_Faults.l0]; rw [if_pos (by decide), if_neg w0, show wrap64 (0 + 1) = 1 from by decide +kernel]) ?_
    refine Ev.step (f := fun k => sextonref06_Faults.l0 k n 2) (fun k => by simp only [sextonref06_Faults.l0]; rw [if_pos (by decide), if_neg w1, show wrap64 (1 + 1) = 2 from by decide +kernel]) ?_
    refine Ev.step (f := fun k => sextonref06_Faults.l0 k n 3) (fun k => by simp only [sextonref06_Faults.l0]; rw [if_pos (by decide), if_neg w2, show wrap64 (2 + 1) = 3 from by decide +kernel]) ?_
    refine Ev.step (f := fun k => sextonref06_Faults.l0 k n 4) (fun k => by simp only [sextonref06_Faults.l0]; rw [if_pos (by decide), if_neg w3, show wrap64 (3 + 1) = 4 from by decide +kernel]) ?_
    exact Ev.step (f := fun _ => some (-1)) (fun k => by simp only [sextonref06_Faults.l0]; rw [if_neg (by decide)]) (Ev.now _)
  · rcases panel_cases h with rfl | rfl | rfl | rfl
    · exact Ev.of (fun k => sextonref06_Faults.mono 1 k) (k := 6) (by decide +kernel)
    · exact Ev.of (fun k => sextonref06_Faults.mono 3 k) (k := 6) (by decide +kernel)
    · exact Ev.of (fun k => sextonref06_Faults.mono 5 k) (k := 6) (by decide +kernel)
    · exact Ev.of (fun k => sextonref06_Faults.mono 7 k) (k := 6) (by decide +kernel)

theorem ints_l (a b : List Int) (ha : a.length ≤ 140737488351232) (d : Nat) : ∀ (k j : Nat), j ≤ a.length → j ≤ b.length → a.length - j = d → d < k →
    sextonplain_Ints.l0 k a b (a.length : Int) (j : Int) = some (decide (a.drop j = b.drop j)) := by
  induction d with
  | zero =>
    intro k j hj hb hd hk
    obtain ⟨k, rfl⟩ := pred_of k _ hk
    simp only [sextonplain_Ints.l0]
    rw [if_neg (by omega), List.drop_of_length_le (l := a) (by omega)]
    by_cases h : a.length = b.length
    · rw [List.drop_of_length_le (l := b) (by omega)]; simp [h]
    · have e : ([] : List Int) ≠ b.drop j := by
        intro e
        have := congrArg List.length e
        simp at this; omega
      have e2 : ((a.length : Int) == (b.length : Int)) = false := by simp; omega
      rw [e2]; simp [e]
  | succ d ih =>
    intro k j hj hb hd hk
    obtain ⟨k, rfl⟩ := pred_of k _ hk
    have hlt : j < a.length := by omega
    simp only [sextonplain_Ints.l0]
    rw [if_pos (by omega)]
    by_cases h : j < b.length
    · rw [if_neg (by omega), if_pos (by omega), if_pos (by omega), if_pos (by omega), rd_at a j hlt, rd_at b j h, List.drop_eq_getElem_cons hlt, List.drop_eq_getElem_cons h]
      by_cases e : a[j] = b[j]
      · rw [if_pos e, w_succ j (by omega), ih k (j + 1) (by omega) (by omega) (by omega) (by omega)]
        simp [-List.getElem_cons_drop, e]
      · rw [if_neg e]; simp [-List.getElem_cons_drop, e]
    · rw [if_pos (by omega), List.drop_eq_getElem_cons hlt, List.drop_of_length_le (l := b) (by omega)]
      simp [-List.getElem_cons_drop]
theorem ints_eq (a b : List Int) (ha : a.length ≤ 140737488351232) (k : Nat) (hk : a.length < k) :
    sextonplain_Ints.f k a b = some (decide (a = b)) := by
  unfold sextonplain_Ints.f
  have := ints_l a b ha a.length k 0 (by omega) (by omega) (by omega) hk
  simp only [List.drop_zero] at this
  exact this

def nodesN (n s : Nat) : List Int := ((List.range n).filter fun i => s.testBit i).map fun i : Nat => (i : Int)
def setCheck (n top : Nat) : Bool := (List.range top).all fun s => decide (panel_Nodes.l0 9 [] (s : Int) = some (nodesN n s, 0)) && decide (bits_OnesCount.f (s : Int) = some ((nodesN n s).length : Int))
theorem set_check1 : setCheck 1 2 = true := by decide +kernel
theorem set_check3 : setCheck 3 8 = true := by decide +kernel
theorem set_check5 : setCheck 5 32 = true := by decide +kernel
theorem set_check7 : setCheck 7 128 = true := by decide +kernel
def topI (n : Int) : Nat := if n = 1 then 2 else if n = 3 then 8 else if n = 5 then 32 else 128
theorem set_facts {n : Int} (hp : panelI n = true) (s : Nat) (h : s < topI n) : panel_Nodes.l0 9 [] (s : Int) = some (nodesN n.toNat s, 0) ∧ bits_OnesCount.f (s : Int) = some ((nodesN n.toNat s).length : Int) := by
  have key : ∀ m top : Nat, setCheck m top = true → s < top → panel_Nodes.l0 9 [] (s : Int) = some (nodesN m s, 0) ∧ bits_OnesCount.f (s : Int) = some ((nodesN m s).length : Int) := by
    intro m top hc hs
    have := List.all_eq_true.1 hc s (List.mem_range.2 hs)
    simp only [Bool.and_eq_true, decide_eq_true_eq] at this
    exact this
  rcases panel_cases hp with rfl | rfl | rfl | rfl
  · exact key 1 2 set_check1 h
  · exact key 3 8 set_check3 h
  · exact key 5 32 set_check5 h
  · exact key 7 128 set_check7 h
theorem shl_top {n : Int} (hp : panelI n = true) : shl .i64 1 n = (topI n : Int) ∧ topI n ≤ 128 ∧ 0 ≤ n ∧ n ≤ 7 := by
  rcases panel_cases hp with rfl | rfl | rfl | rfl <;> decide +kernel
def setOk (n s : Int) : Bool := panelI n && decide (0 ≤ s ∧ s < (topI n : Int))
def enoughB (n s : Int) : Bool × Int := if setOk n s then (decide (((nodesN n.toNat s.toNat).length : Int) > n / 2), 0) else (false, 1)
theorem u64_nat (s : Nat) (h : s < 128) : IntKind.u64.wrap (s : Int) = (s : Int) := by rw [IntKind.wrap_u64]; omega
theorem enough_eq (n s : Int) (k : Nat) : panel_Enough.f k n s = some (enoughB n s) := by
  unfold panel_Enough.f enoughB setOk
  rw [faults_eq]
  cases hp : panelI n
  · rfl
  · obtain ⟨h1, h2, h3, h4⟩ := shl_top hp
    simp only [Option.bind_some, if_true, Bool.true_and]
    by_cases h0 : s < 0
    · have e : ¬ (0 ≤ s ∧ s < (topI n : Int)) := by omega
      rw [if_pos h0, if_neg (by simpa using e)]
    · rw [if_neg h0, if_pos h3, h1]
      by_cases h9 : s ≥ (topI n : Int)
      · have e : ¬ (0 ≤ s ∧ s < (topI n : Int)) := by omega
        rw [if_pos h9, if_neg (by simpa using e)]
      · have e : 0 ≤ s ∧ s < (topI n : Int) := by omega
        obtain ⟨m, rfl⟩ : ∃ m : Nat, s = m := ⟨s.toNat, by omega⟩
        rw [if_neg h9, if_pos (by simpa using e), u64_nat m (by omega), (set_facts hp m (by omega)).2]
        simp
def nodesB (n s : Int) : List Int × Int := if setOk n s then (nodesN n.toNat s.toNat, 0) else ([], 1)
theorem nodes_eq (n s : Int) : Ev (fun k => panel_Nodes.f k n s) (nodesB n s) := by
  unfold panel_Nodes.f nodesB
  refine Ev.bind (a := enoughB n s) ⟨0, fun k _ => enough_eq n s k⟩ ?_
  unfold enoughB
  cases h : setOk n s
  · exact Ev.now _
  · simp only [setOk, Bool.and_eq_true, decide_eq_true_eq] at h
    obtain ⟨hp, h0, h9⟩ := h
    obtain ⟨_, h2, _, _⟩ := shl_top hp
    obtain ⟨m, rfl⟩ : ∃ m : Nat, s = m := ⟨s.toNat, by omega⟩
    simp only [if_true]
    rw [u64_nat m (by omega)]
    have hf := (set_facts hp m (by omega)).1
    rw [Int.toNat_natCast]
    exact Ev.of (fun k => panel_Nodes.mono_l k _ _) hf

theorem ref_nodes_flag (n : Int) (P : Nat → Int) (hP : ∀ d, P (d + 1) = 2 * P d) (hP0 : P 0 = 1) (hn : n ≤ 7) (d : Nat) : ∀ (s : Int) (l : List Int) (i : Int), 0 ≤ s → s < 9223372036854775808 → 0 ≤ i → i + d = n → (l.length : Int) ≤ i →
    ∃ l', Ev (fun k => sextonref06_Nodes.l0 k n s l i) (l', decide (s < P d)) := by
  induction d with
  | zero =>
    intro s l i h0 h9 hi hd hl
    refine ⟨l, Ev.step (f := fun _ => some (l, decide (s < P 0))) (fun k => ?_) (Ev.now _)⟩
    simp only [sextonref06_Nodes.l0]
    have e : (s == 0) = decide (s < P 0) := by rw [hP0, Bool.eq_iff_iff]; simp; omega
    rw [if_neg (by omega), e]
  | succ d ih =>
    intro s l i h0 h9 hi hd hl
    have w1 : wrap64 (Int.tdiv s 2) = s / 2 := by rw [Int.tdiv_eq_ediv_of_nonneg h0]; unfold wrap64; omega
    have w2 : wrap64 (i + 1) = i + 1 := by unfold wrap64; omega
    have e : decide (s < P (d + 1)) = decide (s / 2 < P d) := by rw [hP, Bool.eq_iff_iff]; simp; omega
    rw [e]
    by_cases h : Int.tmod s 2 = 1
    · obtain ⟨l', hl'⟩ := ih (s / 2) (l ++ [i]) (i + 1) (by omega) (by omega) (by omega) (by omega) (by simp; omega)
      refine ⟨l', Ev.step (fun k => ?_) hl'⟩
      simp only [sextonref06_Nodes.l0]
      rw [if_pos (by omega), if_pos h, if_pos (by omega), w1, w2]
    · obtain ⟨l', hl'⟩ := ih (s / 2) l (i + 1) (by omega) (by omega) (by omega) (by omega) (by omega)
      refine ⟨l', Ev.step (fun k => ?_) hl'⟩
      simp only [sextonref06_Nodes.l0]
      rw [if_pos (by omega), if_neg h, w1, w2]
def refCheck (n top : Nat) : Bool := (List.range top).all fun s => decide (sextonref06_Nodes.l0 9 (n : Int) (s : Int) [] 0 = some (nodesN n s, true))
theorem ref_check1 : refCheck 1 2 = true := by decide +kernel
theorem ref_check3 : refCheck 3 8 = true := by decide +kernel
theorem ref_check5 : refCheck 5 32 = true := by decide +kernel
theorem ref_check7 : refCheck 7 128 = true := by decide +kernel
theorem ref_facts {n : Int} (hp : panelI n = true) (s : Nat) (h : s < topI n) : sextonref06_Nodes.l0 9 n (s : Int) [] 0 = some (nodesN n.toNat s, true) := by
  have key : ∀ m top : Nat, refCheck m top = true → s < top → sextonref06_Nodes.l0 9 (m : Int) (s : Int) [] 0 = some (nodesN m s, true) := by
    intro m top hc hs
    have := List.all_eq_true.1 hc s (List.mem_range.2 hs)
    simpa only [decide_eq_true_eq] using this
  rcases panel_cases hp with rfl | rfl | rfl | rfl
  · exact key 1 2 ref_check1 h
  · exact key 3 8 ref_check3 h
  · exact key 5 32 ref_check5 h
  · exact key 7 128 ref_check7 h
theorem top_pow {n : Int} (hp : panelI n = true) : (topI n : Int) = 2 ^ n.toNat := by
  rcases panel_cases hp with rfl | rfl | rfl | rfl <;> decide +kernel
theorem ref_nodes_eq (n s : Int) (hs : s < 9223372036854775808) : ∃ l, Ev (fun k => sextonref06_Nodes.f k n s) (l, setOk n s) ∧ (setOk n s = true → l = nodesN n.toNat s.toNat) := by
  unfold sextonref06_Nodes.f
  have bad : ∀ (a b : Int), Ev (fun k => sextonref06_Nodes.j0 k a b true) ([], false) := fun a b => Ev.step (f := fun _ => some ([], false)) (fun k => rfl) (Ev.now _)
  cases hp : panelI n
  · refine ⟨[], Ev.bind (ref_faults_eq n) ?_, fun h => by simp [setOk, hp] at h⟩
    have e : setOk n s = false := by simp [setOk, hp]
    rw [hp, e]
    exact bad _ _
  · have hr := round_pos hp
    obtain ⟨h1, h2, h3, h4⟩ := shl_top hp
    have e0 : ¬ n / 2 < 0 := by omega
    by_cases h0 : s < 0
    · have e : setOk n s = false := by simp only [setOk, hp, Bool.true_and, decide_eq_false_iff_not]; omega
      refine ⟨[], Ev.bind (ref_faults_eq n) ?_, fun h => by rw [e] at h; cases h⟩
      rw [hp, e]
      simp only [if_true, e0, if_false, decide_eq_true h0]
      exact bad _ _
    · cases hk : setOk n s
      · obtain ⟨l', hl'⟩ := ref_nodes_flag n (fun d => 2 ^ d) (fun d => by rw [Int.pow_succ]; omega) rfl (by omega) n.toNat s [] 0 (by omega) hs (by omega) (by omega) (by simp)
        have e2 : decide (s < 2 ^ n.toNat) = false := by
          rw [← top_pow hp]
          simp only [setOk, hp, Bool.true_and, decide_eq_false_iff_not] at hk
          rw [decide_eq_false_iff_not]; omega
        rw [e2] at hl'
        refine ⟨l', Ev.bind (ref_faults_eq n) ?_, fun h => by cases h⟩
        rw [hp]
        simp only [if_true, e0, if_false, decide_eq_false h0]
        exact Ev.step (fun k => by simp only [sextonref06_Nodes.j0, Bool.false_eq_true, if_false]) hl'
      · refine ⟨nodesN n.toNat s.toNat, Ev.bind (ref_faults_eq n) ?_, fun _ => rfl⟩
        simp only [setOk, hp, Bool.true_and, decide_eq_true_eq] at hk
        obtain ⟨m, rfl⟩ : ∃ m : Nat, s = m := ⟨s.toNat, by omega⟩
        have hf := ref_facts hp m (by omega)
        rw [hp]
        simp only [if_true, e0, if_false, decide_eq_false h0]
        rw [Int.toNat_natCast]
        refine Ev.step (f := fun k => sextonref06_Nodes.l0 k n (m : Int) [] 0) (fun k => by simp only [sextonref06_Nodes.j0, Bool.false_eq_true, if_false]) (Ev.of (fun k => (sextonref06_Nodes.mono_l k).2 _ _ _ _) hf)
theorem nodes_short (n s : Nat) : (nodesN n s).length ≤ n := by
  unfold nodesN
  rw [List.length_map]
  exact Nat.le_trans (List.length_filter_le _ _) (by simp)
theorem PanelSets : sextonlaw06_PanelSets.Pure := by
  intro n s _ hs
  have hs9 : s < 9223372036854775808 := by
    simp only [Lit.wf, IntKind.min, IntKind.max, IntKind.signed, IntKind.bits, Bool.and_eq_true, decide_eq_true_eq, if_true] at hs
    omega
  refine Ev.rounds ?_
  unfold sextonlaw06_PanelSets.f
  have five : Ev (fun k => (sextonlaw06_five.f k).bind fun t => some t) true := Ev.step (f := fun _ => some true) (fun k => by rw [five_ok]; rfl) (Ev.now _)
  obtain ⟨l, hl, hlk⟩ := ref_nodes_eq n s hs9
  refine Ev.bind (a := enoughB n s) ⟨0, fun k _ => enough_eq n s k⟩ ?_
  refine Ev.bind (nodes_eq n s) ?_
  refine Ev.bind hl ?_
  unfold enoughB nodesB
  cases hk : setOk n s
  · simp only [Bool.false_eq_true, if_false, if_true, List.length_nil]
    exact five
  · have hle := hlk hk
    subst hle
    have hp : panelI n = true := by simp only [setOk, Bool.and_eq_true] at hk; exact hk.1
    simp only [if_true]
    refine Ev.bind (ref_faults_eq n) ?_
    simp only [hp, if_true, beq_self_eq_true]
    have hsh := nodes_short n.toNat s.toNat
    obtain ⟨_, _, _, h7⟩ := shl_top hp
    refine Ev.bind (a := true) ⟨8, fun k hk2 => ?_⟩ (by simpa using five)
    exact (ints_eq (nodesN n.toNat s.toNat) (nodesN n.toNat s.toNat) (by omega) k (by omega)).trans (by simp)

end Go.Proofs.YtipeleefbaalpaaDoor.Pure
