/- The greatest number that enough nodes have: for every number of nodes and every list of acks the program's Reached answers as the reference does; no condition. -/
import Derived.Test.YtipeleefbaalpaaPPanelReachesx2
import Derived.Test.YtipeleefbaalpaaWSized
/-- The printed row names this word without its seat's prefix. -/
theorem Go.Proofs.Ytipeleefbaalpaa.PrintWords.sized_ints : type_of% @Go.Proofs.YtipeleefbaalpaaW.PrintWords.sized_ints := @Go.Proofs.YtipeleefbaalpaaW.PrintWords.sized_ints
namespace Go.Proofs.Ytipeleefbaalpaa.Pure
open Go.RowKit Go.Proofs.Ytipeleefbaalpaa.PPanelReaches Go.Proofs.YtipeleefbaalpaaW.PrintWords Go.Proofs.YtipeleefbaalpaaW.PrintLast Go.Proofs.YtipeleefbaalpaaW.PrintMore Go.Proofs.Ytipeleefbaalpaa.Ext

theorem rd_at (l : List Int) (j : Nat) (h : j < l.length) : rd l (j : Int) = l[j] := by
  simp [rd, List.getD, h]
theorem w_succ (j : Nat) (h : j < 140737488351233) : wrap64 ((j : Int) + 1) = ((j + 1 : Nat) : Int) := by
  unfold wrap64; omega
theorem pred_of (k n : Nat) (h : n < k) : ∃ m, k = m + 1 := ⟨k - 1, by omega⟩

theorem mid_count (s : List Int) (hs : s.Pairwise (· ≤ ·)) (f : Nat) (hf : f < s.length) : s.length - f ≤ s.countP (fun x => decide (s[f] ≤ x)) := by
  have h1 : (s.drop f).countP (fun x => decide (s[f] ≤ x)) = (s.drop f).length := by
    rw [List.countP_eq_length]
    intro a ha
    obtain ⟨i, hi, rfl⟩ := List.getElem_of_mem ha
    rw [List.getElem_drop]
    rw [List.length_drop] at hi
    rcases Nat.eq_zero_or_pos i with rfl | h0
    · simp
    · exact decide_eq_true (List.pairwise_iff_getElem.1 hs f (f + i) hf (by omega) (by omega))
  have h2 : s.countP (fun x => decide (s[f] ≤ x)) = (s.take f).countP (fun x => decide (s[f] ≤ x)) + (s.drop f).countP (fun x => decide (s[f] ≤ x)) := by
    rw [← List.countP_append, List.take_append_drop]
  rw [h2, h1, List.length_drop]; omega
theorem mid_max (s : List Int) (hs : s.Pairwise (· ≤ ·)) (f : Nat) (hf : f < s.length) (a : Int) (ha : s[f] < a) : s.countP (fun x => decide (a ≤ x)) ≤ s.length - (f + 1) := by
  have h1 : (s.take (f + 1)).countP (fun x => decide (a ≤ x)) = 0 := by
    rw [List.countP_eq_zero]
    intro x hx
    obtain ⟨i, hi, rfl⟩ := List.getElem_of_mem hx
    rw [List.getElem_take]
    rw [List.length_take] at hi
    have : s[i] ≤ s[f] := by
      rcases Nat.lt_or_ge i f with h | h
      · exact List.pairwise_iff_getElem.1 hs i f (by omega) hf h
      · have : i = f := by omega
        subst this; omega
    simp; omega
  have h2 : s.countP (fun x => decide (a ≤ x)) = (s.take (f + 1)).countP (fun x => decide (a ≤ x)) + (s.drop (f + 1)).countP (fun x => decide (a ≤ x)) := by
    rw [← List.countP_append, List.take_append_drop]
  have h3 := List.countP_le_length (p := fun x => decide (a ≤ x)) (l := s.drop (f + 1))
  rw [List.length_drop] at h3
  rw [h2, h1]; omega
theorem sorted_pw (l : List Int) : (sorted l).Pairwise (· ≤ ·) := by
  have := List.pairwise_mergeSort (le := fun x y : Int => decide (x ≤ y)) (fun a b c h1 h2 => by simp at *; omega) (fun a b => by simp; omega) l
  exact this.imp (fun h => by simpa using h)
theorem sorted_perm (l : List Int) : (sorted l).Perm l := List.mergeSort_perm _ _
theorem sorted_len (l : List Int) : (sorted l).length = l.length := (sorted_perm l).length_eq
theorem sorted_five : sorted [4, 9, 2, 7, 1] = [1, 2, 4, 7, 9] := by simp [sorted, List.mergeSort, List.MergeSort.Internal.splitInTwo]
theorem sorted_count (l : List Int) (p : Int → Bool) : (sorted l).countP p = l.countP p := (sorted_perm l).countP_eq p
/-- The middle one of an odd number: enough have it, not enough have more, and it is one of them. -/
theorem mid_all (l : List Int) (f : Nat) (h : l.length = 2 * f + 1) : ∃ m : Int, rd (sorted l) (f : Int) = m ∧ m ∈ l ∧ f + 1 ≤ l.countP (fun x => decide (m ≤ x)) ∧ ∀ a : Int, m < a → l.countP (fun x => decide (a ≤ x)) ≤ f := by
  have hl := sorted_len l
  have hf : f < (sorted l).length := by omega
  refine ⟨(sorted l)[f], rd_at _ _ hf, (sorted_perm l).mem_iff.1 (List.getElem_mem hf), ?_, fun a ha => ?_⟩
  · have := mid_count (sorted l) (sorted_pw l) f hf
    rw [sorted_count] at this; omega
  · have := mid_max (sorted l) (sorted_pw l) f hf a ha
    rw [sorted_count] at this; omega

theorem panel_nat {n : Int} (h : panelI n = true) : ∃ f : Nat, f ≤ 3 ∧ n = 2 * (f : Int) + 1 ∧ n / 2 = f := by
  rcases panel_cases h with rfl | rfl | rfl | rfl
  · exact ⟨0, by decide⟩
  · exact ⟨1, by decide⟩
  · exact ⟨2, by decide⟩
  · exact ⟨3, by decide⟩
theorem panel_not {n : Int} (h : panelI n = false) : n ≠ 1 ∧ n ≠ 3 ∧ n ≠ 5 ∧ n ≠ 7 := by
  simp [panelI] at h; omega
theorem asked0_eq (n : Int) (k : Nat) : panel_asked.f k 0 n 0 = some (if panelI n then 0 else 1) := by
  unfold panel_asked.f
  rw [if_neg (by decide)]
  cases h : panelI n
  · obtain ⟨h1, h3, h5, h7⟩ := panel_not h
    rw [if_neg h1, if_neg h3, if_neg h5, if_neg h7]; rfl
  · rcases panel_cases h with rfl | rfl | rfl | rfl <;> rfl
def viewB (v : Int) : Bool := decide (0 ≤ v) && decide (v ≤ 1099511627776)
theorem asked1_eq (n v : Int) (k : Nat) : panel_asked.f (k + 1) 1 n v = some (if panelI n && viewB v then 0 else 1) := by
  unfold panel_asked.f
  rw [if_pos rfl]
  cases h : panelI n
  · obtain ⟨h1, h3, h5, h7⟩ := panel_not h
    simp only [panel_asked.j0]
    rw [if_neg h1, if_neg h3, if_neg h5, if_neg h7, if_neg h1, if_neg h3, if_neg h5, if_neg h7]; rfl
  · have hv : viewB v = (if v < 0 then false else decide (v ≤ 1099511627776)) := by
      unfold viewB; split
      · have : ¬ 0 ≤ v := by omega
        simp [this]
      · have : 0 ≤ v := by omega
        simp [this]
    rw [hv]
    rcases panel_cases h with rfl | rfl | rfl | rfl
    all_goals
      simp only [panel_asked.j0]
      by_cases h0 : v < 0
      · simp [h0]
      · by_cases h9 : v ≤ 1099511627776
        · have : ¬ v > 1099511627776 := by omega
          simp [h0, h9]
        · have : v > 1099511627776 := by omega
          simp [h0, h9]
theorem faults_eq (n : Int) (k : Nat) : panel_Faults.f k n = some (if panelI n then (n / 2, 0) else (0, 1)) := by
  unfold panel_Faults.f
  rw [asked0_eq]
  cases h : panelI n
  · rfl
  · rcases panel_cases h with rfl | rfl | rfl | rfl <;> decide +kernel
theorem round_eq {n : Int} (h : panelI n = true) : wrap64 (wrap64 (Int.tdiv n 2) + 1) = n / 2 + 1 := by
  rcases panel_cases h with rfl | rfl | rfl | rfl <;> decide +kernel
theorem round_pos {n : Int} (h : panelI n = true) : 1 ≤ n / 2 + 1 ∧ n / 2 + 1 ≤ 4 := by
  rcases panel_cases h with rfl | rfl | rfl | rfl <;> decide
def primaryB (n v : Int) : Int × Int := if panelI n && viewB v then (v % (n / 2 + 1), 0) else (0, 1)
theorem primary_eq (n v : Int) (k : Nat) : panel_Primary.f (k + 1) n v = some (primaryB n v) := by
  unfold panel_Primary.f primaryB
  rw [asked1_eq]
  cases h : panelI n
  · rfl
  · cases h2 : viewB v
    · rfl
    · have hv : 0 ≤ v := by simp [viewB] at h2; omega
      have hr := round_pos h
      simp only [Option.bind_some, Bool.and_self, if_true, round_eq h]
      rw [if_neg (by omega), Int.tmod_eq_emod_of_nonneg hv]

theorem reached_five : reachedB 5 [4, 9, 2, 7, 1] = (4, 0) := by
  unfold reachedB
  rw [sorted_five]
  decide +kernel
theorem five_ok (k : Nat) : sextonlaw06_five.f (k + 1) = some true := by
  unfold sextonlaw06_five.f panel_Reached.f
  rw [faults_eq, primary_eq, reached_five]
  decide +kernel

theorem ref_faults_eq (n : Int) : Ev (fun k => sextonref06_Faults.f k n) (if panelI n then n / 2 else -1) := by
  cases h : panelI n
  · obtain ⟨h1, h3, h5, h7⟩ := panel_not h
    unfold sextonref06_Faults.f
    have w0 : ¬ n = wrap64 (wrap64 (2 * 0) + 1) := by rw [show wrap64 (wrap64 (2 * 0) + 1) = 1 from by decide +kernel]; exact h1
    have w1 : ¬ n = wrap64 (wrap64 (2 * 1) + 1) := by rw [show wrap64 (wrap64 (2 * 1) + 1) = 3 from by decide +kernel]; exact h3
    have w2 : ¬ n = wrap64 (wrap64 (2 * 2) + 1) := by rw [show wrap64 (wrap64 (2 * 2) + 1) = 5 from by decide +kernel]; exact h5
    have w3 : ¬ n = wrap64 (wrap64 (2 * 3) + 1) := by rw [show wrap64 (wrap64 (2 * 3) + 1) = 7 from by decide +kernel]; exact h7
    refine Ev.step (f := fun k => sextonref06_Faults.l0 k n 1) (fun k => by simp only [sextonref06_Faults.l0]; rw [if_pos (by decide), if_neg w0, show wrap64 (0 + 1) = 1 from by decide +kernel]) ?_
    refine Ev.step (f := fun k => sextonref06_Faults.l0 k n 2) (fun k => by simp only [sextonref06_Faults.l0]; rw [if_pos (by decide), if_neg w1, show wrap64 (1 + 1) = 2 from by decide +kernel]) ?_
    refine Ev.step (f := fun k => sextonref06_Faults.l0 k n 3) (fun k => by simp only [sextonref06_Faults.l0]; rw [if_pos (by decide), if_neg w2, show wrap64 (2 + 1) = 3 from by decide +kernel]) ?_
    refine Ev.step (f := fun k => sextonref06_Faults.l0 k n 4) (fun k => by simp only [sextonref06_Faults.l0]; rw [if_pos (by decide), if_neg w3, show wrap64 (3 + 1) = 4 from by decide +kernel]) ?_
    exact Ev.step (f := fun _ => some (-1)) (fun k => by simp only [sextonref06_Faults.l0]; rw [if_neg (by decide)]) (Ev.now _)
  · rcases panel_cases h with rfl | rfl | rfl | rfl
    · exact Ev.of (fun k => sextonref06_Faults.mono 1 k) (k := 6) (by decide +kernel)
    · exact Ev.of (fun k => sextonref06_Faults.mono 3 k) (k := 6) (by decide +kernel)
    · exact Ev.of (fun k => sextonref06_Faults.mono 5 k) (k := 6) (by decide +kernel)
    · exact Ev.of (fun k => sextonref06_Faults.mono 7 k) (k := 6) (by decide +kernel)

def enoughB (l : List Int) (f : Nat) (a : Int) : Bool := decide (f + 1 ≤ l.countP (fun x => decide (a ≤ x)))
/-- The best of those from here on that enough have. -/
def bestFrom (l : List Int) (f : Nat) : Int → List Int → Int
  | b, [] => b
  | b, a :: r => bestFrom l f (if enoughB l f a && decide (a > b) then a else b) r
theorem best_le (l : List Int) (f : Nat) (m : Int) (hm : ∀ a, m < a → l.countP (fun x => decide (a ≤ x)) ≤ f) : ∀ (r : List Int) (b : Int), b ≤ m → bestFrom l f b r ≤ m
  | [], b, h => h
  | a :: r, b, h => by
    unfold bestFrom
    apply best_le l f m hm r
    split
    · rename_i he
      simp only [enoughB, Bool.and_eq_true, decide_eq_true_eq] at he
      rcases Int.lt_or_le m a with h1 | h1
      · have := hm a h1; omega
      · exact h1
    · exact h
theorem best_ge (l : List Int) (f : Nat) : ∀ (r : List Int) (b : Int), b ≤ bestFrom l f b r ∧ ∀ a ∈ r, enoughB l f a = true → a ≤ bestFrom l f b r
  | [], b => by simp [bestFrom]
  | a :: r, b => by
    unfold bestFrom
    obtain ⟨h1, h2⟩ := best_ge l f r (if enoughB l f a && decide (a > b) then a else b)
    have hb : b ≤ (if enoughB l f a && decide (a > b) then a else b) := by
      split
      · rename_i he; simp only [Bool.and_eq_true, decide_eq_true_eq] at he; omega
      · omega
    refine ⟨by omega, fun x hx he => ?_⟩
    rcases List.mem_cons.1 hx with rfl | hx
    · have : x ≤ (if enoughB l f x && decide (x > b) then x else b) := by
        rw [he]; by_cases h : x > b
        · simp [h]
        · simp [h]; omega
      omega
    · exact h2 x hx he
theorem count_l (l : List Int) (f : Nat) (hf : f ≤ 3) (hl : l.length = 2 * f + 1) (best a : Int) (i : Nat) (hi : i < l.length) (r : Int × Int)
    (hn : ∀ b, b = (if enoughB l f a && decide (a > best) then a else best) → Ev (fun k => sextonref06_Reached.l1 k l (f : Int) b l (l.length : Int) ((i + 1 : Nat) : Int)) r) (d : Nat) :
    ∀ (j c : Nat), j ≤ l.length → l.length - j = d → c + (l.drop j).countP (fun x => decide (a ≤ x)) = l.countP (fun x => decide (a ≤ x)) → c ≤ j →
    Ev (fun k => sextonref06_Reached.l2 k l (f : Int) best a (c : Int) l (l.length : Int) (i : Int) l (l.length : Int) (j : Int)) r := by
  induction d with
  | zero =>
    intro j c hj hd hc hcj
    rw [List.drop_of_length_le (by omega), List.countP_nil] at hc
    refine Ev.step (fun k => ?_) (hn _ rfl)
    simp only [sextonref06_Reached.l2]
    have hw : wrap64 ((f : Int) + 1) = ((f + 1 : Nat) : Int) := w_succ f (by omega)
    rw [if_neg (by omega), hw, w_succ i (by omega)]
    by_cases h1 : (c : Int) ≥ ((f + 1 : Nat) : Int)
    · have e1 : enoughB l f a = true := by simp [enoughB]; omega
      rw [if_pos h1, e1]
      by_cases h2 : a > best <;> simp [h2]
    · have e1 : enoughB l f a = false := by simp [enoughB]; omega
      rw [if_neg h1, e1]; simp
  | succ d ih =>
    intro j c hj hd hc hcj
    have hlt : j < l.length := by omega
    rw [List.drop_eq_getElem_cons hlt, List.countP_cons] at hc
    by_cases h : l[j] ≥ a
    · have h' : decide (a ≤ l[j]) = true := decide_eq_true h
      rw [if_pos h'] at hc
      refine Ev.step (fun k => ?_) (ih (j + 1) (c + 1) (by omega) (by omega) (by omega) (by omega))
      simp only [sextonref06_Reached.l2]
      rw [if_pos (by omega), if_pos (by omega), if_pos (by omega), rd_at l j hlt, if_pos h, w_succ j (by omega), w_succ c (by omega)]
    · have h' : ¬ decide (a ≤ l[j]) = true := by simp; omega
      rw [if_neg h'] at hc
      refine Ev.step (fun k => ?_) (ih (j + 1) c (by omega) (by omega) (by omega) (by omega))
      simp only [sextonref06_Reached.l2]
      rw [if_pos (by omega), if_pos (by omega), if_pos (by omega), rd_at l j hlt, if_neg h, w_succ j (by omega)]
theorem best_l (l : List Int) (f : Nat) (hf : f ≤ 3) (hl : l.length = 2 * f + 1) (d : Nat) : ∀ (i : Nat) (best : Int), i ≤ l.length → l.length - i = d →
    Ev (fun k => sextonref06_Reached.l1 k l (f : Int) best l (l.length : Int) (i : Int)) (bestFrom l f best (l.drop i), 0) := by
  induction d with
  | zero =>
    intro i best hi hd
    rw [List.drop_of_length_le (by omega)]
    refine Ev.step (f := fun _ => some (best, 0)) (fun k => ?_) (Ev.now _)
    simp only [sextonref06_Reached.l1]
    rw [if_neg (by omega)]
  | succ d ih =>
    intro i best hi hd
    have hlt : i < l.length := by omega
    rw [List.drop_eq_getElem_cons hlt]
    unfold bestFrom
    refine Ev.step (fun k => ?_) (count_l l f hf hl best l[i] i hlt _ (fun b hb => by rw [← hb]; exact ih (i + 1) b (by omega) (by omega)) l.length 0 0 (by omega) (by omega) (by simp) (by omega))
    simp only [sextonref06_Reached.l1]
    rw [if_pos (by omega), if_pos (by omega), if_pos (by omega), rd_at l i hlt]
    rfl
theorem good_l (l : List Int) (f : Int) (r : Int × Int) (hl : l.length ≤ 7) (h1 : Ev (fun k => sextonref06_Reached.l1 k l f 0 l (l.length : Int) 0) r) (d : Nat) : ∀ i : Nat, i ≤ l.length → l.length - i = d →
    Ev (fun k => sextonref06_Reached.l0 k l f l (l.length : Int) (i : Int)) (if (l.drop i).any badB then (0, 1) else r) := by
  induction d with
  | zero =>
    intro i hi hd
    rw [List.drop_of_length_le (by omega)]
    refine Ev.step (fun k => ?_) h1
    simp only [sextonref06_Reached.l0]
    rw [if_neg (by omega)]
  | succ d ih =>
    intro i hi hd
    have hlt : i < l.length := by omega
    rw [List.drop_eq_getElem_cons hlt, List.any_cons]
    by_cases hb : badB l[i] = true
    · rw [hb]
      refine Ev.step (f := fun _ => some (0, 1)) (fun k => ?_) (by simpa using Ev.now _)
      simp only [sextonref06_Reached.l0]
      rw [if_pos (by omega), if_pos (by omega), if_pos (by omega), rd_at l i hlt]
      by_cases h0 : l[i] < 0
      · rw [if_pos h0]
      · have h9 : l[i] > 1099511627776 := by simp [badB, h0] at hb; omega
        rw [if_neg h0, if_pos h9]
    · have hb' : badB l[i] = false := by simpa using hb
      rw [hb', Bool.false_or]
      refine Ev.step (fun k => ?_) (ih (i + 1) (by omega) (by omega))
      have h0 : ¬ l[i] < 0 := by simp [badB] at hb'; omega
      have h9 : ¬ l[i] > 1099511627776 := by simp [badB] at hb'; omega
      simp only [sextonref06_Reached.l0]
      rw [if_pos (by omega), if_pos (by omega), if_pos (by omega), rd_at l i hlt, if_neg h0, if_neg h9, w_succ i (by omega)]
theorem ref_reached_eq (n : Int) (l : List Int) : Ev (fun k => sextonref06_Reached.f k n l) (reachedB n l) := by
  unfold sextonref06_Reached.f
  refine Ev.bind (ref_faults_eq n) ?_
  unfold reachedB
  cases h : panelI n
  · exact Ev.step (f := fun _ => some (0, 1)) (fun k => rfl) (Ev.now _)
  · obtain ⟨f, hf, hn, h2⟩ := panel_nat h
    simp only [if_true, Bool.true_and]
    have e0 : ¬ ((f : Int) < 0) := by omega
    simp only [h2, e0, if_false]
    by_cases hl : (l.length : Int) = n
    · have e1 : ((l.length : Int) != n) = false := by simp [hl]
      have e2 : ((l.length : Int) == n) = true := by simp [hl]
      rw [e1, e2, Bool.true_and]
      have hlen : l.length = 2 * f + 1 := by omega
      have key : Ev (fun k => sextonref06_Reached.l0 k l (f : Int) l (l.length : Int) ((0 : Nat) : Int)) _ := good_l l f _ (by omega) (best_l l f hf hlen l.length 0 0 (by omega) (by omega)) l.length 0 (by omega) (by omega)
      simp only [List.drop_zero] at key
      cases hb : l.any badB
      · rw [hb] at key
        obtain ⟨m, hm, hmem, hc, hx⟩ := mid_all l f hlen
        have hbm : badB m = false := by
          have := List.any_eq_false.1 hb m hmem
          simpa using this
        have hm0 : 0 ≤ m := by simp [badB] at hbm; omega
        have he : bestFrom l f 0 l = m := by
          have a1 := best_le l f m hx l 0 hm0
          have a2 := (best_ge l f l 0).2 m hmem (by simpa [enoughB] using hc)
          omega
        rw [he] at key
        rw [hm]
        exact Ev.step (fun k => by simp only [sextonref06_Reached.j0, Bool.false_eq_true, if_false]; rfl) key
      · rw [hb] at key
        exact Ev.step (fun k => by simp only [sextonref06_Reached.j0, Bool.false_eq_true, if_false]; rfl) key
    · have e1 : ((l.length : Int) != n) = true := by simpa using hl
      have e2 : ((l.length : Int) == n) = false := by simpa using hl
      rw [e1, e2]
      exact Ev.step (f := fun _ => some (0, 1)) (fun k => rfl) (Ev.now _)
theorem PanelReaches : sextonlaw06_PanelReaches.Pure := by
  intro n l _ _ _ _
  refine Ev.rounds ?_
  unfold sextonlaw06_PanelReaches.f panel_Reached.f
  simp only [Option.bind_some]
  refine Ev.bind (ref_reached_eq n l) ?_
  simp only [if_true]
  exact Ev.step (f := fun _ => some true) (fun k => by rw [five_ok]; rfl) (Ev.now _)

end Go.Proofs.Ytipeleefbaalpaa.Pure
