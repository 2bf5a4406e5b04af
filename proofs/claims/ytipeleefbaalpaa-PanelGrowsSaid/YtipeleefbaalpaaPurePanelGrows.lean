/- What enough nodes have reached is never less as nodes get further; enough have it, not enough have more: for every number of nodes and all lists; no condition. -/
import Derived.Test.YtipeleefbaalpaaPPanelGrowsx2
import Derived.Test.YtipeleefbaalpaaWSized
/-- The printed row names this word without its seat's prefix. -/
theorem Go.Proofs.Ytipeleefbaalpaa.PrintWords.sized_ints : type_of% @Go.Proofs.YtipeleefbaalpaaW.PrintWords.sized_ints := @Go.Proofs.YtipeleefbaalpaaW.PrintWords.sized_ints
namespace Go.Proofs.Ytipeleefbaalpaa.Pure
open Go.RowKit Go.Proofs.Ytipeleefbaalpaa.PPanelGrows Go.Proofs.YtipeleefbaalpaaW.PrintWords Go.Proofs.YtipeleefbaalpaaW.PrintLast Go.Proofs.YtipeleefbaalpaaW.PrintMore Go.Proofs.Ytipeleefbaalpaa.Ext

theorem rd_at (l : List Int) (j : Nat) (h : j < l.length) : rd l (j : Int) = l[j] := by
  simp [rd, List.getD, h]
theorem w_succ (j : Nat) (h : j < 140737488351233) : wrap64 ((j : Int) + 1) = ((j + 1 : Nat) : Int) := by
  unfold wrap64; omega
theorem pred_of (k n : Nat) (h : n < k) : ∃ m, k = m + 1 := ⟨k - 1, by omega⟩

theorem mid_count (s : List Int) (hs : s.Pairwise (· ≤ ·)) (f : Nat) (hf : f < s.length) : s.length - f ≤ s.countP (fun x => decide (s[f] ≤ x)) := by
  have h1 : (s.drop f).countP (fun x => decide (s[f] ≤ x)) = (s.drop f).length := by
    rw [List.countP_eq_length]
    intro a ha
    obtain ⟨i, hi, rfl⟩ := List.getElem_of_mem ha
    rw [List.getElem_drop]
    rw [List.length_drop] at hi
    rcases Nat.eq_zero_or_pos i with rfl | h0
    · simp
    · exact decide_eq_true (List.pairwise_iff_getElem.1 hs f (f + i) hf (by omega) (by omega))
  have h2 : s.countP (fun x => decide (s[f] ≤ x)) = (s.take f).countP (fun x => decide (s[f] ≤ x)) + (s.drop f).countP (fun x => decide (s[f] ≤ x)) := by
    rw [← List.countP_append, List.take_append_drop]
  rw [h2, h1, List.length_drop]; omega
theorem mid_max (s : List Int) (hs : s.Pairwise (· ≤ ·)) (f : Nat) (hf : f < s.length) (a : Int) (ha : s[f] < a) : s.countP (fun x => decide (a ≤ x)) ≤ s.length - (f + 1) := by
  have h1 : (s.take (f + 1)).countP (fun x => decide (a ≤ x)) = 0 := by
    rw [List.countP_eq_zero]
    intro x hx
    obtain ⟨i, hi, rfl⟩ := List.getElem_of_mem hx
    rw [List.getElem_take]
    rw [List.length_take] at hi
    have : s[i] ≤ s[f] := by
      rcases Nat.lt_or_ge i f with h | h
      · exact List.pairwise_iff_getElem.1 hs i f (by omega) hf h
      · have : i = f := by omega
        subst this; omega
    simp; omega
  have h2 : s.countP (fun x => decide (a ≤ x)) = (s.take (f + 1)).countP (fun x => decide (a ≤ x)) + (s.drop (f + 1)).countP (fun x => decide (a ≤ x)) := by
    rw [← List.countP_append, List.take_append_drop]
  have h3 := List.countP_le_length (p := fun x => decide (a ≤ x)) (l := s.drop (f + 1))
  rw [List.length_drop] at h3
  rw [h2, h1]; omega
theorem sorted_pw (l : List Int) : (sorted l).Pairwise (· ≤ ·) := by
  have := List.pairwise_mergeSort (le := fun x y : Int => decide (x ≤ y)) (fun a b c h1 h2 => by simp at *; omega) (fun a b => by simp; omega) l
  exact this.imp (fun h => by simpa using h)
theorem sorted_perm (l : List Int) : (sorted l).Perm l := List.mergeSort_perm _ _
theorem sorted_len (l : List Int) : (sorted l).length = l.length := (sorted_perm l).length_eq
theorem sorted_five : sorted [4, 9, 2, 7, 1] = [1, 2, 4, 7, 9] := by simp [sorted, List.mergeSort, List.MergeSort.Internal.splitInTwo]
theorem sorted_count (l : List Int) (p : Int → Bool) : (sorted l).countP p = l.countP p := (sorted_perm l).countP_eq p
/-- The middle one of an odd number: enough have it, not enough have more, and it is one of them. -/
theorem mid_all (l : List Int) (f : Nat) (h : l.length = 2 * f + 1) : ∃ m : Int, rd (sorted l) (f : Int) = m ∧ m ∈ l ∧ f + 1 ≤ l.countP (fun x => decide (m ≤ x)) ∧ ∀ a : Int, m < a → l.countP (fun x => decide (a ≤ x)) ≤ f := by
  have hl := sorted_len l
  have hf : f < (sorted l).length := by omega
  refine ⟨(sorted l)[f], rd_at _ _ hf, (sorted_perm l).mem_iff.1 (List.getElem_mem hf), ?_, fun a ha => ?_⟩
  · have := mid_count (sorted l) (sorted_pw l) f hf
    rw [sorted_count] at this; omega
  · have := mid_max (sorted l) (sorted_pw l) f hf a ha
    rw [sorted_count] at this; omega

theorem panel_nat {n : Int} (h : panelI n = true) : ∃ f : Nat, f ≤ 3 ∧ n = 2 * (f : Int) + 1 ∧ n / 2 = f := by
  rcases panel_cases h with rfl | rfl | rfl | rfl
  · exact ⟨0, by decide⟩
  · exact ⟨1, by decide⟩
  · exact ⟨2, by decide⟩
  · exact ⟨3, by decide⟩
theorem panel_not {n : Int} (h : panelI n = false) : n ≠ 1 ∧ n ≠ 3 ∧ n ≠ 5 ∧ n ≠ 7 := by
  simp [panelI] at h; omega
theorem asked0_eq (n : Int) (k : Nat) : panel_asked.f k 0 n 0 = some (if panelI n then 0 else 1) := by
  unfold panel_asked.f
  rw [if_neg (by decide)]
  cases h : panelI n
  · obtain ⟨h1, h3, h5, h7⟩ := panel_not h
    rw [if_neg h1, if_neg h3, if_neg h5, if_neg h7]; rfl
  · rcases panel_cases h with rfl | rfl | rfl | rfl <;> rfl
def viewB (v : Int) : Bool := decide (0 ≤ v) && decide (v ≤ 1099511627776)
theorem asked1_eq (n v : Int) (k : Nat) : panel_asked.f (k + 1) 1 n v = some (if panelI n && viewB v then 0 else 1) := by
  unfold panel_asked.f
  rw [if_pos rfl]
  cases h : panelI n
  · obtain ⟨h1, h3, h5, h7⟩ := panel_not h
    simp only [panel_asked.j0]
    rw [if_neg h1, if_neg h3, if_neg h5, if_neg h7, if_neg h1, if_neg h3, if_neg h5, if_neg h7]; rfl
  · have hv : viewB v = (if v < 0 then false else decide (v ≤ 1099511627776)) := by
      unfold viewB; split
      · have : ¬ 0 ≤ v := by omega
        simp [this]
      · have : 0 ≤ v := by omega
        simp [this]
    rw [hv]
    rcases panel_cases h with rfl | rfl | rfl | rfl
    all_goals
      simp only [panel_asked.j0]
      by_cases h0 : v < 0
      · simp [h0]
      · by_cases h9 : v ≤ 1099511627776
        · have : ¬ v > 1099511627776 := by omega
          simp [h0, h9]
        · have : v > 1099511627776 := by omega
          simp [h0, h9]
theorem faults_eq (n : Int) (k : Nat) : panel_Faults.f k n = some (if panelI n then (n / 2, 0) else (0, 1)) := by
  unfold panel_Faults.f
  rw [asked0_eq]
  cases h : panelI n
  · rfl
  · rcases panel_cases h with rfl | rfl | rfl | rfl <;> decide +kernel
theorem round_eq {n : Int} (h : panelI n = true) : wrap64 (wrap64 (Int.tdiv n 2) + 1) = n / 2 + 1 := by
  rcases panel_cases h with rfl | rfl | rfl | rfl <;> decide +kernel
theorem round_pos {n : Int} (h : panelI n = true) : 1 ≤ n / 2 + 1 ∧ n / 2 + 1 ≤ 4 := by
  rcases panel_cases h with rfl | rfl | rfl | rfl <;> decide
def primaryB (n v : Int) : Int × Int := if panelI n && viewB v then (v % (n / 2 + 1), 0) else (0, 1)
theorem primary_eq (n v : Int) (k : Nat) : panel_Primary.f (k + 1) n v = some (primaryB n v) := by
  unfold panel_Primary.f primaryB
  rw [asked1_eq]
  cases h : panelI n
  · rfl
  · cases h2 : viewB v
    · rfl
    · have hv : 0 ≤ v := by simp [viewB] at h2; omega
      have hr := round_pos h
      simp only [Option.bind_some, Bool.and_self, if_true, round_eq h]
      rw [if_neg (by omega), Int.tmod_eq_emod_of_nonneg hv]

theorem reached_five : reachedB 5 [4, 9, 2, 7, 1] = (4, 0) := by
  unfold reachedB
  rw [sorted_five]
  decide +kernel
theorem five_ok (k : Nat) : sextonlaw06_five.f (k + 1) = some true := by
  unfold sextonlaw06_five.f panel_Reached.f
  rw [faults_eq, primary_eq, reached_five]
  decide +kernel

def nextAt (more : List Int) (i : Nat) (x : Int) : Int :=
  if i < more.length ∧ rd more i > x ∧ rd more i ≤ 1099511627776 then rd more i else x
def nextFrom (more : List Int) : Nat → List Int → List Int
  | _, [] => []
  | i, x :: r => nextAt more i x :: nextFrom more (i + 1) r
theorem next_len (more : List Int) : ∀ (r : List Int) (i : Nat), (nextFrom more i r).length = r.length
  | [], _ => rfl
  | _ :: r, i => by simp [nextFrom, next_len more r (i + 1)]
theorem next_ge (more : List Int) (i : Nat) (x : Int) : x ≤ nextAt more i x := by
  unfold nextAt; split <;> omega
theorem next_bad (more : List Int) : ∀ (r : List Int) (i : Nat), r.any badB = false → (nextFrom more i r).any badB = false
  | [], _, _ => rfl
  | x :: r, i, h => by
    simp only [List.any_cons, Bool.or_eq_false_iff] at h
    simp only [nextFrom, List.any_cons, Bool.or_eq_false_iff]
    refine ⟨?_, next_bad more r (i + 1) h.2⟩
    have h1 := h.1
    have h2 := next_ge more i x
    simp only [badB, Bool.or_eq_false_iff, decide_eq_false_iff_not] at h1 ⊢
    refine ⟨by omega, ?_⟩
    unfold nextAt; split <;> omega
theorem next_count (more : List Int) (a : Int) : ∀ (r : List Int) (i : Nat), r.countP (fun x => decide (a ≤ x)) ≤ (nextFrom more i r).countP (fun x => decide (a ≤ x))
  | [], _ => by simp
  | x :: r, i => by
    simp only [nextFrom, List.countP_cons]
    have h1 := next_count more a r (i + 1)
    have h2 := next_ge more i x
    by_cases h : a ≤ x
    · have h3 : a ≤ nextAt more i x := by omega
      simp [h, h3]; exact h1
    · simp [h]; omega
theorem grows_l (n : Int) (l more : List Int) (a : Int) (hl : l.length ≤ 7) (r : Bool) (d : Nat) : ∀ (i : Nat) (nx : List Int) (c e : Nat), i ≤ l.length → l.length - i = d → nx.length ≤ i → c ≤ i → e ≤ i →
    (∀ nx' c' e', nx' = nx ++ nextFrom more i (l.drop i) → c' = c + (l.drop i).countP (fun x => decide (a ≤ x)) → e' = e + (l.drop i).countP (fun x => decide (a + 1 ≤ x)) →
      Ev (fun k => sextonlaw06_PanelGrows.l0 k n more a nx' ((c' : Nat) : Int) ((e' : Nat) : Int) l (l.length : Int) (l.length : Int)) r) →
    Ev (fun k => sextonlaw06_PanelGrows.l0 k n more a nx (c : Int) (e : Int) l (l.length : Int) (i : Int)) r := by
  induction d with
  | zero =>
    intro i nx c e hi hd _ _ _ H
    have := H nx c e (by rw [List.drop_of_length_le (by omega)]; simp [nextFrom]) (by rw [List.drop_of_length_le (by omega)]; simp) (by rw [List.drop_of_length_le (by omega)]; simp)
    have hil : i = l.length := by omega
    rw [hil]; exact this
  | succ d ih =>
    intro i nx c e hi hd hnx hc he H
    have hlt : i < l.length := by omega
    obtain ⟨x, hx⟩ : ∃ x, l[i] = x := ⟨_, rfl⟩
    rw [List.drop_eq_getElem_cons hlt, hx] at H
    have H2 := ih (i + 1) (nx ++ [nextAt more i x]) (c + if a ≤ x then 1 else 0) (e + if a + 1 ≤ x then 1 else 0) (by omega) (by omega) (by simp; omega) (by split <;> omega) (by split <;> omega)
      (fun nx' c' e' h1 h2 h3 => H nx' c' e' (by rw [h1]; simp [nextFrom]) (by rw [h2, List.countP_cons]; simp only [decide_eq_true_eq]; omega) (by rw [h3, List.countP_cons]; simp only [decide_eq_true_eq]; omega))
    have key : ∀ (cc ee : Nat) , Ev (fun k => sextonlaw06_PanelGrows.l0 k n more a (nx ++ [nextAt more i x]) (cc : Int) (((ee + if a + 1 ≤ x then 1 else 0) : Nat) : Int) l (l.length : Int) ((i + 1 : Nat) : Int)) r → ee ≤ i →
        Ev (fun k => sextonlaw06_PanelGrows.j1 k n more a nx (cc : Int) (ee : Int) (i : Int) x l (l.length : Int) (i : Int)) r := by
      intro cc ee hev hee
      refine Ev.step (fun k => ?_) hev
      simp only [sextonlaw06_PanelGrows.j1]
      rw [w_succ i (by omega), w_succ ee (by omega)]
      have hnl : nx.length < 17592186044416 := by omega
      by_cases h1 : x > a
      · have h1' : a + 1 ≤ x := by omega
        rw [if_pos h1, if_pos h1']
        by_cases h2 : (i : Int) < (more.length : Int)
        · have h2' : i < more.length := by omega
          rw [if_pos h2, if_pos (by omega)]
          by_cases h3 : rd more (i : Int) > x
          · rw [if_pos h3]
            by_cases h4 : rd more (i : Int) ≤ 1099511627776
            · rw [if_pos h4, if_pos hnl]; simp [nextAt, h2', h3, h4]
            · rw [if_neg h4, if_pos hnl]; simp [nextAt, h4]
          · rw [if_neg h3, if_pos hnl]; simp [nextAt, h3]
        · have h2' : ¬ i < more.length := by omega
          rw [if_neg h2, if_pos hnl]; simp [nextAt, h2']
      · have h1' : ¬ a + 1 ≤ x := by omega
        rw [if_neg h1, if_neg h1']
        by_cases h2 : (i : Int) < (more.length : Int)
        · have h2' : i < more.length := by omega
          rw [if_pos h2, if_pos (by omega)]
          by_cases h3 : rd more (i : Int) > x
          · rw [if_pos h3]
            by_cases h4 : rd more (i : Int) ≤ 1099511627776
            · rw [if_pos h4, if_pos hnl]; simp [nextAt, h2', h3, h4]
            · rw [if_neg h4, if_pos hnl]; simp [nextAt, h4]
          · rw [if_neg h3, if_pos hnl]; simp [nextAt, h3]
        · have h2' : ¬ i < more.length := by omega
          rw [if_neg h2, if_pos hnl]; simp [nextAt, h2']
    refine Ev.step (fun k => ?_) (key (c + if a ≤ x then 1 else 0) e H2 he)
    simp only [sextonlaw06_PanelGrows.l0]
    rw [if_pos (by omega), if_pos (by omega), if_pos (by omega), rd_at l i hlt, hx]
    by_cases h : x ≥ a
    · have h' : a ≤ x := h
      rw [if_pos h, if_pos h', w_succ c (by omega)]
    · have h' : ¬ a ≤ x := h
      rw [if_neg h, if_neg h']; rfl
theorem reached_of {n : Int} {l : List Int} {f : Nat} (hp : panelI n = true) (h2 : n / 2 = (f : Int)) (hl : (l.length : Int) = n) (hb : l.any badB = false) : reachedB n l = (rd (sorted l) (f : Int), 0) := by
  unfold reachedB
  rw [hp, hb, h2]; simp [hl]
theorem PanelGrows : sextonlaw06_PanelGrows.Pure := by
  intro n l more _ _ _ _ _ _ _
  refine Ev.rounds ?_
  unfold sextonlaw06_PanelGrows.f panel_Reached.f
  simp only [Option.bind_some]
  have five : Ev (fun k => (sextonlaw06_five.f k).bind fun t => some t) true := Ev.step (f := fun _ => some true) (fun k => by rw [five_ok]; rfl) (Ev.now _)
  by_cases hall : panelI n = true ∧ (l.length : Int) = n ∧ l.any badB = false
  · obtain ⟨hp, hl, hb⟩ := hall
    obtain ⟨f, hf, hn, h2⟩ := panel_nat hp
    have hlen : l.length = 2 * f + 1 := by omega
    rw [reached_of hp h2 hl hb]
    obtain ⟨m, hm, _, hc, hx⟩ := mid_all l f hlen
    rw [hm]
    simp only [if_true]
    refine grows_l n l more m (by omega) true l.length 0 [] 0 0 (by omega) (by omega) (by simp) (by omega) (by omega) (fun nx c e h1 h3 h4 => ?_)
    simp only [List.drop_zero, List.nil_append, Nat.zero_add] at h1 h3 h4
    have hnl : nx.length = l.length := by rw [h1, next_len]
    have hnb : nx.any badB = false := by rw [h1]; exact next_bad more l 0 hb
    obtain ⟨m2, hm2, _, _, hx2⟩ := mid_all nx f (by omega)
    have hge : m2 ≥ m := by
      rcases Int.lt_or_le m2 m with h | h
      · have a1 := hx2 m h
        have a2 := next_count more m l 0
        rw [← h1] at a2; omega
      · exact h
    have hab : e ≤ f := by
      have := hx (m + 1) (by omega)
      omega
    refine Ev.step (fun k => ?_) five
    simp only [sextonlaw06_PanelGrows.l0]
    have w1 : wrap64 (2 * (c : Int)) = 2 * (c : Int) := by
      have := List.countP_le_length (p := fun x => decide (m ≤ x)) (l := l)
      unfold wrap64; omega
    have w2 : wrap64 (2 * (e : Int)) = 2 * (e : Int) := by unfold wrap64; omega
    unfold panel_Reached.f
    rw [if_neg (by omega), reached_of hp h2 (by omega) hnb, hm2]
    simp only [Option.bind_some, if_true]
    rw [if_pos hge, w1, if_pos (by omega), w2, if_pos (by omega)]
  · have hr : reachedB n l = (0, 1) := by
      unfold reachedB
      cases hp : panelI n
      · rfl
      · by_cases hl : (l.length : Int) = n
        · cases hb : l.any badB
          · exact absurd ⟨hp, hl, hb⟩ hall
          · simp
        · have e2 : ((l.length : Int) == n) = false := by simpa using hl
          rw [e2]; rfl
    rw [hr]
    exact five

end Go.Proofs.Ytipeleefbaalpaa.Pure
