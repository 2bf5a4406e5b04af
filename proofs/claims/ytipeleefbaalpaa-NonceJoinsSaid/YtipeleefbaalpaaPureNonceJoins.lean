/- That merging is the same whichever vector is first and however often, that what is merged covers both, and that whoever covers both covers it: for all vectors a, b, c; no condition. -/
import Derived.Test.YtipeleefbaalpaaPNonceJoinsx3
import Derived.Test.YtipeleefbaalpaaWSized
/-- The printed row names this word without its seat's prefix. -/
theorem Go.Proofs.Ytipeleefbaalpaa.PrintWords.sized_ints : type_of% @Go.Proofs.YtipeleefbaalpaaW.PrintWords.sized_ints := @Go.Proofs.YtipeleefbaalpaaW.PrintWords.sized_ints
namespace Go.Proofs.Ytipeleefbaalpaa.Pure
open Go.RowKit Go.Proofs.Ytipeleefbaalpaa.PNonceJoins Go.Proofs.YtipeleefbaalpaaW.PrintWords Go.Proofs.YtipeleefbaalpaaW.PrintLast Go.Proofs.YtipeleefbaalpaaW.PrintMore

theorem rd_at (l : List Int) (j : Nat) (h : j < l.length) : rd l (j : Int) = l[j] := by
  simp [rd, List.getD, h]
theorem w_succ (j : Nat) (h : j < 140737488351233) : wrap64 ((j : Int) + 1) = ((j + 1 : Nat) : Int) := by
  unfold wrap64; omega
theorem pred_of (k n : Nat) (h : n < k) : ∃ m, k = m + 1 := ⟨k - 1, by omega⟩

def okB (x : Int) : Bool := decide (0 ≤ x) && decide (x ≤ 1099511627776)
def panelB (n : Nat) : Bool := n == 1 || n == 3 || n == 5 || n == 7
def rightB (l : List Int) : Bool := panelB l.length && l.all okB
theorem nonce_panel_eq (n : Nat) : nonce_panel.f (n : Int) = some (panelB n) := by
  have h : n = 0 ∨ n = 1 ∨ n = 2 ∨ n = 3 ∨ n = 4 ∨ n = 5 ∨ n = 6 ∨ n = 7 ∨ 8 ≤ n := by omega
  rcases h with rfl | rfl | rfl | rfl | rfl | rfl | rfl | rfl | h
  all_goals first
    | rfl
    | (unfold nonce_panel.f
       rw [if_pos (by omega), if_neg (by omega)]
       have e : panelB n = false := by simp [panelB]; omega
       rw [e])
theorem nonce_check_l (l : List Int) (hl : l.length ≤ 140737488351232) (d : Nat) : ∀ (k j : Nat) (b : Bool), j ≤ l.length → l.length - j = d → d < k →
    nonce_Check.l0 k b l (l.length : Int) (j : Int) = some (if b && (l.drop j).all okB then 0 else 4) := by
  induction d with
  | zero =>
    intro k j b hj hd hk
    obtain ⟨k, rfl⟩ := pred_of k _ hk
    simp only [nonce_Check.l0]
    rw [if_neg (by omega), List.drop_of_length_le (by omega)]
    cases b <;> simp
  | succ d ih =>
    intro k j b hj hd hk
    obtain ⟨k, rfl⟩ := pred_of k _ hk
    have hlt : j < l.length := by omega
    have hi := fun b => ih k (j + 1) b (by omega) (by omega) (by omega)
    simp only [nonce_Check.l0]
    rw [if_pos (by omega), if_pos (by omega), if_pos (by omega), rd_at l j hlt, w_succ j (by omega), hi, hi, List.drop_eq_getElem_cons hlt, List.all_cons]
    cases b
    · simp
    · by_cases h : l[j] ≥ 0
      · have h' : decide (0 ≤ l[j]) = true := decide_eq_true h
        rw [if_pos rfl, if_pos h]; simp [okB, h]
      · rw [if_pos rfl, if_neg h]; have : ¬ 0 ≤ l[j] := h; simp [okB, this]
theorem nonce_check_eq (l : List Int) (hl : l.length ≤ 140737488351232) (k : Nat) (hk : l.length < k) :
    nonce_Check.f k l = some (if rightB l then 0 else 4) := by
  unfold nonce_Check.f
  rw [nonce_panel_eq]
  simp only [Option.bind_some]
  have := nonce_check_l l hl l.length k 0 (panelB l.length) (by omega) (by omega) hk
  simp only [List.drop_zero] at this
  exact this

def bothB (a b : List Int) : Bool := rightB a && rightB b && (a.length == b.length)
theorem nonce_both_eq (a b : List Int) (ha : a.length ≤ 140737488351232) (hb : b.length ≤ 140737488351232) (k : Nat) (hk : a.length + b.length < k) :
    nonce_both.f k a b = some (if bothB a b then 0 else 4) := by
  unfold nonce_both.f
  rw [nonce_check_eq a ha k (by omega), nonce_check_eq b hb k (by omega)]
  unfold bothB
  cases rightB a
  · simp
  · cases rightB b
    · simp
    · by_cases h : a.length = b.length
      · simp [h]
      · have h' : ¬ ((a.length : Int) = (b.length : Int)) := by omega
        simp [h, h']

theorem three_ok (k : Nat) (hk : 9 ≤ k) : sextonlaw20_three.f k = some true :=
  at_rounds (fun k => sextonlaw20_three.mono k) hk (by decide +kernel : sextonlaw20_three.f 9 = some true)

theorem ints_l (a b : List Int) (ha : a.length ≤ 140737488351232) (d : Nat) : ∀ (k j : Nat), j ≤ a.length → j ≤ b.length → a.length - j = d → d < k →
    sextonplain_Ints.l0 k a b (a.length : Int) (j : Int) = some (decide (a.drop j = b.drop j)) := by
  induction d with
  | zero =>
    intro k j hj hb hd hk
    obtain ⟨k, rfl⟩ := pred_of k _ hk
    simp only [sextonplain_Ints.l0]
    rw [if_neg (by omega), List.drop_of_length_le (l := a) (by omega)]
    by_cases h : a.length = b.length
    · rw [List.drop_of_length_le (l := b) (by omega)]; simp [h]
    · have e : ([] : List Int) ≠ b.drop j := by
        intro e
        have := congrArg List.length e
        simp at this; omega
      have e2 : ((a.length : Int) == (b.length : Int)) = false := by simp; omega
      rw [e2]; simp [e]
  | succ d ih =>
    intro k j hj hb hd hk
    obtain ⟨k, rfl⟩ := pred_of k _ hk
    have hlt : j < a.length := by omega
    simp only [sextonplain_Ints.l0]
    rw [if_pos (by omega)]
    by_cases h : j < b.length
    · rw [if_neg (by omega), if_pos (by omega), if_pos (by omega), if_pos (by omega), rd_at a j hlt, rd_at b j h, List.drop_eq_getElem_cons hlt, List.drop_eq_getElem_cons h]
      by_cases e : a[j] = b[j]
      · rw [if_pos e, w_succ j (by omega), ih k (j + 1) (by omega) (by omega) (by omega) (by omega)]
        simp [-List.getElem_cons_drop, e]
      · rw [if_neg e]; simp [-List.getElem_cons_drop, e]
    · rw [if_pos (by omega), List.drop_eq_getElem_cons hlt, List.drop_of_length_le (l := b) (by omega)]
      simp [-List.getElem_cons_drop]
theorem ints_eq (a b : List Int) (ha : a.length ≤ 140737488351232) (k : Nat) (hk : a.length < k) :
    sextonplain_Ints.f k a b = some (decide (a = b)) := by
  unfold sextonplain_Ints.f
  have := ints_l a b ha a.length k 0 (by omega) (by omega) (by omega) hk
  simp only [List.drop_zero] at this
  exact this

def grewFrom : Nat → List Int → List Int → List Int
  | i, x :: xs, y :: ys => if y > x then (i : Int) :: grewFrom (i + 1) xs ys else grewFrom (i + 1) xs ys
  | _, _, _ => []
def mergeB (a b : List Int) : List Int × List Int × Int :=
  if bothB a b then (List.zipWith mx a b, grewFrom 0 a b, 0) else ([], [], 4)
theorem both_len {a b : List Int} (h : bothB a b = true) : a.length = b.length ∧ a.length ≤ 7 := by
  simp only [bothB, Bool.and_eq_true, beq_iff_eq] at h
  refine ⟨h.2, ?_⟩
  have := h.1.1
  simp [rightB, panelB] at this
  omega
theorem nonce_merge_l (a b : List Int) (hab : a.length = b.length) (ha : a.length ≤ 7) (d : Nat) : ∀ (k j : Nat) (out g : List Int), j ≤ a.length → out.length = a.length → g.length ≤ j → a.length - j = d → d < k →
    nonce_Merge.l0 k a b out g (a.length : Int) (j : Int) = some (out.take j ++ List.zipWith mx (a.drop j) (b.drop j), g ++ grewFrom j (a.drop j) (b.drop j), 0) := by
  induction d with
  | zero =>
    intro k j out g hj ho hg hd hk
    obtain ⟨k, rfl⟩ := pred_of k _ hk
    simp only [nonce_Merge.l0]
    rw [if_neg (by omega), List.drop_of_length_le (l := a) (by omega), List.take_of_length_le (by omega)]
    simp [grewFrom]
  | succ d ih =>
    intro k j out g hj ho hg hd hk
    obtain ⟨k, rfl⟩ := pred_of k _ hk
    have hlt : j < a.length := by omega
    have hltb : j < b.length := by omega
    simp only [nonce_Merge.l0]
    rw [if_pos (by omega), if_pos (by omega), if_pos (by omega), if_pos (by omega), if_pos (by omega), rd_at a j hlt, rd_at b j hltb, w_succ j (by omega)]
    simp only [Option.bind_some]
    rw [List.drop_eq_getElem_cons hlt, List.drop_eq_getElem_cons hltb]
    have ht : ∀ v : Int, (out.set (j : Int).toNat v).take (j + 1) = out.take j ++ [v] := by
      intro v
      rw [Int.toNat_natCast, List.take_succ_eq_append_getElem (by simp; omega), List.take_set_of_le (Nat.le_refl j)]
      simp
    by_cases h : b[j] > a[j]
    · rw [if_pos h, if_pos (by omega), ih k (j + 1) _ _ (by omega) (by simp; omega) (by simp; omega) (by omega) (by omega), ht]
      simp [-List.getElem_cons_drop, grewFrom, h]
    · rw [if_neg h, ih k (j + 1) _ _ (by omega) (by simp; omega) (by omega) (by omega) (by omega), ht]
      simp [-List.getElem_cons_drop, grewFrom, h]
theorem nonce_merge_eq (a b : List Int) (ha : a.length ≤ 140737488351232) (hb : b.length ≤ 140737488351232) (k : Nat) (hk : a.length + b.length < k) :
    nonce_Merge.f k a b = some (mergeB a b) := by
  unfold nonce_Merge.f mergeB
  rw [nonce_both_eq a b ha hb k hk]
  cases h : bothB a b
  · simp
  · obtain ⟨h1, h2⟩ := both_len h
    simp only [Option.bind_some, if_true]
    rw [if_pos (by omega), if_pos (by omega)]
    have := nonce_merge_l a b h1 h2 a.length k 0 (List.replicate (a.length : Int).toNat 0) [] (by omega) (by simp) (by simp) (by omega) (by omega)
    simpa using this

def coversB (a b : List Int) : Bool × Int := if bothB a b then (decide ((grewFrom 0 a b).length = 0), 0) else (false, 4)
theorem nonce_covers_eq (a b : List Int) (ha : a.length ≤ 140737488351232) (hb : b.length ≤ 140737488351232) (k : Nat) (hk : a.length + b.length < k) :
    nonce_Covers.f k a b = some (coversB a b) := by
  unfold nonce_Covers.f coversB
  rw [nonce_merge_eq a b ha hb k hk]
  unfold mergeB
  cases h : bothB a b
  · simp
  · simp
    by_cases e : grewFrom 0 a b = [] <;> simp [e]

theorem mx_comm (x y : Int) : mx x y = mx y x := by unfold mx; split <;> split <;> omega
theorem zip_comm : ∀ (a b : List Int), List.zipWith mx a b = List.zipWith mx b a
  | [], b => by simp
  | a, [] => by simp
  | x :: xs, y :: ys => by simp [mx_comm x y, zip_comm xs ys]
theorem zip_again : ∀ (a b : List Int), List.zipWith mx (List.zipWith mx a b) b = List.zipWith mx a b
  | [], b => by simp
  | a, [] => by simp
  | x :: xs, y :: ys => by
    have : mx (mx x y) y = mx x y := by by_cases h : x < y <;> simp [mx, h]
    simp [this, zip_again xs ys]
theorem grew_right : ∀ (a b : List Int) (i : Nat), grewFrom i (List.zipWith mx a b) b = []
  | [], b, i => by simp [grewFrom]
  | a, [], i => by simp [grewFrom]
  | x :: xs, y :: ys, i => by
    have : ¬ y > mx x y := by unfold mx; split <;> omega
    simp only [List.zipWith_cons_cons, grewFrom]
    rw [if_neg this, grew_right xs ys]
theorem grew_left (a b : List Int) (i : Nat) : grewFrom i (List.zipWith mx a b) a = [] := by
  rw [zip_comm]; exact grew_right b a i
theorem all_ok : ∀ (a b : List Int), a.all okB = true → b.all okB = true → (List.zipWith mx a b).all okB = true
  | [], b, _, _ => by simp
  | a, [], _, _ => by simp
  | x :: xs, y :: ys, ha, hb => by
    simp only [List.all_cons, Bool.and_eq_true, List.zipWith_cons_cons] at ha hb ⊢
    refine ⟨?_, all_ok xs ys ha.2 hb.2⟩
    unfold mx; split
    · exact hb.1
    · exact ha.1
theorem grew_both : ∀ (c a b : List Int) (i : Nat), c.length = a.length → a.length = b.length →
    (grewFrom i c (List.zipWith mx a b) = [] ↔ grewFrom i c a = [] ∧ grewFrom i c b = [])
  | [], _, _, _, _, _ => by simp [grewFrom]
  | z :: zs, [], _, _, h, _ => by simp at h
  | z :: zs, x :: xs, [], _, _, h => by simp at h
  | z :: zs, x :: xs, y :: ys, i, h1, h2 => by
    have ih := grew_both zs xs ys (i + 1) (by simpa using h1) (by simpa using h2)
    simp only [List.zipWith_cons_cons, grewFrom]
    by_cases hx : x > z
    · have : mx x y > z := by unfold mx; split <;> omega
      rw [if_pos hx, if_pos this]; simp
    · by_cases hy : y > z
      · have : mx x y > z := by unfold mx; split <;> omega
        rw [if_pos hy, if_pos this]; simp
      · have : ¬ mx x y > z := by unfold mx; split <;> omega
        rw [if_neg hx, if_neg hy, if_neg this]; exact ih
theorem both_comm (a b : List Int) : bothB a b = bothB b a := by
  unfold bothB
  have : (a.length == b.length) = (b.length == a.length) := by rw [Bool.eq_iff_iff]; simp; omega
  rw [this, Bool.and_comm (rightB a)]
theorem both_parts {a b : List Int} (h : bothB a b = true) : rightB a = true ∧ rightB b = true ∧ a.length = b.length := by
  simp only [bothB, Bool.and_eq_true, beq_iff_eq] at h
  exact ⟨h.1.1, h.1.2, h.2⟩
theorem right_zip {a b : List Int} (h : bothB a b = true) : rightB (List.zipWith mx a b) = true ∧ (List.zipWith mx a b).length = a.length := by
  obtain ⟨h1, h2, h3⟩ := both_parts h
  have hl : (List.zipWith mx a b).length = a.length := by simp; omega
  refine ⟨?_, hl⟩
  unfold rightB at *
  simp only [Bool.and_eq_true] at h1 h2 ⊢
  rw [hl]
  exact ⟨h1.1, all_ok a b h1.2 h2.2⟩
theorem both_of {a b c : List Int} (hb : rightB b = true) (hc : rightB c = true) (h : b.length = c.length) : bothB a b = bothB a c := by
  unfold bothB; rw [hb, hc, h]
theorem NonceJoins : sextonlaw20_NonceJoins.Pure := by
  intro a b c _ ha _ _ hb _ _ hc _
  obtain ⟨k, hk⟩ : ∃ k, k = a.length + b.length + c.length + 40 := ⟨_, rfl⟩
  refine ⟨k + 2, ?_⟩
  unfold sextonlaw20_NonceJoins.f
  have ha' : a.length ≤ 140737488351232 := by omega
  have hb' : b.length ≤ 140737488351232 := by omega
  have hc' : c.length ≤ 140737488351232 := by omega
  rw [nonce_merge_eq a b ha' hb' _ (by omega), nonce_merge_eq b a hb' ha' _ (by omega)]
  simp only [Option.bind_some]
  unfold mergeB
  rw [both_comm b a]
  cases h : bothB a b
  · simp only [Bool.false_eq_true, if_false, if_true]
    rw [ints_eq _ _ (by simp) _ (by simp)]
    simp only [Option.bind_some, sextonlaw20_NonceJoins.j0]
    rw [three_ok _ (by omega)]
    simp
  · obtain ⟨r1, r2, l1⟩ := both_parts h
    obtain ⟨rm, lm⟩ := right_zip h
    have l7 := (both_len h).2
    obtain ⟨m, hm⟩ : ∃ m, m = List.zipWith mx a b := ⟨_, rfl⟩
    have hm2 : List.zipWith mx b a = m := by rw [hm, zip_comm]
    rw [hm2, ← hm]
    rw [← hm] at rm lm
    have bmb : bothB m b = true := by unfold bothB; rw [rm, r2]; simp; omega
    have bma : bothB m a = true := by unfold bothB; rw [rm, r1]; simp; omega
    have hz : mergeB m b = (m, [], 0) := by
      unfold mergeB; rw [bmb, hm, zip_again, grew_right]; rfl
    have ca : coversB m a = (true, 0) := by
      unfold coversB; rw [bma, hm, grew_left]; rfl
    have cb : coversB m b = (true, 0) := by
      unfold coversB; rw [bmb, hm, grew_right]; rfl
    simp only [if_true]
    rw [ints_eq m m (by omega) _ (by omega)]
    simp only [Option.bind_some, decide_true, Bool.not_true, sextonlaw20_NonceJoins.j0, Bool.false_eq_true, if_false, if_true]
    rw [nonce_merge_eq m b (by omega) hb' _ (by omega), nonce_covers_eq m a (by omega) ha' _ (by omega), nonce_covers_eq m b (by omega) hb' _ (by omega), hz, ca, cb]
    simp only [Option.bind_some, if_true, List.length_nil]
    rw [if_neg (by omega), ints_eq m m (by omega) _ (by omega)]
    simp only [Option.bind_some, decide_true, Bool.not_true, sextonlaw20_NonceJoins.j1, Bool.false_eq_true, if_false]
    rw [nonce_covers_eq c a hc' ha' _ (by omega), nonce_covers_eq c b hc' hb' _ (by omega), nonce_covers_eq c m hc' (by omega) _ (by omega), three_ok _ (by omega)]
    simp only [Option.bind_some]
    unfold coversB
    rw [both_of (a := c) r2 r1 l1.symm, both_of (a := c) rm r1 lm]
    cases hca : bothB c a
    · simp
    · have lca := (both_parts hca).2.2
      have key := grew_both c a b 0 lca l1
      rw [← hm] at key
      simp only [if_true, List.length_eq_zero_iff]
      by_cases e1 : grewFrom 0 c a = []
      · by_cases e2 : grewFrom 0 c b = []
        · have e3 := key.2 ⟨e1, e2⟩
          simp [e1, e2, e3]
        · have e3 : ¬ grewFrom 0 c m = [] := fun e => e2 (key.1 e).2
          simp [e1, e2, e3]
      · have e3 : ¬ grewFrom 0 c m = [] := fun e => e1 (key.1 e).1
        simp [e1, e3]

end Go.Proofs.Ytipeleefbaalpaa.Pure
