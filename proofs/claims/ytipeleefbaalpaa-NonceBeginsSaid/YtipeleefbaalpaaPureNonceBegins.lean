/- Which vectors there are, a new one, and that with which a life begins: for every vector's length, node and nonce the program answers as the reference does; no condition. -/
import Derived.Test.YtipeleefbaalpaaPNonceBeginsx4
import Derived.Test.YtipeleefbaalpaaWSized
/-- The printed row names this word without its seat's prefix. -/
theorem Go.Proofs.Ytipeleefbaalpaa.PrintWords.sized_ints : type_of% @Go.Proofs.YtipeleefbaalpaaW.PrintWords.sized_ints := @Go.Proofs.YtipeleefbaalpaaW.PrintWords.sized_ints
namespace Go.Proofs.Ytipeleefbaalpaa.Pure
open Go.RowKit Go.Proofs.Ytipeleefbaalpaa.PNonceBegins Go.Proofs.YtipeleefbaalpaaW.PrintWords Go.Proofs.YtipeleefbaalpaaW.PrintLast Go.Proofs.YtipeleefbaalpaaW.PrintMore

theorem rd_at (l : List Int) (j : Nat) (h : j < l.length) : rd l (j : Int) = l[j] := by
  simp [rd, List.getD, h]
theorem w_succ (j : Nat) (h : j < 140737488351233) : wrap64 ((j : Int) + 1) = ((j + 1 : Nat) : Int) := by
  unfold wrap64; omega
theorem pred_of (k n : Nat) (h : n < k) : ∃ m, k = m + 1 := ⟨k - 1, by omega⟩

def okB (x : Int) : Bool := decide (0 ≤ x) && decide (x ≤ 1099511627776)
def panelB (n : Nat) : Bool := n == 1 || n == 3 || n == 5 || n == 7
def rightB (l : List Int) : Bool := panelB l.length && l.all okB
theorem nonce_panel_eq (n : Nat) : nonce_panel.f (n : Int) = some (panelB n) := by
  have h : n = 0 ∨ n = 1 ∨ n = 2 ∨ n = 3 ∨ n = 4 ∨ n = 5 ∨ n = 6 ∨ n = 7 ∨ 8 ≤ n := by omega
  rcases h with rfl | rfl | rfl | rfl | rfl | rfl | rfl | rfl | h
  all_goals first
    | rfl
    | (unfold nonce_panel.f
       rw [if_pos (by omega), if_neg (by omega)]
       have e : panelB n = false := by simp [panelB]; omega
       rw [e])
theorem nonce_check_l (l : List Int) (hl : l.length ≤ 140737488351232) (d : Nat) : ∀ (k j : Nat) (b : Bool), j ≤ l.length → l.length - j = d → d < k →
    nonce_Check.l0 k b l (l.length : Int) (j : Int) = some (if b && (l.drop j).all okB then 0 else 4) := by
  induction d with
  | zero =>
    intro k j b hj hd hk
    obtain ⟨k, rfl⟩ := pred_of k _ hk
    simp only [nonce_Check.l0]
    rw [if_neg (by omega), List.drop_of_length_le (by omega)]
    cases b <;> simp
  | succ d ih =>
    intro k j b hj hd hk
    obtain ⟨k, rfl⟩ := pred_of k _ hk
    have hlt : j < l.length := by omega
    have hi := fun b => ih k (j + 1) b (by omega) (by omega) (by omega)
    simp only [nonce_Check.l0]
    rw [if_pos (by omega), if_pos (by omega), if_pos (by omega), rd_at l j hlt, w_succ j (by omega), hi, hi, List.drop_eq_getElem_cons hlt, List.all_cons]
    cases b
    · simp
    · by_cases h : l[j] ≥ 0
      · have h' : decide (0 ≤ l[j]) = true := decide_eq_true h
        rw [if_pos rfl, if_pos h]; simp [okB, h]
      · rw [if_pos rfl, if_neg h]; have : ¬ 0 ≤ l[j] := h; simp [okB, this]
theorem nonce_check_eq (l : List Int) (hl : l.length ≤ 140737488351232) (k : Nat) (hk : l.length < k) :
    nonce_Check.f k l = some (if rightB l then 0 else 4) := by
  unfold nonce_Check.f
  rw [nonce_panel_eq]
  simp only [Option.bind_some]
  have := nonce_check_l l hl l.length k 0 (panelB l.length) (by omega) (by omega) hk
  simp only [List.drop_zero] at this
  exact this

theorem ref20_panel_eq (n : Nat) : sextonref20_Panel.f (n : Int) = some (panelB n) := by
  unfold sextonref20_Panel.f panelB
  by_cases h1 : n = 1
  · subst h1; rfl
  · by_cases h3 : n = 3
    · subst h3; rfl
    · by_cases h5 : n = 5
      · subst h5; rfl
      · rw [if_neg (by omega), if_neg (by omega), if_neg (by omega)]
        by_cases h7 : n = 7
        · subst h7; rfl
        · have e : ((n : Int) == 7) = false := by simp; omega
          rw [e]; simp [h1, h3, h5, h7]
theorem ref20_right_l (l : List Int) (hl : l.length ≤ 140737488351232) (d : Nat) : ∀ (k j : Nat), j ≤ l.length → l.length - j = d → d < k →
    sextonref20_Right.l0 k l l (l.length : Int) (j : Int) = some (panelB l.length && (l.drop j).all okB) := by
  induction d with
  | zero =>
    intro k j hj hd hk
    obtain ⟨k, rfl⟩ := pred_of k _ hk
    simp only [sextonref20_Right.l0]
    rw [if_neg (by omega), List.drop_of_length_le (by omega), ref20_panel_eq]
    simp
  | succ d ih =>
    intro k j hj hd hk
    obtain ⟨k, rfl⟩ := pred_of k _ hk
    have hlt : j < l.length := by omega
    have hi := ih k (j + 1) (by omega) (by omega) (by omega)
    simp only [sextonref20_Right.l0]
    rw [if_pos (by omega), if_pos (by omega), if_pos (by omega), rd_at l j hlt, w_succ j (by omega), hi, List.drop_eq_getElem_cons hlt, List.all_cons]
    by_cases h : l[j] < 0
    · have : ¬ 0 ≤ l[j] := by omega
      rw [if_pos h]; simp [okB, this]
    · rw [if_neg h]
      by_cases h2 : l[j] > 1099511627776
      · have : ¬ l[j] ≤ 1099511627776 := by omega
        rw [if_pos h2]; simp [okB, this]
      · have a1 : 0 ≤ l[j] := by omega
        have a2 : l[j] ≤ 1099511627776 := by omega
        rw [if_neg h2]; simp [okB, a1, a2]
theorem ref20_right_eq (l : List Int) (hl : l.length ≤ 140737488351232) (k : Nat) (hk : l.length < k) :
    sextonref20_Right.f k l = some (rightB l) := by
  unfold sextonref20_Right.f
  have := ref20_right_l l hl l.length k 0 (by omega) (by omega) hk
  simp only [List.drop_zero] at this
  exact this

theorem three_ok (k : Nat) (hk : 9 ≤ k) : sextonlaw20_three.f k = some true :=
  at_rounds (fun k => sextonlaw20_three.mono k) hk (by decide +kernel : sextonlaw20_three.f 9 = some true)

theorem ints_l (a b : List Int) (ha : a.length ≤ 140737488351232) (d : Nat) : ∀ (k j : Nat), j ≤ a.length → j ≤ b.length → a.length - j = d → d < k →
    sextonplain_Ints.l0 k a b (a.length : Int) (j : Int) = some (decide (a.drop j = b.drop j)) := by
  induction d with
  | zero =>
    intro k j hj hb hd hk
    obtain ⟨k, rfl⟩ := pred_of k _ hk
    simp only [sextonplain_Ints.l0]
    rw [if_neg (by omega), List.drop_of_length_le (l := a) (by omega)]
    by_cases h : a.length = b.length
    · rw [List.drop_of_length_le (l := b) (by omega)]; simp [h]
    · have e : ([] : List Int) ≠ b.drop j := by
        intro e
        have := congrArg List.length e
        simp at this; omega
      have e2 : ((a.length : Int) == (b.length : Int)) = false := by simp; omega
      rw [e2]; simp [e]
  | succ d ih =>
    intro k j hj hb hd hk
    obtain ⟨k, rfl⟩ := pred_of k _ hk
    have hlt : j < a.length := by omega
    simp only [sextonplain_Ints.l0]
    rw [if_pos (by omega)]
    by_cases h : j < b.length
    · rw [if_neg (by omega), if_pos (by omega), if_pos (by omega), if_pos (by omega), rd_at a j hlt, rd_at b j h, List.drop_eq_getElem_cons hlt, List.drop_eq_getElem_cons h]
      by_cases e : a[j] = b[j]
      · rw [if_pos e, w_succ j (by omega), ih k (j + 1) (by omega) (by omega) (by omega) (by omega)]
        simp [-List.getElem_cons_drop, e]
      · rw [if_neg e]; simp [-List.getElem_cons_drop, e]
    · rw [if_pos (by omega), List.drop_eq_getElem_cons hlt, List.drop_of_length_le (l := b) (by omega)]
      simp [-List.getElem_cons_drop]
theorem ints_eq (a b : List Int) (ha : a.length ≤ 140737488351232) (k : Nat) (hk : a.length < k) :
    sextonplain_Ints.f k a b = some (decide (a = b)) := by
  unfold sextonplain_Ints.f
  have := ints_l a b ha a.length k 0 (by omega) (by omega) (by omega) hk
  simp only [List.drop_zero] at this
  exact this

def ints0 (n : Nat) : List Int := List.replicate n 0
theorem nonce_new_eq (n : Nat) : nonce_New.f (n : Int) = some (if panelB n then (ints0 n, 0) else ([], 1)) := by
  unfold nonce_New.f
  rw [nonce_panel_eq]
  simp only [Option.bind_some]
  cases h : panelB n
  · simp
  · have : n ≤ 7 := by simp [panelB] at h; omega
    simp only [if_true]
    rw [if_pos (by omega), if_pos (by omega)]
    rfl
def beginB (n : Nat) (node v : Int) : List Int × Int :=
  if panelB n && decide (0 ≤ node ∧ node < n ∧ 1 ≤ v ∧ v ≤ 1099511627776) then ((ints0 n).set node.toNat v, 0) else ([], 1)
theorem nonce_begin_eq (n : Nat) (node v : Int) : nonce_Begin.f (n : Int) node v = some (beginB n node v) := by
  unfold nonce_Begin.f beginB
  rw [nonce_new_eq]
  simp only [Option.bind_some]
  cases h : panelB n
  · simp
  · simp only [if_true]
    by_cases h0 : node < 0
    · have e : ¬ (0 ≤ node ∧ node < n ∧ 1 ≤ v ∧ v ≤ 1099511627776) := by omega
      rw [if_pos h0]; simp [e]
    · by_cases h1 : node ≥ (n : Int)
      · have e : ¬ (0 ≤ node ∧ node < n ∧ 1 ≤ v ∧ v ≤ 1099511627776) := by omega
        rw [if_neg h0, if_pos h1]; simp [e]
      · by_cases h2 : v < 1
        · have e : ¬ (0 ≤ node ∧ node < n ∧ 1 ≤ v ∧ v ≤ 1099511627776) := by omega
          rw [if_neg h0, if_neg h1, if_pos h2]; simp [e]
        · by_cases h3 : v > 1099511627776
          · have e : ¬ (0 ≤ node ∧ node < n ∧ 1 ≤ v ∧ v ≤ 1099511627776) := by omega
            rw [if_neg h0, if_neg h1, if_neg h2, if_pos h3]; simp [e]
          · have e : 0 ≤ node ∧ node < n ∧ 1 ≤ v ∧ v ≤ 1099511627776 := by omega
            rw [if_neg h0, if_neg h1, if_neg h2, if_neg h3, if_pos (by omega), if_pos (by simp [ints0]; omega)]; simp [e]
theorem ref_begin_l (n : Nat) (i : Nat) (v : Int) (hn : n ≤ 7) (d : Nat) : ∀ (k j : Nat), j ≤ n → n - j = d → d < k →
    sextonref20_Begin.l0 k (n : Int) (i : Int) v (((ints0 n).set i v).take j) (j : Int) = some ((ints0 n).set i v, 0) := by
  induction d with
  | zero =>
    intro k j hj hd hk
    obtain ⟨k, rfl⟩ := pred_of k _ hk
    simp only [sextonref20_Begin.l0]
    rw [if_neg (by omega), List.take_of_length_le (by simp [ints0]; omega)]
  | succ d ih =>
    intro k j hj hd hk
    obtain ⟨k, rfl⟩ := pred_of k _ hk
    have ih' := ih k (j + 1) (by omega) (by omega) (by omega)
    have hlt : j < ((ints0 n).set i v).length := by simp [ints0]; omega
    have hl : (((ints0 n).set i v).take j).length < 17592186044416 := by simp [ints0]; omega
    simp only [sextonref20_Begin.l0]
    rw [if_pos (by omega), w_succ j (by omega), if_pos hl]
    rw [List.take_succ_eq_append_getElem hlt] at ih'
    by_cases h : i = j
    · subst h
      rw [if_pos rfl]
      simpa using ih'
    · rw [if_neg (by omega), if_pos hl]
      rw [List.getElem_set_ne h] at ih'
      simpa [ints0] using ih'
theorem ref_begin_eq (n : Nat) (node v : Int) (k : Nat) (hk : 12 ≤ k) : sextonref20_Begin.f k (n : Int) node v = some (beginB n node v) := by
  obtain ⟨m, rfl⟩ := pred_of k 11 (by omega)
  unfold sextonref20_Begin.f beginB
  rw [ref20_panel_eq]
  simp only [Option.bind_some, sextonref20_Begin.j0]
  cases h : panelB n
  · simp
  · simp only [if_true]
    have h7 : n ≤ 7 := by simp [panelB] at h; omega
    by_cases h0 : node < 0
    · have e : ¬ (0 ≤ node ∧ node < n ∧ 1 ≤ v ∧ v ≤ 1099511627776) := by omega
      rw [if_pos h0]; simp [e]
    · by_cases h1 : node ≥ (n : Int)
      · have e : ¬ (0 ≤ node ∧ node < n ∧ 1 ≤ v ∧ v ≤ 1099511627776) := by omega
        rw [if_neg h0, if_pos h1]; simp [e]
      · by_cases h2 : v < 1
        · have e : ¬ (0 ≤ node ∧ node < n ∧ 1 ≤ v ∧ v ≤ 1099511627776) := by omega
          rw [if_neg h0, if_neg h1, if_pos h2]; simp [e]
        · by_cases h3 : v > 1099511627776
          · have e : ¬ (0 ≤ node ∧ node < n ∧ 1 ≤ v ∧ v ≤ 1099511627776) := by omega
            rw [if_neg h0, if_neg h1, if_neg h2, decide_eq_true h3]; simp [e]
          · have e : 0 ≤ node ∧ node < n ∧ 1 ≤ v ∧ v ≤ 1099511627776 := by omega
            obtain ⟨i, rfl⟩ : ∃ i : Nat, node = i := ⟨node.toNat, by omega⟩
            have := ref_begin_l n i v h7 n m 0 (by omega) (by omega) (by omega)
            rw [List.take_zero] at this
            have this : sextonref20_Begin.l0 m (n : Int) (i : Int) v [] 0 = some ((ints0 n).set i v, 0) := this
            rw [if_neg h0, if_neg h1, if_neg h2, decide_eq_false h3, this]; simp [e]

theorem zeros_l (n : Nat) (l a : List Int) (e : Int) (hn : n ≤ 7) (d : Nat) : ∀ (k j : Nat), j ≤ n → n - j = d → d < k →
    sextonlaw20_NonceBegins.l0 k l a e (ints0 n) (n : Int) (j : Int) = sextonlaw20_NonceBegins.l0 (k - d) l a e (ints0 n) (n : Int) (n : Int) := by
  induction d with
  | zero =>
    intro k j hj hd hk
    have : j = n := by omega
    rw [this]; rfl
  | succ d ih =>
    intro k j hj hd hk
    obtain ⟨k, rfl⟩ := pred_of k _ hk
    have ih' := ih k (j + 1) (by omega) (by omega) (by omega)
    have hlt : j < (ints0 n).length := by simp [ints0]; omega
    have hz : rd (ints0 n) (j : Int) = 0 := by rw [rd_at _ j hlt]; simp [ints0]
    have hk2 : k + 1 - (d + 1) = k - d := by omega
    rw [hk2, ← ih']
    conv => lhs; unfold sextonlaw20_NonceBegins.l0
    rw [if_pos (by omega), if_pos (by omega), if_pos (by omega), if_pos hz, w_succ j (by omega)]
theorem begin_small (n : Nat) (node v : Int) : (beginB n node v).1.length ≤ 7 := by
  unfold beginB
  cases h : panelB n
  · simp
  · have h7 : n ≤ 7 := by simp [panelB] at h; omega
    simp only [Bool.true_and]
    split
    · simp [ints0]; omega
    · simp
theorem NonceBegins : sextonlaw20_NonceBegins.Pure := by
  intro l node v _ hl _ _ _
  obtain ⟨k, hk⟩ : ∃ k, k = l.length + 40 := ⟨_, rfl⟩
  refine ⟨k + 2, ?_⟩
  unfold sextonlaw20_NonceBegins.f
  have hs := begin_small l.length node v
  rw [nonce_new_eq, nonce_begin_eq, ref_begin_eq _ _ _ _ (by omega), nonce_check_eq l (by omega) _ (by omega), ref20_right_eq l (by omega) _ (by omega)]
  simp only [Option.bind_some]
  rw [ints_eq _ _ (by omega) _ (by omega)]
  simp only [Option.bind_some, sextonlaw20_NonceBegins.j0]
  rw [ref20_panel_eq]
  cases hp : panelB l.length
  · cases hr : rightB l
    · simp [three_ok (k + 1) (by omega)]
    · rw [rightB, hp] at hr; simp at hr
  · have h7 : l.length ≤ 7 := by simp [panelB] at hp; omega
    have hz := zeros_l l.length l (ints0 l.length) 0 h7 l.length (k + 1) 0 (by omega) (by omega) (by omega)
    obtain ⟨m, hm⟩ : ∃ m, k + 1 - l.length = m + 1 := ⟨k - l.length, by omega⟩
    rw [hm] at hz
    have hz : sextonlaw20_NonceBegins.l0 (k + 1) l (ints0 l.length) 0 (ints0 l.length) (l.length : Int) 0 = some true := by
      refine Eq.trans hz ?_
      simp only [sextonlaw20_NonceBegins.l0]
      rw [if_neg (by omega), three_ok _ (by omega)]
      simp [ints0]
    have hlen : ((ints0 l.length).length : Int) = l.length := by simp [ints0]
    cases hr : rightB l
    · simp [hlen, hz]
    · simp [hlen, hz]

end Go.Proofs.Ytipeleefbaalpaa.Pure
