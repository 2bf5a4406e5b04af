/- Bids as plain triples, a tally as a list of them rising by their nodes, and what a map of the machine's that reads as such a list holds: plain lemmas, no program. -/
import Derived.Maps.OwnSet
import Derived.Maps.RangeWalk
import Derived.Maps.Ext
namespace Go.Proofs.Ytipeleefbaalpaa.Ty
open Go Go.Maps
/-- A bid: its node, its normal view, its last item. -/
abbrev Bid := Int × Int × Int
def bidV (b : Bid) : Value := .agg #[.int .i64 b.1, .int .i64 b.2.1, .int .i64 b.2.2]
def bidD (b : Bid) : DataW Unit := .agg [.lit (.int .i64 b.1), .lit (.int .i64 b.2.1), .lit (.int .i64 b.2.2)]
/-- How a bid in a map reads. -/
def bidR : Value → Option (DataW Unit × List MemPlace)
  | .agg cs => match cs.toList with
    | [.int .i64 a, .int .i64 b, .int .i64 c] => some (bidD (a, b, c), [])
    | _ => none
  | _ => none
theorem bidR_mk (b : Bid) : bidR (bidV b) = some (bidD b, []) := rfl
theorem bidR_inv {v : Value} {z : DataW Unit × List MemPlace} (h : bidR v = some z) : ∃ b : Bid, v = bidV b ∧ z = (bidD b, []) := by
  unfold bidR at h
  split at h
  · rename_i cs
    split at h
    · rename_i a b c e
      refine ⟨(a, b, c), ?_, (Option.some.inj h).symm⟩
      unfold bidV
      congr 1
      exact Array.ext' (by simpa using e)
    · cases h
  · cases h
theorem bidD_inj {a b : Bid} (h : bidD a = bidD b) : a = b := by
  simp only [bidD, DataW.agg.injEq, List.cons.injEq, DataW.lit.injEq, Lit.int.injEq, true_and, and_true] at h
  obtain ⟨h1, h2, h3⟩ := h
  exact Prod.ext h1 (Prod.ext h2 h3)
def keyL (i : Int) : Lit := .int .i64 i
def mapD (l : List Bid) : DataW Unit := .map (l.map fun b => (keyL b.1, bidD b))
def Rising (l : List Bid) : Prop := l.Pairwise fun a b => a.1 < b.1
def insB (b : Bid) : List Bid → List Bid
  | [] => [b]
  | y :: r => if b.1 < y.1 then b :: y :: r else y :: insB b r
def forgetL (l : List Bid) (i : Int) : List Bid := l.filter fun x => !decide (x.1 = i)
def addL (l : List Bid) (b : Bid) : List Bid := insB b (forgetL l b.1)
def hasL (l : List Bid) (i : Int) : Bool := l.any fun x => decide (x.1 = i)
theorem same_key (a b : Int) : (keyL a).sameKey (keyL b) = decide (a = b) := by simp [keyL, Lit.sameKey]
theorem keyL_inj {a b : Int} (h : keyL a = keyL b) : a = b := by simpa [keyL] using h
theorem map_del (l : List Bid) (i : Int) : (mapD l).del (keyL i) = mapD (forgetL l i) := by
  unfold mapD DataW.del forgetL
  simp only [DataW.map.injEq]
  rw [List.filter_map]
  congr 1
  apply List.filter_congr
  intro x _
  simp [same_key]
theorem map_ins (b : Bid) : ∀ l : List Bid, DataW.insert (keyL b.1, bidD b) (l.map fun b => (keyL b.1, bidD b)) = (insB b l).map fun b => (keyL b.1, bidD b)
  | [] => rfl
  | y :: r => by
    simp only [List.map_cons, DataW.insert, insB, map_ins b r]
    have e : (keyL b.1).before (keyL y.1) = decide (b.1 < y.1) := rfl
    rw [e]
    by_cases h : b.1 < y.1 <;> simp [h]
theorem map_put (l : List Bid) (b : Bid) : (mapD l).put (keyL b.1) (bidD b) = mapD (addL l b) := by
  have h := map_del l b.1
  unfold mapD DataW.del at h
  simp only [DataW.map.injEq] at h
  unfold mapD DataW.put addL
  simp only [DataW.map.injEq]
  rw [h, map_ins]
theorem map_has (l : List Bid) (i : Int) : Maps.has (mapD l) (keyL i) = hasL l i := by
  unfold mapD hasL
  rw [Maps.has_eq, List.any_map]
  congr 1
  funext x
  simp [same_key]
theorem map_size (l : List Bid) : Maps.size (mapD l) = l.length := by simp [mapD, Maps.size_eq]
theorem map_at (l : List Bid) (h : Rising l) (b : Bid) (hb : b ∈ l) (z : DataW Unit) : (mapD l).atKey (keyL b.1) z = bidD b := by
  unfold mapD DataW.atKey
  simp only
  induction l with
  | nil => cases hb
  | cons y r ih =>
    simp only [List.map_cons, List.find?_cons, same_key]
    rcases List.mem_cons.1 hb with rfl | hb
    · simp
    · have hlt := (List.pairwise_cons.1 h).1 b hb
      have : decide (y.1 = b.1) = false := by simp; omega
      rw [this]
      exact ih (List.pairwise_cons.1 h).2 hb
def atL (l : List Bid) (i : Int) : Bid := ((l.find? fun x => decide (x.1 = i))).getD (0, 0, 0)
theorem map_atL (l : List Bid) (i : Int) : (mapD l).atKey (keyL i) (bidD (0, 0, 0)) = bidD (atL l i) := by
  unfold mapD DataW.atKey atL
  simp only
  induction l with
  | nil => rfl
  | cons y r ih =>
    simp only [List.map_cons, List.find?_cons, same_key]
    by_cases h : y.1 = i
    · simp [h]
    · simp only [h, decide_false]
      exact ih
theorem forget_rising {l : List Bid} (h : Rising l) (i : Int) : Rising (forgetL l i) := List.Pairwise.filter _ h
theorem ins_mem (b : Bid) : ∀ (l : List Bid) (x : Bid), x ∈ insB b l ↔ x = b ∨ x ∈ l
  | [], x => by simp [insB]
  | y :: r, x => by
    unfold insB
    split
    · simp
    · simp only [List.mem_cons, ins_mem b r x]
      constructor
      · rintro (h | h | h)
        · exact .inr (.inl h)
        · exact .inl h
        · exact .inr (.inr h)
      · rintro (h | h | h)
        · exact .inr (.inl h)
        · exact .inl h
        · exact .inr (.inr h)
theorem ins_rising (b : Bid) : ∀ (l : List Bid), Rising l → (∀ x ∈ l, x.1 ≠ b.1) → Rising (insB b l)
  | [], _, _ => by simp [insB, Rising]
  | y :: r, h, hn => by
    unfold insB
    obtain ⟨h1, h2⟩ := List.pairwise_cons.1 h
    split
    · rename_i hlt
      refine List.pairwise_cons.2 ⟨fun x hx => ?_, h⟩
      rcases List.mem_cons.1 hx with rfl | hx
      · exact hlt
      · have := h1 x hx; omega
    · rename_i hlt
      have hy := hn y (List.mem_cons_self ..)
      refine List.pairwise_cons.2 ⟨fun x hx => ?_, ins_rising b r h2 (fun x hx => hn x (List.mem_cons_of_mem _ hx))⟩
      rcases (ins_mem b r x).1 hx with rfl | hx
      · omega
      · exact h1 x hx
theorem forget_mem {l : List Bid} {i : Int} {x : Bid} : x ∈ forgetL l i ↔ x ∈ l ∧ x.1 ≠ i := by
  simp [forgetL]
theorem add_rising {l : List Bid} (h : Rising l) (b : Bid) : Rising (addL l b) :=
  ins_rising b _ (forget_rising h _) fun _ hx => (forget_mem.1 hx).2
theorem add_mem {l : List Bid} {b x : Bid} : x ∈ addL l b ↔ x = b ∨ (x ∈ l ∧ x.1 ≠ b.1) := by
  unfold addL; rw [ins_mem, forget_mem]
/-- The reference's way to put a bid in. -/
theorem add_ref {l : List Bid} (h : Rising l) (b : Bid) : (l.filter fun x => decide (x.1 < b.1)) ++ b :: (l.filter fun x => decide (x.1 > b.1)) = addL l b := by
  unfold addL
  induction l with
  | nil => rfl
  | cons y r ih =>
    obtain ⟨h1, h2⟩ := List.pairwise_cons.1 h
    have ih := ih h2
    by_cases hlt : y.1 < b.1
    · have e1 : ¬ y.1 > b.1 := by omega
      have e2 : ¬ y.1 = b.1 := by omega
      simp only [forgetL, List.filter_cons, hlt, e1, e2, decide_true, decide_false, if_true, Bool.false_eq_true, if_false, Bool.not_false, List.cons_append, insB] at ih ⊢
      rw [ih]
    · have none_lt : (r.filter fun x => decide (x.1 < b.1)) = [] := by
        rw [List.filter_eq_nil_iff]
        intro x hx
        have := h1 x hx
        simp; omega
      have all_gt : ∀ x ∈ r, x.1 > b.1 ∧ x.1 ≠ b.1 := fun x hx => by have := h1 x hx; omega
      have f1 : (r.filter fun x => decide (x.1 > b.1)) = r := by
        rw [List.filter_eq_self]; intro x hx; simp [(all_gt x hx).1]
      have f2 : forgetL r b.1 = r := by
        unfold forgetL
        rw [List.filter_eq_self]; intro x hx; simp [(all_gt x hx).2]
      have hins : ∀ l : List Bid, (∀ x ∈ l, x.1 > b.1) → insB b l = b :: l := by
        intro l hl
        cases l with
        | nil => rfl
        | cons z s => unfold insB; rw [if_pos (hl z (List.mem_cons_self ..))]
      simp only [List.filter_cons, hlt, decide_false, Bool.false_eq_true, if_false, none_lt, List.nil_append, f1]
      by_cases e : y.1 = b.1
      · have e1 : ¬ y.1 > b.1 := by omega
        have : forgetL (y :: r) b.1 = r := by rw [← f2]; simp [forgetL, e]
        rw [this, hins r (fun x hx => (all_gt x hx).1)]
        simp [e1]
      · have e1 : y.1 > b.1 := by omega
        have : forgetL (y :: r) b.1 = y :: r := by
          have := f2
          simp only [forgetL] at this
          simp [forgetL, e, this]
        rw [this, hins (y :: r) (fun x hx => by rcases List.mem_cons.1 hx with rfl | hx; exact e1; exact (all_gt x hx).1)]
        simp [e1]
theorem add_len {l : List Bid} (b : Bid) : (addL l b).length = (forgetL l b.1).length + 1 := by
  unfold addL
  generalize forgetL l b.1 = m
  induction m with
  | nil => rfl
  | cons y r ih => unfold insB; split <;> simp_all
/-- A map's bound may be its own size. -/
theorem tight {w : World} {P : Program} {k : TypeId} {R : Value → Option (DataW Unit × List MemPlace)} {b n : Nat} {D : DataW Unit} (h : w.ownsMap P k R b n D) : w.ownsMap P k R b (Maps.size D) D := by
  obtain ⟨es, clock, hb, F, _, hD⟩ := h
  refine ⟨es, clock, hb, F, ?_, hD⟩
  rw [hD, Maps.size_eq, length_sorted]
  simp
end Go.Proofs.Ytipeleefbaalpaa.Ty
