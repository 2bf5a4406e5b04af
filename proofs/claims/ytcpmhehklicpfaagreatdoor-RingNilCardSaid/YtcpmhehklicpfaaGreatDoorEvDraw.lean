/- A region that draws its order: whatever order comes, it ends as the text's does. -/
import Derived.Test.YtcpmhehklicpfaaGreatDoorEvMono
namespace Go.Proofs.YtcpmhehklicpfaaGreatDoor.Ev
open Go
set_option linter.unusedVariables false
section
variable {P : Program}
def frAt (tr : List Ent) (f' : Fr) (m : Nat) : Fr := match tr[m]? with | some e => e.f | none => f'
theorem EntOk.facts {ops : Array Oper} {o : Oper} {f f1 : Fr} {s s1 : St} {e : Ent} (h : EntOk P ops o f s e f1 s1) : e.f = f ∧ e.s = s ∧ e.o = o := by cases h <;> exact ⟨rfl, rfl, rfl⟩
theorem EntOk.frame {ops : Array Oper} {o : Oper} {f f1 : Fr} {s s1 : St} {e : Ent} (h : EntOk P ops o f s e f1 s1) (hnd : isDefer e.o.op = false) : f.put e.o.dst e.v = some f1 := by
  cases h with
  | off hw hp => exact hp
  | q hw hk hv hp => exact hp
  | a hw hk hv hp => exact hp
  | e hw hk hn hv hp => exact hp
  | d c hd hw hk hv hp => simp only [hd] at hnd; cases hnd
/-- What kinds of entries there are, when nothing is deferred. -/
theorem EntOk.kinds {ops : Array Oper} {o : Oper} {f f1 : Fr} {s s1 : St} {e : Ent} (h : EntOk P ops o f s e f1 s1) (hnd : isDefer e.o.op = false) :
    (e.run = false ∧ wantedA ops f o = some false ∧ s1 = s ∧ e.v = undefA) ∨
    (e.run = true ∧ wantedA ops f o = some true ∧ kindOf P o.op = .q ∧ qA P f.ev s.obj o.op = some e.v ∧ s1 = s) ∨
    (e.run = true ∧ wantedA ops f o = some true ∧ kindOf P o.op = .a ∧ ∃ ob mk, aA P f.ev o.op = some (ob, mk) ∧ e.v = mk s.nx ∧ s1 = s.new ob) ∨
    (e.run = true ∧ wantedA ops f o = some true ∧ kindOf P o.op = .e ∧ ESem P o f s e.v s1 ∧ s.nx ≤ s1.nx) := by
  cases h with
  | off hw hp => exact .inl ⟨rfl, hw, rfl, rfl⟩
  | q hw hk hv hp => exact .inr (.inl ⟨rfl, hw, hk, hv, rfl⟩)
  | a hw hk hv hp => exact .inr (.inr (.inl ⟨rfl, hw, hk, _, _, hv, rfl, rfl⟩))
  | e hw hk hn hv hp => exact .inr (.inr (.inr ⟨rfl, hw, hk, hv, hn⟩))
  | d c hd hw hk hv hp => simp only [hd] at hnd; cases hnd
theorem trace_at {ops : Array Oper} {l : List Oper} {f f' : Fr} {s s' : St} {tr : List Ent} (h : TraceOk P ops l f s tr f' s') :
    tr.length = l.length ∧ frAt tr f' 0 = f ∧ stAt tr s' 0 = s ∧ ∀ i o, l[i]? = some o → ∃ e, tr[i]? = some e ∧ EntOk P ops o (frAt tr f' i) (stAt tr s' i) e (frAt tr f' (i + 1)) (stAt tr s' (i + 1)) := by
  induction h with
  | nil f s => exact ⟨rfl, rfl, rfl, fun i o h => by simp at h⟩
  | @cons o l f f1 f' s s1 s' e tr h ht ih =>
    obtain ⟨h1, h2, h3, h4⟩ := ih
    obtain ⟨e1, e2, e3⟩ := h.facts
    have hf : ∀ i, frAt (e :: tr) f' (i + 1) = frAt tr f' i := fun i => by simp [frAt]
    have hs : ∀ i, stAt (e :: tr) s' (i + 1) = stAt tr s' i := fun i => by simp [stAt]
    refine ⟨by simp [h1], by simp [frAt, e1], by simp [stAt, e2], fun i o' ho => ?_⟩
    cases i with
    | zero =>
      simp at ho; subst ho
      refine ⟨e, rfl, ?_⟩
      rw [hf, hs, h2, h3]
      have a1 : frAt (e :: tr) f' 0 = f := by simp [frAt, e1]
      have a2 : stAt (e :: tr) s' 0 = s := by simp [stAt, e2]
      rw [a1, a2]; exact h
    | succ i =>
      simp at ho
      obtain ⟨e', g1, g2⟩ := h4 i o' ho
      exact ⟨e', by simpa using g1, by rw [hf, hs, hf, hs]; exact g2⟩
/-- All that the check of a drawn region says. -/
structure Drawn (P : Program) (ops : Array Oper) (f0 : Fr) (s0 : St) (tr : List Ent) (f' : Fr) (s' : St) (bs : List (List Nat)) : Prop where
  trc : TraceOk P ops ops.toList f0 s0 tr f' s'
  bfs : befs ops.toList [] = some bs
  pairs : pairsOk P ops bs tr = true
  reads : readsOk P bs tr s' = true
  nodef : ∀ e ∈ tr, isDefer e.o.op = false
theorem befs_spec : ∀ (l : List Oper) (acc bs : List (List Nat)), befs l acc = some bs → bs.length = acc.length + l.length ∧ (∀ i, i < acc.length → bs[i]? = acc[i]?) ∧
    ∀ p o, l[p]? = some o → (∀ e ∈ o.after.toList, Region.binds .any e = true → e.on < acc.length + p) ∧ ∀ B, bs[acc.length + p]? = some B → ∀ i ∈ B, ∃ e ∈ o.after.toList, Region.binds .any e = true ∧ e.on < acc.length + p ∧ (i = e.on ∨ i ∈ bs.getD e.on [])
  | [], acc, bs, h => by simp only [befs] at h; cases h; exact ⟨rfl, fun _ _ => rfl, fun p o h => by simp at h⟩
  | o :: l, acc, bs, h => by
    simp only [befs] at h
    split at h
    · rename_i hall
      obtain ⟨h1, h2, h3⟩ := befs_spec l _ bs h
      simp only [List.length_append, List.length_cons, List.length_nil, Nat.zero_add] at h1 h2 h3
      refine ⟨by rw [h1]; simp; omega, fun i hi => ?_, fun p o' ho => ?_⟩
      · rw [h2 i (by omega), List.getElem?_append_left hi]
      · cases p with
        | zero =>
          simp at ho; subst ho
          have hedge : ∀ e ∈ o.after.toList, Region.binds .any e = true → e.on < acc.length := fun e he hb => by
            have := List.all_eq_true.1 hall e he
            simpa [hb] using this
          refine ⟨by simpa using hedge, fun B hB i hi => ?_⟩
          rw [Nat.add_zero, h2 acc.length (by omega)] at hB
          simp at hB
          subst hB
          obtain ⟨e, he, hie⟩ := List.mem_flatMap.1 hi
          split at hie
          · rename_i hb
            refine ⟨e, he, hb, by simpa using hedge e he hb, ?_⟩
            rcases List.mem_cons.1 hie with rfl | hie
            · exact .inl rfl
            · right
              have := h2 e.on (by have := hedge e he hb; omega)
              rw [List.getElem?_append_left (hedge e he hb)] at this
              rw [List.getD_eq_getElem?_getD, this, ← List.getD_eq_getElem?_getD]
              exact hie
          · cases hie
        | succ p =>
          simp at ho
          obtain ⟨g1, g2⟩ := h3 p o' ho
          exact ⟨fun e he hb => by have := g1 e he hb; omega, fun B hB i hi => by
            obtain ⟨e, a1, a2, a3, a4⟩ := g2 B (by rw [show acc.length + 1 + p = acc.length + (p + 1) by omega]; exact hB) i hi
            exact ⟨e, a1, a2, by omega, a4⟩⟩
    · cases h
section facts
variable {ops : Array Oper} {f0 f' : Fr} {s0 s' : St} {tr : List Ent} {bs : List (List Nat)}
theorem Drawn.len (H : Drawn P ops f0 s0 tr f' s' bs) : tr.length = ops.size := by have := (trace_at H.trc).1; simpa using this
theorem Drawn.ent (H : Drawn P ops f0 s0 tr f' s' bs) {i : Nat} {o : Oper} (ho : ops[i]? = some o) : ∃ e, tr[i]? = some e ∧ EntOk P ops o (frAt tr f' i) (stAt tr s' i) e (frAt tr f' (i + 1)) (stAt tr s' (i + 1)) :=
  (trace_at H.trc).2.2.2 i o (by simpa using ho)
theorem Drawn.op_of (H : Drawn P ops f0 s0 tr f' s' bs) {i : Nat} (hi : i < ops.size) : ∃ o, ops[i]? = some o := by
  have _ := H.len
  exact ⟨ops[i], by simp [hi]⟩
theorem Drawn.ent_o (H : Drawn P ops f0 s0 tr f' s' bs) {i : Nat} {e : Ent} (he : tr[i]? = some e) : ops[i]? = some e.o ∧ EntOk P ops e.o (frAt tr f' i) (stAt tr s' i) e (frAt tr f' (i + 1)) (stAt tr s' (i + 1)) ∧ e.f = frAt tr f' i := by
  have hi : i < ops.size := by rw [← H.len]; exact (List.getElem?_eq_some_iff.1 he).1
  obtain ⟨o, ho⟩ := H.op_of hi
  obtain ⟨e', g1, g2⟩ := H.ent ho
  rw [he] at g1; cases g1
  have := g2.facts
  rw [this.2.2]
  exact ⟨ho, g2, this.1⟩
theorem Drawn.bs_len (H : Drawn P ops f0 s0 tr f' s' bs) : bs.length = ops.size := by have := (befs_spec _ _ _ H.bfs).1; simpa using this
theorem Drawn.edge (H : Drawn P ops f0 s0 tr f' s' bs) {i : Nat} {o : Oper} (ho : ops[i]? = some o) : ∀ e ∈ o.after, Region.binds .any e = true → e.on < i := fun e he hb => by
  have := (befs_spec _ _ _ H.bfs).2.2 i o (by simpa using ho)
  simpa using this.1 e (Array.mem_toList_iff.2 he) hb
theorem Drawn.bef (H : Drawn P ops f0 s0 tr f' s' bs) {i : Nat} {o : Oper} (ho : ops[i]? = some o) : ∀ j ∈ bs.getD i [], ∃ e ∈ o.after, Region.binds .any e = true ∧ e.on < i ∧ (j = e.on ∨ j ∈ bs.getD e.on []) := fun j hj => by
  have h1 := (befs_spec _ _ _ H.bfs).2.2 i o (by simpa using ho)
  have hi : i < bs.length := by rw [H.bs_len]; exact (Array.getElem?_eq_some_iff.1 ho).1
  have h2 := h1.2 bs[i] (by simp [hi])
  simp only [List.length_nil, Nat.zero_add] at h2
  rw [List.getD_eq_getElem?_getD, List.getElem?_eq_getElem hi] at hj
  obtain ⟨e, a1, a2, a3, a4⟩ := h2 j hj
  exact ⟨e, Array.mem_toList_iff.1 a1, a2, a3, a4⟩
/-- A set that holds what its own wait for holds all that stands ahead. -/
theorem Drawn.closed (H : Drawn P ops f0 s0 tr f' s' bs) {D : Nat → Prop} (hD : ∀ j o, ops[j]? = some o → D j → ∀ e ∈ o.after, Region.binds .any e = true → D e.on) : ∀ (j : Nat), D j → ∀ i ∈ bs.getD j [], D i := by
  intro j
  induction j using Nat.strongRecOn with
  | _ j ih =>
    intro hj i hi
    by_cases hlt : j < ops.size
    · obtain ⟨o, ho⟩ := H.op_of hlt
      obtain ⟨e, a1, a2, a3, a4⟩ := H.bef ho i hi
      have he := hD j o ho hj e a1 a2
      rcases a4 with rfl | a4
      · exact he
      · exact ih e.on a3 he i a4
    · rw [List.getD_eq_getElem?_getD, List.getElem?_eq_none (by rw [H.bs_len]; omega)] at hi
      simp at hi
theorem Drawn.ready (H : Drawn P ops f0 s0 tr f' s' bs) {D : Nat → Prop} (hD : ∀ j o, ops[j]? = some o → D j → ∀ e ∈ o.after, Region.binds .any e = true → D e.on) {j : Nat} {o : Oper} (ho : ops[j]? = some o) (hr : ∀ e ∈ o.after, Region.binds .any e = true → D e.on) : ∀ i ∈ bs.getD j [], D i := fun i hi => by
  obtain ⟨e, a1, a2, a3, a4⟩ := H.bef ho i hi
  rcases a4 with rfl | a4
  · exact hr e a1 a2
  · exact H.closed hD e.on (hr e a1 a2) i a4
theorem Drawn.pair (H : Drawn P ops f0 s0 tr f' s' bs) {i j : Nat} {x y : Ent} (hi : tr[i]? = some x) (hj : tr[j]? = some y) (hij : i < j) : i ∈ bs.getD j [] ∨ mayTurn P ops x y = true := by
  have h := H.pairs
  unfold pairsOk at h
  rw [List.all_eq_true] at h
  have hjl : j < tr.length := (List.getElem?_eq_some_iff.1 hj).1
  have h1 := h j (List.mem_range.2 hjl)
  rw [List.all_eq_true] at h1
  have h2 := h1 i (List.mem_range.2 hij)
  rw [hi, hj] at h2
  cases hb : bs[j]? with
  | none => rw [hb] at h2; simp at h2
  | some b =>
    rw [hb] at h2
    simp only [Bool.or_eq_true] at h2
    rcases h2 with h2 | h2
    · left; rw [List.getD_eq_getElem?_getD, hb]; simpa using h2
    · exact .inr h2
theorem Drawn.nx (H : Drawn P ops f0 s0 tr f' s' bs) {i j : Nat} (hij : i ≤ j) (hj : j ≤ ops.size) : (stAt tr s' i).nx ≤ (stAt tr s' j).nx := by
  induction j with
  | zero => have : i = 0 := by omega
            subst this; exact Nat.le_refl _
  | succ j ih =>
    rcases Nat.lt_or_ge i (j + 1) with h | h
    · obtain ⟨o, ho⟩ := H.op_of (i := j) (by omega)
      obtain ⟨e, _, h2⟩ := H.ent ho
      exact Nat.le_trans (ih (by omega) (by omega)) h2.nx
    · have : i = j + 1 := by omega
      subst this; exact Nat.le_refl _
theorem Drawn.end_ (H : Drawn P ops f0 s0 tr f' s' bs) : stAt tr s' ops.size = s' ∧ frAt tr f' ops.size = f' := by
  have : tr[ops.size]? = none := List.getElem?_eq_none (by rw [H.len]; exact Nat.le_refl _)
  simp [stAt, frAt, this]
theorem Drawn.frame (H : Drawn P ops f0 s0 tr f' s' bs) {i : Nat} {e : Ent} (he : tr[i]? = some e) : (frAt tr f' i).put e.o.dst e.v = some (frAt tr f' (i + 1)) := by
  obtain ⟨h1, h2, _⟩ := H.ent_o he
  exact h2.frame (H.nodef e (List.mem_of_getElem? he))
theorem Drawn.nt (H : Drawn P ops f0 s0 tr f' s' bs) {i : Nat} (hi : i ≤ ops.size) : (frAt tr f' i).nt = f0.nt ∧ (frAt tr f' i).df = f0.df := by
  induction i with
  | zero => rw [(trace_at H.trc).2.1]; exact ⟨rfl, rfl⟩
  | succ i ih =>
    obtain ⟨o, ho⟩ := H.op_of (i := i) (by omega)
    obtain ⟨e, h1, _⟩ := H.ent ho
    obtain ⟨a1, a2, _⟩ := put_facts (H.frame h1)
    obtain ⟨b1, b2⟩ := ih (by omega)
    exact ⟨a1.trans b1, a2.trans b2⟩
/-- Where a slot's value is from. -/
theorem Drawn.slot (H : Drawn P ops f0 s0 tr f' s' bs) {i : Nat} (hi : i ≤ ops.size) {t : Nat} {v : AV} (hv : (frAt tr f' i).tm.get t = some v) :
    (∃ j e, j < i ∧ tr[j]? = some e ∧ e.o.dst = some t ∧ e.v = v ∧ ∀ j' e', j < j' → j' < i → tr[j']? = some e' → e'.o.dst ≠ some t) ∨ ((∀ j e, j < i → tr[j]? = some e → e.o.dst ≠ some t) ∧ f0.tm.get t = some v) := by
  induction i with
  | zero => rw [(trace_at H.trc).2.1] at hv; exact .inr ⟨fun j e h => by omega, hv⟩
  | succ i ih =>
    obtain ⟨o, ho⟩ := H.op_of (i := i) (by omega)
    obtain ⟨e, h1, _⟩ := H.ent ho
    obtain ⟨_, _, h3, _⟩ := put_facts (H.frame h1)
    rw [h3] at hv
    by_cases hd : e.o.dst = some t
    · rw [if_pos hd] at hv; cases hv
      exact .inl ⟨i, e, Nat.lt_succ_self _, h1, hd, rfl, fun j' e' a b => by omega⟩
    · rw [if_neg hd] at hv
      rcases ih (by omega) hv with ⟨j, e1, a1, a2, a3, a4, a5⟩ | ⟨a1, a2⟩
      · refine .inl ⟨j, e1, by omega, a2, a3, a4, fun j' e' b1 b2 b3 => ?_⟩
        rcases Nat.lt_or_ge j' i with h | h
        · exact a5 j' e' b1 h b3
        · have : j' = i := by omega
          subst this; rw [h1] at b3; cases b3; exact hd
      · refine .inr ⟨fun j e1 b1 b2 => ?_, a2⟩
        rcases Nat.lt_or_ge j i with h | h
        · exact a1 j e1 h b2
        · have : j = i := by omega
          subst this; rw [h1] at b2; cases b2; exact hd
end facts
end
end Go.Proofs.YtcpmhehklicpfaaGreatDoor.Ev
