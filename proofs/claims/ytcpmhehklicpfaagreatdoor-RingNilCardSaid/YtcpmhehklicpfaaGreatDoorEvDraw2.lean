/- A region that draws its order: what stands while some of its operations are done. -/
import Derived.Test.YtcpmhehklicpfaaGreatDoorEvDraw
namespace Go.Proofs.YtcpmhehklicpfaaGreatDoor.Ev
open Go
set_option linter.unusedVariables false
section
variable {P : Program}
/-- The j-th operation made the block o. -/
def AlE (P : Program) (tr : List Ent) (s' : St) (j : Nat) (o : AObj) : Prop := ∃ e, tr[j]? = some e ∧ isA P e = true ∧ stAt tr s' (j + 1) = (stAt tr s' j).new o
section facts
variable {ops : Array Oper} {f0 f' : Fr} {s0 s' : St} {tr : List Ent} {bs : List (List Nat)}
theorem Drawn.kinds (H : Drawn P ops f0 s0 tr f' s' bs) {i : Nat} {e : Ent} (he : tr[i]? = some e) :
    (e.run = false ∧ wantedA ops (frAt tr f' i) e.o = some false ∧ stAt tr s' (i + 1) = stAt tr s' i ∧ e.v = undefA) ∨
    (e.run = true ∧ wantedA ops (frAt tr f' i) e.o = some true ∧ kindOf P e.o.op = .q ∧ qA P (frAt tr f' i).ev (stAt tr s' i).obj e.o.op = some e.v ∧ stAt tr s' (i + 1) = stAt tr s' i) ∨
    (e.run = true ∧ wantedA ops (frAt tr f' i) e.o = some true ∧ kindOf P e.o.op = .a ∧ ∃ ob mk, aA P (frAt tr f' i).ev e.o.op = some (ob, mk) ∧ e.v = mk (stAt tr s' i).nx ∧ stAt tr s' (i + 1) = (stAt tr s' i).new ob) ∨
    (e.run = true ∧ wantedA ops (frAt tr f' i) e.o = some true ∧ kindOf P e.o.op = .e ∧ ESem P e.o (frAt tr f' i) (stAt tr s' i) e.v (stAt tr s' (i + 1)) ∧ (stAt tr s' i).nx ≤ (stAt tr s' (i + 1)).nx) := by
  obtain ⟨h1, h2, _⟩ := H.ent_o he
  exact h2.kinds (H.nodef e (List.mem_of_getElem? he))
theorem Drawn.seg (H : Drawn P ops f0 s0 tr f' s' bs) {m : Nat} : ∀ (i : Nat), m ≤ i → i ≤ ops.size → (∀ j e, m ≤ j → j < i → tr[j]? = some e → isE P e = false) → ∀ k o, (stAt tr s' i).obj k = some o → (stAt tr s' m).obj k = some o ∨ ∃ j, m ≤ j ∧ j < i ∧ AlE P tr s' j o ∧ k = (stAt tr s' j).nx := by
  intro i
  induction i with
  | zero => intro hm _ _ k o hk; have : m = 0 := by omega
            subst this; exact .inl hk
  | succ i ih =>
    intro hm hi hno k o hk
    rcases Nat.lt_or_ge i m with h | h
    · have : m = i + 1 := by omega
      subst this; exact .inl hk
    · obtain ⟨op, hop⟩ := H.op_of (i := i) (by omega)
      obtain ⟨e, he, _⟩ := H.ent hop
      have rest : (stAt tr s' i).obj k = some o → (stAt tr s' m).obj k = some o ∨ ∃ j, m ≤ j ∧ j < i + 1 ∧ AlE P tr s' j o ∧ k = (stAt tr s' j).nx := fun hk' => by
        rcases ih h (by omega) (fun j e a b c => hno j e a (by omega) c) k o hk' with g | ⟨j, g1, g2, g3, g4⟩
        · exact .inl g
        · exact .inr ⟨j, g1, by omega, g3, g4⟩
      rcases H.kinds he with ⟨_, _, h1, _⟩ | ⟨_, _, _, _, h1⟩ | ⟨h1, _, h2, ob, mk, _, _, h3⟩ | ⟨h1, _, h2, _⟩
      · rw [h1] at hk; exact rest hk
      · rw [h1] at hk; exact rest hk
      · rw [h3, St.obj_new] at hk
        by_cases ek : k = (stAt tr s' i).nx
        · rw [if_pos ek] at hk; cases hk
          exact .inr ⟨i, h, Nat.lt_succ_self _, ⟨e, he, by simp [isA, h1, h2], h3⟩, ek⟩
        · rw [if_neg ek] at hk; exact rest hk
      · have := hno i e h (Nat.lt_succ_self _) he
        simp [isE, h1, h2] at this
theorem Drawn.al_nx (H : Drawn P ops f0 s0 tr f' s' bs) {j : Nat} {o : AObj} (h : AlE P tr s' j o) : (stAt tr s' (j + 1)).nx = (stAt tr s' j).nx + 1 ∧ j < ops.size := by
  obtain ⟨e, h1, h2, h3⟩ := h
  exact ⟨by rw [h3]; rfl, by rw [← H.len]; exact (List.getElem?_eq_some_iff.1 h1).1⟩
theorem Drawn.al_inj (H : Drawn P ops f0 s0 tr f' s' bs) {i j : Nat} {o o' : AObj} (h : AlE P tr s' i o) (h' : AlE P tr s' j o') (he : (stAt tr s' i).nx = (stAt tr s' j).nx) : i = j := by
  obtain ⟨a1, a2⟩ := H.al_nx h
  obtain ⟨b1, b2⟩ := H.al_nx h'
  rcases Nat.lt_trichotomy i j with g | g | g
  · have := H.nx (i := i + 1) (j := j) g (by omega); omega
  · exact g
  · have := H.nx (i := j + 1) (j := i) g (by omega); omega
theorem al_one (H : Drawn P ops f0 s0 tr f' s' bs) {j : Nat} {o o' : AObj} (h : AlE P tr s' j o) (h' : AlE P tr s' j o') : o = o' := by
  have _ := H.len
  obtain ⟨e, h1, h2, h3⟩ := h
  obtain ⟨e', g1, g2, g3⟩ := h'
  rw [h3] at g3
  have := congrArg (fun s => St.obj s (stAt tr s' j).nx) g3
  simp only [St.obj_new, if_true] at this
  exact Option.some.inj this
end facts
structure Inv (P : Program) (ops : Array Oper) (f0 f' : Fr) (s0 s' : St) (tr : List Ent) (ι0 : Io) (a0 : Act) (w0 : World) (D : Nat → Prop) (m : Nat) (X : Hp) (ι : Io) (a : Act) (w : World) : Prop where
  st : Step P ι0 s0.obj s0.nx w0 ι X s'.nx w
  mle : m ≤ ops.size
  mE : m = 0 ∨ ∃ e, 0 < m ∧ tr[m - 1]? = some e ∧ isE P e = true
  eD : ∀ j e, tr[j]? = some e → isE P e = true → (D j ↔ j < m)
  x1 : ∀ k o, (stAt tr s' m).obj k = some o → X k = some o
  x2 : ∀ j o, m ≤ j → D j → AlE P tr s' j o → X (stAt tr s' j).nx = some o
  x3 : ∀ k o, X k = some o → (stAt tr s' m).obj k = some o ∨ ∃ j, m ≤ j ∧ D j ∧ AlE P tr s' j o ∧ k = (stAt tr s' j).nx
  wf : ∀ k, (stAt tr s' m).nx ≤ k → k < s'.nx → (stAt tr s' m).obj k = none
  fresh : ∀ k, (stAt tr s' m).nx ≤ k → k < s'.nx → ι k = none ∨ ∃ j o, m ≤ j ∧ D j ∧ AlE P tr s' j o ∧ k = (stAt tr s' j).nx
  gl : Glob ι
  sz : a.tmps.size = f0.nt
  s2a : ∀ i e t, D i → tr[i]? = some e → e.o.dst = some t → (∀ j e', D j → i < j → tr[j]? = some e' → e'.o.dst ≠ some t) → t < f0.nt ∧ VR ι e.v (a.tmps.getD t undef)
  s2b : ∀ t v, (∀ j e, D j → tr[j]? = some e → e.o.dst ≠ some t) → f0.tm.get t = some v → t < f0.nt ∧ VR ι v (a.tmps.getD t undef)
  df : a.defers = a0.defers
  cl : ∀ j o, ops[j]? = some o → D j → ∀ e ∈ o.after, Region.binds .any e = true → D e.on
  dom : ∀ j, D j → j < ops.size
section step
variable {ops : Array Oper} {f0 f' : Fr} {s0 s' : St} {tr : List Ent} {bs : List (List Nat)} {ι0 ι : Io} {a0 a : Act} {w0 w : World} {D : Nat → Prop} {m : Nat} {X : Hp}
theorem mayTurn_spec {x y : Ent} (h : mayTurn P ops x y = true) : x.o.apart ops y.o = true ∧ (isE P y = true → isE P x = false ∧ isA P x = false) := by
  unfold mayTurn at h
  simp only [Bool.and_eq_true, Bool.not_eq_true', Bool.and_eq_false_iff, Bool.or_eq_false_iff] at h
  refine ⟨h.1, fun hy => ?_⟩
  rcases h.2 with h2 | h2
  · rw [hy] at h2; cases h2
  · exact h2
theorem Inv.looks (H : Drawn P ops f0 s0 tr f' s' bs) (I : Inv P ops f0 f' s0 s' tr ι0 a0 w0 D m X ι a w) {i : Nat} {e : Ent} (he : tr[i]? = some e) (hn : ¬ D i) (hb : ∀ j ∈ bs.getD i [], D j) :
    ∀ t ∈ e.o.looksAt ops, ∀ v, (frAt tr f' i).tm.get t = some v → t < f0.nt ∧ VR ι v (a.tmps.getD t undef) := by
  intro t ht v hv
  have hi : i < ops.size := by rw [← H.len]; exact (List.getElem?_eq_some_iff.1 he).1
  have later : ∀ j e', D j → i < j → tr[j]? = some e' → e'.o.dst ≠ some t := fun j e' hj hij he' hd => by
    rcases H.pair he he' hij with h | h
    · exact hn (H.closed I.cl j hj i h)
    · exact (Oper.apart_spec (mayTurn_spec h).1).2.2 t hd ht
  rcases H.slot (Nat.le_of_lt hi) hv with ⟨j, e1, a1, a2, a3, a4, a5⟩ | ⟨a1, a2⟩
  · have hj : D j := by
      rcases H.pair a2 he a1 with h | h
      · exact hb j h
      · exact absurd ht ((Oper.apart_spec (mayTurn_spec h).1).1 t a3)
    rw [← a4]
    refine I.s2a j e1 t hj a2 a3 fun j' e' b1 b2 b3 => ?_
    rcases Nat.lt_trichotomy j' i with g | g | g
    · exact a5 j' e' b2 g b3
    · subst g; exact absurd b1 hn
    · exact later j' e' b1 g b3
  · refine I.s2b t v (fun j e' b1 b2 => ?_) a2
    rcases Nat.lt_trichotomy j i with g | g | g
    · exact a1 j e' g b2
    · subst g; exact absurd b1 hn
    · exact later j e' b1 g b2
theorem Inv.opsR (H : Drawn P ops f0 s0 tr f' s' bs) (I : Inv P ops f0 f' s0 s' tr ι0 a0 w0 D m X ι a w) {i : Nat} {e : Ent} (he : tr[i]? = some e) (hn : ¬ D i) (hb : ∀ j ∈ bs.getD i [], D j) : OpsR ι (frAt tr f' i) a e.o := by
  intro x hx v hv
  cases x with
  | tmp t =>
    refine (I.looks H he hn hb t ?_ v hv).2
    unfold Oper.looksAt
    exact List.mem_append.2 (.inl (List.mem_filterMap.2 ⟨.tmp t, Array.mem_toList_iff.2 hx, rfl⟩))
  | const c => exact ofVal_VR 4 c v hv
  | global g =>
    simp only [Fr.ev] at hv
    split at hv
    · rename_i hg
      cases hv
      obtain ⟨y, hy⟩ := I.gl g hg
      simp only [VR]
      exact ⟨g, y, hy, rfl⟩
    · cases hv
  | func k =>
    simp only [Fr.ev] at hv; cases hv
    simp only [VR]
    exact ⟨#[], #[], rfl, VRs.nil, VRs.nil⟩
theorem Inv.wants (H : Drawn P ops f0 s0 tr f' s' bs) (I : Inv P ops f0 f' s0 s' tr ι0 a0 w0 D m X ι a w) {i : Nat} {e : Ent} {b : Bool} (he : tr[i]? = some e) (hn : ¬ D i) (hb : ∀ j ∈ bs.getD i [], D j) (hw : wantedA ops (frAt tr f' i) e.o = some b) :
    Region.wanted e.o (yielded ops a.tmps) = b := by
  refine wanted_R (ι := ι) hw fun j w' hg d hd v hv => ?_
  have := I.looks H he hn hb d (by
    unfold Oper.looksAt
    rw [hg]
    exact List.mem_append.2 (.inr (by simp [hd]))) v hv
  exact ⟨by rw [I.sz]; exact this.1, this.2⟩
/-- The slots behind one operation more. -/
theorem Inv.slots (H : Drawn P ops f0 s0 tr f' s' bs) (I : Inv P ops f0 f' s0 s' tr ι0 a0 w0 D m X ι a w) {ι' : Io} (hle : Io.le ι ι') {i : Nat} {e : Ent} {u : Value} (he : tr[i]? = some e) (hn : ¬ D i) (hu : VR ι' e.v u) :
    (a.put e.o.dst u).tmps.size = f0.nt ∧
    (∀ j e1 t, (D j ∨ j = i) → tr[j]? = some e1 → e1.o.dst = some t → (∀ j' e', (D j' ∨ j' = i) → j < j' → tr[j']? = some e' → e'.o.dst ≠ some t) → t < f0.nt ∧ VR ι' e1.v ((a.put e.o.dst u).tmps.getD t undef)) ∧
    (∀ t v, (∀ j e1, (D j ∨ j = i) → tr[j]? = some e1 → e1.o.dst ≠ some t) → f0.tm.get t = some v → t < f0.nt ∧ VR ι' v ((a.put e.o.dst u).tmps.getD t undef)) := by
  have hi : i < ops.size := by rw [← H.len]; exact (List.getElem?_eq_some_iff.1 he).1
  have hput := H.frame he
  obtain ⟨_, _, _, hdt⟩ := put_facts hput
  have hnt := (H.nt (Nat.le_of_lt hi)).1
  have other : ∀ t, e.o.dst ≠ some t → (a.put e.o.dst u).tmps.getD t undef = a.tmps.getD t undef := fun t ht => by
    cases hd : e.o.dst with
    | none => rfl
    | some d =>
      have : d ≠ t := fun h => ht (by rw [hd, h])
      simp only [Act.put, Array.getD_eq_getD_getElem?]
      rw [Array.getElem?_setIfInBounds_ne this]
  refine ⟨?_, ?_, ?_⟩
  · cases hd : e.o.dst with
    | none => exact I.sz
    | some d => simp [Act.put, I.sz]
  · intro j e1 t hj he1 hd hl
    by_cases hji : j = i
    · subst hji
      rw [he] at he1; cases he1
      have hlt : t < f0.nt := by rw [← hnt]; exact hdt t hd
      refine ⟨hlt, ?_⟩
      simp only [hd, Act.put, Array.getD_eq_getD_getElem?]
      rw [Array.getElem?_setIfInBounds_self, if_pos (by rw [I.sz]; exact hlt)]
      exact hu
    · have hDj : D j := hj.resolve_right hji
      by_cases hdi : e.o.dst = some t
      · exfalso
        rcases Nat.lt_or_ge j i with g | g
        · exact hl i e (.inr rfl) g he hdi
        · have hij : i < j := by omega
          rcases H.pair he he1 hij with h | h
          · exact hn (H.closed I.cl j hDj i h)
          · exact (Oper.apart_spec (mayTurn_spec h).1).2.1 t hdi hd
      · obtain ⟨g1, g2⟩ := I.s2a j e1 t hDj he1 hd (fun j' e' a1 a2 a3 => hl j' e' (.inl a1) a2 a3)
        exact ⟨g1, by rw [other t hdi]; exact g2.mono hle⟩
  · intro t v hno hv
    have hdi : e.o.dst ≠ some t := hno i e (.inr rfl) he
    obtain ⟨g1, g2⟩ := I.s2b t v (fun j e1 a1 a2 => hno j e1 (.inl a1) a2) hv
    exact ⟨g1, by rw [other t hdi]; exact g2.mono hle⟩
end step
end
end Go.Proofs.YtcpmhehklicpfaaGreatDoor.Ev
