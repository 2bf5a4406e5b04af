/- Operations that turn memory. -/
import Derived.Test.YtcpmhehklicpfaaGreatDoorEvA
namespace Go.Proofs.YtcpmhehklicpfaaGreatDoor.Ev
open Go
set_option linter.unusedVariables false
section
variable {P : Program} {ι : Io} {h : Hp} {w : World} {ρ : Operand → Option AV} {σ : Operand → Value}
theorem VR.one {v : AV} {u : Value} (h1 : v.one = true) (hv : VR ι v u) : u.oneCell' = true := by
  cases v with
  | agg l => simp [AV.one] at h1
  | any => simp [AV.one] at h1
  | opq => simp only [VR] at hv; obtain ⟨s, rfl⟩ := hv; rfl
  | rng k lo hi => simp only [VR] at hv; obtain ⟨n, rfl, _⟩ := hv; rfl
  | tuple l => simp [AV.one] at h1
  | ptr a => cases a with
    | none => simp only [VR] at hv; subst hv; rfl
    | some p => obtain ⟨k, o⟩ := p; simp only [VR] at hv; obtain ⟨b, e, _, rfl⟩ := hv; rfl
  | slice a n c => cases a with
    | none => simp only [VR] at hv; obtain ⟨rfl, _⟩ := hv; rfl
    | some p => obtain ⟨k, o⟩ := p; simp only [VR] at hv; obtain ⟨b, e, _, rfl⟩ := hv; rfl
  | map a => cases a with
    | none => simp only [VR] at hv; subst hv; rfl
    | some k => simp only [VR] at hv; obtain ⟨b, e, _, rfl⟩ := hv; rfl
  | chan a => cases a with
    | none => simp only [VR] at hv; subst hv; rfl
    | some k => simp only [VR] at hv; obtain ⟨b, e, _, rfl⟩ := hv; rfl
  | bool b => simp only [VR] at hv; subst hv; rfl
  | int k n => simp only [VR] at hv; subst hv; rfl
  | str s => simp only [VR] at hv; obtain ⟨rfl, _⟩ := hv; rfl
  | empty => simp only [VR] at hv; obtain ⟨a, c, rfl⟩ := hv; rfl
  | func f a c => simp only [VR] at hv; obtain ⟨xs, ys, rfl, _⟩ := hv; rfl
  | yield l => simp only [VR] at hv; obtain ⟨b, e, _, rfl⟩ := hv; rfl
  | nilFunc => simp only [VR] at hv; subst hv; rfl
  | iface t x => simp only [VR] at hv; obtain ⟨y, rfl, _⟩ := hv; rfl
  | nilIface => simp only [VR] at hv; subst hv; rfl
  | lst l => simp only [VR] at hv; obtain ⟨xs, _, rfl, _⟩ := hv; rfl
  | lptr l => simp only [VR] at hv; obtain ⟨_, _, _, rfl, _⟩ := hv; rfl
  | zero => simp only [VR] at hv; obtain ⟨_, rfl⟩ := hv; rfl
theorem VRs.one {l : List AV} {vs : List Value} (h1 : l.all AV.one = true) (hv : VRs ι l vs) : ∀ u ∈ vs, u.oneCell' = true := by
  induction l generalizing vs with
  | nil => simp only [VRs] at hv; subst hv; simp
  | cons a l ih =>
    simp only [VRs] at hv
    obtain ⟨v, r, rfl, h2, h3⟩ := hv
    simp only [List.all_cons, Bool.and_eq_true] at h1
    intro u hu
    rcases List.mem_cons.1 hu with rfl | hu
    · exact h2.one h1.1
    · exact ih h1.2 h3 u hu
/-- The rest of the world stands. -/
structure Else (b : Nat) (w w' : World) : Prop where
  size : w'.heap.size = w.heap.size
  blk : ∀ c, c ≠ b → w'.heap[c]? = w.heap[c]?
  os : w'.os = w.os
  tape : w'.tape = w.tape
  output : w'.output = w.output
theorem Else.refl (b : Nat) (w : World) : Else b w w := ⟨rfl, fun _ _ => rfl, rfl, rfl, rfl⟩
theorem Else.trans {b : Nat} {w w1 w2 : World} (a : Else b w w1) (c : Else b w1 w2) : Else b w w2 :=
  ⟨c.size.trans a.size, fun x hx => (c.blk x hx).trans (a.blk x hx), c.os.trans a.os, c.tape.trans a.tape, c.output.trans a.output⟩
theorem heap_setCell {b i : Nat} {cs : Array Value} {e : TypeId} {f : Nat × Nat} (hb : w.heap[b]? = some (.cells cs e f)) (v : Value) : (w.setCell ⟨b, i, none⟩ v).heap[b]? = some (.cells (cs.setIfInBounds i v) e f) := by
  have hlt := (Array.getElem?_eq_some_iff.1 hb).1
  have hget : w.heap[b] = .cells cs e f := by simpa [hlt] using hb
  simp only [World.setCell]
  rw [Array.getElem?_modify, hb]
  simp
theorem else_setCell (b i : Nat) (v : Value) (w : World) : Else b w (w.setCell ⟨b, i, none⟩ v) :=
  ⟨by simp [World.setCell], fun c hc => by simp only [World.setCell]; rw [Array.getElem?_modify, if_neg (fun e => hc e.symm)], rfl, rfl, rfl⟩
theorem run_stores {b o : Nat} {e : TypeId} {lo hi : Nat} : ∀ (vs : List Value) (i : Nat) (cs : Array Value) (w : World), w.heap[b]? = some (.cells cs e (lo, hi)) → o + i + vs.length ≤ cs.size →
    (∀ j, j < cs.size → ¬ (lo ≤ j ∧ j < hi)) → (∀ v ∈ vs, v.oneCell' = true) →
    ∃ w' cs', (storeCells ⟨b, o, none⟩ vs i).run P w = .ok () w' ∧ w'.heap[b]? = some (.cells cs' e (lo, hi)) ∧ cs'.toList = cs.toList.take (o + i) ++ (vs ++ cs.toList.drop (o + i + vs.length)) ∧ cs'.size = cs.size ∧ Else b w w'
  | [], i, cs, w, hb, _, _, _ => ⟨w, cs, rfl, hb, by simp, rfl, Else.refl _ _⟩
  | v :: r, i, cs, w, hb, hl, hf, h1 => by
    have hlt : o + i < cs.size := by simp only [List.length_cons] at hl; omega
    have hb' := heap_setCell (i := o + i) hb v
    obtain ⟨w', cs', e1, e2, e3, e4, e5⟩ := run_stores (o := o) r (i + 1) (cs.setIfInBounds (o + i) v) (w.setCell ⟨b, o + i, none⟩ v) hb' (by simp only [List.length_cons] at hl; simp; omega) (by simpa using hf) (fun u hu => h1 u (by simp [hu]))
    refine ⟨w', cs', ?_, e2, ?_, by simpa using e4, (else_setCell b (o + i) v w).trans e5⟩
    · have hc : w.cell? ⟨b, o + i, none⟩ = some cs[o + i] := by rw [cell_at hb, Array.getElem?_eq_getElem hlt]
      have hz : w.frozen? ⟨b, o + i, none⟩ = false := by
        have := hf (o + i) hlt
        simp only [World.frozen?, hb]
        simpa using this
      simp only [storeCells, Sem.run_bind, addr_add, run_store P w ⟨b, o + i, none⟩ v .plain (h1 v (by simp)), hc, hz, Bool.false_eq_true, if_false, Result.andThen_ok]
      exact e1
    · rw [e3]
      have hlt' : o + i < cs.toList.length := by simpa using hlt
      simp only [Array.toList_setIfInBounds, List.length_cons]
      rw [show o + (i + 1) = (o + i) + 1 by omega]
      rw [List.take_add_one, List.take_set_of_le (by omega), List.getElem?_set_self hlt', List.drop_set_of_lt (by omega)]
      simp only [Option.toList_some, List.append_assoc, List.cons_append, List.nil_append]
      rw [show o + i + 1 + r.length = o + i + (r.length + 1) by omega]
theorem run_putCells {s s' : St} {k o : Nat} {vs : List AV} {us : List Value} (hr : Rel P ι s.obj w) (hp : putCells s (k, o) vs = some s') (hv : VRs ι vs us) :
    ∃ b x w', ι k = some (b, x) ∧ (storeCells ⟨b, o, none⟩ us).run P w = .ok () w' ∧ Step P ι s.obj s.nx w ι s'.obj s'.nx w' := by
  unfold putCells at hp
  split at hp
  · rename_i c e opn hk
    split at hp
    · rename_i hone
      split at hp
      · rename_i c' hs
        cases hp
        obtain ⟨b, x, cs, e', lo, hi, q1, q2, q3, ⟨q40, q4⟩, q5, q6⟩ := cellsOf_rel hr hk
        obtain ⟨rfl, q4⟩ := q4 rfl
        obtain ⟨hb, rfl⟩ := splice_some hs
        have hlen := hv.len
        obtain ⟨w', cs', e1, e2, e3, e4, e5⟩ := run_stores (P := P) (o := o) us 0 cs w q2 (by omega) (q6 rfl) (hv.one hone)
        refine ⟨b, x, w', q1, e1, step_set hr hk q1 (p := .cells cs' _ (lo, hi)) ⟨cs', _, lo, hi, rfl, ?_, fun _ => ⟨rfl, ?_⟩, q5, ?_⟩ e2 e5.size e5.blk e5.os e5.tape e5.output⟩
        · have hcl : (c.take o ++ (vs ++ c.drop (o + vs.length))).length = c.length := by simp; omega
          rw [hcl, e3, Nat.add_zero, ← hlen]
          have e : (cs.toList.take o ++ (us ++ cs.toList.drop (o + vs.length))).take c.length = (cs.toList.take c.length).take o ++ (us ++ (cs.toList.take c.length).drop (o + vs.length)) := by
            rw [List.take_take, Nat.min_eq_left (by omega), List.take_append, List.take_append, List.drop_take]
            have l1 : (cs.toList.take o).length = o := by simp; omega
            rw [l1, List.take_of_length_le (l := cs.toList.take o) (by omega), List.take_of_length_le (l := us) (by omega), ← hlen]
            congr 3
            omega
          rw [e]
          exact (q3.take o).append (hv.append (q3.drop _))
        · rw [e4, q4]; simp; omega
        · intro _ i hi'; rw [e4] at hi'; exact q6 rfl i hi'
      · cases hp
    · cases hp
  · cases hp
theorem run_storeA {s s' : St} {t : TypeId} {k o : Nat} {v : AV} {u : Value} (hr : Rel P ι s.obj w) (hp : storeA P s t (k, o) v = some s') (hv : VR ι v u) (ha : v ≠ .any) :
    ∃ b x w', ι k = some (b, x) ∧ (storeVar t ⟨b, o, none⟩ u).run P w = .ok () w' ∧ Step P ι s.obj s.nx w ι s'.obj s'.nx w' := by
  unfold storeA at hp
  split at hp
  · rename_i n hn
    split at hp
    · rename_i hl
      have hc := hv.cells ha
      obtain ⟨b, x, w', q1, q2, q3⟩ := run_putCells hr hp hc
      refine ⟨b, x, w', q1, ?_, q3⟩
      have hsz : ¬ (u.cells.size ≠ n) := by have := hc.len; simp at this; omega
      simp only [storeVar, Sem.run_bind, run_szT hn, Result.andThen_ok, Sem.run_ite, if_neg hsz]
      exact q2
    · cases hp
  · cases hp
end
end Go.Proofs.YtcpmhehklicpfaaGreatDoor.Ev
