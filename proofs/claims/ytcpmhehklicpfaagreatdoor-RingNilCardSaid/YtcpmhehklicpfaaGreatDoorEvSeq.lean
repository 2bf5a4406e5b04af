/- A trace of operations, and a region whose order is that of the text. -/
import Derived.Test.YtcpmhehklicpfaaGreatDoorEvMach
namespace Go.Proofs.YtcpmhehklicpfaaGreatDoor.Ev
open Go
set_option linter.unusedVariables false
section
variable {P : Program}
/-- What a frame's wanting of an operation says of the machine's. -/
theorem wanted_R {ι : Io} {ops : Array Oper} {f : Fr} {a : Act} {o : Oper} {b : Bool} (h : wantedA ops f o = some b)
    (hx : ∀ j w, o.guard = some (j, w) → ∀ d, ((ops[j]?).bind (·.dst)) = some d → ∀ v, f.tm.get d = some v → d < a.tmps.size ∧ VR ι v (a.tmps.getD d undef)) : Region.wanted o (yielded ops a.tmps) = b := by
  unfold wantedA at h
  unfold Region.wanted
  split at h
  · rename_i hg; cases h; simp [hg]
  · rename_i j w hg
    split at h
    · rename_i oj hj
      split at h
      · rename_i d hd
        have hv := hx j w hg d (by simp [hj, hd])
        split at h
        · rename_i bb hb
          cases h
          obtain ⟨hlt, this⟩ := hv _ hb
          have hget : a.tmps[d]? = some (a.tmps.getD d undef) := by simp [Array.getD_eq_getD_getElem?, hlt]
          simp only [VR] at this
          simp only [hg, yielded, hj, Option.bind_some, hd, hget, this]
          cases bb <;> cases w <;> rfl
        · rename_i hb
          cases h
          obtain ⟨hlt, this⟩ := hv _ hb
          have hget : a.tmps[d]? = some (a.tmps.getD d undef) := by simp [Array.getD_eq_getD_getElem?, hlt]
          simp only [VR, VRs] at this
          obtain ⟨xs, h1, h2⟩ := this
          simp only [hg, yielded, hj, Option.bind_some, hd, hget, h1]
          cases w <;> rfl
        · cases h
      · cases h
    · cases h
theorem guard_R {ι : Io} {ops : Array Oper} {f : Fr} {a : Act} {o : Oper} {b : Bool} (hf : FR P ι f a) (h : wantedA ops f o = some b) : Region.wanted o (yielded ops a.tmps) = b := by
  refine wanted_R (ι := ι) h fun j w hg d hd v hv => ?_
  obtain ⟨h1, h2⟩ := hf.tm.2 d v hv
  exact ⟨by rw [hf.tm.1]; exact h1, h2⟩
/-- An operation that turns memory, or calls: what it does to any frame whose operands stand so. -/
def ESem (P : Program) (o : Oper) (f : Fr) (s : St) (v : AV) (s' : St) : Prop :=
  ∀ (b : Frame) (ι : Io) (a : Act) (w : World) (k : List Item) (cs : List Frame) (rest : List Nat) (ops : Array Oper) (i : Nat), ops[i]? = some o → Region.wanted o (yielded ops a.tmps) = true → CsOk P b.kind b.roundOf cs →
    Glob ι → OpsR ι f a o → Rel P ι s.obj w → Fresh ι s.nx s'.nx →
    ∃ ι' w' u, Step P ι s.obj s.nx w ι' s'.obj s'.nx w' ∧ VR ι' v u ∧
      Steps P (lone (b.atR a (.inRegion ops (i :: rest) :: k)) cs w) (lone (b.atR (a.put o.dst u) (.inRegion ops rest :: k)) cs w')
inductive EntOk (P : Program) (ops : Array Oper) (o : Oper) (f : Fr) (s : St) : Ent → Fr → St → Prop
  | off {f1 : Fr} (hw : wantedA ops f o = some false) (hp : f.put o.dst undefA = some f1) : EntOk P ops o f s ⟨o, false, f, s, undefA⟩ f1 s
  | q {f1 : Fr} {v : AV} (hw : wantedA ops f o = some true) (hk : kindOf P o.op = .q) (hv : qA P f.ev s.obj o.op = some v) (hp : f.put o.dst v = some f1) : EntOk P ops o f s ⟨o, true, f, s, v⟩ f1 s
  | a {f1 : Fr} {ob : AObj} {mk : Nat → AV} (hw : wantedA ops f o = some true) (hk : kindOf P o.op = .a) (hv : aA P f.ev o.op = some (ob, mk)) (hp : f.put o.dst (mk s.nx) = some f1) : EntOk P ops o f s ⟨o, true, f, s, mk s.nx⟩ f1 (s.new ob)
  | e {f1 : Fr} {v : AV} {s' : St} (hw : wantedA ops f o = some true) (hk : kindOf P o.op = .e) (hn : s.nx ≤ s'.nx) (hv : ESem P o f s v s') (hp : f.put o.dst v = some f1) : EntOk P ops o f s ⟨o, true, f, s, v⟩ f1 s'
  | d {f1 : Fr} {g : FuncId} {l : List AV} (c : Call) (hd : o.op = .defer c) (hw : wantedA ops f o = some true) (hk : kindOf P o.op = .e) (hv : eA P f.ev s o.op = some (.defer g l, s)) (hp : f.put o.dst undefA = some f1) :
      EntOk P ops o f s ⟨o, true, f, s, undefA⟩ ⟨f1.tm, f1.nt, .call g l :: f1.df⟩ s
inductive TraceOk (P : Program) (ops : Array Oper) : List Oper → Fr → St → List Ent → Fr → St → Prop
  | nil (f : Fr) (s : St) : TraceOk P ops [] f s [] f s
  | cons {o : Oper} {l : List Oper} {f f1 f' : Fr} {s s1 s' : St} {e : Ent} {tr : List Ent} (h : EntOk P ops o f s e f1 s1) (ht : TraceOk P ops l f1 s1 tr f' s') : TraceOk P ops (o :: l) f s (e :: tr) f' s'
theorem EntOk.nx {ops : Array Oper} {o : Oper} {f f1 : Fr} {s s1 : St} {e : Ent} (h : EntOk P ops o f s e f1 s1) : s.nx ≤ s1.nx := by
  cases h <;> first | exact Nat.le_refl _ | exact Nat.le_succ _ | assumption
theorem TraceOk.nx {ops : Array Oper} {l : List Oper} {f f' : Fr} {s s' : St} {tr : List Ent} (h : TraceOk P ops l f s tr f' s') : s.nx ≤ s'.nx := by
  induction h with
  | nil => exact Nat.le_refl _
  | cons h _ ih => exact Nat.le_trans h.nx ih
theorem not_defer {o : Oper} (hk : kindOf P o.op ≠ .e) (c : Call) : o.op ≠ .defer c := fun e => hk (by rw [e]; rfl)
theorem run_defer {ι : Io} {ρ : Operand → Option AV} {σ : Operand → Value} {o : Oper} {c : Call} {s s' : St} {g : FuncId} {l : List AV} (hd : o.op = .defer c) (hp : eA P ρ s o.op = some (.defer g l, s')) (hx : ∀ x ∈ o.op.operands, ∀ u, ρ x = some u → VR ι u (σ x)) (w : World) :
    s' = s ∧ ∃ d, (execOp σ o).run P w = .ok (.defer d) w ∧ ADR P ι (.call g l) d := by
  rw [hd] at hp hx
  simp only [eA] at hp
  split at hp
  · rename_i args gg ha hcal
    split at hp
    · rename_i g0 first captured hg
      split at hp
      · rename_i g' l' hc
        cases hp
        refine ⟨rfl, ?_⟩
        have hargs := evs_VRs (ι := ι) (σ := σ) c.args.toList args ha fun x hx' => hx x (by show x ∈ c.operands; unfold Call.operands; exact Array.mem_append.2 (.inr (Array.mem_toList_iff.1 hx')))
        have hgv := hx gg (by show gg ∈ c.operands; unfold Call.operands; rw [hcal]; exact Array.mem_append.2 (.inl (by simp))) _ hg
        simp only [VR] at hgv
        obtain ⟨xs, ys, hs, h1, h2⟩ := hgv
        unfold callA at hc
        split at hc
        · rename_i fn hfn
          split at hc
          · rename_i body hb
            split at hc
            · cases hc
            · rename_i hname
              cases hc
              refine ⟨{ target := .fn (.func g) ys, args := xs ++ c.args.map σ }, ?_, .func g, ys, rfl, xs ++ c.args.map σ ++ ys, ?_, ?_⟩
              · simp only [execOp, hd, resolve, hcal, hs, Deferred.ofValue, Sem.run_bind, Sem.run_pure, Result.andThen_ok]
              · rw [Array.toList_append, Array.toList_append, Array.toList_map]
                exact (h1.append hargs).append h2
              · intro w
                simp only [invoke, callFunc, Sem.run_bind, run_program, Result.andThen_ok, hfn]
                simp [hname, hb]
          · cases hc
        · cases hc
      · cases hp
    · cases hp
  · cases hp
theorem put_facts {f f1 : Fr} {d : Option Tmp} {v : AV} (h : f.put d v = some f1) : f1.nt = f.nt ∧ f1.df = f.df ∧ (∀ t, f1.tm.get t = if d = some t then some v else f.tm.get t) ∧ ∀ t, d = some t → t < f.nt := by
  cases d with
  | none => simp only [Fr.put] at h; cases h; exact ⟨rfl, rfl, fun t => by simp, fun t ht => by cases ht⟩
  | some d =>
    simp only [Fr.put] at h
    split at h
    · rename_i hd
      cases h
      refine ⟨rfl, rfl, fun t => ?_, fun t ht => by cases ht; exact hd⟩
      show (f.tm.set d (some v)).get t = _
      rw [Tr.get_set]
      by_cases e : t = d
      · subst e; simp
      · rw [if_neg e, if_neg (fun h => e (Option.some.inj h).symm)]
    · cases h
theorem EntOk.df {ops : Array Oper} {o : Oper} {f f1 : Fr} {s s1 : St} {e : Ent} (h : EntOk P ops o f s e f1 s1) : f.df.length ≤ f1.df.length := by
  cases h with
  | off hw hp => rw [(put_facts hp).2.1]; exact Nat.le_refl _
  | q hw hk hv hp => rw [(put_facts hp).2.1]; exact Nat.le_refl _
  | a hw hk hv hp => rw [(put_facts hp).2.1]; exact Nat.le_refl _
  | e hw hk hn hv hp => rw [(put_facts hp).2.1]; exact Nat.le_refl _
  | d c hd hw hk hv hp => rw [List.length_cons, (put_facts hp).2.1]; exact Nat.le_succ _
theorem TraceOk.df {ops : Array Oper} {l : List Oper} {f f' : Fr} {s s' : St} {tr : List Ent} (h : TraceOk P ops l f s tr f' s') : f.df.length ≤ f'.df.length := by
  induction h with
  | nil => exact Nat.le_refl _
  | cons h _ ih => exact Nat.le_trans h.df ih
/-- One operation behind the other. -/
theorem seq_sound {ops : Array Oper} {l : List Oper} {f f' : Fr} {s s' : St} {tr : List Ent} (h : TraceOk P ops l f s tr f' s') : ∀ (i : Nat), ops.toList.drop i = l → ∀ (b : Frame) (ι : Io) (a : Act) (w : World) (k : List Item) (cs : List Frame),
    CsOk P b.kind b.roundOf cs → FR P ι f a → Rel P ι s.obj w → Fresh ι s.nx s'.nx → (b.roundOf = none ∨ f'.df.length = f.df.length) →
    ∃ ι' a' w', Step P ι s.obj s.nx w ι' s'.obj s'.nx w' ∧ FR P ι' f' a' ∧
      Steps P (lone (b.atR a (.inRegion ops (List.range' i l.length) :: k)) cs w) (lone (b.atR a' k) cs w') := by
  induction h with
  | nil f s =>
    intro i hi b ι a w k cs hcs hf hr hfr _
    exact ⟨ι, a, w, Step.refl hr, hf, .one stepR_region_end⟩
  | @cons o l f f1 f' s s1 s' e tr h ht ih =>
    intro i hi b ι a w k cs hcs hf hr hfr hro
    have hoi : ops[i]? = some o := by
      have : (ops.toList.drop i)[0]? = some o := by rw [hi]; rfl
      rw [List.getElem?_drop] at this
      simpa using this
    have hdrop : ops.toList.drop (i + 1) = l := by rw [← List.drop_drop, hi]; rfl
    have hx : OpsR ι f a o := fun x _ v hv => ev_R hf x v hv
    have hlen : List.range' i (o :: l).length = i :: List.range' (i + 1) l.length := by simp [List.range'_succ]
    rw [hlen]
    have hnx1 := h.nx
    have hnx2 := ht.nx
    have hdf1 := h.df
    have hdf2 := ht.df
    have hro' : b.roundOf = none ∨ f'.df.length = f1.df.length := hro.imp id fun h => by omega
    have go : ∀ (ι1 : Io) (a1 : Act) (w1 : World), Step P ι s.obj s.nx w ι1 s1.obj s1.nx w1 → FR P ι1 f1 a1 →
        Steps P (lone (b.atR a (.inRegion ops (i :: List.range' (i + 1) l.length) :: k)) cs w) (lone (b.atR a1 (.inRegion ops (List.range' (i + 1) l.length) :: k)) cs w1) →
        ∃ ι' a' w', Step P ι s.obj s.nx w ι' s'.obj s'.nx w' ∧ FR P ι' f' a' ∧ Steps P (lone (b.atR a (.inRegion ops (i :: List.range' (i + 1) l.length) :: k)) cs w) (lone (b.atR a' k) cs w') := by
      intro ι1 a1 w1 hst hf1 hss
      obtain ⟨ι', a', w', h1, h2, h3⟩ := ih (i + 1) hdrop b ι1 a1 w1 k cs hcs hf1 hst.rel (hfr.right hst) hro'
      exact ⟨ι', a', w', hst.trans h1, h2, hss.trans h3⟩
    cases h with
    | off hw hp =>
      exact go ι _ w (Step.refl hr) (hf.put hp (u := undef) (by simp only [undefA, VR, undef]; exact ⟨_, rfl, VRs.nil⟩)) (.one (step_unwanted hoi (guard_R hf hw)))
    | q hw hk hv hp =>
      obtain ⟨u, h1, h2⟩ := run_qA hr hv hx
      exact go ι _ w (Step.refl hr) (hf.put hp h2) (.one (step_value hoi (guard_R hf hw) (not_defer (by rw [hk]; simp)) h1))
    | a hw hk hv hp =>
      obtain ⟨u, w1, h1, ⟨⟨p, x, g1, g2, g3⟩, g4, g5, g6⟩⟩ := run_aA hv hx w
      obtain ⟨ι1, h2, h3⟩ := step_new hr (hfr _ (Nat.le_refl _) (by simp at hnx2; omega)) g2 g1 g4 g5 g6
      exact go ι1 _ w1 h2 ((hf.mono h2.le).put hp (g3 ι1 _ h3)) (.one (step_value hoi (guard_R hf hw) (not_defer (by rw [hk]; simp)) h1))
    | e hw hk hn hv hp =>
      obtain ⟨ι1, w1, u, h1, h2, h3⟩ := hv b ι a w k cs (List.range' (i + 1) l.length) ops i hoi (guard_R hf hw) hcs hf.gl hx hr (hfr.left hnx2)
      exact go ι1 _ w1 h1 ((hf.mono h1.le).put hp h2) h3
    | @d f1' g l' c hd hw hk hv hp =>
      have hro0 : b.roundOf = none := by
        rcases hro with h | h
        · exact h
        · have := (put_facts hp).2.1
          have h4 := congrArg List.length this
          simp only [List.length_cons] at hdf2
          omega
      obtain ⟨_, d, h1, h2⟩ := run_defer hd hv hx w
      have hf1 := hf.put hp (u := undef) (by simp only [undefA, VR, undef]; exact ⟨_, rfl, VRs.nil⟩)
      refine go ι (({ a with defers := d :: a.defers } : Act).put o.dst undef) w (Step.refl hr) ⟨hf.gl, ?_, ?_⟩ (.one (step_defer_op hro0 hoi (guard_R hf hw) h1))
      · have := hf1.tm
        cases e : o.dst with
        | none => rw [e] at this; exact this
        | some dd => rw [e] at this; exact this
      · rw [put_defers]
        have := hf1.df
        rw [put_defers] at this
        exact ⟨d, a.defers, rfl, h2, this⟩
end
end Go.Proofs.YtcpmhehklicpfaaGreatDoor.Ev
