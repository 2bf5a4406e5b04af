/- A range over a function; its rounds. -/
import Derived.Test.YtcpmhehklicpfaaGreatDoorEvTask
namespace Go.Proofs.YtcpmhehklicpfaaGreatDoor.Ev
open Go
set_option linter.unusedVariables false
section
variable {P : Program}
theorem put_else {b : Nat} {o o' : Obj} {w : World} (h : w.heap[b]? = some o) : (w.putObj b o').heap[b]? = some o' ∧ (w.putObj b o').heap.size = w.heap.size ∧ ∀ c, c ≠ b → (w.putObj b o').heap[c]? = w.heap[c]? :=
  ⟨World.putObj_heap_same (Array.getElem?_eq_some_iff.1 h).1, World.putObj_size, fun _ hc => World.putObj_heap_other hc⟩
/-- A record turned. -/
theorem step_put {ι : Io} {s : St} {w : World} {k b x : Nat} {o0 o : AObj} {p0 p : Obj} (hr : Rel P ι s.obj w) (h0 : s.obj k = some o0) (hi : ι k = some (b, x)) (hw : w.heap[b]? = some p0) (hp : ObjR P ι x o p) (hno : ∀ c e o, o0 ≠ .cells c e o true := by intros; simp) :
    Step P ι s.obj s.nx w ι (s.set k o).obj s.nx (w.putObj b p) := by
  obtain ⟨h1, h2, h3⟩ := put_else (o' := p) hw
  exact step_set hr h0 hi hp h1 h2 h3 rfl rfl rfl hno
theorem Rel.loop {ι : Io} {s : St} {w : World} {k : Nat} {L : ALoop} (hr : Rel P ι s.obj w) (h : s.obj k = some (.loop L)) : ∃ b x M, ι k = some (b, x) ∧ w.heap[b]? = some (.loop M) ∧ M.state = L.state ∧ M.pending = L.pend ∧ M.params = L.params ∧ M.assign = L.assign ∧ M.body = L.body ∧ TmR ι L.tm L.nt M.tmps := by
  obtain ⟨b, x, p, h1, h2, M, rfl, h3⟩ := hr.live _ _ h
  exact ⟨b, x, M, h1, h2, h3⟩
theorem code_rangeFunc {rec : Task → St → Option (Res × St)} (hg : Good P rec) {g : Operand} {ps : Array Tmp} {asg body : Code} {f : Fr} {s : St} {r : Res} {s' : St} (h : evF P rec (.code (.rangeFunc g ps asg body) f) s = some (r, s')) :
    s.nx ≤ s'.nx ∧ TaskS P (.code (.rangeFunc g ps asg body) f) s r s' := by
  simp only [evF] at h
  split at h
  · rename_i fk first captured hgv
    split at h
    · rename_i k l hc
      obtain ⟨e1, hcf⟩ := callA_enter hc
      cases e1
      split at h
      · rename_i v s1 hcall
        obtain ⟨n1, hcs1⟩ := hg _ _ _ _ hcall
        simp only [TaskS] at hcs1
        simp only [St.nx_new] at n1
        -- what is common
        have key : ∀ (b : Frame) (ι : Io) (a : Act) (w : World) (kk : List Item) (cs : List Frame), b.roundOf = none → FR P ι f a → Rel P ι s.obj w → Fresh ι s.nx s1.nx →
            ∃ ι2 w2 a2, a2.tmps = a.tmps ∧ Step P ι s.obj s.nx w ι2 s1.obj s1.nx w2 ∧ FR P ι2 ⟨f.tm, f.nt, .coll s.nx :: f.df⟩ a2 ∧ ι2 (s.nx + 1) = some (w.heap.size + 1, 0) ∧
              Steps P (lone (b.atR a (.code (.rangeFunc g ps asg body) :: kk)) cs w) (lone (b.atR a2 (.endRangeFunc (w.heap.size + 1) :: kk)) cs w2) := by
          intro b ι a w kk cs hro hf hr hfr
          have he := run_enterLoop_outer (P := P) (w := w) b.fn a.tmps ps asg body
          rw [← hro] at he
          obtain ⟨ι1, t1, i1⟩ := step_new (w' := w.alloc (.deferred (some []))) (o := .noDefs) (p := .deferred (some [])) (x := 0) hr (hfr _ (Nat.le_refl _) (by omega)) rfl rfl rfl rfl rfl
          have hf1 := hf.mono t1.le
          have hfr1 : ι1 (s.new .noDefs).nx = none := by
            cases e : ι1 (s.new .noDefs).nx with
            | none => rfl
            | some q =>
              rcases t1.new _ _ e with h | ⟨_, h⟩
              · rw [hfr _ (by simp) (by simp; omega)] at h; cases h
              · exact absurd h (Nat.lt_irrefl _)
          obtain ⟨ι2, t2, i2⟩ := step_new (w' := (w.alloc (.deferred (some []))).alloc (.loop { state := .ready, pending := none, fn := b.fn, tmps := a.tmps, params := ps, assign := asg, body, defers := w.heap.size })) (o := .loop ⟨.ready, f.tm, f.nt, ps, asg, body, none⟩) (x := 0) t1.rel hfr1 ⟨_, rfl, rfl, rfl, rfl, rfl, rfl, hf1.tm⟩ rfl rfl rfl rfl
          have hsz : (w.alloc (.deferred (some []))).heap.size = w.heap.size + 1 := World.size_alloc _ _
          rw [hsz] at i2
          simp only [St.nx_new] at i2 t2
          have hf2 := hf1.mono t2.le
          have hgR := ev_R hf g _ hgv
          simp only [VR] at hgR
          obtain ⟨xs, ys, hs, v1, v2⟩ := hgR
          have hlist : VRs ι2 ((first ++ [.yield (s.nx + 1)]) ++ captured) (xs ++ #[Value.func (.yield (w.heap.size + 1)) #[] #[]] ++ ys).toList := by
            rw [Array.toList_append, Array.toList_append]
            refine ((v1.mono (t1.le.trans t2.le)).append ?_).append (v2.mono (t1.le.trans t2.le))
            refine VRs.cons ?_ VRs.nil
            simp only [VR]
            exact ⟨_, _, i2, rfl⟩
          obtain ⟨ι3, w3, u, fr, t3, _, hst, hk, hgo, _⟩ := hcs1 .normal ι2 _ (xs ++ #[Value.func (.yield (w.heap.size + 1)) #[] #[]] ++ ys)
            (b.atR { a with defers := { target := .collected w.heap.size, args := #[] } :: a.defers } (.inRangeFunc (w.heap.size + 1) :: kk) :: cs) (.inl ⟨rfl, .inl rfl⟩) hf2.gl hlist t2.rel
            (by
              have := (Fresh.right (m := (s.new .noDefs).nx) hfr (p := s1.nx) t1)
              exact this.right t2)
          have hl : fr.leaving P w3 (.returned u) := ⟨hgo.1, hgo.2.1, hk, hgo.2.2⟩
          have t12 := (t1.trans t2).trans t3
          refine ⟨ι3, w3, { a with defers := { target := .collected w.heap.size, args := #[] } :: a.defers }, rfl, t12, ⟨fun g hg => ?_, hf.tm.mono t12.le, ?_⟩, t3.le _ _ i2, ?_⟩
          · obtain ⟨y, hy⟩ := hf.gl g hg; exact ⟨y, t12.le _ _ hy⟩
          · exact ⟨_, _, rfl, ⟨_, _, t3.le _ _ (t2.le _ _ i1), rfl⟩, hf.df.mono t12.le⟩
          · refine .head (stepR_rangeFunc (w₁' := (w.alloc (.deferred (some []))).alloc (.loop { state := .ready, pending := none, fn := b.fn, tmps := a.tmps, params := ps, assign := asg, body, defers := w.heap.size })) (mark := [{ target := .collected w.heap.size, args := #[] }]) (d := { target := .fn (.func fk) ys, args := xs ++ #[Value.func (.yield (w.heap.size + 1)) #[] #[]] }) he ?_ ?_) (Steps.trans hst (.one ?_))
            · simp only [resolve, hs, Deferred.ofValue, Sem.run_pure]
              simp [Act.eval]
            · simp only [invoke]
              exact hcf _ _
            · rw [← finish_atR_inRangeFunc _ u]
              exact step_leave_returned hl
        split at h
        · rename_i L hL
          -- the record's end
          have endl : ∀ (ι2 : Io) (w2 : World) (a2 : Act) (q : Nat), Rel P ι2 s1.obj w2 → FR P ι2 ⟨f.tm, f.nt, .coll s.nx :: f.df⟩ a2 → ι2 (s.nx + 1) = some (q, 0) → L.state ≠ .busy → ∃ w3, Step P ι2 s1.obj s1.nx w2 ι2 (s1.set (s.nx + 1) (.loop { L with state := .exhausted })).obj s1.nx w3 ∧
              (Instr.endLoop q).run P w2 = .ok L.pend w3 := by
            intro ι2 w2 a2 q hr2 _ hq hnb
            obtain ⟨b, x, M, m1, m2, m3, m4, m5, m6, m7, m8⟩ := hr2.loop hL
            rw [hq] at m1; cases m1
            refine ⟨_, step_put (p := .loop { M with state := .exhausted }) hr2 hL hq m2 ⟨_, rfl, rfl, m4, m5, m6, m7, m8⟩, ?_⟩
            rw [← m4]
            exact run_endLoop m2 (by rw [m3]; exact hnb)
          split at h
          · cases h
          · rename_i hpend hnb
            cases h
            refine ⟨by simp only [St.nx_set]; omega, ?_⟩
            simp only [TaskS]
            refine ⟨by simp, fun b ι a w kk cs hcs hf hr hfr hro => ?_⟩
            have hro0 : b.roundOf = none := hro.resolve_right (by simp)
            obtain ⟨ι2, w2, a2, _, t1, f1, i1, st⟩ := key b ι a w kk cs hro0 hf hr hfr
            obtain ⟨w3, t2, e2⟩ := endl ι2 w2 a2 _ t1.rel f1 i1 hnb
            rw [hpend] at e2
            exact ⟨ι2, a2, w3, t1.trans t2, f1, Steps.trans st (.one (stepR_endRangeFunc e2))⟩
          · rename_i c hpend hnb
            obtain ⟨n2, hcd⟩ := hg _ _ _ _ h
            simp only [St.nx_set] at n2
            refine ⟨by omega, ?_⟩
            cases r with
            | val v => simp only [TaskS] at hcd
            | «at» x f' =>
              simp only [TaskS] at hcd ⊢
              have hl1 := hcd.1
              simp only [List.length_cons] at hl1
              refine ⟨by omega, fun b ι a w kk cs hcs hf hr hfr hro => ?_⟩
              have hro0 : b.roundOf = none := hro.resolve_right (by omega)
              obtain ⟨ι2, w2, a2, _, t1, f1, i1, st⟩ := key b ι a w kk cs hro0 hf hr (hfr.left n2)
              obtain ⟨w3, t2, e2⟩ := endl ι2 w2 a2 _ t1.rel f1 i1 hnb
              rw [hpend] at e2
              have t12 := t1.trans t2
              obtain ⟨ι4, a4, w4, t4, f4, l4⟩ := hcd.2 b ι2 a2 w3 kk cs hcs f1 t2.rel (hfr.right t12) (.inl hro0)
              exact ⟨ι4, a4, w4, t12.trans t4, f4, l4.head (st.trans (.one (stepR_endRangeFunc e2)))⟩
        · cases h
      · cases h
    · cases h
  · cases h
end
end Go.Proofs.YtcpmhehklicpfaaGreatDoor.Ev
