/- Calls, deferred calls, rounds. -/
import Derived.Test.YtcpmhehklicpfaaGreatDoorEvTask3
namespace Go.Proofs.YtcpmhehklicpfaaGreatDoor.Ev
open Go
set_option linter.unusedVariables false
section
variable {P : Program}
theorem frameOf_get : ∀ (l : List AV) (i : Nat) (t : Tr AV) (n : Nat), (frameOf i l t).get n = if i ≤ n ∧ n < i + l.length then l[n - i]? else t.get n
  | [], i, t, n => by simp only [frameOf, List.length_nil, Nat.add_zero]; rw [if_neg (by omega)]
  | v :: r, i, t, n => by
    simp only [frameOf, List.length_cons]
    rw [frameOf_get r (i + 1)]
    by_cases h1 : i + 1 ≤ n ∧ n < i + 1 + r.length
    · rw [if_pos h1, if_pos (by omega)]
      obtain ⟨m, rfl⟩ : ∃ m, n = i + 1 + m := ⟨n - (i + 1), by omega⟩
      rw [show i + 1 + m - (i + 1) = m by omega, show i + 1 + m - i = m + 1 by omega]
      rfl
    · rw [if_neg h1, Tr.get_set]
      by_cases h2 : n = i
      · subst h2
        rw [if_pos rfl, if_pos (by omega)]
        simp
      · rw [if_neg h2, if_neg (by omega)]
theorem frame_TmR {ι : Io} {l : List AV} {as : Array Value} (h : VRs ι l as.toList) (n : Nat) : TmR ι (frameOf 0 l .lf) (max l.length n) (as ++ Array.replicate (n - as.size) undef) := by
  have hlen : l.length = as.size := by have := h.len; simpa using this
  refine ⟨by simp; omega, fun t v hv => ?_⟩
  rw [frameOf_get] at hv
  split at hv
  · rename_i hlt
    simp only [Nat.zero_le, Nat.zero_add, true_and, Nat.sub_zero] at hlt hv
    refine ⟨by omega, ?_⟩
    obtain ⟨u, h1, h2⟩ := h.at hv
    have hlt' : t < as.size := by omega
    simp only [Array.getElem?_toList] at h1
    rw [Array.getD_eq_getD_getElem?, Array.getElem?_append_left hlt', h1]
    exact h2
  · simp [Tr.get] at hv
def resOne (tmps : Array Value) (r : ResultVar) : Sem Value :=
  match r with
  | .tmp t => pure (tmps.getD t undef)
  | .cell a t => do loadVar t (← asAddr (tmps.getD a undef))
theorem results_eq (fn : Func) (tmps : Array Value) : results fn tmps = (do
    let vs ← fn.results.mapM (resOne tmps)
    pure (if h : vs.size = 1 then vs[0] else .tuple vs)) := by
  unfold results
  have : (fun r : ResultVar => resOne tmps r) = resOne tmps := rfl
  rw [← this]
  unfold resOne
  rfl
theorem run_resultA {ι : Io} {h : Hp} {w : World} {f : Fr} {tmps : Array Value} (hr : Rel P ι h w) (ht : TmR ι f.tm f.nt tmps) : ∀ (rs : List ResultVar) (l : List AV), resultA P h f rs = some l →
    ∃ us, VRs ι l us ∧ (rs.mapM (resOne tmps)).run P w = .ok us w
  | [], l, hl => by simp only [resultA] at hl; cases hl; exact ⟨[], VRs.nil, by simp⟩
  | .tmp t :: rs, l, hl => by
    simp only [resultA] at hl
    split at hl
    · rename_i v l' hv hl'
      cases hl
      obtain ⟨us, h1, h2⟩ := run_resultA hr ht rs l' hl'
      refine ⟨tmps.getD t undef :: us, VRs.cons (ht.2 t v hv).2 h1, ?_⟩
      rw [List.mapM_cons]
      simp only [resOne, Sem.run_bind, Sem.run_pure, Result.andThen_ok, h2]
    · cases hl
  | .cell a t :: rs, l, hl => by
    simp only [resultA] at hl
    split at hl
    · rename_i p hp
      split at hl
      · rename_i v l' hv hl'
        cases hl
        obtain ⟨us, h1, h2⟩ := run_resultA hr ht rs l' hl'
        obtain ⟨k, o⟩ := p
        obtain ⟨b, x, hb, u, h3, h4⟩ := run_loadA hv hr
        have hpR := (ht.2 a _ hp).2
        simp only [VR] at hpR
        obtain ⟨b', x', hb', hs⟩ := hpR
        rw [hb] at hb'; cases hb'
        refine ⟨u :: us, VRs.cons h4 h1, ?_⟩
        rw [List.mapM_cons]
        simp only [resOne, hs, asAddr, Sem.run_bind, Sem.run_pure, Result.andThen_ok, h3, h2]
      · cases hl
    · cases hl
theorem run_resultsA {ι : Io} {h : Hp} {w : World} {f : Fr} {tmps : Array Value} {fn : Func} {v : AV} (hr : Rel P ι h w) (ht : TmR ι f.tm f.nt tmps) (hv : resultsA P h f fn.results.toList = some v) :
    ∃ u, VR ι v u ∧ (results fn tmps).run P w = .ok u w := by
  unfold resultsA at hv
  cases e : resultA P h f fn.results.toList with
  | none => rw [e] at hv; simp at hv
  | some l =>
    obtain ⟨us, h1, h2⟩ := run_resultA hr ht _ _ e
    have h3 : (results fn tmps).run P w = .ok (if h : us.toArray.size = 1 then us.toArray[0] else .tuple us.toArray) w := by
      rw [results_eq, Array.mapM_eq_mapM_toList]
      simp only [Sem.run_bind, Sem.run_map, h2, Result.andThen_ok, Sem.run_pure]
    rw [h3]
    rw [e] at hv
    have hlen := h1.len
    match l, hv, h1, hlen with
    | [], hv, h1, hlen =>
      simp at hlen hv
      subst hv
      have : us = [] := by cases us with | nil => rfl | cons a b => simp at hlen
      subst this
      exact ⟨_, by simp only [VR]; exact ⟨_, rfl, VRs.nil⟩, rfl⟩
    | [a], hv, h1, hlen =>
      simp at hv; subst hv
      simp only [VRs] at h1
      obtain ⟨u, r, rfl, h4, rfl⟩ := h1
      exact ⟨u, h4, by simp⟩
    | a :: b :: l, hv, h1, hlen =>
      simp at hv; subst hv
      refine ⟨.tuple us.toArray, by simp only [VR]; exact ⟨_, rfl, by simpa using h1⟩, ?_⟩
      rw [dif_neg]
      simp at hlen ⊢; omega
theorem step_coll {ι : Io} {s : St} {w : World} {k b x : Nat} (hr : Rel P ι s.obj w) (h0 : s.obj k = some .noDefs) (hi : ι k = some (b, x)) (o : Obj) (hb : ∃ p, w.heap[b]? = some p) :
    Step P ι s.obj s.nx w ι (s.kill k).obj s.nx (w.putObj b o) := by
  obtain ⟨p, hp⟩ := hb
  obtain ⟨_, h2, h3⟩ := put_else (o' := o) hp
  have hs : ∀ m y, (s.kill k).obj m = some y → s.obj m = some y ∧ m ≠ k := fun m y h => by
    rw [St.obj_kill] at h; by_cases e : m = k
    · simp [e] at h
    · rw [if_neg e] at h; exact ⟨h, e⟩
  have away : ∀ m y c z, s.obj m = some y → m ≠ k → ι m = some (c, z) → c ≠ b := fun m y c z h e h1 e' => e (hr.inj m k y .noDefs c z x h h0 h1 (by rw [e']; exact hi))
  refine ⟨⟨fun m y h => ?_, fun m m' y y' c z z' h h' => hr.inj m m' y y' c z z' (hs _ _ h).1 (hs _ _ h').1, fun d c hd => ?_, fun m y c z h => hr.sep m y c z (hs _ _ h).1⟩, Io.le.refl _, fun _ _ h => .inl h, Nat.le_refl _, by rw [h2]; exact Nat.le_refl _, fun c hc hno => ?_, fun m y c z h h1 => .inl ⟨m, y, z, (hs _ _ h).1, h1⟩, rfl, rfl, rfl, fun m c e oo c' z hm h1 => ?_, fun _ _ h => .inl h⟩
  · obtain ⟨g1, g2⟩ := hs m y h
    obtain ⟨c, z, q, e1, e2, e3⟩ := hr.live m y g1
    exact ⟨c, z, q, e1, by rw [h3 c (away m y c z g1 g2 e1)]; exact e2, e3⟩
  · obtain ⟨e, lo, hi', h4⟩ := hr.fz d c hd
    have hfz := hr.sep k .noDefs b x h0 rfl hi
    exact ⟨e, lo, hi', by rw [h3 d (fun e' => by subst e'; rw [hfz] at hd; cases hd)]; exact h4⟩
  · exact h3 c fun e => by subst e; exact hno k _ x h0 hi
  · have hmk : m ≠ k := fun e' => by rw [e', h0] at hm; cases hm
    exact ⟨by rw [St.obj_kill, if_neg hmk]; exact hm, h3 c' (away m _ c' z hm hmk h1)⟩
theorem task_defs {rec : Task → St → Option (Res × St)} (hg : Good P rec) {l : List AD} {s s' : St} {r : Res} (h : evF P rec (.defs l) s = some (r, s')) : s.nx ≤ s'.nx ∧ TaskS P (.defs l) s r s' := by
  cases l with
  | nil =>
    simp only [evF] at h; cases h
    refine ⟨Nat.le_refl _, fun fr ι w cs hm hgl hd hr hfr => ⟨ι, w, Step.refl hr, ?_⟩⟩
    simp only [DefsR] at hd
    have : ({ fr with defers := [] } : Frame) = fr := by cases fr; simp at hd; subst hd; rfl
    rw [this]; exact Steps.refl _ _
  | cons d l =>
    cases d with
    | call g args =>
      simp only [evF] at h
      split at h
      · rename_i v s1 hc
        obtain ⟨n1, c1⟩ := hg _ _ _ _ hc
        obtain ⟨n2, c2⟩ := hg _ _ _ _ h
        refine ⟨Nat.le_trans n1 n2, ?_⟩
        cases r with
        | «at» x f' => simp only [TaskS] at c2
        | val v' =>
          simp only [TaskS] at c1 c2 ⊢
          intro fr ι w cs hm hgl hd hr hfr
          obtain ⟨d, ds, hds, ⟨fv, cap, htar, as, has, hinv⟩, hrest⟩ := hd
          have s1' := step_defer (P := P) (cs := cs) (w := w) (by rw [hm]; simp) hds htar (hinv w)
          obtain ⟨ι1, w1, u, fr1, t1, _, st, hk, hgo, _⟩ := c1 .deferred ι w as ({ fr with defers := ds } :: cs) (.inr ⟨rfl, rfl, _, _, rfl, hm⟩) hgl has hr (hfr.left n2)
          have s2 := step_going_returned (c := { fr with defers := ds }) (cs := cs) hk hgo
          have hset : settle fr.mode = .returning := by rw [hm]; rfl
          simp only [hset] at s2
          obtain ⟨ι2, w2, t2, st2⟩ := c2 { fr with defers := ds, mode := .returning } ι1 w1 cs rfl (fun g hg => by obtain ⟨y, hy⟩ := hgl g hg; exact ⟨y, t1.le _ _ hy⟩) (hrest.mono t1.le) t1.rel (hfr.right t1)
          refine ⟨ι2, w2, t1.trans t2, .head s1' (Steps.trans st (.head s2 ?_))⟩
          have e : ({ fr with defers := [] } : Frame) = { { fr with defers := ds, mode := .returning } with defers := [] } := by cases fr; simp at hm; subst hm; rfl
          rw [e]; exact st2
      · cases h
    | coll r0 =>
      simp only [evF] at h
      split at h
      · rename_i hob
        obtain ⟨n2, c2⟩ := hg _ _ _ _ h
        simp only [St.nx_kill] at n2
        refine ⟨n2, ?_⟩
        cases r with
        | «at» x f' => simp only [TaskS] at c2
        | val v' =>
          simp only [TaskS] at c2 ⊢
          intro fr ι w cs hm hgl hd hr hfr
          obtain ⟨d, ds, hds, ⟨b, x, hb, hdd⟩, hrest⟩ := hd
          obtain ⟨b', x', p, e1, e2, e3⟩ := hr.live _ _ hob
          rw [hb] at e1; cases e1
          simp only [ObjR] at e3
          subst e3
          have t1 := step_coll hr hob hb (.deferred none) ⟨_, e2⟩
          have hs : step P (lone fr cs w) = .next (lone { fr with defers := ds } cs (w.putObj b (.deferred none))) := by
            refine step_lone_go ?_
            subst hdd
            have hrun := run_takeDeferred (P := P) e2
            simp only [stepG, hm, unwind, hds, Sem.runT_eq, hrun, GStep.bare_after, GStep.bare_go, List.nil_append]
          obtain ⟨ι2, w2, t2, st2⟩ := c2 { fr with defers := ds } ι _ cs hm hgl hrest t1.rel (hfr.right t1)
          exact ⟨ι2, w2, t1.trans t2, .head hs st2⟩
      · cases h
theorem task_call {rec : Task → St → Option (Res × St)} (hg : Good P rec) {g : FuncId} {args : List AV} {s s' : St} {r : Res} (h : evF P rec (.call g args) s = some (r, s')) : s.nx ≤ s'.nx ∧ TaskS P (.call g args) s r s' := by
  simp only [evF] at h
  split at h
  · rename_i fn hfn
    split at h
    · rename_i c hb
      split at h
      · rename_i x f1 s1 hc
        obtain ⟨n1, c1⟩ := hg _ _ _ _ hc
        have main : (x = .normal ∨ x = .ret) → ∀ v1 s2, rec (.defs f1.df) s1 = some (.val v1, s2) → ∀ v, resultsA P s2.obj f1 fn.results.toList = some v → s.nx ≤ s2.nx ∧ CallS P g args s v s2 := by
          intro hx v1 s2 hd v hv
          obtain ⟨n2, c2⟩ := hg _ _ _ _ hd
          refine ⟨Nat.le_trans n1 n2, fun kd ι w as cs hcs hgl has hr hfr => ?_⟩
          simp only [TaskS] at c1 c2
          let b : Frame := { (default : Frame) with fn := g, kind := kd }
          let a : Act := { tmps := as ++ Array.replicate (fn.ntmps - as.size) undef, defers := [] }
          have hen : Frame.enter P g as kd = b.atR a [.code c] := by simp [Frame.enter, Frame.atR, hfn, hb, b, a]; rfl
          have hfR : FR P ι ⟨frameOf 0 args .lf, max args.length fn.ntmps, []⟩ a := ⟨hgl, frame_TmR has fn.ntmps, rfl⟩
          obtain ⟨ι1, a1, w1, t1, g1, l1⟩ := c1.2 b ι a w [] cs hcs hfR hr (hfr.left n2) (.inl rfl)
          have hret : ∃ todo, Steps P (lone (b.atR a [.code c]) cs w) (lone { b.atR a1 todo with mode := .returning } cs w1) := by
            rcases hx with rfl | rfl
            · exact ⟨[], Steps.trans l1 (.one (stepR_end rfl))⟩
            · obtain ⟨k₁, l2⟩ := l1
              exact ⟨_, Steps.trans l2 (.one (stepR_ret rfl))⟩
          obtain ⟨todo, hst⟩ := hret
          obtain ⟨ι2, w2, t2, st2⟩ := c2 { b.atR a1 todo with mode := .returning } ι1 w1 cs rfl g1.gl g1.df t1.rel (hfr.right t1)
          obtain ⟨u, hu, hrun⟩ := run_resultsA t2.rel (g1.tm.mono t2.le) hv
          refine ⟨ι2, w2, u, { b.atR a1 todo with mode := .returning, defers := [] }, t1.trans t2, hu, ?_, rfl, ⟨rfl, rfl, fn, hfn, hrun⟩, rfl⟩
          rw [hen]
          exact Steps.trans hst st2
        split at h
        · cases h
        · rename_i hne
          split at h
          · rename_i v1 s2 hd
            split at h
            · rename_i v hv
              cases h
              refine main ?_ _ _ hd _ hv
              cases x with
              | normal => exact .inl rfl
              | ret => exact .inr rfl
              | exit id => exact absurd rfl (hne id)
            · cases h
          · cases h
      · cases h
    · cases h
  · cases h
end
end Go.Proofs.YtcpmhehklicpfaaGreatDoor.Ev
