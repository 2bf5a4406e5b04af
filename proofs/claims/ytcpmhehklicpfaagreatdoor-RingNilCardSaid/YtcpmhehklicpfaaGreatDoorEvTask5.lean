/- Rounds; all that the reckoner says. -/
import Derived.Test.YtcpmhehklicpfaaGreatDoorEvTask4
namespace Go.Proofs.YtcpmhehklicpfaaGreatDoor.Ev
open Go
set_option linter.unusedVariables false
section
variable {P : Program}
theorem setParams_TmR {ι : Io} : ∀ (ps : List (Tmp × AV)) (qs : List (Tmp × Value)) (nt : Nat) (tm tm' : Tr AV) (tmps : Array Value), setParams ps nt tm = some tm' → ps.map (·.1) = qs.map (·.1) → VRs ι (ps.map (·.2)) (qs.map (·.2)) → TmR ι tm nt tmps →
    TmR ι tm' nt (qs.foldl (fun tmps p => tmps.setIfInBounds p.1 p.2) tmps)
  | [], qs, nt, tm, tm', tmps, h, h1, _, ht => by
    cases qs with
    | nil => simp only [setParams] at h; cases h; exact ht
    | cons q qs => simp at h1
  | (p, v) :: ps, qs, nt, tm, tm', tmps, h, h1, h2, ht => by
    cases qs with
    | nil => simp at h1
    | cons q qs =>
      simp only [List.map_cons, List.cons.injEq] at h1
      simp only [setParams] at h
      split at h
      · rename_i hp
        simp only [List.map_cons, VRs, List.cons.injEq] at h2
        obtain ⟨v', r, ⟨rfl, rfl⟩, h3, h4⟩ := h2
        rw [List.foldl_cons]
        refine setParams_TmR ps qs nt _ tm' _ h h1.2 h4 ?_
        rw [← h1.1]
        exact ht.set hp h3
      · cases h
theorem task_round {rec : Task → St → Option (Res × St)} (hx : P.follows .rangeFuncRecover = true) (hg : Good P rec) {l : Nat} {args : List AV} {s s' : St} {r : Res} (h : evF P rec (.round l args) s = some (r, s')) : s.nx ≤ s'.nx ∧ TaskS P (.round l args) s r s' := by
  simp only [evF] at h
  split at h
  · rename_i L hL
    split at h
    · rename_i hcond
      obtain ⟨hrd, hal⟩ := hcond
      split at h
      · rename_i tm htm
        split at h
        · rename_i f s1 hc1
          obtain ⟨n1, c1⟩ := hg _ _ _ _ hc1
          simp only [TaskS] at c1
          split at h
          · rename_i L1 hL1
            split at h
            · rename_i hrd1
              split at h
              · rename_i x f2 s2 hc2
                obtain ⟨n2, c2⟩ := hg _ _ _ _ hc2
                simp only [TaskS] at c2
                simp only [St.nx_set] at n2
                split at h
                · rename_i L2 hL2 hdf
                  have main : ∀ (st : LoopState) (pd : Option Code), st = (if pd.isNone then .ready else .done) → (pd = match x with | .normal => none | .ret => some .ret | .exit id => some (.exit id)) →
                      RoundS P l args s (.bool pd.isNone) (s2.set l (.loop { L2 with state := st, pend := pd })) := by
                    intro st pd hst hpd ι w as c cs hgl has hr hfr
                    simp only [St.nx_set] at hfr ⊢
                    obtain ⟨b, y, M, m1, m2, m3, m4, m5, m6, m7, m8⟩ := hr.loop hL
                    have has' : as.size = M.params.size := by have := has.len; simp at this; rw [m5]; omega
                    have hy := run_yield (P := P) m2 has'
                    have htmR : TmR ι tm L.nt ((M.params.zip as).foldl (fun tmps (t, a) => tmps.setIfInBounds t a) M.tmps) := by
                      rw [← Array.foldl_toList, Array.toList_zip]
                      have hpl : L.params.toList.length = args.length := by simp [hal]
                      have hpl' : M.params.toList.length = as.toList.length := by simp [has']
                      refine setParams_TmR (L.params.toList.zip args) (M.params.toList.zip as.toList) L.nt L.tm tm M.tmps htm ?_ ?_ m8
                      · rw [List.map_fst_zip (by omega), List.map_fst_zip (by omega), m5]
                      · rw [List.map_snd_zip (by omega), List.map_snd_zip (by omega)]; exact has
                    let bb : Frame := { (default : Frame) with fn := M.fn, kind := .normal, roundOf := some b }
                    let a0 : Act := { tmps := (M.params.zip as).foldl (fun tmps (t, a) => tmps.setIfInBounds t a) M.tmps, defers := [] }
                    have hb0 : Frame.round b M.fn ((M.params.zip as).foldl (fun tmps (t, a) => tmps.setIfInBounds t a) M.tmps) M.assign M.body .normal = bb.atR a0 [.code M.assign, .beginRound, .code M.body] := by
                      simp [Frame.round, Frame.atR, bb, a0]
                    have hcs : CsOk P bb.kind bb.roundOf (c :: cs) := .inl ⟨rfl, .inr hx⟩
                    have ld1 := c1.1
                    have ld2 := c2.1
                    simp only [List.length_nil] at ld1
                    have hf2 : f2.df.length = 0 := by rw [hdf]; rfl
                    obtain ⟨ι1, a1, w1, t1, g1, l1⟩ := c1.2 bb ι a0 w [.beginRound, .code M.body] (c :: cs) hcs ⟨hgl, htmR, rfl⟩ hr (hfr.left n2) (.inr (by simp only [List.length_nil]; omega))
                    rw [← m6] at l1
                    obtain ⟨b1, y1, M1, p1, p2, p3, p4, p5, p6, p7, p8⟩ := t1.rel.loop hL1
                    have : (b1, y1) = (b, y) := by have := t1.le _ _ m1; rw [p1] at this; exact Option.some.inj this
                    cases this
                    have t2 := step_put (p := .loop { M1 with state := .busy }) t1.rel hL1 p1 p2 (o := .loop { L1 with state := .busy }) ⟨_, rfl, rfl, p4, p5, p6, p7, p8⟩
                    have hbr := run_beginRound (P := P) p2 (by rw [p3]; exact hrd1)
                    have t12 := t1.trans t2
                    obtain ⟨ι3, a3, w3, t3, g3, l3⟩ := c2.2 bb ι1 a1 _ [] (c :: cs) hcs g1 t2.rel (hfr.right t12) (.inr (by omega))
                    rw [← m7] at l3
                    obtain ⟨b2, y2, M2, q1, q2, q3, q4, q5, q6, q7, q8⟩ := t3.rel.loop hL2
                    have : (b2, y2) = (b, y) := by have := t3.le _ _ p1; rw [q1] at this; exact Option.some.inj this
                    cases this
                    have her := run_endRound (P := P) pd q2
                    have t4 := step_put (p := .loop { M2 with state := if pd.isNone then .ready else .done, pending := pd }) t3.rel hL2 q1 q2 (o := .loop { L2 with state := st, pend := pd }) ⟨_, rfl, hst.symm, rfl, q5, q6, q7, q8⟩
                    refine ⟨ι3, _, .bool pd.isNone, b, y, _, _, _, _, (t12.trans t3).trans t4, by simp only [VR], m1, hy, ?_⟩
                    rw [hb0]
                    refine Steps.trans l1 (.head (stepR_beginRound rfl hbr) ?_)
                    cases x with
                    | normal =>
                      simp only at hpd; subst hpd
                      exact Steps.trans l3 (.one (stepR_round_end rfl rfl her))
                    | ret =>
                      simp only at hpd; subst hpd
                      obtain ⟨k₁, h1⟩ := l3
                      exact Steps.trans h1 (.one (stepR_round_ret rfl rfl her))
                    | exit id =>
                      simp only at hpd; subst hpd
                      obtain ⟨k₁, h0, h1⟩ := l3
                      exact Steps.trans h1 (.one (stepR_round_exit rfl rfl h0 her))
                  cases x with
                  | normal =>
                    simp only at h; cases h
                    exact ⟨by simp only [St.nx_set]; omega, main .ready none rfl rfl⟩
                  | ret =>
                    simp only at h; cases h
                    exact ⟨by simp only [St.nx_set]; omega, main .done (some .ret) rfl rfl⟩
                  | exit id =>
                    simp only at h; cases h
                    exact ⟨by simp only [St.nx_set]; omega, main .done (some (.exit id)) rfl rfl⟩
                · cases h
              · cases h
            · cases h
          · cases h
        · cases h
      · cases h
    · cases h
  · cases h
theorem good (hm : P.follows .mixedOrders = true) (hx : P.follows .rangeFuncRecover = true) : ∀ n, Good P (evN P n)
  | 0 => fun t s r s' h => by cases h
  | n + 1 => fun t s r s' h => by
    have hg := good hm hx n
    simp only [evN] at h
    cases t with
    | code c f => exact task_code hm hg h
    | ops draw ops l acc f => exact task_ops hg h
    | call g args => exact task_call hg h
    | defs l => exact task_defs hg h
    | round l args => exact task_round hx hg h
end
end Go.Proofs.YtcpmhehklicpfaaGreatDoor.Ev
