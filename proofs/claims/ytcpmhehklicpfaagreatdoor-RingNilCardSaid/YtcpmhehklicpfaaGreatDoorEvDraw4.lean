/- A region that draws its order: each operation, in any order. -/
import Derived.Test.YtcpmhehklicpfaaGreatDoorEvDraw3
namespace Go.Proofs.YtcpmhehklicpfaaGreatDoor.Ev
open Go
set_option linter.unusedVariables false
section
variable {P : Program} {ops : Array Oper} {f0 f' : Fr} {s0 s' : St} {tr : List Ent} {bs : List (List Nat)} {ι0 ι : Io} {a0 a : Act} {w0 w : World} {D : Nat → Prop} {m : Nat} {X : Hp}
theorem isA_isE {e : Ent} (h : isA P e = true) : isE P e = false := by
  simp only [isA, isE, Bool.and_eq_true, decide_eq_true_eq] at h ⊢
  simp [h.2]
theorem Inv.step (H : Drawn P ops f0 s0 tr f' s' bs) (I : Inv P ops f0 f' s0 s' tr ι0 a0 w0 D m X ι a w) {i : Nat} {e : Ent} (he : tr[i]? = some e) (hn : ¬ D i) (hr : ∀ d ∈ e.o.after, Region.binds .any d = true → D d.on)
    {b : Frame} {k : List Item} {cs : List Frame} {rest : List Nat} (hcs : CsOk P b.kind b.roundOf cs) :
    ∃ m' X' ι' a' w', Inv P ops f0 f' s0 s' tr ι0 a0 w0 (fun j => D j ∨ j = i) m' X' ι' a' w' ∧
      Steps P (lone (b.atR a (.inRegion ops (i :: rest) :: k)) cs w) (lone (b.atR a' (.inRegion ops rest :: k)) cs w') := by
  obtain ⟨ho, _, hef⟩ := H.ent_o he
  have hi : i < ops.size := by rw [← H.len]; exact (List.getElem?_eq_some_iff.1 he).1
  have hb : ∀ j ∈ bs.getD i [], D j := H.ready I.cl ho hr
  have hx := I.opsR H he hn hb
  have hnd : isDefer e.o.op = false := H.nodef e (List.mem_of_getElem? he)
  have hdef : ∀ c, e.o.op ≠ .defer c := fun c h => by rw [h] at hnd; cases hnd
  have cl' : ∀ j o, ops[j]? = some o → (D j ∨ j = i) → ∀ d ∈ o.after, Region.binds .any d = true → (D d.on ∨ d.on = i) := fun j o hj hD d hd hbd => by
    rcases hD with hD | rfl
    · exact .inl (I.cl j o hj hD d hd hbd)
    · rw [ho] at hj; cases hj
      exact .inl (hr d hd hbd)
  have dom' : ∀ j, (D j ∨ j = i) → j < ops.size := fun j hD => by
    rcases hD with hD | rfl
    · exact I.dom j hD
    · exact hi
  have hne : ∀ j, D j → j ≠ i := fun j hD h => hn (h ▸ hD)
  rcases H.kinds he with ⟨hrun, hw, h1, hv⟩ | ⟨hrun, hw, hk, hv, h1⟩ | ⟨hrun, hw, hk, ob, mk, ha, hv, h1⟩ | ⟨hrun, hw, hk, hs, hnx⟩
  · refine ⟨m, X, ι, _, w, I.more H he hn hr (by simp [isE, hrun]) (by simp [isA, hrun]) (u := undef) (by rw [hv]; simp only [undefA, VR, undef]; exact ⟨_, rfl, VRs.nil⟩), .one (step_unwanted ho (I.wants H he hn hb hw))⟩
  · obtain ⟨u, g1, g2⟩ := run_qA I.st.rel (I.reads H he hn hb hrun hk hv) hx
    exact ⟨m, X, ι, _, w, I.more H he hn hr (by simp [isE, hk]) (by simp [isA, hk]) g2, .one (step_value ho (I.wants H he hn hb hw) hdef g1)⟩
  · have hA : isA P e = true := by simp [isA, hrun, hk]
    have hal : AlE P tr s' i ob := ⟨e, he, hA, h1⟩
    have hmi : m ≤ i := by
      rcases I.mE with g | ⟨y, g0, g1, g2⟩
      · omega
      · rcases Nat.lt_or_ge i m with h | h
        · exfalso
          by_cases him : i = m - 1
          · rw [← him, he] at g1; cases g1
            rw [isA_isE hA] at g2; cases g2
          · rcases H.pair he g1 (by omega) with h | h
            · exact hn (H.closed I.cl (m - 1) ((I.eD _ _ g1 g2).2 (by omega)) i h)
            · have := ((mayTurn_spec h).2 g2).2
              rw [hA] at this; cases this
        · exact h
    obtain ⟨hnx1, _⟩ := H.al_nx hal
    have hle1 := H.nx hmi (Nat.le_of_lt hi)
    have hle2 := H.le_end (i := i + 1) hi
    have hfr : ι (stAt tr s' i).nx = none := by
      rcases I.fresh (stAt tr s' i).nx hle1 (by omega) with h | ⟨j, o, _, g2, g3, g4⟩
      · exact h
      · exact absurd g2 (fun hD => hne j hD (H.al_inj hal g3 g4).symm)
    have hXn : X (stAt tr s' i).nx = none := by
      cases e : X (stAt tr s' i).nx with
      | none => rfl
      | some y => obtain ⟨_, _, _, e1, _⟩ := I.st.rel.live _ _ e; rw [hfr] at e1; cases e1
    obtain ⟨u, w1, q1, ⟨⟨p, x, r1, r2, r3⟩, r4, r5, r6⟩⟩ := run_aA ha hx w
    obtain ⟨ι1, t1, t2⟩ := step_newX I.st.rel hfr r2 r1 r4 r5 r6
    have hs0 : s0.nx ≤ (stAt tr s' i).nx := by
      have := H.nx (Nat.zero_le i) (Nat.le_of_lt hi)
      rwa [(trace_at H.trc).2.2.1] at this
    obtain ⟨z1, z2, z3⟩ := I.slots H t1.le he hn (u := u) (by rw [hv]; exact r3 ι1 _ t2)
    refine ⟨m, _, ι1, _, w1, ⟨I.st.within t1 hs0 (by omega), I.mle, I.mE, fun j e' he' hE' => ?_, fun k' o hk' => ?_, fun j o hj hD hal' => ?_, fun k' o hk' => ?_, I.wf, fun k' p1 p2 => ?_, fun g hg => ?_, z1, z2, z3, by rw [put_defers]; exact I.df, cl', dom'⟩, .one (step_value ho (I.wants H he hn hb hw) hdef q1)⟩
    · have hji : j ≠ i := fun h => by subst h; rw [he] at he'; cases he'; rw [isA_isE hA] at hE'; cases hE'
      rw [← I.eD j e' he' hE']; simp [hji]
    · have := I.x1 k' o hk'
      have hkn : k' ≠ (stAt tr s' i).nx := fun h => by rw [h, hXn] at this; cases this
      simp only [if_neg hkn]; exact this
    · rcases hD with hD | rfl
      · have : (stAt tr s' j).nx ≠ (stAt tr s' i).nx := fun h => hne j hD (H.al_inj hal' hal h)
        simp only [if_neg this]; exact I.x2 j o hj hD hal'
      · simp only [if_true]; exact congrArg some (al_one H hal hal')
    · by_cases hkn : k' = (stAt tr s' i).nx
      · simp only [if_pos hkn] at hk'; cases hk'
        exact .inr ⟨i, hmi, .inr rfl, hal, hkn⟩
      · simp only [if_neg hkn] at hk'
        rcases I.x3 k' o hk' with h | ⟨j, g1, g2, g3⟩
        · exact .inl h
        · exact .inr ⟨j, g1, .inl g2, g3⟩
    · by_cases hkn : k' = (stAt tr s' i).nx
      · exact .inr ⟨i, ob, hmi, .inr rfl, hal, hkn⟩
      · rcases I.fresh k' p1 p2 with h | ⟨j, o, g1, g2, g3⟩
        · left
          cases e : ι1 k' with
          | none => rfl
          | some q => rcases t1.new k' q e with h' | ⟨h', h''⟩
                      · rw [h] at h'; cases h'
                      · omega
        · exact .inr ⟨j, o, g1, .inl g2, g3⟩
    · obtain ⟨y, hy⟩ := I.gl g hg; exact ⟨y, t1.le _ _ hy⟩
  · have hE : isE P e = true := by simp [isE, hrun, hk]
    have hmi : m ≤ i := by
      rcases Nat.lt_or_ge i m with h | h
      · exact absurd ((I.eD i e he hE).2 h) hn
      · exact h
    have hno : ∀ j y, m ≤ j → j < i → tr[j]? = some y → isE P y = false := fun j y g1 g2 g3 => by
      cases hy : isE P y with
      | false => rfl
      | true =>
        exfalso
        rcases H.pair g3 he g2 with h | h
        · have := (I.eD j y g3 hy).1 (hb j h); omega
        · have := ((mayTurn_spec h).2 hE).1
          rw [hy] at this; cases this
    have hlow : ∀ j o, m ≤ j → j < i → AlE P tr s' j o → D j := fun j o g1 g2 g3 => by
      obtain ⟨y, c1, c2, _⟩ := g3
      rcases H.pair c1 he g2 with h | h
      · exact hb j h
      · have := ((mayTurn_spec h).2 hE).2
        rw [c2] at this; cases this
    obtain ⟨up1, up2, up3⟩ := H.up I.wf i hmi (Nat.le_of_lt hi) hno
    have hle1 := H.nx hmi (Nat.le_of_lt hi)
    have hle2 := H.le_end (i := i + 1) hi
    let R : Nat → Prop := fun k => ∃ j o, i < j ∧ D j ∧ AlE P tr s' j o ∧ k = (stAt tr s' j).nx
    have Rnx : ∀ k, R k → (stAt tr s' (i + 1)).nx ≤ k ∧ k < s'.nx := fun k ⟨j, o, g1, g2, g3, g4⟩ => by
      obtain ⟨c1, c2⟩ := H.al_nx g3
      have := H.nx (i := i + 1) (j := j) g1 (by omega)
      have := H.le_end (i := j + 1) c2
      omega
    have hX : ∀ k, ¬ R k → X k = (stAt tr s' i).obj k := fun k hk => by
      cases e1 : X k with
      | some o =>
        rcases I.x3 k o e1 with h | ⟨j, g1, g2, g3, g4⟩
        · rw [up2 k o h]
        · rcases Nat.lt_trichotomy j i with h | h | h
          · rw [g4, up3 j o g1 h g3]
          · subst h; exact absurd g2 hn
          · exact absurd ⟨j, o, h, g2, g3, g4⟩ hk
      | none =>
        cases e2 : (stAt tr s' i).obj k with
        | none => rfl
        | some o =>
          rcases H.seg i hmi (Nat.le_of_lt hi) hno k o e2 with h | ⟨j, g1, g2, g3, g4⟩
          · rw [I.x1 k o h] at e1; cases e1
          · rw [g4, I.x2 j o g1 (hlow j o g1 g2 g3) g3] at e1; cases e1
    have hR : ∀ k, R k → (stAt tr s' i).obj k = none := fun k hk => by
      obtain ⟨r1, r2⟩ := Rnx k hk
      exact up1 k (by omega) r2
    have hsub : ∀ k o, (stAt tr s' i).obj k = some o → X k = some o := fun k o h => by
      have : ¬ R k := fun r => by rw [hR k r] at h; cases h
      rw [hX k this]; exact h
    have hfr : Fresh ι (stAt tr s' i).nx (stAt tr s' (i + 1)).nx := fun k g1 g2 => by
      rcases I.fresh k (by omega) (by omega) with h | ⟨j, o, c1, c2, c3, c4⟩
      · exact h
      · exfalso
        obtain ⟨d1, d2⟩ := H.al_nx c3
        rcases Nat.lt_trichotomy j i with h | h | h
        · have := H.nx (i := j + 1) (j := i) h (by omega); omega
        · subst h; exact hn c2
        · have := H.nx (i := i + 1) (j := j) h (by omega); omega
    obtain ⟨ι1, w1, u, q1, q2, q3⟩ := hs b ι a w k cs rest ops i ho (I.wants H he hn hb hw) hcs I.gl hx (I.st.rel.sub hsub) hfr
    haveI : DecidablePred R := fun k => Classical.propDecidable _
    let X' : Hp := fun k => if R k then X k else (stAt tr s' (i + 1)).obj k
    have t1 : Step P ι X (stAt tr s' i).nx w ι1 X' (stAt tr s' (i + 1)).nx w1 :=
      Step.extend R hX hR (fun k hk => by simp only [X', if_neg hk]) (fun k hk => by simp only [X', if_pos hk]) I.st.rel q1
    have hs0 : s0.nx ≤ (stAt tr s' i).nx := by
      have := H.nx (Nat.zero_le i) (Nat.le_of_lt hi)
      rwa [(trace_at H.trc).2.2.1] at this
    obtain ⟨z1, z2, z3⟩ := I.slots H q1.le he hn q2
    have wf' : ∀ k, (stAt tr s' (i + 1)).nx ≤ k → k < s'.nx → (stAt tr s' (i + 1)).obj k = none := fun k g1 g2 => by
      cases e1 : (stAt tr s' (i + 1)).obj k with
      | none => rfl
      | some o =>
        exfalso
        obtain ⟨bb, x, p, c1, c2, _⟩ := q1.rel.live k o e1
        rcases q1.new k _ c1 with h | ⟨_, h⟩
        · rcases I.fresh k (by omega) g2 with h' | ⟨j, o', d1, d2, d3, d4⟩
          · rw [h] at h'; cases h'
          · have hXk : X k = some o' := by rw [d4]; exact I.x2 j o' d1 d2 d3
            obtain ⟨b2, x2, p2, f1, f2, _⟩ := I.st.rel.live k o' hXk
            rw [h] at f1; cases f1
            have hlt := (Array.getElem?_eq_some_iff.1 f2).1
            rcases q1.img k o bb x e1 c1 with ⟨k0, o0, x0, y1, y2⟩ | y
            · have := I.st.rel.inj k k0 o' o0 bb x x0 hXk (hsub k0 o0 y1) h y2
              subst this
              rw [up1 k (by omega) g2] at y1; cases y1
            · omega
        · omega
    refine ⟨i + 1, X', ι1, _, w1, ⟨I.st.within t1 hs0 hle2, hi, .inr ⟨e, Nat.succ_pos _, by simpa using he, hE⟩, fun j e' he' hE' => ?_, fun k' o hk' => ?_, fun j o hj hD hal' => ?_, fun k' o hk' => ?_, wf', fun k' p1 p2 => ?_, fun g hg => ?_, z1, z2, z3, by rw [put_defers]; exact I.df, cl', dom'⟩, q3⟩
    · constructor
      · rintro (hD | rfl)
        · have := (I.eD j e' he' hE').1 hD; omega
        · omega
      · intro hlt
        rcases Nat.lt_or_ge j m with h | h
        · exact .inl ((I.eD j e' he' hE').2 h)
        · rcases Nat.lt_or_ge j i with h' | h'
          · rw [hno j e' h h' he'] at hE'; cases hE'
          · exact .inr (by omega)
    · have : ¬ R k' := fun r => by
        obtain ⟨r1, r2⟩ := Rnx k' r
        rw [wf' k' r1 r2] at hk'; cases hk'
      simp only [X', if_neg this]; exact hk'
    · have hDj : D j := hD.resolve_right (by omega)
      have : R (stAt tr s' j).nx := ⟨j, o, by omega, hDj, hal', rfl⟩
      simp only [X', if_pos this]
      exact I.x2 j o (by omega) hDj hal'
    · by_cases r : R k'
      · obtain ⟨j, o', c1, c2, c3, c4⟩ := r
        have r' : R k' := ⟨j, o', c1, c2, c3, c4⟩
        simp only [X', if_pos r'] at hk'
        rw [c4, I.x2 j o' (by omega) c2 c3] at hk'; cases hk'
        exact .inr ⟨j, by omega, .inl c2, c3, c4⟩
      · simp only [X', if_neg r] at hk'; exact .inl hk'
    · cases e1 : ι1 k' with
      | none => exact .inl rfl
      | some q =>
        right
        rcases q1.new k' q e1 with h | ⟨_, h⟩
        · rcases I.fresh k' (by omega) p2 with h' | ⟨j, o', d1, d2, d3, d4⟩
          · rw [h] at h'; cases h'
          · refine ⟨j, o', ?_, .inl d2, d3, d4⟩
            obtain ⟨y1, y2⟩ := H.al_nx d3
            rcases Nat.lt_trichotomy j i with h | h | h
            · have := H.nx (i := j + 1) (j := i) h (by omega); omega
            · subst h; exact absurd d2 hn
            · exact h
        · omega
    · obtain ⟨y, hy⟩ := I.gl g hg; exact ⟨y, q1.le _ _ hy⟩
end
end Go.Proofs.YtcpmhehklicpfaaGreatDoor.Ev
