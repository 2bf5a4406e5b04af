/- A region that draws its order, whole. -/
import Derived.Test.YtcpmhehklicpfaaGreatDoorEvDraw4
namespace Go.Proofs.YtcpmhehklicpfaaGreatDoor.Ev
open Go
set_option linter.unusedVariables false
section
variable {P : Program} {ops : Array Oper} {f0 f' : Fr} {s0 s' : St} {tr : List Ent} {bs : List (List Nat)} {ι0 : Io} {a0 : Act} {w0 : World}
theorem Inv.congr {D D' : Nat → Prop} {m : Nat} {X : Hp} {ι : Io} {a : Act} {w : World} (h : ∀ j, D j ↔ D' j) (I : Inv P ops f0 f' s0 s' tr ι0 a0 w0 D m X ι a w) : Inv P ops f0 f' s0 s' tr ι0 a0 w0 D' m X ι a w := by
  have : D = D' := funext fun j => propext (h j)
  rw [← this]; exact I
theorem draw_go (H : Drawn P ops f0 s0 tr f' s' bs) {b : Frame} {k : List Item} {cs : List Frame} (hcs : CsOk P b.kind b.roundOf cs) : ∀ (fuel t : Nat) (listed : Array Bool) (D : Nat → Prop) (m : Nat) (X : Hp) (ι : Io) (a : Act) (w : World),
    Inv P ops f0 f' s0 s' tr ι0 a0 w0 D m X ι a w → listed.size = ops.size → (∀ j, D j ↔ listed.getD j false = true) → listed.toList.count false ≤ fuel →
    ∃ m' X' ι' a' w', Inv P ops f0 f' s0 s' tr ι0 a0 w0 (fun j => j < ops.size) m' X' ι' a' w' ∧
      Steps P (lone (b.atR a (.inRegion ops (Region.linearise.go .any ops fuel t listed []) :: k)) cs w) (lone (b.atR a' k) cs w') := by
  intro fuel
  induction fuel with
  | zero =>
    intro t listed D m X ι a w I hsz hD hc
    refine ⟨m, X, ι, a, w, I.congr fun j => ⟨I.dom j, fun hj => ?_⟩, ?_⟩
    · rw [hD]
      have h0 : false ∉ listed.toList := List.count_eq_zero.1 (Nat.le_zero.1 hc)
      have hlt : j < listed.size := by omega
      cases e : listed[j] with
      | true => simp [Array.getD_eq_getD_getElem?, hlt, e]
      | false => exact absurd (by rw [← e]; exact Array.mem_toList_iff.2 (Array.getElem_mem hlt)) h0
    · simp only [Region.linearise.go, List.reverse_nil]; exact .one stepR_region_end
  | succ fuel ih =>
    intro t listed D m X ι a w I hsz hD hc
    simp only [Region.linearise.go]
    change ∃ m' X' ι' a' w', _ ∧ Steps P (lone (b.atR a (.inRegion ops (match (Region.ready .any ops listed)[t % (Region.ready .any ops listed).length]? with
      | some i => Region.linearise.go .any ops fuel (t / (Region.ready .any ops listed).length) (listed.setIfInBounds i true) [i]
      | none => [].reverse) :: k)) cs w) _
    cases hi : (Region.ready .any ops listed)[t % (Region.ready .any ops listed).length]? with
    | none =>
      have hnil : Region.ready .any ops listed = [] := by
        cases hr : Region.ready .any ops listed with
        | nil => rfl
        | cons x xs =>
          rw [hr] at hi
          have hlt : t % (x :: xs).length < (x :: xs).length := Nat.mod_lt _ (by simp)
          simp at hi
          simp at hlt
          omega
      have all : ∀ j, j < ops.size → D j := by
        intro j
        induction j using Nat.strongRecOn with
        | _ j ihj =>
          intro hj
          rw [hD]
          cases e : listed.getD j false with
          | true => rfl
          | false =>
            exfalso
            have hlt : j < listed.size := by omega
            obtain ⟨o, ho⟩ := H.op_of hj
            have : j ∈ Region.ready .any ops listed := mem_ready.2 ⟨by
              rw [Array.getD_eq_getD_getElem?] at e ⊢
              simpa [hlt] using e, o, ho, fun d hd hb => (hD _).1 (ihj _ (H.edge ho d hd hb) (by have := H.edge ho d hd hb; omega))⟩
            rw [hnil] at this; simp at this
      refine ⟨m, X, ι, a, w, I.congr fun j => ⟨I.dom j, all j⟩, ?_⟩
      simp only [List.reverse_nil]; exact .one stepR_region_end
    | some i =>
      simp only []
      rw [linearise_go_acc, List.reverse_singleton, List.singleton_append]
      obtain ⟨h1, o, ho, h2⟩ := mem_ready.1 (List.mem_of_getElem? hi)
      have hlt : i < ops.size := (Array.getElem?_eq_some_iff.1 ho).1
      have hlt' : i < listed.size := by omega
      have hli : listed[i] = false := by
        rw [Array.getD_eq_getD_getElem?] at h1; simpa [hlt'] using h1
      have hn : ¬ D i := by
        rw [hD, Array.getD_eq_getD_getElem?]; simp [hlt', hli]
      obtain ⟨e, he, _⟩ := H.ent ho
      have heo : e.o = o := by
        have := (H.ent_o he).1
        rw [ho] at this; exact (Option.some.inj this).symm
      obtain ⟨m1, X1, ι1, a1, w1, I1, s1⟩ := I.step H he hn (by rw [heo]; exact fun d hd hb => (hD _).2 (h2 d hd hb)) (b := b) (k := k) (cs := cs) (rest := Region.linearise.go .any ops fuel (t / (Region.ready .any ops listed).length) (listed.setIfInBounds i true) []) hcs
      obtain ⟨m2, X2, ι2, a2, w2, I2, s2⟩ := ih (t / (Region.ready .any ops listed).length) (listed.setIfInBounds i true) _ m1 X1 ι1 a1 w1 I1 (by simp [hsz]) (fun j => by
        rw [hD]
        by_cases hj : j = i
        · subst hj; simp [Array.getD_eq_getD_getElem?, hlt']
        · simp only [hj, or_false]
          rw [Array.getD_eq_getD_getElem?, Array.getD_eq_getD_getElem?, Array.getElem?_setIfInBounds_ne (Ne.symm hj)]) (by
        rw [Array.toList_setIfInBounds, List.count_set (by simpa using hlt')]
        have : listed.toList[i]'(by simpa using hlt') = false := by simpa using hli
        have hpos : 0 < listed.toList.count false := List.count_pos_iff.2 (by rw [← this]; exact List.getElem_mem _)
        rw [if_pos (by rw [this]; rfl), if_neg (by decide)]
        omega)
      exact ⟨m2, X2, ι2, a2, w2, I2, s1.trans s2⟩
/-- When all is done, it is as the text's order leaves it. -/
theorem Inv.done (H : Drawn P ops f0 s0 tr f' s' bs) {m : Nat} {X : Hp} {ι : Io} {a : Act} {w : World} (I : Inv P ops f0 f' s0 s' tr ι0 a0 w0 (fun j => j < ops.size) m X ι a w) (hd : DefsR P ι0 f0.df a0.defers) :
    Step P ι0 s0.obj s0.nx w0 ι s'.obj s'.nx w ∧ FR P ι f' a := by
  have hno : ∀ j e, m ≤ j → j < ops.size → tr[j]? = some e → isE P e = false := fun j e h1 h2 h3 => by
    cases hE : isE P e with
    | false => rfl
    | true => have := (I.eD j e h3 hE).1 h2; omega
  obtain ⟨_, up2, up3⟩ := H.up I.wf ops.size I.mle (Nat.le_refl _) hno
  have seg := H.seg ops.size I.mle (Nat.le_refl _) hno
  rw [H.end_.1] at up2 up3 seg
  have hX : X = s'.obj := by
    funext k
    cases e1 : X k with
    | some o =>
      rcases I.x3 k o e1 with h | ⟨j, g1, g2, g3, g4⟩
      · rw [up2 k o h]
      · rw [g4, up3 j o g1 g2 g3]
    | none =>
      cases e2 : s'.obj k with
      | none => rfl
      | some o =>
        rcases seg k o e2 with h | ⟨j, g1, g2, g3, g4⟩
        · rw [I.x1 k o h] at e1; cases e1
        · rw [g4, I.x2 j o g1 g2 g3] at e1; cases e1
  obtain ⟨n1, n2⟩ := H.nt (Nat.le_refl ops.size)
  rw [H.end_.2] at n1 n2
  refine ⟨by rw [← hX]; exact I.st, I.gl, ⟨by rw [n1]; exact I.sz, fun t v hv => ?_⟩, by rw [n2, I.df]; exact hd.mono I.st.le⟩
  have hv' : (frAt tr f' ops.size).tm.get t = some v := by rw [H.end_.2]; exact hv
  rw [n1]
  rcases H.slot (Nat.le_refl _) hv' with ⟨j, e, g1, g2, g3, g4, g5⟩ | ⟨g1, g2⟩
  · rw [← g4]
    exact I.s2a j e t g1 g2 g3 fun j' e' h1 h2 h3 => g5 j' e' h2 h1 h3
  · exact I.s2b t v (fun j e h1 h2 => g1 j e h1 h2) g2
theorem draw_sound (H : Drawn P ops f0 s0 tr f' s' bs) (hm : P.follows .mixedOrders = true) {b : Frame} {ι : Io} {a : Act} {w : World} {k : List Item} {cs : List Frame} (id : Nat) (hcs : CsOk P b.kind b.roundOf cs)
    (hf : FR P ι f0 a) (hr : Rel P ι s0.obj w) (hfr : Fresh ι s0.nx s'.nx) :
    ∃ ι' a' w', Step P ι s0.obj s0.nx w ι' s'.obj s'.nx w' ∧ FR P ι' f' a' ∧ Steps P (lone (b.atR a (.code (.region id ops true) :: k)) cs w) (lone (b.atR a' k) cs w') := by
  have hs0 : stAt tr s' 0 = s0 := (trace_at H.trc).2.2.1
  have hnx : s0.nx ≤ s'.nx := H.trc.nx
  have I0 : Inv P ops f0 f' s0 s' tr ι a w (fun _ => False) 0 s0.obj ι a { w with drawn := w.drawn + 1 } := by
    have hst := step_drew (nx := s0.nx) hr (w' := { w with drawn := w.drawn + 1 }) rfl rfl rfl rfl
    refine ⟨⟨hst.rel, hst.le, fun k p h => .inl h, hnx, hst.size, hst.frame, hst.img, rfl, rfl, rfl, hst.hard, hst.fzn⟩, Nat.zero_le _, .inl rfl, fun j e _ _ => by simp, by rw [hs0]; exact fun _ _ h => h, fun j o _ h => h.elim, by rw [hs0]; exact fun _ _ h => .inl h, ?_, ?_, hf.gl, hf.tm.1, fun i e t h => h.elim,
      fun t v _ hv => hf.tm.2 t v hv, rfl, fun j o _ h => h.elim, fun j h => h.elim⟩
    · rw [hs0]
      intro k h1 h2
      cases e : s0.obj k with
      | none => rfl
      | some o => obtain ⟨_, _, _, e1, _⟩ := hr.live k o e; rw [hfr k h1 h2] at e1; cases e1
    · rw [hs0]; exact fun k h1 h2 => .inl (hfr k h1 h2)
  obtain ⟨m, X, ι', a', w', I, st⟩ := draw_go H (k := k) hcs ops.size (w.tape w.drawn (.order b.fn id)) (Array.replicate ops.size false) _ _ _ _ _ _ I0 (by simp) (fun j => by
    simp [Array.getD_eq_getD_getElem?]
    by_cases h : j < ops.size <;> simp [h]) (by simp)
  obtain ⟨d1, d2⟩ := I.done H hf.df
  refine ⟨ι', a', w', d1, d2, .trans (.one ?_) st⟩
  rw [stepR_region_draw, hm]
  rfl
theorem Drawn.of {tr : List Ent} (ht : TraceOk P ops ops.toList f0 s0 tr f' s') (h : drawOk P ops tr s' = true) : ∃ bs, Drawn P ops f0 s0 tr f' s' bs := by
  unfold drawOk at h
  split at h
  · rename_i bs hbs
    simp only [Bool.and_eq_true, List.all_eq_true, Bool.not_eq_true'] at h
    exact ⟨bs, ht, hbs, h.1.2, h.2, fun e he => h.1.1 e he⟩
  · cases h
end
end Go.Proofs.YtcpmhehklicpfaaGreatDoor.Ev
