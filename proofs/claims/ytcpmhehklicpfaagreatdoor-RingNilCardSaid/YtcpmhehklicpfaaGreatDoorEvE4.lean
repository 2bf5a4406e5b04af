/- The operations that turn memory, each. -/
import Derived.Test.YtcpmhehklicpfaaGreatDoorEvE3
namespace Go.Proofs.YtcpmhehklicpfaaGreatDoor.Ev
open Go
set_option linter.unusedVariables false
section
variable {P : Program} {ι : Io} {h : Hp} {w : World} {ρ : Operand → Option AV} {σ : Operand → Value}
theorem VRs.step {ι' : Io} (hle : Io.le ι ι') {l : List AV} {vs : List Value} (h : VRs ι l vs) : VRs ι' l vs := h.mono hle
theorem lookup_fresh {s : St} (hr : Rel P ι s.obj w) (hf : ι s.nx = none) : s.obj s.nx = none := by
  cases e : s.obj s.nx with
  | none => rfl
  | some y => obtain ⟨b, x, p, e1, _⟩ := hr.live _ _ e; rw [hf] at e1; cases e1
/-- A row that is grown in its own place: the elder block is forgotten, the new one lies where it lay. -/
theorem step_grown {s : St} {w w' : World} {k p x x' : Nat} {o0 o : AObj} {q : Obj} (hr : Rel P ι s.obj w) (hk : s.obj k = some o0) (hi : ι k = some (p, x)) (hf : ι s.nx = none) (hq : w'.heap[p]? = some q) (ho : ObjR P ι x' o q) (he : Else p w w') (hno : ∀ c e o, o0 ≠ .cells c e o true := by intros; simp) :
    ∃ ι', Step P ι s.obj s.nx w ι' ((s.kill k).new o).obj ((s.kill k).new o).nx w' ∧ ι' s.nx = some (p, x') := by
  have hsn := lookup_fresh hr hf
  have hkn : k ≠ s.nx := fun e => by rw [e, hsn] at hk; cases hk
  have hle : Io.le ι (ι.put s.nx (p, x')) := Io.put_le hf
  have hobj : ∀ m, ((s.kill k).new o).obj m = if m = s.nx then some o else if m = k then none else s.obj m := fun m => by
    rw [St.obj_new, St.obj_kill, St.nx_kill]
  have hfree0 : o0.free = true := by
    cases o0 with
    | cells c e o hard => cases hard with
      | false => rfl
      | true => exact absurd rfl (hno c e o)
    | _ => rfl
  have hfz := hr.sep k o0 p x hk hfree0 hi
  refine ⟨ι.put s.nx (p, x'), ⟨⟨?_, ?_, ?_, ?_⟩, hle, ?_, Nat.le_succ _, by rw [he.size]; exact Nat.le_refl _, ?_, ?_, he.os, he.tape, he.output, ?_, fun _ _ h => .inl h⟩, by simp [Io.put]⟩
  · intro m y hm
    rw [hobj] at hm
    by_cases e1 : m = s.nx
    · subst e1; simp at hm; subst hm
      exact ⟨p, x', q, by simp [Io.put], hq, ho.mono hle⟩
    · rw [if_neg e1] at hm
      by_cases e2 : m = k
      · rw [if_pos e2] at hm; cases hm
      · rw [if_neg e2] at hm
        obtain ⟨c, z, r, f1, f2, f3⟩ := hr.live m y hm
        refine ⟨c, z, r, by simp [Io.put, e1, f1], ?_, f3.mono hle⟩
        rw [he.blk c (fun e => e2 (hr.inj m k y o0 c z x hm hk f1 (by rw [e]; exact hi)))]
        exact f2
  · show ∀ (m m' : Nat) (y y' : AObj) (c z z' : Nat), _ → _ → _ → _ → _
    intro m m' y y' c z z' hm hm' h1 h2
    rw [hobj] at hm hm'
    rw [Io.put_at] at h1 h2
    have other : ∀ (m : Nat) (y : AObj) (c z : Nat), m ≠ s.nx → (if m = k then none else s.obj m) = some y → ι m = some (c, z) → c ≠ p := by
      intro m y c z e1 hm h1 e
      by_cases e2 : m = k
      · rw [if_pos e2] at hm; cases hm
      · rw [if_neg e2] at hm
        exact e2 (hr.inj m k y o0 c z x hm hk h1 (by rw [e]; exact hi))
    by_cases e1 : m = s.nx <;> by_cases e2 : m' = s.nx
    · rw [e1, e2]
    · simp only [e1, if_true] at h1; rw [if_neg e2] at hm'; simp only [if_neg e2] at h2
      cases h1; exact absurd rfl (other m' y' _ _ e2 hm' h2)
    · simp only [e2, if_true] at h2; rw [if_neg e1] at hm; simp only [if_neg e1] at h1
      cases h2; exact absurd rfl (other m y _ _ e1 hm h1)
    · rw [if_neg e1] at hm; rw [if_neg e2] at hm'; simp only [if_neg e1] at h1; simp only [if_neg e2] at h2
      by_cases e3 : m = k
      · rw [if_pos e3] at hm; cases hm
      · by_cases e4 : m' = k
        · rw [if_pos e4] at hm'; cases hm'
        · rw [if_neg e3] at hm; rw [if_neg e4] at hm'
          exact hr.inj m m' y y' c z z' hm hm' h1 h2
  · intro d c hd
    obtain ⟨e, lo, hi', h4⟩ := hr.fz d c hd
    exact ⟨e, lo, hi', by rw [he.blk d (fun e' => by subst e'; exact absurd (hd.symm.trans hfz) (by simp))]; exact h4⟩
  · intro m y c z hm hfr h1
    rw [hobj] at hm
    rw [Io.put_at] at h1
    by_cases e1 : m = s.nx
    · rw [if_pos e1] at h1; cases h1; exact hfz
    · rw [if_neg e1] at hm h1
      by_cases e2 : m = k
      · rw [if_pos e2] at hm; cases hm
      · rw [if_neg e2] at hm; exact hr.sep m y c z hm hfr h1
  · intro j r hj
    rw [Io.put_at] at hj
    by_cases e : j = s.nx
    · subst e; exact .inr ⟨Nat.le_refl _, Nat.lt_succ_self _⟩
    · simp only [if_neg e] at hj; exact .inl hj
  · intro c hc hno
    exact he.blk c fun e => by subst e; exact hno k o0 x hk hi
  · intro m y c z hm h1
    rw [hobj] at hm
    rw [Io.put_at] at h1
    by_cases e1 : m = s.nx
    · simp only [e1, if_true] at h1; cases h1; exact .inl ⟨k, o0, x, hk, hi⟩
    · rw [if_neg e1] at hm; simp only [if_neg e1] at h1
      by_cases e2 : m = k
      · rw [if_pos e2] at hm; cases hm
      · rw [if_neg e2] at hm; exact .inl ⟨m, y, z, hm, h1⟩
  · intro m c e oo c' z hm h1
    have hmk : m ≠ k := fun e' => by rw [e', hk] at hm; cases hm; exact hno _ _ _ rfl
    have hmn : m ≠ s.nx := fun e => by rw [e, hsn] at hm; cases hm
    exact ⟨by rw [hobj, if_neg hmn, if_neg hmk]; exact hm, he.blk c' fun e' => hmk (hr.inj m k _ o0 c' z x hm hk h1 (by rw [e']; exact hi))⟩
theorem repl_len {α : Type} (n : Nat) (l : List α) : ((List.replicate n l).flatten).length = n * l.length := by simp
/-- A new row that may have room. -/
theorem new_row {s : St} {w w' : World} {e : TypeId} {sz c need : Nat} {l : List AV} {A Z : Array Value} (hr : Rel P ι s.obj w) (hf : ι s.nx = none) (hl : VRs ι l A.toList) (hln : l.length = need * sz) (hC : P.cellsOf e = sz) (hZ : Z.size = (c - need) * sz)
    (hh : w'.heap = w.heap.push (.cells (A ++ Z) e)) (h1 : w'.os = w.os) (h2 : w'.tape = w.tape) (h3 : w'.output = w.output) :
    ∃ ι', Step P ι s.obj s.nx w ι' (s.new (.cells l e true false)).obj (s.nx + 1) w' ∧ ι' s.nx = some (w.heap.size, c - need) := by
  have hA : l.length = A.size := by rw [hl.len]; simp
  refine step_new hr hf (x := c - need) ⟨A ++ Z, e, 0, 0, rfl, ?_, fun _ => ⟨rfl, ?_⟩, (fun h => by cases h), (fun _ i _ h => by omega)⟩ hh h1 h2 h3
  · rw [Array.toList_append, List.take_append_of_le_length (by simp; omega), List.take_of_length_le (by simp; omega)]
    exact hl
  · rw [hC]; simp; omega
/-- Zeros appended to nil. -/
theorem run_append_zeros {ts : Array TypeId} {ty st xt e : TypeId} {k0 k : IntKind} {sz : Nat} {n : Int} {z : Value} {inf : TypeInfo} (h0 : ts[0]? = some st) (h1 : ts[1]? = some xt) (hu : P.underlying st = some (.slice e)) (hx : P.underlying xt = some (.int k0))
    (hsz : szT P e = some sz) (hi : P.info? e = some inf) (hz : ∀ w, (zeroValue e).run P w = .ok z w) (hn0 : 0 < n) (hn1 : n ≤ 1000000) (hs0 : 0 < sz) (hb0 : 0 < inf.bytes) (hb1 : inf.bytes ≤ 100000) :
    ∃ c, n.toNat ≤ c ∧ (Builtin.append_ ts ty #[.slice none 0 0, .int k n]).run P w = .ok (.slice (some ⟨w.heap.size, 0, none⟩) n.toNat c) { w with drawn := w.drawn + 1, heap := w.heap.push (.cells (#[] ++ Builtin.zeroCells z.cells n.toNat ++ Builtin.zeroCells z.cells (c - n.toNat)) e) } := by
  have hwr : IntKind.i64.wrap n = n := by
    simp only [IntKind.wrap, IntKind.bits, IntKind.signed]
    simp
    omega
  have hl0 : ¬ n < 0 := by omega
  have hmul : n * (inf.bytes : Int) ≤ 1000000 * 100000 := Int.mul_le_mul hn1 (by omega) (by omega) (by omega)
  have hl1 : ¬ (281474976710656 < n * (inf.bytes : Int)) := by omega
  have hmx : ¬ (((0 + n.toNat : Nat) : Int) > IntKind.i64.max) := by simp [IntKind.max, IntKind.signed, IntKind.bits]; omega
  have hnc : ¬ (281474976710656 < Builtin.nextslicecap n.toNat 0 * inf.bytes) := by
    have h3 := nextcap_le (L := n.toNat) (c := 0) (by omega)
    have h4 : Builtin.nextslicecap n.toNat 0 * inf.bytes ≤ (2 * 1000000 + 768) * 100000 := Nat.mul_le_mul (by omega) hb1
    omega
  have hti : ∀ w, (typeInfo e).run P w = .ok inf w := fun w => by simp [typeInfo, hi]
  have hns : ¬ (n.toNat * sz = 0) := by
    intro h
    rcases Nat.mul_eq_zero.1 h with h | h <;> omega
  have hnz : ¬ (n.toNat ≤ 0) := by omega
  obtain ⟨c, hc⟩ : ∃ c, (Question.appendCap n.toNat 0 e).cut (w.tape w.drawn (.appendCap n.toNat 0 e)) = c := ⟨_, rfl⟩
  have hch : (choose (.appendCap n.toNat 0 e)).run P w = .ok c { w with drawn := w.drawn + 1 } := by rw [run_choose, ← hc]; rfl
  refine ⟨c, by rw [← hc]; simp only [Question.cut]; omega, ?_⟩
  simp only [Builtin.append_, h0, h1]
  simp [run_under hu, run_under hx, run_szT hsz, asInt, run_asInt, hwr, hl0, hti, hl1]
  rw [if_neg (by omega), if_neg (by omega), if_neg hnc, if_neg (by simp [Question.forced])]
  have hfc : (Builtin.firstCells sz 0 (.slice none 0 0)).run P w.drew = .ok #[] w.drew := rfl
  rw [hfc]
  simp only [Result.andThen_ok]
  rw [if_neg hns, hz]
  simp only [Result.andThen_ok]
  rw [hz]
  simp only [Result.andThen_ok, newRow, Sem.run_bind, run_newObj, Sem.run_pure, hc]
  simp
  exact ⟨rfl, rfl, rfl⟩
theorem run_appendA {s s' : St} {ts : Array TypeId} {ty : TypeId} {args : List AV} {args' : List Value} {v : AV} (hr : Rel P ι s.obj w) (hp : appendA P s ts args = some (v, s')) (ha : VRs ι args args') (hfr : ∀ k, s.nx ≤ k → k < s'.nx → ι k = none) :
    ∃ u w' ι', (Builtin.append_ ts ty args'.toArray).run P w = .ok u w' ∧ Step P ι s.obj s.nx w ι' s'.obj s'.nx w' ∧ VR ι' v u := by
  unfold appendA at hp
  split at hp
  · rename_i st xt a len cap x hts0 hts1
    simp only [VRs] at ha
    obtain ⟨sv, _, rfl, hs, xv, _, rfl, hx, rfl⟩ := ha
    split at hp
    · rename_i e k0 hu hxt
      split at hp
      · rename_i sz inf z k n hsz hi hz
        split at hp
        · rename_i hcnd
          obtain ⟨rfl, rfl, n0, n1, c0, c1, c4, c5⟩ := hcnd
          cases hp
          simp only [VR] at hs hx
          obtain ⟨rfl, _, _⟩ := hs
          subst hx
          obtain ⟨zv, hzall, hz2⟩ := run_zrT' hz
          have hzc := (hz2 ι).cells (zr_any hz)
          have hzs : zv.cells.size = sz := by have := hzc.len; simp at this; omega
          have hC := szT_cells hsz
          have hZ : ∀ m, (Builtin.zeroCells zv.cells m).size = m * sz := fun m => by simp [Builtin.zeroCells, hzs]
          have hrow : VRs ι (repl n.toNat z.cells) (#[] ++ Builtin.zeroCells zv.cells n.toNat : Array Value).toList := by
            rw [Array.empty_append, zeroCells_list hzs c0]
            exact hzc.repl _
          obtain ⟨c, hc1, hc2⟩ := run_append_zeros (P := P) (w := w) (ty := ty) (k := k) hts0 hts1 hu hxt hsz hi hzall n0 n1 c0 c4 c5
          obtain ⟨ι', g1, g2⟩ := new_row (s := s) (c := c) (need := n.toNat) (l := repl n.toNat z.cells) (A := #[] ++ Builtin.zeroCells zv.cells n.toNat) hr (hfr _ (Nat.le_refl _) (by simp)) hrow (by rw [repl_eq, repl_len, c1]) hC (hZ _) (w' := { w with drawn := w.drawn + 1, heap := w.heap.push (.cells (#[] ++ Builtin.zeroCells zv.cells n.toNat ++ Builtin.zeroCells zv.cells (c - n.toNat)) e) }) rfl rfl rfl rfl
          refine ⟨_, _, ι', hc2, g1, ?_⟩
          simp only [VR]
          exact ⟨_, _, g2, by rw [show n.toNat + (c - n.toNat) = c by omega]⟩
        · cases hp
      · cases hp
    · cases hp
    · rename_i e d hnei hu hxt
      have hd : ∀ k, d ≠ .int k := fun k e => hnei k (by rw [e])
      split at hp
      · rename_i sz inf z n hsz hi hz hn
        split at hp
        · rename_i nw hnw
          obtain ⟨ncs, hnwf, hn2⟩ := run_firstA' hr hnw hx
          have hn1 := hnwf w rfl
          have hlen := fun w => run_lenA (P := P) hn hx w
          split at hp
          · rename_i hle
            split at hp
            · split at hp
              · rename_i h0
                cases hp
                simp only [VR] at hs
                obtain ⟨rfl, _, rfl⟩ := hs
                obtain ⟨rfl, rfl⟩ := h0
                refine ⟨.slice none 0 0, w, ι, ?_, Step.refl hr, by simp [VR]⟩
                exact run_append_room hts0 hts1 hu hxt hd hsz (hlen w) hn1 (by omega) rfl
              · cases hp
            · rename_i b o
              split at hp
              · rename_i s1 hput
                cases hp
                have hs0 := hs
                simp only [VR] at hs
                obtain ⟨p, y, hb, rfl⟩ := hs
                obtain ⟨p', y', w', q1, q2, q3⟩ := run_putCells hr hput hn2
                rw [hb] at q1; cases q1
                refine ⟨.slice (some ⟨p, o, none⟩) (len + n) (cap + y), w', ι, ?_, q3, by simp only [VR]; exact ⟨p, y, hb, rfl⟩⟩
                refine run_append_room hts0 hts1 hu hxt hd hsz (hlen w) hn1 (by omega) ?_
                simp only [addr_add]
                exact q2
              · cases hp
          · rename_i hle
            split at hp
            · rename_i hcond
              obtain ⟨c0, c1, c2, c3, c4, c5⟩ := hcond
              obtain ⟨zv, hzall, hz2⟩ := run_zrT' hz
              have hzc := (hz2 ι).cells (zr_any hz)
              have hzs : zv.cells.size = sz := by have := hzc.len; simp at this; omega
              have hC := szT_cells hsz
              have hZ : ∀ m, (Builtin.zeroCells zv.cells m).size = m * sz := fun m => by simp [Builtin.zeroCells, hzs]
              split at hp
              · split at hp
                · rename_i h0
                  cases hp
                  obtain ⟨rfl, rfl⟩ := h0
                  simp only [VR] at hs
                  obtain ⟨rfl, _, _⟩ := hs
                  obtain ⟨c, hc1, hc2⟩ := run_append_grow (P := P) (w := w) (ty := ty) (old := #[]) (len := 0) (cap := 0) (base := none) hts0 hts1 hu hxt hd hsz hi hzall (fun w' _ => hlen w') hnwf (fun w' _ => rfl) (by omega) c3 c4 c5
                  obtain ⟨ι', g1, g2⟩ := new_row (s := s) (c := c) (need := 0 + n) (l := nw) (A := #[] ++ ncs) hr (hfr _ (Nat.le_refl _) (by simp)) (by simpa using hn2) (by simpa using c2) hC (hZ _) (w' := { w with drawn := w.drawn + 1, heap := w.heap.push (.cells (#[] ++ ncs ++ Builtin.zeroCells zv.cells (c - (0 + n))) e) }) rfl rfl rfl rfl
                  refine ⟨_, _, ι', hc2, g1, ?_⟩
                  simp only [VR]
                  refine ⟨_, _, g2, ?_⟩
                  rw [show n + (c - (0 + n)) = c by omega, Nat.zero_add]
                · cases hp
              · rename_i b o
                split at hp
                · rename_i cc e' opn hard hk
                  have hs0 := hs
                  simp only [VR] at hs
                  obtain ⟨p, y, hb, rfl⟩ := hs
                  obtain ⟨p', y', cs, e1', lo, hi', q1, q2, q3, ⟨q40, q4⟩, q5, q6⟩ := cellsOf_rel hr hk
                  rw [hb] at q1; cases q1
                  split at hp
                  · rename_i old hcut
                    obtain ⟨ocs, ho1, ho2⟩ := run_firstA' (size := sz) (n := len) (l := old) hr (by simp only [firstA, hk]; exact hcut) hs0
                    have hol : old.length = len * sz := by obtain ⟨h1, h2⟩ := cut_some hcut; rw [h2]; simp; omega
                    have hboth : VRs ι (old ++ nw) (ocs ++ ncs).toList := by rw [Array.toList_append]; exact ho2.append hn2
                    have hbl : (old ++ nw).length = (len + n) * sz := by rw [List.length_append, hol, c2, Nat.add_mul]
                    have grow : ∀ s1 : St, s1.nx = s.nx → Rel P ι s1.obj w → Step P ι s.obj s.nx w ι s1.obj s1.nx w → cap + y < len + n →
                        ∃ u w' ι', (Builtin.append_ ts ty #[.slice (some ⟨p, o, none⟩) len (cap + y), xv]).run P w = .ok u w' ∧ Step P ι s.obj s.nx w ι' (s1.new (.cells (old ++ nw) e true false)).obj (s1.nx + 1) w' ∧ VR ι' (.slice (some (s.nx, 0)) (len + n) (len + n)) u := by
                      intro s1 hnx hr1 hst hlt
                      obtain ⟨c, hc1, hc2⟩ := run_append_grow (P := P) (w := w) (ty := ty) (old := ocs) hts0 hts1 hu hxt hd hsz hi hzall (fun w' _ => hlen w') hnwf ho1 hlt c3 c4 c5
                      obtain ⟨ι', g1, g2⟩ := new_row (s := s1) (c := c) (need := len + n) (l := old ++ nw) (A := ocs ++ ncs) hr1 (by rw [hnx]; exact hfr _ (Nat.le_refl _) (by
                        split at hp
                        · split at hp
                          · cases hp; simp
                          · cases hp
                        · cases hp; simp)) hboth hbl hC (hZ _) (w' := { w with drawn := w.drawn + 1, heap := w.heap.push (.cells (ocs ++ ncs ++ Builtin.zeroCells zv.cells (c - (len + n))) e) }) rfl rfl rfl rfl
                      refine ⟨_, _, ι', hc2, hst.trans g1, ?_⟩
                      simp only [VR]
                      rw [hnx] at g2
                      exact ⟨_, _, g2, by rw [show len + n + (c - (len + n)) = c by omega]⟩
                    split at hp
                    · rename_i hopn
                      split at hp
                      · rename_i hcnd
                        cases hp
                        obtain ⟨d1, d2, d3, d4, d5⟩ := hcnd
                        subst d1 d2
                        have d4' := d4.symm
                        subst d4'
                        obtain ⟨e1e, q4⟩ := q4 rfl
                        rw [e1e] at q2
                        by_cases hroom : len + n ≤ cap + y
                        · have hcsz : cs.size = (len + n) * sz + (cap + y - (len + n)) * sz := by
                            rw [q4, hC, ← d3, ← Nat.add_mul, ← Nat.add_mul]; congr 1; omega
                          obtain ⟨w', cs', e1, e2, e3, e4, e5⟩ := run_stores (P := P) (o := len * sz) ncs.toList 0 cs w q2 (by
                            have := hn2.len
                            rw [← this, c2, hcsz, Nat.add_mul]; omega) (q6 rfl) (hn2.one d5)
                          have hob : ObjR P ι (cap + y - (len + n)) (.cells (old ++ nw) e true false) (.cells cs' e (lo, hi')) := by
                            refine ⟨cs', _, lo, hi', rfl, ?_, fun _ => ⟨rfl, ?_⟩, (fun h => by cases h), (fun _ i h => q6 rfl i (by rw [← e4]; exact h))⟩
                            · rw [hbl, e3, Nat.add_zero]
                              have hnl : ncs.toList.length = n * sz := by rw [← hn2.len, c2]
                              have : (cs.toList.take (len * sz) ++ (ncs.toList ++ cs.toList.drop (len * sz + ncs.toList.length))).take ((len + n) * sz) = cs.toList.take (len * sz) ++ ncs.toList := by
                                have l1 : (cs.toList.take (len * sz)).length = len * sz := by
                                  simp; rw [hcsz, Nat.add_mul]; omega
                                rw [← List.append_assoc, List.take_append_of_le_length (by rw [List.length_append, l1, hnl, Nat.add_mul]; omega), List.take_of_length_le (by rw [List.length_append, l1, hnl, Nat.add_mul]; omega)]
                              rw [this]
                              obtain ⟨h1, h2⟩ := q3.cut hcut
                              rw [take_drop_take _ _ _ _ h1, List.drop_zero] at h2
                              exact h2.append hn2
                            · rw [hC, hbl, e4]; exact hcsz
                          obtain ⟨ι', g1, g2⟩ := step_grown (o := .cells (old ++ nw) e true false) (x' := cap + y - (len + n)) hr hk hb (hfr _ (Nat.le_refl _) (by simp)) e2 hob e5
                          refine ⟨.slice (some ⟨p, 0, none⟩) (len + n) (cap + y), w', ι', ?_, g1, ?_⟩
                          · refine run_append_room hts0 hts1 hu hxt hd hsz (hlen w) hn1 hroom ?_
                            simp only [addr_add, Nat.zero_add]
                            exact e1
                          · simp only [VR]
                            exact ⟨_, _, g2, by rw [show len + n + (cap + y - (len + n)) = cap + y by omega]⟩
                        · obtain ⟨u, w', ι', g1, g2, g3⟩ := grow (s.kill b) rfl (rel_kill hr b) (step_kill hr b (by rw [hk]; intros; simp)) (by omega)
                          exact ⟨u, w', ι', g1, g2, g3⟩
                      · cases hp
                    · rename_i hopn
                      have hopn : opn = false := by simpa using hopn
                      cases hp
                      obtain rfl := q5 hopn
                      obtain ⟨u, w', ι', g1, g2, g3⟩ := grow s rfl hr (Step.refl hr) (by omega)
                      exact ⟨u, w', ι', g1, g2, g3⟩
                  · cases hp
                · cases hp
            · cases hp
        · cases hp
      · cases hp
    · cases hp
  · rename_i st xt x hts0 hts1
    simp only [VRs] at ha
    obtain ⟨sv, _, rfl, hs, xv, _, rfl, hx, rfl⟩ := ha
    simp only [VR] at hs
    obtain ⟨base, rfl⟩ := hs
    split at hp
    · cases hp
    · rename_i e d hne hu hxt
      have hd : ∀ k, d ≠ .int k := fun k e => hne k (by rw [e])
      split at hp
      · rename_i sz inf z n hsz hi hz hn
        split at hp
        · rename_i nw hnw
          obtain ⟨ncs, hnwf, hn2⟩ := run_firstA' hr hnw hx
          have hn1 := hnwf w rfl
          have hlen := fun w => run_lenA (P := P) hn hx w
          split at hp
          · rename_i h0
            cases hp
            subst h0
            have hnl : ncs = #[] := by
              have := hn2.len
              have h3 : nw = [] := by
                unfold firstA at hnw
                repeat' (first | (cases hnw; first | rfl | done) | split at hnw)
                all_goals first
                  | (simp at hnw; first | exact hnw.symm | skip)
                  | skip
                all_goals simp_all [cut]
              rw [h3] at this
              apply Array.ext'
              simpa using this.symm
            refine ⟨.slice base 0 0, w, ι, ?_, Step.refl hr, by simp [VR]⟩
            refine run_append_room hts0 hts1 hu hxt hd hsz (hlen w) hn1 (by omega) ?_
            subst hnl
            cases base <;> rfl
          · split at hp
            · rename_i hcond
              obtain ⟨c0, c1, c2, c3, c4, c5⟩ := hcond
              cases hp
              obtain ⟨zv, hzall, hz2⟩ := run_zrT' hz
              have hzc := (hz2 ι).cells (zr_any hz)
              have hzs : zv.cells.size = sz := by have := hzc.len; simp at this; omega
              have hC := szT_cells hsz
              have hZ : ∀ m, (Builtin.zeroCells zv.cells m).size = m * sz := fun m => by simp [Builtin.zeroCells, hzs]
              obtain ⟨c, hc1, hc2⟩ := run_append_grow (P := P) (w := w) (ty := ty) (old := #[]) (len := 0) (cap := 0) (base := base) hts0 hts1 hu hxt hd hsz hi hzall (fun w' _ => hlen w') hnwf (fun w' _ => by cases base <;> simp [Builtin.firstCells, loadCells, loadCellsFrom]) (by omega) (by omega) c4 c5
              obtain ⟨ι', g1, g2⟩ := new_row (s := s) (c := c) (need := 0 + n) (l := nw) (A := #[] ++ ncs) hr (hfr _ (Nat.le_refl _) (by simp)) (by simpa using hn2) (by simpa using c2) hC (hZ _) (w' := { w with drawn := w.drawn + 1, heap := w.heap.push (.cells (#[] ++ ncs ++ Builtin.zeroCells zv.cells (c - (0 + n))) e) }) rfl rfl rfl rfl
              refine ⟨_, _, ι', hc2, g1, ?_⟩
              simp only [VR]
              refine ⟨_, _, g2, ?_⟩
              rw [show n + (c - (0 + n)) = c by omega, Nat.zero_add]
            · cases hp
        · cases hp
      · cases hp
    · cases hp
  · cases hp
end
end Go.Proofs.YtcpmhehklicpfaaGreatDoor.Ev
