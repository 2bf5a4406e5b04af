/- Each operation that turns memory and is no call. -/
import Derived.Test.YtcpmhehklicpfaaGreatDoorEvE4
namespace Go.Proofs.YtcpmhehklicpfaaGreatDoor.Ev
open Go
set_option linter.unusedVariables false
section
variable {P : Program} {ι : Io} {h : Hp} {w : World} {ρ : Operand → Option AV} {σ : Operand → Value}
theorem run_eBuiltin {s s' : St} {b : Builtin} {ts : Array TypeId} {ty : TypeId} {cs : Array Bool} {args : List AV} {args' : List Value} {v : AV} (hr : Rel P ι s.obj w) (hp : eBuiltin P s b ts args = some (v, s')) (ha : VRs ι args args') (hfr : ∀ k, s.nx ≤ k → k < s'.nx → ι k = none) :
    ∃ u w' ι', (builtin b ts ty cs args'.toArray).run P w = .ok (.value u) w' ∧ Step P ι s.obj s.nx w ι' s'.obj s'.nx w' ∧ VR ι' v u := by
  unfold eBuiltin at hp
  split at hp
  · obtain ⟨u, w', ι', h1, h2, h3⟩ := run_appendA (ty := ty) hr hp ha hfr
    exact ⟨u, w', ι', by simp only [builtin, Sem.run_bind, h1, Result.andThen_ok, Sem.run_pure], h2, h3⟩
  · split at hp
    · rename_i t a dl c src ht
      simp only [VRs] at ha
      obtain ⟨dv, _, rfl, hd, sv, _, rfl, hs, rfl⟩ := ha
      split at hp
      · rename_i e n hu hn
        split at hp
        · rename_i sz hsz
          split at hp
          · rename_i l hl
            obtain ⟨ncs, hn1, hn2⟩ := run_firstA hr hl hs
            have hlen := run_lenA (P := P) hn hs w
            have key : ∀ (A : Option Addr) (c' : Nat) (w' : World) (s1 : St), dv = .slice A dl c' → (match A with | some a => storeCells a ncs.toList | none => pure () : Sem Unit).run P w = .ok () w' → Step P ι s.obj s.nx w ι s1.obj s1.nx w' →
                some (AV.int .i64 (min n dl : Nat), s1) = some (v, s') → ∃ u w' ι', (builtin .copy ts ty cs [dv, sv].toArray).run P w = .ok (.value u) w' ∧ Step P ι s.obj s.nx w ι' s'.obj s'.nx w' ∧ VR ι' v u := by
              intro A c' w' s1 hdv hst hstep he
              cases he
              subst hdv
              refine ⟨.int .i64 (min n dl : Nat), w', ι, ?_, hstep, by simp only [VR]⟩
              have hmin : Nat.min n dl = min n dl := rfl
              simp only [builtin, Builtin.copy_, List.getElem?_toArray, List.getElem?_cons_zero, List.getElem?_cons_succ, ht, Sem.run_bind, run_under hu, Result.andThen_ok, hlen, run_szT hsz, hmin, hn1]
              cases A with
              | none => simp only [Sem.run_pure] at hst; cases hst; simp only [Sem.run_pure, Result.andThen_ok, goInt]
              | some a => simp only at hst; simp only [Sem.run_bind, hst, Result.andThen_ok, Sem.run_pure, goInt]
            split at hp
            · simp only [VR] at hd
              obtain ⟨rfl, rfl, rfl⟩ := hd
              exact key none 0 w s rfl rfl (Step.refl hr) hp
            · rename_i a
              obtain ⟨k, o⟩ := a
              split at hp
              · rename_i s1 hput
                simp only [VR] at hd
                obtain ⟨p, y, hb, rfl⟩ := hd
                obtain ⟨p', y', w', q1, q2, q3⟩ := run_putCells hr hput hn2
                rw [hb] at q1; cases q1
                exact key _ _ w' s1 rfl q2 q3 hp
              · cases hp
          · cases hp
        · cases hp
      · cases hp
    · cases hp
  · split at hp
    · rename_i t a n c ht
      simp only [VRs] at ha
      obtain ⟨dv, _, rfl, hd, rfl⟩ := ha
      split at hp
      · rename_i e hu
        split at hp
        · cases hp
          simp only [VR] at hd
          obtain ⟨rfl, rfl, rfl⟩ := hd
          exact ⟨.tuple #[], w, ι, by simp [builtin, Builtin.clear_, ht, run_under hu], Step.refl hr, by simp only [VR]; exact ⟨_, rfl, VRs.nil⟩⟩
        · rename_i a
          obtain ⟨k, o⟩ := a
          split at hp
          · rename_i h0
            cases hp
            subst h0
            simp only [VR] at hd
            obtain ⟨p, y, hb, rfl⟩ := hd
            exact ⟨.tuple #[], w, ι, by simp [builtin, Builtin.clear_, ht, run_under hu], Step.refl hr, by simp only [VR]; exact ⟨_, rfl, VRs.nil⟩⟩
          · rename_i h0
            split at hp
            · rename_i z sz hz hsz
              split at hp
              · rename_i hc
                split at hp
                · rename_i s1 hput
                  cases hp
                  simp only [VR] at hd
                  obtain ⟨p, y, hb, rfl⟩ := hd
                  obtain ⟨zv, hz1, hz2⟩ := run_zrT hz w
                  have hzc := (hz2 ι).cells (zr_any hz)
                  have hzs : zv.cells.size = sz := by have := hzc.len; simp at this; omega
                  have hrow : VRs ι (repl n z.cells) (Builtin.zeroCells zv.cells n).toList := by
                    rw [zeroCells_list hzs hc.2]
                    exact hzc.repl n
                  obtain ⟨p', y', w', q1, q2, q3⟩ := run_putCells hr hput hrow
                  rw [hb] at q1; cases q1
                  refine ⟨.tuple #[], w', ι, ?_, q3, by simp only [VR]; exact ⟨_, rfl, VRs.nil⟩⟩
                  obtain ⟨m, rfl⟩ : ∃ m, n = m + 1 := ⟨n - 1, by omega⟩
                  simp only [builtin, Builtin.clear_, List.getElem?_toArray, List.getElem?_cons_zero, ht, Sem.run_bind, run_under hu, Result.andThen_ok, hz1, q2, Sem.run_pure]
                · cases hp
              · cases hp
            · cases hp
      · cases hp
    · rename_i t ht
      simp only [VRs] at ha
      obtain ⟨dv, _, rfl, hd, rfl⟩ := ha
      split at hp
      · rename_i e hu
        cases hp
        simp only [VR] at hd
        obtain ⟨a, c, rfl⟩ := hd
        exact ⟨.tuple #[], w, ι, by simp [builtin, Builtin.clear_, ht, run_under hu], Step.refl hr, by simp only [VR]; exact ⟨_, rfl, VRs.nil⟩⟩
      · cases hp
    · cases hp
  · cases hp
theorem storeA_any {s s' : St} {t : TypeId} {a : Nat × Nat} {v : AV} (hp : storeA P s t a v = some s') : v ≠ .any := by
  intro e
  subst e
  unfold storeA putCells at hp
  split at hp
  · split at hp
    · split at hp
      · split at hp
        · rename_i h1; simp [AV.cells, AV.one] at h1
        · cases hp
      · cases hp
    · cases hp
  · cases hp
theorem decode_ascii {s : ByteArray} {i n : Nat} (hn : (s.get! i).toNat = n) (h : n < 128) : Utf8.decode s i = (n, 1) := by
  unfold Utf8.decode
  simp only [Nat.add_zero, hn]
  rw [if_pos (by omega)]
/-- What an operation of these answers. -/
def NextR (ι : Io) : ANext → Next → Prop
  | .value v, n => ∃ u, n = .value u ∧ VR ι v u
  | .skip, n => n = .skip
  | _, _ => True
theorem run_eA {o : Oper} {s s' : St} {nxt : ANext} (hr : Rel P ι s.obj w) (hp : eA P ρ s o.op = some (nxt, s')) (hn : (∃ v, nxt = .value v) ∨ nxt = .skip) (hx : ∀ x ∈ o.op.operands, ∀ u, ρ x = some u → VR ι u (σ x)) (hfr : ∀ k, s.nx ≤ k → k < s'.nx → ι k = none) :
    ∃ n w' ι', (execOp σ o).run P w = .ok n w' ∧ Step P ι s.obj s.nx w ι' s'.obj s'.nx w' ∧ NextR ι' nxt n := by
  obtain ⟨dst, op, ty, pos, after, guard⟩ := o
  simp only at hp hx
  cases op <;> simp only [eA] at hp <;> first | (cases hp; done) | skip
  case store t a x =>
    split at hp
    · rename_i p v hpa hpx
      obtain ⟨k, o⟩ := p
      split at hp
      · rename_i s1 hst
        cases hp
        have h1 := hx a (by simp [Op.operands]) _ hpa
        have h2 := hx x (by simp [Op.operands]) _ hpx
        simp only [VR] at h1
        obtain ⟨b, y, hb, hs⟩ := h1
        obtain ⟨b', y', w', q1, q2, q3⟩ := run_storeA hr hst h2 (storeA_any hst)
        rw [hb] at q1; cases q1
        exact ⟨.skip, w', ι, by simp only [execOp, Instr.storeAt, hs, Instr.sureAddr, Sem.run_bind, Sem.run_pure, Result.andThen_ok, q2], q3, rfl⟩
      · cases hp
    · cases hp
  case mapUpdate t m k x =>
    split at hp
    · rename_i m' k' x' h1 h2 h3
      split at hp
      · rename_i s1 hst
        cases hp
        obtain ⟨w', q1, q2⟩ := run_mapPut hr hst (hx m (by simp [Op.operands]) _ h1) (hx k (by simp [Op.operands]) _ h2) (hx x (by simp [Op.operands]) _ h3)
        exact ⟨.skip, w', ι, by simp only [execOp, Sem.run_bind, q1, Result.andThen_ok, Sem.run_pure], q2, rfl⟩
      · cases hp
    · cases hp
  case insert t m k x =>
    split at hp
    · rename_i m' k' x' h1 h2 h3
      split at hp
      · rename_i s1 hst
        cases hp
        obtain ⟨w', q1, q2⟩ := run_mapPut hr hst (hx m (by simp [Op.operands]) _ h1) (hx k (by simp [Op.operands]) _ h2) (hx x (by simp [Op.operands]) _ h3)
        exact ⟨.skip, w', ι, by simp only [execOp, Sem.run_bind, q1, Result.andThen_ok, Sem.run_pure], q2, rfl⟩
      · cases hp
    · cases hp
  case select cs bl =>
    exfalso
    cases bl
    · simp only at hp
      have hno : ∀ v, nxt ≠ .comm v := fun v h => by subst h; rcases hn with ⟨v, h⟩ | h <;> cases h
      repeat' (first | (cases hp; exact hno _ rfl) | (cases hp; done) | split at hp)
    · simp only at hp; cases hp
  case next it isS =>
    cases isS
    · simp only at hp; cases hp
    simp only at hp
    split at hp
    · rename_i r hit
      have h1 := hx it (by simp [Op.operands]) _ hit
      simp only [VR] at h1
      obtain ⟨b, y, hb, hs⟩ := h1
      split at hp
      · rename_i bs p hobj
        obtain ⟨b', y', q, q1, q2, rfl, hall⟩ := hr.live _ _ hobj
        rw [hb] at q1; cases q1
        have hget : (getObj b).run P w = .ok (.stringIter (bsOf bs) p) w := by simp [getObj, Sem.run, q2]
        have hsz : (bsOf bs).size = bs.length := by simp [ByteArray.size]
        split at hp
        · rename_i n hn'
          split at hp
          · rename_i hlt
            cases hp
            have hp1 : p < bs.length := (List.getElem?_eq_some_iff.1 hn').1
            have hg : ((bsOf bs).get! p).toNat = n := by
              have e1 := (List.getElem?_eq_some_iff.1 hn').2
              show ((bsOf bs).data[p]!).toNat = n
              simp [hp1, e1, Nat.toUInt8, UInt8.toNat_ofNat']
              have := hall n (List.mem_of_getElem? hn')
              omega
            have hdec := decode_ascii hg hlt
            refine ⟨.value (.tuple #[.bool true, .int .i64 p, .int .i32 n]), { w with heap := w.heap.setIfInBounds b (.stringIter (bsOf bs) (p + 1)) }, ι, ?_, step_set hr hobj hb (p := .stringIter (bsOf bs) (p + 1)) ⟨rfl, hall⟩ (heap_setObj q2) (else_setObj _ _ _).size (else_setObj _ _ _).blk rfl rfl rfl, _, rfl, ?_⟩
            · simp only [execOp, Instr.next, hs, Sem.run_bind, hget, Result.andThen_ok]
              rw [if_pos (by rw [hsz]; exact hp1)]
              simp only [hdec, Sem.run_bind, run_setMap q2 (by simp), Result.andThen_ok, Sem.run_pure, goInt]
            · simp only [VR]
              exact ⟨_, rfl, VRs.cons (by simp only [VR]) (VRs.cons (by simp only [VR]) (VRs.cons (by simp only [VR]) VRs.nil))⟩
          · cases hp
            have hp1 : p < bs.length := (List.getElem?_eq_some_iff.1 hn').1
            refine ⟨.value (.tuple #[.bool true, .int .i64 p, .int .i32 (runeA bs p).1]), { w with heap := w.heap.setIfInBounds b (.stringIter (bsOf bs) (p + (runeA bs p).2)) }, ι, ?_, step_set hr hobj hb (p := .stringIter (bsOf bs) (p + (runeA bs p).2)) ⟨rfl, hall⟩ (heap_setObj q2) (else_setObj _ _ _).size (else_setObj _ _ _).blk rfl rfl rfl, _, rfl, ?_⟩
            · simp only [execOp, Instr.next, hs, Sem.run_bind, hget, Result.andThen_ok]
              rw [if_pos (by rw [hsz]; exact hp1)]
              simp only [Sem.run_bind, run_setMap q2 (by simp), Result.andThen_ok, Sem.run_pure, goInt]
              rfl
            · simp only [VR]
              exact ⟨_, rfl, VRs.cons (by simp only [VR]) (VRs.cons (by simp only [VR]) (VRs.cons (by simp only [VR]) VRs.nil))⟩
        · rename_i hn'
          cases hp
          have hp1 : ¬ p < bs.length := by simpa using hn'
          refine ⟨.value (.tuple #[.bool false]), w, ι, ?_, Step.refl hr, _, rfl, ?_⟩
          · simp only [execOp, Instr.next, hs, Sem.run_bind, hget, Result.andThen_ok]
            rw [if_neg (by rw [hsz]; exact hp1)]
            simp only [Sem.run_pure, Result.andThen_ok]
          · simp only [VR]
            exact ⟨_, rfl, VRs.cons (by simp only [VR]) VRs.nil⟩
      · cases hp
    · cases hp
  case call c =>
    split at hp
    · rename_i args ha
      have hargs := evs_VRs (ι := ι) (σ := σ) c.args.toList args ha fun x hx' => hx x (by show x ∈ c.operands; unfold Call.operands; exact Array.mem_append.2 (.inr (Array.mem_toList_iff.1 hx')))
      have e : (c.args.toList.map σ).toArray = c.args.map σ := by rw [← Array.toList_map, Array.toArray_toList]
      split at hp
      · cases hp; rcases hn with ⟨v, h⟩ | h <;> cases h
      · rename_i b _ hb
        split at hp
        · rename_i v s1 hv
          cases hp
          obtain ⟨u, w', ι', q1, q2, q3⟩ := run_eBuiltin (ty := ty) (cs := c.args.map fun | .const _ => true | _ => false) hr hv hargs hfr
          refine ⟨.value u, w', ι', ?_, q2, u, rfl, q3⟩
          rw [e] at q1
          simp only [execOp, resolve, hb, Sem.run_bind, Sem.run_pure, Result.andThen_ok, invoke]
          exact q1
        · cases hp
      · split at hp
        · split at hp
          · rename_i g first captured hg x hc
            cases hp
            unfold callA at hc
            split at hc
            · split at hc
              · split at hc
                · cases hc
                · cases hc; rcases hn with ⟨v, h⟩ | h <;> cases h
              · cases hc
            · cases hc
          · cases hp
        · cases hp; rcases hn with ⟨v, h⟩ | h <;> cases h
        · cases hp
      · cases hp
    · cases hp
  case defer c =>
    split at hp
    · split at hp
      · split at hp
        · cases hp; rcases hn with ⟨v, h⟩ | h <;> cases h
        · cases hp
      · cases hp
    · cases hp
end
end Go.Proofs.YtcpmhehklicpfaaGreatDoor.Ev
