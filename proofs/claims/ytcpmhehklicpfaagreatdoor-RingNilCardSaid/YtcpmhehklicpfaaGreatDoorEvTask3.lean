/- Regions, calls, deferred calls, rounds. -/
import Derived.Test.YtcpmhehklicpfaaGreatDoorEvTask2
namespace Go.Proofs.YtcpmhehklicpfaaGreatDoor.Ev
open Go
set_option linter.unusedVariables false
section
variable {P : Program}
theorem eA_same {ρ : Operand → Option AV} {s s' : St} {o : Op} {nxt : ANext} (hp : eA P ρ s o = some (nxt, s')) (h1 : ∀ v, nxt ≠ .value v) (h2 : nxt ≠ .skip) (h3 : ∀ v, nxt ≠ .comm v) : s' = s := by
  cases o <;> simp only [eA] at hp <;> first | (cases hp; done) | skip
  case next it isS =>
    cases isS
    · simp only at hp; cases hp
    simp only at hp
    repeat' (first | (cases hp) | split at hp)
    all_goals first | rfl | exact absurd rfl h2 | exact absurd rfl (h1 _)
  case select cs bl =>
    cases bl
    · simp only at hp
      repeat' (first | (cases hp; exact absurd rfl (h3 _)) | (cases hp; done) | split at hp)
    · simp only at hp; cases hp
  all_goals
    repeat' (first | (cases hp) | split at hp)
  all_goals first | rfl | exact absurd rfl h2 | exact absurd rfl (h1 _)
theorem eA_defer {ρ : Operand → Option AV} {s s' : St} {o : Op} {nxt : ANext} (hp : eA P ρ s o = some (nxt, s')) : ((∃ g l, nxt = .defer g l) ↔ ∃ c, o = .defer c) := by
  have hcall : ∀ {f : FuncId} {l : List AV} {x : ANext}, callA P f l = some x → ∀ g l, x ≠ .defer g l := fun hc g l h => by
    have := (callA_enter hc).1; rw [h] at this; cases this
  cases o <;> simp only [eA] at hp <;> first | (cases hp; done) | skip
  case next it isS =>
    cases isS
    · simp only at hp; cases hp
    simp only at hp
    repeat' (first | (cases hp) | split at hp)
    all_goals simp
  case select cs bl =>
    cases bl
    · simp only at hp
      repeat' (first | (cases hp) | split at hp)
      all_goals simp
    · simp only at hp; cases hp
  case call c =>
    refine ⟨fun ⟨g, l, h⟩ => ?_, fun ⟨c, h⟩ => by cases h⟩
    subst h
    split at hp
    · split at hp
      · cases hp
      · split at hp <;> cases hp
      · split at hp
        · split at hp
          · rename_i hc; cases hp; exact absurd rfl (hcall hc _ _)
          · cases hp
        · cases hp
        · cases hp
      · cases hp
    · cases hp
  case defer c =>
    refine ⟨fun _ => ⟨c, rfl⟩, fun _ => ?_⟩
    repeat' (first | (cases hp; exact ⟨_, _, rfl⟩) | (cases hp; done) | split at hp)
  all_goals
    repeat' (first | (cases hp) | split at hp)
  all_goals simp
theorem esem_value {o : Oper} {f : Fr} {s s' : St} {nxt : ANext} {v : AV} (hp : eA P f.ev s o.op = some (nxt, s')) (hn : nxt = .value v ∨ (nxt = .skip ∧ v = undefA)) : ESem P o f s v s' := by
  intro b ι a w k cs rest ops i ho hw hcs hgl hx hr hfr
  have hd : ∀ c, o.op ≠ .defer c := fun c hc => by
    obtain ⟨g, l, h⟩ := (eA_defer hp).2 ⟨c, hc⟩
    rcases hn with h' | ⟨h', _⟩ <;> rw [h] at h' <;> cases h'
  obtain ⟨n, w', ι', h1, h2, h3⟩ := run_eA hr hp (hn.imp (fun h => ⟨v, h⟩) (·.1)) hx hfr
  rcases hn with rfl | ⟨rfl, rfl⟩
  · obtain ⟨u, rfl, h4⟩ := h3
    exact ⟨ι', w', u, h2, h4, .one (step_value ho hw hd h1)⟩
  · obtain rfl := h3
    exact ⟨ι', w', undef, h2, by simp only [undefA, VR, undef]; exact ⟨_, rfl, VRs.nil⟩, .one (step_skip_op ho hw hd h1)⟩
theorem esem_enter {o : Oper} {f : Fr} {s s' : St} {g : FuncId} {l : List AV} {v : AV} (hp : eA P f.ev s o.op = some (.enter g l, s)) (hc : CallS P g l s v s') : ESem P o f s v s' := by
  intro b ι a w k cs rest ops i ho hw hcs hgl hx hr hfr
  have hd : ∀ c, o.op ≠ .defer c := fun c hc => by
    obtain ⟨g, l, h⟩ := (eA_defer hp).2 ⟨c, hc⟩; cases h
  obtain ⟨_, as, h1, h2⟩ := (run_callA hp hx w).1 g l rfl
  obtain ⟨ι', w', u, fr, t1, hu, st, hk, hgo, _⟩ := hc .normal ι w as (b.atR a (.inRegion ops (i :: rest) :: k) :: cs) (.inl ⟨rfl, .inl rfl⟩) hgl h1 hr hfr
  refine ⟨ι', w', u, t1, hu, .head (step_enter_op ho hw hd h2) (Steps.trans st (.one ?_))⟩
  rw [← fin_op ho]
  exact step_leave_returned ⟨hgo.1, hgo.2.1, hk, hgo.2.2⟩
theorem esem_round {o : Oper} {f : Fr} {s s' : St} {r : Nat} {l : List AV} {v : AV} (hp : eA P f.ev s o.op = some (.round r l, s)) (hc : RoundS P r l s v s') : ESem P o f s v s' := by
  intro b ι a w k cs rest ops i ho hw hcs hgl hx hr hfr
  have hd : ∀ c, o.op ≠ .defer c := fun c hc => by
    obtain ⟨g, l, h⟩ := (eA_defer hp).2 ⟨c, hc⟩; cases h
  obtain ⟨_, b', x, hb, as, h1, h2⟩ := (run_callA hp hx w).2.1 r l rfl
  obtain ⟨ι', w', u, b2, x2, g, tmps, asg, body, t1, hu, hb2, hy, st⟩ := hc ι w as (b.atR a (.inRegion ops (i :: rest) :: k)) cs hgl h1 hr hfr
  rw [hb] at hb2; cases hb2
  rw [hy] at h2
  refine ⟨ι', w', u, t1, hu, .head (step_round_op ho hw hd h2) ?_⟩
  rw [← fin_op ho]
  exact st
theorem esem_recover {o : Oper} {f : Fr} {s : St} (hp : eA P f.ev s o.op = some (.recover, s)) : ESem P o f s .nilIface s := by
  intro b ι a w k cs rest ops i ho hw hcs hgl hx hr hfr
  have hd : ∀ c, o.op ≠ .defer c := fun c hc => by
    obtain ⟨g, l, h⟩ := (eA_defer hp).2 ⟨c, hc⟩; cases h
  obtain ⟨_, h2⟩ := (run_callA hp hx w).2.2 rfl
  exact ⟨ι, w, .nilIface, Step.refl hr, by simp only [VR], .one (step_recover_op hcs ho hw hd h2)⟩
theorem esem_comm {o : Oper} {f : Fr} {s s' : St} {v : AV} (hp : eA P f.ev s o.op = some (.comm v, s')) : ESem P o f s v s' := by
  intro b ι a w k cs rest ops i ho hw hcs hgl hx hr hfr
  have hd : ∀ c, o.op ≠ .defer c := fun c hc => by
    obtain ⟨g, l, h⟩ := (eA_defer hp).2 ⟨c, hc⟩; cases h
  have hsel : ∃ cs, o.op = .select cs false := by
    cases hop : o.op <;> rw [hop] at hp <;> simp only [eA] at hp <;> first | (cases hp; done) | skip
    case select cs bl =>
      cases bl
      · exact ⟨cs, rfl⟩
      · simp only at hp; cases hp
    case next it isS =>
      cases isS
      · simp only at hp; cases hp
      simp only at hp
      exfalso
      repeat' (first | (cases hp) | split at hp)
    case call c =>
      exfalso
      split at hp
      · split at hp
        · cases hp
        · split at hp <;> cases hp
        · split at hp
          · split at hp
            · rename_i hc; cases hp; have := (callA_enter hc).1; cases this
            · cases hp
          · cases hp
          · cases hp
        · cases hp
      · cases hp
    all_goals
      exfalso
      repeat' (first | (cases hp) | split at hp)
  obtain ⟨css, hop⟩ := hsel
  rw [hop] at hp
  simp only [eA] at hp
  split at hp
  · rename_i c hc
    have hcss : css = #[c] := by cases css; simp at hc; rw [hc]
    subst hcss
    split at hp
    · rename_i z r hz hch
      obtain ⟨zv, hz1, hz2⟩ := run_zrT hz w
      have hcv := hx c.chan (by rw [hop]; simp [Op.operands]) _ hch
      simp only [VR] at hcv
      obtain ⟨bl, x, hb, hcs'⟩ := hcv
      have hrun : (execOp a.eval o).run P w = .ok (.comm #[{ chan := .chan (some bl), send := c.send.map a.eval, zero := zv }] false .select) w := by
        simp only [execOp, hop]
        simp [Sem.run_bind, hz1, hcs', Result.andThen]
      split at hp
      · rename_i cap buf hk
        obtain ⟨bl', x', p, q1, q2, bf, sn, rc, rfl, q3⟩ := hr.live _ _ hk
        rw [hb] at q1; cases q1
        have hlen := q3.len
        have hlen : buf.length = bf.size := by simpa using hlen
        split at hp
        · rename_i y hy
          split at hp
          · rename_i u hu
            have huv := hx y (by rw [hop]; simp [Op.operands, hy]) _ hu
            split at hp
            · rename_i hroom
              cases hp
              refine ⟨ι, _, .tuple #[.int .i64 0, .bool false], step_put (p := .chan cap (bf.push (a.eval y)) false (sn + 1) rc false) hr hk hb q2 ⟨_, _, _, rfl, ?_⟩, ?_, .one (step_comm_send ho hw hd hrun rfl q2 (by rw [hy]; rfl) (by omega))⟩
              · rw [Array.toList_push]; exact q3.append (VRs.cons huv VRs.nil)
              · simp only [VR]; exact ⟨_, rfl, VRs.cons (by simp only [VR]) (VRs.cons (by simp only [VR]) VRs.nil)⟩
            · rename_i hroom
              cases hp
              refine ⟨ι, w, .tuple #[.int .i64 (-1), .bool false], Step.refl hr, ?_, .one (step_comm_full ho hw hd hrun rfl q2 (by rw [hy]; rfl) (by omega))⟩
              simp only [VR]; exact ⟨_, rfl, VRs.cons (by simp only [VR]) (VRs.cons (by simp only [VR]) VRs.nil)⟩
          · cases hp
        · rename_i hy
          split at hp
          · rename_i u l
            cases hp
            simp only [VRs] at q3
            obtain ⟨uv, l', q4, q5, q6⟩ := q3
            have hget : bf.getD 0 undef = uv := by
              rw [Array.getD_eq_getD_getElem?, ← Array.getElem?_toList, q4]; rfl
            refine ⟨ι, _, .tuple #[.int .i64 0, .bool true, bf.getD 0 undef], step_put (p := .chan cap (bf.extract 1 bf.size) false sn (rc + 1) false) hr hk hb q2 ⟨_, _, _, rfl, ?_⟩, ?_, .one (step_comm_recv ho hw hd hrun rfl q2 (by rw [hy]; rfl) (by simp at hlen; omega))⟩
            · rw [Array.toList_extract, List.extract_eq_take_drop, q4]
              have : bf.size - 1 = l'.length := by have := congrArg List.length q4; simp at this; omega
              rw [this]; simpa using q6
            · rw [hget]; simp only [VR]; exact ⟨_, rfl, VRs.cons (by simp only [VR]) (VRs.cons (by simp only [VR]) (VRs.cons q5 VRs.nil))⟩
          · cases hp
            refine ⟨ι, w, .tuple #[.int .i64 (-1), .bool false, zv], Step.refl hr, ?_, .one (step_comm_none ho hw hd hrun rfl q2 (by rw [hy]; rfl) (by simp at hlen; omega))⟩
            simp only [VR]; exact ⟨_, rfl, VRs.cons (by simp only [VR]) (VRs.cons (by simp only [VR]) (VRs.cons (hz2 ι) VRs.nil))⟩
      · cases hp
    · cases hp
  · cases hp
theorem ops_cons {rec : Task → St → Option (Res × St)} (hg : Good P rec) {draw : Bool} {ops : Array Oper} {o : Oper} {l : List Oper} {acc : List Ent} {f f1 : Fr} {s s1 s' : St} {e : Ent} {r : Res} (he : EntOk P ops o f s e f1 s1)
    (h : rec (.ops draw ops l (e :: acc) f1) s1 = some (r, s')) : s.nx ≤ s'.nx ∧ TaskS P (.ops draw ops (o :: l) acc f) s r s' := by
  obtain ⟨n1, h1⟩ := hg _ _ _ _ h
  refine ⟨Nat.le_trans he.nx n1, ?_⟩
  cases r with
  | val v => simp only [TaskS] at h1
  | «at» x f' =>
    cases x with
    | normal =>
      simp only [TaskS] at h1 ⊢
      obtain ⟨tr, t1, t2⟩ := h1
      exact ⟨e :: tr, .cons he t1, t2.imp id fun h => by simpa using h⟩
    | ret => simp only [TaskS] at h1
    | exit id => simp only [TaskS] at h1
theorem task_ops {rec : Task → St → Option (Res × St)} (hg : Good P rec) {draw : Bool} {ops : Array Oper} {l : List Oper} {acc : List Ent} {f : Fr} {s s' : St} {r : Res} (h : evF P rec (.ops draw ops l acc f) s = some (r, s')) : s.nx ≤ s'.nx ∧ TaskS P (.ops draw ops l acc f) s r s' := by
  cases l with
  | nil =>
    simp only [evF] at h
    split at h
    · rename_i hd
      cases h
      exact ⟨Nat.le_refl _, [], .nil f s, by simpa using hd⟩
    · cases h
  | cons o l =>
    simp only [evF] at h
    split at h
    · rename_i hw
      split at h
      · rename_i f1 hp
        exact ops_cons hg (.off hw hp) h
      · cases h
    · rename_i hw
      split at h
      · rename_i hk
        split at h
        · rename_i v hv
          split at h
          · rename_i f1 hp
            exact ops_cons hg (.q hw hk hv hp) h
          · cases h
        · cases h
      · rename_i hk
        split at h
        · rename_i ob mk hv
          split at h
          · rename_i f1 hp
            exact ops_cons hg (.a hw hk hv hp) h
          · cases h
        · cases h
      · rename_i hk
        split at h
        · rename_i v s1 hv
          split at h
          · rename_i hn
            split at h
            · rename_i f1 hp
              exact ops_cons hg (.e hw hk hn (esem_value hv (.inl rfl)) hp) h
            · cases h
          · cases h
        · rename_i v s1 hv
          split at h
          · rename_i hn
            split at h
            · rename_i f1 hp
              exact ops_cons hg (.e hw hk hn (esem_comm hv) hp) h
            · cases h
          · cases h
        · rename_i s1 hv
          split at h
          · rename_i hn
            split at h
            · rename_i f1 hp
              exact ops_cons hg (.e hw hk hn (esem_value hv (.inr ⟨rfl, rfl⟩)) hp) h
            · cases h
          · cases h
        · rename_i g args s0 hv
          obtain rfl := eA_same hv (by simp) (by simp) (by simp)
          split at h
          · rename_i v s1 hc
            obtain ⟨n1, c1⟩ := hg _ _ _ _ hc
            simp only [TaskS] at c1
            split at h
            · rename_i f1 hp
              exact ops_cons hg (.e hw hk n1 (esem_enter hv c1) hp) h
            · cases h
          · cases h
        · rename_i g args s0 hv
          obtain rfl := eA_same hv (by simp) (by simp) (by simp)
          split at h
          · rename_i v s1 hc
            obtain ⟨n1, c1⟩ := hg _ _ _ _ hc
            simp only [TaskS] at c1
            split at h
            · rename_i f1 hp
              exact ops_cons hg (.e hw hk n1 (esem_round hv c1) hp) h
            · cases h
          · cases h
        · rename_i g args s0 hv
          obtain rfl := eA_same hv (by simp) (by simp) (by simp)
          obtain ⟨c, hc⟩ := (eA_defer hv).1 ⟨_, _, rfl⟩
          split at h
          · rename_i f1 hp
            exact ops_cons hg (.d c hc hw hk hv hp) h
          · cases h
        · rename_i s0 hv
          obtain rfl := eA_same hv (by simp) (by simp) (by simp)
          split at h
          · rename_i f1 hp
            exact ops_cons hg (.e hw hk (Nat.le_refl _) (esem_recover hv) hp) h
          · cases h
        · cases h
    · cases h
theorem task_code {rec : Task → St → Option (Res × St)} (hm : P.follows .mixedOrders = true) (hg : Good P rec) {c : Code} {f : Fr} {s s' : St} {r : Res} (h : evF P rec (.code c f) s = some (r, s')) : s.nx ≤ s'.nx ∧ TaskS P (.code c f) s r s' := by
  cases c
  case rangeFunc g ps asg body => exact code_rangeFunc hg h
  case skip =>
    simp only [evF] at h; cases h
    exact ⟨Nat.le_refl _, Nat.le_refl _, fun b ι a w k cs _ hf hr _ _ => ⟨ι, a, w, Step.refl hr, hf, .one stepR_skip⟩⟩
  case label l =>
    simp only [evF] at h; cases h
    exact ⟨Nat.le_refl _, Nat.le_refl _, fun b ι a w k cs _ hf hr _ _ => ⟨ι, a, w, Step.refl hr, hf, .one stepR_label⟩⟩
  case exit id =>
    simp only [evF] at h; cases h
    exact ⟨Nat.le_refl _, Nat.le_refl _, fun b ι a w k cs _ hf hr _ _ => ⟨ι, a, w, Step.refl hr, hf, k, rfl, Steps.refl _ _⟩⟩
  case ret =>
    simp only [evF] at h; cases h
    exact ⟨Nat.le_refl _, Nat.le_refl _, fun b ι a w k cs _ hf hr _ _ => ⟨ι, a, w, Step.refl hr, hf, k, Steps.refl _ _⟩⟩
  case region id ops draw =>
    simp only [evF] at h
    obtain ⟨n1, h1⟩ := hg _ _ _ _ h
    refine ⟨n1, ?_⟩
    cases r with
    | val v => simp only [TaskS] at h1
    | «at» x f' =>
      cases x with
      | normal =>
        simp only [TaskS] at h1 ⊢
        obtain ⟨tr, t1, t2⟩ := h1
        exact code_region hm t1 (by simpa using t2)
      | ret => simp only [TaskS] at h1
      | exit id => simp only [TaskS] at h1
  case seq a b =>
    simp only [evF] at h
    split at h
    · rename_i f1 s1 h1
      obtain ⟨n1, c1⟩ := hg _ _ _ _ h1
      obtain ⟨n2, c2⟩ := hg _ _ _ _ h
      cases r with
      | val v => simp only [TaskS] at c2
      | «at» x f' => exact ⟨Nat.le_trans n1 n2, code_seq c1 n1 c2 n2⟩
    · rename_i hno
      obtain ⟨n1, c1⟩ := hg _ _ _ _ h
      cases r with
      | val v => simp only [TaskS] at c1
      | «at» x f' => exact ⟨n1, code_seq_left c1 fun e => by subst e; exact hno _ _ h⟩
  case cond c a b =>
    simp only [evF] at h
    split at h
    · rename_i hc
      obtain ⟨n1, c1⟩ := hg _ _ _ _ h
      cases r with
      | val v => simp only [TaskS] at c1
      | «at» x f' => exact ⟨n1, code_cond (t := true) hc c1⟩
    · rename_i hc
      obtain ⟨n1, c1⟩ := hg _ _ _ _ h
      cases r with
      | val v => simp only [TaskS] at c1
      | «at» x f' => exact ⟨n1, code_cond (t := false) hc c1⟩
    · cases h
  case block id b =>
    simp only [evF] at h
    split at h
    · rename_i j f1 s1 h1
      obtain ⟨n1, c1⟩ := hg _ _ _ _ h1
      have := code_block (id := id) c1
      split at h
      · rename_i hj
        cases h
        simp only [if_pos hj] at this
        exact ⟨n1, this⟩
      · rename_i hj
        cases h
        simp only [if_neg hj] at this
        exact ⟨n1, this⟩
    · rename_i hno
      obtain ⟨n1, c1⟩ := hg _ _ _ _ h
      cases r with
      | val v => simp only [TaskS] at c1
      | «at» x f' =>
        have := code_block (id := id) c1
        cases x with
        | exit j => exact absurd h (hno _ _ _)
        | normal => exact ⟨n1, this⟩
        | ret => exact ⟨n1, this⟩
  case loop b =>
    simp only [evF] at h
    split at h
    · rename_i f1 s1 h1
      obtain ⟨n1, c1⟩ := hg _ _ _ _ h1
      obtain ⟨n2, c2⟩ := hg _ _ _ _ h
      cases r with
      | val v => simp only [TaskS] at c2
      | «at» x f' => exact ⟨Nat.le_trans n1 n2, code_loop c1 n1 c2 n2⟩
    · rename_i hno
      obtain ⟨n1, c1⟩ := hg _ _ _ _ h
      cases r with
      | val v => simp only [TaskS] at c1
      | «at» x f' => exact ⟨n1, code_loop_left c1 fun e => by subst e; exact hno _ _ h⟩
  case scope b =>
    simp only [evF] at h
    obtain ⟨n1, c1⟩ := hg _ _ _ _ h
    cases r with
    | val v => simp only [TaskS] at c1
    | «at» x f' => exact ⟨n1, code_scope c1⟩
  all_goals (simp only [evF] at h; cases h)
end
end Go.Proofs.YtcpmhehklicpfaaGreatDoor.Ev
