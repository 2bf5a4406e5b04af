/- Places, parts, look-ups, conversions. -/
import Derived.Test.YtcpmhehklicpfaaGreatDoorEvQ
namespace Go.Proofs.YtcpmhehklicpfaaGreatDoor.Ev
open Go
set_option linter.unusedVariables false
section
variable {P : Program} {ι : Io} {h : Hp} {w : World}
theorem run_idxA {t : TypeId} {x i v : AV} {x' i' : Value} (hv : idxA P t x i = some v) (hx : VR ι x x') (hi : VR ι i i') (w : World) : ∃ u, (Instr.indexAt t x' i').run P w = .ok u w ∧ VR ι v u := by
  unfold idxA at hv
  split at hv
  · rename_i len e b o k i hu
    split at hv
    · rename_i hb
      split at hv
      · rename_i n hn
        cases hv
        simp only [VR] at hx hi
        obtain ⟨p, y, hp, rfl⟩ := hx
        subst hi
        refine ⟨.pointer (some ⟨p, o + i.toNat * n, none⟩), ?_, by simp only [VR]; exact ⟨p, y, hp, rfl⟩⟩
        simp only [Instr.indexAt, Sem.run_bind, run_asInt, Result.andThen_ok, run_under hu, Instr.sureAddr, Sem.run_pure, Sem.run_ite]
        rw [if_pos hb]
        simp only [Sem.run_bind, run_szT hn, Result.andThen_ok, Sem.run_pure, addr_add']
      · cases hv
    · cases hv
  · rename_i e b o len c k i hu
    split at hv
    · rename_i hb
      split at hv
      · rename_i n hn
        cases hv
        simp only [VR] at hx hi
        obtain ⟨p, y, hp, rfl⟩ := hx
        subst hi
        refine ⟨.pointer (some ⟨p, o + i.toNat * n, none⟩), ?_, by simp only [VR]; exact ⟨p, y, hp, rfl⟩⟩
        simp only [Instr.indexAt, Sem.run_bind, run_asInt, Result.andThen_ok, run_under hu, Instr.sureAddr, Sem.run_pure, Sem.run_ite]
        rw [if_pos hb]
        simp only [Sem.run_bind, run_szT hn, Result.andThen_ok, Sem.run_pure, addr_add']
      · cases hv
    · cases hv
  · rename_i e rows k i hu
    split at hv
    · rename_i hb
      split at hv
      · rename_i n r hn hr
        split at hv
        · rename_i hlen
          cases hv
          simp only [VR] at hx hi
          subst hi
          obtain ⟨a, cap, rfl, _, h1⟩ := hx
          have hlt : i.toNat < rows.length := (List.getElem?_eq_some_iff.1 hr).1
          rcases h1 with h1 | ⟨b, off, cs, sz, rfl, h2, h3⟩
          · subst h1; simp at hlt
          · obtain ⟨h4, h5⟩ := h3.at hr
            have hsz : sz = n := by rw [← h4, hlen]
            subst hsz
            refine ⟨.pointer (some ⟨b, off + i.toNat * sz, none⟩), ?_, ?_⟩
            · simp only [Instr.indexAt, Sem.run_bind, run_asInt, Result.andThen_ok, run_under hu, Instr.sureAddr, Sem.run_pure, Sem.run_ite]
              rw [if_pos ⟨hb, by omega⟩]
              simp only [Sem.run_bind, run_szT hn, Result.andThen_ok, Sem.run_pure, addr_add']
            · simp only [VR]
              refine ⟨b, off + i.toNat * sz, cs, rfl, h2, ?_⟩
              rw [h4, ← List.drop_drop]; exact h5
        · cases hv
      · cases hv
    · cases hv
  · cases hv
theorem run_indexA {t : TypeId} {x i v : AV} {x' i' : Value} (hv : indexA P t x i = some v) (hx : VR ι x x') (hi : VR ι i i') (w : World) : ∃ u, (Instr.index t x' i').run P w = .ok u w ∧ VR ι v u := by
  unfold indexA at hv
  split at hv
  · rename_i len e c k i hu
    split at hv
    · rename_i hb
      split at hv
      · rename_i n hn
        simp only [VR] at hx hi
        obtain ⟨cs, rfl, hc⟩ := hx
        subst hi
        obtain ⟨u, h1, h2⟩ := run_partA hv (cs := cs) (by rw [hc.len, List.take_length]; exact hc) w
        refine ⟨u, ?_, h2⟩
        simp only [Instr.index, Sem.run_bind, run_asInt, Result.andThen_ok, run_under hu, Sem.run_ite]
        rw [if_pos hb]
        simp only [Sem.run_bind, run_szT hn, Result.andThen_ok, h1]
      · cases hv
    · cases hv
  · rename_i b k i hu
    split at hv
    · rename_i hb
      split at hv
      · rename_i n hn
        cases hv
        simp only [VR] at hx hi
        obtain ⟨rfl, hall⟩ := hx
        subst hi
        have hlt : n < 256 := hall n (List.mem_of_getElem? hn)
        have hget : (bsOf b)[i.toNat]? = some n.toUInt8 := by
          obtain ⟨hl, he⟩ := List.getElem?_eq_some_iff.1 hn
          have hs : i.toNat < (bsOf b).size := by simpa [ByteArray.size] using hl
          show (if h : i.toNat < (bsOf b).size then some ((bsOf b)[i.toNat]'h) else none) = _
          rw [dif_pos hs]
          congr 1
          show (bsOf b).data[i.toNat] = _
          simp [bsOf, he]
        refine ⟨.int .u8 n, ?_, by simp only [VR, byteA]⟩
        simp only [Instr.index, Sem.run_bind, run_asInt, Result.andThen_ok, run_under hu]
        rw [if_pos hb, hget]
        simp only [Sem.run_pure]
        congr 2
        simp [Nat.toUInt8, UInt8.toNat_ofNat']
        omega
      · cases hv
    · cases hv
  · cases hv
theorem run_fieldAtA {t : TypeId} {x v : AV} {x' : Value} {i : Nat} (hv : fieldAtA P t x i = some v) (hx : VR ι x x') (w : World) : ∃ u, (Instr.fieldAt t x' i).run P w = .ok u w ∧ VR ι v u := by
  unfold fieldAtA at hv
  split at hv
  · rename_i fs b o hu
    split at hv
    · rename_i g hg
      split at hv
      · cases hv
      · rename_i n hn hz
        cases hv
        simp only [VR] at hx
        obtain ⟨p, y, hp, rfl⟩ := hx
        have hn0 : ¬ n = 0 := hn
        refine ⟨.pointer (some ⟨p, o + g.offset, none⟩), ?_, by simp only [VR]; exact ⟨p, y, hp, rfl⟩⟩
        simp only [Instr.fieldAt, Sem.run_bind, run_under hu, Result.andThen_ok, hg, Instr.sureAddr, Sem.run_pure, fieldPlace, run_szT hz, Sem.run_ite, if_neg hn0, addr_add']
      · cases hv
    · cases hv
  · rename_i fs c hu
    split at hv
    · rename_i g hg
      split at hv
      · cases hv
      · rename_i n hn hz
        cases hv
        simp only [VR] at hx
        obtain ⟨b, off, cs, rfl, h2, h3⟩ := hx
        have hn0 : ¬ n = 0 := hn
        refine ⟨.pointer (some ⟨b, off + g.offset, none⟩), ?_, ?_⟩
        · simp only [Instr.fieldAt, Sem.run_bind, run_under hu, Result.andThen_ok, hg, Instr.sureAddr, Sem.run_pure, fieldPlace, run_szT hz, Sem.run_ite, if_neg hn0, addr_add']
        · simp only [VR]
          refine ⟨b, off + g.offset, cs, rfl, h2, ?_⟩
          have := h3.drop g.offset
          rw [List.drop_take, List.drop_drop] at this
          rw [List.length_drop]; exact this
      · cases hv
    · cases hv
  · cases hv
theorem run_fieldA {t : TypeId} {x v : AV} {x' : Value} {i : Nat} (hv : fieldA P t x i = some v) (hx : VR ι x x') (w : World) : ∃ u, (Instr.field t x' i).run P w = .ok u w ∧ VR ι v u := by
  unfold fieldA at hv
  split at hv
  · rename_i fs c hu
    split at hv
    · rename_i g hg
      simp only [VR] at hx
      obtain ⟨cs, rfl, hc⟩ := hx
      obtain ⟨u, h1, h2⟩ := run_partA hv (cs := cs) (by rw [hc.len, List.take_length]; exact hc) w
      exact ⟨u, by simp only [Instr.field, Sem.run_bind, run_under hu, Result.andThen_ok, hg, asAgg, Sem.run_pure, h1], h2⟩
    · cases hv
  · cases hv
theorem kindKey_cases {k : TypeId} {v : AV} (h : kindKey P k v = true) : (∃ kd j n, P.underlying k = some (.int kd) ∧ v = .int j n) ∨ (∃ s, P.underlying k = some .string ∧ v = .str s) := by
  unfold kindKey at h
  split at h
  · rename_i kd j n hu; exact .inl ⟨kd, j, n, hu, rfl⟩
  · rename_i s hu; exact .inr ⟨s, hu, rfl⟩
  · cases h
theorem run_checkKey {k : TypeId} {v : AV} {v' : Value} (hk : kindKey P k v = true) (hv : VR ι v v') (b : Bool) (w : World) : (Instr.checkKey b 10000 k v').run P w = .ok () w := by
  rcases kindKey_cases hk with ⟨kd, j, n, hu, rfl⟩ | ⟨s, hu, rfl⟩
  · simp only [VR] at hv; subst hv; rw [show (10000 : Nat) = 9999 + 1 from rfl, Instr.checkKey]; simp [run_under hu]
  · simp only [VR] at hv; obtain ⟨rfl, _⟩ := hv; rw [show (10000 : Nat) = 9999 + 1 from rfl, Instr.checkKey]; simp [run_under hu]
/-- What a search finds. -/
def foundR (ι : Io) : Option (Nat × AV) → Option (Nat × Value) → Prop
  | none, r => r = none
  | some (i, v), r => ∃ u, r = some (i, u) ∧ VR ι v u
theorem run_findNow {k : AV} {k' : Value} {d : TypeDesc} (hd : (∃ kd j n, d = .int kd ∧ k = .int j n) ∨ (∃ s, d = .string ∧ k = .str s)) (hk : VR ι k k') : ∀ (es : List AEnt) (xs : List MapEntry) (i : Nat) (r : Option (Nat × AV)),
    findA k es i = some r → EntsR ι es xs → ∃ r', Instr.findNow d k' xs i = some r' ∧ foundR ι r r'
  | [], xs, i, r, h, he => by simp only [findA] at h; cases h; simp only [EntsR] at he; subst he; exact ⟨none, rfl, rfl⟩
  | e :: es, xs, i, r, h, he => by
    obtain ⟨x, xs', rfl, h1, h2, h3, h4⟩ := he
    have ih := run_findNow hd hk es xs' (i + 1)
    unfold findA at h
    split at h
    · rename_i j a j' b he'
      rw [he'] at h1
      simp only [VR] at h1 hk
      subst hk
      rcases hd with ⟨kd, jj, nn, rfl, hh⟩ | ⟨s, _, hh⟩
      · split at h
        · rename_i hj
          split at h
          · rename_i hab
            cases h
            refine ⟨some (i, x.val), ?_, ⟨x.val, rfl, h2⟩⟩
            simp [Instr.findNow, Instr.sameNow, h1, hj, hab]
          · rename_i hab
            obtain ⟨r', h5, h6⟩ := ih r h h4
            refine ⟨r', ?_, h6⟩
            have hab' : (a == b) = false := by simpa using hab
            simp only [Instr.findNow, Instr.sameNow, h1, hj, if_true, hab', h5]
            rw [← hj]; exact h5
        · cases h
      · cases hh
    · rename_i a b he'
      rw [he'] at h1
      simp only [VR] at h1 hk
      obtain ⟨rfl, ha⟩ := hk
      obtain ⟨h1, hb⟩ := h1
      rcases hd with ⟨kd, jj, nn, _, hh⟩ | ⟨s, rfl, hh⟩
      · cases hh
      · have hbeq : (bsOf a == bsOf b) = (a == b) := by rw [beq_toListBytes, bs_list, bs_list, bs_eq a b ha hb]
        split at h
        · rename_i hab
          cases h
          refine ⟨some (i, x.val), ?_, ⟨x.val, rfl, h2⟩⟩
          have : (bsOf a == bsOf b) = true := by rw [hbeq]; simpa using hab
          simp only [Instr.findNow, Instr.sameNow, h1, this]
        · rename_i hab
          obtain ⟨r', h5, h6⟩ := ih r h h4
          refine ⟨r', ?_, h6⟩
          have : (bsOf a == bsOf b) = false := by rw [hbeq]; simpa using hab
          simp only [Instr.findNow, Instr.sameNow, h1, this, h5]
    · cases h
theorem run_findKey {kt : TypeId} {k : AV} {k' : Value} (hkk : kindKey P kt k = true) (hk : VR ι k k') {es : List AEnt} {xs : List MapEntry} {r : Option (Nat × AV)} (hf : findA k es 0 = some r) (he : EntsR ι es xs) (w : World) :
    ∃ r', (Instr.findKey kt k' xs).run P w = .ok r' w ∧ foundR ι r r' := by
  rcases kindKey_cases hkk with ⟨kd, j, n, hu, rfl⟩ | ⟨s, hu, rfl⟩
  · obtain ⟨r', h1, h2⟩ := run_findNow (d := .int kd) (.inl ⟨kd, j, n, rfl, rfl⟩) hk es xs 0 r hf he
    exact ⟨r', by simp [Instr.findKey, run_under hu, h1], h2⟩
  · obtain ⟨r', h1, h2⟩ := run_findNow (d := .string) (.inr ⟨s, rfl, rfl⟩) hk es xs 0 r hf he
    exact ⟨r', by simp [Instr.findKey, run_under hu, h1], h2⟩
theorem mapOf_rel (hr : Rel P ι h w) {k clock : Nat} {es : List AEnt} (hk : h k = some (.map es clock)) :
    ∃ b x xs, ι k = some (b, x) ∧ w.heap[b]? = some (.map xs clock) ∧ EntsR ι es xs.toList := by
  obtain ⟨b, x, p, h1, h2, xs, rfl, h3⟩ := hr.live _ _ hk
  exact ⟨b, x, xs, h1, h2, h3⟩
theorem run_getMap {b clock : Nat} {xs : Array MapEntry} (hb : w.heap[b]? = some (.map xs clock)) : (getObj b).run P w = .ok (.map xs clock) w := by
  simp [getObj, Sem.run, hb]
theorem run_lookA {t : TypeId} {m k v : AV} {m' k' : Value} {ok : Bool} (hr : Rel P ι h w) (hv : lookA P h t m k ok = some v) (hm : VR ι m m') (hk : VR ι k k') : ∃ u, (Instr.lookup t m' k' ok).run P w = .ok u w ∧ VR ι v u := by
  unfold lookA at hv
  split at hv
  · rename_i kt e hu
    split at hv
    · rename_i hkk
      have fin : ∀ (es : List AEnt) (A : Array MapEntry) (r : Option (Nat × AV)), EntsR ι es A.toList → findA k es 0 = some r →
          (match some r with
           | some (some (_, x)) => some (if ok then .tuple [x, .bool true] else x)
           | some none => (match zrT P e with | some z => some (if ok then .tuple [z, .bool false] else z) | none => none)
           | none => none) = some v →
          (∀ (Q : Result Value), (Instr.lookup t m' k' ok).run P w = (((Instr.checkKey A.isEmpty 10000 kt k').run P w).andThen fun _ w' => ((Instr.findKey kt k' A.toList).run P w').andThen fun r w' =>
            ((match r with
              | some (_, v) => do let z : Value × Bool ← pure (v, true); pure (if ok then .tuple #[z.1, .bool z.2] else z.1)
              | none => do let y ← zeroValue e; let z : Value × Bool ← pure (y, false); pure (if ok then .tuple #[z.1, .bool z.2] else z.1) : Sem Value)).run P w')) →
          ∃ u, (Instr.lookup t m' k' ok).run P w = .ok u w ∧ VR ι v u := by
        intro es A r hE hf hval hrun
        obtain ⟨r', h1, h2⟩ := run_findKey hkk hk hf hE w
        rw [hrun (.ok undef w), run_checkKey hkk hk, Result.andThen_ok, h1, Result.andThen_ok]
        cases r with
        | some z =>
          obtain ⟨i, x⟩ := z
          obtain ⟨u, rfl, h3⟩ := h2
          simp only [Option.some.injEq] at hval
          subst hval
          refine ⟨_, rfl, ?_⟩
          cases ok
          · exact h3
          · simp only [if_true, VR]
            exact ⟨_, rfl, VRs.cons h3 (VRs.cons (by simp only [VR]) VRs.nil)⟩
        | none =>
          simp only [foundR] at h2
          subst h2
          simp only at hval
          split at hval
          · rename_i z hz
            cases hval
            obtain ⟨zv, hz1, hz2⟩ := run_zrT hz w
            refine ⟨_, by simp only [Sem.run_bind, hz1, Result.andThen_ok, Sem.run_pure]; rfl, ?_⟩
            cases ok
            · exact hz2 ι
            · simp only [if_true, VR]
              exact ⟨_, rfl, VRs.cons (hz2 ι) (VRs.cons (by simp only [VR]) VRs.nil)⟩
          · cases hval
      cases m with
      | map r =>
        cases r with
        | none =>
          simp only [VR] at hm; subst hm
          refine fin [] #[] none rfl rfl hv fun Q => ?_
          simp only [Instr.lookup, Sem.run_bind, run_under hu, Result.andThen_ok, Sem.run_pure]
          rfl
        | some r =>
          simp only [VR] at hm
          obtain ⟨b, x, hb, rfl⟩ := hm
          cases hh : h r with
          | none => simp only [hh] at hv; cases hv
          | some o =>
            cases o with
            | map es clock =>
              obtain ⟨b', x', xs, q1, q2, q3⟩ := mapOf_rel hr hh
              rw [hb] at q1; cases q1
              simp only [hh] at hv
              cases hf : findA k es 0 with
              | none => simp only [hf] at hv; cases hv
              | some r0 =>
                rw [hf] at hv
                refine fin es xs r0 q3 hf hv fun Q => ?_
                simp only [Instr.lookup, Sem.run_bind, run_under hu, Result.andThen_ok, Sem.run_pure, run_getMap q2]
                rfl
            | _ => simp only [hh] at hv; cases hv
      | _ => simp only at hv; cases hv
    · cases hv
  · cases hv
end
end Go.Proofs.YtcpmhehklicpfaaGreatDoor.Ev
