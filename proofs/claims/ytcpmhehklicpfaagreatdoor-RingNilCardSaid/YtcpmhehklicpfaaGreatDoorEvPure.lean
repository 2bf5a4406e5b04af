/- Operators, as the reckoner and the machine have them. -/
import Derived.Test.YtcpmhehklicpfaaGreatDoorEvRuns
import Derived.Laws.StructEq
namespace Go.Proofs.YtcpmhehklicpfaaGreatDoor.Ev
open Go
set_option linter.unusedVariables false
/-- A text of bytes. -/
abbrev bsOf (s : List Nat) : ByteArray := ⟨⟨s.map Nat.toUInt8⟩⟩
theorem bs_list (s : List Nat) : (bsOf s).toList = s.map Nat.toUInt8 := by rw [ByteArray.toList_eq]
theorem u8_inj {a b : Nat} (ha : a < 256) (hb : b < 256) : (a.toUInt8 = b.toUInt8) ↔ a = b := by
  constructor
  · intro h
    have := congrArg UInt8.toNat h
    simp only [Nat.toUInt8, UInt8.toNat_ofNat'] at this
    omega
  · rintro rfl; rfl
theorem u8_lt {a b : Nat} (ha : a < 256) (hb : b < 256) : (a.toUInt8 < b.toUInt8) ↔ a < b := by
  rw [UInt8.lt_iff_toNat_lt]
  simp only [Nat.toUInt8, UInt8.toNat_ofNat']
  omega
theorem bs_eq : ∀ (a b : List Nat), (∀ n ∈ a, n < 256) → (∀ n ∈ b, n < 256) → (a.map Nat.toUInt8 == b.map Nat.toUInt8) = (a == b)
  | [], [], _, _ => rfl
  | [], _ :: _, _, _ => rfl
  | _ :: _, [], _, _ => rfl
  | x :: a, y :: b, ha, hb => by
    have ih := bs_eq a b (fun n h => ha n (by simp [h])) (fun n h => hb n (by simp [h]))
    have e := u8_inj (ha x (by simp)) (hb y (by simp))
    simp only [List.map_cons, List.cons_beq_cons, ih]
    congr 1
    rw [Bool.eq_iff_iff]
    simp [e]
theorem bs_less : ∀ (a b : List Nat), (∀ n ∈ a, n < 256) → (∀ n ∈ b, n < 256) → Op.bytesLess (a.map Nat.toUInt8) (b.map Nat.toUInt8) = lessA a b
  | [], [], _, _ => rfl
  | [], _ :: _, _, _ => rfl
  | _ :: _, [], _, _ => rfl
  | x :: a, y :: b, ha, hb => by
    have ih := bs_less a b (fun n h => ha n (by simp [h])) (fun n h => hb n (by simp [h]))
    have e := u8_inj (ha x (by simp)) (hb y (by simp))
    have e2 := u8_lt (ha x (by simp)) (hb y (by simp))
    simp only [List.map_cons, Op.bytesLess, lessA, ih]
    congr 1
    · rw [Bool.eq_iff_iff]; simp [e2]
    · congr 1
      rw [Bool.eq_iff_iff]; simp [e]
section
variable {P : Program} {ι : Io} {h : Hp} {w : World}
theorem bits_ofInt (k : IntKind) (x : Int) : (BitVec.ofInt k.bits x).toNat = bits k x := by
  simp [BitVec.toNat_ofInt, bits]
theorem run_intBin {op : BinOp} {k : IntKind} {a b : Int} {v : AV} (t : TypeId) (h1 : op ≠ .shl) (h2 : op ≠ .shr) (hv : intBin op k a b = some v) (w : World) :
    ∃ u, (binOp op t (.int k a) (.int k b)).run P w = .ok u w ∧ ∀ ι, VR ι v u := by
  cases op <;> simp only [intBin] at hv <;> first | exact absurd rfl h1 | exact absurd rfl h2 | skip
  all_goals first | (split at hv <;> first | cases hv | skip) | skip
  all_goals first | (cases hv; done) | skip
  all_goals (try cases hv)
  all_goals refine ⟨_, ?_, fun ι => by simp only [VR]; rfl⟩
  all_goals simp [binOp, Op.intArith, Op.intDiv, Op.intBits, Op.intCmp, *]
  all_goals first
    | rfl
    | (congr 3; simp only [BitVec.toNat_ofInt, bits]; rfl)
    | skip
theorem run_strBin {op : BinOp} {a b : List Nat} {v : AV} (t : TypeId) (ha : ∀ n ∈ a, n < 256) (hb : ∀ n ∈ b, n < 256) (hv : strBin op a b = some v) (w : World) :
    ∃ u, (binOp op t (.string (bsOf a)) (.string (bsOf b))).run P w = .ok u w ∧ ∀ ι, VR ι v u := by
  have e1 := bs_eq a b ha hb
  have e2 := bs_less a b ha hb
  cases op <;> simp only [strBin] at hv <;> first | (cases hv; done) | skip
  case add =>
    split at hv
    · rename_i hl
      cases hv
      refine ⟨.string (bsOf (a ++ b)), ?_, fun ι => ?_⟩
      · have hs : (bsOf a).size = a.length := by simp [ByteArray.size]
        have hs' : (bsOf b).size = b.length := by simp [ByteArray.size]
        have hn : ¬ (((bsOf a).size + (bsOf b).size : Nat) : Int) > IntKind.i64.max := by
          rw [hs, hs']; simp [IntKind.max, IntKind.signed, IntKind.bits]; omega
        simp only [binOp, Op.stringOp, if_neg hn, Sem.run_pure]
        congr 2
        show (bsOf a) ++ (bsOf b) = bsOf (a ++ b)
        apply ByteArray.ext
        simp [bsOf]
      · simp only [VR]
        exact ⟨trivial, fun n hn => by rcases List.mem_append.1 hn with h | h; exact ha n h; exact hb n h⟩
    · cases hv
  all_goals cases hv
  all_goals refine ⟨_, ?_, fun ι => by simp only [VR]; rfl⟩
  all_goals simp [binOp, Op.stringOp, e1, e2]
theorem run_eqFields {eq : TypeId → AV → AV → Option Bool} {d : Nat} (heq : ∀ t x y b x' y', eq t x y = some b → VR ι x x' → VR ι y y' → (Op.equalIn d t x' y').run P w = .ok b w) {xs ys : List AV} {cs ds : Array Value}
    (hx : VRs ι xs (cs.toList.take xs.length)) (hy : VRs ι ys (ds.toList.take ys.length)) : ∀ (fs : List Field) (b : Bool), eqFields P eq xs ys fs = some b → (Op.eqFields d cs ds fs).run P w = .ok b w
  | [], b, h => by simp only [eqFields] at h; cases h; simp [Op.eqFields]
  | f :: fs, b, h => by
    simp only [eqFields] at h
    by_cases hn : f.name = "_"
    · rw [if_pos hn] at h
      have := run_eqFields heq hx hy fs b h
      simp [Op.eqFields, hn, this]
    · rw [if_neg hn] at h
      split at h
      · rename_i x y hx' hy'
        obtain ⟨u, h1, h2⟩ := run_partA hx' hx w
        obtain ⟨u', h3, h4⟩ := run_partA hy' hy w
        split at h
        · rename_i he
          have := run_eqFields heq hx hy fs b h
          simp [Op.eqFields, hn, h1, h3, heq _ _ _ _ _ _ he h2 h4, this]
        · rename_i he
          cases h
          simp [Op.eqFields, hn, h1, h3, heq _ _ _ _ _ _ he h2 h4]
        · cases h
      · cases h
theorem fieldsOf_eq {t : TypeId} {fs : Array Field} (h : P.underlying t = some (.struct fs)) : P.fieldsOf t = fs := by simp [Program.fieldsOf, h]
set_option maxHeartbeats 2000000 in
theorem run_eqA : ∀ (n d : Nat) (t : TypeId) (x y : AV) (b : Bool) (x' y' : Value), n ≤ d → eqA P n t x y = some b → VR ι x x' → VR ι y y' → (Op.equalIn d t x' y').run P w = .ok b w := by
  intro n
  induction n with
  | zero => intro d t x y b x' y' _ h; simp [eqA] at h
  | succ n ih =>
    intro d t x y b x' y' hd h hx hy
    obtain ⟨d, rfl⟩ : ∃ m, d = m + 1 := ⟨d - 1, by omega⟩
    unfold eqA at h
    split at h <;> first | (cases h; done) | skip
    all_goals rename_i hu
    case _ => cases h; simp only [VR] at hx hy; subst hx hy; simp [Op.equalIn, run_under hu]
    case _ =>
      split at h
      · rename_i hk; cases h; simp only [VR] at hx hy; subst hx hy; simp [Op.equalIn, run_under hu, hk]
      · cases h
    case _ => cases h; simp only [VR] at hx hy; obtain ⟨rfl, h1⟩ := hx; obtain ⟨rfl, h2⟩ := hy; rw [run_equalIn_string _ _ _ _ _ hu]; rw [bs_list, bs_list, bs_eq _ _ h1 h2]
    case _ => cases h; simp only [VR] at hx hy; subst hx hy; simp [Op.equalIn, run_under hu]
    case _ => cases h; simp only [VR] at hx hy; obtain ⟨b, e, h1, rfl⟩ := hy; subst hx; simp [Op.equalIn, run_under hu]
    case _ => cases h; simp only [VR] at hx hy; obtain ⟨b, e, h1, rfl⟩ := hx; subst hy; simp [Op.equalIn, run_under hu]
    case _ =>
      split at h
      · cases h
      · rename_i m hne hm
        split at h
        · rename_i hab
          cases h
          rename_i a1 b1 _
          obtain ⟨a1, o1⟩ := a1
          obtain ⟨b1, o2⟩ := b1
          simp only at hab
          subst hab
          simp only [VR] at hx hy
          obtain ⟨p, e, h1, rfl⟩ := hx
          obtain ⟨q, f, h2, rfl⟩ := hy
          rw [h1] at h2
          cases h2
          have hne : ¬ m = 0 := hne
          simp only [Op.equalIn, Sem.run_bind, run_under hu, Result.andThen_ok, run_szT hm]
          simp only [ne_eq, hne, not_false_eq_true, if_true, sameAddr, beq_self_eq_true, Sem.run_pure]
          congr 1
          rw [Bool.eq_iff_iff]
          simp
        · cases h
      · cases h
    case _ => cases h; simp only [VR] at hx hy; subst hx hy; simp [Op.equalIn, run_under hu]
    case _ => cases h; simp only [VR] at hx hy; subst hx; obtain ⟨z, rfl, _⟩ := hy; simp [Op.equalIn, run_under hu]
    case _ => cases h; simp only [VR] at hx hy; subst hy; obtain ⟨z, rfl, _⟩ := hx; simp [Op.equalIn, run_under hu]
    case _ =>
      cases h
      rename_i bb _ _
      cases bb with
      | none => simp only [VR] at hx hy; obtain ⟨rfl, _⟩ := hx; obtain ⟨rfl, _⟩ := hy; simp [Op.equalIn, run_under hu]
      | some p => obtain ⟨k, o⟩ := p; simp only [VR] at hx hy; obtain ⟨rfl, _⟩ := hx; obtain ⟨b, e, h1, rfl⟩ := hy; simp [Op.equalIn, run_under hu]
    case _ => cases h; simp only [VR] at hx hy; obtain ⟨rfl, _⟩ := hx; obtain ⟨a, c, rfl⟩ := hy; simp [Op.equalIn, run_under hu]
    case _ => cases h; rename_i p _ _ _ _; obtain ⟨k, o⟩ := p; simp only [VR] at hx hy; obtain ⟨rfl, _⟩ := hy; obtain ⟨b, e, h1, rfl⟩ := hx; simp [Op.equalIn, run_under hu]
    case _ => cases h; simp only [VR] at hx hy; obtain ⟨rfl, _⟩ := hy; obtain ⟨a, c, rfl⟩ := hx; simp [Op.equalIn, run_under hu]
    case _ =>
      cases h
      simp only [VR] at hx hy
      obtain ⟨rfl, _⟩ := hy
      obtain ⟨a, c, rfl, _, hx⟩ := hx
      rcases hx with hx | ⟨b, off, cs, sz, rfl, _⟩
      · cases hx
      · simp [Op.equalIn, run_under hu]
    case _ =>
      cases h
      rename_i bb
      cases bb with
      | none => simp only [VR] at hx hy; subst hx hy; simp [Op.equalIn, run_under hu]
      | some p => simp only [VR] at hx hy; subst hx; obtain ⟨b, e, h1, rfl⟩ := hy; simp [Op.equalIn, run_under hu]
    case _ => cases h; simp only [VR] at hx hy; subst hy; obtain ⟨b, e, h1, rfl⟩ := hx; simp [Op.equalIn, run_under hu]
    case _ => cases h; simp only [VR] at hx hy; subst hx hy; simp [Op.equalIn, run_under hu]
    case _ => cases h; simp only [VR] at hx hy; subst hx; obtain ⟨xs, ys, rfl, _⟩ := hy; simp [Op.equalIn, run_under hu]
    case _ => cases h; simp only [VR] at hx hy; subst hy; obtain ⟨xs, ys, rfl, _⟩ := hx; simp [Op.equalIn, run_under hu]
    case _ =>
      split at h
      · cases h
      · rename_i hs
        have hs : P.stoodInHeld t = false := by simpa using hs
        simp only [VR] at hx hy
        obtain ⟨cs, rfl, hc⟩ := hx
        obtain ⟨ds, rfl, hd'⟩ := hy
        have hfo := fieldsOf_eq hu
        rw [run_equalIn_struct w d t cs ds (by rw [hfo]; exact hu) hs, hfo]
        have l1 := hc.len
        have l2 := hd'.len
        exact run_eqFields (fun t x y b x' y' h1 h2 h3 => ih d t x y b x' y' (by omega) h1 h2 h3) (by rw [l1, List.take_length]; exact hc) (by rw [l2, List.take_length]; exact hd') _ _ h
end
end Go.Proofs.YtcpmhehklicpfaaGreatDoor.Ev
