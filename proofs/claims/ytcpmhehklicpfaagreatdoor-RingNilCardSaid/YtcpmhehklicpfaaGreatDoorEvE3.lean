/- Slices appended to, copied to, cleared; texts ranged over. -/
import Derived.Test.YtcpmhehklicpfaaGreatDoorEvE2
namespace Go.Proofs.YtcpmhehklicpfaaGreatDoor.Ev
open Go
set_option linter.unusedVariables false
theorem growBy_le (L : Nat) : ∀ (r c : Nat), c ≤ 2 * L + 768 → Builtin.growBy L r c ≤ 2 * L + 768
  | 0, c, h => h
  | r + 1, c, h => by
    unfold Builtin.growBy
    split
    · exact h
    · exact growBy_le L r _ (by omega)
theorem nextcap_le {L c : Nat} (h : c < L) : Builtin.nextslicecap L c ≤ 2 * L + 768 := by
  unfold Builtin.nextslicecap
  split
  · omega
  · split
    · omega
    · exact growBy_le L 4 c (by omega)
section
variable {P : Program} {ι : Io} {h : Hp} {w : World} {ρ : Operand → Option AV} {σ : Operand → Value}
theorem zeroCells_list {z : Value} {sz : Nat} (h : z.cells.size = sz) (h0 : 0 < sz) (n : Nat) : (Builtin.zeroCells z.cells n).toList = (List.replicate n z.cells.toList).flatten := by
  simp only [Builtin.zeroCells]
  exact zrow _ (by omega) n
/-- append, of a slice or a text: how it begins. -/
theorem run_append_room {ts : Array TypeId} {ty st xt e : TypeId} {d : TypeDesc} {sz n len cap : Nat} {base : Option Addr} {x : Value} {nw : Array Value} {w' : World} (h0 : ts[0]? = some st) (h1 : ts[1]? = some xt) (hu : P.underlying st = some (.slice e)) (hx : P.underlying xt = some d) (hd : ∀ k, d ≠ .int k)
    (hsz : szT P e = some sz) (hn : (Builtin.lenOf x).run P w = .ok n w) (hf : (Builtin.firstCells sz n x).run P w = .ok nw w) (hle : len + n ≤ cap)
    (hs : (match base with | some a => storeCells (a.add (len * sz)) nw.toList | none => pure () : Sem Unit).run P w = .ok () w') :
    (Builtin.append_ ts ty #[.slice base len cap, x]).run P w = .ok (.slice base (len + n) cap) w' := by
  have hz : (match d with | .int _ => true | _ => false) = false := by cases d <;> first | rfl | exact (hd _ rfl).elim
  simp only [Builtin.append_, h0, h1]
  simp [run_under hu, run_under hx, run_szT hsz, hz, hn, hf, hle]
  cases base with
  | none => simp at hs; simp [hs]
  | some a => simp only at hs; simp [hs]
theorem run_append_grow {ts : Array TypeId} {ty st xt e : TypeId} {d : TypeDesc} {sz n len cap : Nat} {base : Option Addr} {x : Value} {old nw : Array Value} {z : Value} {inf : TypeInfo} (h0 : ts[0]? = some st) (h1 : ts[1]? = some xt) (hu : P.underlying st = some (.slice e)) (hx : P.underlying xt = some d) (hd : ∀ k, d ≠ .int k)
    (hsz : szT P e = some sz) (hi : P.info? e = some inf) (hz : ∀ w, (zeroValue e).run P w = .ok z w) (hn : ∀ w' : World, w'.heap = w.heap → (Builtin.lenOf x).run P w' = .ok n w') (hf : ∀ w' : World, w'.heap = w.heap → (Builtin.firstCells sz n x).run P w' = .ok nw w')
    (ho : ∀ w' : World, w'.heap = w.heap → (Builtin.firstCells sz len (.slice base len cap)).run P w' = .ok old w') (hlt : cap < len + n) (hb : len + n ≤ 100000000) (hb0 : 0 < inf.bytes) (hb1 : inf.bytes ≤ 100000) :
    ∃ c, len + n ≤ c ∧ (Builtin.append_ ts ty #[.slice base len cap, x]).run P w = .ok (.slice (some ⟨w.heap.size, 0, none⟩) (len + n) c) { w with drawn := w.drawn + 1, heap := w.heap.push (.cells (old ++ nw ++ Builtin.zeroCells z.cells (c - (len + n))) e) } := by
  have hz0 : (match d with | .int _ => true | _ => false) = false := by cases d <;> first | rfl | exact (hd _ rfl).elim
  have hnl : ¬ (len + n ≤ cap) := by omega
  have hmx : ¬ ((len + n : Nat) : Int) > IntKind.i64.max := by simp [IntKind.max, IntKind.signed, IntKind.bits]; omega
  have hnc : ¬ (Builtin.nextslicecap (len + n) cap * inf.bytes > 2 ^ 48) := by
    have h3 := nextcap_le hlt
    have h4 : Builtin.nextslicecap (len + n) cap * inf.bytes ≤ (2 * 100000000 + 768) * 100000 := Nat.mul_le_mul (by omega) hb1
    omega
  have hti : ∀ w, (typeInfo e).run P w = .ok inf w := fun w => by simp [typeInfo, hi]
  obtain ⟨c, hc⟩ : ∃ c, (Question.appendCap (len + n) cap e).cut (w.tape w.drawn (.appendCap (len + n) cap e)) = c := ⟨_, rfl⟩
  have hch : (choose (.appendCap (len + n) cap e)).run P w = .ok c { w with drawn := w.drawn + 1 } := by rw [run_choose, ← hc]; rfl
  refine ⟨c, by rw [← hc]; simp only [Question.cut]; omega, ?_⟩
  simp only [Builtin.append_, h0, h1]
  simp [run_under hu, run_under hx, run_szT hsz, hn w rfl, hnl, hti]
  have hnc' : ¬ (281474976710656 < Builtin.nextslicecap (len + n) cap * inf.bytes) := by omega
  rw [if_neg (by rintro ⟨_, h⟩; omega), if_neg hnc', if_neg (by simp [Question.forced])]
  rw [ho w.drew rfl]
  simp only [Result.andThen_ok]
  rw [hf w.drew rfl]
  simp only [Result.andThen_ok]
  rw [hz]
  simp only [Result.andThen_ok, newRow, Sem.run_bind, run_newObj, Sem.run_pure, hc]
  try rfl
end
end Go.Proofs.YtcpmhehklicpfaaGreatDoor.Ev
