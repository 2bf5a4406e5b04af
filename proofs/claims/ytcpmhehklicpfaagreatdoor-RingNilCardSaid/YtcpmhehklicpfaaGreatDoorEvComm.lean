/- A select of one case that does not wait, in a machine of one goroutine. -/
import Derived.Test.YtcpmhehklicpfaaGreatDoorEvMach
namespace Go.Proofs.YtcpmhehklicpfaaGreatDoor.Ev
open Go
set_option linter.unusedVariables false
section
variable {P : Program}
theorem step_lone_comm {fr : Frame} {cs : List Frame} {w w' : World} {g : Goroutine} {cases : Array CommCase} {shape : CommShape}
    (h : (stepG P true { frame := fr, callers := cs, status := .running, dying := none } w).bare = .comm g cases false shape w') :
    step P (lone fr cs w) = (communicate P (lone fr cs w).rest #[{ (default : Goroutine) with status := .finished }] 0 g cases false shape w').1 := by
  generalize hs : stepG P true { frame := fr, callers := cs, status := .running, dying := none } w = s at h
  cases s <;> simp at h
  obtain ⟨rfl, rfl, rfl, rfl, rfl⟩ := h
  rw [step, stepT, move_lone]
  simp [runT, lone, Array.swapAt!, Array.swapAt, hs]
section steps
variable {b : Frame} {a : Act} {k : List Item} {cs : List Frame} {w : World} {ops : Array Oper} {i : Nat} {rest : List Nat} {o : Oper} {c : CommCase} {r : Nat} {bf : Array Value} {cap sn rc : Nat}
theorem stepG_comm (ho : ops[i]? = some o) (hw : Region.wanted o (yielded ops a.tmps) = true) (hd : ∀ c, o.op ≠ .defer c) (hr : (execOp a.eval o).run P w = .ok (.comm #[c] false .select) w) :
    (stepG P true { frame := b.atR a (.inRegion ops (i :: rest) :: k), callers := cs, status := .running, dying := none } w).bare =
      .comm { frame := b.atR a (.inRegion ops (i :: rest) :: k), callers := cs, status := .running, dying := none } #[c] false .select w := by
  have hg := stepGR_op (P := P) (b := b) (k := k) (cs := cs) (w := w) (rest := rest) ho hw
  rw [Oper.semAt_eq _ _ _ hd] at hg
  rw [hg]; simp [stepG.apply, hr]
theorem step_comm_full (ho : ops[i]? = some o) (hw : Region.wanted o (yielded ops a.tmps) = true) (hd : ∀ c, o.op ≠ .defer c) (hr : (execOp a.eval o).run P w = .ok (.comm #[c] false .select) w)
    (hch : c.chan = .chan (some r)) (hob : w.heap[r]? = some (.chan cap bf false sn rc false)) {v : Value} (hs : c.send = some v) (hfull : ¬ bf.size < cap) :
    step P (lone (b.atR a (.inRegion ops (i :: rest) :: k)) cs w) = .next (lone (b.atR (a.put o.dst (.tuple #[.int .i64 (-1), .bool false])) (.inRegion ops rest :: k)) cs w) := by
  rw [step_lone_comm (stepG_comm ho hw hd hr), ← fin_op ho]
  simp [communicate, ways, partners, hch, hob, hs, hfull, Goroutine.finishComm, commResult, goInt, lone]
theorem step_comm_send (ho : ops[i]? = some o) (hw : Region.wanted o (yielded ops a.tmps) = true) (hd : ∀ c, o.op ≠ .defer c) (hr : (execOp a.eval o).run P w = .ok (.comm #[c] false .select) w)
    (hch : c.chan = .chan (some r)) (hob : w.heap[r]? = some (.chan cap bf false sn rc false)) {v : Value} (hs : c.send = some v) (hroom : bf.size < cap) :
    step P (lone (b.atR a (.inRegion ops (i :: rest) :: k)) cs w) = .next (lone (b.atR (a.put o.dst (.tuple #[.int .i64 0, .bool false])) (.inRegion ops rest :: k)) cs { w with heap := w.heap.setIfInBounds r (.chan cap (bf.push v) false (sn + 1) rc false) }) := by
  rw [step_lone_comm (stepG_comm ho hw hd hr), ← fin_op ho]
  simp [communicate, ways, partners, hch, hob, hs, hroom, choose, Sem.run, Question.forced, bind, Sem.bind, pure, Goroutine.finishComm, commResult, goInt, lone]
theorem step_comm_none (ho : ops[i]? = some o) (hw : Region.wanted o (yielded ops a.tmps) = true) (hd : ∀ c, o.op ≠ .defer c) (hr : (execOp a.eval o).run P w = .ok (.comm #[c] false .select) w)
    (hch : c.chan = .chan (some r)) (hob : w.heap[r]? = some (.chan cap bf false sn rc false)) (hs : c.send = none) (hnone : bf.size = 0) :
    step P (lone (b.atR a (.inRegion ops (i :: rest) :: k)) cs w) = .next (lone (b.atR (a.put o.dst (.tuple #[.int .i64 (-1), .bool false, c.zero])) (.inRegion ops rest :: k)) cs w) := by
  rw [step_lone_comm (stepG_comm ho hw hd hr), ← fin_op ho]
  simp [communicate, ways, partners, hch, hob, hs, hnone, Goroutine.finishComm, commResult, goInt, lone]
theorem step_comm_recv (ho : ops[i]? = some o) (hw : Region.wanted o (yielded ops a.tmps) = true) (hd : ∀ c, o.op ≠ .defer c) (hr : (execOp a.eval o).run P w = .ok (.comm #[c] false .select) w)
    (hch : c.chan = .chan (some r)) (hob : w.heap[r]? = some (.chan cap bf false sn rc false)) (hs : c.send = none) (hsome : 0 < bf.size) :
    step P (lone (b.atR a (.inRegion ops (i :: rest) :: k)) cs w) = .next (lone (b.atR (a.put o.dst (.tuple #[.int .i64 0, .bool true, bf.getD 0 undef])) (.inRegion ops rest :: k)) cs { w with heap := w.heap.setIfInBounds r (.chan cap (bf.extract 1 bf.size) false sn (rc + 1) false) }) := by
  rw [step_lone_comm (stepG_comm ho hw hd hr), ← fin_op ho]
  simp [communicate, ways, partners, hch, hob, hs, hsome, choose, Sem.run, Question.forced, bind, Sem.bind, pure, Goroutine.finishComm, commResult, goInt, lone]
end steps
end
end Go.Proofs.YtcpmhehklicpfaaGreatDoor.Ev
