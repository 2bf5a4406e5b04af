/- The reckoner's runs. -/
import Derived.Test.YtcpmhehklicpfaaGreatDoorEvDef
import Derived.Orders
namespace Go.Proofs.YtcpmhehklicpfaaGreatDoor.Ev
open Go
set_option linter.unusedVariables false
mutual
def AV.eqv : AV → AV → Bool
  | .bool a, .bool b => a == b
  | .int j a, .int k b => decide (j = k) && a == b
  | .str a, .str b => a == b
  | .ptr a, .ptr b => a == b
  | .slice a n c, .slice b m d => a == b && n == m && c == d
  | .empty, .empty => true
  | .any, .any => true
  | .opq, .opq => true
  | .rng j a b, .rng k c d => decide (j = k) && a == c && b == d
  | .map a, .map b => a == b
  | .chan a, .chan b => a == b
  | .func f a c, .func g b d => f == g && AV.eqvs a b && AV.eqvs c d
  | .yield a, .yield b => a == b
  | .nilFunc, .nilFunc => true
  | .iface t a, .iface u b => t == u && AV.eqv a b
  | .nilIface, .nilIface => true
  | .agg a, .agg b => AV.eqvs a b
  | .tuple a, .tuple b => AV.eqvs a b
  | .lst a, .lst b => AV.eqvss a b
  | .lptr a, .lptr b => AV.eqvs a b
  | .zero, .zero => true
  | _, _ => false
def AV.eqvs : List AV → List AV → Bool
  | [], [] => true
  | a :: l, b :: m => AV.eqv a b && AV.eqvs l m
  | _, _ => false
def AV.eqvss : List (List AV) → List (List AV) → Bool
  | [], [] => true
  | a :: l, b :: m => AV.eqvs a b && AV.eqvss l m
  | _, _ => false
end
section
variable (P : Program)
/-- Which operations stand ahead of each one, by edges and edges of those. -/
def befs : List Oper → List (List Nat) → Option (List (List Nat))
  | [], acc => some acc
  | o :: r, acc =>
    if (o.after.toList.all fun e => !Region.binds .any e || decide (e.on < acc.length)) = true then
      befs r (acc ++ [o.after.toList.flatMap fun e => if Region.binds .any e then e.on :: acc.getD e.on [] else []])
    else none
def isE (e : Ent) : Bool := e.run && decide (kindOf P e.o.op = .e)
def isA (e : Ent) : Bool := e.run && decide (kindOf P e.o.op = .a)
def isDefer : Op → Bool
  | .defer _ => true
  | _ => false
/-- May these two come in either order? -/
def mayTurn (ops : Array Oper) (x y : Ent) : Bool :=
  x.o.apart ops y.o && !(isE P y && (isE P x || isA P x))
def pairsOk (ops : Array Oper) (bs : List (List Nat)) (tr : List Ent) : Bool :=
  (List.range tr.length).all fun j => (List.range j).all fun i =>
    match tr[i]?, tr[j]?, bs[j]? with
    | some x, some y, some b => b.contains i || mayTurn P ops x y
    | _, _, _ => false
/-- The memory ahead of an operation. -/
def stAt (tr : List Ent) (s : St) (m : Nat) : St := match tr[m]? with | some e => e.s | none => s
def inWindow (bs : List (List Nat)) (tr : List Ent) (m i : Nat) : Bool :=
  (List.range tr.length).all fun j =>
    match tr[j]? with
    | some y => !isE P y || (if j < m then !(bs.getD j []).contains i else !(bs.getD i []).contains j)
    | none => true
def readsOk (bs : List (List Nat)) (tr : List Ent) (s : St) : Bool :=
  (List.range tr.length).all fun i =>
    match tr[i]? with
    | some x =>
      !(x.run && decide (kindOf P x.o.op = .q) && readsMem x.o.op) ||
      (List.range (tr.length + 1)).all fun m =>
        !(m == 0 || (match tr[m - 1]? with | some y => isE P y | none => false)) || !inWindow P bs tr m i ||
        (match qA P x.f.ev (stAt tr s m).obj x.o.op with | some v => v.eqv x.v | none => false)
    | none => true
def drawOk (ops : Array Oper) (tr : List Ent) (s : St) : Bool :=
  match befs ops.toList [] with
  | some bs => (tr.all fun e => !isDefer e.o.op) && pairsOk P ops bs tr && readsOk P bs tr s
  | none => false
def evF (rec : Task → St → Option (Res × St)) (t : Task) (s : St) : Option (Res × St) :=
  match t with
  | .code c f =>
    (match c with
     | .skip => some (.at .normal f, s)
     | .label _ => some (.at .normal f, s)
     | .region _ ops draw => rec (.ops draw ops ops.toList [] f) s
     | .seq a b =>
       (match rec (.code a f) s with
        | some (.at .normal f, s) => rec (.code b f) s
        | r => r)
     | .cond c a b =>
       (match f.ev c with
        | some (.bool true) => rec (.code a f) s
        | some (.bool false) => rec (.code b f) s
        | _ => none)
     | .block id b =>
       (match rec (.code b f) s with
        | some (.at (.exit k) f, s) => if k = id then some (.at .normal f, s) else some (.at (.exit k) f, s)
        | r => r)
     | .loop b =>
       (match rec (.code b f) s with
        | some (.at .normal f, s) => rec (.code (.loop b) f) s
        | r => r)
     | .scope b => rec (.code b f) s
     | .exit id => some (.at (.exit id) f, s)
     | .ret => some (.at .ret f, s)
     | .rangeFunc g ps assign body =>
       (match f.ev g with
        | some (.func k first captured) =>
          (match callA P k ((first ++ [.yield (s.nx + 1)]) ++ captured) with
           | some (.enter k l) =>
             (match rec (.call k l) ((s.new .noDefs).new (.loop ⟨.ready, f.tm, f.nt, ps, assign, body, none⟩)) with
              | some (.val _, s') =>
                (match s'.obj (s.nx + 1) with
                 | some (.loop L) =>
                   (match L.state, L.pend with
                    | .busy, _ => none
                    | _, none => some (.at .normal ⟨f.tm, f.nt, .coll s.nx :: f.df⟩, s'.set (s.nx + 1) (.loop { L with state := .exhausted }))
                    | _, some c => rec (.code c ⟨f.tm, f.nt, .coll s.nx :: f.df⟩) (s'.set (s.nx + 1) (.loop { L with state := .exhausted })))
                 | _ => none)
              | _ => none)
           | _ => none)
        | _ => none)
     | _ => none)
  | .ops draw ops l acc f =>
    (match l with
     | [] => if draw = false ∨ drawOk P ops acc.reverse s = true then some (.at .normal f, s) else none
     | o :: l =>
       (match wantedA ops f o with
        | some false => (match f.put o.dst undefA with | some f' => rec (.ops draw ops l (⟨o, false, f, s, undefA⟩ :: acc) f') s | none => none)
        | some true =>
          (match kindOf P o.op with
           | .q => (match qA P f.ev s.obj o.op with
             | some v => (match f.put o.dst v with | some f' => rec (.ops draw ops l (⟨o, true, f, s, v⟩ :: acc) f') s | none => none)
             | none => none)
           | .a => (match aA P f.ev o.op with
             | some (b, mk) => (match f.put o.dst (mk s.nx) with | some f' => rec (.ops draw ops l (⟨o, true, f, s, mk s.nx⟩ :: acc) f') (s.new b) | none => none)
             | none => none)
           | .e =>
             (match eA P f.ev s o.op with
              | some (.value v, s') => if s.nx ≤ s'.nx then (match f.put o.dst v with | some f' => rec (.ops draw ops l (⟨o, true, f, s, v⟩ :: acc) f') s' | none => none) else none
              | some (.comm v, s') => if s.nx ≤ s'.nx then (match f.put o.dst v with | some f' => rec (.ops draw ops l (⟨o, true, f, s, v⟩ :: acc) f') s' | none => none) else none
              | some (.skip, s') => if s.nx ≤ s'.nx then (match f.put o.dst undefA with | some f' => rec (.ops draw ops l (⟨o, true, f, s, undefA⟩ :: acc) f') s' | none => none) else none
              | some (.enter g args, s) =>
                (match rec (.call g args) s with
                 | some (.val v, s') => (match f.put o.dst v with | some f' => rec (.ops draw ops l (⟨o, true, f, s, v⟩ :: acc) f') s' | none => none)
                 | _ => none)
              | some (.round g args, s) =>
                (match rec (.round g args) s with
                 | some (.val v, s') => (match f.put o.dst v with | some f' => rec (.ops draw ops l (⟨o, true, f, s, v⟩ :: acc) f') s' | none => none)
                 | _ => none)
              | some (.defer g args, s) => (match f.put o.dst undefA with | some f' => rec (.ops draw ops l (⟨o, true, f, s, undefA⟩ :: acc) ⟨f'.tm, f'.nt, .call g args :: f'.df⟩) s | none => none)
              | some (.recover, s) => (match f.put o.dst .nilIface with | some f' => rec (.ops draw ops l (⟨o, true, f, s, .nilIface⟩ :: acc) f') s | none => none)
              | none => none))
        | none => none))
  | .call g args =>
    (match P.funcs[g]? with
     | some fn =>
       (match fn.body with
        | some c =>
          (match rec (.code c ⟨frameOf 0 args .lf, max args.length fn.ntmps, []⟩) s with
           | some (.at x f, s) =>
             (match x with
              | .exit _ => none
              | _ =>
                (match rec (.defs f.df) s with
                 | some (.val _, s) => (match resultsA P s.obj f fn.results.toList with | some v => some (.val v, s) | none => none)
                 | _ => none))
           | _ => none)
        | none => none)
     | none => none)
  | .defs l =>
    (match l with
     | [] => some (.val undefA, s)
     | .call g args :: l => (match rec (.call g args) s with | some (.val _, s) => rec (.defs l) s | _ => none)
     | .coll r :: l => (match s.obj r with | some .noDefs => rec (.defs l) (s.kill r) | _ => none))
  | .round l args =>
    (match s.obj l with
     | some (.loop L) =>
       if L.state = .ready ∧ args.length = L.params.size then
         (match setParams (L.params.toList.zip args) L.nt L.tm with
          | some tm =>
            (match rec (.code L.assign ⟨tm, L.nt, []⟩) s with
             | some (.at .normal f, s) =>
               (match s.obj l with
                | some (.loop L1) =>
                  if L1.state = .ready then
                    (match rec (.code L.body f) (s.set l (.loop { L1 with state := .busy })) with
                     | some (.at x f, s) =>
                       (match s.obj l, f.df with
                        | some (.loop L), [] =>
                          (match x with
                           | .normal => some (.val (.bool true), s.set l (.loop { L with state := .ready, pend := none }))
                           | .ret => some (.val (.bool false), s.set l (.loop { L with state := .done, pend := some .ret }))
                           | .exit id => some (.val (.bool false), s.set l (.loop { L with state := .done, pend := some (.exit id) })))
                        | _, _ => none)
                     | _ => none)
                  else none
                | _ => none)
             | _ => none)
          | none => none)
       else none
     | _ => none)
def evN : Nat → Task → St → Option (Res × St)
  | 0 => fun _ _ => none
  | n + 1 => evF P (evN n)
end
end Go.Proofs.YtcpmhehklicpfaaGreatDoor.Ev
