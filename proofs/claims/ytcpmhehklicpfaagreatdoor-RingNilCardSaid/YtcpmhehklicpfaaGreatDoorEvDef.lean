/- A reckoner of programs without inputs: values, memory, operations; plain functions. -/
import GoSem.Step
namespace Go.Proofs.YtcpmhehklicpfaaGreatDoor.Ev
open Go
set_option linter.unusedVariables false
/-- A tree of things by their numbers. -/
inductive Tr (α : Type) where
  | lf
  | nd (l : Tr α) (v : Option α) (r : Tr α)
namespace Tr
variable {α : Type}
def get : Tr α → Nat → Option α
  | .lf, _ => none
  | .nd l v r, n => if n = 0 then v else if n % 2 = 1 then l.get (n / 2) else r.get (n / 2 - 1)
def put : Nat → Tr α → Nat → Option α → Tr α
  | 0, t, _, _ => t
  | f + 1, .lf, n, x => if n = 0 then .nd .lf x .lf else if n % 2 = 1 then .nd (put f .lf (n / 2) x) none .lf else .nd .lf none (put f .lf (n / 2 - 1) x)
  | f + 1, .nd l v r, n, x => if n = 0 then .nd l x r else if n % 2 = 1 then .nd (put f l (n / 2) x) v r else .nd l v (put f r (n / 2 - 1) x)
def set (t : Tr α) (n : Nat) (x : Option α) : Tr α := put (n + 1) t n x
end Tr
/-- A value; blocks by numbers of the reckoner's own. 'empty': a slice of length 0 that is not nil; 'any': nothing is known of it; 'rng': a number between two; 'opq': a string of which nothing is known. -/
inductive AV where
  | bool (b : Bool)
  | int (k : IntKind) (n : Int)
  | str (s : List Nat)
  | ptr (a : Option (Nat × Nat))
  | slice (a : Option (Nat × Nat)) (len cap : Nat)
  | empty
  | any
  | opq
  | rng (k : IntKind) (lo hi : Int)
  | map (r : Option Nat)
  | chan (r : Option Nat)
  | func (f : FuncId) (first captured : List AV)
  | yield (l : Nat)
  | nilFunc
  | iface (t : TypeId) (v : AV)
  | nilIface
  | agg (l : List AV)
  | tuple (l : List AV)
  /-- A slice whose elements' cells are these, and stay; of length 0: any. -/
  | lst (rows : List (List AV))
  /-- A place from which on these cells are, and stay. -/
  | lptr (c : List AV)
  /-- A slice of length and capacity 0. -/
  | zero
  deriving Inhabited
structure AEnt where
  key : AV
  val : AV
  born : Nat
structure ALoop where
  state : LoopState
  tm : Tr AV
  nt : Nat
  params : Array Tmp
  assign : Code
  body : Code
  pend : Option Code
/-- A deferred call; a mark. -/
inductive AD where
  | call (f : FuncId) (args : List AV)
  | coll (r : Nat)
/-- A block. 'opn': it may have more cells than are known; 'hard': it is only read. -/
inductive AObj where
  | cells (c : List AV) (elem : TypeId) (opn hard : Bool)
  | map (es : List AEnt) (clock : Nat)
  | strIter (s : List Nat) (pos : Nat)
  | chan (cap : Nat) (buf : List AV)
  | loop (l : ALoop)
  | noDefs
abbrev Hp := Nat → Option AObj
structure St where
  hp : Tr AObj
  nx : Nat
structure Fr where
  tm : Tr AV
  nt : Nat
  df : List AD
def St.obj (s : St) (k : Nat) : Option AObj := s.hp.get k
def St.set (s : St) (k : Nat) (o : AObj) : St := ⟨s.hp.set k (some o), s.nx⟩
def St.kill (s : St) (k : Nat) : St := ⟨s.hp.set k none, s.nx⟩
def St.new (s : St) (o : AObj) : St := ⟨s.hp.set s.nx (some o), s.nx + 1⟩
def Fr.put (f : Fr) (d : Option Tmp) (v : AV) : Option Fr :=
  match d with
  | some d => if d < f.nt then some ⟨f.tm.set d (some v), f.nt, f.df⟩ else none
  | none => some f
/-- A constant. -/
def ofVal : Nat → Value → Option AV
  | 0, _ => none
  | n + 1, v =>
    match v with
    | .bool b => some (.bool b)
    | .int k i => some (.int k i)
    | .string s => some (.str (s.data.toList.map UInt8.toNat))
    | .pointer none => some (.ptr none)
    | .slice none 0 0 => some (.slice none 0 0)
    | .map none => some (.map none)
    | .chan none => some (.chan none)
    | .nilFunc => some .nilFunc
    | .nilIface => some .nilIface
    | .iface t v => match ofVal n v with | some v => some (.iface t v) | none => none
    | .agg cs => match cs.toList.mapM (ofVal n) with | some l => some (.agg l) | none => none
    | .tuple cs => match cs.toList.mapM (ofVal n) with | some l => some (.tuple l) | none => none
    | _ => none
def AV.cells : AV → List AV
  | .agg l => l
  | v => [v]
def AV.one : AV → Bool
  | .agg _ | .tuple _ | .any => false
  | _ => true
def Fr.ev (f : Fr) : Operand → Option AV
  | .tmp t => f.tm.get t
  | .const v => ofVal 4 v
  | .global g => if g < 64 then some (.ptr (some (g, 0))) else none
  | .func k => some (.func k [] [])
def undefA : AV := .tuple []
section
variable (P : Program)
def agT (t : TypeId) : Option Bool :=
  match P.underlying t with
  | some (.struct _) => some true
  | some (.array _ _) => some true
  | some _ => some false
  | none => none
def szT (t : TypeId) : Option Nat := match P.info? t with | some i => some i.size | none => none
def zrT (t : TypeId) : Option AV := match P.info? t with | some i => (match i.zero with | some z => ofVal 4 z | none => none) | none => none
def cut {α : Type} (l : List α) (off n : Nat) : Option (List α) := if off + n ≤ l.length then some ((l.drop off).take n) else none
/-- What stands at a place. -/
def partA (t : TypeId) (c : List AV) (off : Nat) : Option AV :=
  match agT P t with
  | some true => (match szT P t with | some n => (match cut c off n with | some l => some (.agg l) | none => none) | none => none)
  | some false => c[off]?
  | none => none
def loadA (h : Hp) (t : TypeId) (a : Nat × Nat) : Option AV :=
  match h a.1 with
  | some (.cells c _ _ _) => partA P t c a.2
  | _ => none
def splice {α : Type} (l : List α) (off : Nat) (vs : List α) : Option (List α) :=
  if off + vs.length ≤ l.length then some (l.take off ++ (vs ++ l.drop (off + vs.length))) else none
/-- Cells stored from a place on. -/
def putCells (s : St) (a : Nat × Nat) (vs : List AV) : Option St :=
  match s.obj a.1 with
  | some (.cells c e o false) =>
    if vs.all AV.one then (match splice c a.2 vs with | some c' => some (s.set a.1 (.cells c' e o false)) | none => none) else none
  | _ => none
def storeA (s : St) (t : TypeId) (a : Nat × Nat) (v : AV) : Option St :=
  match szT P t with
  | some n => if v.cells.length = n then putCells s a v.cells else none
  | none => none
def fillA (place : Nat → Option (Nat × Nat)) (cells : List AV) : List (Nat × AV) → Option (List AV)
  | [] => some cells
  | (i, v) :: r =>
    match place i with
    | some (off, size) => if v.cells.length = size then (match splice cells off v.cells with | some c => fillA place c r | none => none) else none
    | none => none
def evs (ρ : Operand → Option AV) : List Operand → Option (List AV)
  | [] => some []
  | x :: r => match ρ x with | some v => (match evs ρ r with | some l => some (v :: l) | none => none) | none => none
def evp (ρ : Operand → Option AV) : List (Nat × Operand) → Option (List (Nat × AV))
  | [] => some []
  | (i, x) :: r => match ρ x with | some .any => none | some v => (match evp ρ r with | some l => some ((i, v) :: l) | none => none) | none => none
def placesA : List Field → Option (List (Nat × Nat))
  | [] => some []
  | f :: r => match szT P f.type with | some n => (match placesA r with | some l => some ((f.offset, n) :: l) | none => none) | none => none
def buildA (t : TypeId) (ps : List (Nat × AV)) : Option AV :=
  match zrT P t with
  | none => none
  | some z =>
    match P.underlying t with
    | some (.struct fs) =>
      (match placesA P fs.toList with
       | some l => (match fillA (fun i => l[i]?) z.cells ps with | some c => some (.agg c) | none => none)
       | none => none)
    | some (.array _ e) =>
      (match szT P e with
       | some n => (match fillA (fun i => some (i * n, n)) z.cells ps with | some c => some (.agg c) | none => none)
       | none => none)
    | _ => none
/-- Whether all fields are alike. -/
def eqFields (eq : TypeId → AV → AV → Option Bool) (xs ys : List AV) : List Field → Option Bool
  | [] => some true
  | f :: r =>
    if f.name = "_" then eqFields eq xs ys r
    else match partA P f.type xs f.offset, partA P f.type ys f.offset with
      | some x, some y => (match eq f.type x y with | some true => eqFields eq xs ys r | some false => some false | none => none)
      | _, _ => none
/-- Equality of values of a type, so far as it is taken. -/
def eqA : Nat → TypeId → AV → AV → Option Bool
  | 0, _, _, _ => none
  | n + 1, t, x, y =>
    match P.underlying t, x, y with
    | some .bool, .bool a, .bool b => some (a == b)
    | some (.int _), .int k a, .int k' b => if k = k' then some (a == b) else none
    | some .string, .str a, .str b => some (a == b)
    | some (.pointer _), .ptr none, .ptr none => some true
    | some (.pointer _), .ptr none, .ptr (some _) => some false
    | some (.pointer _), .ptr (some _), .ptr none => some false
    | some (.pointer e), .ptr (some a), .ptr (some b) =>
      (match szT P e with
       | some 0 => none
       | some _ => if a.1 = b.1 then some (a.2 == b.2) else none
       | none => none)
    | some (.interface _), .nilIface, .nilIface => some true
    | some (.interface _), .nilIface, .iface _ _ => some false
    | some (.interface _), .iface _ _, .nilIface => some false
    | some (.slice _), .slice none _ _, .slice b _ _ => some b.isNone
    | some (.slice _), .slice none _ _, .empty => some false
    | some (.slice _), .slice (some _) _ _, .slice none _ _ => some false
    | some (.slice _), .empty, .slice none _ _ => some false
    | some (.slice _), .lst (_ :: _), .slice none _ _ => some false
    | some (.map _ _), .map none, .map b => some b.isNone
    | some (.map _ _), .map (some _), .map none => some false
    | some (.func _ _ _), .nilFunc, .nilFunc => some true
    | some (.func _ _ _), .nilFunc, .func _ _ _ => some false
    | some (.func _ _ _), .func _ _ _, .nilFunc => some false
    | some (.struct fs), .agg xs, .agg ys => if P.stoodInHeld t then none else eqFields P (eqA n) xs ys fs.toList
    | _, _, _ => none
def bits (k : IntKind) (x : Int) : Nat := (x % (2 ^ k.bits : Int)).toNat
def intBin (op : BinOp) (k : IntKind) (x y : Int) : Option AV :=
  match op with
  | .add => some (.int k (k.wrap (x + y)))
  | .sub => some (.int k (k.wrap (x - y)))
  | .mul => some (.int k (k.wrap (x * y)))
  | .quo => if y = 0 then none else some (.int k (k.wrap (x.tdiv y)))
  | .rem => if y = 0 then none else some (.int k (x.tmod y))
  | .and => some (.int k (k.wrap (Nat.land (bits k x) (bits k y) : Nat)))
  | .or => some (.int k (k.wrap (Nat.lor (bits k x) (bits k y) : Nat)))
  | .xor => some (.int k (k.wrap (Nat.xor (bits k x) (bits k y) : Nat)))
  | .eql => some (.bool (x == y))
  | .neq => some (.bool (x != y))
  | .lss => some (.bool (decide (x < y)))
  | .leq => some (.bool (decide (x ≤ y)))
  | .gtr => some (.bool (decide (x > y)))
  | .geq => some (.bool (decide (x ≥ y)))
  | _ => none
def rngBin (op : BinOp) (lo hi b : Int) : Option AV :=
  match op with
  | .lss => if hi < b then some (.bool true) else if b ≤ lo then some (.bool false) else none
  | .leq => if hi ≤ b then some (.bool true) else if b < lo then some (.bool false) else none
  | .gtr => if b < lo then some (.bool true) else if hi ≤ b then some (.bool false) else none
  | .geq => if b ≤ lo then some (.bool true) else if hi < b then some (.bool false) else none
  | _ => none
def lessA : List Nat → List Nat → Bool
  | _, [] => false
  | [], _ :: _ => true
  | a :: x, b :: y => decide (a < b) || (a == b && lessA x y)
def strBin (op : BinOp) (a b : List Nat) : Option AV :=
  match op with
  | .add => if a.length + b.length ≤ 1000000000 then some (.str (a ++ b)) else none
  | .eql => some (.bool (a == b))
  | .neq => some (.bool (!(a == b)))
  | .lss => some (.bool (lessA a b))
  | .leq => some (.bool (lessA a b || a == b))
  | .gtr => some (.bool (!(lessA a b || a == b)))
  | .geq => some (.bool (!(lessA a b)))
  | _ => none
def guardOk (t : TypeId) (con : Bool) (x y : AV) : Bool :=
  match x, y with
  | .nilIface, .nilIface => con
  | .agg _, .agg _ => !P.eqGuardType P.depth t
  | _, _ => true
/-- con: an operand is a constant. -/
def binA (op : BinOp) (t : TypeId) (con : Bool) (x y : AV) : Option AV :=
  match x, y with
  | .int k a, .int k' b =>
    (match op with
     | .shl => if b < 0 then none else some (.int k (k.wrap (a * 2 ^ (min b.toNat k.bits))))
     | .shr => if b < 0 then none else some (.int k (a.fdiv (2 ^ (min b.toNat k.bits))))
     | _ => if k = k' then intBin op k a b else none)
  | .str a, .str b => strBin op a b
  | .rng k lo hi, .int k' b => if k = k' then rngBin op lo hi b else none
  | _, _ =>
    if guardOk P t con x y then
      (match op with
       | .eql => (match eqA P 6 t x y with | some b => some (.bool b) | none => none)
       | .neq => (match eqA P 6 t x y with | some b => some (.bool (!b)) | none => none)
       | _ => none)
    else none
def unA (op : UnOp) (x : AV) : Option AV :=
  match op, x with
  | .neg, .int k n => some (.int k (k.wrap (0 - n)))
  | .xor, .int k n => intBin .xor k (if k.signed then -1 else k.max) n
  | .not, .bool b => some (.bool !b)
  | _, _ => none
def bytesOf : List AV → Option (List Nat)
  | [] => some []
  | .int .u8 n :: r => if 0 ≤ n ∧ n < 256 then (match bytesOf r with | some l => some (n.toNat :: l) | none => none) else none
  | _ => none
def byteA (n : Nat) : AV := .int .u8 n
/-- Rows of so many cells each, one behind the other. -/
def rowsA (size : Nat) : List (List AV) → Option (List AV)
  | [] => some []
  | r :: l => if r.length = size then (match rowsA size l with | some c => some (r ++ c) | none => none) else none
/-- The cells of a slice's first n elements. -/
def firstA (h : Hp) (size n : Nat) : AV → Option (List AV)
  | .slice (some a) _ _ => match h a.1 with | some (.cells c _ _ _) => cut c a.2 (n * size) | _ => none
  | .slice none _ _ => some []
  | .empty => if n = 0 then some [] else none
  | .str b => some ((b.take n).map byteA)
  | .zero => if n = 0 then some [] else none
  | .lst rows => if n ≤ rows.length then rowsA size (rows.take n) else none
  | _ => none
def lenA : AV → Option Nat
  | .slice _ n _ => some n
  | .empty => some 0
  | .str b => some b.length
  | .zero => some 0
  | .lst rows => some rows.length
  | _ => none
def convQ (h : Hp) (src dst : TypeId) (x : AV) : Option AV :=
  match P.underlying src, P.underlying dst, x with
  | some (.int _), some (.int k), .int _ n => some (.int k (k.wrap n))
  | some .string, some .string, .str b => some (.str b)
  | some (.slice e), some .string, .slice a n c =>
    (match P.underlying e with
     | some (.int .u8) => (match firstA h 1 n (.slice a n c) with | some l => (match bytesOf l with | some b => some (.str b) | none => none) | none => none)
     | _ => none)
  | some (.slice e), some .string, .empty => (match P.underlying e with | some (.int .u8) => some (.str []) | _ => none)
  | some (.slice e), some .string, .lst rows =>
    (match P.underlying e with
     | some (.int .u8) => (match firstA h 1 rows.length (.lst rows) with | some l => (match bytesOf l with | some b => some (.str b) | none => none) | none => none)
     | _ => none)
  | _, _, _ => none
/-- A bound of a slice. -/
def bnd (x : Option AV) (d most : Nat) : Option Nat :=
  match x with
  | none => some d
  | some (.int _ i) => if 0 ≤ i ∧ i ≤ most then some i.toNat else none
  | _ => none
def rowOk (sz : Nat) : List (List AV) → Bool
  | [] => true
  | r :: _ => decide (r.length = sz)
def sliceA (hp : Hp) (t : TypeId) (x : AV) (lo hi mx : Option AV) : Option AV :=
  match P.underlying t, x, mx with
  | some .string, .str b, none =>
    (match bnd hi b.length b.length with
     | some h => (match bnd lo 0 h with | some l => some (.str ((b.take h).drop l)) | none => none)
     | none => none)
  | some (.slice e), .slice a len cap, none =>
    (match bnd hi len cap, szT P e with
     | some h, some sz =>
       (match bnd lo 0 h with
        | some l =>
          (match a with
           | none => if cap = 0 then some (.slice none 0 0) else none
           | some (b, o) => if l < cap ∨ l = 0 then some (.slice (some (b, o + l * sz)) (h - l) (cap - l)) else if h = l then some .empty else none)
        | none => none)
     | _, _ => none)
  | some (.slice e), .slice _ _ cap, some m =>
    (match bnd (some m) 0 cap, szT P e with
     | some m, some _ => (match hi with
       | some hi => (match bnd (some hi) 0 m with | some h => (match bnd lo 0 h with | some _ => some .any | none => none) | none => none)
       | none => none)
     | _, _ => none)
  | some (.slice e), .lst rows, none =>
    (match bnd hi rows.length rows.length, szT P e with
     | some h, some sz => (match bnd lo 0 h with | some l => if rowOk sz rows then some (.lst ((rows.take h).drop l)) else none | none => none)
     | _, _ => none)
  | some (.slice e), .lst rows, some m =>
    (match bnd (some m) 0 rows.length, szT P e with
     | some m, some _ => (match hi with
       | some hi => (match bnd (some hi) 0 m with | some h => (match bnd lo 0 h with | some _ => if m = 0 then some .zero else some .any | none => none) | none => none)
       | none => none)
     | _, _ => none)
  | some (.array n e), .ptr (some (b, o)), none =>
    (match bnd hi n n, szT P e, hp b with
     | some h, some sz, some (.cells _ _ false _) =>
       (match bnd lo 0 h with
        | some l => some (.slice (some (b, if n = l then o else o + l * sz)) (h - l) (n - l))
        | none => none)
     | _, _, _ => none)
  | _, _, _ => none
def idxA (t : TypeId) (x i : AV) : Option AV :=
  match P.underlying t, x, i with
  | some (.array len e), .ptr (some (b, o)), .int _ i => if 0 ≤ i ∧ i < len then (match szT P e with | some n => some (.ptr (some (b, o + i.toNat * n))) | none => none) else none
  | some (.slice e), .slice (some (b, o)) len _, .int _ i => if 0 ≤ i ∧ i < len then (match szT P e with | some n => some (.ptr (some (b, o + i.toNat * n))) | none => none) else none
  | some (.slice e), .lst rows, .int _ i => if 0 ≤ i then (match szT P e, rows[i.toNat]? with | some n, some r => if r.length = n then some (.lptr r) else none | _, _ => none) else none
  | _, _, _ => none
def indexA (t : TypeId) (x i : AV) : Option AV :=
  match P.underlying t, x, i with
  | some (.array len e), .agg c, .int _ i => if 0 ≤ i ∧ i < len then (match szT P e with | some n => partA P e c (i.toNat * n) | none => none) else none
  | some .string, .str b, .int _ i => if 0 ≤ i then (match b[i.toNat]? with | some n => some (byteA n) | none => none) else none
  | _, _, _ => none
def repl {α : Type} : Nat → List α → List α
  | 0, _ => []
  | n + 1, l => l ++ repl n l
def findA (k : AV) : List AEnt → Nat → Option (Option (Nat × AV))
  | [], _ => some none
  | e :: r, i =>
    match k, e.key with
    | .int j a, .int j' b => if j = j' then (if a = b then some (some (i, e.val)) else findA k r (i + 1)) else none
    | .str a, .str b => if a = b then some (some (i, e.val)) else findA k r (i + 1)
    | _, _ => none
def kindKey (k : TypeId) (v : AV) : Bool :=
  match P.underlying k, v with
  | some (.int _), .int _ _ => true
  | some .string, .str _ => true
  | _, _ => false
def lookA (h : Hp) (t : TypeId) (m k : AV) (ok : Bool) : Option AV :=
  match P.underlying t with
  | some (.map kt e) =>
    if kindKey P kt k then
      (match (match m with
        | .map none => some none
        | .map (some r) => (match h r with | some (.map es _) => findA k es 0 | _ => none)
        | _ => none : Option (Option (Nat × AV))) with
       | some (some (_, x)) => some (if ok then .tuple [x, .bool true] else x)
       | some none => (match zrT P e with | some z => some (if ok then .tuple [z, .bool false] else z) | none => none)
       | none => none)
    else none
  | _ => none
def fieldAtA (t : TypeId) (x : AV) (i : Nat) : Option AV :=
  match P.underlying t, x with
  | some (.struct fs), .ptr (some (b, o)) =>
    (match fs[i]? with
     | some g => (match szT P g.type with | some 0 => none | some _ => some (.ptr (some (b, o + g.offset))) | none => none)
     | none => none)
  | some (.struct fs), .lptr c =>
    (match fs[i]? with
     | some g => (match szT P g.type with | some 0 => none | some _ => some (.lptr (c.drop g.offset)) | none => none)
     | none => none)
  | _, _ => none
def fieldA (t : TypeId) (x : AV) (i : Nat) : Option AV :=
  match P.underlying t, x with
  | some (.struct fs), .agg c => (match fs[i]? with | some g => partA P g.type c g.offset | none => none)
  | _, _ => none
def qBuiltin (h : Hp) (b : Builtin) (t : Option TypeId) (args : List AV) : Option AV :=
  match b, t, args with
  | .len, some t, [x] =>
    (match P.underlying t, x with
     | some .string, .str b => some (.int .i64 b.length)
     | some (.array n _), _ => some (.int .i64 n)
     | some (.slice _), .slice _ n _ => some (.int .i64 n)
     | some (.slice _), .empty => some (.int .i64 0)
     | some (.slice _), .zero => some (.int .i64 0)
     | some (.slice _), .lst rows => some (.int .i64 rows.length)
     | some (.map _ _), .map none => some (.int .i64 0)
     | some (.map _ _), .map (some r) => (match h r with | some (.map es _) => some (.int .i64 es.length) | _ => none)
     | some (.chan _ _), .chan (some r) => (match h r with | some (.chan _ b) => some (.int .i64 b.length) | _ => none)
     | _, _ => none)
  | .cap, some t, [x] =>
    (match P.underlying t, x with
     | some (.slice _), .slice none _ n => some (.int .i64 n)
     | some (.slice _), .slice (some a) _ n => (match h a.1 with | some (.cells _ _ false _) => some (.int .i64 n) | _ => none)
     | _, _ => none)
  | .min, _, [.int k a, .int _ b] => some (.int k (if b < a then b else a))
  | .max, _, [.int k a, .int _ b] => some (.int k (if a < b then b else a))
  | _, _, _ => none
/-- The rune that stands at a place, and of how many bytes. -/
def runeA (b : List Nat) (pos : Nat) : Nat × Nat := Utf8.decode ⟨⟨b.map Nat.toUInt8⟩⟩ pos
def isConst : Operand → Bool
  | .const _ => true
  | _ => false
/-- An operand that may be lacking. -/
def evo (ρ : Operand → Option AV) : Option Operand → Option (Option AV)
  | none => some none
  | some x => match ρ x with | some v => some (some v) | none => none
/-- What an operation that turns nothing yields. -/
def qA (ρ : Operand → Option AV) (h : Hp) (o : Op) : Option AV :=
  match o with
  | .move x => ρ x
  | .assign x => ρ x
  | .pick c a b => (match ρ c with | some (.bool true) => ρ a | some (.bool false) => ρ b | _ => none)
  | .build t ps => (match evp ρ ps.toList with | some l => buildA P t l | none => none)
  | .load t a => (match ρ a with | some (.ptr (some a)) => loadA P h t a | some (.lptr c) => partA P t c 0 | _ => none)
  | .nilCheck x => (match ρ x with | some (.ptr (some a)) => some (.ptr (some a)) | some (.lptr c) => some (.lptr c) | some (.func g a b) => some (.func g a b) | some (.yield l) => some (.yield l) | _ => none)
  | .binOp op t x y _ => (match ρ x, ρ y with | some a, some b => binA P op t (isConst x || isConst y) a b | _, _ => none)
  | .unOp op _ x => (match ρ x with | some a => unA op a | none => none)
  | .convert a b x => (match ρ x with | some x => convQ P h a b x | none => none)
  | .makeInterface t x => (match P.underlying t, ρ x with | some (.interface _), _ => none | some _, some v => some (.iface t v) | _, _ => none)
  | .makeFunc (.func g) first captured => (match evs ρ first.toList, evs ρ captured.toList with | some a, some b => some (.func g a b) | _, _ => none)
  | .slice t x lo hi mx => (match ρ x, evo ρ lo, evo ρ hi, evo ρ mx with | some x, some lo, some hi, some mx => sliceA P h t x lo hi mx | _, _, _, _ => none)
  | .fieldAddr t x i => (match ρ x with | some x => fieldAtA P t x i | none => none)
  | .field t x i => (match ρ x with | some x => fieldA P t x i | none => none)
  | .indexAddr t x i => (match ρ x, ρ i with | some x, some i => idxA P t x i | _, _ => none)
  | .index t x i => (match ρ x, ρ i with | some x, some i => indexA P t x i | _, _ => none)
  | .lookup t m k ok => (match ρ m, ρ k with | some m, some k => lookA P h t m k ok | _, _ => none)
  | .extract x i => (match ρ x with | some (.tuple l) => l[i]? | _ => none)
  | .call c => (match c.callee, evs ρ c.args.toList with | .builtin b, some l => qBuiltin P h b c.argTypes[0]? l | _, _ => none)
  | _ => none
/-- A block that an operation makes, and what it yields of the block's number. -/
def aA (ρ : Operand → Option AV) (o : Op) : Option (AObj × (Nat → AV)) :=
  match o with
  | .alloc e => (match zrT P e with | some z => some (.cells z.cells e false false, fun r => .ptr (some (r, 0))) | none => none)
  | .box e x => (match ρ x with | some .any => none | some x => some (.cells x.cells e false false, fun r => .ptr (some (r, 0))) | none => none)
  | .buildSlice t len ps =>
    (match P.underlying t with
     | some (.slice e) =>
       (match szT P e, zrT P e, evp ρ ps.toList with
        | some sz, some z, some l =>
          if len * sz ≤ 16777216 ∧ z.cells.length = sz ∧ 0 < sz then
            (match fillA (fun i => some (i * sz, sz)) (repl len z.cells) l with
             | some c => some (.cells c e false false, fun r => .slice (some (r, 0)) len len)
             | none => none)
          else none
        | _, _, _ => none)
     | _ => none)
  | .makeMap t r =>
    (match P.underlying t, evo ρ r with
     | some (.map _ _), some none => some (.map [] 0, fun r => .map (some r))
     | some (.map _ _), some (some (.int _ _)) => some (.map [] 0, fun r => .map (some r))
     | _, _ => none)
  | .makeChan t n =>
    (match P.underlying t, ρ n with
     | some (.chan _ e), some (.int _ n) =>
       (match P.info? e with
        | some i => if 0 ≤ n ∧ n ≤ 1000000 ∧ i.bytes ≤ 100000 then some (.chan n.toNat [], fun r => .chan (some r)) else none
        | none => none)
     | _, _ => none)
  | .makeSlice t l c =>
    (match P.underlying t with
     | some (.slice e) =>
       (match szT P e, zrT P e, ρ l, ρ c, P.info? e with
        | some sz, some z, some (.int _ l), some (.int _ c), some inf =>
          if 0 ≤ l ∧ l ≤ c ∧ c ≤ 1000000 ∧ z.cells.length = sz ∧ 0 < sz ∧ inf.bytes ≤ 100000 then
            some (.cells (repl c.toNat z.cells) e false false, fun r => .slice (some (r, 0)) l.toNat c.toNat)
          else none
        | _, _, _, _, _ => none)
     | _ => none)
  | .range t x =>
    (match P.underlying t, ρ x with
     | some .string, some (.str b) => some (.strIter b 0, fun r => .ptr (some (r, 0)))
     | _, _ => none)
  | .convert a b x =>
    (match P.underlying a, P.underlying b, ρ x with
     | some .string, some (.slice e), some (.str s) =>
       (match P.underlying e, szT P e with
        | some (.int .u8), some 1 => some (.cells (s.map byteA) e true false, fun r => .slice (some (r, 0)) s.length s.length)
        | _, _ => none)
     | _, _, _ => none)
  | _ => none
inductive ANext where
  | value (v : AV)
  | skip
  | enter (f : FuncId) (args : List AV)
  | round (l : Nat) (args : List AV)
  | defer (f : FuncId) (args : List AV)
  | recover
  | comm (v : AV)
def appendA (s : St) (argTypes : Array TypeId) (args : List AV) : Option (AV × St) :=
  match argTypes[0]?, argTypes[1]?, args with
  | some st, some xt, [.slice a len cap, x] =>
    (match P.underlying st, P.underlying xt with
     | some (.slice e), some (.int _) =>
       (match szT P e, P.info? e, zrT P e, a, x with
        | some sz, some inf, some z, none, .int _ n =>
          if len = 0 ∧ cap = 0 ∧ 0 < n ∧ n ≤ 1000000 ∧ 0 < sz ∧ z.cells.length = sz ∧ 0 < inf.bytes ∧ inf.bytes ≤ 100000 then
            some (.slice (some (s.nx, 0)) n.toNat n.toNat, s.new (.cells (repl n.toNat z.cells) e true false))
          else none
        | _, _, _, _, _ => none)
     | _, some (.int _) => none
     | some (.slice e), some _ =>
       (match szT P e, P.info? e, zrT P e, lenA x with
        | some sz, some inf, some z, some n =>
          (match firstA s.obj sz n x with
           | some nw =>
             if len + n ≤ cap then
               (match a with
                | none => if n = 0 ∧ len = 0 then some (.slice none 0 cap, s) else none
                | some (b, o) => (match putCells s (b, o + len * sz) nw with | some s => some (.slice (some (b, o)) (len + n) cap, s) | none => none))
             else if 0 < sz ∧ z.cells.length = sz ∧ nw.length = n * sz ∧ (len + n) ≤ 100000000 ∧ 0 < inf.bytes ∧ inf.bytes ≤ 100000 then
               (match a with
                | none => if len = 0 ∧ cap = 0 then some (.slice (some (s.nx, 0)) n n, s.new (.cells nw e true false)) else none
                | some (b, o) =>
                  (match s.obj b with
                   | some (.cells c e' opn hard) =>
                     (match cut c o (len * sz) with
                      | some old =>
                        if opn then
                          (if o = 0 ∧ hard = false ∧ cap * sz = c.length ∧ e' = e ∧ nw.all AV.one then
                            some (.slice (some (s.nx, 0)) (len + n) (len + n), (s.kill b).new (.cells (old ++ nw) e true false))
                           else none)
                        else some (.slice (some (s.nx, 0)) (len + n) (len + n), s.new (.cells (old ++ nw) e true false))
                      | none => none)
                   | _ => none))
             else none
           | none => none)
        | _, _, _, _ => none)
     | _, _ => none)
  | some st, some xt, [.zero, x] =>
    (match P.underlying st, P.underlying xt with
     | _, some (.int _) => none
     | some (.slice e), some _ =>
       (match szT P e, P.info? e, zrT P e, lenA x with
        | some sz, some inf, some z, some n =>
          (match firstA s.obj sz n x with
           | some nw =>
             if n = 0 then some (.zero, s)
             else if 0 < sz ∧ z.cells.length = sz ∧ nw.length = n * sz ∧ n ≤ 100000000 ∧ 0 < inf.bytes ∧ inf.bytes ≤ 100000 then
               some (.slice (some (s.nx, 0)) n n, s.new (.cells nw e true false))
             else none
           | none => none)
        | _, _, _, _ => none)
     | _, _ => none)
  | _, _, _ => none
def eBuiltin (s : St) (b : Builtin) (argTypes : Array TypeId) (args : List AV) : Option (AV × St) :=
  match b with
  | .append => appendA P s argTypes args
  | .copy =>
    (match argTypes[0]?, args with
     | some t, [.slice a dl _, src] =>
       (match P.underlying t, lenA src with
        | some (.slice e), some n =>
          (match szT P e with
           | some sz =>
             (match firstA s.obj sz (min n dl) src with
              | some c => (match a with | none => some (.int .i64 (min n dl : Nat), s) | some a => (match putCells s a c with | some s => some (.int .i64 (min n dl : Nat), s) | none => none))
              | none => none)
           | none => none)
        | _, _ => none)
     | _, _ => none)
  | .clear =>
    (match argTypes[0]?, args with
     | some t, [.slice a n _] =>
       (match P.underlying t with
        | some (.slice e) =>
          (match a with
           | none => some (.tuple [], s)
           | some a => if n = 0 then some (.tuple [], s) else
             (match zrT P e, szT P e with
              | some z, some sz => if z.cells.length = sz ∧ 0 < sz then (match putCells s a (repl n z.cells) with | some s => some (.tuple [], s) | none => none) else none
              | _, _ => none))
        | _ => none)
     | some t, [.empty] => (match P.underlying t with | some (.slice _) => some (.tuple [], s) | _ => none)
     | _, _ => none)
  | _ => none
def setEnt : List AEnt → Nat → AV → AV → List AEnt
  | [], _, _, _ => []
  | e :: r, 0, k, v => ⟨k, v, e.born⟩ :: r
  | e :: r, i + 1, k, v => e :: setEnt r i k v
def mapPut (s : St) (t : TypeId) (m k v : AV) : Option St :=
  match P.underlying t, m with
  | some (.map kt _), .map (some r) =>
    (match s.obj r with
     | some (.map es clock) =>
       if kindKey P kt k then
         (match findA k es 0 with
          | some (some (i, _)) => some (s.set r (.map (setEnt es i k v) clock))
          | some none => some (s.set r (.map (es ++ [⟨k, v, clock⟩]) (clock + 1)))
          | none => none)
       else none
     | _ => none)
  | _, _ => none
def callA (f : FuncId) (args : List AV) : Option ANext :=
  match P.funcs[f]? with
  | some fn => (match fn.body with | some _ => if fn.name = "runtime.NumGoroutine" then none else some (.enter f args) | none => none)
  | none => none
def eA (ρ : Operand → Option AV) (s : St) (o : Op) : Option (ANext × St) :=
  match o with
  | .store t a x => (match ρ a, ρ x with | some (.ptr (some a)), some x => (match storeA P s t a x with | some s => some (.skip, s) | none => none) | _, _ => none)
  | .mapUpdate t m k x => (match ρ m, ρ k, ρ x with | some m, some k, some x => (match mapPut P s t m k x with | some s => some (.skip, s) | none => none) | _, _, _ => none)
  | .insert t m k x => (match ρ m, ρ k, ρ x with | some m, some k, some x => (match mapPut P s t m k x with | some s => some (.skip, s) | none => none) | _, _, _ => none)
  | .select cs false =>
    (match cs.toList with
     | [c] =>
       (match zrT P c.elem, ρ c.chan with
        | some z, some (.chan (some r)) =>
          (match s.obj r with
           | some (.chan cap buf) =>
             (match c.send with
              | some x =>
                (match ρ x with
                 | some v => if buf.length < cap then some (.comm (.tuple [.int .i64 0, .bool false]), s.set r (.chan cap (buf ++ [v]))) else some (.comm (.tuple [.int .i64 (-1), .bool false]), s)
                 | none => none)
              | none =>
                (match buf with
                 | v :: l => some (.comm (.tuple [.int .i64 0, .bool true, v]), s.set r (.chan cap l))
                 | [] => some (.comm (.tuple [.int .i64 (-1), .bool false, z]), s)))
           | _ => none)
        | _, _ => none)
     | _ => none)
  | .next it true =>
    (match ρ it with
     | some (.ptr (some (r, 0))) =>
       (match s.obj r with
        | some (.strIter b pos) =>
          (match b[pos]? with
           | some n => if n < 128 then some (.value (.tuple [.bool true, .int .i64 pos, .int .i32 n]), s.set r (.strIter b (pos + 1)))
             else some (.value (.tuple [.bool true, .int .i64 pos, .int .i32 (runeA b pos).1]), s.set r (.strIter b (pos + (runeA b pos).2)))
           | none => some (.value (.tuple [.bool false]), s))
        | _ => none)
     | _ => none)
  | .call c =>
    (match evs ρ c.args.toList with
     | some args =>
       (match c.callee with
        | .builtin .recover => some (.recover, s)
        | .builtin b => (match eBuiltin P s b c.argTypes args with | some (v, s) => some (.value v, s) | none => none)
        | .value g =>
          (match ρ g with
           | some (.func g first captured) => (match callA P g ((first ++ args) ++ captured) with | some x => some (x, s) | none => none)
           | some (.yield l) => some (.round l args, s)
           | _ => none)
        | .invoke _ _ => none)
     | none => none)
  | .defer c =>
    (match evs ρ c.args.toList, c.callee with
     | some args, .value g => (match ρ g with | some (.func g first captured) => (match callA P g ((first ++ args) ++ captured) with | some (.enter g l) => some (.defer g l, s) | _ => none) | _ => none)
     | _, _ => none)
  | _ => none
inductive Kind where
  | q | a | e
  deriving DecidableEq
def kindOf (o : Op) : Kind :=
  match o with
  | .alloc _ | .box _ _ | .buildSlice _ _ _ | .makeMap _ _ | .makeSlice _ _ _ | .range _ _ | .makeChan _ _ => .a
  | .convert a b _ => (match P.underlying a, P.underlying b with | some .string, some (.slice _) => .a | _, _ => .q)
  | .call c => (match c.callee with | .builtin .len | .builtin .cap | .builtin .min | .builtin .max => .q | _ => .e)
  | .store _ _ _ | .mapUpdate _ _ _ _ | .insert _ _ _ _ | .next _ _ | .defer _ | .select _ _ => .e
  | _ => .q
/-- Reads an operation the memory? -/
def readsMem (o : Op) : Bool :=
  match o with
  | .load _ _ | .lookup _ _ _ _ | .convert _ _ _ | .call _ | .slice _ _ _ _ _ => true
  | _ => false
def wantedA (ops : Array Oper) (f : Fr) (o : Oper) : Option Bool :=
  match o.guard with
  | none => some true
  | some (j, w) =>
    match ops[j]? with
    | some oj =>
      (match oj.dst with
       | some d =>
         (match f.tm.get d with
          | some (.bool b) => some (b == w)
          | some (.tuple []) => some false
          | _ => none)
       | none => none)
    | none => none
inductive AX where
  | normal
  | exit (id : Nat)
  | ret
/-- An operation that was carried out: the frame and the memory ahead of it, what it yielded. -/
structure Ent where
  o : Oper
  run : Bool
  f : Fr
  s : St
  v : AV
inductive Task where
  | code (c : Code) (f : Fr)
  | ops (draw : Bool) (ops : Array Oper) (l : List Oper) (acc : List Ent) (f : Fr)
  | call (g : FuncId) (args : List AV)
  | defs (l : List AD)
  | round (l : Nat) (args : List AV)
inductive Res where
  | at (x : AX) (f : Fr)
  | val (v : AV)
def frameOf : Nat → List AV → Tr AV → Tr AV
  | _, [], t => t
  | i, v :: r, t => frameOf (i + 1) r (t.set i (some v))
def resultA (h : Hp) (f : Fr) : List ResultVar → Option (List AV)
  | [] => some []
  | .tmp t :: r => (match f.tm.get t, resultA h f r with | some v, some l => some (v :: l) | _, _ => none)
  | .cell a t :: r => (match f.tm.get a with | some (.ptr (some a)) => (match loadA P h t a, resultA h f r with | some v, some l => some (v :: l) | _, _ => none) | _ => none)
def resultsA (h : Hp) (f : Fr) (l : List ResultVar) : Option AV :=
  match resultA P h f l with
  | some [v] => some v
  | some l => some (.tuple l)
  | none => none
def setParams : List (Tmp × AV) → Nat → Tr AV → Option (Tr AV)
  | [], _, t => some t
  | (p, v) :: r, n, t => if p < n then setParams r n (t.set p (some v)) else none
end
end Go.Proofs.YtcpmhehklicpfaaGreatDoor.Ev
