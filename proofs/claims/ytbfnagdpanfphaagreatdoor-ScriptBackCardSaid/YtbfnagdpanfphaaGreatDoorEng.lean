/-  The engine: a condition 'vc' over loaded code, computed by structural recursion; its soundness is proved in YtbfnagdpanfphaaGreatDoorEngS.  -/
import Derived.WalkKit
import Derived.KernelRfl
import Derived.Scope
import Derived.Orders
import Derived.Deep.LoopGhost
section
namespace Go.Proofs.YtbfnagdpanfphaaGreatDoor.X
open Go

def ev (l : List Value) : Operand → Value
  | .tmp t => l.getD t undef
  | .const v => v
  | .global g => .pointer (some ⟨g, 0, none⟩)
  | .func f => .func (.func f) #[] #[]

def put (l : List Value) (d : Option Tmp) (v : Value) : List Value :=
  match d with
  | some d => l.set d v
  | none => l

/-! what a step asks -/

structure Ret (P : Program) (f : FuncId) (args : List Value) (w : World) (K : Value → World → Prop) : Prop where
  out : Calls P f args.toArray w fun e w' => ∃ v, e = .returned v ∧ K v w'

/-- an operation that is run by the model's own text -/
structure XRun (P : Program) (s : Sem Value) (w : World) (K : Value → World → Prop) : Prop where
  out : ∃ v w', s.run P w = .ok v w' ∧ K v w'

structure XDo (P : Program) (s : Sem Unit) (w : World) (K : World → Prop) : Prop where
  out : ∃ w', s.run P w = .ok () w' ∧ K w'

/-- a number that is reckoned -/
structure XI (n : Int) (K : Int → Prop) : Prop where
  out : K n

structure XLd (w : World) (a : Addr) (K : Value → Prop) : Prop where
  out : ∃ v, w.cell? a = some v ∧ K v

structure XLdN (w : World) (a : Addr) (n : Nat) (K : Value → Prop) : Prop where
  out : ∃ vs : Array Value, vs.size = n ∧ (∀ i, i < n → w.cell? (a.add i) = vs[i]?) ∧ K (.agg vs)

structure XSt (w : World) (a : Addr) (v : Value) (K : World → Prop) : Prop where
  out : (∃ o, w.cell? a = some o) ∧ w.frozen? a = false ∧ v.oneCell' = true ∧ K (w.setCell a v)

structure XIx (i : Int) (n : Nat) (K : Nat → Prop) : Prop where
  out : ∃ k : Nat, i = (k : Int) ∧ k < n ∧ K k

structure XLoop (init : List Value) (w : World) (body : (Nat → List Value → World → Prop) → Nat → List Value → (Nat → Value) → World → Prop) : Prop where
  out : ∃ I : Nat → List Value → World → Prop, (∃ n, I n init w) ∧ ∀ n vs g w', I n vs w' → body I n vs g w'

structure XNext (I : Nat → List Value → World → Prop) (n : Nat) (vs : List Value) (w : World) : Prop where
  out : ∃ m, m < n ∧ I m vs w

/-- where ways meet again -/
structure XJ (paths : (List Value → World → Prop) → Prop) (rest : List Value → (Nat → Value) → World → Prop) : Prop where
  out : ∃ J : List Value → World → Prop, paths J ∧ ∀ vs g w, J vs w → rest vs g w

/-! values -/

abbrev xAt (v : Value) (K : Addr → Prop) : Prop :=
  match v with
  | .pointer (some a) => K a
  | _ => False

def xIf (v : Value) (A B : Prop) : Prop :=
  match v with
  | .bool t => (match t with | true => A | false => B)
  | _ => False

def xPick (c a b : Value) (K : Value → Prop) : Prop :=
  match c with
  | .bool t => K (match t with | true => a | false => b)
  | _ => False

abbrev xNot (v : Value) (K : Value → Prop) : Prop :=
  match v with
  | .bool t => K (.bool !t)
  | _ => False

def sameKind (k k' : IntKind) : Bool := decide (k = k')

/-- two numbers of one kind -/
abbrev xInts (x y : Value) (K : IntKind → Int → Int → Prop) : Prop :=
  match x, y with
  | .int k a, .int k' b => (match sameKind k k' with | true => K k a b | false => False)
  | _, _ => False

abbrev xAdd (x y : Value) (K : Value → Prop) : Prop := xInts x y fun k a b => XI (k.wrap (a + b)) fun r => K (.int k r)
abbrev xSub (x y : Value) (K : Value → Prop) : Prop := xInts x y fun k a b => XI (k.wrap (a - b)) fun r => K (.int k r)
abbrev xMul (x y : Value) (K : Value → Prop) : Prop := xInts x y fun k a b => XI (k.wrap (a * b)) fun r => K (.int k r)
def isNought (b : Int) : Bool := decide (b = 0)
def xQuo (x y : Value) (K : Value → Prop) : Prop :=
  xInts x y fun k a b => match isNought b with | true => False | false => XI (k.wrap (a.tdiv b)) fun r => K (.int k r)
def xRem (x y : Value) (K : Value → Prop) : Prop :=
  xInts x y fun k a b => match isNought b with | true => False | false => XI (a.tmod b) fun r => K (.int k r)
abbrev xAnd (x y : Value) (K : Value → Prop) : Prop := xInts x y fun k a b => XI (k.wrap (BitVec.ofInt k.bits a &&& BitVec.ofInt k.bits b).toNat) fun r => K (.int k r)
abbrev xOr (x y : Value) (K : Value → Prop) : Prop := xInts x y fun k a b => XI (k.wrap (BitVec.ofInt k.bits a ||| BitVec.ofInt k.bits b).toNat) fun r => K (.int k r)
abbrev xXor (x y : Value) (K : Value → Prop) : Prop := xInts x y fun k a b => XI (k.wrap (BitVec.ofInt k.bits a ^^^ BitVec.ofInt k.bits b).toNat) fun r => K (.int k r)
def isNeg (b : Int) : Bool := decide (b < 0)
def xShl (x y : Value) (K : Value → Prop) : Prop :=
  match x, y with
  | .int k a, .int _ b => (match isNeg b with | true => False | false => XI (k.wrap (a * 2 ^ min b.toNat k.bits)) fun r => K (.int k r))
  | _, _ => False
def xShr (x y : Value) (K : Value → Prop) : Prop :=
  match x, y with
  | .int k a, .int _ b => (match isNeg b with | true => False | false => XI (a.fdiv (2 ^ min b.toNat k.bits)) fun r => K (.int k r))
  | _, _ => False
def xNeg (x : Value) (K : Value → Prop) : Prop :=
  match x with
  | .int k a => XI (k.wrap (0 - a)) fun r => K (.int k r)
  | _ => False
abbrev xLt (x y : Value) (K : Value → Prop) : Prop := xInts x y fun _ a b => K (.bool (decide (a < b)))
abbrev xLe (x y : Value) (K : Value → Prop) : Prop := xInts x y fun _ a b => K (.bool (decide (a ≤ b)))
abbrev xGt (x y : Value) (K : Value → Prop) : Prop := xInts x y fun _ a b => K (.bool (decide (a > b)))
abbrev xGe (x y : Value) (K : Value → Prop) : Prop := xInts x y fun _ a b => K (.bool (decide (a ≥ b)))
abbrev xEq (x y : Value) (K : Value → Prop) : Prop := xInts x y fun _ a b => K (.bool (a == b))
abbrev xNe (x y : Value) (K : Value → Prop) : Prop := xInts x y fun _ a b => K (.bool (a != b))

structure XCat (x y : ByteArray) (K : Value → Prop) : Prop where
  out : ((x.size + y.size : Nat) : Int) ≤ 9223372036854775807 ∧ K (.string (x ++ y))

abbrev xStrs (x y : Value) (K : ByteArray → ByteArray → Prop) : Prop :=
  match x, y with
  | .string a, .string b => K a b
  | _, _ => False
abbrev xSCat (x y : Value) (K : Value → Prop) : Prop := xStrs x y fun a b => XCat a b K
abbrev xSEq (x y : Value) (K : Value → Prop) : Prop := xStrs x y fun a b => K (.bool (a.toList == b.toList))
abbrev xSNe (x y : Value) (K : Value → Prop) : Prop := xStrs x y fun a b => K (.bool !(a.toList == b.toList))

def xBEq (x y : Value) (K : Value → Prop) : Prop :=
  match x, y with
  | .bool a, .bool b => K (.bool (a == b))
  | _, _ => False
def xBNe (x y : Value) (K : Value → Prop) : Prop :=
  match x, y with
  | .bool a, .bool b => K (.bool !(a == b))
  | _, _ => False

/-- whether two addresses are one -/
structure XSame (P : Program) (w : World) (a b : Addr) (K : Bool → Prop) : Prop where
  out : ∃ t, (sameAddr a b).run P w = .ok t w ∧ K t

abbrev xPtrs (P : Program) (w : World) (x y : Value) (K : Bool → Prop) : Prop :=
  match x, y with
  | .pointer none, .pointer b => K b.isNone
  | .pointer (some _), .pointer none => K false
  | .pointer (some a), .pointer (some b) => XSame P w a b K
  | _, _ => False
abbrev xPEq (P : Program) (w : World) (x y : Value) (K : Value → Prop) : Prop := xPtrs P w x y fun t => K (.bool t)
abbrev xPNe (P : Program) (w : World) (x y : Value) (K : Value → Prop) : Prop := xPtrs P w x y fun t => K (.bool !t)

abbrev xNils (x y : Value) (K : Bool → Prop) : Prop :=
  match x, y with
  | .slice none _ _, .slice b _ _ => K b.isNone
  | .slice (some _) _ _, .slice none _ _ => K false
  | _, _ => False
abbrev xLEq (x y : Value) (K : Value → Prop) : Prop := xNils x y fun t => K (.bool t)
abbrev xLNe (x y : Value) (K : Value → Prop) : Prop := xNils x y fun t => K (.bool !t)

/-- what any other comparison answers -/
structure XEqv (P : Program) (op : BinOp) (t : TypeId) (x y : Operand) (a b : Value) (w : World) (K : Bool → Prop) : Prop where
  out : ∃ r, (eqGuard op t x y a b).run P w = .ok () w ∧ (Op.equal t a b).run P w = .ok r w ∧ K r

/-- a nil interface value, compared -/
def xIfc (P : Program) (op : BinOp) (t : TypeId) (x y : Operand) (a b : Value) (w : World) (K : Bool → Prop) : Prop :=
  match a with
  | .nilIface => XEqv P op t x y .nilIface b w K
  | _ => False
def xLen (x : Value) (K : Value → Prop) : Prop :=
  match x with
  | .slice _ n _ => K (.int .i64 n)
  | _ => False
def xLenS (x : Value) (K : Value → Prop) : Prop :=
  match x with
  | .string s => K (.int .i64 s.size)
  | _ => False
def xCap (x : Value) (K : Value → Prop) : Prop :=
  match x with
  | .slice _ _ n => K (.int .i64 n)
  | _ => False
abbrev xMin (x y : Value) (K : Value → Prop) : Prop :=
  match x, y with
  | .int k a, .int _ b => K (.int k (if b < a then b else a))
  | _, _ => False
abbrev xMax (x y : Value) (K : Value → Prop) : Prop :=
  match x, y with
  | .int k a, .int _ b => K (.int k (if a < b then b else a))
  | _, _ => False
abbrev xTup (x : Value) (i : Nat) (K : Value → Prop) : Prop :=
  match x with
  | .tuple vs => (match vs.toList[i]? with | some v => K v | none => False)
  | _ => False
abbrev xFld (x : Value) (o : Nat) (K : Value → Prop) : Prop := xAt x fun a => K (.pointer (some (a.add o)))
/-- an element's address, in a slice; in an array -/
def xIxS (x i : Value) (size : Nat) (K : Value → Prop) : Prop :=
  match x, i with
  | .slice (some a) n _, .int _ i => XIx i n fun k => K (.pointer (some (a.add (k * size))))
  | _, _ => False
def xIxA (x i : Value) (n size : Nat) (K : Value → Prop) : Prop :=
  match x, i with
  | .pointer (some a), .int _ i => XIx i n fun k => K (.pointer (some (a.add (k * size))))
  | _, _ => False
structure XByte (s : ByteArray) (i : Int) (K : Value → Prop) : Prop where
  out : ∃ (k : Nat) (b : UInt8), i = (k : Int) ∧ s[k]? = some b ∧ K (.int .u8 b.toNat)
def xIxStr (x i : Value) (K : Value → Prop) : Prop :=
  match x, i with
  | .string s, .int _ i => XByte s i K
  | _, _ => False
/-- a part of a struct, or an array, that is held as a value -/
def xPart (agg : Bool) (x : Value) (o size : Nat) (K : Value → Prop) : Prop :=
  match x with
  | .agg cs => (match agg with
    | true => K (.agg (cs.extract o (o + size)))
    | false => (match cs[o]? with | some v => K v | none => False))
  | _ => False
structure XCut (len cap : Nat) (lo hi mx : Option Value) (K : Nat → Nat → Nat → Prop) : Prop where
  out : ∃ l h m : Nat, (match mx with | some (.int _ i) => i = (m : Int) ∧ m ≤ cap | none => m = cap | _ => False) ∧
    (match hi with | some (.int _ i) => i = (h : Int) ∧ h ≤ m | none => h = len ∧ mx = none | _ => False) ∧
    (match lo with | some (.int _ i) => i = (l : Int) ∧ l ≤ h | none => l = 0 | _ => False) ∧ K l h m
def cutAddr (a : Option Addr) (l m size : Nat) : Option Addr := if m = l then a else a.map (·.add (l * size))
def xCutS (size : Nat) (x : Value) (lo hi mx : Option Value) (K : Value → Prop) : Prop :=
  match x with
  | .slice a len cap => XCut len cap lo hi mx fun l h m => K (.slice (cutAddr a l m size) (h - l) (m - l))
  | _ => False
def xCutA (n size : Nat) (x : Value) (lo hi mx : Option Value) (K : Value → Prop) : Prop :=
  match x with
  | .pointer (some a) => XCut n n lo hi mx fun l h m => K (.slice (some (if m = l then a else a.add (l * size))) (h - l) (m - l))
  | _ => False
def xCutStr (x : Value) (lo hi : Option Value) (K : Value → Prop) : Prop :=
  match x with
  | .string s => XCut s.size s.size lo hi none fun l h _ => K (.string (s.extract l h))
  | _ => False
abbrev xConv (k : IntKind) (x : Value) (K : Value → Prop) : Prop :=
  match x with
  | .int _ n => XI (k.wrap n) fun r => K (.int k r)
  | _ => False
abbrev xStr (x : Value) (K : Value → Prop) : Prop :=
  match x with
  | .string s => K (.string s)
  | _ => False
def xFunc (f : Value) (args : List Value) (K : FuncId → List Value → Prop) : Prop :=
  match f with
  | .func (.func f) first captured => K f (first.toList ++ args ++ captured.toList)
  | _ => False
/-- the cells of a value of a struct or an array, part by part -/
def cellsV : Value → List Value
  | .agg cs => cs.toList
  | v => [v]
def setFrom (cs : List Value) (o : Nat) : List Value → List Value
  | [] => cs
  | v :: r => setFrom (cs.set o v) (o + 1) r
def fillL (cells : List Value) : List (Nat × Nat × Value) → Option (List Value)
  | [] => some cells
  | (o, size, v) :: rest =>
    match Nat.beq (cellsV v).length size with
    | true => (match Nat.ble (o + (cellsV v).length) cells.length with
      | true => fillL (setFrom cells o (cellsV v)) rest
      | false => none)
    | false => none
abbrev xFill (cells : List Value) (parts : List (Nat × Nat × Value)) (K : List Value → Prop) : Prop :=
  match fillL cells parts with
  | some cs => K cs
  | none => False
/-- a new block -/
structure XNew (w : World) (cs : List Value) (t : TypeId) (K : Addr → World → Prop) : Prop where
  out : K ⟨w.heap.size, 0, none⟩ (w.alloc (.cells cs.toArray t))

/-! the program's types -/

inductive TK where
  | int (k : IntKind) | str | bool | ptr (e : TypeId) | slice (e : TypeId) | arr (n : Nat) (e : TypeId) | struct | func | other
def tk (P : Program) (t : TypeId) : TK :=
  match P.underlying t with
  | some (.int k) => .int k
  | some .string => .str
  | some .bool => .bool
  | some (.pointer e) => .ptr e
  | some (.slice e) => .slice e
  | some (.array n e) => .arr n e
  | some (.struct _) => .struct
  | some (.func ..) => .func
  | _ => .other
/-- that a type is known -/
def known (P : Program) (t : TypeId) : Bool := match P.underlying t with | some _ => true | none => false
def szOf (P : Program) (t : TypeId) : Option Nat := (P.info? t).map (·.size)
def aggT (P : Program) (t : TypeId) : Bool :=
  match tk P t with
  | .struct | .arr .. => true
  | _ => false
def zcells (P : Program) (t : TypeId) : Option (List Value) :=
  match P.info? t with
  | some i => (match i.zero with | some z => some (cellsV z) | none => none)
  | none => none
/-- a field: where it stands, its size, its type -/
def fieldOf (P : Program) (s : TypeId) (f : Nat) : Option (Nat × Nat × TypeId) :=
  match P.underlying s with
  | some (.struct fs) => (match fs[f]? with
    | some x => (match known P x.type with
      | true => (match szOf P x.type with | some n => some (x.offset, n, x.type) | none => none)
      | false => none)
    | none => none)
  | _ => none
def bodied (P : Program) (f : FuncId) : Bool :=
  match P.funcs[f]? with
  | some fn => (match fn.body with
    | some _ => !(fn.name == "runtime.NumGoroutine")
    | none => false)
  | none => false

def xCall (P : Program) (f : FuncId) (args : List Value) (w : World) (K : Value → World → Prop) : Prop :=
  match bodied P f with
  | true => Ret P f args w K
  | false => XRun P (do match ← callFunc f args.toArray with | .value v => pure v | _ => stuck "") w K

def placesOf (P : Program) : List Field → Option (List (Nat × Nat))
  | [] => some []
  | f :: r => (match szOf P f.type with
    | some n => (match placesOf P r with | some ps => some ((f.offset, n) :: ps) | none => none)
    | none => none)
def structPlaces (P : Program) (t : TypeId) : Option (List (Nat × Nat)) :=
  match P.underlying t with
  | some (.struct fs) => placesOf P fs.toList
  | _ => none
def partsOf (places : List (Nat × Nat)) (l : List Value) : List (Nat × Operand) → Option (List (Nat × Nat × Value))
  | [] => some []
  | (i, x) :: r => (match places[i]? with
    | some (o, n) => (match partsOf places l r with | some ps => some ((o, n, ev l x) :: ps) | none => none)
    | none => none)
def eltsOf (size : Nat) (l : List Value) : List (Nat × Operand) → List (Nat × Nat × Value)
  | [] => []
  | (i, x) :: r => (i * size, size, ev l x) :: eltsOf size l r
def repL (z : List Value) : Nat → List Value
  | 0 => []
  | n + 1 => z ++ repL z n

def vcBinInt (op : BinOp) (a b : Value) (K : Value → Prop) : Prop :=
  match op with
  | .add => xAdd a b K | .sub => xSub a b K | .mul => xMul a b K | .quo => xQuo a b K | .rem => xRem a b K
  | .and => xAnd a b K | .or => xOr a b K | .xor => xXor a b K | .shl => xShl a b K | .shr => xShr a b K
  | .eql => xEq a b K | .neq => xNe a b K | .lss => xLt a b K | .leq => xLe a b K | .gtr => xGt a b K | .geq => xGe a b K
  | _ => False
def vcBinStr (op : BinOp) (a b : Value) (K : Value → Prop) : Prop :=
  match op with
  | .add => xSCat a b K | .eql => xSEq a b K | .neq => xSNe a b K
  | _ => False
def vcBinBool (op : BinOp) (a b : Value) (K : Value → Prop) : Prop :=
  match op with
  | .eql => xBEq a b K | .neq => xBNe a b K
  | _ => False
def vcBinPtr (P : Program) (op : BinOp) (a b : Value) (w : World) (K : Value → Prop) : Prop :=
  match op with
  | .eql => xPEq P w a b K | .neq => xPNe P w a b K
  | _ => False
def vcBinSlice (op : BinOp) (a b : Value) (K : Value → Prop) : Prop :=
  match op with
  | .eql => xLEq a b K | .neq => xLNe a b K
  | _ => False
def vcBinStruct (P : Program) (op : BinOp) (t : TypeId) (x y : Operand) (a b : Value) (w : World) (K : Value → Prop) : Prop :=
  match op with
  | .eql => XEqv P .eql t x y a b w fun r => K (.bool r)
  | .neq => XEqv P .neq t x y a b w fun r => K (.bool !r)
  | _ => False

def vcBinIfc (P : Program) (op : BinOp) (t : TypeId) (x y : Operand) (a b : Value) (w : World) (K : Value → Prop) : Prop :=
  match op with
  | .eql => xIfc P .eql t x y a b w fun r => K (.bool r)
  | .neq => xIfc P .neq t x y a b w fun r => K (.bool !r)
  | _ => False
def vcBin (P : Program) (op : BinOp) (t : TypeId) (x y : Operand) (a b : Value) (w : World) (K : Value → Prop) : Prop :=
  match tk P t with
  | .int _ => vcBinInt op a b K
  | .str => vcBinStr op a b K
  | .bool => vcBinBool op a b K
  | .ptr e => (match szOf P e with | some (_ + 1) => vcBinPtr P op a b w K | _ => False)
  | .slice _ => vcBinSlice op a b K
  | .struct => vcBinStruct P op t x y a b w K
  | .other => vcBinIfc P op t x y a b w K
  | _ => False

def vcBuiltin (P : Program) (b : Builtin) (ts : Array TypeId) (ty : TypeId) (args : List Value) (w : World) (K : Value → World → Prop) : Prop :=
  match b, ts[0]?, args with
  | .len, some t, [x] => (match tk P t with
    | .slice _ => xLen x fun v => K v w
    | .str => xLenS x fun v => K v w
    | .arr n _ => K (.int .i64 n) w
    | _ => False)
  | .cap, some t, [x] => (match tk P t with | .slice _ => xCap x fun v => K v w | _ => False)
  | .min, _, [x, y] => xMin x y fun v => K v w
  | .max, _, [x, y] => xMax x y fun v => K v w
  | .append, _, [x, y] => XRun P (Builtin.append_ ts ty #[x, y]) w K
  | .copy, _, [x, y] => XRun P (Builtin.copy_ ts ty #[x, y]) w K
  | .unsafeSliceData, _, [x] => XRun P (Builtin.unsafeSliceData_ ts ty #[x]) w K
  | .unsafeString, _, [x, y] => XRun P (Builtin.unsafeString_ ts ty #[x, y]) w K
  | _, _, _ => False

def vcOp (P : Program) (l : List Value) (o : Op) (ty : TypeId) (w : World) (K : Value → World → Prop) : Prop :=
  match o with
  | .move x => K (ev l x) w
  | .assign x => K (ev l x) w
  | .pick c a b => xPick (ev l c) (ev l a) (ev l b) fun v => K v w
  | .alloc t => (match zcells P t with
    | some z => XNew w z t fun a w' => K (.pointer (some a)) w'
    | none => False)
  | .box t x => XNew w (cellsV (ev l x)) t fun a w' => K (.pointer (some a)) w'
  | .build t parts => (match tk P t, zcells P t with
    | .struct, some z => (match structPlaces P t with
      | some places => (match partsOf places l parts.toList with
        | some ps => xFill z ps fun cs => K (.agg cs.toArray) w
        | none => False)
      | none => False)
    | .arr _ e, some z => (match szOf P e with
      | some n => xFill z (eltsOf n l parts.toList) fun cs => K (.agg cs.toArray) w
      | none => False)
    | _, _ => False)
  | .buildSlice t n parts => (match tk P t with
    | .slice e => (match szOf P e, zcells P e with
      | some sz, some z => (match Nat.ble (n * sz) 65536, Nat.beq z.length sz with
        | true, true => xFill (repL z n) (eltsOf sz l parts.toList) fun cs => XNew w cs e fun a w' => K (.slice (some a) n n) w'
        | _, _ => False)
      | _, _ => False)
    | _ => False)
  | .load t x => (match known P t with
    | true => xAt (ev l x) fun a => (match aggT P t with
      | true => (match szOf P t with | some n => XLdN w a n fun v => K v w | none => False)
      | false => XLd w a fun v => K v w)
    | false => False)
  | .store t x y => xAt (ev l x) fun a => (match aggT P t, szOf P t with
    | false, some 1 => XSt w a (ev l y) fun w' => K undef w'
    | _, _ => XDo P (storeVar t a (ev l y)) w fun w' => K undef w')
  | .nilCheck x => xAt (ev l x) fun a => K (.pointer (some a)) w
  | .binOp op t x y _ => vcBin P op t x y (ev l x) (ev l y) w fun v => K v w
  | .unOp op _ x => (match op with
    | .not => xNot (ev l x) fun v => K v w
    | .neg => xNeg (ev l x) fun v => K v w
    | _ => False)
  | .convert s d x => (match tk P s, tk P d with
    | .int _, .int k => xConv k (ev l x) fun v => K v w
    | .str, .str => xStr (ev l x) fun v => K v w
    | _, _ => XRun P (convert s d (ev l x)) w K)
  | .makeFunc fn first captured => K (.func fn (first.map (ev l)) (captured.map (ev l))) w
  | .makeSlice t n c => XRun P (Instr.makeSlice t (ev l n) (ev l c)) w K
  | .slice t x lo hi mx => (match tk P t with
    | .slice e => (match szOf P e with
      | some n => xCutS n (ev l x) (lo.map (ev l)) (hi.map (ev l)) (mx.map (ev l)) fun v => K v w
      | none => False)
    | .arr k e => (match szOf P e with
      | some n => xCutA k n (ev l x) (lo.map (ev l)) (hi.map (ev l)) (mx.map (ev l)) fun v => K v w
      | none => False)
    | .str => (match mx with
      | none => xCutStr (ev l x) (lo.map (ev l)) (hi.map (ev l)) fun v => K v w
      | some _ => False)
    | _ => False)
  | .fieldAddr s x f => (match fieldOf P s f with
    | some (o, _ + 1, _) => xFld (ev l x) o fun v => K v w
    | _ => False)
  | .field s x f => (match fieldOf P s f with
    | some (o, n, t) => xPart (aggT P t) (ev l x) o n fun v => K v w
    | _ => False)
  | .indexAddr t x i => (match tk P t with
    | .slice e => (match szOf P e with
      | some n => xIxS (ev l x) (ev l i) n fun v => K v w
      | none => False)
    | .arr k e => (match szOf P e with
      | some n => xIxA (ev l x) (ev l i) k n fun v => K v w
      | none => False)
    | _ => False)
  | .index t x i => (match tk P t with
    | .str => xIxStr (ev l x) (ev l i) fun v => K v w
    | _ => XRun P (Instr.index t (ev l x) (ev l i)) w K)
  | .extract x i => xTup (ev l x) i fun v => K v w
  | .range t x => XRun P (Instr.range t (ev l x)) w K
  | .next x t => XRun P (Instr.next (ev l x) t ty) w K
  | .entry x => XRun P (Instr.entry (ev l x)) w K
  | .makeInterface t x => XRun P (Instr.makeInterface t (ev l x)) w K
  | .makeMap t r => XRun P (Instr.makeMap t (r.map (ev l))) w K
  | .lookup t x i ok => XRun P (Instr.lookup t (ev l x) (ev l i) ok) w K
  | .typeAssert x t a ok => XRun P (Instr.typeAssert (ev l x) t a ok) w K
  | .mapUpdate t m k x => XDo P (Instr.mapUpdate t (ev l m) (ev l k) (ev l x)) w fun w' => K undef w'
  | .call c => (match c.callee with
    | .value (.func f) => xCall P f (c.args.toList.map (ev l)) w K
    | .value x => xFunc (ev l x) (c.args.toList.map (ev l)) fun f args => xCall P f args w K
    | .builtin b => vcBuiltin P b c.argTypes ty (c.args.toList.map (ev l)) w K
    | _ => False)
  | _ => False

/-- the slot that a guard looks at -/
def guardSlot (all : List Oper) (j : Nat) : Option Tmp :=
  match all[j]? with
  | some o => o.dst
  | none => none

def isBool (v : Value) : Bool := match v with | .bool _ => true | _ => false
/-- an operation that its own guard let out -/
def skipped (all : List Oper) (l : List Value) (j : Nat) : Bool :=
  match all[j]? with
  | some o => (match o.guard with
    | some (i, want) => (match guardSlot all i with
      | some d => (match l.getD d undef with | .bool t => (match t, want with | true, true => false | false, false => false | _, _ => true) | _ => true)
      | none => false)
    | none => false)
  | none => false
def vcG (P : Program) (all : List Oper) (o : Oper) (l : List Value) (w : World) (K : List Value → World → Prop) : Prop :=
  match o.guard with
  | none => vcOp P l o.op o.type w fun v w' => K (put l o.dst v) w'
  | some (j, want) =>
    match guardSlot all j with
    | none => False
    | some d =>
      match skipped all l j with
      | true => (match isBool (l.getD d undef) with | true => False | false => K (put l o.dst undef) w)
      | false => xIf (l.getD d undef)
        (match want with
          | true => vcOp P (l.set d (.bool true)) o.op o.type w fun v w' => K (put (l.set d (.bool true)) o.dst v) w'
          | false => K (put (l.set d (.bool true)) o.dst undef) w)
        (match want with
          | false => vcOp P (l.set d (.bool false)) o.op o.type w fun v w' => K (put (l.set d (.bool false)) o.dst v) w'
          | true => K (put (l.set d (.bool false)) o.dst undef) w)

def vcOps (P : Program) (all : List Oper) (K : List Value → World → Prop) : List Oper → List Value → World → Prop
  | [], l, w => K l w
  | o :: r, l, w => vcG P all o l w (vcOps P all K r)

/-! a region that draws its order -/

def edgesOf (o : Oper) : List Nat := o.after.toList.filterMap fun e => match Region.binds .any e with | true => some e.on | false => none
def mem (i : Nat) : List Nat → Bool
  | [] => false
  | j :: r => (match Nat.beq i j with | true => true | false => mem i r)
def subs (l s : List Nat) : Bool :=
  match l with
  | [] => true
  | j :: r => (match mem j s with | true => subs r s | false => false)
/-- an operation that only reckons, or reads -/
def quiet (P : Program) (o : Op) : Bool :=
  match o with
  | .move _ | .pick .. | .load .. | .nilCheck _ | .field .. | .indexAddr .. | .slice .. | .fieldAddr .. | .extract .. | .makeFunc .. | .unOp .. => true
  | .build .. => true
  | .binOp _ t _ _ _ => (match tk P t with | .int _ | .str | .bool | .slice _ => true | _ => false)
  | .index t _ _ => (match tk P t with | .str => true | _ => false)
  | .convert s d _ => (match tk P s, tk P d with | .int _, .int _ => true | .str, .str => true | _, _ => false)
  | .call c => (match c.callee with | .builtin .len | .builtin .cap | .builtin .min | .builtin .max => true | _ => false)
  | _ => false
/-- each operation's ancestors -/
def addM (i : Nat) (l : List Nat) : List Nat := match mem i l with | true => l | false => i :: l
def uniM : List Nat → List Nat → List Nat
  | [], s => s
  | j :: r, s => uniM r (addM j s)
def ancOf (acc : List (List Nat)) : List Nat → List Nat → List Nat
  | [], s => s
  | j :: r, s => ancOf acc r (uniM (acc.getD j []) (addM j s))
def ancL : List Oper → List (List Nat) → List (List Nat)
  | [], acc => acc
  | o :: r, acc => ancL r (acc ++ [ancOf acc (edgesOf o) []])
def ancs (ops : List Oper) : List (List Nat) := ancL ops []

/-- what has been read is there still: of those that may be read later -/
def xKeep1 (w : World) (x v : Value) : Prop := xAt x fun a => w.cell? a = some v
def xKeepN (w : World) (x v : Value) : Prop := xAt x fun a => (match v with | .agg vs => ∀ i, i < vs.size → w.cell? (a.add i) = vs[i]? | _ => False)
def xKeep (P : Program) (w : World) (t : TypeId) (x v : Value) : Prop :=
  match aggT P t with
  | true => xKeepN w x v
  | false => xKeep1 w x v
def anyAnc (anc : List (List Nat)) (i : Nat) : List Nat → Bool
  | [] => false
  | h :: r => (match mem i (anc.getD h []) with | true => true | false => anyAnc anc i r)
def keeps (P : Program) (all : List Oper) (anc : List (List Nat)) (hard : List Nat) (l : List Value) (w : World) (X : Prop) : List (Oper × Nat) → Prop
  | [] => X
  | (o, i) :: r =>
    match o.op with
    | .load t x => (match anyAnc anc i hard with
      | true => keeps P all anc hard l w X r
      | false => (match o.dst with
        | some d => (match o.guard with
          | none => xKeep P w t (ev l x) (l.getD d undef) ∧ keeps P all anc hard l w X r
          | some (j, want) => (match guardSlot all j with
            | none => False
            | some gd => (match l.getD gd undef with
              | .bool b => (match b, want with
                | true, true => xKeep P w t (ev l x) (l.getD d undef) ∧ keeps P all anc hard l w X r
                | false, false => xKeep P w t (ev l x) (l.getD d undef) ∧ keeps P all anc hard l w X r
                | _, _ => keeps P all anc hard l w X r)
              | _ => keeps P all anc hard l w X r)))
        | none => False))
    | _ => keeps P all anc hard l w X r

/-- all quiet ones that may be done are done, in the text's order -/
def vcEager (P : Program) (all : List Oper) (K : List Nat → List (Oper × Nat) → List Value → World → Prop) :
    List (Oper × Nat) → List Nat → List (Oper × Nat) → List Value → World → Prop
  | [], done, virt, l, w => K done virt l w
  | (o, i) :: r, done, virt, l, w =>
    match mem i done with
    | true => vcEager P all K r done virt l w
    | false => (match quiet P o.op, subs (edgesOf o) done with
      | true, true => vcG P all o l w fun l' w' => vcEager P all K r (i :: done) ((o, i) :: virt) l' w'
      | _, _ => vcEager P all K r done virt l w)

def hardReady (P : Program) (done : List Nat) : List (Oper × Nat) → List (Oper × Nat)
  | [] => []
  | (o, i) :: r =>
    match mem i done, quiet P o.op, subs (edgesOf o) done with
    | false, false, true => (o, i) :: hardReady P done r
    | _, _, _ => hardReady P done r

def allOf {α : Type} (F : α → Prop) : List α → Prop
  | [] => True
  | [x] => F x
  | x :: r => F x ∧ allOf F r

def numbered : Nat → List Oper → List (Oper × Nat)
  | _, [] => []
  | i, o :: r => (o, i) :: numbered (i + 1) r

def vcStep (P : Program) (all : List Oper) (anc : List (List Nat)) (K : List Value → World → Prop)
    (rec : List Nat → List Nat → List (Oper × Nat) → List Value → World → Prop) (hard done : List Nat) (virt : List (Oper × Nat)) (l : List Value) (w : World) : Prop :=
  match hardReady P done (numbered 0 all) with
  | [] => (match Nat.beq done.length all.length with | true => K l w | false => False)
  | hs => allOf (fun h => vcG P all h.1 l w fun l' w' =>
      keeps P all anc (h.2 :: hard) l' w' (rec (h.2 :: hard) (h.2 :: done) virt l' w') virt) hs
def vcDraw (P : Program) (all : List Oper) (anc : List (List Nat)) (K : List Value → World → Prop) : Nat → List Nat → List Nat → List (Oper × Nat) → List Value → World → Prop
  | 0, _, _, _, _, _ => False
  | fuel + 1, hard, done, virt, l, w => vcEager P all (vcStep P all anc K (vcDraw P all anc K fuel) hard) (numbered 0 all) done virt l w

/-- what the order's freedom asks of a region's text -/
def dstIs (o : Oper) (t : Tmp) : Bool := match o.dst with | some d => Nat.beq d t | none => false
def allB {α : Type} (f : α → Bool) : List α → Bool
  | [] => true
  | x :: r => (match f x with | true => allB f r | false => false)
def anyB {α : Type} (f : α → Bool) : List α → Bool
  | [] => false
  | x :: r => (match f x with | true => true | false => anyB f r)
def opTmps (o : Op) : List Tmp := o.operands.toList.filterMap fun | .tmp t => some t | _ => none
def looks (all : List Oper) (o : Oper) : List Tmp :=
  opTmps o.op ++ (match o.guard with
    | some (j, _) => (match guardSlot all j with | some d => [d] | none => [])
    | none => [])
def okPair (P : Program) (all : List Oper) (anc : List (List Nat)) (o : Oper) (i : Nat) (p : Oper) (j : Nat) : Bool :=
  match Nat.beq j i with
  | true => true
  | false =>
    (match o.dst with | some d => !dstIs p d | none => true) &&
    (match anyB (dstIs p) (looks all o) with
      | false => true
      | true => mem j (anc.getD i []) || (mem i (anc.getD j []) && !quiet P p.op))
def okOp (P : Program) (all : List Oper) (anc : List (List Nat)) (n : Nat) (ops : List (Oper × Nat)) (o : Oper) (i : Nat) : Bool :=
  allB (fun j => Nat.blt j i) (edgesOf o) &&
  (match o.dst with | some d => Nat.blt d n | none => true) &&
  (match quiet P o.op with | true => !anyB (dstIs o) (looks all o) | false => true) &&
  allB (fun k => mem k (edgesOf o) || anyB (fun j => mem k (anc.getD j [])) (edgesOf o)) (anc.getD i []) &&
  allB (fun p => okPair P all anc o i p.1 p.2) ops
def okDraw (P : Program) (all : List Oper) (n : Nat) : Bool :=
  allB (fun p => okOp P all (ancs all) n (numbered 0 all) p.1 p.2) (numbered 0 all)

/-! code -/

def tmpOf : Operand → List Tmp
  | .tmp t => [t]
  | _ => []
/-- what code reads and writes, in the text's order: (true: read), and whether it is a variable that is written -/
inductive RW where
  | rd (t : Tmp) | wr (t : Tmp) | as (t : Tmp)
def rwOp (o : Oper) (all : List Oper) : List RW :=
  (looks all o).map .rd ++ (match o.dst with
    | some d => (match o.op with | .assign _ => [.as d] | _ => [.wr d])
    | none => [])
def rwOf : Code → List RW
  | .region _ ops _ => ops.toList.flatMap fun o => rwOp o ops.toList
  | .seq a b => rwOf a ++ rwOf b
  | .cond c x y => (tmpOf c).map .rd ++ rwOf x ++ rwOf y
  | .block _ c => rwOf c
  | .loop c => rwOf c
  | .scope c => rwOf c
  | _ => []
def addN (i : Nat) (l : List Nat) : List Nat := match mem i l with | true => l | false => l ++ [i]
def wsOf : List RW → List Nat → List Nat
  | [], acc => acc
  | .rd _ :: r, acc => wsOf r acc
  | .wr t :: r, acc => wsOf r (addN t acc)
  | .as t :: r, acc => wsOf r (addN t acc)
/-- the slots of a loop that a round may find as another one left them -/
def lvOf (ws : List Nat) : List RW → List Nat → List Nat → List Nat
  | [], _, acc => acc
  | .rd t :: r, seen, acc => (match mem t ws, mem t seen with
    | true, false => lvOf ws r seen (addN t acc)
    | _, _ => lvOf ws r seen acc)
  | .wr t :: r, seen, acc => lvOf ws r (t :: seen) acc
  | .as t :: r, seen, acc => lvOf ws r (t :: seen) (addN t acc)
def loopW (c : Code) : List Nat := wsOf (rwOf c) []
def loopV (c : Code) : List Nat := lvOf (loopW c) (rwOf c) [] []
def placeOf (i : Nat) : List Nat → Nat → Option Nat
  | [], _ => none
  | j :: r, k => (match Nat.beq i j with | true => some k | false => placeOf i r (k + 1))
def ovl (ws lv : List Nat) (vs : List Value) (g : Nat → Value) : Nat → List Value → List Value
  | _, [] => []
  | i, v :: r => (match mem i ws with
    | true => (match placeOf i lv 0 with | some k => vs.getD k undef | none => g i)
    | false => v) :: ovl ws lv vs g (i + 1) r

/-! ways through code -/
mutual
def nways : Code → Nat
  | .skip => 1
  | .label _ => 1
  | .region _ ops _ => (match anyB (fun o => match o.guard with | some _ => true | none => false) ops.toList with | true => 2 | false => 1)
  | .seq a b => (match nways a with | 0 => 0 | _ + 1 => nways b)
  | .cond _ x y => nways x + nways y
  | .block id c => nways c + xways id c
  | .scope c => nways c
  | _ => 0
def xways (id : Nat) : Code → Nat
  | .exit i => (match Nat.beq i id with | true => 1 | false => 0)
  | .seq a b => xways id a + (match nways a with | 0 => 0 | _ + 1 => xways id b)
  | .cond _ x y => xways id x + xways id y
  | .block _ c => xways id c
  | .loop c => xways id c
  | .scope c => xways id c
  | _ => 0
end
def asOf : List RW → List Nat → List Nat
  | [], acc => acc
  | .as t :: r, acc => asOf r (t :: acc)
  | _ :: r, acc => asOf r acc
def rdOf : List RW → List Nat → List Nat
  | [], acc => acc
  | .rd t :: r, acc => rdOf r (t :: acc)
  | _ :: r, acc => rdOf r acc
def filterB (f : Nat → Bool) : List Nat → List Nat
  | [] => []
  | x :: r => (match f x with | true => x :: filterB f r | false => filterB f r)
/-- the slots that are handed on where ways meet -/
def joinV (a b : Code) : List Nat := filterB (fun i => mem i (asOf (rwOf a) []) || mem i (rdOf (rwOf b) [])) (loopW a)

def vc (P : Program) (n : Nat) : Code → (Exit → List Value → World → Prop) → List Value → World → Prop
  | .skip, Q, l, w => Q .normal l w
  | .region _ ops draw, Q, l, w => (match draw with
    | false => vcOps P ops.toList (fun l w => Q .normal l w) ops.toList l w
    | true => (match okDraw P ops.toList n with
      | true => vcDraw P ops.toList (ancs ops.toList) (fun l w => Q .normal l w) (ops.toList.length + 1) [] [] [] l w.drew
      | false => False))
  | .seq a b, Q, l, w => (match Nat.ble 2 (nways a) with
    | false => vc P n a (fun e l w => match e with | .normal => vc P n b Q l w | e => Q e l w) l w
    | true => XJ (fun J => vc P n a (fun e l' w' => match e with | .normal => J ((joinV a b).map fun i => l'.getD i undef) w' | e => Q e l' w') l w)
        fun vs g w' => vc P n b Q (ovl (loopW a) (joinV a b) vs g 0 l) w')
  | .cond c x y, Q, l, w => xIf (ev l c) (vc P n x Q l w) (vc P n y Q l w)
  | .block id c, Q, l, w => vc P n c (fun e l w => match e with
      | .exit i => (match Nat.beq i id with | true => Q .normal l w | false => Q (.exit i) l w)
      | e => Q e l w) l w
  | .loop c, Q, l, w => XLoop ((loopV c).map fun i => l.getD i undef) w fun I k vs g w' =>
      vc P n c (fun e l' w'' => match e with
        | .normal => XNext I k ((loopV c).map fun i => l'.getD i undef) w''
        | e => Q e l' w'') (ovl (loopW c) (loopV c) vs g 0 l) w'
  | .exit id, Q, l, w => Q (.exit id) l w
  | .scope c, Q, l, w => vc P n c (fun e l w => match e with | .goto _ => False | e => Q e l w) l w
  | .label _, Q, l, w => Q .normal l w
  | .ret, Q, l, w => Q .ret l w
  | _, _, _, _ => False

/-- a call's answer -/
def vcRes (P : Program) (l : List Value) (w : World) (K : Value → World → Prop) : List ResultVar → List Value → Prop
  | [], [v] => K v w
  | [], vs => K (.tuple vs.toArray) w
  | .tmp t :: r, vs => vcRes P l w K r (vs ++ [l.getD t undef])
  | .cell a t :: r, vs => (match known P t with
    | true => xAt (l.getD a undef) fun ad => (match aggT P t with
      | true => (match szOf P t with | some n => XLdN w ad n fun v => vcRes P l w K r (vs ++ [v]) | none => False)
      | false => XLd w ad fun v => vcRes P l w K r (vs ++ [v]))
    | false => False)

def bodyQ (P : Program) (res : List ResultVar) (K : Value → World → Prop) (e : Exit) (l : List Value) (w : World) : Prop :=
  match e with
  | .normal => vcRes P l w K res []
  | .ret => vcRes P l w K res []
  | _ => False

def vcF (P : Program) (fn : Func) (args : List Value) (w : World) (K : Value → World → Prop) : Prop :=
  match fn.body with
  | some c => vc P (args.length + (fn.ntmps - args.length)) c (bodyQ P fn.results.toList K) (args ++ List.replicate (fn.ntmps - args.length) undef) w
  | none => False

end Go.Proofs.YtbfnagdpanfphaaGreatDoor.X
end
section
namespace Go.Proofs.YtbfnagdpanfphaaGreatDoor.X
open Go
set_option linter.unusedSimpArgs false
set_option linter.unusedVariables false

/-- what an operation's run must come to -/
def Good (P : Program) (s : Sem Next) (w : World) (K : Value → World → Prop) : Prop :=
  match s.run P w with
  | .ok (.value v) w' => K v w'
  | .ok .skip w' => K undef w'
  | .ok (.enter f args) w' => Ret P f args.toList w' K
  | _ => False

theorem good_val {P : Program} {s : Sem Value} {w w' : World} {v : Value} {K : Value → World → Prop} (h : s.run P w = .ok v w') (hk : K v w') :
    Good P (do pure (Next.value (← s))) w K := by
  simp [Good, h, hk]

theorem good_unit {P : Program} {s : Sem Unit} {w w' : World} {K : Value → World → Prop} (h : s.run P w = .ok () w') (hk : K undef w') :
    Good P (do s; pure Next.skip) w K := by
  simp [Good, h, hk]

section
variable {P : Program} {w : World}
theorem tk_int {t : TypeId} {k : IntKind} (h : tk P t = .int k) : P.underlying t = some (.int k) := by
  unfold tk at h; split at h <;> simp_all
theorem tk_str {t : TypeId} (h : tk P t = .str) : P.underlying t = some .string := by
  unfold tk at h; split at h <;> simp_all
theorem tk_bool {t : TypeId} (h : tk P t = .bool) : P.underlying t = some .bool := by
  unfold tk at h; split at h <;> simp_all
theorem tk_ptr {t e : TypeId} (h : tk P t = .ptr e) : P.underlying t = some (.pointer e) := by
  unfold tk at h; split at h <;> simp_all
theorem tk_slice {t e : TypeId} (h : tk P t = .slice e) : P.underlying t = some (.slice e) := by
  unfold tk at h; split at h <;> simp_all
theorem tk_arr {t e : TypeId} {n : Nat} (h : tk P t = .arr n e) : P.underlying t = some (.array n e) := by
  unfold tk at h; split at h <;> simp_all
theorem tk_struct {t : TypeId} (h : tk P t = .struct) : ∃ fs, P.underlying t = some (.struct fs) := by
  unfold tk at h; split at h <;> simp_all
theorem und {t : TypeId} {d : TypeDesc} (h : P.underlying t = some d) : (underlying t).run P w = .ok d w := run_underlying h w
theorem sizeOf_run {t : TypeId} {n : Nat} (h : szOf P t = some n) : (sizeOf t).run P w = .ok n w := by
  unfold szOf at h
  cases hi : P.info? t with
  | none => simp [hi] at h
  | some i => simp [hi] at h; simp [sizeOf, typeInfo, hi, h]
theorem isAgg_run {t : TypeId} {d : TypeDesc} (h : P.underlying t = some d) : (isAgg t).run P w = .ok (aggT P t) w := by
  simp only [isAgg, Sem.run_bind, und h, Result.andThen_ok, aggT, tk, h]
  cases d <;> rfl
theorem zero_run {t : TypeId} {z : List Value} (h : zcells P t = some z) : ∃ v, (∀ w, (zeroValue t).run P w = .ok v w) ∧ cellsV v = z := by
  unfold zcells at h
  cases hi : P.info? t with
  | none => simp [hi] at h
  | some i =>
    simp only [hi] at h
    cases hz : i.zero with
    | none => simp [hz] at h
    | some v => simp only [hz, Option.some.injEq] at h; exact ⟨v, fun w => by simp [zeroValue, typeInfo, hi, hz], h⟩
theorem cellsV_eq (v : Value) : v.cells.toList = cellsV v := by cases v <;> simp [Value.cells, cellsV]
theorem cells_eq (v : Value) : v.cells = (cellsV v).toArray := by rw [← cellsV_eq]
theorem newVar_run (t : TypeId) (v : Value) : (newVar t v).run P w = .ok ⟨w.heap.size, 0, none⟩ (w.alloc (.cells (cellsV v).toArray t)) := by
  simp [newVar, newRow, cells_eq]
end

section
variable {P : Program} {w : World} {K : Value → World → Prop}

theorem eqIn_bool {t : TypeId} (hu : P.underlying t = some .bool) (d : Nat) (a b : Bool) : (Op.equalIn (d + 1) t (.bool a) (.bool b)).run P w = .ok (a == b) w := by
  simp only [Op.equalIn, Sem.run_bind, und hu, Result.andThen_ok, Sem.run_pure]
theorem eqIn_nilp {t e : TypeId} (hu : P.underlying t = some (.pointer e)) (d : Nat) (b : Option Addr) : (Op.equalIn (d + 1) t (.pointer none) (.pointer b)).run P w = .ok b.isNone w := by
  simp only [Op.equalIn, Sem.run_bind, und hu, Result.andThen_ok, Sem.run_pure]
theorem eqIn_pnil {t e : TypeId} (hu : P.underlying t = some (.pointer e)) (d : Nat) (a : Addr) : (Op.equalIn (d + 1) t (.pointer (some a)) (.pointer none)).run P w = .ok false w := by
  simp only [Op.equalIn, Sem.run_bind, und hu, Result.andThen_ok, Sem.run_pure]
theorem eqIn_pp {t e : TypeId} {n : Nat} (hu : P.underlying t = some (.pointer e)) (hs : szOf P e = some (n + 1)) (d : Nat) (a b : Addr) :
    (Op.equalIn (d + 1) t (.pointer (some a)) (.pointer (some b))).run P w = (sameAddr a b).run P w := by
  simp only [Op.equalIn, Sem.run_bind, und hu, Result.andThen_ok, sizeOf_run hs]
  simp
theorem eqIn_sn {t e : TypeId} (hu : P.underlying t = some (.slice e)) (d n m n' m' : Nat) (b : Option Addr) : (Op.equalIn (d + 1) t (.slice none n m) (.slice b n' m')).run P w = .ok b.isNone w := by
  simp only [Op.equalIn, Sem.run_bind, und hu, Result.andThen_ok, Sem.run_pure]
theorem eqIn_ns {t e : TypeId} (hu : P.underlying t = some (.slice e)) (d n m n' m' : Nat) (a : Addr) : (Op.equalIn (d + 1) t (.slice (some a) n m) (.slice none n' m')).run P w = .ok false w := by
  simp only [Op.equalIn, Sem.run_bind, und hu, Result.andThen_ok, Sem.run_pure]
theorem eqIn_struct {t : TypeId} {fs : Array Field} {a b : Value} {r : Bool} (hu : P.underlying t = some (.struct fs)) (d : Nat) (h : (Op.equalIn (d + 1) t a b).run P w = .ok r w) :
    ∃ xs ys, a = .agg xs ∧ b = .agg ys := by
  simp only [Op.equalIn, Sem.run_bind, und hu, Result.andThen_ok] at h
  split at h <;> simp_all
theorem equal_bool {t : TypeId} (hu : P.underlying t = some .bool) (a b : Bool) : (Op.equal t (.bool a) (.bool b)).run P w = .ok (a == b) w := eqIn_bool hu 9999 a b
theorem equal_nilp {t e : TypeId} (hu : P.underlying t = some (.pointer e)) (b : Option Addr) : (Op.equal t (.pointer none) (.pointer b)).run P w = .ok b.isNone w := eqIn_nilp hu 9999 b
theorem equal_pnil {t e : TypeId} (hu : P.underlying t = some (.pointer e)) (a : Addr) : (Op.equal t (.pointer (some a)) (.pointer none)).run P w = .ok false w := eqIn_pnil hu 9999 a
theorem equal_pp {t e : TypeId} {n : Nat} (hu : P.underlying t = some (.pointer e)) (hs : szOf P e = some (n + 1)) (a b : Addr) :
    (Op.equal t (.pointer (some a)) (.pointer (some b))).run P w = (sameAddr a b).run P w := eqIn_pp hu hs 9999 a b
theorem equal_sn {t e : TypeId} (hu : P.underlying t = some (.slice e)) (n m n' m' : Nat) (b : Option Addr) : (Op.equal t (.slice none n m) (.slice b n' m')).run P w = .ok b.isNone w := eqIn_sn hu 9999 n m n' m' b
theorem equal_ns {t e : TypeId} (hu : P.underlying t = some (.slice e)) (n m n' m' : Nat) (a : Addr) : (Op.equal t (.slice (some a) n m) (.slice none n' m')).run P w = .ok false w := eqIn_ns hu 9999 n m n' m' a
theorem equal_struct_agg {t : TypeId} {fs : Array Field} {a b : Value} {r : Bool} (hu : P.underlying t = some (.struct fs)) (h : (Op.equal t a b).run P w = .ok r w) :
    ∃ xs ys, a = .agg xs ∧ b = .agg ys := eqIn_struct hu 9999 h

/-- '==', '!=' on what is compared by its type -/
theorem eql_run {t : TypeId} {x y : Operand} {a b : Value} {r : Bool}
    (hb : binOp .eql t a b = (do let r ← Op.equal t a b; pure (.bool r)))
    (hg : (eqGuard .eql t x y a b).run P w = .ok () w) (he : (Op.equal t a b).run P w = .ok r w) :
    (do eqGuard .eql t x y a b; binOp .eql t a b).run P w = .ok (.bool r) w := by
  simp only [hb, Sem.run_bind, hg, he, Result.andThen_ok, Sem.run_pure]
theorem neq_run {t : TypeId} {x y : Operand} {a b : Value} {r : Bool}
    (hb : binOp .neq t a b = (do let r ← Op.equal t a b; pure (.bool !r)))
    (hg : (eqGuard .neq t x y a b).run P w = .ok () w) (he : (Op.equal t a b).run P w = .ok r w) :
    (do eqGuard .neq t x y a b; binOp .neq t a b).run P w = .ok (.bool !r) w := by
  simp only [hb, Sem.run_bind, hg, he, Result.andThen_ok, Sem.run_pure]

def BinPure (P : Program) (op : BinOp) (t : TypeId) (x y : Operand) (a b : Value) (w : World) (K : Value → World → Prop) : Prop :=
  ∃ v, (∀ w, (do eqGuard op t x y a b; binOp op t a b).run P w = .ok v w) ∧ K v w
def BinOk (P : Program) (op : BinOp) (t : TypeId) (x y : Operand) (a b : Value) (w : World) (K : Value → World → Prop) : Prop :=
  ∃ v, (do eqGuard op t x y a b; binOp op t a b).run P w = .ok v w ∧ K v w

theorem bin_int {op : BinOp} {t : TypeId} {x y : Operand} {a b : Value} {k : IntKind} (hk : tk P t = .int k) (h : vcBin P op t x y a b w fun v => K v w) :
    BinPure P op t x y a b w K := by
  simp only [vcBin, hk, vcBinInt, vcBinStr, vcBinBool, vcBinPtr, vcBinSlice, vcBinStruct] at h
  split at h <;> first
    | (simp only [xAdd, xSub, xMul, xQuo, xRem, xAnd, xOr, xXor, xEq, xNe, xLt, xLe, xGt, xGe, xInts] at h
       split at h <;> first
         | exact h.elim
         | (split at h <;> first
             | exact h.elim
             | (rename_i hs; simp [sameKind] at hs; subst hs
                first
                  | exact ⟨_, fun w => by simp [eqGuard, binOp, Op.intArith, Op.intBits, Op.intCmp], h.out⟩
                  | exact ⟨_, fun w => by simp [eqGuard, binOp, Op.intArith, Op.intBits, Op.intCmp], h⟩
                  | (split at h <;> first
                      | exact h.elim
                      | (rename_i hn; simp [isNought] at hn; exact ⟨_, fun w => by simp [eqGuard, binOp, Op.intDiv, hn], h.out⟩)))))
    | (simp only [xShl, xShr] at h
       split at h <;> first
         | exact h.elim
         | (split at h <;> first
             | exact h.elim
             | (rename_i hn; simp [isNeg] at hn; exact ⟨_, fun w => by simp [eqGuard, binOp, Op.shift, show ¬ _ < (0 : Int) from Int.not_lt.2 hn], h.out⟩)))
    | exact h.elim

theorem bin_str {op : BinOp} {t : TypeId} {x y : Operand} {a b : Value} (hk : tk P t = .str) (h : vcBin P op t x y a b w fun v => K v w) :
    BinPure P op t x y a b w K := by
  simp only [vcBin, hk, vcBinInt, vcBinStr, vcBinBool, vcBinPtr, vcBinSlice, vcBinStruct] at h
  split at h
  · simp only [xSCat, xStrs] at h
    split at h
    · rename_i s r
      obtain ⟨h1, h2⟩ := h.out
      refine ⟨_, fun w => ?_, h2⟩
      have h3 : ¬ ((s.size + r.size : Nat) : Int) > IntKind.i64.max := by rw [IntKind.max_i64]; exact Int.not_lt.2 h1
      simp only [eqGuard_add, binOp, Op.stringOp, Sem.run_bind, Sem.run_pure, Result.andThen_ok]
      rw [if_neg h3]; rfl
    · exact h.elim
  · simp only [xSEq, xStrs] at h
    split at h
    · exact ⟨_, fun w => by simp only [eqGuard_at_string, binOp, Op.stringOp, Sem.run_bind, Sem.run_pure, Result.andThen_ok], h⟩
    · exact h.elim
  · simp only [xSNe, xStrs] at h
    split at h
    · exact ⟨_, fun w => by simp only [eqGuard_at_string, binOp, Op.stringOp, Sem.run_bind, Sem.run_pure, Result.andThen_ok], h⟩
    · exact h.elim
  · exact h.elim

theorem bin_bool {op : BinOp} {t : TypeId} {x y : Operand} {a b : Value} (hk : tk P t = .bool) (h : vcBin P op t x y a b w fun v => K v w) :
    BinPure P op t x y a b w K := by
  simp only [vcBin, hk, vcBinInt, vcBinStr, vcBinBool, vcBinPtr, vcBinSlice, vcBinStruct] at h
  split at h
  · simp only [xBEq] at h
    split at h
    · exact ⟨_, fun w => eql_run rfl (by simp only [eqGuard_at_bool, Sem.run_pure]) (equal_bool (tk_bool hk) _ _), h⟩
    · exact h.elim
  · simp only [xBNe] at h
    split at h
    · exact ⟨_, fun w => neq_run rfl (by simp only [eqGuard_at_bool, Sem.run_pure]) (equal_bool (tk_bool hk) _ _), h⟩
    · exact h.elim
  · exact h.elim

theorem ptrs_run {t e : TypeId} {n : Nat} {a b : Value} {F : Bool → Prop} (hu : P.underlying t = some (.pointer e)) (hs : szOf P e = some (n + 1)) (h : xPtrs P w a b F) :
    ∃ r p, a = .pointer p ∧ (∃ q, b = .pointer q) ∧ (Op.equal t a b).run P w = .ok r w ∧ F r := by
  unfold xPtrs at h
  split at h
  · exact ⟨_, _, rfl, ⟨_, rfl⟩, equal_nilp hu _, h⟩
  · exact ⟨_, _, rfl, ⟨_, rfl⟩, equal_pnil hu _, h⟩
  · obtain ⟨r, hr, hf⟩ := h.out
    exact ⟨r, _, rfl, ⟨_, rfl⟩, by rw [equal_pp hu hs, hr], hf⟩
  · exact h.elim

theorem bin_ptr {op : BinOp} {t e : TypeId} {x y : Operand} {a b : Value} (hk : tk P t = .ptr e) (h : vcBin P op t x y a b w fun v => K v w) :
    BinOk P op t x y a b w K := by
  simp only [vcBin, hk, vcBinInt, vcBinStr, vcBinBool, vcBinPtr, vcBinSlice, vcBinStruct] at h
  split at h
  · rename_i n hn
    split at h
    · obtain ⟨r, p, rfl, ⟨q, rfl⟩, hr, hf⟩ := ptrs_run (tk_ptr hk) hn h
      exact ⟨_, eql_run (by cases p <;> cases q <;> rfl) (by simp only [eqGuard_at_pointer, Sem.run_pure]) hr, hf⟩
    · obtain ⟨r, p, rfl, ⟨q, rfl⟩, hr, hf⟩ := ptrs_run (tk_ptr hk) hn h
      exact ⟨_, neq_run (by cases p <;> cases q <;> rfl) (by simp only [eqGuard_at_pointer, Sem.run_pure]) hr, hf⟩
    · exact h.elim
  · exact h.elim

theorem nils_run {t e : TypeId} {a b : Value} {F : Bool → Prop} (hu : P.underlying t = some (.slice e)) (h : xNils a b F) :
    ∃ r p n m, a = .slice p n m ∧ (∃ q n m, b = .slice q n m) ∧ (∀ w, (Op.equal t a b).run P w = .ok r w) ∧ F r := by
  unfold xNils at h
  split at h
  · exact ⟨_, _, _, _, rfl, ⟨_, _, _, rfl⟩, fun w => equal_sn hu _ _ _ _ _, h⟩
  · exact ⟨_, _, _, _, rfl, ⟨_, _, _, rfl⟩, fun w => equal_ns hu _ _ _ _ _, h⟩
  · exact h.elim

theorem bin_slice {op : BinOp} {t e : TypeId} {x y : Operand} {a b : Value} (hk : tk P t = .slice e) (h : vcBin P op t x y a b w fun v => K v w) :
    BinPure P op t x y a b w K := by
  simp only [vcBin, hk, vcBinInt, vcBinStr, vcBinBool, vcBinPtr, vcBinSlice, vcBinStruct] at h
  split at h
  · obtain ⟨r, p, n, m, rfl, ⟨q, n', m', rfl⟩, hr, hf⟩ := nils_run (P := P) (tk_slice hk) h
    exact ⟨_, fun w => eql_run rfl (by simp only [eqGuard_at_slice, Sem.run_pure]) (hr w), hf⟩
  · obtain ⟨r, p, n, m, rfl, ⟨q, n', m', rfl⟩, hr, hf⟩ := nils_run (P := P) (tk_slice hk) h
    exact ⟨_, fun w => neq_run rfl (by simp only [eqGuard_at_slice, Sem.run_pure]) (hr w), hf⟩
  · exact h.elim

theorem bin_struct {op : BinOp} {t : TypeId} {x y : Operand} {a b : Value} (hk : tk P t = .struct) (h : vcBin P op t x y a b w fun v => K v w) :
    BinOk P op t x y a b w K := by
  obtain ⟨fs, hu⟩ := tk_struct hk
  simp only [vcBin, hk, vcBinInt, vcBinStr, vcBinBool, vcBinPtr, vcBinSlice, vcBinStruct] at h
  split at h
  · obtain ⟨r, hg, he, hf⟩ := h.out
    obtain ⟨xs, ys, rfl, rfl⟩ := equal_struct_agg hu he
    exact ⟨_, eql_run rfl hg he, hf⟩
  · obtain ⟨r, hg, he, hf⟩ := h.out
    obtain ⟨xs, ys, rfl, rfl⟩ := equal_struct_agg hu he
    exact ⟨_, neq_run rfl hg he, hf⟩
  · exact h.elim

theorem bin_ifc {op : BinOp} {t : TypeId} {x y : Operand} {a b : Value} (hk : tk P t = .other) (h : vcBin P op t x y a b w fun v => K v w) :
    BinOk P op t x y a b w K := by
  simp only [vcBin, hk, vcBinIfc] at h
  split at h
  · unfold xIfc at h
    split at h
    · obtain ⟨r, hg, he, hf⟩ := h.out
      exact ⟨_, eql_run (by cases b <;> rfl) hg he, hf⟩
    · exact h.elim
  · unfold xIfc at h
    split at h
    · obtain ⟨r, hg, he, hf⟩ := h.out
      exact ⟨_, neq_run (by cases b <;> rfl) hg he, hf⟩
    · exact h.elim
  · exact h.elim

theorem BinPure.ok {op : BinOp} {t : TypeId} {x y : Operand} {a b : Value} (h : BinPure P op t x y a b w K) : BinOk P op t x y a b w K :=
  let ⟨v, h1, h2⟩ := h; ⟨v, h1 w, h2⟩
theorem vcBin_good {op : BinOp} {t : TypeId} {x y : Operand} {a b : Value} (h : vcBin P op t x y a b w fun v => K v w) :
    BinOk P op t x y a b w K := by
  cases hk : tk P t with
  | int k => exact (bin_int hk h).ok
  | str => exact (bin_str hk h).ok
  | bool => exact (bin_bool hk h).ok
  | ptr e => exact bin_ptr hk h
  | slice e => exact (bin_slice hk h).ok
  | struct => exact bin_struct hk h
  | arr n e => simp [vcBin, hk] at h
  | func => simp [vcBin, hk] at h
  | other => exact bin_ifc hk h

/-! building -/
theorem setFrom_eq (vs : List Value) : ∀ (cells : Array Value) (off k : Nat),
    ((vs.zipIdx k).foldl (fun (cs : Array Value) (x : Value × Nat) => cs.setIfInBounds (off + x.2) x.1) cells).toList = setFrom cells.toList (off + k) vs := by
  induction vs with
  | nil => intro cells off k; simp [setFrom]
  | cons v r ih =>
    intro cells off k
    simp only [List.zipIdx_cons, List.foldl_cons, setFrom]
    rw [ih]
    simp [Nat.add_assoc]
theorem setFrom_arr (v : Value) (cells : Array Value) (off : Nat) :
    (v.cells.zipIdx.foldl (fun cs (c, j) => cs.setIfInBounds (off + j) c) cells).toList = setFrom cells.toList off (cellsV v) := by
  have h := setFrom_eq (cellsV v) cells off 0
  rw [← Array.foldl_toList, Array.toList_zipIdx, cellsV_eq]
  simpa using h
theorem fill_eq (place : Nat → Option (Nat × Nat)) : ∀ (parts : List (Nat × Value)) (ps : List (Nat × Nat × Value)) (cells : Array Value) (cs : List Value),
    (parts.map fun p => (place p.1).map fun q => (q.1, q.2, p.2)) = ps.map some → fillL cells.toList ps = some cs → Instr.fill place cells parts = some cs.toArray := by
  intro parts
  induction parts with
  | nil =>
    intro ps cells cs hp hf
    cases ps with
    | nil => simp [fillL] at hf; subst hf; simp [Instr.fill]
    | cons x r => simp at hp
  | cons p r ih =>
    intro ps cells cs hp hf
    cases ps with
    | nil => simp at hp
    | cons x ps =>
      obtain ⟨o, n, v⟩ := x
      obtain ⟨i, u⟩ := p
      simp only [List.map_cons, List.cons.injEq] at hp
      obtain ⟨h1, h2⟩ := hp
      cases hq : place i with
      | none => simp [hq] at h1
      | some q =>
        obtain ⟨o', n'⟩ := q
        simp [hq] at h1
        obtain ⟨rfl, rfl, rfl⟩ := h1
        simp only [fillL] at hf
        split at hf
        · rename_i hb
          split at hf
          · rename_i hc
            have hb' := Nat.eq_of_beq_eq_true hb
            have hc' := Nat.le_of_ble_eq_true hc
            have hsz : u.cells.size = (cellsV u).length := by rw [← cellsV_eq]; simp
            simp only [Instr.fill, hq]
            rw [if_neg (by simp [hsz, hb']; simp at hc'; omega)]
            exact ih ps _ cs h2 (by rw [setFrom_arr]; exact hf)
          · cases hf
        · cases hf

theorem mapM_places (fs : List Field) : ∀ (ps : List (Nat × Nat)), placesOf P fs = some ps →
    (fs.mapM (m := Sem) fun f => do pure (f.offset, ← sizeOf f.type)).run P w = .ok ps w := by
  induction fs with
  | nil => intro ps h; simp [placesOf] at h; subst h; simp
  | cons f r ih =>
    intro ps h
    simp only [placesOf] at h
    split at h
    · rename_i n hn
      split at h
      · rename_i qs hq
        cases h
        simp only [List.mapM_cons, Sem.run_bind, sizeOf_run hn, ih _ hq, Result.andThen_ok, Sem.run_pure]
      · cases h
    · cases h
theorem partsOf_map {places : List (Nat × Nat)} {l : List Value} : ∀ (r : List (Nat × Operand)) (ps : List (Nat × Nat × Value)), partsOf places l r = some ps →
    ((r.map fun p => (p.1, ev l p.2)).map fun p => (places.toArray[p.1]?).map fun q => (q.1, q.2, p.2)) = ps.map some := by
  intro r
  induction r with
  | nil => intro ps h; simp [partsOf] at h; subst h; rfl
  | cons p r ih =>
    intro ps h
    obtain ⟨i, x⟩ := p
    simp only [partsOf] at h
    split at h
    · rename_i o n hq
      split at h
      · rename_i qs hr
        cases h
        have := ih _ hr
        simp only [List.map_cons, List.cons.injEq]
        exact ⟨by simp [hq], this⟩
      · cases h
    · cases h
theorem eltsOf_map (size : Nat) (l : List Value) : ∀ (r : List (Nat × Operand)),
    ((r.map fun p => (p.1, ev l p.2)).map fun p => (some (p.1 * size, size)).map fun q => (q.1, q.2, p.2)) = (eltsOf size l r).map some := by
  intro r
  induction r with
  | nil => rfl
  | cons p r ih => obtain ⟨i, x⟩ := p; simp only [eltsOf, List.map_cons, List.cons.injEq]; exact ⟨rfl, ih⟩

theorem build_run {t : TypeId} {l : List Value} {parts : Array (Nat × Operand)} {ty : TypeId}
    (h : vcOp P l (.build t parts) ty w K) : ∃ v, (∀ w, (Instr.build t (parts.map fun (i, x) => (i, ev l x))).run P w = .ok v w) ∧ K v w := by
  simp only [vcOp] at h
  split at h
  · rename_i z hk hz
    obtain ⟨fs, hu⟩ := tk_struct hk
    obtain ⟨zv, hzr, hzc⟩ := zero_run hz
    split at h
    · rename_i places hpl
      split at h
      · rename_i ps hps
        simp only [structPlaces, hu] at hpl
        unfold xFill at h
        split at h
        · rename_i cs hcs
          have hf := fill_eq (fun i => places.toArray[i]?) (parts.toList.map fun p => (p.1, ev l p.2)) ps zv.cells cs (partsOf_map _ _ hps) (by rw [cellsV_eq, hzc]; exact hcs)
          refine ⟨_, fun w => ?_, h⟩
          have hm : (fs.mapM (m := Sem) fun f => do pure (f.offset, ← sizeOf f.type)).run P w = .ok places.toArray w := by
            have := mapM_places (w := w) fs.toList _ hpl
            rw [Array.mapM_eq_mapM_toList, Sem.run_map, this]; rfl
          simp only [Instr.build, Sem.run_bind, hzr, Result.andThen_ok, und hu, hm]
          have e : (parts.map fun (x : Nat × Operand) => (x.1, ev l x.2)).toList = parts.toList.map fun p => (p.1, ev l p.2) := by simp
          rw [e, hf]
          simp
        · exact h.elim
      · exact h.elim
    · exact h.elim
  · rename_i n e z hk hz
    have hu := tk_arr hk
    obtain ⟨zv, hzr, hzc⟩ := zero_run hz
    split at h
    · rename_i sz hsz
      unfold xFill at h
      split at h
      · rename_i cs hcs
        have hf := fill_eq (fun i => some (i * sz, sz)) (parts.toList.map fun p => (p.1, ev l p.2)) _ zv.cells cs (eltsOf_map sz l _) (by rw [cellsV_eq, hzc]; exact hcs)
        refine ⟨_, fun w => ?_, h⟩
        simp only [Instr.build, Sem.run_bind, hzr, Result.andThen_ok, und hu, sizeOf_run hsz]
        have e : (parts.map fun (x : Nat × Operand) => (x.1, ev l x.2)).toList = parts.toList.map fun p => (p.1, ev l p.2) := by simp
        rw [e, hf]
        simp
      · exact h.elim
    · exact h.elim
  · exact h.elim

theorem repL_get (z : List Value) : ∀ n i, i < n * z.length → (repL z n)[i]? = z[i % z.length]? := by
  intro n
  induction n with
  | zero => intro i hi; simp at hi
  | succ n ih =>
    intro i hi
    simp only [repL]
    by_cases hlt : i < z.length
    · rw [List.getElem?_append_left hlt, Nat.mod_eq_of_lt hlt]
    · rw [List.getElem?_append_right (by omega), ih (i - z.length) (by rw [Nat.succ_mul] at hi; omega)]
      congr 1
      conv => rhs; rw [show i = (i - z.length) + z.length by omega]
      rw [Nat.add_mod_right]
theorem repL_length (z : List Value) : ∀ n, (repL z n).length = n * z.length := by
  intro n
  induction n with
  | zero => simp [repL]
  | succ n ih => simp [repL, ih, Nat.succ_mul]; omega
theorem rep_eq (z : Array Value) (n sz : Nat) (hz : z.size = sz) : (Array.range (n * sz)).map (fun i => z[i % z.size]!) = (repL z.toList n).toArray := by
  apply Array.ext_getElem?
  intro i
  by_cases hi : i < n * sz
  · have hpos : 0 < z.size := by
      rcases Nat.eq_zero_or_pos sz with h0 | h0
      · simp [h0] at hi
      · omega
    have hm := Nat.mod_lt i hpos
    have h1 := repL_get z.toList n i (by simpa [hz] using hi)
    simp only [List.getElem?_toArray, h1]
    simp [hi, hm]
  · have h2 := repL_length z.toList n
    rw [Array.getElem?_eq_none (by simp; omega), List.getElem?_toArray, List.getElem?_eq_none (by rw [h2]; simp [hz]; omega)]

theorem buildSlice_run {t : TypeId} {n : Nat} {l : List Value} {parts : Array (Nat × Operand)} {ty : TypeId}
    (h : vcOp P l (.buildSlice t n parts) ty w K) : ∃ v w', (Instr.buildSlice t n (parts.map fun (i, x) => (i, ev l x))).run P w = .ok v w' ∧ K v w' := by
  simp only [vcOp] at h
  split at h
  · rename_i e hk
    have hu := tk_slice hk
    split at h
    · rename_i sz z hsz hz
      obtain ⟨zv, hzr, hzc⟩ := zero_run hz
      split at h
      · rename_i hle hlen
        unfold xFill at h
        split at h
        · rename_i cs hcs
          have hle' := Nat.le_of_ble_eq_true hle
          have hlen' := Nat.eq_of_beq_eq_true hlen
          have hzl : zv.cells.toList = z := by rw [cellsV_eq, hzc]
          have hzs : zv.cells.size = sz := by rw [← Array.length_toList, hzl, hlen']
          have e : (parts.map fun (x : Nat × Operand) => (x.1, ev l x.2)).toList = parts.toList.map fun p => (p.1, ev l p.2) := by simp
          refine ⟨_, _, ?_, h.out⟩
          by_cases h0 : n * sz = 0
          · have hrz : repL z n = [] := List.eq_nil_of_length_eq_zero (by rw [repL_length, hlen', h0])
            have hf := fill_eq (fun i => some (i * sz, sz)) (parts.toList.map fun p => (p.1, ev l p.2)) _ #[] cs (eltsOf_map sz l _) (by rw [hrz] at hcs; exact hcs)
            simp only [Instr.buildSlice, Sem.run_bind, und hu, sizeOf_run hsz, Result.andThen_ok, h0]
            rw [e]
            simp [Array.range_zero', hf, newRow]
          · have hf := fill_eq (fun i => some (i * sz, sz)) (parts.toList.map fun p => (p.1, ev l p.2)) _ (repL z n).toArray cs (eltsOf_map sz l _) (by simpa using hcs)
            have hr := rep_eq zv.cells n sz hzs
            rw [hzl] at hr
            simp only [Instr.buildSlice, Sem.run_bind, und hu, sizeOf_run hsz, Result.andThen_ok]
            rw [if_neg (by omega), if_neg h0]
            simp only [Sem.run_bind, hzr, Result.andThen_ok, Sem.run_pure]
            rw [hr, e, hf]
            simp [newRow]
        · exact h.elim
      · exact h.elim
    · exact h.elim
  · exact h.elim

/-! memory -/
theorem loadN_run (a : Addr) (vs : Array Value) (h : ∀ i, i < vs.size → w.cell? (a.add i) = vs[i]?) : (loadCells a vs.size).run P w = .ok vs w := by
  have := run_loadCells_list (P := P) (w := w) a vs.toList (fun j v hj => by
    have hlt : j < vs.size := by
      rcases Nat.lt_or_ge j vs.size with h | h
      · exact h
      · rw [Array.getElem?_toList, Array.getElem?_eq_none h] at hj; cases hj
    rw [h j hlt, ← Array.getElem?_toList]; exact hj)
  simpa using this
theorem sure_run (a : Addr) : (Instr.sureAddr (.pointer (some a))).run P w = .ok a w := rfl
theorem load1_run {a : Addr} {v : Value} (h : w.cell? a = some v) : (load a).run P w = .ok v w := by simp [h]
theorem aggT_some {t : TypeId} (h : aggT P t = true) : ∃ d, P.underlying t = some d := by
  unfold aggT tk at h
  cases hd : P.underlying t with
  | none => simp [hd] at h
  | some d => exact ⟨d, rfl⟩

theorem known_agg {t : TypeId} (h : known P t = true) : (isAgg t).run P w = .ok (aggT P t) w := by
  unfold known at h
  cases hd : P.underlying t with
  | none => simp [hd] at h
  | some d => exact isAgg_run hd
end
end Go.Proofs.YtbfnagdpanfphaaGreatDoor.X
end
section
namespace Go.Proofs.YtbfnagdpanfphaaGreatDoor.X
open Go
set_option linter.unusedSimpArgs false
set_option linter.unusedVariables false
section
variable {P : Program} {w : World} {K : Value → World → Prop} {l : List Value}

theorem at_elim {v : Value} {F : Addr → Prop} (h : xAt v F) : ∃ a, v = .pointer (some a) ∧ F a := by
  unfold xAt at h
  split at h
  · exact ⟨_, rfl, h⟩
  · exact h.elim

theorem fieldOf_some {s f o n : Nat} {t : TypeId} (h : fieldOf P s f = some (o, n, t)) :
    ∃ fs x, P.underlying s = some (.struct fs) ∧ fs[f]? = some x ∧ x.offset = o ∧ x.type = t ∧ szOf P t = some n ∧ known P t = true := by
  unfold fieldOf at h
  split at h
  · rename_i fs hu
    split at h
    · rename_i x hx
      split at h
      · rename_i hk
        split at h
        · rename_i m hm
          cases h
          exact ⟨fs, x, hu, hx, rfl, rfl, hm, hk⟩
        · cases h
      · cases h
    · cases h
  · cases h

theorem load_run {t : TypeId} {x : Operand} {ty : TypeId} (h : vcOp P l (.load t x) ty w K) : ∃ v, (Instr.loadAt t (ev l x)).run P w = .ok v w ∧ K v w := by
  simp only [vcOp] at h
  split at h
  · rename_i hk
    obtain ⟨a, ha, h⟩ := at_elim h
    rw [ha]
    have hag := known_agg (w := w) hk
    split at h
    · rename_i hagg
      split at h
      · rename_i n hn
        obtain ⟨vs, hs, hc, hK⟩ := h.out
        subst hs
        exact ⟨_, by simp [Instr.loadAt, sure_run, loadVar, hag, hagg, sizeOf_run hn, loadN_run a vs hc], hK⟩
      · exact h.elim
    · rename_i hagg
      obtain ⟨v, hv, hK⟩ := h.out
      exact ⟨v, by simp [Instr.loadAt, sure_run, loadVar, hag, hagg, hv], hK⟩
  · exact h.elim

theorem add_zero_addr (a : Addr) : a.add 0 = a := by simp [Addr.add]
theorem store_run {t : TypeId} {x y : Operand} {ty : TypeId} (h : vcOp P l (.store t x y) ty w K) : ∃ w', (Instr.storeAt t (ev l x) (ev l y)).run P w = .ok () w' ∧ K undef w' := by
  simp only [vcOp] at h
  obtain ⟨a, ha, h⟩ := at_elim h
  rw [ha]
  split at h
  · rename_i hagg hsz
    obtain ⟨⟨o, ho⟩, hf, h1, hK⟩ := h.out
    refine ⟨_, ?_, hK⟩
    have hc : cellsV (ev l y) = [ev l y] := by
      generalize ev l y = v at h1
      cases v <;> first | rfl | simp [Value.oneCell'] at h1
    have hs := run_store P w a (ev l y) .plain h1
    simp only [stored, ho, hf] at hs
    simp only [Instr.storeAt, Sem.run_bind, sure_run, Result.andThen_ok, storeVar, sizeOf_run hsz, cells_eq, hc]
    simp only [List.size_toArray, List.length_cons, List.length_nil, ne_eq, not_true_eq_false, if_false, storeCells, Sem.run_bind, add_zero_addr]
    rw [hs]
    simp
  · obtain ⟨w', hr, hK⟩ := h.out
    exact ⟨w', by simp [Instr.storeAt, sure_run, hr], hK⟩

theorem fieldAddr_run {s : TypeId} {x : Operand} {f : Nat} {ty : TypeId} (h : vcOp P l (.fieldAddr s x f) ty w K) : ∃ v, (∀ w, (Instr.fieldAt s (ev l x) f).run P w = .ok v w) ∧ K v w := by
  simp only [vcOp] at h
  split at h
  · rename_i o n t hf
    obtain ⟨fs, y, hu, hy, rfl, rfl, hn, _⟩ := fieldOf_some hf
    obtain ⟨a, ha, h⟩ := at_elim h
    rw [ha]
    exact ⟨_, fun w => by simp [Instr.fieldAt, und hu, hy, sure_run, fieldPlace, sizeOf_run hn], h⟩
  · exact h.elim

theorem part_run {t : TypeId} {x : Value} {o n : Nat} {F : Value → Prop} (hk : known P t = true) (hn : szOf P t = some n) (h : xPart (aggT P t) x o n F) :
    ∃ cs v, x = .agg cs ∧ (∀ w, (part t cs o).run P w = .ok v w) ∧ F v := by
  unfold xPart at h
  have hag := fun w => known_agg (w := w) hk
  split at h
  · rename_i cs
    split at h
    · rename_i ha
      exact ⟨_, _, rfl, fun w => by simp [part, hag, ha, sizeOf_run hn], h⟩
    · rename_i ha
      split at h
      · rename_i v hv
        exact ⟨_, _, rfl, fun w => by simp [part, hag, ha, hv], h⟩
      · exact h.elim
  · exact h.elim
theorem field_run {s : TypeId} {x : Operand} {f : Nat} {ty : TypeId} (h : vcOp P l (.field s x f) ty w K) : ∃ v, (∀ w, (Instr.field s (ev l x) f).run P w = .ok v w) ∧ K v w := by
  simp only [vcOp] at h
  split at h
  · rename_i o n t hf
    obtain ⟨fs, y, hu, hy, rfl, rfl, hn, hk⟩ := fieldOf_some hf
    obtain ⟨cs, v, hx, hr, hK⟩ := part_run hk hn h
    exact ⟨v, fun w => by simp [Instr.field, und hu, hy, hx, asAgg, hr], hK⟩
  · exact h.elim

theorem indexAddr_run {t : TypeId} {x i : Operand} {ty : TypeId} (h : vcOp P l (.indexAddr t x i) ty w K) : ∃ v, (∀ w, (Instr.indexAt t (ev l x) (ev l i)).run P w = .ok v w) ∧ K v w := by
  simp only [vcOp] at h
  split at h
  · rename_i e hk
    have hu := tk_slice hk
    split at h
    · rename_i n hn
      unfold xIxS at h
      split at h
      · rename_i a len cap k j hx hi
        obtain ⟨m, rfl, hm, hK⟩ := h.out
        rw [hx, hi]
        refine ⟨_, fun w => ?_, hK⟩
        have h0 : (0 : Int) ≤ (m : Int) ∧ (m : Int) < (len : Int) := ⟨by omega, by omega⟩
        simp [Instr.indexAt, asIntOf, und hu, sizeOf_run hn, h0]
        intro hh; omega
      · exact h.elim
    · exact h.elim
  · rename_i c e hk
    have hu := tk_arr hk
    split at h
    · rename_i n hn
      unfold xIxA at h
      split at h
      · rename_i a k j hx hi
        obtain ⟨m, rfl, hm, hK⟩ := h.out
        rw [hx, hi]
        refine ⟨_, fun w => ?_, hK⟩
        have h0 : (0 : Int) ≤ (m : Int) ∧ (m : Int) < (c : Int) := ⟨by omega, by omega⟩
        simp [Instr.indexAt, asIntOf, und hu, sure_run, sizeOf_run hn, h0]
        intro hh; omega
      · exact h.elim
    · exact h.elim
  · exact h.elim

theorem index_run {t : TypeId} {x i : Operand} {ty : TypeId} (h : vcOp P l (.index t x i) ty w K) : ∃ v w', (Instr.index t (ev l x) (ev l i)).run P w = .ok v w' ∧ K v w' := by
  simp only [vcOp] at h
  split at h
  · rename_i hk
    have hu := tk_str hk
    unfold xIxStr at h
    split at h
    · rename_i s k j hx hi
      obtain ⟨m, b, rfl, hb, hK⟩ := h.out
      rw [hx, hi]
      refine ⟨_, _, ?_, hK⟩
      simp [Instr.index, asIntOf, und hu, hb]
    · exact h.elim
  · exact h.out

theorem bound_run {v : Value} {i : Int} {k : IntKind} {n y : Nat} {code : BoundsCode} (hv : v = .int k i) (hi : i = (n : Int)) (hn : n ≤ y) : (Instr.sliceBound v y code).run P w = .ok n w := by
  subst hv; subst hi
  have h0 : (0 : Int) ≤ (n : Int) ∧ (n : Int) ≤ (y : Int) := ⟨by omega, by omega⟩
  simp [Instr.sliceBound, asIntOf, h0]
theorem cut_run {b : Bool} {len cap : Nat} {lo hi mx : Option Value} {F : Nat → Nat → Nat → Prop} (h : XCut len cap lo hi mx F) :
    ∃ l h m, (∀ w, (Instr.sliceBounds b len cap lo hi mx).run P w = .ok (l, h, m) w) ∧ F l h m := by
  obtain ⟨l, h, m, h1, h2, h3, h4⟩ := h.out
  refine ⟨l, h, m, fun w => ?_, h4⟩
  unfold Instr.sliceBounds
  cases mx with
  | none =>
    subst h1
    cases hi with
    | none =>
      obtain ⟨rfl, _⟩ := h2
      cases lo with
      | none => subst h3; simp
      | some v =>
        cases v <;> first | exact h3.elim | skip
        obtain ⟨h3a, h3b⟩ := h3
        simp [bound_run rfl h3a h3b]
    | some v =>
      cases v <;> first | exact h2.elim | skip
      obtain ⟨h2a, h2b⟩ := h2
      cases lo with
      | none => subst h3; cases b <;> simp [bound_run rfl h2a h2b]
      | some v =>
        cases v <;> first | exact h3.elim | skip
        obtain ⟨h3a, h3b⟩ := h3
        cases b <;> simp [bound_run rfl h2a h2b, bound_run rfl h3a h3b]
  | some u =>
    cases u <;> first | exact h1.elim | skip
    obtain ⟨h1a, h1b⟩ := h1
    cases hi with
    | none => exact absurd h2.2 (by simp)
    | some v =>
      cases v <;> first | exact h2.elim | skip
      obtain ⟨h2a, h2b⟩ := h2
      cases lo with
      | none => subst h3; cases b <;> simp [bound_run rfl h1a h1b, bound_run rfl h2a h2b]
      | some v =>
        cases v <;> first | exact h3.elim | skip
        obtain ⟨h3a, h3b⟩ := h3
        cases b <;> simp [bound_run rfl h1a h1b, bound_run rfl h2a h2b, bound_run rfl h3a h3b]

theorem slice_run {t : TypeId} {x : Operand} {lo hi mx : Option Operand} {ty : TypeId} (h : vcOp P l (.slice t x lo hi mx) ty w K) :
    ∃ v, (∀ w, (Instr.sliceAt t (ev l x) (lo.map (ev l)) (hi.map (ev l)) (mx.map (ev l))).run P w = .ok v w) ∧ K v w := by
  simp only [vcOp] at h
  split at h
  · rename_i e hk
    have hu := tk_slice hk
    split at h
    · rename_i n hn
      unfold xCutS at h
      split at h
      · rename_i a len cap hx
        obtain ⟨l', h', m', hr, hK⟩ := cut_run (P := P) (b := true) h
        rw [hx]
        exact ⟨_, fun w => by simp [Instr.sliceAt, Instr.slice, und hu, hr, sizeOf_run hn, cutAddr], hK⟩
      · exact h.elim
    · exact h.elim
  · rename_i k e hk
    have hu := tk_arr hk
    split at h
    · rename_i n hn
      unfold xCutA at h
      split at h
      · rename_i a hx
        obtain ⟨l', h', m', hr, hK⟩ := cut_run (P := P) (b := false) h
        rw [hx]
        exact ⟨_, fun w => by simp [Instr.sliceAt, und hu, sure_run, hr, sizeOf_run hn], hK⟩
      · exact h.elim
    · exact h.elim
  · rename_i hk
    have hu := tk_str hk
    split at h
    · unfold xCutStr at h
      split at h
      · rename_i s hx
        obtain ⟨l', h', m', hr, hK⟩ := cut_run (P := P) (b := false) h
        rw [hx]
        exact ⟨_, fun w => by simp [Instr.sliceAt, Instr.slice, und hu, hr], hK⟩
      · exact h.elim
    · exact h.elim
  · exact h.elim

theorem conv_run {s d : TypeId} {x : Operand} {ty : TypeId} (h : vcOp P l (.convert s d x) ty w K) : ∃ v w', (convert s d (ev l x)).run P w = .ok v w' ∧ K v w' := by
  simp only [vcOp] at h
  split at h
  · rename_i k hs hd
    unfold xConv at h
    split at h
    · rename_i k' n hx
      rw [hx]
      exact ⟨_, _, by simp [convert, und (tk_int hs), und (tk_int hd), Conv.intToInt], h.out⟩
    · exact h.elim
  · rename_i hs hd
    unfold xStr at h
    split at h
    · rename_i n hx
      rw [hx]
      exact ⟨_, _, by simp [convert, und (tk_str hs), und (tk_str hd)], h⟩
    · exact h.elim
  · exact h.out

theorem builtin_run {b : Builtin} {ts : Array TypeId} {ty : TypeId} {args : List Value} (h : vcBuiltin P b ts ty args w K) :
    ∃ v w', (∀ cs, (builtin b ts ty cs args.toArray).run P w = .ok (.value v) w') ∧ K v w' := by
  unfold vcBuiltin at h
  split at h
  · rename_i t x ht
    split at h
    · rename_i e hk
      unfold xLen at h
      split at h
      · exact ⟨_, _, fun cs => by simp [builtin, Builtin.len_, ht, und (tk_slice hk), goInt], h⟩
      · exact h.elim
    · rename_i hk
      unfold xLenS at h
      split at h
      · exact ⟨_, _, fun cs => by simp [builtin, Builtin.len_, ht, und (tk_str hk), goInt], h⟩
      · exact h.elim
    · rename_i n e hk
      exact ⟨_, _, fun cs => by simp [builtin, Builtin.len_, ht, und (tk_arr hk), goInt], h⟩
    · exact h.elim
  · rename_i t x ht
    split at h
    · rename_i e hk
      unfold xCap at h
      split at h
      · exact ⟨_, _, fun cs => by simp [builtin, Builtin.cap_, ht, und (tk_slice hk), goInt], h⟩
      · exact h.elim
    · exact h.elim
  · unfold xMin at h
    split at h
    · exact ⟨_, _, fun cs => by simp [builtin, Builtin.min_, Builtin.min2], h⟩
    · exact h.elim
  · unfold xMax at h
    split at h
    · exact ⟨_, _, fun cs => by simp [builtin, Builtin.max_, Builtin.max2], h⟩
    · exact h.elim
  · obtain ⟨v, w', hr, hK⟩ := h.out
    exact ⟨v, w', fun cs => by simp [builtin, hr], hK⟩
  · obtain ⟨v, w', hr, hK⟩ := h.out
    exact ⟨v, w', fun cs => by simp [builtin, hr], hK⟩
  · obtain ⟨v, w', hr, hK⟩ := h.out
    exact ⟨v, w', fun cs => by simp [builtin, hr], hK⟩
  · obtain ⟨v, w', hr, hK⟩ := h.out
    exact ⟨v, w', fun cs => by simp [builtin, hr], hK⟩
  · exact h.elim

theorem bodied_run {f : FuncId} (h : bodied P f = true) (args : Array Value) : (callFunc f args).run P w = .ok (.enter f args) w := by
  unfold bodied at h
  split at h
  · rename_i fn hf
    split at h
    · rename_i c hc
      have hn : ¬ fn.name = "runtime.NumGoroutine" := by simpa using h
      simp [callFunc, hf, hn, hc]
    · cases h
  · cases h

theorem xCall_good {f : FuncId} {args : List Value} (h : xCall P f args w K) : Good P (callFunc f args.toArray) w K := by
  unfold xCall at h
  split at h
  · rename_i hb
    simpa [Good, bodied_run hb] using h
  · obtain ⟨v, w', hr, hK⟩ := h.out
    simp only [Sem.run_bind] at hr
    unfold Good
    cases hc : (callFunc f args.toArray).run P w with
    | halt x y => simp [hc] at hr
    | ok n y =>
      simp only [hc, Result.andThen_ok] at hr
      cases n <;> simp at hr
      obtain ⟨rfl, rfl⟩ := hr
      exact hK

theorem callee_value {c : Call} {x : Operand} {ty : TypeId} (hc : c.callee = .value x) :
    (resolve (ev l) c ty) = Deferred.ofValue (ev l x) (c.args.map (ev l)) := by
  simp [resolve, hc]

theorem vcOp_good {o : Oper} (h : vcOp P l o.op o.type w K) : Good P (execOp (ev l) o) w K := by
  obtain ⟨dst, op, ty, pos, after, guard⟩ := o
  cases op with
  | move x => simpa [Good, execOp, vcOp] using h
  | assign x => simpa [Good, execOp, vcOp] using h
  | pick c a b =>
    simp only [vcOp, xPick] at h
    split at h
    · rename_i t hc
      cases t
      · have : (execOp (ev l) ⟨dst, .pick c a b, ty, pos, after, guard⟩).run P w = .ok (.value (ev l b)) w := by simp [execOp, hc, asBool]
        simpa [Good, this] using h
      · have : (execOp (ev l) ⟨dst, .pick c a b, ty, pos, after, guard⟩).run P w = .ok (.value (ev l a)) w := by simp [execOp, hc, asBool]
        simpa [Good, this] using h
    · exact h.elim
  | alloc t =>
    simp only [vcOp] at h
    split at h
    · rename_i z hz
      obtain ⟨zv, hzr, hzc⟩ := zero_run hz
      have : (Instr.alloc t true (.tuple #[])).run P w = .ok (.pointer (some ⟨w.heap.size, 0, none⟩)) (w.alloc (.cells z.toArray t)) := by
        simp [Instr.alloc, hzr, newVar_run, hzc]
      exact good_val this h.out
    · exact h.elim
  | box t x =>
    simp only [vcOp] at h
    have : (Instr.box t (ev l x)).run P w = .ok (.pointer (some ⟨w.heap.size, 0, none⟩)) (w.alloc (.cells (cellsV (ev l x)).toArray t)) := by
      simp [Instr.box, newVar_run]
    exact good_val this h.out
  | build t parts => obtain ⟨v, hr, hK⟩ := build_run h; exact good_val (hr w) hK
  | buildSlice t n parts => obtain ⟨v, w', hr, hK⟩ := buildSlice_run h; exact good_val hr hK
  | load t x => obtain ⟨v, hr, hK⟩ := load_run h; exact good_val hr hK
  | store t x y => obtain ⟨w', hr, hK⟩ := store_run h; exact good_unit hr hK
  | nilCheck x =>
    simp only [vcOp] at h
    obtain ⟨a, ha, h⟩ := at_elim h
    simpa [Good, execOp, ha] using h
  | binOp op t x y yt => obtain ⟨v, hr, hK⟩ := vcBin_good h; exact good_val hr hK
  | unOp op t x =>
    simp only [vcOp] at h
    split at h
    · unfold xNot at h
      split at h
      · rename_i b hb
        exact good_val (by simp [hb, Op.unary]) h
      · exact h.elim
    · unfold xNeg at h
      split at h
      · rename_i k a hb
        exact good_val (by simp [hb, Op.unary, Op.intArith]) h.out
      · exact h.elim
    · exact h.elim
  | convert s d x => obtain ⟨v, w', hr, hK⟩ := conv_run h; exact good_val hr hK
  | makeFunc fn a b => exact good_val (by simp [Instr.makeFunc]) h
  | makeSlice t a b => obtain ⟨v, w', hr, hK⟩ := h.out; exact good_val hr hK
  | slice t x lo hi mx => obtain ⟨v, hr, hK⟩ := slice_run h; exact good_val (hr w) hK
  | fieldAddr s x f => obtain ⟨v, hr, hK⟩ := fieldAddr_run h; exact good_val (hr w) hK
  | field s x f => obtain ⟨v, hr, hK⟩ := field_run h; exact good_val (hr w) hK
  | indexAddr t x i => obtain ⟨v, hr, hK⟩ := indexAddr_run h; exact good_val (hr w) hK
  | index t x i => obtain ⟨v, w', hr, hK⟩ := index_run h; exact good_val hr hK
  | extract x i =>
    simp only [vcOp, xTup] at h
    split at h
    · rename_i vs hv
      split at h
      · rename_i v hi
        rw [Array.getElem?_toList] at hi
        exact good_val (by simp [hv, Instr.extract, hi]) h
      · exact h.elim
    · exact h.elim
  | range t x => obtain ⟨v, w', hr, hK⟩ := h.out; exact good_val hr hK
  | next x t => obtain ⟨v, w', hr, hK⟩ := h.out; exact good_val hr hK
  | entry x => obtain ⟨v, w', hr, hK⟩ := h.out; exact good_val hr hK
  | makeInterface t x => obtain ⟨v, w', hr, hK⟩ := h.out; exact good_val hr hK
  | makeMap t r => obtain ⟨v, w', hr, hK⟩ := h.out; exact good_val hr hK
  | lookup t x i ok => obtain ⟨v, w', hr, hK⟩ := h.out; exact good_val hr hK
  | typeAssert x t a ok => obtain ⟨v, w', hr, hK⟩ := h.out; exact good_val hr hK
  | mapUpdate t m k x => obtain ⟨w', hr, hK⟩ := h.out; exact good_unit hr hK
  | call c =>
    simp only [vcOp] at h
    have ea : (c.args.toList.map (ev l)).toArray = c.args.map (ev l) := by rw [← Array.toList_map]
    split at h
    · rename_i f hf
      have := xCall_good h
      rw [ea] at this
      simpa [Good, execOp, callee_value hf, ev, Deferred.ofValue, invoke] using this
    · rename_i x hx hf
      unfold xFunc at h
      split at h
      · rename_i f first captured hv
        have := xCall_good h
        have e2 : (first.toList ++ c.args.toList.map (ev l) ++ captured.toList).toArray = first ++ c.args.map (ev l) ++ captured := by
          apply Array.ext'; simp
        rw [e2] at this
        simpa [Good, execOp, callee_value hf, hv, Deferred.ofValue, invoke] using this
      · exact h.elim
    · rename_i b hb
      obtain ⟨v, w', hr, hK⟩ := builtin_run h
      rw [ea] at hr
      simp only [Good, execOp, resolve, hb, Sem.run_bind, Sem.run_pure, Result.andThen_ok, invoke, hr]
      exact hK
    · exact h.elim
  | _ => exact h.elim

/-! operations that only reckon or read -/
theorem int_quiet {s d : TypeId} {k k' : IntKind} {x : Operand} {ty : TypeId} (hs : tk P s = .int k) (hd : tk P d = .int k') (h : vcOp P l (.convert s d x) ty w K) :
    ∃ v, (∀ w, (convert s d (ev l x)).run P w = .ok v w) ∧ K v w := by
  simp only [vcOp, hs, hd] at h
  unfold xConv at h
  split at h
  · rename_i k'' n hx
    rw [hx]
    exact ⟨_, fun w => by simp [convert, und (tk_int hs), und (tk_int hd), Conv.intToInt], h.out⟩
  · exact h.elim
theorem str_quiet {s d : TypeId} {x : Operand} {ty : TypeId} (hs : tk P s = .str) (hd : tk P d = .str) (h : vcOp P l (.convert s d x) ty w K) :
    ∃ v, (∀ w, (convert s d (ev l x)).run P w = .ok v w) ∧ K v w := by
  simp only [vcOp, hs, hd] at h
  unfold xStr at h
  split at h
  · rename_i n hx
    rw [hx]
    exact ⟨_, fun w => by simp [convert, und (tk_str hs), und (tk_str hd)], h⟩
  · exact h.elim
theorem index_quiet {t : TypeId} {x i : Operand} {ty : TypeId} (hk : tk P t = .str) (h : vcOp P l (.index t x i) ty w K) :
    ∃ v, (∀ w, (Instr.index t (ev l x) (ev l i)).run P w = .ok v w) ∧ K v w := by
  simp only [vcOp, hk] at h
  have hu := tk_str hk
  unfold xIxStr at h
  split at h
  · rename_i s k j hx hi
    obtain ⟨m, b, rfl, hb, hK⟩ := h.out
    rw [hx, hi]
    refine ⟨_, fun w => ?_, hK⟩
    simp [Instr.index, asIntOf, und hu, hb]
  · exact h.elim
theorem val_run {s : Sem Value} {v : Value} (h : ∀ w, s.run P w = .ok v w) : ∀ w, ((do pure (Next.value (← s))) : Sem Next).run P w = .ok (.value v) w := by
  intro w; simp [h]

/-- a quiet operation that reads no memory -/
def pureOp (P : Program) (o : Op) : Bool := quiet P o && !(match o with | .load .. => true | _ => false)

theorem builtin_quiet {b : Builtin} {ts : Array TypeId} {ty : TypeId} {args : List Value} (hb : b = .len ∨ b = .cap ∨ b = .min ∨ b = .max) (h : vcBuiltin P b ts ty args w K) :
    ∃ v, (∀ w cs, (builtin b ts ty cs args.toArray).run P w = .ok (.value v) w) ∧ K v w := by
  unfold vcBuiltin at h
  split at h
  · rename_i t x ht
    split at h
    · rename_i e hk
      unfold xLen at h
      split at h
      · exact ⟨_, fun w cs => by simp [builtin, Builtin.len_, ht, und (tk_slice hk), goInt], h⟩
      · exact h.elim
    · rename_i hk
      unfold xLenS at h
      split at h
      · exact ⟨_, fun w cs => by simp [builtin, Builtin.len_, ht, und (tk_str hk), goInt], h⟩
      · exact h.elim
    · rename_i n e hk
      exact ⟨_, fun w cs => by simp [builtin, Builtin.len_, ht, und (tk_arr hk), goInt], h⟩
    · exact h.elim
  · rename_i t x ht
    split at h
    · rename_i e hk
      unfold xCap at h
      split at h
      · exact ⟨_, fun w cs => by simp [builtin, Builtin.cap_, ht, und (tk_slice hk), goInt], h⟩
      · exact h.elim
    · exact h.elim
  · unfold xMin at h
    split at h
    · exact ⟨_, fun w cs => by simp [builtin, Builtin.min_, Builtin.min2], h⟩
    · exact h.elim
  · unfold xMax at h
    split at h
    · exact ⟨_, fun w cs => by simp [builtin, Builtin.max_, Builtin.max2], h⟩
    · exact h.elim
  all_goals first | exact h.elim | (rcases hb with hb | hb | hb | hb <;> cases hb)

theorem vcOp_pure {o : Oper} (hq : quiet P o.op = true) (hl : (match o.op with | .load .. => true | _ => false) = false) (h : vcOp P l o.op o.type w K) :
    ∃ v, (∀ w, (execOp (ev l) o).run P w = .ok (.value v) w) ∧ K v w := by
  obtain ⟨dst, op, ty, pos, after, guard⟩ := o
  cases op with
  | move x => exact ⟨_, fun w => by simp [execOp], h⟩
  | pick c a b =>
    simp only [vcOp, xPick] at h
    split at h
    · rename_i t hc
      cases t
      · exact ⟨_, fun w => by simp [execOp, hc, asBool], h⟩
      · exact ⟨_, fun w => by simp [execOp, hc, asBool], h⟩
    · exact h.elim
  | load t x => simp at hl
  | nilCheck x =>
    simp only [vcOp] at h
    obtain ⟨a, ha, h⟩ := at_elim h
    exact ⟨_, fun w => by simp [execOp, ha], h⟩
  | field s x f => obtain ⟨v, hr, hK⟩ := field_run h; exact ⟨v, val_run hr, hK⟩
  | indexAddr t x i => obtain ⟨v, hr, hK⟩ := indexAddr_run h; exact ⟨v, val_run hr, hK⟩
  | slice t x lo hi mx => obtain ⟨v, hr, hK⟩ := slice_run h; exact ⟨v, val_run hr, hK⟩
  | fieldAddr s x f => obtain ⟨v, hr, hK⟩ := fieldAddr_run h; exact ⟨v, val_run hr, hK⟩
  | extract x i =>
    simp only [vcOp, xTup] at h
    split at h
    · rename_i vs hv
      split at h
      · rename_i v hi
        rw [Array.getElem?_toList] at hi
        exact ⟨v, val_run (fun w => by simp [hv, Instr.extract, hi]), h⟩
      · exact h.elim
    · exact h.elim
  | makeFunc fn a b => exact ⟨_, val_run (fun w => by simp [Instr.makeFunc]), h⟩
  | unOp op t x =>
    simp only [vcOp] at h
    split at h
    · unfold xNot at h
      split at h
      · rename_i b hb
        exact ⟨_, val_run (fun w => by simp [hb, Op.unary]), h⟩
      · exact h.elim
    · unfold xNeg at h
      split at h
      · rename_i k a hb
        exact ⟨_, val_run (fun w => by simp [hb, Op.unary, Op.intArith]), h.out⟩
      · exact h.elim
    · exact h.elim
  | build t parts => obtain ⟨v, hr, hK⟩ := build_run h; exact ⟨v, val_run hr, hK⟩
  | binOp op t x y yt =>
    have hb : BinPure P op t x y (ev l x) (ev l y) w K := by
      simp only [quiet] at hq
      cases hk : tk P t with
      | int k => exact bin_int hk h
      | str => exact bin_str hk h
      | bool => exact bin_bool hk h
      | slice e => exact bin_slice hk h
      | _ => simp [hk] at hq
    obtain ⟨v, hr, hK⟩ := hb
    exact ⟨v, val_run hr, hK⟩
  | index t x i =>
    simp only [quiet] at hq
    cases hk : tk P t with
    | str => obtain ⟨v, hr, hK⟩ := index_quiet hk h; exact ⟨v, val_run hr, hK⟩
    | _ => simp [hk] at hq
  | convert s d x =>
    simp only [quiet] at hq
    cases hs : tk P s with
    | int k =>
      cases hd : tk P d with
      | int k' => obtain ⟨v, hr, hK⟩ := int_quiet hs hd h; exact ⟨v, val_run hr, hK⟩
      | _ => simp [hs, hd] at hq
    | str =>
      cases hd : tk P d with
      | str => obtain ⟨v, hr, hK⟩ := str_quiet hs hd h; exact ⟨v, val_run hr, hK⟩
      | _ => simp [hs, hd] at hq
    | _ => simp [hs] at hq
  | call c =>
    simp only [vcOp] at h
    have ea : (c.args.toList.map (ev l)).toArray = c.args.map (ev l) := by rw [← Array.toList_map]
    simp only [quiet] at hq
    split at h
    · rename_i f hf; simp [hf] at hq
    · rename_i x hx hf; simp [hf] at hq
    · rename_i b hb
      have hbb : b = .len ∨ b = .cap ∨ b = .min ∨ b = .max := by
        rw [hb] at hq
        cases b <;> simp at hq ⊢
      obtain ⟨v, hr, hK⟩ := builtin_quiet hbb h
      rw [ea] at hr
      exact ⟨v, fun w => by simp only [execOp, resolve, hb, Sem.run_bind, Sem.run_pure, Result.andThen_ok, invoke, hr], hK⟩
    · exact h.elim
  | _ => simp [quiet] at hq

theorem keepN {w : World} {t : TypeId} {a : Addr} {v : Value} (h : aggT P t = true) : xKeep P w t (.pointer (some a)) v = (match v with | .agg vs => ∀ i, i < vs.size → w.cell? (a.add i) = vs[i]? | _ => False) := by
  unfold xKeep; rw [h]; rfl
theorem keep1 {w : World} {t : TypeId} {a : Addr} {v : Value} (h : aggT P t = false) : xKeep P w t (.pointer (some a)) v = (w.cell? a = some v) := by
  unfold xKeep; rw [h]; rfl
/-- a read -/
theorem load_quiet {t : TypeId} {x : Operand} {ty : TypeId} (h : vcOp P l (.load t x) ty w K) :
    ∃ v, (∀ w', xKeep P w' t (ev l x) v → (Instr.loadAt t (ev l x)).run P w' = .ok v w') ∧ xKeep P w t (ev l x) v ∧ K v w := by
  simp only [vcOp] at h
  split at h
  · rename_i hk
    obtain ⟨a, ha, h⟩ := at_elim h
    have hag := fun w => known_agg (w := w) hk
    rw [ha]
    cases hagg : aggT P t with
    | true =>
      rw [hagg] at h
      simp only at h
      split at h
      · rename_i n hn
        obtain ⟨vs, hs, hc, hK⟩ := h.out
        subst hs
        refine ⟨.agg vs, fun w' hkp => ?_, ?_, hK⟩
        · rw [keepN hagg] at hkp
          simp [Instr.loadAt, sure_run, loadVar, hag, hagg, sizeOf_run hn, loadN_run a vs hkp]
        · rw [keepN hagg]; exact hc
      · exact h.elim
    | false =>
      rw [hagg] at h
      obtain ⟨v, hv, hK⟩ := h.out
      refine ⟨v, fun w' hkp => ?_, ?_, hK⟩
      · rw [keep1 hagg] at hkp
        simp [Instr.loadAt, sure_run, loadVar, hag, hagg, hkp]
      · rw [keep1 hagg]; exact hv
  · exact h.elim
end
end Go.Proofs.YtbfnagdpanfphaaGreatDoor.X
end
section
namespace Go.Proofs.YtbfnagdpanfphaaGreatDoor.X
open Go
set_option linter.unusedSimpArgs false
set_option linter.unusedVariables false

def actOf (l : List Value) : Act := ⟨l.toArray, []⟩
theorem act_eval (l : List Value) : (actOf l).eval = ev l := by
  funext x; cases x <;> simp [Act.eval, ev, actOf]
theorem act_put (l : List Value) (d : Option Tmp) (v : Value) : (actOf l).put d v = actOf (put l d v) := by
  cases d <;> simp [Act.put, put, actOf]

section
variable {P : Program} {Q : Exit → Act → World → Prop} {w : World}

theorem wp_of_good {o : Oper} {a : Act} {next : Act → World → Prop} (h : Good P (execOp a.eval o) w fun v w' => next (a.put o.dst v) w') : o.wp P a w next Q := by
  unfold Oper.wp
  unfold Good at h
  split at h
  · rename_i v w' hr; rw [hr]; exact h
  · rename_i w' hr; rw [hr]; exact h
  · rename_i f args w' hr
    rw [hr, Oper.upon_enter]
    have := h.out
    simp only [Array.toArray_toList] at this
    exact this.mono fun e w'' ⟨v, he, hk⟩ => by subst he; exact hk
  · exact h.elim

theorem good_mono {s : Sem Next} {K K' : Value → World → Prop} (hk : ∀ v w, K v w → K' v w) (h : Good P s w K) : Good P s w K' := by
  unfold Good at *
  split at h
  · exact hk _ _ h
  · exact hk _ _ h
  · exact ⟨h.out.mono fun e w'' ⟨v, he, hv⟩ => ⟨v, he, hk _ _ hv⟩⟩
  · exact h.elim

theorem if_elim {v : Value} {A B : Prop} (h : xIf v A B) : ∃ t, v = .bool t ∧ (t = true → A) ∧ (t = false → B) := by
  unfold xIf at h
  split at h
  · rename_i t
    cases t
    · exact ⟨false, rfl, fun h => by simp at h, fun _ => h⟩
    · exact ⟨true, rfl, fun _ => h, fun h => by simp at h⟩
  · exact h.elim

theorem yield_at {all : List Oper} {l : List Value} {j d : Nat} (h : guardSlot all j = some d) : yielded all.toArray (actOf l).tmps j = (match l.getD d undef with | .bool b => some b | _ => none) := by
  unfold guardSlot at h
  split at h
  · rename_i o ho
    simp [yielded, actOf, ho, h]
    cases l[d]? with
    | none => rfl
    | some v => cases v <;> rfl
  · cases h

theorem notBool_yield {v : Value} (h : isBool v = false) : (match v with | .bool b => some b | _ => none) = none := by
  cases v <;> simp [isBool] at h ⊢
theorem skip_elim {all : List Oper} {l : List Value} {j d : Nat} {X Y : Prop} (h : match skipped all l j with | true => (match isBool (l.getD d undef) with | true => False | false => X) | false => Y) : (isBool (l.getD d undef) = false ∧ X) ∨ Y := by
  cases hs : skipped all l j with
  | false => rw [hs] at h; exact .inr h
  | true =>
    rw [hs] at h
    cases hb : isBool (l.getD d undef) with
    | true => simp only [hb] at h
    | false => simp only [hb] at h; exact .inl ⟨rfl, h⟩
theorem set_same {l : List Value} {d : Nat} {v : Value} (h : l.getD d undef = v) (hv : v ≠ undef) : l.set d v = l := by
  apply List.ext_getElem?
  intro i
  by_cases hi : d = i
  · subst hi
    by_cases hl : d < l.length
    · simp [hl] at h ⊢; exact h.symm
    · simp [hl] at h; exact absurd h.symm hv
  · simp [List.getElem?_set_ne hi]

theorem put_length (l : List Value) (d : Option Tmp) (v : Value) : (put l d v).length = l.length := by cases d <;> simp [put]
theorem put_get_ne {l : List Value} {d : Option Tmp} {v : Value} {s : Nat} (h : d ≠ some s) : (put l d v)[s]? = l[s]? := by
  cases d with
  | none => rfl
  | some d => simp only [put]; rw [List.getElem?_set_ne (fun e => h (by rw [e]))]

/-- one operation of a region, its guard asked -/
theorem vcG_sound {all : List Oper} {o : Oper} {l : List Value} {K : List Value → World → Prop} {next : Act → World → Prop} (hK : ∀ v w, K (put l o.dst v) w → next (actOf (put l o.dst v)) w) (h : vcG P all o l w K) :
    if Region.wanted o (yielded all.toArray (actOf l).tmps) then o.wp P (actOf l) w next Q else next ((actOf l).put o.dst undef) w := by
  unfold vcG at h
  split at h
  · rename_i hg
    simp only [Region.wanted, hg, if_true]
    refine wp_of_good ?_
    rw [act_eval]
    exact good_mono (fun v w' hk => by rw [act_put]; exact hK _ _ hk) (vcOp_good h)
  · rename_i j want hg
    split at h
    · exact h.elim
    · rename_i d hd
      rcases skip_elim h with ⟨hb, hk⟩ | h
      · have hy := yield_at (l := l) hd
        rw [notBool_yield hb] at hy
        simp only [Region.wanted, hg, hy]
        rw [act_put]
        cases want <;> exact hK _ _ hk
      obtain ⟨t, hv, ht, hf⟩ := if_elim h
      have hy := yield_at (l := l) hd
      rw [hv] at hy
      simp only [Region.wanted, hg, hy]
      have hne : Value.bool t ≠ undef := by unfold undef; simp
      have hs := set_same hv hne
      cases t
      · have := hf rfl
        rw [hs] at this
        cases want
        · simp only [beq_self_eq_true, if_true]
          refine wp_of_good ?_
          rw [act_eval]
          exact good_mono (fun v w' hk => by rw [act_put]; exact hK _ _ hk) (vcOp_good this)
        · simp only [show (some false == some true) = false from rfl]
          rw [act_put]; exact hK _ _ this
      · have := ht rfl
        rw [hs] at this
        cases want
        · simp only [show (some true == some false) = false from rfl]
          rw [act_put]; exact hK _ _ this
        · simp only [beq_self_eq_true, if_true]
          refine wp_of_good ?_
          rw [act_eval]
          exact good_mono (fun v w' hk => by rw [act_put]; exact hK _ _ hk) (vcOp_good this)

/-- a frame with the same slots but for what some operations write -/
def Agree (ops : List Oper) (l l' : List Value) : Prop := l'.length = l.length ∧ ∀ s, (∀ o ∈ ops, o.dst ≠ some s) → l'[s]? = l[s]?
theorem vcOps_sound {all : List Oper} {K : List Value → World → Prop} : ∀ (r : List Oper) (l : List Value) (w : World), (∀ l' w, Agree r l l' → K l' w → Q .normal (actOf l') w) → vcOps P all K r l w →
    wpList P all.toArray Q r (actOf l) w := by
  intro r
  induction r with
  | nil => intro l w hK h; exact hK _ _ ⟨rfl, fun s _ => rfl⟩ h
  | cons o r ih =>
    intro l w hK h
    have := vcG_sound (Q := Q) (next := wpList P all.toArray Q r) (fun v w hk => ih (put l o.dst v) w (fun l' w' ha hk' => hK l' w' ⟨by rw [ha.1, put_length], fun s hs => by
      rw [ha.2 s fun o' ho' => hs o' (List.mem_cons_of_mem _ ho'), put_get_ne (hs o (by simp))]⟩ hk') hk) h
    unfold wpList
    split
    · rename_i hw; rw [if_pos hw] at this; exact .inl this
    · rename_i hw; rw [if_neg hw] at this; exact this
end
end Go.Proofs.YtbfnagdpanfphaaGreatDoor.X
end
section
namespace Go.Proofs.YtbfnagdpanfphaaGreatDoor.X
open Go
set_option linter.unusedSimpArgs false
set_option linter.unusedVariables false

theorem mem_iff {i : Nat} {l : List Nat} : mem i l = true ↔ i ∈ l := by
  induction l with
  | nil => simp [mem]
  | cons j r ih =>
    unfold mem
    cases h : Nat.beq i j with
    | true => simp [Nat.eq_of_beq_eq_true h]
    | false =>
      have : i ≠ j := fun e => by subst e; simp at h
      simp [ih, this]
theorem mem_false {i : Nat} {l : List Nat} : mem i l = false ↔ i ∉ l := by
  rw [← mem_iff]; cases mem i l <;> simp
theorem subs_iff {l s : List Nat} : subs l s = true ↔ ∀ x ∈ l, x ∈ s := by
  induction l with
  | nil => simp [subs]
  | cons j r ih =>
    unfold subs
    cases h : mem j s with
    | true => simp [ih, mem_iff.1 h]
    | false => simp [mem_false.1 h]
theorem allB_iff {α : Type} {f : α → Bool} {l : List α} : allB f l = true ↔ ∀ x ∈ l, f x = true := by
  induction l with
  | nil => simp [allB]
  | cons x r ih => unfold allB; cases h : f x <;> simp [h, ih]
theorem anyB_iff {α : Type} {f : α → Bool} {l : List α} : anyB f l = true ↔ ∃ x ∈ l, f x = true := by
  induction l with
  | nil => simp [anyB]
  | cons x r ih => unfold anyB; cases h : f x <;> simp [h, ih]
theorem anyAnc_iff {anc : List (List Nat)} {i : Nat} {l : List Nat} : anyAnc anc i l = true ↔ ∃ h ∈ l, i ∈ anc.getD h [] := by
  induction l with
  | nil => simp [anyAnc]
  | cons x r ih =>
    unfold anyAnc
    cases h : mem i (anc.getD x []) with
    | true => simp only [true_iff]; exact ⟨x, by simp, mem_iff.1 h⟩
    | false => simp only [ih, List.mem_cons, exists_eq_or_imp, mem_false.1 h, false_or]
theorem dstIs_iff {o : Oper} {t : Tmp} : dstIs o t = true ↔ o.dst = some t := by
  unfold dstIs
  cases o.dst with
  | none => simp
  | some d => simp only [Option.some.injEq]; exact ⟨Nat.eq_of_beq_eq_true, fun h => by subst h; exact Nat.beq_refl d⟩
theorem numbered_mem {o : Oper} {i : Nat} : ∀ (l : List Oper) (c : Nat), (o, i) ∈ numbered c l ↔ c ≤ i ∧ l[i - c]? = some o := by
  intro l
  induction l with
  | nil => intro c; simp [numbered]
  | cons x r ih =>
    intro c
    simp only [numbered, List.mem_cons, Prod.mk.injEq, ih]
    constructor
    · rintro (⟨rfl, rfl⟩ | ⟨h1, h2⟩)
      · simp
      · refine ⟨by omega, ?_⟩
        rw [show i - c = (i - (c + 1)) + 1 by omega]; simpa using h2
    · rintro ⟨h1, h2⟩
      rcases Nat.eq_or_lt_of_le h1 with h | h
      · subst h; simp at h2; exact .inl ⟨h2.symm, rfl⟩
      · right
        refine ⟨by omega, ?_⟩
        rw [show i - c = (i - (c + 1)) + 1 by omega] at h2; simpa using h2
theorem numbered_mem0 {o : Oper} {i : Nat} {l : List Oper} : (o, i) ∈ numbered 0 l ↔ l[i]? = some o := by
  rw [numbered_mem]; simp
theorem looks_eq (all : List Oper) (o : Oper) : looks all o = o.looksAt all.toArray := by
  unfold looks Oper.looksAt opTmps guardSlot
  congr 1
  cases hg : o.guard with
  | none => rfl
  | some x =>
    obtain ⟨j, b⟩ := x
    simp only [List.getElem?_toArray]
    cases ho : all[j]? with
    | none => simp
    | some p => cases hd : p.dst <;> simp [hd]
theorem put_get_same {l : List Value} {d : Nat} {v : Value} (h : d < l.length) : (put l (some d) v)[d]? = some v := by simp [put, h]
theorem act_get_ne {a : Act} {d : Option Tmp} {v : Value} {s : Nat} (h : d ≠ some s) : (a.put d v).tmps[s]? = a.tmps[s]? := by
  cases d with
  | none => rfl
  | some d => simp only [Act.put]; rw [Array.getElem?_setIfInBounds_ne (fun e => h (by rw [e]))]
theorem act_get_same {a : Act} {d : Nat} {v : Value} (h : d < a.tmps.size) : (a.put (some d) v).tmps[d]? = some v := by simp [Act.put, h]
theorem act_put_defers (a : Act) (d : Option Tmp) (v : Value) : (a.put d v).defers = a.defers := by cases d <;> rfl
theorem act_put_size (a : Act) (d : Option Tmp) (v : Value) : (a.put d v).tmps.size = a.tmps.size := by cases d <;> simp [Act.put]

section
variable {P : Program} {all : List Oper}

/-- a read's cells are there -/
def Kept (P : Program) (o : Oper) (l : List Value) (w : World) (v : Value) : Prop :=
  match o.op with
  | .load t x => xKeep P w t (ev l x) v
  | _ => True
/-- what is known of a quiet operation that was done ahead of its turn -/
def QFact (P : Program) (all : List Oper) (o : Oper) (l : List Value) (w : World) : Prop :=
  (Region.wanted o (yielded all.toArray l.toArray) = false ∧ ∀ d, o.dst = some d → l[d]? = some undef) ∨
  (Region.wanted o (yielded all.toArray l.toArray) = true ∧ ∃ v, (∀ d, o.dst = some d → l[d]? = some v) ∧ Kept P o l w v ∧
    ∀ w', Kept P o l w' v → (execOp (ev l) o).run P w' = .ok (.value v) w')

theorem ev_agree {l : List Value} {a : Act} {x : Operand} (h : ∀ t, x = .tmp t → a.tmps[t]? = l[t]?) : a.eval x = ev l x := by
  cases x with
  | tmp t => simp [Act.eval, ev, h t rfl]
  | _ => rfl
theorem evl_agree {l l' : List Value} {x : Operand} (h : ∀ t, x = .tmp t → l'[t]? = l[t]?) : ev l' x = ev l x := by
  cases x with
  | tmp t => simp [ev, h t rfl]
  | _ => rfl
theorem mem_looks {o : Oper} {t : Tmp} (h : Operand.tmp t ∈ o.op.operands) : t ∈ looks all o := by
  unfold looks opTmps
  refine List.mem_append_left _ (List.mem_filterMap.2 ⟨.tmp t, by simpa using h, rfl⟩)
theorem noSelect {o : Oper} (h : ∀ cs b, o.op ≠ .select cs b) {ρ ρ' : Operand → Value} (he : ∀ x ∈ o.op.operands, ρ x = ρ' x) : execOp ρ o = execOp ρ' o := execOp_congr o h he
theorem wanted_agree {o : Oper} {T T' : Array Value} (h : ∀ t ∈ looks all o, T'[t]? = T[t]?) :
    Region.wanted o (yielded all.toArray T') = Region.wanted o (yielded all.toArray T) := by
  unfold Region.wanted
  cases hg : o.guard with
  | none => rfl
  | some x =>
    obtain ⟨j, b⟩ := x
    simp only
    have : yielded all.toArray T' j = yielded all.toArray T j := by
      unfold yielded
      cases ho : (all.toArray[j]?).bind (·.dst) with
      | none => rfl
      | some d =>
        simp only [Option.bind_some]
        rw [h d ?_]
        unfold looks guardSlot
        rw [hg]
        refine List.mem_append_right _ ?_
        simp only [List.getElem?_toArray] at ho
        cases hp : all[j]? with
        | none => simp [hp] at ho
        | some p => simp [hp] at ho; simp [hp, ho]
    rw [this]
theorem quiet_noSelect {o : Oper} (h : quiet P o.op = true) : ∀ cs b, o.op ≠ .select cs b := by
  intro cs b e; rw [e] at h; simp [quiet] at h

theorem QFact.agree {o : Oper} {l l' : List Value} {w w' : World} (hq : quiet P o.op = true) (hf : QFact P all o l w)
    (hl : ∀ t ∈ looks all o, l'[t]? = l[t]?) (hd : ∀ d, o.dst = some d → l'[d]? = l[d]?) (hk : Region.wanted o (yielded all.toArray l.toArray) = true → ∀ v, (∀ d, o.dst = some d → l[d]? = some v) → Kept P o l w v → Kept P o l' w' v) : QFact P all o l' w' := by
  have hw : Region.wanted o (yielded all.toArray l'.toArray) = Region.wanted o (yielded all.toArray l.toArray) := wanted_agree fun t ht => by simpa using hl t ht
  have he : execOp (ev l') o = execOp (ev l) o := execOp_congr o (quiet_noSelect hq) fun x hx => evl_agree fun t ht => by subst ht; exact hl t (mem_looks hx)
  rcases hf with ⟨h1, h2⟩ | ⟨h1, v, h2, h3, h4⟩
  · exact .inl ⟨by rw [hw]; exact h1, fun d h => by rw [hd d h]; exact h2 d h⟩
  · refine .inr ⟨by rw [hw]; exact h1, v, fun d h => by rw [hd d h]; exact h2 d h, hk h1 v h2 h3, fun w2 h5 => ?_⟩
    rw [he]
    refine h4 w2 ?_
    unfold Kept at h5 ⊢
    cases ho : o.op <;> simp only [ho] at h5 ⊢
    rename_i t x
    rw [← evl_agree (l' := l') (l := l) (x := x) fun t ht => hl t (mem_looks (by rw [ho]; subst ht; simp [Op.operands]))]
    exact h5

theorem kept_ev {o : Oper} {l l' : List Value} {w : World} {v : Value} (hl : ∀ t ∈ looks all o, l'[t]? = l[t]?) (h : Kept P o l w v) : Kept P o l' w v := by
  unfold Kept at *
  cases ho : o.op <;> simp only [ho] at h ⊢
  rename_i t x
  rw [evl_agree (l' := l') (l := l) (x := x) fun t ht => hl t (mem_looks (by rw [ho]; subst ht; simp [Op.operands]))]
  exact h

/-- a quiet operation, done now -/
theorem vcG_quiet {o : Oper} {l : List Value} {w : World} {K : List Value → World → Prop} (hq : quiet P o.op = true) (h : vcG P all o l w K) :
    ∃ v, K (put l o.dst v) w ∧
      ((Region.wanted o (yielded all.toArray l.toArray) = false ∧ v = undef) ∨
       (Region.wanted o (yielded all.toArray l.toArray) = true ∧ Kept P o l w v ∧ ∀ w', Kept P o l w' v → (execOp (ev l) o).run P w' = .ok (.value v) w')) := by
  have run : ∀ K : Value → World → Prop, vcOp P l o.op o.type w K → ∃ v, K v w ∧ Kept P o l w v ∧ ∀ w', Kept P o l w' v → (execOp (ev l) o).run P w' = .ok (.value v) w' := by
    intro K h
    by_cases hl : (match o.op with | .load .. => true | _ => false) = true
    · obtain ⟨t, x, ho⟩ : ∃ t x, o.op = .load t x := by
        cases ho : o.op with
        | load t x => exact ⟨t, x, rfl⟩
        | _ => rw [ho] at hl; simp at hl
      rw [ho] at h
      obtain ⟨v, h1, h2, h3⟩ := load_quiet h
      refine ⟨v, h3, by unfold Kept; simp only [ho]; exact h2, fun w' hk => ?_⟩
      unfold Kept at hk
      simp only [ho] at hk
      have := h1 w' hk
      obtain ⟨dst, op, ty, pos, after, guard⟩ := o
      simp only at ho
      subst ho
      simp [execOp, this]
    · have hl' : (match o.op with | .load .. => true | _ => false) = false := by simpa using hl
      obtain ⟨v, h1, h2⟩ := vcOp_pure hq hl' h
      refine ⟨v, h2, ?_, fun w' _ => h1 w'⟩
      unfold Kept
      cases ho : o.op <;> simp only [ho] at hl' ⊢ <;> try trivial
  unfold vcG at h
  split at h
  · rename_i hg
    obtain ⟨v, h1, h2, h3⟩ := run _ h
    exact ⟨v, h1, .inr ⟨by simp [Region.wanted, hg], h2, h3⟩⟩
  · rename_i j want hg
    split at h
    · exact h.elim
    · rename_i d hd
      rcases skip_elim h with ⟨hb, hk⟩ | h
      · have hy := yield_at (l := l) hd
        rw [notBool_yield hb] at hy
        simp only [actOf] at hy
        exact ⟨undef, hk, .inl ⟨by simp [Region.wanted, hg, hy], rfl⟩⟩
      obtain ⟨t, hv, ht, hf⟩ := if_elim h
      have hy := yield_at (l := l) hd
      rw [hv] at hy
      simp only [actOf] at hy
      have hs := set_same hv (by unfold undef; simp)
      cases t
      · have := hf rfl
        rw [hs] at this
        cases want
        · obtain ⟨v, h1, h2, h3⟩ := run _ this
          exact ⟨v, h1, .inr ⟨by simp [Region.wanted, hg, hy], h2, h3⟩⟩
        · exact ⟨undef, this, .inl ⟨by simp [Region.wanted, hg, hy], rfl⟩⟩
      · have := ht rfl
        rw [hs] at this
        cases want
        · exact ⟨undef, this, .inl ⟨by simp [Region.wanted, hg, hy], rfl⟩⟩
        · obtain ⟨v, h1, h2, h3⟩ := run _ this
          exact ⟨v, h1, .inr ⟨by simp [Region.wanted, hg, hy], h2, h3⟩⟩

/-- one operation, its guard asked -/
theorem vcG_good {o : Oper} {l : List Value} {w : World} {K : List Value → World → Prop} (h : vcG P all o l w K) :
    (Region.wanted o (yielded all.toArray l.toArray) = true ∧ Good P (execOp (ev l) o) w fun v w' => K (put l o.dst v) w') ∨
    (Region.wanted o (yielded all.toArray l.toArray) = false ∧ K (put l o.dst undef) w) := by
  unfold vcG at h
  split at h
  · rename_i hg
    exact .inl ⟨by simp [Region.wanted, hg], vcOp_good h⟩
  · rename_i j want hg
    split at h
    · exact h.elim
    · rename_i d hd
      rcases skip_elim h with ⟨hb, hk⟩ | h
      · have hy := yield_at (l := l) hd
        rw [notBool_yield hb] at hy
        simp only [actOf] at hy
        exact .inr ⟨by simp [Region.wanted, hg, hy], hk⟩
      obtain ⟨t, hv, ht, hf⟩ := if_elim h
      have hy := yield_at (l := l) hd
      rw [hv] at hy
      simp only [actOf] at hy
      have hs := set_same hv (by unfold undef; simp)
      cases t
      · have := hf rfl
        rw [hs] at this
        cases want
        · exact .inl ⟨by simp [Region.wanted, hg, hy], vcOp_good this⟩
        · exact .inr ⟨by simp [Region.wanted, hg, hy], this⟩
      · have := ht rfl
        rw [hs] at this
        cases want
        · exact .inr ⟨by simp [Region.wanted, hg, hy], this⟩
        · exact .inl ⟨by simp [Region.wanted, hg, hy], vcOp_good this⟩

/-! the region's text -/
structure OkDraw (P : Program) (all : List Oper) (anc : List (List Nat)) (n : Nat) : Prop where
  edge : ∀ (o : Oper) (i : Nat), all[i]? = some o → ∀ j ∈ edgesOf o, j < i
  dst : ∀ (o : Oper) (i : Nat), all[i]? = some o → ∀ d, o.dst = some d → d < n
  self : ∀ (o : Oper) (i : Nat), all[i]? = some o → quiet P o.op = true → ∀ d, o.dst = some d → d ∉ X.looks all o
  ancs : ∀ (o : Oper) (i : Nat), all[i]? = some o → ∀ k ∈ anc.getD i [], k ∈ edgesOf o ∨ ∃ j ∈ edgesOf o, k ∈ anc.getD j []
  uniq : ∀ (o : Oper) (i : Nat) (p : Oper) (j : Nat), all[i]? = some o → all[j]? = some p → j ≠ i → ∀ d, o.dst = some d → p.dst ≠ some d
  looking : ∀ (o : Oper) (i : Nat) (p : Oper) (j : Nat), all[i]? = some o → all[j]? = some p → j ≠ i → ∀ d, p.dst = some d → d ∈ X.looks all o → j ∈ anc.getD i [] ∨ (i ∈ anc.getD j [] ∧ quiet P p.op = false)
theorem okDraw_spec {n : Nat} (h : okDraw P all n = true) : OkDraw P all (ancs all) n := by
  unfold okDraw at h
  rw [allB_iff] at h
  have h' : ∀ o i, all[i]? = some o → okOp P all (ancs all) n (numbered 0 all) o i = true := fun o i hi => h (o, i) (numbered_mem0.2 hi)
  have pair : ∀ o i p j, all[i]? = some o → all[j]? = some p → j ≠ i → (match o.dst with | some d => !dstIs p d | none => true) = true ∧
      (match anyB (dstIs p) (X.looks all o) with | false => true | true => mem j ((ancs all).getD i []) || (mem i ((ancs all).getD j []) && !quiet P p.op)) = true := by
    intro o i p j hi hj hne
    have h1 := h' o i hi
    unfold okOp at h1
    simp only [Bool.and_eq_true] at h1
    have h2 := (allB_iff.1 h1.2) (p, j) (numbered_mem0.2 hj)
    unfold okPair at h2
    have : Nat.beq j i = false := by
      cases hb : Nat.beq j i with
      | true => exact absurd (Nat.eq_of_beq_eq_true hb) hne
      | false => rfl
    simp only [this, Bool.and_eq_true] at h2
    exact h2
  refine ⟨?_, ?_, ?_, ?_, ?_, ?_⟩
  · intro o i hi j hj
    have h1 := h' o i hi
    unfold okOp at h1
    simp only [Bool.and_eq_true] at h1
    have := (allB_iff.1 h1.1.1.1.1) j hj
    simpa [Nat.blt_eq] using this
  · intro o i hi d hd
    have h1 := h' o i hi
    unfold okOp at h1
    simp only [Bool.and_eq_true, hd] at h1
    have := h1.1.1.1.2
    simpa [Nat.blt_eq] using this
  · intro o i hi hq d hd hm
    have h1 := h' o i hi
    unfold okOp at h1
    simp only [Bool.and_eq_true, hq] at h1
    have := h1.1.1.2
    simp only [Bool.not_eq_true'] at this
    have h3 : anyB (dstIs o) (X.looks all o) = true := anyB_iff.2 ⟨d, hm, dstIs_iff.2 hd⟩
    rw [h3] at this; cases this
  · intro o i hi k hk
    have h1 := h' o i hi
    unfold okOp at h1
    simp only [Bool.and_eq_true] at h1
    have := (allB_iff.1 h1.1.2) k hk
    rw [Bool.or_eq_true] at this
    rcases this with h | h
    · exact .inl (mem_iff.1 h)
    · obtain ⟨j, hj, hk⟩ := anyB_iff.1 h
      exact .inr ⟨j, hj, mem_iff.1 hk⟩
  · intro o i p j hi hj hne d hd hp
    have := (pair o i p j hi hj hne).1
    rw [hd] at this
    simp only [Bool.not_eq_true'] at this
    rw [dstIs_iff.2 hp] at this; cases this
  · intro o i p j hi hj hne d hd hm
    have := (pair o i p j hi hj hne).2
    rw [anyB_iff.2 ⟨d, hm, dstIs_iff.2 hd⟩] at this
    simp only [Bool.or_eq_true, Bool.and_eq_true, Bool.not_eq_true'] at this
    rcases this with h | h
    · exact .inl (mem_iff.1 h)
    · exact .inr ⟨mem_iff.1 h.1, h.2⟩

/-- how the order that is drawn stands to the one that is reckoned -/
structure Inv (P : Program) (all : List Oper) (anc : List (List Nat)) (n : Nat) (hard done : List Nat) (virt : List (Oper × Nat)) (l : List Value) (w : World) (lst : Array Bool) (a : Act) (l0 : List Value) : Prop where
  size : lst.size = all.length
  len : l.length = n
  defers : a.defers = []
  tsz : a.tmps.size = n
  slots : ∀ s, (∀ o i, (o, i) ∈ virt → lst.getD i false = false → o.dst ≠ some s) → a.tmps[s]? = l[s]?
  ldone : ∀ i, lst.getD i false = true → i ∈ done
  hl : ∀ i ∈ hard, lst.getD i false = true
  split : ∀ i ∈ done, i ∈ hard ∨ ∃ o, (o, i) ∈ virt
  virtok : ∀ o i, (o, i) ∈ virt → all[i]? = some o ∧ quiet P o.op = true ∧ i ∈ done
  danc : ∀ i ∈ done, ∀ k ∈ anc.getD i [], k ∈ done
  facts : ∀ o i, (o, i) ∈ virt → lst.getD i false = false → QFact P all o l w
  la : ∀ i, lst.getD i false = true → ∀ k ∈ anc.getD i [], lst.getD k false = true
  agr : Agree all l0 l

theorem eager_sound {anc : List (List Nat)} {n : Nat} (hok : OkDraw P all anc n) {hard : List Nat} {w : World} {lst : Array Bool} {a : Act} {l0 : List Value}
    {F : List Nat → List (Oper × Nat) → List Value → World → Prop} :
    ∀ (r : List Oper) (c : Nat), (∀ o i, (o, i) ∈ numbered c r ↔ c ≤ i ∧ all[i]? = some o) → ∀ (done : List Nat) (virt : List (Oper × Nat)) (l : List Value),
      Inv P all anc n hard done virt l w lst a l0 → (∀ o i, i < c → all[i]? = some o → quiet P o.op = true → (∀ j ∈ edgesOf o, j ∈ done) → i ∈ done) →
      vcEager P all F (numbered c r) done virt l w →
      ∃ done' virt' l', F done' virt' l' w ∧ Inv P all anc n hard done' virt' l' w lst a l0 ∧
        (∀ o i, all[i]? = some o → quiet P o.op = true → (∀ j ∈ edgesOf o, j ∈ done') → i ∈ done') := by
  intro r
  induction r with
  | nil =>
    intro c hr done virt l hI hc h
    refine ⟨done, virt, l, h, hI, fun o i hi hq hj => hc o i ?_ hi hq hj⟩
    rcases Nat.lt_or_ge i c with h | h
    · exact h
    · exact absurd ((hr o i).2 ⟨h, hi⟩) (by simp [numbered])
  | cons o r ih =>
    intro c hr done virt l hI hc h
    have ho : all[c]? = some o := ((hr o c).1 (by simp [numbered])).2
    have hr' : ∀ o' i, (o', i) ∈ numbered (c + 1) r ↔ c + 1 ≤ i ∧ all[i]? = some o' := by
      intro o' i
      have := hr o' i
      simp only [numbered, List.mem_cons, Prod.mk.injEq] at this
      constructor
      · intro hm
        have h1 := this.1 (.inr hm)
        refine ⟨?_, h1.2⟩
        have := (numbered_mem r (c + 1)).1 hm
        exact this.1
      · rintro ⟨h1, h2⟩
        rcases this.2 ⟨by omega, h2⟩ with ⟨_, h3⟩ | h3
        · omega
        · exact h3
    simp only [numbered, vcEager] at h
    split at h
    · rename_i hm
      refine ih (c + 1) hr' done virt l hI (fun o' i hi h1 h2 h3 => ?_) h
      rcases Nat.lt_succ_iff_lt_or_eq.1 hi with h4 | h4
      · exact hc o' i h4 h1 h2 h3
      · subst h4; exact mem_iff.1 hm
    · rename_i hm
      have hm' := mem_false.1 hm
      split at h
      · rename_i hq hs
        have hs' := subs_iff.1 hs
        obtain ⟨v, hK, hv⟩ := vcG_quiet hq h
        have hnv : ∀ o2 i2, (o2, i2) ∈ virt → i2 ≠ c := fun o2 i2 hm2 e => hm' (e ▸ (hI.virtok o2 i2 hm2).2.2)
        have hanc : ∀ k ∈ anc.getD c [], k ∈ done := fun k hk => by
          rcases hok.ancs o c ho k hk with h1 | ⟨j, h1, h2⟩
          · exact hs' k h1
          · exact hI.danc j (hs' j h1) k h2
        refine ih (c + 1) hr' (c :: done) ((o, c) :: virt) (put l o.dst v) ?_ (fun o' i hi h1 h2 h3 => ?_) hK
        · refine ⟨hI.size, by rw [put_length]; exact hI.len, hI.defers, hI.tsz, ?_, fun i hi => List.mem_cons_of_mem _ (hI.ldone i hi), hI.hl, ?_, ?_, ?_, ?_, hI.la, ⟨by rw [put_length]; exact hI.agr.1, fun s hs => by rw [put_get_ne (hs o (List.mem_of_getElem? ho))]; exact hI.agr.2 s hs⟩⟩
          · intro s hs2
            have hun : lst.getD c false = false := by
              cases hx : lst.getD c false with
              | false => rfl
              | true => exact absurd (hI.ldone c hx) hm'
            rw [put_get_ne (hs2 o c (by simp) hun)]
            exact hI.slots s fun o2 i2 h2 h3 => hs2 o2 i2 (List.mem_cons_of_mem _ h2) h3
          · intro i hi
            rcases List.mem_cons.1 hi with h1 | h1
            · exact .inr ⟨o, by simp [h1]⟩
            · rcases hI.split i h1 with h2 | ⟨o2, h2⟩
              · exact .inl h2
              · exact .inr ⟨o2, List.mem_cons_of_mem _ h2⟩
          · intro o2 i2 h2
            rcases List.mem_cons.1 h2 with h3 | h3
            · cases h3; exact ⟨ho, hq, by simp⟩
            · obtain ⟨h4, h5, h6⟩ := hI.virtok o2 i2 h3
              exact ⟨h4, h5, List.mem_cons_of_mem _ h6⟩
          · intro i hi k hk
            rcases List.mem_cons.1 hi with h1 | h1
            · subst h1; exact List.mem_cons_of_mem _ (hanc k hk)
            · exact List.mem_cons_of_mem _ (hI.danc i h1 k hk)
          · intro o2 i2 h2 h3
            rcases List.mem_cons.1 h2 with h4 | h4
            · cases h4
              have hag : ∀ t ∈ looks all o, (put l o.dst v)[t]? = l[t]? := fun t ht => put_get_ne fun e => hok.self o c ho hq t e ht
              have hsame : ∀ d, o.dst = some d → (put l o.dst v)[d]? = some v := fun d hd => by
                rw [hd]; exact put_get_same (by rw [hI.len]; exact hok.dst o c ho d hd)
              have hw : Region.wanted o (yielded all.toArray (put l o.dst v).toArray) = Region.wanted o (yielded all.toArray l.toArray) := wanted_agree fun t ht => by simpa using hag t ht
              have he : execOp (ev (put l o.dst v)) o = execOp (ev l) o := execOp_congr o (quiet_noSelect hq) fun x hx => evl_agree fun t ht => by subst ht; exact hag t (mem_looks hx)
              rcases hv with ⟨h5, rfl⟩ | ⟨h5, h6, h7⟩
              · exact .inl ⟨by rw [hw]; exact h5, hsame⟩
              · exact .inr ⟨by rw [hw]; exact h5, v, hsame, kept_ev hag h6, fun w2 h8 => by rw [he]; exact h7 w2 (kept_ev (fun t ht => (hag t ht).symm) h8)⟩
            · obtain ⟨h5, h6, h7⟩ := hI.virtok o2 i2 h4
              have hne := hnv o2 i2 h4
              have hag : ∀ t ∈ looks all o2, (put l o.dst v)[t]? = l[t]? := fun t ht => put_get_ne fun e => by
                rcases hok.looking o2 i2 o c h5 ho (Ne.symm hne) t e ht with h8 | ⟨_, h8⟩
                · exact hm' (hI.danc i2 h7 c h8)
                · rw [hq] at h8; cases h8
              exact (hI.facts o2 i2 h4 h3).agree h6 hag (fun d hd => put_get_ne fun e => hok.uniq o2 i2 o c h5 ho (Ne.symm hne) d hd e) fun _ u _ hu => kept_ev hag hu
        · rcases Nat.lt_succ_iff_lt_or_eq.1 hi with h4 | h4
          · refine List.mem_cons_of_mem _ (hc o' i h4 h1 h2 fun j hj => ?_)
            rcases List.mem_cons.1 (h3 j hj) with h5 | h5
            · have := hok.edge o' i h1 j hj; omega
            · exact h5
          · subst h4; exact List.mem_cons_self
      · rename_i hx
        refine ih (c + 1) hr' done virt l hI (fun o' i hi h1 h2 h3 => ?_) h
        rcases Nat.lt_succ_iff_lt_or_eq.1 hi with h4 | h4
        · exact hc o' i h4 h1 h2 h3
        · subst h4
          rw [ho] at h1; cases h1
          exact (hx h2 (subs_iff.2 h3)).elim

theorem hardReady_mem {done : List Nat} {o : Oper} {i : Nat} : ∀ (l : List (Oper × Nat)), (o, i) ∈ l → i ∉ done → quiet P o.op = false → (∀ j ∈ edgesOf o, j ∈ done) → (o, i) ∈ hardReady P done l := by
  intro l
  induction l with
  | nil => intro h; simp at h
  | cons x r ih =>
    intro h hd hq he
    obtain ⟨o2, i2⟩ := x
    simp only [hardReady]
    rcases List.mem_cons.1 h with h1 | h1
    · cases h1
      rw [mem_false.2 hd, hq, subs_iff.2 he]
      simp
    · split
      · exact List.mem_cons_of_mem _ (ih h1 hd hq he)
      · exact ih h1 hd hq he
theorem hardReady_nil {done : List Nat} : ∀ (l : List (Oper × Nat)), (∀ o i, (o, i) ∈ l → i ∈ done) → hardReady P done l = [] := by
  intro l
  induction l with
  | nil => intro _; rfl
  | cons x r ih =>
    intro h
    obtain ⟨o2, i2⟩ := x
    simp only [hardReady]
    rw [mem_iff.2 (h o2 i2 (by simp))]
    exact ih fun o i hm => h o i (List.mem_cons_of_mem _ hm)
theorem allOf_mem {α : Type} {F : α → Prop} : ∀ (l : List α), allOf F l → ∀ x ∈ l, F x := by
  intro l
  induction l with
  | nil => intro _ x hx; simp at hx
  | cons y r ih =>
    intro h x hx
    cases r with
    | nil => simp at hx; subst hx; exact h
    | cons z r =>
      obtain ⟨h1, h2⟩ := h
      rcases List.mem_cons.1 hx with h3 | h3
      · subst h3; exact h1
      · exact ih h2 x h3
theorem keeps_elim {anc : List (List Nat)} {hard : List Nat} {l : List Value} {w : World} {X : Prop} : ∀ (virt : List (Oper × Nat)), keeps P all anc hard l w X virt →
    X ∧ ∀ o i t x, (o, i) ∈ virt → o.op = .load t x → (∀ h ∈ hard, i ∉ anc.getD h []) → Region.wanted o (yielded all.toArray l.toArray) = true → ∃ d, o.dst = some d ∧ xKeep P w t (ev l x) (l.getD d undef) := by
  intro virt
  induction virt with
  | nil => intro h; exact ⟨h, fun o i t x hm => by simp at hm⟩
  | cons y r ih =>
    intro h
    obtain ⟨o2, i2⟩ := y
    simp only [keeps] at h
    split at h
    · rename_i t2 x2 ho2
      split at h
      · rename_i ha
        obtain ⟨hX, hr⟩ := ih h
        refine ⟨hX, fun o i t x hm ho hn hw => ?_⟩
        rcases List.mem_cons.1 hm with h1 | h1
        · cases h1
          obtain ⟨k, hk, hm2⟩ := anyAnc_iff.1 ha
          exact absurd hm2 (hn k hk)
        · exact hr o i t x h1 ho hn hw
      · split at h
        · rename_i d hd
          have go : (xKeep P w t2 (ev l x2) (l.getD d undef) ∧ keeps P all anc hard l w X r) → X ∧ ∀ o i t x, (o, i) ∈ (o2, i2) :: r → o.op = .load t x → (∀ h ∈ hard, i ∉ anc.getD h []) → Region.wanted o (yielded all.toArray l.toArray) = true → ∃ d, o.dst = some d ∧ xKeep P w t (ev l x) (l.getD d undef) := by
            rintro ⟨hk, h⟩
            obtain ⟨hX, hr⟩ := ih h
            refine ⟨hX, fun o i t x hm ho hn hw => ?_⟩
            rcases List.mem_cons.1 hm with h1 | h1
            · cases h1
              rw [ho2] at ho; cases ho
              exact ⟨d, hd, hk⟩
            · exact hr o i t x h1 ho hn hw
          have no : Region.wanted o2 (yielded all.toArray l.toArray) = false → keeps P all anc hard l w X r → X ∧ ∀ o i t x, (o, i) ∈ (o2, i2) :: r → o.op = .load t x → (∀ h ∈ hard, i ∉ anc.getD h []) → Region.wanted o (yielded all.toArray l.toArray) = true → ∃ d, o.dst = some d ∧ xKeep P w t (ev l x) (l.getD d undef) := by
            rintro hf h
            obtain ⟨hX, hr⟩ := ih h
            refine ⟨hX, fun o i t x hm ho hn hw => ?_⟩
            rcases List.mem_cons.1 hm with h1 | h1
            · cases h1
              rw [hf] at hw; cases hw
            · exact hr o i t x h1 ho hn hw
          split at h
          · exact go h
          · rename_i j want hg
            split at h
            · exact h.elim
            · rename_i gd hgd
              have hy := yield_at (l := l) hgd
              simp only [actOf] at hy
              split at h
              · rename_i b hb
                rw [hb] at hy
                split at h
                · exact go h
                · exact go h
                · rename_i hn1 hn2
                  refine no ?_ h
                  simp only [Region.wanted, hg, hy]
                  cases b <;> cases want <;> first | rfl | exact absurd rfl (hn1 rfl) | exact absurd rfl (hn2 rfl)
              · rename_i hnb
                refine no ?_ h
                have : isBool (l.getD gd undef) = false := by
                  cases hx : l.getD gd undef <;> first | rfl | exact absurd hx (hnb _)
                rw [notBool_yield this] at hy
                simp [Region.wanted, hg, hy]
        · exact h.elim
    · rename_i hno
      obtain ⟨hX, hr⟩ := ih h
      refine ⟨hX, fun o i t x hm ho hn hw => ?_⟩
      rcases List.mem_cons.1 hm with h1 | h1
      · cases h1; exact absurd ho (hno t x)
      · exact hr o i t x h1 ho hn hw

theorem edges_listed {o : Oper} {lst : Array Bool} : (o.after.all fun e => !Region.binds .any e || lst.getD e.on false) = true ↔ ∀ j ∈ edgesOf o, lst.getD j false = true := by
  unfold edgesOf
  rw [Array.all_eq_true_iff_forall_mem]
  constructor
  · intro h j hj
    obtain ⟨e, he, hx⟩ := List.mem_filterMap.1 hj
    have := h e (by simpa using he)
    cases hb : Region.binds .any e with
    | true => simp [hb] at hx this; subst hx; simpa using this
    | false => simp [hb] at hx
  · intro h e he
    cases hb : Region.binds .any e with
    | true =>
      have := h e.on (List.mem_filterMap.2 ⟨e, by simpa using he, by simp [hb]⟩)
      simp [this]
    | false => simp
theorem ready_iff {lst : Array Bool} {i : Nat} : i ∈ Region.ready .any all.toArray lst ↔ ∃ o, all[i]? = some o ∧ lst.getD i true = false ∧ ∀ j ∈ edgesOf o, lst.getD j false = true := by
  unfold Region.ready
  simp only [List.mem_filter, List.mem_range, List.size_toArray, List.getElem?_toArray, Bool.and_eq_true, Bool.not_eq_true']
  constructor
  · rintro ⟨h1, h2, h3⟩
    cases ho : all[i]? with
    | none => simp [ho] at h3
    | some o =>
      simp only [ho, Option.map_some, Option.getD_some] at h3
      exact ⟨o, rfl, h2, edges_listed.1 h3⟩
  · rintro ⟨o, ho, h2, h3⟩
    refine ⟨?_, h2, ?_⟩
    · rcases Nat.lt_or_ge i all.length with h | h
      · exact h
      · rw [List.getElem?_eq_none h] at ho; cases ho
    · simp only [ho, Option.map_some, Option.getD_some]; exact edges_listed.2 h3

/-- how many are not listed -/
def unl (lst : Array Bool) : Nat → Nat
  | 0 => 0
  | k + 1 => unl lst k + (match lst.getD k false with | true => 0 | false => 1)
theorem unl_set {lst : Array Bool} {i : Nat} (hs : i < lst.size) (h : lst.getD i false = false) : ∀ k, unl (lst.setIfInBounds i true) k + (if i < k then 1 else 0) = unl lst k := by
  intro k
  induction k with
  | zero => simp [unl]
  | succ k ih =>
    simp only [unl]
    by_cases hk : i = k
    · subst hk
      have h1 : (lst.setIfInBounds i true).getD i false = true := by simp [hs]
      rw [h1, h]
      simp at ih ⊢
      omega
    · have h1 : (lst.setIfInBounds i true).getD k false = lst.getD k false := by simp [Array.getElem?_setIfInBounds_ne hk]
      rw [h1, ← ih]
      by_cases h2 : i < k
      · rw [if_pos h2, if_pos (by omega)]; omega
      · rw [if_neg h2, if_neg (by omega)]; omega
theorem unl_zero {lst : Array Bool} : ∀ {k}, unl lst k = 0 → ∀ i, i < k → lst.getD i false = true := by
  intro k
  induction k with
  | zero => intro _ i hi; omega
  | succ k ih =>
    intro h i hi
    simp only [unl] at h
    rcases Nat.lt_succ_iff_lt_or_eq.1 hi with h1 | h1
    · exact ih (by omega) i h1
    · subst h1
      cases hx : lst.getD i false with
      | true => rfl
      | false => rw [hx] at h; simp at h
theorem getD_false {lst : Array Bool} {i : Nat} (h : i < lst.size) : lst.getD i true = lst.getD i false := by simp [h]

theorem all_listed {anc : List (List Nat)} {n : Nat} (hok : OkDraw P all anc n) {lst : Array Bool} (hs : lst.size = all.length) (h : Region.ready .any all.toArray lst = []) :
    ∀ i, i < all.length → lst.getD i false = true := by
  intro i
  induction i using Nat.strongRecOn with
  | _ i ih =>
    intro hi
    cases hx : lst.getD i false with
    | true => rfl
    | false =>
      obtain ⟨o, ho⟩ : ∃ o, all[i]? = some o := ⟨all[i], by simp [hi]⟩
      have : i ∈ Region.ready .any all.toArray lst := ready_iff.2 ⟨o, ho, by rw [getD_false (by omega)]; exact hx, fun j hj => ih j (hok.edge o i ho j hj) (by have := hok.edge o i ho j hj; omega)⟩
      rw [h] at this; simp at this

section
variable {Q : Exit → Act → World → Prop} {K : List Value → World → Prop} {anc : List (List Nat)} {n : Nat}

theorem draw_end {l0 : List Value} (hK : ∀ l w, Agree all l0 l → K l w → Q .normal (actOf l) w) {rec : List Nat → List Nat → List (Oper × Nat) → List Value → World → Prop}
    {hard done : List Nat} {virt : List (Oper × Nat)} {l : List Value} {w : World} {lst : Array Bool} {a : Act} (hI : Inv P all anc n hard done virt l w lst a l0)
    (ha : ∀ i, i < all.length → lst.getD i false = true) (h : vcStep P all anc K rec hard done virt l w) : Q .normal a w := by
  have hn : hardReady P done (numbered 0 all) = [] := hardReady_nil _ fun o i hm => by
    have h1 := numbered_mem0.1 hm
    refine hI.ldone i (ha i ?_)
    rcases Nat.lt_or_ge i all.length with h2 | h2
    · exact h2
    · rw [List.getElem?_eq_none h2] at h1; cases h1
  unfold vcStep at h
  rw [hn] at h
  simp only at h
  split at h
  · have e : a = actOf l := by
      obtain ⟨tm, de⟩ := a
      have hd : de = [] := hI.defers
      have ht : tm = l.toArray := by
        apply Array.ext_getElem?
        intro s
        have := hI.slots s fun o i hm hx => by
          have h1 := (hI.virtok o i hm).1
          have h2 : i < all.length := by
            rcases Nat.lt_or_ge i all.length with h2 | h2
            · exact h2
            · rw [List.getElem?_eq_none h2] at h1; cases h1
          rw [ha i h2] at hx; cases hx
        simpa using this
      rw [hd, ht]; rfl
    rw [e]
    exact hK l w hI.agr h
  · exact h.elim

theorem draw_sound {l0 : List Value} (hok : OkDraw P all anc n) (hK : ∀ l w, Agree all l0 l → K l w → Q .normal (actOf l) w) : ∀ (m fuel : Nat) (hard done : List Nat) (virt : List (Oper × Nat)) (l : List Value) (w : World) (lst : Array Bool) (a : Act),
    Inv P all anc n hard done virt l w lst a l0 → (∀ o i, all[i]? = some o → quiet P o.op = true → (∀ j ∈ edgesOf o, j ∈ done) → i ∈ done) →
    unl lst all.length ≤ m → vcStep P all anc K (vcDraw P all anc K fuel) hard done virt l w → wpAny P .any all.toArray Q m lst a w := by
  intro m
  induction m with
  | zero =>
    intro fuel hard done virt l w lst a hI hc hm h
    have ha := unl_zero (lst := lst) (k := all.length) (by omega)
    refine ⟨?_, draw_end hK hI ha h⟩
    cases hr : Region.ready .any all.toArray lst with
    | nil => rfl
    | cons i r =>
      obtain ⟨o, ho, h1, _⟩ := ready_iff.1 (show i ∈ Region.ready .any all.toArray lst by rw [hr]; simp)
      have h2 : i < all.length := by
        rcases Nat.lt_or_ge i all.length with h2 | h2
        · exact h2
        · rw [List.getElem?_eq_none h2] at ho; cases ho
      rw [getD_false (by rw [hI.size]; exact h2), ha i h2] at h1; cases h1
  | succ m ih =>
    intro fuel hard done virt l w lst a hI hc hm h
    refine ⟨fun hr => draw_end hK hI (all_listed hok hI.size hr) h, fun i hi => ?_⟩
    obtain ⟨o, ho, hun, hed⟩ := ready_iff.1 hi
    have hilt : i < all.length := by
      rcases Nat.lt_or_ge i all.length with h2 | h2
      · exact h2
      · rw [List.getElem?_eq_none h2] at ho; cases ho
    rw [getD_false (by rw [hI.size]; exact hilt)] at hun
    have hanc : ∀ k ∈ anc.getD i [], lst.getD k false = true := fun k hk => by
      rcases hok.ancs o i ho k hk with h1 | ⟨j, h1, h2⟩
      · exact hed k h1
      · exact hI.la j (hed j h1) k h2
    have hlst : ∀ k, (lst.setIfInBounds i true).getD k false = if k = i then true else lst.getD k false := fun k => by
      by_cases hk : k = i
      · subst hk; simp [hI.size, hilt]
      · rw [if_neg hk]; simp [Array.getElem?_setIfInBounds_ne (Ne.symm hk)]
    have hm' : unl (lst.setIfInBounds i true) all.length ≤ m := by
      have := unl_set (lst := lst) (i := i) (by rw [hI.size]; exact hilt) hun all.length
      rw [if_pos hilt] at this; omega
    have hla : ∀ k, (lst.setIfInBounds i true).getD k false = true → ∀ j ∈ anc.getD k [], (lst.setIfInBounds i true).getD j false = true := fun k hk j hj => by
      rw [hlst] at hk ⊢
      split at hk
      · rename_i e; subst e
        split
        · rfl
        · exact hanc j hj
      · split
        · rfl
        · exact hI.la k hk j hj
    have hoa : all.toArray[i]? = some o := by simpa using ho
    unfold wpOp
    rw [hoa]
    simp only
    by_cases hid : i ∈ done
    · have hv : (o, i) ∈ virt := by
        rcases hI.split i hid with h1 | ⟨o2, h1⟩
        · rw [hI.hl i h1] at hun; cases hun
        · have := (hI.virtok o2 i h1).1
          rw [ho] at this; cases this; exact h1
      have hq := (hI.virtok o i hv).2.1
      have hag : ∀ t ∈ looks all o, a.tmps[t]? = l[t]? := fun t ht => hI.slots t fun o2 i2 h1 h2 h3 => by
        obtain ⟨h4, h5, h6⟩ := hI.virtok o2 i2 h1
        by_cases he : i2 = i
        · subst he; rw [ho] at h4; cases h4
          exact hok.self o i2 ho hq t h3 ht
        · rcases hok.looking o i o2 i2 ho h4 he t h3 ht with h7 | ⟨_, h7⟩
          · rw [hanc i2 h7] at h2; cases h2
          · rw [h5] at h7; cases h7
      have hw : Region.wanted o (yielded all.toArray a.tmps) = Region.wanted o (yielded all.toArray l.toArray) := wanted_agree fun t ht => by simpa using hag t ht
      have he : execOp a.eval o = execOp (ev l) o := execOp_congr o (quiet_noSelect hq) fun x hx => ev_agree fun t ht => by subst ht; exact hag t (mem_looks hx)
      have next : ∀ v, (∀ d, o.dst = some d → l[d]? = some v) → wpAny P .any all.toArray Q m (lst.setIfInBounds i true) (a.put o.dst v) w := fun v hv2 => by
        refine ih fuel hard done virt l w _ _ ⟨by simp [hI.size], hI.len, by rw [act_put_defers]; exact hI.defers, by rw [act_put_size]; exact hI.tsz, ?_, ?_, ?_, hI.split, hI.virtok, hI.danc, ?_, hla, hI.agr⟩ hc hm' h
        · intro s hs
          by_cases hd : o.dst = some s
          · rw [hd, act_get_same (by rw [hI.tsz]; exact hok.dst o i ho s hd), hv2 s hd]
          · rw [act_get_ne hd]
            refine hI.slots s fun o2 i2 h1 h2 => ?_
            by_cases he2 : i2 = i
            · subst he2
              have := (hI.virtok o2 i2 h1).1
              rw [ho] at this; cases this; exact hd
            · exact hs o2 i2 h1 (by rw [hlst, if_neg he2]; exact h2)
        · intro k hk
          rw [hlst] at hk
          split at hk
          · rename_i e; subst e; exact hid
          · exact hI.ldone k hk
        · intro k hk
          rw [hlst]
          split
          · rfl
          · exact hI.hl k hk
        · intro o2 i2 h1 h2
          rw [hlst] at h2
          split at h2
          · cases h2
          · exact hI.facts o2 i2 h1 h2
      rcases hI.facts o i hv hun with ⟨h1, h2⟩ | ⟨h1, v, h2, h3, h4⟩
      · rw [hw, h1]
        exact next undef h2
      · rw [hw, h1]
        refine .inl ?_
        refine wp_of_good ?_
        rw [he]
        simp only [Good, h4 w h3]
        exact next v h2
    · have hq : quiet P o.op = false := by
        cases hx : quiet P o.op with
        | false => rfl
        | true => exact absurd (hc o i ho hx fun j hj => hI.ldone j (hed j hj)) hid
      have hr := hardReady_mem (P := P) (done := done) (numbered 0 all) (numbered_mem0.2 ho) hid hq fun j hj => hI.ldone j (hed j hj)
      unfold vcStep at h
      have h2 : vcG P all o l w fun l' w' => keeps P all anc (i :: hard) l' w' (vcDraw P all anc K fuel (i :: hard) (i :: done) virt l' w') virt := by
        split at h
        · rename_i hx; rw [hx] at hr; simp at hr
        · exact allOf_mem _ h (o, i) hr
      have hag : ∀ t ∈ looks all o, a.tmps[t]? = l[t]? := fun t ht => hI.slots t fun o2 i2 h1 h2 h3 => by
        obtain ⟨h4, h5, h6⟩ := hI.virtok o2 i2 h1
        have he : i2 ≠ i := fun e => hid (e ▸ h6)
        rcases hok.looking o i o2 i2 ho h4 he t h3 ht with h7 | ⟨_, h7⟩
        · rw [hanc i2 h7] at h2; cases h2
        · rw [h5] at h7; cases h7
      have hw : Region.wanted o (yielded all.toArray a.tmps) = Region.wanted o (yielded all.toArray l.toArray) := wanted_agree fun t ht => by simpa using hag t ht
      have cont : ∀ v w', keeps P all anc (i :: hard) (put l o.dst v) w' (vcDraw P all anc K fuel (i :: hard) (i :: done) virt (put l o.dst v) w') virt →
          wpAny P .any all.toArray Q m (lst.setIfInBounds i true) (a.put o.dst v) w' := by
        intro v w' hk
        obtain ⟨hD, hkp⟩ := keeps_elim virt hk
        cases fuel with
        | zero => exact hD.elim
        | succ fuel =>
          have hne : ∀ o2 i2, (o2, i2) ∈ virt → i2 ≠ i := fun o2 i2 h1 e => hid (e ▸ (hI.virtok o2 i2 h1).2.2)
          have hI0 : Inv P all anc n (i :: hard) (i :: done) virt (put l o.dst v) w' (lst.setIfInBounds i true) (a.put o.dst v) l0 := by
            refine ⟨by simp [hI.size], by rw [put_length]; exact hI.len, by rw [act_put_defers]; exact hI.defers, by rw [act_put_size]; exact hI.tsz, ?_, ?_, ?_, ?_, ?_, ?_, ?_, hla, ⟨by rw [put_length]; exact hI.agr.1, fun s hs => by rw [put_get_ne (hs o (List.mem_of_getElem? ho))]; exact hI.agr.2 s hs⟩⟩
            · intro s hs
              by_cases hd : o.dst = some s
              · have hlt := hok.dst o i ho s hd
                rw [hd, act_get_same (by rw [hI.tsz]; exact hlt), put_get_same (by rw [hI.len]; exact hlt)]
              · rw [act_get_ne hd, put_get_ne hd]
                exact hI.slots s fun o2 i2 h1 h3 => hs o2 i2 h1 (by rw [hlst, if_neg (hne o2 i2 h1)]; exact h3)
            · intro k hk
              rw [hlst] at hk
              split at hk
              · rename_i e; subst e; exact List.mem_cons_self
              · exact List.mem_cons_of_mem _ (hI.ldone k hk)
            · intro k hk
              rw [hlst]
              split
              · rfl
              · rename_i e
                rcases List.mem_cons.1 hk with h1 | h1
                · exact absurd h1 e
                · exact hI.hl k h1
            · intro k hk
              rcases List.mem_cons.1 hk with h1 | h1
              · subst h1; exact .inl List.mem_cons_self
              · rcases hI.split k h1 with h3 | h3
                · exact .inl (List.mem_cons_of_mem _ h3)
                · exact .inr h3
            · intro o2 i2 h1
              obtain ⟨h3, h4, h5⟩ := hI.virtok o2 i2 h1
              exact ⟨h3, h4, List.mem_cons_of_mem _ h5⟩
            · intro k hk j hj
              rcases List.mem_cons.1 hk with h1 | h1
              · subst h1; exact List.mem_cons_of_mem _ (hI.ldone j (hanc j hj))
              · exact List.mem_cons_of_mem _ (hI.danc k h1 j hj)
            · intro o2 i2 h1 h3
              obtain ⟨h4, h5, h6⟩ := hI.virtok o2 i2 h1
              have hn2 := hne o2 i2 h1
              rw [hlst, if_neg hn2] at h3
              have hag2 : ∀ t ∈ looks all o2, (put l o.dst v)[t]? = l[t]? := fun t ht => put_get_ne fun e => by
                rcases hok.looking o2 i2 o i h4 ho (Ne.symm hn2) t e ht with h8 | ⟨h8, _⟩
                · exact hid (hI.danc i2 h6 i h8)
                · rw [hanc i2 h8] at h3; cases h3
              have hds : ∀ d, o2.dst = some d → (put l o.dst v)[d]? = l[d]? := fun d hd => put_get_ne fun e => hok.uniq o2 i2 o i h4 ho (Ne.symm hn2) d hd e
              refine (hI.facts o2 i2 h1 h3).agree h5 hag2 hds fun hwd u hu _ => ?_
              have hwd' : Region.wanted o2 (yielded all.toArray (put l o.dst v).toArray) = true := by
                rw [wanted_agree (T := l.toArray) fun t ht => by simpa using hag2 t ht]; exact hwd
              unfold Kept
              cases ho2 : o2.op <;> simp only <;> try trivial
              rename_i t x
              obtain ⟨d, hd, hx⟩ := hkp o2 i2 t x h1 ho2 (fun k hk hin => by
                rcases List.mem_cons.1 hk with h7 | h7
                · subst h7; rw [hanc i2 hin] at h3; cases h3
                · rw [hI.la k (hI.hl k h7) i2 hin] at h3; cases h3) hwd'
              have : (put l o.dst v).getD d undef = u := by
                have h7 := hds d hd
                rw [hu d hd] at h7
                simp [h7]
              rw [this] at hx
              exact hx
          simp only [vcDraw] at hD
          obtain ⟨done', virt', l', hF, hI', hc'⟩ := eager_sound hok all 0 (fun o i => by rw [numbered_mem0]; simp) (i :: done) virt (put l o.dst v) hI0 (fun o i h1 => by omega) hD
          exact ih fuel (i :: hard) done' virt' l' w' _ _ hI' hc' hm' hF
      rcases vcG_good h2 with ⟨h1, h3⟩ | ⟨h1, h3⟩
      · have hns : ∀ cs b, o.op ≠ .select cs b := fun cs b e => by
          obtain ⟨dst, op, ty, pos, after, guard⟩ := o
          simp only at e
          subst e
          simp only [Good, execOp] at h3
          split at h3 <;> first | exact h3 | (rename_i hx; simp [Sem.run_bind] at hx; revert hx; generalize Sem.run P _ w = r; cases r <;> simp)
        have he : execOp a.eval o = execOp (ev l) o := execOp_congr o hns fun x hx => ev_agree fun t ht => by subst ht; exact hag t (mem_looks hx)
        rw [hw, h1, if_pos rfl]
        refine .inl (wp_of_good ?_)
        rw [he]
        exact good_mono (fun v w' hk => cont v w' hk) h3
      · rw [hw, h1]
        exact cont undef w h3

theorem region_draw_sound {id : Nat} (hmix : P.follows .mixedOrders = true) {l : List Value} {w : World} (hl : l.length = n) (hok : okDraw P all n = true) (hK : ∀ l' w, Agree all l l' → K l' w → Q .normal (actOf l') w)
    (h : vcDraw P all (ancs all) K (all.length + 1) [] [] [] l w.drew) : (Code.region id all.toArray true).wp P Q (actOf l) w := by
  have hok' := okDraw_spec hok
  refine wp_region_any hmix ?_
  simp only [vcDraw] at h
  have hf : ∀ k, (Array.replicate all.length false).getD k false = false := fun k => by
    by_cases hk : k < all.length <;> simp [hk]
  have hI0 : Inv P all (ancs all) n [] [] [] l w.drew (Array.replicate all.length false) (actOf l) l :=
    { size := by simp
      len := hl
      defers := rfl
      tsz := by simp [actOf, hl]
      slots := fun s _ => by simp [actOf]
      ldone := fun i hi => by rw [hf] at hi; cases hi
      hl := fun i hi => by simp at hi
      split := fun i hi => by simp at hi
      virtok := fun o i hm => by simp at hm
      danc := fun i hi => by simp at hi
      facts := fun o i hm => by simp at hm
      la := fun i hi => by rw [hf] at hi; cases hi
      agr := ⟨rfl, fun s _ => rfl⟩ }
  obtain ⟨done', virt', l', hF, hI', hc'⟩ := eager_sound hok' all 0 (fun o i => by rw [numbered_mem0]; simp) [] [] l hI0 (fun o i h1 => by omega) h
  have hle : ∀ k, unl (Array.replicate all.length false) k ≤ k := fun k => by
    induction k with
    | zero => simp [unl]
    | succ k ih => simp only [unl]; split <;> omega
  exact draw_sound hok' hK all.toArray.size all.length [] done' virt' l' w.drew _ _ hI' hc' (by simpa using hle all.length) hF
end
end
end Go.Proofs.YtbfnagdpanfphaaGreatDoor.X
end
section
namespace Go.Proofs.YtbfnagdpanfphaaGreatDoor.X
open Go
set_option linter.unusedSimpArgs false
set_option linter.unusedVariables false

theorem addN_mem {i s : Nat} {l : List Nat} : s ∈ addN i l ↔ s = i ∨ s ∈ l := by
  unfold addN
  cases h : mem i l with
  | true =>
    have := mem_iff.1 h
    exact ⟨.inr, fun h => by rcases h with rfl | h <;> assumption⟩
  | false => simp only [List.mem_append, List.mem_singleton]; exact Or.comm
theorem wsOf_mem {s : Nat} : ∀ (r : List RW) (acc : List Nat), s ∈ wsOf r acc ↔ s ∈ acc ∨ RW.wr s ∈ r ∨ RW.as s ∈ r := by
  intro r
  induction r with
  | nil => intro acc; simp [wsOf]
  | cons x r ih =>
    intro acc
    cases x with
    | rd t => simp [wsOf, ih]
    | wr t =>
      simp only [wsOf, ih, addN_mem, List.mem_cons, RW.wr.injEq, reduceCtorEq, false_or]
      constructor
      · rintro ((h | h) | h | h) <;> simp [h]
      · rintro (h | (h | h) | h) <;> simp [h]
    | as t =>
      simp only [wsOf, ih, addN_mem, List.mem_cons, RW.as.injEq, reduceCtorEq, false_or]
      constructor
      · rintro ((h | h) | h | h) <;> simp [h]
      · rintro (h | h | h | h) <;> simp [h]
/-- what code writes -/
def Wr (c : Code) (s : Nat) : Prop := RW.wr s ∈ rwOf c ∨ RW.as s ∈ rwOf c
theorem loopW_mem {c : Code} {s : Nat} : s ∈ loopW c ↔ Wr c s := by
  unfold loopW; rw [wsOf_mem]; simp [Wr]
theorem wr_region {id : Nat} {ops : Array Oper} {d : Bool} {s : Nat} {o : Oper} (ho : o ∈ ops.toList) (hd : o.dst = some s) : Wr (.region id ops d) s := by
  have : RW.wr s ∈ rwOp o ops.toList ∨ RW.as s ∈ rwOp o ops.toList := by
    unfold rwOp
    rw [hd]
    cases o.op <;> simp
  unfold Wr
  simp only [rwOf]
  rcases this with h | h
  · exact .inl (List.mem_flatMap.2 ⟨o, ho, h⟩)
  · exact .inr (List.mem_flatMap.2 ⟨o, ho, h⟩)

theorem ovl_length (ws lv : List Nat) (vs : List Value) (g : Nat → Value) : ∀ (l : List Value) (c : Nat), (ovl ws lv vs g c l).length = l.length := by
  intro l
  induction l with
  | nil => intro c; rfl
  | cons v r ih => intro c; simp [ovl, ih]
theorem ovl_get_out {ws lv : List Nat} {vs : List Value} {g : Nat → Value} : ∀ (l : List Value) (c s : Nat), c + s ∉ ws → (ovl ws lv vs g c l)[s]? = l[s]? := by
  intro l
  induction l with
  | nil => intro c s _; rfl
  | cons v r ih =>
    intro c s h
    cases s with
    | zero => simp only [ovl, Nat.add_zero] at h ⊢; rw [mem_false.2 h]; rfl
    | succ s => simp only [ovl, List.getElem?_cons_succ]; exact ih (c + 1) s (by rw [show c + 1 + s = c + (s + 1) by omega]; exact h)
theorem placeOf_some {i : Nat} : ∀ (l : List Nat) (k j : Nat), placeOf i l k = some j → ∃ m, j = k + m ∧ l[m]? = some i := by
  intro l
  induction l with
  | nil => intro k j h; simp [placeOf] at h
  | cons x r ih =>
    intro k j h
    unfold placeOf at h
    split at h
    · rename_i hb
      cases h
      exact ⟨0, rfl, by simp [Nat.eq_of_beq_eq_true hb]⟩
    · obtain ⟨m, h1, h2⟩ := ih (k + 1) j h
      exact ⟨m + 1, by omega, by simpa using h2⟩
/-- a frame is itself with its own slots laid over it -/
theorem ovl_self {ws lv : List Nat} {f : Nat → Value} : ∀ (l l' : List Value) (c : Nat), l'.length = l.length → (∀ s, c + s ∉ ws → l'[s]? = l[s]?) → (∀ s, s < l'.length → l'[s]? = some (f (c + s))) →
    ovl ws lv (lv.map f) f c l = l' := by
  intro l
  induction l with
  | nil => intro l' c hl _ _; simp [ovl]; exact List.eq_nil_of_length_eq_zero hl
  | cons v r ih =>
    intro l' c hl ho hf
    cases l' with
    | nil => simp at hl
    | cons u r' =>
      simp only [ovl]
      congr 1
      · have hu : u = f c := by simpa using hf 0 (by simp)
        cases hm : mem c ws with
        | true =>
          simp only
          split
          · rename_i k hk
            obtain ⟨m, h1, h2⟩ := placeOf_some lv 0 k hk
            have : k = m := by omega
            subst this
            simp [h2, hu]
          · exact hu.symm
        | false => simpa using (ho 0 (by simpa using mem_false.1 hm)).symm
      · refine ih r' (c + 1) (by simpa using hl) (fun s hs => ?_) (fun s hs => ?_)
        · have := ho (s + 1) (by rw [show c + (s + 1) = c + 1 + s by omega]; exact hs)
          simpa using this
        · have := hf (s + 1) (by simpa using hs)
          rw [show c + (s + 1) = c + 1 + s by omega] at this
          simpa using this
theorem ovl_frame {ws lv : List Nat} {l l' : List Value} (hl : l'.length = l.length) (ho : ∀ s, s ∉ ws → l'[s]? = l[s]?) :
    ovl ws lv (lv.map fun i => l'.getD i undef) (fun i => l'.getD i undef) 0 l = l' :=
  ovl_self l l' 0 hl (fun s hs => ho s (by simpa using hs)) fun s hs => by simp [hs]

section
variable {P : Program} {n : Nat}

theorem vc_sound (hmix : P.follows .mixedOrders = true) : ∀ (c : Code) (Q : Exit → List Value → World → Prop) (Q' : Exit → Act → World → Prop) (l : List Value) (w : World), l.length = n →
    (∀ e l' w', l'.length = n → (∀ s, ¬ Wr c s → l'[s]? = l[s]?) → Q e l' w' → Q' e (actOf l') w') → vc P n c Q l w → c.wp P Q' (actOf l) w := by
  intro c
  induction c with
  | skip => intro Q Q' l w hl hq h; exact wp_skip (hq _ _ _ hl (fun _ _ => rfl) h)
  | label i => intro Q Q' l w hl hq h; exact wp_label (hq _ _ _ hl (fun _ _ => rfl) h)
  | exit i => intro Q Q' l w hl hq h; exact wp_exit (hq _ _ _ hl (fun _ _ => rfl) h)
  | ret => intro Q Q' l w hl hq h; exact wp_ret (hq _ _ _ hl (fun _ _ => rfl) h)
  | goto i => intro Q Q' l w hl hq h; exact h.elim
  | refuse s => intro Q Q' l w hl hq h; exact h.elim
  | rangeFunc f p a b iha ihb => intro Q Q' l w hl hq h; exact h.elim
  | region id ops draw =>
    intro Q Q' l w hl hq h
    have key : ∀ l' w', Agree ops.toList l l' → Q .normal l' w' → Q' .normal (actOf l') w' := fun l' w' ha hk =>
      hq _ _ _ (by rw [ha.1, hl]) (fun s hs => ha.2 s fun o ho hd => hs (wr_region ho hd)) hk
    cases draw with
    | false =>
      simp only [vc] at h
      refine wp_region_list ?_
      have := vcOps_sound (Q := Q') ops.toList l w key h
      simpa using this
    | true =>
      simp only [vc] at h
      split at h
      · rename_i hok
        have := region_draw_sound (Q := Q') (id := id) hmix hl hok key h
        simpa using this
      · exact h.elim
  | seq a b iha ihb =>
    intro Q Q' l w hl hq h
    simp only [vc] at h
    refine wp_seq ?_
    have wra : ∀ s, ¬ Wr (a.seq b) s → ¬ Wr a s := fun s hs h => hs (by unfold Wr at *; simp only [rwOf, List.mem_append]; rcases h with h | h <;> simp [h])
    have wrb : ∀ s, ¬ Wr (a.seq b) s → ¬ Wr b s := fun s hs h => hs (by unfold Wr at *; simp only [rwOf, List.mem_append]; rcases h with h | h <;> simp [h])
    split at h
    · refine iha _ _ l w hl ?_ h
      intro e l1 w1 hl1 ha1 hk
      cases e with
      | normal =>
        refine ihb Q Q' l1 w1 hl1 (fun e l2 w2 hl2 ha2 hk2 => hq e l2 w2 hl2 (fun s hs => ?_) hk2) hk
        rw [ha2 s (wrb s hs), ha1 s (wra s hs)]
      | _ => exact hq _ _ _ hl1 (fun s hs => ha1 s (wra s hs)) hk
    · obtain ⟨J, hp, hr⟩ := h.out
      refine iha _ _ l w hl ?_ hp
      intro e l1 w1 hl1 ha1 hk
      cases e with
      | normal =>
        have h2 := hr _ (fun i => l1.getD i undef) w1 hk
        rw [ovl_frame (ws := loopW a) (by rw [hl1, hl]) fun s hs => ha1 s (fun h => hs (loopW_mem.2 h))] at h2
        refine ihb Q Q' l1 w1 hl1 (fun e l2 w2 hl2 ha2 hk2 => hq e l2 w2 hl2 (fun s hs => ?_) hk2) h2
        rw [ha2 s (wrb s hs), ha1 s (wra s hs)]
      | _ => exact hq _ _ _ hl1 (fun s hs => ha1 s (wra s hs)) hk
  | cond c x y ihx ihy =>
    intro Q Q' l w hl hq h
    simp only [vc] at h
    obtain ⟨t, hv, ht, hf⟩ := if_elim h
    have wrx : ∀ s, ¬ Wr (Code.cond c x y) s → ¬ Wr x s := fun s hs h => hs (by unfold Wr at *; simp only [rwOf, List.mem_append]; rcases h with h | h <;> simp [h])
    have wry : ∀ s, ¬ Wr (Code.cond c x y) s → ¬ Wr y s := fun s hs h => hs (by unfold Wr at *; simp only [rwOf, List.mem_append]; rcases h with h | h <;> simp [h])
    refine wp_cond (t := t) (by rw [act_eval]; exact hv) ?_
    cases t
    · exact ihy Q Q' l w hl (fun e l2 w2 hl2 ha2 hk2 => hq e l2 w2 hl2 (fun s hs => ha2 s (wry s hs)) hk2) (hf rfl)
    · exact ihx Q Q' l w hl (fun e l2 w2 hl2 ha2 hk2 => hq e l2 w2 hl2 (fun s hs => ha2 s (wrx s hs)) hk2) (ht rfl)
  | block id c ih =>
    intro Q Q' l w hl hq h
    simp only [vc] at h
    refine wp_block ?_
    refine ih _ _ l w hl ?_ h
    intro e l1 w1 hl1 ha1 hk
    have ha : ∀ s, ¬ Wr (Code.block id c) s → l1[s]? = l[s]? := fun s hs => ha1 s hs
    cases e with
    | exit i =>
      simp only at hk
      simp only [Exit.inBlock]
      split at hk
      · rename_i hb
        rw [if_pos (Nat.eq_of_beq_eq_true hb)]
        exact hq _ _ _ hl1 ha hk
      · rename_i hb
        rw [if_neg (fun e => by subst e; simp at hb)]
        exact hq _ _ _ hl1 ha hk
    | _ => exact hq _ _ _ hl1 ha hk
  | loop c ih =>
    intro Q Q' l w hl hq h
    simp only [vc] at h
    obtain ⟨I, ⟨n0, h0⟩, hround⟩ := h.out
    refine wp_loop_ghost (fun k a w => ∃ vs g, I k vs w ∧ a = actOf (ovl (loopW c) (loopV c) vs g 0 l)) n0 ⟨_, fun i => l.getD i undef, h0, by rw [ovl_frame rfl fun _ _ => rfl]⟩ ?_
    rintro k a w1 ⟨vs, g, hI, rfl⟩
    have hlen : (ovl (loopW c) (loopV c) vs g 0 l).length = n := by rw [ovl_length, hl]
    refine ih _ _ _ w1 hlen ?_ (hround k vs g w1 hI)
    intro e l2 w2 hl2 ha2 hk
    have hout : ∀ s, ¬ Wr (Code.loop c) s → l2[s]? = l[s]? := fun s hs => by
      rw [ha2 s hs]
      exact ovl_get_out l 0 s (by rw [Nat.zero_add, loopW_mem]; exact hs)
    cases e with
    | normal =>
      obtain ⟨m, hm, hI2⟩ := hk.out
      refine ⟨m, hm, _, fun i => l2.getD i undef, hI2, ?_⟩
      rw [ovl_frame (ws := loopW c) (by rw [hl2, hl]) fun s hs => hout s (fun h => hs (loopW_mem.2 h))]
    | _ => exact hq _ _ _ hl2 hout hk
  | scope c ih =>
    intro Q Q' l w hl hq h
    simp only [vc] at h
    refine wp_scope_straight ?_
    refine ih _ _ l w hl ?_ h
    intro e l1 w1 hl1 ha1 hk
    cases e with
    | goto i => exact hk.elim
    | _ => exact hq _ _ _ hl1 ha1 hk

def resF (T : Array Value) : ResultVar → Sem Value
  | .tmp t => pure (T.getD t undef)
  | .cell a t => do loadVar t (← asAddr (T.getD a undef))
theorem results_eq (fn : Func) (T : Array Value) : results fn T = (do let vs ← fn.results.mapM (resF T); pure (if h : vs.size = 1 then vs[0] else .tuple vs)) := rfl
theorem mapM_res {l : List Value} {w : World} {K : Value → World → Prop} : ∀ (r : List ResultVar) (vs : List Value), vcRes P l w K r vs →
    ∃ us : List Value, (r.mapM (resF l.toArray)).run P w = .ok us w ∧ K (match vs ++ us with | [v] => v | ws => .tuple ws.toArray) w := by
  intro r
  induction r with
  | nil =>
    intro vs h
    refine ⟨[], by simp, ?_⟩
    rw [List.append_nil]
    match vs, h with
    | [], h => exact h
    | [v], h => exact h
    | v :: u :: r, h => exact h
  | cons x r ih =>
    intro vs h
    have step : ∀ v, (resF l.toArray x).run P w = .ok v w → vcRes P l w K r (vs ++ [v]) →
        ∃ us : List Value, ((x :: r).mapM (resF l.toArray)).run P w = .ok us w ∧ K (match vs ++ us with | [v] => v | ws => .tuple ws.toArray) w := by
      intro v hv hK
      obtain ⟨us, h1, h2⟩ := ih _ hK
      refine ⟨v :: us, ?_, by simpa using h2⟩
      simp only [List.mapM_cons, Sem.run_bind, Sem.run_pure, Result.andThen_ok, hv, h1]
    cases x with
    | tmp t => exact step _ (by simp [resF]) h
    | cell a t =>
      simp only [vcRes] at h
      split at h
      · rename_i hk
        obtain ⟨ad, ha, h⟩ := at_elim h
        have hag := known_agg (w := w) hk
        have hga : l.toArray.getD a undef = .pointer (some ad) := by rw [← ha]; simp
        split at h
        · rename_i hagg
          split at h
          · rename_i m hm
            obtain ⟨cs, hs, hc, hK⟩ := h.out
            subst hs
            exact step _ (by simp only [resF, hga, asAddr, Sem.run_bind, Sem.run_pure, Result.andThen_ok, loadVar, hag, hagg, if_true, sizeOf_run hm, loadN_run ad cs hc]) hK
          · exact h.elim
        · rename_i hagg
          obtain ⟨v, hv, hK⟩ := h.out
          exact step _ (by simp only [resF, hga, asAddr, Sem.run_bind, Sem.run_pure, Result.andThen_ok, loadVar, hag, hagg, Bool.false_eq_true, if_false, load1_run hv]) hK
      · exact h.elim

theorem results_run {fn : Func} {l : List Value} {w : World} {K : Value → World → Prop} (h : vcRes P l w K fn.results.toList []) :
    ∃ v, (results fn (actOf l).tmps).run P w = .ok v w ∧ K v w := by
  obtain ⟨us, h1, h2⟩ := mapM_res _ _ h
  refine ⟨_, ?_, h2⟩
  rw [results_eq, Array.mapM_eq_mapM_toList]
  simp only [actOf, Sem.run_bind, Sem.run_map, h1, Result.andThen_ok, List.nil_append]
  match us with
  | [] => rfl
  | [v] => rfl
  | v :: u :: r => rfl

theorem vcF_sound (hmix : P.follows .mixedOrders = true) {f : FuncId} {fn : Func} {args : List Value} {w : World} {K : Value → World → Prop} (hf : P.funcs[f]? = some fn)
    (h : vcF P fn args w K) : Ret P f args w K := by
  unfold vcF at h
  split at h
  · rename_i c hc
    refine ⟨?_⟩
    refine calls_of_wp hf hc ?_
    have e : ({ tmps := args.toArray ++ Array.replicate (fn.ntmps - args.toArray.size) undef, defers := [] } : Act) = actOf (args ++ List.replicate (fn.ntmps - args.length) undef) := by
      simp [actOf]
    rw [e]
    refine vc_sound (n := args.length + (fn.ntmps - args.length)) hmix c _ _ _ _ (by simp) ?_ h
    intro e l w' hl _ hk
    cases e <;> simp only [bodyQ] at hk
    · obtain ⟨v, hv, hK⟩ := results_run hk; exact ⟨rfl, v, hv, v, rfl, hK⟩
    · obtain ⟨v, hv, hK⟩ := results_run hk; exact ⟨rfl, v, hv, v, rfl, hK⟩
  · exact h.elim

/-- out of a condition that is the same by reckoning -/
theorem vcF_of (hmix : P.follows .mixedOrders = true) {f : FuncId} {fn : Func} {args : List Value} {w : World} {K : Value → World → Prop} {S : Prop} (hf : P.funcs[f]? = some fn)
    (e : S = vcF P fn args w K) (h : S) : Ret P f args w K := vcF_sound hmix hf (e ▸ h)
end
end Go.Proofs.YtbfnagdpanfphaaGreatDoor.X
end
