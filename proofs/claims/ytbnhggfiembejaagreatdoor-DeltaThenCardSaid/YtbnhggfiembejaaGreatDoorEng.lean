import Derived.WalkKit
import Derived.KernelRfl
import Derived.Scope
import Derived.Orders
import Derived.Deep.LoopGhost
section
namespace Go.Proofs.YtbnhggfiembejaaGreatDoor.X
open Go
def ev (l : List Value) : Operand → Value
  | .tmp t => l.getD t undef
  | .const v => v
  | .global g => .pointer (some ⟨g,0,none⟩)
  | .func f => .func (.func f) #[] #[]
def put (l : List Value) (d : Option Tmp) (v : Value) : List Value :=
  match d with
  | some d => l.set d v
  | none => l
structure Q6 (P : Program) (f : FuncId) (args : List Value) (w : World) (K : Value → World → Prop) : Prop where
  out : Calls P f args.toArray w fun e w' => ∃ v,e = .returned v ∧ K v w'
structure Jv (P : Program) (s : Sem Value) (w : World) (K : Value → World → Prop) : Prop where
  out : ∃ v w',s.run P w = .ok v w' ∧ K v w'
structure Yn (P : Program) (s : Sem Unit) (w : World) (K : World → Prop) : Prop where
  out : ∃ w',s.run P w = .ok () w' ∧ K w'
structure XI (n : Int) (K : Int → Prop) : Prop where
  out : K n
structure QC (w : World) (a : Addr) (K : Value → Prop) : Prop where
  out : ∃ v,w.cell? a = some v ∧ K v
structure Qo (w : World) (a : Addr) (n : Nat) (K : Value → Prop) : Prop where
  out : ∃ vs : Array Value,vs.size = n ∧ (∀ i,i < n → w.cell? (a.add i) = vs[i]?) ∧ K (.agg vs)
structure Uw (w : World) (a : Addr) (v : Value) (K : World → Prop) : Prop where
  out : (∃ o,w.cell? a = some o) ∧ w.frozen? a = false ∧ v.oneCell' = true ∧ K (w.setCell a v)
structure XIx (i : Int) (n : Nat) (K : Nat → Prop) : Prop where
  out : ∃ k : Nat,i = (k : Int) ∧ k < n ∧ K k
structure Jn (init : List Value) (w : World) (body : (Nat → List Value → World → Prop) → Nat → List Value → (Nat → Value) → World → Prop) : Prop where
  out : ∃ I : Nat → List Value → World → Prop,(∃ n,I n init w) ∧ ∀ n vs g w',I n vs w' → body I n vs g w'
structure JC (I : Nat → List Value → World → Prop) (n : Nat) (vs : List Value) (w : World) : Prop where
  out : ∃ m,m < n ∧ I m vs w
structure XJ (paths : (List Value → World → Prop) → Prop) (rest : List Value → (Nat → Value) → World → Prop) : Prop where
  out : ∃ J : List Value → World → Prop,paths J ∧ ∀ vs g w,J vs w → rest vs g w
abbrev Z6 (v : Value) (K : Addr → Prop) : Prop :=
  match v with
  | .pointer (some a) => K a
  | _ => False
def Ql (v : Value) (A B : Prop) : Prop :=
  match v with
  | .bool t => (match t with | true => A | false => B)
  | _ => False
def Qkk (c a b : Value) (K : Value → Prop) : Prop :=
  match c with
  | .bool t => K (match t with | true => a | false => b)
  | _ => False
abbrev YW (v : Value) (K : Value → Prop) : Prop :=
  match v with
  | .bool t => K (.bool !t)
  | _ => False
def sameKind (k k' : IntKind) : Bool:=decide (k = k')
abbrev Et (x y : Value) (K : IntKind → Int → Int → Prop) : Prop :=
  match x,y with
  | .int k a,.int k' b => (match sameKind k k' with | true => K k a b | false => False)
  | _,_ => False
abbrev ZU (x y : Value) (K : Value → Prop) : Prop:=Et x y fun k a b => XI (k.wrap (a + b)) fun r => K (.int k r)
abbrev VR (x y : Value) (K : Value → Prop) : Prop:=Et x y fun k a b => XI (k.wrap (a - b)) fun r => K (.int k r)
abbrev Q1k (x y : Value) (K : Value → Prop) : Prop:=Et x y fun k a b => XI (k.wrap (a * b)) fun r => K (.int k r)
def Ha (b : Int) : Bool:=decide (b = 0)
def Q3C (x y : Value) (K : Value → Prop) : Prop :=
  Et x y fun k a b => match Ha b with | true => False | false => XI (k.wrap (a.tdiv b)) fun r => K (.int k r)
def Q3B (x y : Value) (K : Value → Prop) : Prop :=
  Et x y fun k a b => match Ha b with | true => False | false => XI (a.tmod b) fun r => K (.int k r)
abbrev QtD (x y : Value) (K : Value → Prop) : Prop:=Et x y fun k a b => XI (k.wrap (BitVec.ofInt k.bits a &&& BitVec.ofInt k.bits b).toNat) fun r => K (.int k r)
abbrev xOr (x y : Value) (K : Value → Prop) : Prop:=Et x y fun k a b => XI (k.wrap (BitVec.ofInt k.bits a ||| BitVec.ofInt k.bits b).toNat) fun r => K (.int k r)
abbrev Qwl (x y : Value) (K : Value → Prop) : Prop:=Et x y fun k a b => XI (k.wrap (BitVec.ofInt k.bits a ^^^ BitVec.ofInt k.bits b).toNat) fun r => K (.int k r)
def isNeg (b : Int) : Bool:=decide (b < 0)
def Qwm (x y : Value) (K : Value → Prop) : Prop :=
  match x,y with
  | .int k a,.int _ b => (match isNeg b with | true => False | false => XI (k.wrap (a * 2 ^ min b.toNat k.bits)) fun r => K (.int k r))
  | _,_ => False
def Q9e (x y : Value) (K : Value → Prop) : Prop :=
  match x,y with
  | .int k a,.int _ b => (match isNeg b with | true => False | false => XI (a.fdiv (2 ^ min b.toNat k.bits)) fun r => K (.int k r))
  | _,_ => False
def Qpr (x : Value) (K : Value → Prop) : Prop :=
  match x with
  | .int k a => XI (k.wrap (0 - a)) fun r => K (.int k r)
  | _ => False
abbrev Wu (x y : Value) (K : Value → Prop) : Prop:=Et x y fun _ a b => K (.bool (decide (a < b)))
abbrev xLe (x y : Value) (K : Value → Prop) : Prop:=Et x y fun _ a b => K (.bool (decide (a ≤ b)))
abbrev Rn (x y : Value) (K : Value → Prop) : Prop:=Et x y fun _ a b => K (.bool (decide (a > b)))
abbrev xGe (x y : Value) (K : Value → Prop) : Prop:=Et x y fun _ a b => K (.bool (decide (a ≥ b)))
abbrev YA (x y : Value) (K : Value → Prop) : Prop:=Et x y fun _ a b => K (.bool (a == b))
abbrev Ad (x y : Value) (K : Value → Prop) : Prop:=Et x y fun _ a b => K (.bool (a != b))
structure XCat (x y : ByteArray) (K : Value → Prop) : Prop where
  out : ((x.size + y.size : Nat) : Int) ≤ 9223372036854775807 ∧ K (.string (x ++ y))
abbrev Q9R (x y : Value) (K : ByteArray → ByteArray → Prop) : Prop :=
  match x,y with
  | .string a,.string b => K a b
  | _,_ => False
abbrev BZ (x y : Value) (K : Value → Prop) : Prop:=Q9R x y fun a b => XCat a b K
abbrev Q1j (x y : Value) (K : Value → Prop) : Prop:=Q9R x y fun a b => K (.bool (a.toList == b.toList))
abbrev Qis (x y : Value) (K : Value → Prop) : Prop:=Q9R x y fun a b => K (.bool !(a.toList == b.toList))
def Qfg (x y : Value) (K : Value → Prop) : Prop :=
  match x,y with
  | .bool a,.bool b => K (.bool (a == b))
  | _,_ => False
def Qcu (x y : Value) (K : Value → Prop) : Prop :=
  match x,y with
  | .bool a,.bool b => K (.bool !(a == b))
  | _,_ => False
structure QaG (P : Program) (w : World) (a b : Addr) (K : Bool → Prop) : Prop where
  out : ∃ t,(sameAddr a b).run P w = .ok t w ∧ K t
abbrev Ia (P : Program) (w : World) (x y : Value) (K : Bool → Prop) : Prop :=
  match x,y with
  | .pointer none,.pointer b => K b.isNone
  | .pointer (some _),.pointer none => K false
  | .pointer (some a),.pointer (some b) => QaG P w a b K
  | _,_ => False
abbrev YV (P : Program) (w : World) (x y : Value) (K : Value → Prop) : Prop:=Ia P w x y fun t => K (.bool t)
abbrev Y1 (P : Program) (w : World) (x y : Value) (K : Value → Prop) : Prop:=Ia P w x y fun t => K (.bool !t)
abbrev Qhc (x y : Value) (K : Bool → Prop) : Prop :=
  match x,y with
  | .slice none _ _,.slice b _ _ => K b.isNone
  | .slice (some _) _ _,.slice none _ _ => K false
  | _,_ => False
abbrev Qps (x y : Value) (K : Value → Prop) : Prop:=Qhc x y fun t => K (.bool t)
abbrev xLNe (x y : Value) (K : Value → Prop) : Prop:=Qhc x y fun t => K (.bool !t)
structure Q8f (P : Program) (op : BinOp) (t : TypeId) (x y : Operand) (a b : Value) (w : World) (K : Bool → Prop) : Prop where
  out : ∃ r,(eqGuard op t x y a b).run P w = .ok () w ∧ (Op.equal t a b).run P w = .ok r w ∧ K r
def Zq (x : Value) (K : Value → Prop) : Prop :=
  match x with
  | .slice _ n _ => K (.int .i64 n)
  | _ => False
def Qhd (x : Value) (K : Value → Prop) : Prop :=
  match x with
  | .string s => K (.int .i64 s.size)
  | _ => False
def Qkn (x : Value) (K : Value → Prop) : Prop :=
  match x with
  | .slice _ _ n => K (.int .i64 n)
  | _ => False
abbrev QaT (x y : Value) (K : Value → Prop) : Prop :=
  match x,y with
  | .int k a,.int _ b => K (.int k (if b < a then b else a))
  | _,_ => False
abbrev Qit (x y : Value) (K : Value → Prop) : Prop :=
  match x,y with
  | .int k a,.int _ b => K (.int k (if a < b then b else a))
  | _,_ => False
abbrev Qb (x : Value) (i : Nat) (K : Value → Prop) : Prop :=
  match x with
  | .tuple vs => (match vs.toList[i]? with | some v => K v | none => False)
  | _ => False
abbrev X6 (x : Value) (o : Nat) (K : Value → Prop) : Prop:=Z6 x fun a => K (.pointer (some (a.add o)))
def Zb (x i : Value) (size : Nat) (K : Value → Prop) : Prop :=
  match x,i with
  | .slice (some a) n _,.int _ i => XIx i n fun k => K (.pointer (some (a.add (k * size))))
  | _,_ => False
def Gr (x i : Value) (n size : Nat) (K : Value → Prop) : Prop :=
  match x,i with
  | .pointer (some a),.int _ i => XIx i n fun k => K (.pointer (some (a.add (k * size))))
  | _,_ => False
structure QCK (s : ByteArray) (i : Int) (K : Value → Prop) : Prop where
  out : ∃ (k : Nat) (b : UInt8),i = (k : Int) ∧ s[k]? = some b ∧ K (.int .u8 b.toNat)
def V4 (x i : Value) (K : Value → Prop) : Prop :=
  match x,i with
  | .string s,.int _ i => QCK s i K
  | _,_ => False
def Qkl (agg : Bool) (x : Value) (o size : Nat) (K : Value → Prop) : Prop :=
  match x with
  | .agg cs => (match agg with
    | true => K (.agg (cs.extract o (o + size)))
    | false => (match cs[o]? with | some v => K v | none => False))
  | _ => False
structure QeI (len cap : Nat) (lo hi mx : Option Value) (K : Nat → Nat → Nat → Prop) : Prop where
  out : ∃ l h m : Nat,(match mx with | some (.int _ i) => i = (m : Int) ∧ m ≤ cap | none => m = cap | _ => False) ∧
    (match hi with | some (.int _ i) => i = (h : Int) ∧ h ≤ m | none => h = len ∧ mx = none | _ => False) ∧
    (match lo with | some (.int _ i) => i = (l : Int) ∧ l ≤ h | none => l = 0 | _ => False) ∧ K l h m
def Q08 (a : Option Addr) (l m size : Nat) : Option Addr:=if m = l then a else a.map (·.add (l * size))
def Yg (size : Nat) (x : Value) (lo hi mx : Option Value) (K : Value → Prop) : Prop :=
  match x with
  | .slice a len cap => QeI len cap lo hi mx fun l h m => K (.slice (Q08 a l m size) (h - l) (m - l))
  | _ => False
def Cs (n size : Nat) (x : Value) (lo hi mx : Option Value) (K : Value → Prop) : Prop :=
  match x with
  | .pointer (some a) => QeI n n lo hi mx fun l h m => K (.slice (some (if m = l then a else a.add (l * size))) (h - l) (m - l))
  | _ => False
def OB (x : Value) (lo hi : Option Value) (K : Value → Prop) : Prop :=
  match x with
  | .string s => QeI s.size s.size lo hi none fun l h _ => K (.string (s.extract l h))
  | _ => False
abbrev Kq (k : IntKind) (x : Value) (K : Value → Prop) : Prop :=
  match x with
  | .int _ n => XI (k.wrap n) fun r => K (.int k r)
  | _ => False
abbrev QtC (x : Value) (K : Value → Prop) : Prop :=
  match x with
  | .string s => K (.string s)
  | _ => False
def Ic (f : Value) (args : List Value) (K : FuncId → List Value → Prop) : Prop :=
  match f with
  | .func (.func f) first captured => K f (first.toList ++ args ++ captured.toList)
  | _ => False
def QJ : Value → List Value
  | .agg cs => cs.toList
  | v => [v]
def setFrom (cs : List Value) (o : Nat) : List Value → List Value
  | [] => cs
  | v :: r => setFrom (cs.set o v) (o + 1) r
def QdR (cells : List Value) : List (Nat × Nat × Value) → Option (List Value)
  | [] => some cells
  | (o,size,v) :: rest =>
    match Nat.beq (QJ v).length size with
    | true => (match Nat.ble (o + (QJ v).length) cells.length with
      | true => QdR (setFrom cells o (QJ v)) rest
      | false => none)
    | false => none
abbrev QN (cells : List Value) (parts : List (Nat × Nat × Value)) (K : List Value → Prop) : Prop :=
  match QdR cells parts with
  | some cs => K cs
  | none => False
structure Qs (w : World) (cs : List Value) (t : TypeId) (K : Addr → World → Prop) : Prop where
  out : K ⟨w.heap.size,0,none⟩ (w.alloc (.cells cs.toArray t))
inductive TK where
  | int (k : IntKind) | str | bool | ptr (e : TypeId) | slice (e : TypeId) | arr (n : Nat) (e : TypeId) | struct | func | other
def tk (P : Program) (t : TypeId) : TK :=
  match P.underlying t with
  | some (.int k) => .int k
  | some .string => .str
  | some .bool => .bool
  | some (.pointer e) => .ptr e
  | some (.slice e) => .slice e
  | some (.array n e) => .arr n e
  | some (.struct _) => .struct
  | some (.func ..) => .func
  | _ => .other
def known (P : Program) (t : TypeId) : Bool:=match P.underlying t with | some _ => true | none => false
def OI (P : Program) (t : TypeId) : Option Nat:=(P.info? t).map (·.size)
def Q1E (P : Program) (t : TypeId) : Bool :=
  match tk P t with
  | .struct | .arr .. => true
  | _ => false
def Q6G (P : Program) (t : TypeId) : Option (List Value) :=
  match P.info? t with
  | some i => (match i.zero with | some z => some (QJ z) | none => none)
  | none => none
def Q6A (P : Program) (s : TypeId) (f : Nat) : Option (Nat × Nat × TypeId) :=
  match P.underlying s with
  | some (.struct fs) => (match fs[f]? with
    | some x => (match known P x.type with
      | true => (match OI P x.type with | some n => some (x.offset,n,x.type) | none => none)
      | false => none)
    | none => none)
  | _ => none
def Q4c (P : Program) (f : FuncId) : Bool :=
  match P.funcs[f]? with
  | some fn => (match fn.body with
    | some _ => !(fn.name == "runtime.NumGoroutine")
    | none => false)
  | none => false
def Ux (P : Program) (f : FuncId) (args : List Value) (w : World) (K : Value → World → Prop) : Prop :=
  match Q4c P f with
  | true => Q6 P f args w K
  | false => Jv P (do match ← callFunc f args.toArray with | .value v => pure v | _ => stuck "") w K
def placesOf (P : Program) : List Field → Option (List (Nat × Nat))
  | [] => some []
  | f :: r => (match OI P f.type with
    | some n => (match placesOf P r with | some ps => some ((f.offset,n) :: ps) | none => none)
    | none => none)
def Q23 (P : Program) (t : TypeId) : Option (List (Nat × Nat)) :=
  match P.underlying t with
  | some (.struct fs) => placesOf P fs.toList
  | _ => none
def partsOf (places : List (Nat × Nat)) (l : List Value) : List (Nat × Operand) → Option (List (Nat × Nat × Value))
  | [] => some []
  | (i,x) :: r => (match places[i]? with
    | some (o,n) => (match partsOf places l r with | some ps => some ((o,n,ev l x) :: ps) | none => none)
    | none => none)
def Q7O (size : Nat) (l : List Value) : List (Nat × Operand) → List (Nat × Nat × Value)
  | [] => []
  | (i,x) :: r => (i * size,size,ev l x) :: Q7O size l r
def Kc (z : List Value) : Nat → List Value
  | 0 => []
  | n + 1 => z ++ Kc z n
def Gy (op : BinOp) (a b : Value) (K : Value → Prop) : Prop :=
  match op with
  | .add => ZU a b K | .sub => VR a b K | .mul => Q1k a b K | .quo => Q3C a b K | .rem => Q3B a b K
  | .and => QtD a b K | .or => xOr a b K | .xor => Qwl a b K | .shl => Qwm a b K | .shr => Q9e a b K
  | .eql => YA a b K | .neq => Ad a b K | .lss => Wu a b K | .leq => xLe a b K | .gtr => Rn a b K | .geq => xGe a b K
  | _ => False
def Gw (op : BinOp) (a b : Value) (K : Value → Prop) : Prop :=
  match op with
  | .add => BZ a b K | .eql => Q1j a b K | .neq => Qis a b K
  | _ => False
def DD (op : BinOp) (a b : Value) (K : Value → Prop) : Prop :=
  match op with
  | .eql => Qfg a b K | .neq => Qcu a b K
  | _ => False
def Gx (P : Program) (op : BinOp) (a b : Value) (w : World) (K : Value → Prop) : Prop :=
  match op with
  | .eql => YV P w a b K | .neq => Y1 P w a b K
  | _ => False
def BD (op : BinOp) (a b : Value) (K : Value → Prop) : Prop :=
  match op with
  | .eql => Qps a b K | .neq => xLNe a b K
  | _ => False
def UB (P : Program) (op : BinOp) (t : TypeId) (x y : Operand) (a b : Value) (w : World) (K : Value → Prop) : Prop :=
  match op with
  | .eql => Q8f P .eql t x y a b w fun r => K (.bool r)
  | .neq => Q8f P .neq t x y a b w fun r => K (.bool !r)
  | _ => False
def Ev (P : Program) (op : BinOp) (t : TypeId) (x y : Operand) (a b : Value) (w : World) (K : Value → Prop) : Prop :=
  match tk P t with
  | .int _ => Gy op a b K
  | .str => Gw op a b K
  | .bool => DD op a b K
  | .ptr e => (match OI P e with | some (_ + 1) => Gx P op a b w K | _ => False)
  | .slice _ => BD op a b K
  | .struct => UB P op t x y a b w K
  | _ => False
def MM (P : Program) (b : Builtin) (ts : Array TypeId) (ty : TypeId) (args : List Value) (w : World) (K : Value → World → Prop) : Prop :=
  match b,ts[0]?,args with
  | .len,some t,[x] => (match tk P t with
    | .slice _ => Zq x fun v => K v w
    | .str => Qhd x fun v => K v w
    | .arr n _ => K (.int .i64 n) w
    | _ => False)
  | .cap,some t,[x] => (match tk P t with | .slice _ => Qkn x fun v => K v w | _ => False)
  | .min,_,[x,y] => QaT x y fun v => K v w
  | .max,_,[x,y] => Qit x y fun v => K v w
  | .append,_,[x,y] => Jv P (Builtin.append_ ts ty #[x,y]) w K
  | .copy,_,[x,y] => Jv P (Builtin.copy_ ts ty #[x,y]) w K
  | .unsafeSliceData,_,[x] => Jv P (Builtin.unsafeSliceData_ ts ty #[x]) w K
  | .unsafeString,_,[x,y] => Jv P (Builtin.unsafeString_ ts ty #[x,y]) w K
  | _,_,_ => False
def XV (P : Program) (l : List Value) (o : Op) (ty : TypeId) (w : World) (K : Value → World → Prop) : Prop :=
  match o with
  | .move x => K (ev l x) w
  | .assign x => K (ev l x) w
  | .pick c a b => Qkk (ev l c) (ev l a) (ev l b) fun v => K v w
  | .alloc t => (match Q6G P t with
    | some z => Qs w z t fun a w' => K (.pointer (some a)) w'
    | none => False)
  | .box t x => Qs w (QJ (ev l x)) t fun a w' => K (.pointer (some a)) w'
  | .build t parts => (match tk P t,Q6G P t with
    | .struct,some z => (match Q23 P t with
      | some places => (match partsOf places l parts.toList with
        | some ps => QN z ps fun cs => K (.agg cs.toArray) w
        | none => False)
      | none => False)
    | .arr _ e,some z => (match OI P e with
      | some n => QN z (Q7O n l parts.toList) fun cs => K (.agg cs.toArray) w
      | none => False)
    | _,_ => False)
  | .buildSlice t n parts => (match tk P t with
    | .slice e => (match OI P e,Q6G P e with
      | some sz,some z => (match Nat.ble (n * sz) 65536,Nat.beq z.length sz with
        | true,true => QN (Kc z n) (Q7O sz l parts.toList) fun cs => Qs w cs e fun a w' => K (.slice (some a) n n) w'
        | _,_ => False)
      | _,_ => False)
    | _ => False)
  | .load t x => (match known P t with
    | true => Z6 (ev l x) fun a => (match Q1E P t with
      | true => (match OI P t with | some n => Qo w a n fun v => K v w | none => False)
      | false => QC w a fun v => K v w)
    | false => False)
  | .store t x y => Z6 (ev l x) fun a => (match Q1E P t,OI P t with
    | false,some 1 => Uw w a (ev l y) fun w' => K undef w'
    | _,_ => Yn P (storeVar t a (ev l y)) w fun w' => K undef w')
  | .nilCheck x => Z6 (ev l x) fun a => K (.pointer (some a)) w
  | .binOp op t x y _ => Ev P op t x y (ev l x) (ev l y) w fun v => K v w
  | .unOp op _ x => (match op with
    | .not => YW (ev l x) fun v => K v w
    | .neg => Qpr (ev l x) fun v => K v w
    | _ => False)
  | .convert s d x => (match tk P s,tk P d with
    | .int _,.int k => Kq k (ev l x) fun v => K v w
    | .str,.str => QtC (ev l x) fun v => K v w
    | _,_ => Jv P (convert s d (ev l x)) w K)
  | .makeFunc fn first captured => K (.func fn (first.map (ev l)) (captured.map (ev l))) w
  | .makeSlice t n c => Jv P (Instr.makeSlice t (ev l n) (ev l c)) w K
  | .slice t x lo hi mx => (match tk P t with
    | .slice e => (match OI P e with
      | some n => Yg n (ev l x) (lo.map (ev l)) (hi.map (ev l)) (mx.map (ev l)) fun v => K v w
      | none => False)
    | .arr k e => (match OI P e with
      | some n => Cs k n (ev l x) (lo.map (ev l)) (hi.map (ev l)) (mx.map (ev l)) fun v => K v w
      | none => False)
    | .str => (match mx with
      | none => OB (ev l x) (lo.map (ev l)) (hi.map (ev l)) fun v => K v w
      | some _ => False)
    | _ => False)
  | .fieldAddr s x f => (match Q6A P s f with
    | some (o,_ + 1,_) => X6 (ev l x) o fun v => K v w
    | _ => False)
  | .field s x f => (match Q6A P s f with
    | some (o,n,t) => Qkl (Q1E P t) (ev l x) o n fun v => K v w
    | _ => False)
  | .indexAddr t x i => (match tk P t with
    | .slice e => (match OI P e with
      | some n => Zb (ev l x) (ev l i) n fun v => K v w
      | none => False)
    | .arr k e => (match OI P e with
      | some n => Gr (ev l x) (ev l i) k n fun v => K v w
      | none => False)
    | _ => False)
  | .index t x i => (match tk P t with
    | .str => V4 (ev l x) (ev l i) fun v => K v w
    | _ => Jv P (Instr.index t (ev l x) (ev l i)) w K)
  | .extract x i => Qb (ev l x) i fun v => K v w
  | .call c => (match c.callee with
    | .value (.func f) => Ux P f (c.args.toList.map (ev l)) w K
    | .value x => Ic (ev l x) (c.args.toList.map (ev l)) fun f args => Ux P f args w K
    | .builtin b => MM P b c.argTypes ty (c.args.toList.map (ev l)) w K
    | _ => False)
  | _ => False
def Ea (all : List Oper) (j : Nat) : Option Tmp :=
  match all[j]? with
  | some o => o.dst
  | none => none
def isBool (v : Value) : Bool:=match v with | .bool _ => true | _ => false
def skipped (all : List Oper) (l : List Value) (j : Nat) : Bool :=
  match all[j]? with
  | some o => (match o.guard with
    | some (i,want) => (match Ea all i with
      | some d => (match l.getD d undef with | .bool t => (match t,want with | true,true => false | false,false => false | _,_ => true) | _ => true)
      | none => false)
    | none => false)
  | none => false
def vcG (P : Program) (all : List Oper) (o : Oper) (l : List Value) (w : World) (K : List Value → World → Prop) : Prop :=
  match o.guard with
  | none => XV P l o.op o.type w fun v w' => K (put l o.dst v) w'
  | some (j,want) =>
    match Ea all j with
    | none => False
    | some d =>
      match skipped all l j with
      | true => (match isBool (l.getD d undef) with | true => False | false => K (put l o.dst undef) w)
      | false => Ql (l.getD d undef)
        (match want with
          | true => XV P (l.set d (.bool true)) o.op o.type w fun v w' => K (put (l.set d (.bool true)) o.dst v) w'
          | false => K (put (l.set d (.bool true)) o.dst undef) w)
        (match want with
          | false => XV P (l.set d (.bool false)) o.op o.type w fun v w' => K (put (l.set d (.bool false)) o.dst v) w'
          | true => K (put (l.set d (.bool false)) o.dst undef) w)
def QkN (P : Program) (all : List Oper) (K : List Value → World → Prop) : List Oper → List Value → World → Prop
  | [],l,w => K l w
  | o :: r,l,w => vcG P all o l w (QkN P all K r)
def VY (o : Oper) : List Nat:=o.after.toList.filterMap fun e => match Region.binds .any e with | true => some e.on | false => none
def mem (i : Nat) : List Nat → Bool
  | [] => false
  | j :: r => (match Nat.beq i j with | true => true | false => mem i r)
def subs (l s : List Nat) : Bool :=
  match l with
  | [] => true
  | j :: r => (match mem j s with | true => subs r s | false => false)
def quiet (P : Program) (o : Op) : Bool :=
  match o with
  | .move _ | .pick .. | .load .. | .nilCheck _ | .field .. | .indexAddr .. | .slice .. | .fieldAddr .. | .extract .. | .makeFunc .. | .unOp .. => true
  | .build .. => true
  | .binOp _ t _ _ _ => (match tk P t with | .int _ | .str | .bool | .slice _ => true | _ => false)
  | .index t _ _ => (match tk P t with | .str => true | _ => false)
  | .convert s d _ => (match tk P s,tk P d with | .int _,.int _ => true | .str,.str => true | _,_ => false)
  | .call c => (match c.callee with | .builtin .len | .builtin .cap | .builtin .min | .builtin .max => true | _ => false)
  | _ => false
def QCk (i : Nat) (l : List Nat) : List Nat:=match mem i l with | true => l | false => i :: l
def Qy4 : List Nat → List Nat → List Nat
  | [],s => s
  | j :: r,s => Qy4 r (QCk j s)
def QsY (acc : List (List Nat)) : List Nat → List Nat → List Nat
  | [],s => s
  | j :: r,s => QsY acc r (Qy4 (acc.getD j []) (QCk j s))
def QCj : List Oper → List (List Nat) → List (List Nat)
  | [],acc => acc
  | o :: r,acc => QCj r (acc ++ [QsY acc (VY o) []])
def Q89 (ops : List Oper) : List (List Nat):=QCj ops []
def Zg (w : World) (x v : Value) : Prop:=Z6 x fun a => w.cell? a = some v
def Za (w : World) (x v : Value) : Prop:=Z6 x fun a => (match v with | .agg vs => ∀ i,i < vs.size → w.cell? (a.add i) = vs[i]? | _ => False)
def Ib (P : Program) (w : World) (t : TypeId) (x v : Value) : Prop :=
  match Q1E P t with
  | true => Za w x v
  | false => Zg w x v
def Q88 (BU : List (List Nat)) (i : Nat) : List Nat → Bool
  | [] => false
  | h :: r => (match mem i (BU.getD h []) with | true => true | false => Q88 BU i r)
def keeps (P : Program) (all : List Oper) (BU : List (List Nat)) (hard : List Nat) (l : List Value) (w : World) (X : Prop) : List (Oper × Nat) → Prop
  | [] => X
  | (o,i) :: r =>
    match o.op with
    | .load t x => (match Q88 BU i hard with
      | true => keeps P all BU hard l w X r
      | false => (match o.dst with
        | some d => (match o.guard with
          | none => Ib P w t (ev l x) (l.getD d undef) ∧ keeps P all BU hard l w X r
          | some (j,want) => (match Ea all j with
            | none => False
            | some gd => (match l.getD gd undef with
              | .bool b => (match b,want with
                | true,true => Ib P w t (ev l x) (l.getD d undef) ∧ keeps P all BU hard l w X r
                | false,false => Ib P w t (ev l x) (l.getD d undef) ∧ keeps P all BU hard l w X r
                | _,_ => keeps P all BU hard l w X r)
              | _ => keeps P all BU hard l w X r)))
        | none => False))
    | _ => keeps P all BU hard l w X r
def TY (P : Program) (all : List Oper) (K : List Nat → List (Oper × Nat) → List Value → World → Prop) :
    List (Oper × Nat) → List Nat → List (Oper × Nat) → List Value → World → Prop
  | [],done,XU,l,w => K done XU l w
  | (o,i) :: r,done,XU,l,w =>
    match mem i done with
    | true => TY P all K r done XU l w
    | false => (match quiet P o.op,subs (VY o) done with
      | true,true => vcG P all o l w fun l' w' => TY P all K r (i :: done) ((o,i) :: XU) l' w'
      | _,_ => TY P all K r done XU l w)
def Ch (P : Program) (done : List Nat) : List (Oper × Nat) → List (Oper × Nat)
  | [] => []
  | (o,i) :: r =>
    match mem i done,quiet P o.op,subs (VY o) done with
    | false,false,true => (o,i) :: Ch P done r
    | _,_,_ => Ch P done r
def QoT {α : Type} (F : α → Prop) : List α → Prop
  | [] => True
  | [x] => F x
  | x :: r => F x ∧ QoT F r
def numbered : Nat → List Oper → List (Oper × Nat)
  | _,[] => []
  | i,o :: r => (o,i) :: numbered (i + 1) r
def Q6R (P : Program) (all : List Oper) (BU : List (List Nat)) (K : List Value → World → Prop)
    (rec : List Nat → List Nat → List (Oper × Nat) → List Value → World → Prop) (hard done : List Nat) (XU : List (Oper × Nat)) (l : List Value) (w : World) : Prop :=
  match Ch P done (numbered 0 all) with
  | [] => (match Nat.beq done.length all.length with | true => K l w | false => False)
  | hs => QoT (fun h => vcG P all h.1 l w fun l' w' =>
      keeps P all BU (h.2 :: hard) l' w' (rec (h.2 :: hard) (h.2 :: done) XU l' w') XU) hs
def RF (P : Program) (all : List Oper) (BU : List (List Nat)) (K : List Value → World → Prop) : Nat → List Nat → List Nat → List (Oper × Nat) → List Value → World → Prop
  | 0,_,_,_,_,_ => False
  | fuel + 1,hard,done,XU,l,w => TY P all (Q6R P all BU K (RF P all BU K fuel) hard) (numbered 0 all) done XU l w
def Q5d (o : Oper) (t : Tmp) : Bool:=match o.dst with | some d => Nat.beq d t | none => false
def Qey {α : Type} (f : α → Bool) : List α → Bool
  | [] => true
  | x :: r => (match f x with | true => Qey f r | false => false)
def Q9w {α : Type} (f : α → Bool) : List α → Bool
  | [] => false
  | x :: r => (match f x with | true => true | false => Q9w f r)
def QlS (o : Op) : List Tmp:=o.operands.toList.filterMap fun | .tmp t => some t | _ => none
def looks (all : List Oper) (o : Oper) : List Tmp :=
  QlS o.op ++ (match o.guard with
    | some (j,_) => (match Ea all j with | some d => [d] | none => [])
    | none => [])
def QlV (P : Program) (all : List Oper) (BU : List (List Nat)) (o : Oper) (i : Nat) (p : Oper) (j : Nat) : Bool :=
  match Nat.beq j i with
  | true => true
  | false =>
    (match o.dst with | some d => !Q5d p d | none => true) &&
    (match Q9w (Q5d p) (looks all o) with
      | false => true
      | true => mem j (BU.getD i []) || (mem i (BU.getD j []) && !quiet P p.op))
def QfH (P : Program) (all : List Oper) (BU : List (List Nat)) (n : Nat) (ops : List (Oper × Nat)) (o : Oper) (i : Nat) : Bool :=
  Qey (fun j => Nat.blt j i) (VY o) &&
  (match o.dst with | some d => Nat.blt d n | none => true) &&
  (match quiet P o.op with | true => !Q9w (Q5d o) (looks all o) | false => true) &&
  Qey (fun k => mem k (VY o) || Q9w (fun j => mem k (BU.getD j [])) (VY o)) (BU.getD i []) &&
  Qey (fun p => QlV P all BU o i p.1 p.2) ops
def Qb5 (P : Program) (all : List Oper) (n : Nat) : Bool :=
  Qey (fun p => QfH P all (Q89 all) n (numbered 0 all) p.1 p.2) (numbered 0 all)
def Qy5 : Operand → List Tmp
  | .tmp t => [t]
  | _ => []
inductive RW where
  | rd (t : Tmp) | wr (t : Tmp) | as (t : Tmp)
def QpD (o : Oper) (all : List Oper) : List RW :=
  (looks all o).map .rd ++ (match o.dst with
    | some d => (match o.op with | .assign _ => [.as d] | _ => [.wr d])
    | none => [])
def R8 : Code → List RW
  | .region _ ops _ => ops.toList.flatMap fun o => QpD o ops.toList
  | .seq a b => R8 a ++ R8 b
  | .cond c x y => (Qy5 c).map .rd ++ R8 x ++ R8 y
  | .block _ c => R8 c
  | .loop c => R8 c
  | .scope c => R8 c
  | _ => []
def addN (i : Nat) (l : List Nat) : List Nat:=match mem i l with | true => l | false => l ++ [i]
def QaU : List RW → List Nat → List Nat
  | [],acc => acc
  | .rd _ :: r,acc => QaU r acc
  | .wr t :: r,acc => QaU r (addN t acc)
  | .as t :: r,acc => QaU r (addN t acc)
def Qm9 (ws : List Nat) : List RW → List Nat → List Nat → List Nat
  | [],_,acc => acc
  | .rd t :: r,seen,acc => (match mem t ws,mem t seen with
    | true,false => Qm9 ws r seen (addN t acc)
    | _,_ => Qm9 ws r seen acc)
  | .wr t :: r,seen,acc => Qm9 ws r (t :: seen) acc
  | .as t :: r,seen,acc => Qm9 ws r (t :: seen) (addN t acc)
def Q0A (c : Code) : List Nat:=QaU (R8 c) []
def Qdl (c : Code) : List Nat:=Qm9 (Q0A c) (R8 c) [] []
def placeOf (i : Nat) : List Nat → Nat → Option Nat
  | [],_ => none
  | j :: r,k => (match Nat.beq i j with | true => some k | false => placeOf i r (k + 1))
def ovl (ws lv : List Nat) (vs : List Value) (g : Nat → Value) : Nat → List Value → List Value
  | _,[] => []
  | i,v :: r => (match mem i ws with
    | true => (match placeOf i lv 0 with | some k => vs.getD k undef | none => g i)
    | false => v) :: ovl ws lv vs g (i + 1) r
mutual
def Q50 : Code → Nat
  | .skip => 1
  | .label _ => 1
  | .region _ ops _ => (match Q9w (fun o => match o.guard with | some _ => true | none => false) ops.toList with | true => 2 | false => 1)
  | .seq a b => (match Q50 a with | 0 => 0 | _ + 1 => Q50 b)
  | .cond _ x y => Q50 x + Q50 y
  | .block id c => Q50 c + Q4R id c
  | .scope c => Q50 c
  | _ => 0
def Q4R (id : Nat) : Code → Nat
  | .exit i => (match Nat.beq i id with | true => 1 | false => 0)
  | .seq a b => Q4R id a + (match Q50 a with | 0 => 0 | _ + 1 => Q4R id b)
  | .cond _ x y => Q4R id x + Q4R id y
  | .block _ c => Q4R id c
  | .loop c => Q4R id c
  | .scope c => Q4R id c
  | _ => 0
end
def QvS : List RW → List Nat → List Nat
  | [],acc => acc
  | .as t :: r,acc => QvS r (t :: acc)
  | _ :: r,acc => QvS r acc
def Qu1 : List RW → List Nat → List Nat
  | [],acc => acc
  | .rd t :: r,acc => Qu1 r (t :: acc)
  | _ :: r,acc => Qu1 r acc
def QbB (f : Nat → Bool) : List Nat → List Nat
  | [] => []
  | x :: r => (match f x with | true => x :: QbB f r | false => QbB f r)
def Qse (a b : Code) : List Nat:=QbB (fun i => mem i (QvS (R8 a) []) || mem i (Qu1 (R8 b) [])) (Q0A a)
def vc (P : Program) (n : Nat) : Code → (Exit → List Value → World → Prop) → List Value → World → Prop
  | .skip,Q,l,w => Q .normal l w
  | .region _ ops draw,Q,l,w => (match draw with
    | false => QkN P ops.toList (fun l w => Q .normal l w) ops.toList l w
    | true => (match Qb5 P ops.toList n with
      | true => RF P ops.toList (Q89 ops.toList) (fun l w => Q .normal l w) (ops.toList.length + 1) [] [] [] l w.drew
      | false => False))
  | .seq a b,Q,l,w => (match Nat.ble 2 (Q50 a) with
    | false => vc P n a (fun e l w => match e with | .normal => vc P n b Q l w | e => Q e l w) l w
    | true => XJ (fun J => vc P n a (fun e l' w' => match e with | .normal => J ((Qse a b).map fun i => l'.getD i undef) w' | e => Q e l' w') l w)
        fun vs g w' => vc P n b Q (ovl (Q0A a) (Qse a b) vs g 0 l) w')
  | .cond c x y,Q,l,w => Ql (ev l c) (vc P n x Q l w) (vc P n y Q l w)
  | .block id c,Q,l,w => vc P n c (fun e l w => match e with
      | .exit i => (match Nat.beq i id with | true => Q .normal l w | false => Q (.exit i) l w)
      | e => Q e l w) l w
  | .loop c,Q,l,w => Jn ((Qdl c).map fun i => l.getD i undef) w fun I k vs g w' =>
      vc P n c (fun e l' w'' => match e with
        | .normal => JC I k ((Qdl c).map fun i => l'.getD i undef) w''
        | e => Q e l' w'') (ovl (Q0A c) (Qdl c) vs g 0 l) w'
  | .exit id,Q,l,w => Q (.exit id) l w
  | .scope c,Q,l,w => vc P n c (fun e l w => match e with | .goto _ => False | e => Q e l w) l w
  | .label _,Q,l,w => Q .normal l w
  | .ret,Q,l,w => Q .ret l w
  | _,_,_,_ => False
def Q1Y (P : Program) (l : List Value) (w : World) (K : Value → World → Prop) : List ResultVar → List Value → Prop
  | [],[v] => K v w
  | [],vs => K (.tuple vs.toArray) w
  | .tmp t :: r,vs => Q1Y P l w K r (vs ++ [l.getD t undef])
  | .cell a t :: r,vs => (match known P t with
    | true => Z6 (l.getD a undef) fun ad => (match Q1E P t with
      | true => (match OI P t with | some n => Qo w ad n fun v => Q1Y P l w K r (vs ++ [v]) | none => False)
      | false => QC w ad fun v => Q1Y P l w K r (vs ++ [v]))
    | false => False)
def QsX (P : Program) (res : List ResultVar) (K : Value → World → Prop) (e : Exit) (l : List Value) (w : World) : Prop :=
  match e with
  | .normal => Q1Y P l w K res []
  | .ret => Q1Y P l w K res []
  | _ => False
def ZM (P : Program) (fn : Func) (args : List Value) (w : World) (K : Value → World → Prop) : Prop :=
  match fn.body with
  | some c => vc P (args.length + (fn.ntmps - args.length)) c (QsX P fn.results.toList K) (args ++ List.replicate (fn.ntmps - args.length) undef) w
  | none => False
end Go.Proofs.YtbnhggfiembejaaGreatDoor.X
end
section
namespace Go.Proofs.YtbnhggfiembejaaGreatDoor.X
open Go
set_option linter.unusedSimpArgs false
set_option linter.unusedVariables false
def Good (P : Program) (s : Sem Next) (w : World) (K : Value → World → Prop) : Prop :=
  match s.run P w with
  | .ok (.value v) w' => K v w'
  | .ok .skip w' => K undef w'
  | .ok (.enter f args) w' => Q6 P f args.toList w' K
  | _ => False
theorem Xk {P : Program} {s : Sem Value} {w w' : World} {v : Value} {K : Value → World → Prop} (h : s.run P w = .ok v w') (hk : K v w') :
    Good P (do pure (Next.value (← s))) w K:=by
  simp [Good,h,hk]
theorem Qjz {P : Program} {s : Sem Unit} {w w' : World} {K : Value → World → Prop} (h : s.run P w = .ok () w') (hk : K undef w') :
    Good P (do s; pure Next.skip) w K:=by
  simp [Good,h,hk]
section
variable {P : Program} {w : World}
theorem Qb2 {t : TypeId} {k : IntKind} (h : tk P t = .int k) : P.underlying t = some (.int k):=by
  unfold tk at h; split at h <;> simp_all
theorem OG {t : TypeId} (h : tk P t = .str) : P.underlying t = some .string:=by
  unfold tk at h; split at h <;> simp_all
theorem Qhw {t : TypeId} (h : tk P t = .bool) : P.underlying t = some .bool:=by
  unfold tk at h; split at h <;> simp_all
theorem Qlq {t e : TypeId} (h : tk P t = .ptr e) : P.underlying t = some (.pointer e):=by
  unfold tk at h; split at h <;> simp_all
theorem CB {t e : TypeId} (h : tk P t = .slice e) : P.underlying t = some (.slice e):=by
  unfold tk at h; split at h <;> simp_all
theorem Q6X {t e : TypeId} {n : Nat} (h : tk P t = .arr n e) : P.underlying t = some (.array n e):=by
  unfold tk at h; split at h <;> simp_all
theorem Qa1 {t : TypeId} (h : tk P t = .struct) : ∃ fs,P.underlying t = some (.struct fs):=by
  unfold tk at h; split at h <;> simp_all
theorem und {t : TypeId} {d : TypeDesc} (h : P.underlying t = some d) : (underlying t).run P w = .ok d w:=run_underlying h w
theorem Yl {t : TypeId} {n : Nat} (h : OI P t = some n) : (sizeOf t).run P w = .ok n w:=by
  unfold OI at h
  cases hi : P.info? t with
  | none => simp [hi] at h
  | some i => simp [hi] at h; simp [sizeOf,typeInfo,hi,h]
theorem Qac {t : TypeId} {d : TypeDesc} (h : P.underlying t = some d) : (isAgg t).run P w = .ok (Q1E P t) w:=by
  simp only [isAgg,Sem.run_bind,und h,Result.andThen_ok,Q1E,tk,h]
  cases d <;> rfl
theorem Q1R {t : TypeId} {z : List Value} (h : Q6G P t = some z) : ∃ v,(∀ w,(zeroValue t).run P w = .ok v w) ∧ QJ v = z:=by
  unfold Q6G at h
  cases hi : P.info? t with
  | none => simp [hi] at h
  | some i =>
    simp only [hi] at h
    cases hz : i.zero with
    | none => simp [hz] at h
    | some v => simp only [hz,Option.some.injEq] at h; exact ⟨v,fun w => by simp [zeroValue,typeInfo,hi,hz],h⟩
theorem Ee (v : Value) : v.cells.toList = QJ v:=by cases v <;> simp [Value.cells,QJ]
theorem Qe3 (v : Value) : v.cells = (QJ v).toArray:=by rw [← Ee]
theorem Q76 (t : TypeId) (v : Value) : (newVar t v).run P w = .ok ⟨w.heap.size,0,none⟩ (w.alloc (.cells (QJ v).toArray t)):=by
  simp [newVar,newRow,Qe3]
end
section
variable {P : Program} {w : World} {K : Value → World → Prop}
theorem QjF {t : TypeId} (hu : P.underlying t = some .bool) (d : Nat) (a b : Bool) : (Op.equalIn (d + 1) t (.bool a) (.bool b)).run P w = .ok (a == b) w:=by
  simp only [Op.equalIn,Sem.run_bind,und hu,Result.andThen_ok,Sem.run_pure]
theorem QjE {t e : TypeId} (hu : P.underlying t = some (.pointer e)) (d : Nat) (b : Option Addr) : (Op.equalIn (d + 1) t (.pointer none) (.pointer b)).run P w = .ok b.isNone w:=by
  simp only [Op.equalIn,Sem.run_bind,und hu,Result.andThen_ok,Sem.run_pure]
theorem QjD {t e : TypeId} (hu : P.underlying t = some (.pointer e)) (d : Nat) (a : Addr) : (Op.equalIn (d + 1) t (.pointer (some a)) (.pointer none)).run P w = .ok false w:=by
  simp only [Op.equalIn,Sem.run_bind,und hu,Result.andThen_ok,Sem.run_pure]
theorem Qqw {t e : TypeId} {n : Nat} (hu : P.underlying t = some (.pointer e)) (hs : OI P e = some (n + 1)) (d : Nat) (a b : Addr) :
    (Op.equalIn (d + 1) t (.pointer (some a)) (.pointer (some b))).run P w = (sameAddr a b).run P w:=by
  simp only [Op.equalIn,Sem.run_bind,und hu,Result.andThen_ok,Yl hs]
  simp
theorem Qqv {t e : TypeId} (hu : P.underlying t = some (.slice e)) (d n m n' m' : Nat) (b : Option Addr) : (Op.equalIn (d + 1) t (.slice none n m) (.slice b n' m')).run P w = .ok b.isNone w:=by
  simp only [Op.equalIn,Sem.run_bind,und hu,Result.andThen_ok,Sem.run_pure]
theorem Qqx {t e : TypeId} (hu : P.underlying t = some (.slice e)) (d n m n' m' : Nat) (a : Addr) : (Op.equalIn (d + 1) t (.slice (some a) n m) (.slice none n' m')).run P w = .ok false w:=by
  simp only [Op.equalIn,Sem.run_bind,und hu,Result.andThen_ok,Sem.run_pure]
theorem QdT {t : TypeId} {fs : Array Field} {a b : Value} {r : Bool} (hu : P.underlying t = some (.struct fs)) (d : Nat) (h : (Op.equalIn (d + 1) t a b).run P w = .ok r w) :
    ∃ xs ys,a = .agg xs ∧ b = .agg ys:=by
  simp only [Op.equalIn,Sem.run_bind,und hu,Result.andThen_ok] at h
  split at h <;> simp_all
theorem Q7M {t : TypeId} (hu : P.underlying t = some .bool) (a b : Bool) : (Op.equal t (.bool a) (.bool b)).run P w = .ok (a == b) w:=QjF hu 9999 a b
theorem Qgn {t e : TypeId} (hu : P.underlying t = some (.pointer e)) (b : Option Addr) : (Op.equal t (.pointer none) (.pointer b)).run P w = .ok b.isNone w:=QjE hu 9999 b
theorem Qgm {t e : TypeId} (hu : P.underlying t = some (.pointer e)) (a : Addr) : (Op.equal t (.pointer (some a)) (.pointer none)).run P w = .ok false w:=QjD hu 9999 a
theorem Qnx {t e : TypeId} {n : Nat} (hu : P.underlying t = some (.pointer e)) (hs : OI P e = some (n + 1)) (a b : Addr) :
    (Op.equal t (.pointer (some a)) (.pointer (some b))).run P w = (sameAddr a b).run P w:=Qqw hu hs 9999 a b
theorem Qnw {t e : TypeId} (hu : P.underlying t = some (.slice e)) (n m n' m' : Nat) (b : Option Addr) : (Op.equal t (.slice none n m) (.slice b n' m')).run P w = .ok b.isNone w:=Qqv hu 9999 n m n' m' b
theorem Qny {t e : TypeId} (hu : P.underlying t = some (.slice e)) (n m n' m' : Nat) (a : Addr) : (Op.equal t (.slice (some a) n m) (.slice none n' m')).run P w = .ok false w:=Qqx hu 9999 n m n' m' a
theorem Nk {t : TypeId} {fs : Array Field} {a b : Value} {r : Bool} (hu : P.underlying t = some (.struct fs)) (h : (Op.equal t a b).run P w = .ok r w) :
    ∃ xs ys,a = .agg xs ∧ b = .agg ys:=QdT hu 9999 h
theorem Q6B {t : TypeId} {x y : Operand} {a b : Value} {r : Bool}
    (hb : binOp .eql t a b = (do let r ← Op.equal t a b; pure (.bool r)))
    (hg : (eqGuard .eql t x y a b).run P w = .ok () w) (he : (Op.equal t a b).run P w = .ok r w) :
    (do eqGuard .eql t x y a b; binOp .eql t a b).run P w = .ok (.bool r) w:=by
  simp only [hb,Sem.run_bind,hg,he,Result.andThen_ok,Sem.run_pure]
theorem Q6s {t : TypeId} {x y : Operand} {a b : Value} {r : Bool}
    (hb : binOp .neq t a b = (do let r ← Op.equal t a b; pure (.bool !r)))
    (hg : (eqGuard .neq t x y a b).run P w = .ok () w) (he : (Op.equal t a b).run P w = .ok r w) :
    (do eqGuard .neq t x y a b; binOp .neq t a b).run P w = .ok (.bool !r) w:=by
  simp only [hb,Sem.run_bind,hg,he,Result.andThen_ok,Sem.run_pure]
def Pd (P : Program) (op : BinOp) (t : TypeId) (x y : Operand) (a b : Value) (w : World) (K : Value → World → Prop) : Prop :=
  ∃ v,(∀ w,(do eqGuard op t x y a b; binOp op t a b).run P w = .ok v w) ∧ K v w
def Qin (P : Program) (op : BinOp) (t : TypeId) (x y : Operand) (a b : Value) (w : World) (K : Value → World → Prop) : Prop :=
  ∃ v,(do eqGuard op t x y a b; binOp op t a b).run P w = .ok v w ∧ K v w
theorem Qig {op : BinOp} {t : TypeId} {x y : Operand} {a b : Value} {k : IntKind} (hk : tk P t = .int k) (h : Ev P op t x y a b w fun v => K v w) :
    Pd P op t x y a b w K:=by
  simp only [Ev,hk,Gy,Gw,DD,Gx,BD,UB] at h
  split at h <;> first
    | (simp only [ZU,VR,Q1k,Q3C,Q3B,QtD,xOr,Qwl,YA,Ad,Wu,xLe,Rn,xGe,Et] at h
       split at h <;> first
         | exact h.elim
         | (split at h <;> first
             | exact h.elim
             | (rename_i hs; simp [sameKind] at hs; subst hs
                first
                  | exact ⟨_,fun w => by simp [eqGuard,binOp,Op.intArith,Op.intBits,Op.intCmp],h.out⟩
                  | exact ⟨_,fun w => by simp [eqGuard,binOp,Op.intArith,Op.intBits,Op.intCmp],h⟩
                  | (split at h <;> first
                      | exact h.elim
                      | (rename_i hn; simp [Ha] at hn; exact ⟨_,fun w => by simp [eqGuard,binOp,Op.intDiv,hn],h.out⟩)))))
    | (simp only [Qwm,Q9e] at h
       split at h <;> first
         | exact h.elim
         | (split at h <;> first
             | exact h.elim
             | (rename_i hn; simp [isNeg] at hn; exact ⟨_,fun w => by simp [eqGuard,binOp,Op.shift,show ¬ _ < (0 : Int) from Int.not_lt.2 hn],h.out⟩)))
    | exact h.elim
theorem Qif {op : BinOp} {t : TypeId} {x y : Operand} {a b : Value} (hk : tk P t = .str) (h : Ev P op t x y a b w fun v => K v w) :
    Pd P op t x y a b w K:=by
  simp only [Ev,hk,Gy,Gw,DD,Gx,BD,UB] at h
  split at h
  · simp only [BZ,Q9R] at h
    split at h
    · rename_i s r
      obtain ⟨h1,h2⟩:=h.out
      refine ⟨_,fun w => ?_,h2⟩
      have h3 : ¬ ((s.size + r.size : Nat) : Int) > IntKind.i64.max:=by rw [IntKind.max_i64]; exact Int.not_lt.2 h1
      simp only [eqGuard_add,binOp,Op.stringOp,Sem.run_bind,Sem.run_pure,Result.andThen_ok]
      rw [if_neg h3]; rfl
    · exact h.elim
  · simp only [Q1j,Q9R] at h
    split at h
    · exact ⟨_,fun w => by simp only [eqGuard_at_string,binOp,Op.stringOp,Sem.run_bind,Sem.run_pure,Result.andThen_ok],h⟩
    · exact h.elim
  · simp only [Qis,Q9R] at h
    split at h
    · exact ⟨_,fun w => by simp only [eqGuard_at_string,binOp,Op.stringOp,Sem.run_bind,Sem.run_pure,Result.andThen_ok],h⟩
    · exact h.elim
  · exact h.elim
theorem Qew {op : BinOp} {t : TypeId} {x y : Operand} {a b : Value} (hk : tk P t = .bool) (h : Ev P op t x y a b w fun v => K v w) :
    Pd P op t x y a b w K:=by
  simp only [Ev,hk,Gy,Gw,DD,Gx,BD,UB] at h
  split at h
  · simp only [Qfg] at h
    split at h
    · exact ⟨_,fun w => Q6B rfl (by simp only [eqGuard_at_bool,Sem.run_pure]) (Q7M (Qhw hk) _ _),h⟩
    · exact h.elim
  · simp only [Qcu] at h
    split at h
    · exact ⟨_,fun w => Q6s rfl (by simp only [eqGuard_at_bool,Sem.run_pure]) (Q7M (Qhw hk) _ _),h⟩
    · exact h.elim
  · exact h.elim
theorem Qd3 {t e : TypeId} {n : Nat} {a b : Value} {F : Bool → Prop} (hu : P.underlying t = some (.pointer e)) (hs : OI P e = some (n + 1)) (h : Ia P w a b F) :
    ∃ r p,a = .pointer p ∧ (∃ q,b = .pointer q) ∧ (Op.equal t a b).run P w = .ok r w ∧ F r:=by
  unfold Ia at h
  split at h
  · exact ⟨_,_,rfl,⟨_,rfl⟩,Qgn hu _,h⟩
  · exact ⟨_,_,rfl,⟨_,rfl⟩,Qgm hu _,h⟩
  · obtain ⟨r,hr,hf⟩:=h.out
    exact ⟨r,_,rfl,⟨_,rfl⟩,by rw [Qnx hu hs,hr],hf⟩
  · exact h.elim
theorem Qr9 {op : BinOp} {t e : TypeId} {x y : Operand} {a b : Value} (hk : tk P t = .ptr e) (h : Ev P op t x y a b w fun v => K v w) :
    Qin P op t x y a b w K:=by
  simp only [Ev,hk,Gy,Gw,DD,Gx,BD,UB] at h
  split at h
  · rename_i n hn
    split at h
    · obtain ⟨r,p,rfl,⟨q,rfl⟩,hr,hf⟩:=Qd3 (Qlq hk) hn h
      exact ⟨_,Q6B (by cases p <;> cases q <;> rfl) (by simp only [eqGuard_at_pointer,Sem.run_pure]) hr,hf⟩
    · obtain ⟨r,p,rfl,⟨q,rfl⟩,hr,hf⟩:=Qd3 (Qlq hk) hn h
      exact ⟨_,Q6s (by cases p <;> cases q <;> rfl) (by simp only [eqGuard_at_pointer,Sem.run_pure]) hr,hf⟩
    · exact h.elim
  · exact h.elim
theorem Qde {t e : TypeId} {a b : Value} {F : Bool → Prop} (hu : P.underlying t = some (.slice e)) (h : Qhc a b F) :
    ∃ r p n m,a = .slice p n m ∧ (∃ q n m,b = .slice q n m) ∧ (∀ w,(Op.equal t a b).run P w = .ok r w) ∧ F r:=by
  unfold Qhc at h
  split at h
  · exact ⟨_,_,_,_,rfl,⟨_,_,_,rfl⟩,fun w => Qnw hu _ _ _ _ _,h⟩
  · exact ⟨_,_,_,_,rfl,⟨_,_,_,rfl⟩,fun w => Qny hu _ _ _ _ _,h⟩
  · exact h.elim
theorem QaD {op : BinOp} {t e : TypeId} {x y : Operand} {a b : Value} (hk : tk P t = .slice e) (h : Ev P op t x y a b w fun v => K v w) :
    Pd P op t x y a b w K:=by
  simp only [Ev,hk,Gy,Gw,DD,Gx,BD,UB] at h
  split at h
  · obtain ⟨r,p,n,m,rfl,⟨q,n',m',rfl⟩,hr,hf⟩:=Qde (P:=P) (CB hk) h
    exact ⟨_,fun w => Q6B rfl (by simp only [eqGuard_at_slice,Sem.run_pure]) (hr w),hf⟩
  · obtain ⟨r,p,n,m,rfl,⟨q,n',m',rfl⟩,hr,hf⟩:=Qde (P:=P) (CB hk) h
    exact ⟨_,fun w => Q6s rfl (by simp only [eqGuard_at_slice,Sem.run_pure]) (hr w),hf⟩
  · exact h.elim
theorem QgT {op : BinOp} {t : TypeId} {x y : Operand} {a b : Value} (hk : tk P t = .struct) (h : Ev P op t x y a b w fun v => K v w) :
    Qin P op t x y a b w K:=by
  obtain ⟨fs,hu⟩:=Qa1 hk
  simp only [Ev,hk,Gy,Gw,DD,Gx,BD,UB] at h
  split at h
  · obtain ⟨r,hg,he,hf⟩:=h.out
    obtain ⟨xs,ys,rfl,rfl⟩:=Nk hu he
    exact ⟨_,Q6B rfl hg he,hf⟩
  · obtain ⟨r,hg,he,hf⟩:=h.out
    obtain ⟨xs,ys,rfl,rfl⟩:=Nk hu he
    exact ⟨_,Q6s rfl hg he,hf⟩
  · exact h.elim
theorem Pd.ok {op : BinOp} {t : TypeId} {x y : Operand} {a b : Value} (h : Pd P op t x y a b w K) : Qin P op t x y a b w K :=
  let ⟨v,h1,h2⟩:=h; ⟨v,h1 w,h2⟩
theorem Qfm {op : BinOp} {t : TypeId} {x y : Operand} {a b : Value} (h : Ev P op t x y a b w fun v => K v w) :
    Qin P op t x y a b w K:=by
  cases hk : tk P t with
  | int k => exact (Qig hk h).ok
  | str => exact (Qif hk h).ok
  | bool => exact (Qew hk h).ok
  | ptr e => exact Qr9 hk h
  | slice e => exact (QaD hk h).ok
  | struct => exact QgT hk h
  | arr n e => simp [Ev,hk] at h
  | func => simp [Ev,hk] at h
  | other => simp [Ev,hk] at h
theorem Qfv (vs : List Value) : ∀ (cells : Array Value) (off k : Nat),
    ((vs.zipIdx k).foldl (fun (cs : Array Value) (x : Value × Nat) => cs.setIfInBounds (off + x.2) x.1) cells).toList = setFrom cells.toList (off + k) vs:=by
  induction vs with
  | nil => intro cells off k; simp [setFrom]
  | cons v r ih =>
    intro cells off k
    simp only [List.zipIdx_cons,List.foldl_cons,setFrom]
    rw [ih]
    simp [Nat.add_assoc]
theorem QcY (v : Value) (cells : Array Value) (off : Nat) :
    (v.cells.zipIdx.foldl (fun cs (c,j) => cs.setIfInBounds (off + j) c) cells).toList = setFrom cells.toList off (QJ v):=by
  have h:=Qfv (QJ v) cells off 0
  rw [← Array.foldl_toList,Array.toList_zipIdx,Ee]
  simpa using h
theorem fill_eq (place : Nat → Option (Nat × Nat)) : ∀ (parts : List (Nat × Value)) (ps : List (Nat × Nat × Value)) (cells : Array Value) (cs : List Value),
    (parts.map fun p => (place p.1).map fun q => (q.1,q.2,p.2)) = ps.map some → QdR cells.toList ps = some cs → Instr.fill place cells parts = some cs.toArray:=by
  intro parts
  induction parts with
  | nil =>
    intro ps cells cs hp hf
    cases ps with
    | nil => simp [QdR] at hf; subst hf; simp [Instr.fill]
    | cons x r => simp at hp
  | cons p r ih =>
    intro ps cells cs hp hf
    cases ps with
    | nil => simp at hp
    | cons x ps =>
      obtain ⟨o,n,v⟩:=x
      obtain ⟨i,u⟩:=p
      simp only [List.map_cons,List.cons.injEq] at hp
      obtain ⟨h1,h2⟩:=hp
      cases hq : place i with
      | none => simp [hq] at h1
      | some q =>
        obtain ⟨o',n'⟩:=q
        simp [hq] at h1
        obtain ⟨rfl,rfl,rfl⟩:=h1
        simp only [QdR] at hf
        split at hf
        · rename_i hb
          split at hf
          · rename_i hc
            have hb':=Nat.eq_of_beq_eq_true hb
            have hc':=Nat.le_of_ble_eq_true hc
            have hsz : u.cells.size = (QJ u).length:=by rw [← Ee]; simp
            simp only [Instr.fill,hq]
            rw [if_neg (by simp [hsz,hb']; simp at hc'; omega)]
            exact ih ps _ cs h2 (by rw [QcY]; exact hf)
          · cases hf
        · cases hf
theorem Qdk (fs : List Field) : ∀ (ps : List (Nat × Nat)),placesOf P fs = some ps →
    (fs.mapM (m:=Sem) fun f => do pure (f.offset,← sizeOf f.type)).run P w = .ok ps w:=by
  induction fs with
  | nil => intro ps h; simp [placesOf] at h; subst h; simp
  | cons f r ih =>
    intro ps h
    simp only [placesOf] at h
    split at h
    · rename_i n hn
      split at h
      · rename_i qs hq
        cases h
        simp only [List.mapM_cons,Sem.run_bind,Yl hn,ih _ hq,Result.andThen_ok,Sem.run_pure]
      · cases h
    · cases h
theorem Qd7 {places : List (Nat × Nat)} {l : List Value} : ∀ (r : List (Nat × Operand)) (ps : List (Nat × Nat × Value)),partsOf places l r = some ps →
    ((r.map fun p => (p.1,ev l p.2)).map fun p => (places.toArray[p.1]?).map fun q => (q.1,q.2,p.2)) = ps.map some:=by
  intro r
  induction r with
  | nil => intro ps h; simp [partsOf] at h; subst h; rfl
  | cons p r ih =>
    intro ps h
    obtain ⟨i,x⟩:=p
    simp only [partsOf] at h
    split at h
    · rename_i o n hq
      split at h
      · rename_i qs hr
        cases h
        have:=ih _ hr
        simp only [List.map_cons,List.cons.injEq]
        exact ⟨by simp [hq],this⟩
      · cases h
    · cases h
theorem Q1z (size : Nat) (l : List Value) : ∀ (r : List (Nat × Operand)),
    ((r.map fun p => (p.1,ev l p.2)).map fun p => (some (p.1 * size,size)).map fun q => (q.1,q.2,p.2)) = (Q7O size l r).map some:=by
  intro r
  induction r with
  | nil => rfl
  | cons p r ih => obtain ⟨i,x⟩:=p; simp only [Q7O,List.map_cons,List.cons.injEq]; exact ⟨rfl,ih⟩
theorem QaC {t : TypeId} {l : List Value} {parts : Array (Nat × Operand)} {ty : TypeId}
    (h : XV P l (.build t parts) ty w K) : ∃ v,(∀ w,(Instr.build t (parts.map fun (i,x) => (i,ev l x))).run P w = .ok v w) ∧ K v w:=by
  simp only [XV] at h
  split at h
  · rename_i z hk hz
    obtain ⟨fs,hu⟩:=Qa1 hk
    obtain ⟨zv,hzr,hzc⟩:=Q1R hz
    split at h
    · rename_i places hpl
      split at h
      · rename_i ps hps
        simp only [Q23,hu] at hpl
        unfold QN at h
        split at h
        · rename_i cs hcs
          have hf:=fill_eq (fun i => places.toArray[i]?) (parts.toList.map fun p => (p.1,ev l p.2)) ps zv.cells cs (Qd7 _ _ hps) (by rw [Ee,hzc]; exact hcs)
          refine ⟨_,fun w => ?_,h⟩
          have hm : (fs.mapM (m:=Sem) fun f => do pure (f.offset,← sizeOf f.type)).run P w = .ok places.toArray w:=by
            have:=Qdk (w:=w) fs.toList _ hpl
            rw [Array.mapM_eq_mapM_toList,Sem.run_map,this]; rfl
          simp only [Instr.build,Sem.run_bind,hzr,Result.andThen_ok,und hu,hm]
          have e : (parts.map fun (x : Nat × Operand) => (x.1,ev l x.2)).toList = parts.toList.map fun p => (p.1,ev l p.2):=by simp
          rw [e,hf]
          simp
        · exact h.elim
      · exact h.elim
    · exact h.elim
  · rename_i n e z hk hz
    have hu:=Q6X hk
    obtain ⟨zv,hzr,hzc⟩:=Q1R hz
    split at h
    · rename_i sz hsz
      unfold QN at h
      split at h
      · rename_i cs hcs
        have hf:=fill_eq (fun i => some (i * sz,sz)) (parts.toList.map fun p => (p.1,ev l p.2)) _ zv.cells cs (Q1z sz l _) (by rw [Ee,hzc]; exact hcs)
        refine ⟨_,fun w => ?_,h⟩
        simp only [Instr.build,Sem.run_bind,hzr,Result.andThen_ok,und hu,Yl hsz]
        have e : (parts.map fun (x : Nat × Operand) => (x.1,ev l x.2)).toList = parts.toList.map fun p => (p.1,ev l p.2):=by simp
        rw [e,hf]
        simp
      · exact h.elim
    · exact h.elim
  · exact h.elim
theorem QlG (z : List Value) : ∀ n i,i < n * z.length → (Kc z n)[i]? = z[i % z.length]?:=by
  intro n
  induction n with
  | zero => intro i hi; simp at hi
  | succ n ih =>
    intro i hi
    simp only [Kc]
    by_cases hlt : i < z.length
    · rw [List.getElem?_append_left hlt,Nat.mod_eq_of_lt hlt]
    · rw [List.getElem?_append_right (by omega),ih (i - z.length) (by rw [Nat.succ_mul] at hi; omega)]
      congr 1
      conv => rhs; rw [show i = (i - z.length) + z.length by omega]
      rw [Nat.add_mod_right]
theorem Ik (z : List Value) : ∀ n,(Kc z n).length = n * z.length:=by
  intro n
  induction n with
  | zero => simp [Kc]
  | succ n ih => simp [Kc,ih,Nat.succ_mul]; omega
theorem QlF (z : Array Value) (n sz : Nat) (hz : z.size = sz) : (Array.range (n * sz)).map (fun i => z[i % z.size]!) = (Kc z.toList n).toArray:=by
  apply Array.ext_getElem?
  intro i
  by_cases hi : i < n * sz
  · have hpos : 0 < z.size:=by
      rcases Nat.eq_zero_or_pos sz with h0 | h0
      · simp [h0] at hi
      · omega
    have hm:=Nat.mod_lt i hpos
    have h1:=QlG z.toList n i (by simpa [hz] using hi)
    simp only [List.getElem?_toArray,h1]
    simp [hi,hm]
  · have h2:=Ik z.toList n
    rw [Array.getElem?_eq_none (by simp; omega),List.getElem?_toArray,List.getElem?_eq_none (by rw [h2]; simp [hz]; omega)]
theorem Q83 {t : TypeId} {n : Nat} {l : List Value} {parts : Array (Nat × Operand)} {ty : TypeId}
    (h : XV P l (.buildSlice t n parts) ty w K) : ∃ v w',(Instr.buildSlice t n (parts.map fun (i,x) => (i,ev l x))).run P w = .ok v w' ∧ K v w':=by
  simp only [XV] at h
  split at h
  · rename_i e hk
    have hu:=CB hk
    split at h
    · rename_i sz z hsz hz
      obtain ⟨zv,hzr,hzc⟩:=Q1R hz
      split at h
      · rename_i hle hlen
        unfold QN at h
        split at h
        · rename_i cs hcs
          have QzH:=Nat.le_of_ble_eq_true hle
          have hlen':=Nat.eq_of_beq_eq_true hlen
          have hzl : zv.cells.toList = z:=by rw [Ee,hzc]
          have hzs : zv.cells.size = sz:=by rw [← Array.length_toList,hzl,hlen']
          have e : (parts.map fun (x : Nat × Operand) => (x.1,ev l x.2)).toList = parts.toList.map fun p => (p.1,ev l p.2):=by simp
          refine ⟨_,_,?_,h.out⟩
          by_cases h0 : n * sz = 0
          · have hrz : Kc z n = []:=List.eq_nil_of_length_eq_zero (by rw [Ik,hlen',h0])
            have hf:=fill_eq (fun i => some (i * sz,sz)) (parts.toList.map fun p => (p.1,ev l p.2)) _ #[] cs (Q1z sz l _) (by rw [hrz] at hcs; exact hcs)
            simp only [Instr.buildSlice,Sem.run_bind,und hu,Yl hsz,Result.andThen_ok,h0]
            rw [e]
            simp [Array.range_zero',hf,newRow]
          · have hf:=fill_eq (fun i => some (i * sz,sz)) (parts.toList.map fun p => (p.1,ev l p.2)) _ (Kc z n).toArray cs (Q1z sz l _) (by simpa using hcs)
            have hr:=QlF zv.cells n sz hzs
            rw [hzl] at hr
            simp only [Instr.buildSlice,Sem.run_bind,und hu,Yl hsz,Result.andThen_ok]
            rw [if_neg (by omega),if_neg h0]
            simp only [Sem.run_bind,hzr,Result.andThen_ok,Sem.run_pure]
            rw [hr,e,hf]
            simp [newRow]
        · exact h.elim
      · exact h.elim
    · exact h.elim
  · exact h.elim
theorem Q3X (a : Addr) (vs : Array Value) (h : ∀ i,i < vs.size → w.cell? (a.add i) = vs[i]?) : (loadCells a vs.size).run P w = .ok vs w:=by
  have:=run_loadCells_list (P:=P) (w:=w) a vs.toList (fun j v hj => by
    have hlt : j < vs.size:=by
      rcases Nat.lt_or_ge j vs.size with h | h
      · exact h
      · rw [Array.getElem?_toList,Array.getElem?_eq_none h] at hj; cases hj
    rw [h j hlt,← Array.getElem?_toList]; exact hj)
  simpa using this
theorem CE (a : Addr) : (Instr.sureAddr (.pointer (some a))).run P w = .ok a w:=rfl
theorem QiT {a : Addr} {v : Value} (h : w.cell? a = some v) : (load a).run P w = .ok v w:=by simp [h]
theorem Q03 {t : TypeId} (h : known P t = true) : (isAgg t).run P w = .ok (Q1E P t) w:=by
  unfold known at h
  cases hd : P.underlying t with
  | none => simp [hd] at h
  | some d => exact Qac hd
end
end Go.Proofs.YtbnhggfiembejaaGreatDoor.X
end
section
namespace Go.Proofs.YtbnhggfiembejaaGreatDoor.X
open Go
set_option linter.unusedSimpArgs false
set_option linter.unusedVariables false
section
variable {P : Program} {w : World} {K : Value → World → Prop} {l : List Value}
theorem Pb {v : Value} {F : Addr → Prop} (h : Z6 v F) : ∃ a,v = .pointer (some a) ∧ F a:=by
  unfold Z6 at h
  split at h
  · exact ⟨_,rfl,h⟩
  · exact h.elim
theorem Q2w {s f o n : Nat} {t : TypeId} (h : Q6A P s f = some (o,n,t)) :
    ∃ fs x,P.underlying s = some (.struct fs) ∧ fs[f]? = some x ∧ x.offset = o ∧ x.type = t ∧ OI P t = some n ∧ known P t = true:=by
  unfold Q6A at h
  split at h
  · rename_i fs hu
    split at h
    · rename_i x hx
      split at h
      · rename_i hk
        split at h
        · rename_i m hm
          cases h
          exact ⟨fs,x,hu,hx,rfl,rfl,hm,hk⟩
        · cases h
      · cases h
    · cases h
  · cases h
theorem Qmc {t : TypeId} {x : Operand} {ty : TypeId} (h : XV P l (.load t x) ty w K) : ∃ v,(Instr.loadAt t (ev l x)).run P w = .ok v w ∧ K v w:=by
  simp only [XV] at h
  split at h
  · rename_i hk
    obtain ⟨a,ha,h⟩:=Pb h
    rw [ha]
    have hag:=Q03 (w:=w) hk
    split at h
    · rename_i hagg
      split at h
      · rename_i n hn
        obtain ⟨vs,hs,hc,hK⟩:=h.out
        subst hs
        exact ⟨_,by simp [Instr.loadAt,CE,loadVar,hag,hagg,Yl hn,Q3X a vs hc],hK⟩
      · exact h.elim
    · rename_i hagg
      obtain ⟨v,hv,hK⟩:=h.out
      exact ⟨v,by simp [Instr.loadAt,CE,loadVar,hag,hagg,hv],hK⟩
  · exact h.elim
theorem Q9x (a : Addr) : a.add 0 = a:=by simp [Addr.add]
theorem QiC {t : TypeId} {x y : Operand} {ty : TypeId} (h : XV P l (.store t x y) ty w K) : ∃ w',(Instr.storeAt t (ev l x) (ev l y)).run P w = .ok () w' ∧ K undef w':=by
  simp only [XV] at h
  obtain ⟨a,ha,h⟩:=Pb h
  rw [ha]
  split at h
  · rename_i hagg hsz
    obtain ⟨⟨o,ho⟩,hf,h1,hK⟩:=h.out
    refine ⟨_,?_,hK⟩
    have hc : QJ (ev l y) = [ev l y]:=by
      generalize ev l y = v at h1
      cases v <;> first | rfl | simp [Value.oneCell'] at h1
    have hs:=run_store P w a (ev l y) .plain h1
    simp only [stored,ho,hf] at hs
    simp only [Instr.storeAt,Sem.run_bind,CE,Result.andThen_ok,storeVar,Yl hsz,Qe3,hc]
    simp only [List.size_toArray,List.length_cons,List.length_nil,ne_eq,not_true_eq_false,if_false,storeCells,Sem.run_bind,Q9x]
    rw [hs]
    simp
  · obtain ⟨w',hr,hK⟩:=h.out
    exact ⟨w',by simp [Instr.storeAt,CE,hr],hK⟩
theorem Q0I {s : TypeId} {x : Operand} {f : Nat} {ty : TypeId} (h : XV P l (.fieldAddr s x f) ty w K) : ∃ v,(∀ w,(Instr.fieldAt s (ev l x) f).run P w = .ok v w) ∧ K v w:=by
  simp only [XV] at h
  split at h
  · rename_i o n t hf
    obtain ⟨fs,y,hu,hy,rfl,rfl,hn,_⟩:=Q2w hf
    obtain ⟨a,ha,h⟩:=Pb h
    rw [ha]
    exact ⟨_,fun w => by simp [Instr.fieldAt,und hu,hy,CE,fieldPlace,Yl hn],h⟩
  · exact h.elim
theorem QlL {t : TypeId} {x : Value} {o n : Nat} {F : Value → Prop} (hk : known P t = true) (hn : OI P t = some n) (h : Qkl (Q1E P t) x o n F) :
    ∃ cs v,x = .agg cs ∧ (∀ w,(part t cs o).run P w = .ok v w) ∧ F v:=by
  unfold Qkl at h
  have hag:=fun w => Q03 (w:=w) hk
  split at h
  · rename_i cs
    split at h
    · rename_i ha
      exact ⟨_,_,rfl,fun w => by simp [part,hag,ha,Yl hn],h⟩
    · rename_i ha
      split at h
      · rename_i v hv
        exact ⟨_,_,rfl,fun w => by simp [part,hag,ha,hv],h⟩
      · exact h.elim
  · exact h.elim
theorem Qao {s : TypeId} {x : Operand} {f : Nat} {ty : TypeId} (h : XV P l (.field s x f) ty w K) : ∃ v,(∀ w,(Instr.field s (ev l x) f).run P w = .ok v w) ∧ K v w:=by
  simp only [XV] at h
  split at h
  · rename_i o n t hf
    obtain ⟨fs,y,hu,hy,rfl,rfl,hn,hk⟩:=Q2w hf
    obtain ⟨cs,v,hx,hr,hK⟩:=QlL hk hn h
    exact ⟨v,fun w => by simp [Instr.field,und hu,hy,hx,asAgg,hr],hK⟩
  · exact h.elim
theorem Q0G {t : TypeId} {x i : Operand} {ty : TypeId} (h : XV P l (.indexAddr t x i) ty w K) : ∃ v,(∀ w,(Instr.indexAt t (ev l x) (ev l i)).run P w = .ok v w) ∧ K v w:=by
  simp only [XV] at h
  split at h
  · rename_i e hk
    have hu:=CB hk
    split at h
    · rename_i n hn
      unfold Zb at h
      split at h
      · rename_i a len cap k j hx hi
        obtain ⟨m,rfl,hm,hK⟩:=h.out
        rw [hx,hi]
        refine ⟨_,fun w => ?_,hK⟩
        have h0 : (0 : Int) ≤ (m : Int) ∧ (m : Int) < (len : Int):=⟨by omega,by omega⟩
        simp [Instr.indexAt,asIntOf,und hu,Yl hn,h0]
        intro hh; omega
      · exact h.elim
    · exact h.elim
  · rename_i c e hk
    have hu:=Q6X hk
    split at h
    · rename_i n hn
      unfold Gr at h
      split at h
      · rename_i a k j hx hi
        obtain ⟨m,rfl,hm,hK⟩:=h.out
        rw [hx,hi]
        refine ⟨_,fun w => ?_,hK⟩
        have h0 : (0 : Int) ≤ (m : Int) ∧ (m : Int) < (c : Int):=⟨by omega,by omega⟩
        simp [Instr.indexAt,asIntOf,und hu,CE,Yl hn,h0]
        intro hh; omega
      · exact h.elim
    · exact h.elim
  · exact h.elim
theorem Qj3 {t : TypeId} {x i : Operand} {ty : TypeId} (h : XV P l (.index t x i) ty w K) : ∃ v w',(Instr.index t (ev l x) (ev l i)).run P w = .ok v w' ∧ K v w':=by
  simp only [XV] at h
  split at h
  · rename_i hk
    have hu:=OG hk
    unfold V4 at h
    split at h
    · rename_i s k j hx hi
      obtain ⟨m,b,rfl,hb,hK⟩:=h.out
      rw [hx,hi]
      refine ⟨_,_,?_,hK⟩
      simp [Instr.index,asIntOf,und hu,hb]
    · exact h.elim
  · exact h.out
theorem AB {v : Value} {i : Int} {k : IntKind} {n y : Nat} {code : BoundsCode} (hv : v = .int k i) (hi : i = (n : Int)) (hn : n ≤ y) : (Instr.sliceBound v y code).run P w = .ok n w:=by
  subst hv; subst hi
  have h0 : (0 : Int) ≤ (n : Int) ∧ (n : Int) ≤ (y : Int):=⟨by omega,by omega⟩
  simp [Instr.sliceBound,asIntOf,h0]
theorem QbE {b : Bool} {len cap : Nat} {lo hi mx : Option Value} {F : Nat → Nat → Nat → Prop} (h : QeI len cap lo hi mx F) :
    ∃ l h m,(∀ w,(Instr.sliceBounds b len cap lo hi mx).run P w = .ok (l,h,m) w) ∧ F l h m:=by
  obtain ⟨l,h,m,h1,h2,h3,h4⟩:=h.out
  refine ⟨l,h,m,fun w => ?_,h4⟩
  unfold Instr.sliceBounds
  cases mx with
  | none =>
    subst h1
    cases hi with
    | none =>
      obtain ⟨rfl,_⟩:=h2
      cases lo with
      | none => subst h3; simp
      | some v =>
        cases v <;> first | exact h3.elim | skip
        obtain ⟨h3a,h3b⟩:=h3
        simp [AB rfl h3a h3b]
    | some v =>
      cases v <;> first | exact h2.elim | skip
      obtain ⟨h2a,h2b⟩:=h2
      cases lo with
      | none => subst h3; cases b <;> simp [AB rfl h2a h2b]
      | some v =>
        cases v <;> first | exact h3.elim | skip
        obtain ⟨h3a,h3b⟩:=h3
        cases b <;> simp [AB rfl h2a h2b,AB rfl h3a h3b]
  | some u =>
    cases u <;> first | exact h1.elim | skip
    obtain ⟨h1a,h1b⟩:=h1
    cases hi with
    | none => exact absurd h2.2 (by simp)
    | some v =>
      cases v <;> first | exact h2.elim | skip
      obtain ⟨h2a,h2b⟩:=h2
      cases lo with
      | none => subst h3; cases b <;> simp [AB rfl h1a h1b,AB rfl h2a h2b]
      | some v =>
        cases v <;> first | exact h3.elim | skip
        obtain ⟨h3a,h3b⟩:=h3
        cases b <;> simp [AB rfl h1a h1b,AB rfl h2a h2b,AB rfl h3a h3b]
theorem Qa5 {t : TypeId} {x : Operand} {lo hi mx : Option Operand} {ty : TypeId} (h : XV P l (.slice t x lo hi mx) ty w K) :
    ∃ v,(∀ w,(Instr.sliceAt t (ev l x) (lo.map (ev l)) (hi.map (ev l)) (mx.map (ev l))).run P w = .ok v w) ∧ K v w:=by
  simp only [XV] at h
  split at h
  · rename_i e hk
    have hu:=CB hk
    split at h
    · rename_i n hn
      unfold Yg at h
      split at h
      · rename_i a len cap hx
        obtain ⟨l',h',m',hr,hK⟩:=QbE (P:=P) (b:=true) h
        rw [hx]
        exact ⟨_,fun w => by simp [Instr.sliceAt,Instr.slice,und hu,hr,Yl hn,Q08],hK⟩
      · exact h.elim
    · exact h.elim
  · rename_i k e hk
    have hu:=Q6X hk
    split at h
    · rename_i n hn
      unfold Cs at h
      split at h
      · rename_i a hx
        obtain ⟨l',h',m',hr,hK⟩:=QbE (P:=P) (b:=false) h
        rw [hx]
        exact ⟨_,fun w => by simp [Instr.sliceAt,und hu,CE,hr,Yl hn],hK⟩
      · exact h.elim
    · exact h.elim
  · rename_i hk
    have hu:=OG hk
    split at h
    · unfold OB at h
      split at h
      · rename_i s hx
        obtain ⟨l',h',m',hr,hK⟩:=QbE (P:=P) (b:=false) h
        rw [hx]
        exact ⟨_,fun w => by simp [Instr.sliceAt,Instr.slice,und hu,hr],hK⟩
      · exact h.elim
    · exact h.elim
  · exact h.elim
theorem QnI {s d : TypeId} {x : Operand} {ty : TypeId} (h : XV P l (.convert s d x) ty w K) : ∃ v w',(convert s d (ev l x)).run P w = .ok v w' ∧ K v w':=by
  simp only [XV] at h
  split at h
  · rename_i k hs hd
    unfold Kq at h
    split at h
    · rename_i k' n hx
      rw [hx]
      exact ⟨_,_,by simp [convert,und (Qb2 hs),und (Qb2 hd),Conv.intToInt],h.out⟩
    · exact h.elim
  · rename_i hs hd
    unfold QtC at h
    split at h
    · rename_i n hx
      rw [hx]
      exact ⟨_,_,by simp [convert,und (OG hs),und (OG hd)],h⟩
    · exact h.elim
  · exact h.out
theorem Qes {b : Builtin} {ts : Array TypeId} {ty : TypeId} {args : List Value} (h : MM P b ts ty args w K) :
    ∃ v w',(∀ cs,(builtin b ts ty cs args.toArray).run P w = .ok (.value v) w') ∧ K v w':=by
  unfold MM at h
  split at h
  · rename_i t x ht
    split at h
    · rename_i e hk
      unfold Zq at h
      split at h
      · exact ⟨_,_,fun cs => by simp [builtin,Builtin.len_,ht,und (CB hk),goInt],h⟩
      · exact h.elim
    · rename_i hk
      unfold Qhd at h
      split at h
      · exact ⟨_,_,fun cs => by simp [builtin,Builtin.len_,ht,und (OG hk),goInt],h⟩
      · exact h.elim
    · rename_i n e hk
      exact ⟨_,_,fun cs => by simp [builtin,Builtin.len_,ht,und (Q6X hk),goInt],h⟩
    · exact h.elim
  · rename_i t x ht
    split at h
    · rename_i e hk
      unfold Qkn at h
      split at h
      · exact ⟨_,_,fun cs => by simp [builtin,Builtin.cap_,ht,und (CB hk),goInt],h⟩
      · exact h.elim
    · exact h.elim
  · unfold QaT at h
    split at h
    · exact ⟨_,_,fun cs => by simp [builtin,Builtin.min_,Builtin.min2],h⟩
    · exact h.elim
  · unfold Qit at h
    split at h
    · exact ⟨_,_,fun cs => by simp [builtin,Builtin.max_,Builtin.max2],h⟩
    · exact h.elim
  · obtain ⟨v,w',hr,hK⟩:=h.out
    exact ⟨v,w',fun cs => by simp [builtin,hr],hK⟩
  · obtain ⟨v,w',hr,hK⟩:=h.out
    exact ⟨v,w',fun cs => by simp [builtin,hr],hK⟩
  · obtain ⟨v,w',hr,hK⟩:=h.out
    exact ⟨v,w',fun cs => by simp [builtin,hr],hK⟩
  · obtain ⟨v,w',hr,hK⟩:=h.out
    exact ⟨v,w',fun cs => by simp [builtin,hr],hK⟩
  · exact h.elim
theorem QgS {f : FuncId} (h : Q4c P f = true) (args : Array Value) : (callFunc f args).run P w = .ok (.enter f args) w:=by
  unfold Q4c at h
  split at h
  · rename_i fn hf
    split at h
    · rename_i c hc
      have hn : ¬ fn.name = "runtime.NumGoroutine":=by simpa using h
      simp [callFunc,hf,hn,hc]
    · cases h
  · cases h
theorem Q6K {f : FuncId} {args : List Value} (h : Ux P f args w K) : Good P (callFunc f args.toArray) w K:=by
  unfold Ux at h
  split at h
  · rename_i hb
    simpa [Good,QgS hb] using h
  · obtain ⟨v,w',hr,hK⟩:=h.out
    simp only [Sem.run_bind] at hr
    unfold Good
    cases hc : (callFunc f args.toArray).run P w with
    | halt x y => simp [hc] at hr
    | ok n y =>
      simp only [hc,Result.andThen_ok] at hr
      cases n <;> simp at hr
      obtain ⟨rfl,rfl⟩:=hr
      exact hK
theorem Q2B {c : Call} {x : Operand} {ty : TypeId} (hc : c.callee = .value x) :
    (resolve (ev l) c ty) = Deferred.ofValue (ev l x) (c.args.map (ev l)):=by
  simp [resolve,hc]
theorem Gi {o : Oper} (h : XV P l o.op o.type w K) : Good P (execOp (ev l) o) w K:=by
  obtain ⟨dst,op,ty,pos,after,guard⟩:=o
  cases op with
  | move x => simpa [Good,execOp,XV] using h
  | assign x => simpa [Good,execOp,XV] using h
  | pick c a b =>
    simp only [XV,Qkk] at h
    split at h
    · rename_i t hc
      cases t
      · have : (execOp (ev l) ⟨dst,.pick c a b,ty,pos,after,guard⟩).run P w = .ok (.value (ev l b)) w:=by simp [execOp,hc,asBool]
        simpa [Good,this] using h
      · have : (execOp (ev l) ⟨dst,.pick c a b,ty,pos,after,guard⟩).run P w = .ok (.value (ev l a)) w:=by simp [execOp,hc,asBool]
        simpa [Good,this] using h
    · exact h.elim
  | alloc t =>
    simp only [XV] at h
    split at h
    · rename_i z hz
      obtain ⟨zv,hzr,hzc⟩:=Q1R hz
      have : (Instr.alloc t true (.tuple #[])).run P w = .ok (.pointer (some ⟨w.heap.size,0,none⟩)) (w.alloc (.cells z.toArray t)):=by
        simp [Instr.alloc,hzr,Q76,hzc]
      exact Xk this h.out
    · exact h.elim
  | box t x =>
    simp only [XV] at h
    have : (Instr.box t (ev l x)).run P w = .ok (.pointer (some ⟨w.heap.size,0,none⟩)) (w.alloc (.cells (QJ (ev l x)).toArray t)):=by
      simp [Instr.box,Q76]
    exact Xk this h.out
  | build t parts => obtain ⟨v,hr,hK⟩:=QaC h; exact Xk (hr w) hK
  | buildSlice t n parts => obtain ⟨v,w',hr,hK⟩:=Q83 h; exact Xk hr hK
  | load t x => obtain ⟨v,hr,hK⟩:=Qmc h; exact Xk hr hK
  | store t x y => obtain ⟨w',hr,hK⟩:=QiC h; exact Qjz hr hK
  | nilCheck x =>
    simp only [XV] at h
    obtain ⟨a,ha,h⟩:=Pb h
    simpa [Good,execOp,ha] using h
  | binOp op t x y yt => obtain ⟨v,hr,hK⟩:=Qfm h; exact Xk hr hK
  | unOp op t x =>
    simp only [XV] at h
    split at h
    · unfold YW at h
      split at h
      · rename_i b hb
        exact Xk (by simp [hb,Op.unary]) h
      · exact h.elim
    · unfold Qpr at h
      split at h
      · rename_i k a hb
        exact Xk (by simp [hb,Op.unary,Op.intArith]) h.out
      · exact h.elim
    · exact h.elim
  | convert s d x => obtain ⟨v,w',hr,hK⟩:=QnI h; exact Xk hr hK
  | makeFunc fn a b => exact Xk (by simp [Instr.makeFunc]) h
  | makeSlice t a b => obtain ⟨v,w',hr,hK⟩:=h.out; exact Xk hr hK
  | slice t x lo hi mx => obtain ⟨v,hr,hK⟩:=Qa5 h; exact Xk (hr w) hK
  | fieldAddr s x f => obtain ⟨v,hr,hK⟩:=Q0I h; exact Xk (hr w) hK
  | field s x f => obtain ⟨v,hr,hK⟩:=Qao h; exact Xk (hr w) hK
  | indexAddr t x i => obtain ⟨v,hr,hK⟩:=Q0G h; exact Xk (hr w) hK
  | index t x i => obtain ⟨v,w',hr,hK⟩:=Qj3 h; exact Xk hr hK
  | extract x i =>
    simp only [XV,Qb] at h
    split at h
    · rename_i vs hv
      split at h
      · rename_i v hi
        rw [Array.getElem?_toList] at hi
        exact Xk (by simp [hv,Instr.extract,hi]) h
      · exact h.elim
    · exact h.elim
  | call c =>
    simp only [XV] at h
    have ea : (c.args.toList.map (ev l)).toArray = c.args.map (ev l):=by rw [← Array.toList_map]
    split at h
    · rename_i f hf
      have:=Q6K h
      rw [ea] at this
      simpa [Good,execOp,Q2B hf,ev,Deferred.ofValue,invoke] using this
    · rename_i x hx hf
      unfold Ic at h
      split at h
      · rename_i f first captured hv
        have:=Q6K h
        have e2 : (first.toList ++ c.args.toList.map (ev l) ++ captured.toList).toArray = first ++ c.args.map (ev l) ++ captured:=by
          apply Array.ext'; simp
        rw [e2] at this
        simpa [Good,execOp,Q2B hf,hv,Deferred.ofValue,invoke] using this
      · exact h.elim
    · rename_i b hb
      obtain ⟨v,w',hr,hK⟩:=Qes h
      rw [ea] at hr
      simp only [Good,execOp,resolve,hb,Sem.run_bind,Sem.run_pure,Result.andThen_ok,invoke,hr]
      exact hK
    · exact h.elim
  | _ => exact h.elim
theorem Qj1 {s d : TypeId} {k k' : IntKind} {x : Operand} {ty : TypeId} (hs : tk P s = .int k) (hd : tk P d = .int k') (h : XV P l (.convert s d x) ty w K) :
    ∃ v,(∀ w,(convert s d (ev l x)).run P w = .ok v w) ∧ K v w:=by
  simp only [XV,hs,hd] at h
  unfold Kq at h
  split at h
  · rename_i k'' n hx
    rw [hx]
    exact ⟨_,fun w => by simp [convert,und (Qb2 hs),und (Qb2 hd),Conv.intToInt],h.out⟩
  · exact h.elim
theorem QiB {s d : TypeId} {x : Operand} {ty : TypeId} (hs : tk P s = .str) (hd : tk P d = .str) (h : XV P l (.convert s d x) ty w K) :
    ∃ v,(∀ w,(convert s d (ev l x)).run P w = .ok v w) ∧ K v w:=by
  simp only [XV,hs,hd] at h
  unfold QtC at h
  split at h
  · rename_i n hx
    rw [hx]
    exact ⟨_,fun w => by simp [convert,und (OG hs),und (OG hd)],h⟩
  · exact h.elim
theorem Qdy {t : TypeId} {x i : Operand} {ty : TypeId} (hk : tk P t = .str) (h : XV P l (.index t x i) ty w K) :
    ∃ v,(∀ w,(Instr.index t (ev l x) (ev l i)).run P w = .ok v w) ∧ K v w:=by
  simp only [XV,hk] at h
  have hu:=OG hk
  unfold V4 at h
  split at h
  · rename_i s k j hx hi
    obtain ⟨m,b,rfl,hb,hK⟩:=h.out
    rw [hx,hi]
    refine ⟨_,fun w => ?_,hK⟩
    simp [Instr.index,asIntOf,und hu,hb]
  · exact h.elim
theorem Ae {s : Sem Value} {v : Value} (h : ∀ w,s.run P w = .ok v w) : ∀ w,((do pure (Next.value (← s))) : Sem Next).run P w = .ok (.value v) w:=by
  intro w; simp [h]
theorem Q9v {b : Builtin} {ts : Array TypeId} {ty : TypeId} {args : List Value} (hb : b = .len ∨ b = .cap ∨ b = .min ∨ b = .max) (h : MM P b ts ty args w K) :
    ∃ v,(∀ w cs,(builtin b ts ty cs args.toArray).run P w = .ok (.value v) w) ∧ K v w:=by
  unfold MM at h
  split at h
  · rename_i t x ht
    split at h
    · rename_i e hk
      unfold Zq at h
      split at h
      · exact ⟨_,fun w cs => by simp [builtin,Builtin.len_,ht,und (CB hk),goInt],h⟩
      · exact h.elim
    · rename_i hk
      unfold Qhd at h
      split at h
      · exact ⟨_,fun w cs => by simp [builtin,Builtin.len_,ht,und (OG hk),goInt],h⟩
      · exact h.elim
    · rename_i n e hk
      exact ⟨_,fun w cs => by simp [builtin,Builtin.len_,ht,und (Q6X hk),goInt],h⟩
    · exact h.elim
  · rename_i t x ht
    split at h
    · rename_i e hk
      unfold Qkn at h
      split at h
      · exact ⟨_,fun w cs => by simp [builtin,Builtin.cap_,ht,und (CB hk),goInt],h⟩
      · exact h.elim
    · exact h.elim
  · unfold QaT at h
    split at h
    · exact ⟨_,fun w cs => by simp [builtin,Builtin.min_,Builtin.min2],h⟩
    · exact h.elim
  · unfold Qit at h
    split at h
    · exact ⟨_,fun w cs => by simp [builtin,Builtin.max_,Builtin.max2],h⟩
    · exact h.elim
  all_goals first | exact h.elim | (rcases hb with hb | hb | hb | hb <;> cases hb)
theorem Qiv {o : Oper} (hq : quiet P o.op = true) (hl : (match o.op with | .load .. => true | _ => false) = false) (h : XV P l o.op o.type w K) :
    ∃ v,(∀ w,(execOp (ev l) o).run P w = .ok (.value v) w) ∧ K v w:=by
  obtain ⟨dst,op,ty,pos,after,guard⟩:=o
  cases op with
  | move x => exact ⟨_,fun w => by simp [execOp],h⟩
  | pick c a b =>
    simp only [XV,Qkk] at h
    split at h
    · rename_i t hc
      cases t
      · exact ⟨_,fun w => by simp [execOp,hc,asBool],h⟩
      · exact ⟨_,fun w => by simp [execOp,hc,asBool],h⟩
    · exact h.elim
  | load t x => simp at hl
  | nilCheck x =>
    simp only [XV] at h
    obtain ⟨a,ha,h⟩:=Pb h
    exact ⟨_,fun w => by simp [execOp,ha],h⟩
  | field s x f => obtain ⟨v,hr,hK⟩:=Qao h; exact ⟨v,Ae hr,hK⟩
  | indexAddr t x i => obtain ⟨v,hr,hK⟩:=Q0G h; exact ⟨v,Ae hr,hK⟩
  | slice t x lo hi mx => obtain ⟨v,hr,hK⟩:=Qa5 h; exact ⟨v,Ae hr,hK⟩
  | fieldAddr s x f => obtain ⟨v,hr,hK⟩:=Q0I h; exact ⟨v,Ae hr,hK⟩
  | extract x i =>
    simp only [XV,Qb] at h
    split at h
    · rename_i vs hv
      split at h
      · rename_i v hi
        rw [Array.getElem?_toList] at hi
        exact ⟨v,Ae (fun w => by simp [hv,Instr.extract,hi]),h⟩
      · exact h.elim
    · exact h.elim
  | makeFunc fn a b => exact ⟨_,Ae (fun w => by simp [Instr.makeFunc]),h⟩
  | unOp op t x =>
    simp only [XV] at h
    split at h
    · unfold YW at h
      split at h
      · rename_i b hb
        exact ⟨_,Ae (fun w => by simp [hb,Op.unary]),h⟩
      · exact h.elim
    · unfold Qpr at h
      split at h
      · rename_i k a hb
        exact ⟨_,Ae (fun w => by simp [hb,Op.unary,Op.intArith]),h.out⟩
      · exact h.elim
    · exact h.elim
  | build t parts => obtain ⟨v,hr,hK⟩:=QaC h; exact ⟨v,Ae hr,hK⟩
  | binOp op t x y yt =>
    have hb : Pd P op t x y (ev l x) (ev l y) w K:=by
      simp only [quiet] at hq
      cases hk : tk P t with
      | int k => exact Qig hk h
      | str => exact Qif hk h
      | bool => exact Qew hk h
      | slice e => exact QaD hk h
      | _ => simp [hk] at hq
    obtain ⟨v,hr,hK⟩:=hb
    exact ⟨v,Ae hr,hK⟩
  | index t x i =>
    simp only [quiet] at hq
    cases hk : tk P t with
    | str => obtain ⟨v,hr,hK⟩:=Qdy hk h; exact ⟨v,Ae hr,hK⟩
    | _ => simp [hk] at hq
  | convert s d x =>
    simp only [quiet] at hq
    cases hs : tk P s with
    | int k =>
      cases hd : tk P d with
      | int k' => obtain ⟨v,hr,hK⟩:=Qj1 hs hd h; exact ⟨v,Ae hr,hK⟩
      | _ => simp [hs,hd] at hq
    | str =>
      cases hd : tk P d with
      | str => obtain ⟨v,hr,hK⟩:=QiB hs hd h; exact ⟨v,Ae hr,hK⟩
      | _ => simp [hs,hd] at hq
    | _ => simp [hs] at hq
  | call c =>
    simp only [XV] at h
    have ea : (c.args.toList.map (ev l)).toArray = c.args.map (ev l):=by rw [← Array.toList_map]
    simp only [quiet] at hq
    split at h
    · rename_i f hf; simp [hf] at hq
    · rename_i x hx hf; simp [hf] at hq
    · rename_i b hb
      have hbb : b = .len ∨ b = .cap ∨ b = .min ∨ b = .max:=by
        rw [hb] at hq
        cases b <;> simp at hq ⊢
      obtain ⟨v,hr,hK⟩:=Q9v hbb h
      rw [ea] at hr
      exact ⟨v,fun w => by simp only [execOp,resolve,hb,Sem.run_bind,Sem.run_pure,Result.andThen_ok,invoke,hr],hK⟩
    · exact h.elim
  | _ => simp [quiet] at hq
theorem Qsc {w : World} {t : TypeId} {a : Addr} {v : Value} (h : Q1E P t = true) : Ib P w t (.pointer (some a)) v = (match v with | .agg vs => ∀ i,i < vs.size → w.cell? (a.add i) = vs[i]? | _ => False):=by
  unfold Ib; rw [h]; rfl
theorem Qsd {w : World} {t : TypeId} {a : Addr} {v : Value} (h : Q1E P t = false) : Ib P w t (.pointer (some a)) v = (w.cell? a = some v):=by
  unfold Ib; rw [h]; rfl
theorem QfP {t : TypeId} {x : Operand} {ty : TypeId} (h : XV P l (.load t x) ty w K) :
    ∃ v,(∀ w',Ib P w' t (ev l x) v → (Instr.loadAt t (ev l x)).run P w' = .ok v w') ∧ Ib P w t (ev l x) v ∧ K v w:=by
  simp only [XV] at h
  split at h
  · rename_i hk
    obtain ⟨a,ha,h⟩:=Pb h
    have hag:=fun w => Q03 (w:=w) hk
    rw [ha]
    cases hagg : Q1E P t with
    | true =>
      rw [hagg] at h
      simp only at h
      split at h
      · rename_i n hn
        obtain ⟨vs,hs,hc,hK⟩:=h.out
        subst hs
        refine ⟨.agg vs,fun w' hkp => ?_,?_,hK⟩
        · rw [Qsc hagg] at hkp
          simp [Instr.loadAt,CE,loadVar,hag,hagg,Yl hn,Q3X a vs hkp]
        · rw [Qsc hagg]; exact hc
      · exact h.elim
    | false =>
      rw [hagg] at h
      obtain ⟨v,hv,hK⟩:=h.out
      refine ⟨v,fun w' hkp => ?_,?_,hK⟩
      · rw [Qsd hagg] at hkp
        simp [Instr.loadAt,CE,loadVar,hag,hagg,hkp]
      · rw [Qsd hagg]; exact hv
  · exact h.elim
end
end Go.Proofs.YtbnhggfiembejaaGreatDoor.X
end
section
namespace Go.Proofs.YtbnhggfiembejaaGreatDoor.X
open Go
set_option linter.unusedSimpArgs false
set_option linter.unusedVariables false
def Xu (l : List Value) : Act:=⟨l.toArray,[]⟩
theorem Q2L (l : List Value) : (Xu l).eval = ev l:=by
  funext x; cases x <;> simp [Act.eval,ev,Xu]
theorem Q0e (l : List Value) (d : Option Tmp) (v : Value) : (Xu l).put d v = Xu (put l d v):=by
  cases d <;> simp [Act.put,put,Xu]
section
variable {P : Program} {Q : Exit → Act → World → Prop} {w : World}
theorem Gs {o : Oper} {a : Act} {next : Act → World → Prop} (h : Good P (execOp a.eval o) w fun v w' => next (a.put o.dst v) w') : o.wp P a w next Q:=by
  unfold Oper.wp
  unfold Good at h
  split at h
  · rename_i v w' hr; rw [hr]; exact h
  · rename_i w' hr; rw [hr]; exact h
  · rename_i f args w' hr
    rw [hr,Oper.upon_enter]
    have:=h.out
    simp only [Array.toArray_toList] at this
    exact this.mono fun e w'' ⟨v,he,hk⟩ => by subst he; exact hk
  · exact h.elim
theorem Q05 {s : Sem Next} {K K' : Value → World → Prop} (hk : ∀ v w,K v w → K' v w) (h : Good P s w K) : Good P s w K':=by
  unfold Good at *
  split at h
  · exact hk _ _ h
  · exact hk _ _ h
  · exact ⟨h.out.mono fun e w'' ⟨v,he,hv⟩ => ⟨v,he,hk _ _ hv⟩⟩
  · exact h.elim
theorem Q6w {v : Value} {A B : Prop} (h : Ql v A B) : ∃ t,v = .bool t ∧ (t = true → A) ∧ (t = false → B):=by
  unfold Ql at h
  split at h
  · rename_i t
    cases t
    · exact ⟨false,rfl,fun h => by simp at h,fun _ => h⟩
    · exact ⟨true,rfl,fun _ => h,fun h => by simp at h⟩
  · exact h.elim
theorem Gq {all : List Oper} {l : List Value} {j d : Nat} (h : Ea all j = some d) : yielded all.toArray (Xu l).tmps j = (match l.getD d undef with | .bool b => some b | _ => none):=by
  unfold Ea at h
  split at h
  · rename_i o ho
    simp [yielded,Xu,ho,h]
    cases l[d]? with
    | none => rfl
    | some v => cases v <;> rfl
  · cases h
theorem Ej {v : Value} (h : isBool v = false) : (match v with | .bool b => some b | _ => none) = none:=by
  cases v <;> simp [isBool] at h ⊢
theorem Q3J {all : List Oper} {l : List Value} {j d : Nat} {X Y : Prop} (h : match skipped all l j with | true => (match isBool (l.getD d undef) with | true => False | false => X) | false => Y) : (isBool (l.getD d undef) = false ∧ X) ∨ Y:=by
  cases hs : skipped all l j with
  | false => rw [hs] at h; exact .inr h
  | true =>
    rw [hs] at h
    cases hb : isBool (l.getD d undef) with
    | true => simp only [hb] at h
    | false => simp only [hb] at h; exact .inl ⟨rfl,h⟩
theorem Q70 {l : List Value} {d : Nat} {v : Value} (h : l.getD d undef = v) (hv : v ≠ undef) : l.set d v = l:=by
  apply List.ext_getElem?
  intro i
  by_cases hi : d = i
  · subst hi
    by_cases hl : d < l.length
    · simp [hl] at h ⊢; exact h.symm
    · simp [hl] at h; exact absurd h.symm hv
  · simp [List.getElem?_set_ne hi]
theorem GI (l : List Value) (d : Option Tmp) (v : Value) : (put l d v).length = l.length:=by cases d <;> simp [put]
theorem VH {l : List Value} {d : Option Tmp} {v : Value} {s : Nat} (h : d ≠ some s) : (put l d v)[s]? = l[s]?:=by
  cases d with
  | none => rfl
  | some d => simp only [put]; rw [List.getElem?_set_ne (fun e => h (by rw [e]))]
theorem Qiw {all : List Oper} {o : Oper} {l : List Value} {K : List Value → World → Prop} {next : Act → World → Prop} (hK : ∀ v w,K (put l o.dst v) w → next (Xu (put l o.dst v)) w) (h : vcG P all o l w K) :
    if Region.wanted o (yielded all.toArray (Xu l).tmps) then o.wp P (Xu l) w next Q else next ((Xu l).put o.dst undef) w:=by
  unfold vcG at h
  split at h
  · rename_i hg
    simp only [Region.wanted,hg,if_true]
    refine Gs ?_
    rw [Q2L]
    exact Q05 (fun v w' hk => by rw [Q0e]; exact hK _ _ hk) (Gi h)
  · rename_i j want hg
    split at h
    · exact h.elim
    · rename_i d hd
      rcases Q3J h with ⟨hb,hk⟩ | h
      · have hy:=Gq (l:=l) hd
        rw [Ej hb] at hy
        simp only [Region.wanted,hg,hy]
        rw [Q0e]
        cases want <;> exact hK _ _ hk
      obtain ⟨t,hv,ht,hf⟩:=Q6w h
      have hy:=Gq (l:=l) hd
      rw [hv] at hy
      simp only [Region.wanted,hg,hy]
      have hne : Value.bool t ≠ undef:=by unfold undef; simp
      have hs:=Q70 hv hne
      cases t
      · have:=hf rfl
        rw [hs] at this
        cases want
        · simp only [beq_self_eq_true,if_true]
          refine Gs ?_
          rw [Q2L]
          exact Q05 (fun v w' hk => by rw [Q0e]; exact hK _ _ hk) (Gi this)
        · simp only [show (some false == some true) = false from rfl]
          rw [Q0e]; exact hK _ _ this
      · have:=ht rfl
        rw [hs] at this
        cases want
        · simp only [show (some true == some false) = false from rfl]
          rw [Q0e]; exact hK _ _ this
        · simp only [beq_self_eq_true,if_true]
          refine Gs ?_
          rw [Q2L]
          exact Q05 (fun v w' hk => by rw [Q0e]; exact hK _ _ hk) (Gi this)
def Agree (ops : List Oper) (l l' : List Value) : Prop:=l'.length = l.length ∧ ∀ s,(∀ o ∈ ops,o.dst ≠ some s) → l'[s]? = l[s]?
theorem QcG {all : List Oper} {K : List Value → World → Prop} : ∀ (r : List Oper) (l : List Value) (w : World),(∀ l' w,Agree r l l' → K l' w → Q .normal (Xu l') w) → QkN P all K r l w →
    wpList P all.toArray Q r (Xu l) w:=by
  intro r
  induction r with
  | nil => intro l w hK h; exact hK _ _ ⟨rfl,fun s _ => rfl⟩ h
  | cons o r ih =>
    intro l w hK h
    have:=Qiw (Q:=Q) (next:=wpList P all.toArray Q r) (fun v w hk => ih (put l o.dst v) w (fun l' w' ha hk' => hK l' w' ⟨by rw [ha.1,GI],fun s hs => by
      rw [ha.2 s fun o' ho' => hs o' (List.mem_cons_of_mem _ ho'),VH (hs o (by simp))]⟩ hk') hk) h
    unfold wpList
    split
    · rename_i hw; rw [if_pos hw] at this; exact .inl this
    · rename_i hw; rw [if_neg hw] at this; exact this
end
end Go.Proofs.YtbnhggfiembejaaGreatDoor.X
end
section
namespace Go.Proofs.YtbnhggfiembejaaGreatDoor.X
open Go
set_option linter.unusedSimpArgs false
set_option linter.unusedVariables false
theorem mem_iff {i : Nat} {l : List Nat} : mem i l = true ↔ i ∈ l:=by
  induction l with
  | nil => simp [mem]
  | cons j r ih =>
    unfold mem
    cases h : Nat.beq i j with
    | true => simp [Nat.eq_of_beq_eq_true h]
    | false =>
      have : i ≠ j:=fun e => by subst e; simp at h
      simp [ih,this]
theorem Gn {i : Nat} {l : List Nat} : mem i l = false ↔ i ∉ l:=by
  rw [← mem_iff]; cases mem i l <;> simp
theorem Q6Y {l s : List Nat} : subs l s = true ↔ ∀ x ∈ l,x ∈ s:=by
  induction l with
  | nil => simp [subs]
  | cons j r ih =>
    unfold subs
    cases h : mem j s with
    | true => simp [ih,mem_iff.1 h]
    | false => simp [Gn.1 h]
theorem Q2I {α : Type} {f : α → Bool} {l : List α} : Qey f l = true ↔ ∀ x ∈ l,f x = true:=by
  induction l with
  | nil => simp [Qey]
  | cons x r ih => unfold Qey; cases h : f x <;> simp [h,ih]
theorem Q87 {α : Type} {f : α → Bool} {l : List α} : Q9w f l = true ↔ ∃ x ∈ l,f x = true:=by
  induction l with
  | nil => simp [Q9w]
  | cons x r ih => unfold Q9w; cases h : f x <;> simp [h,ih]
theorem QgU {BU : List (List Nat)} {i : Nat} {l : List Nat} : Q88 BU i l = true ↔ ∃ h ∈ l,i ∈ BU.getD h []:=by
  induction l with
  | nil => simp [Q88]
  | cons x r ih =>
    unfold Q88
    cases h : mem i (BU.getD x []) with
    | true => simp only [true_iff]; exact ⟨x,by simp,mem_iff.1 h⟩
    | false => simp only [ih,List.mem_cons,exists_eq_or_imp,Gn.1 h,false_or]
theorem Q45 {o : Oper} {t : Tmp} : Q5d o t = true ↔ o.dst = some t:=by
  unfold Q5d
  cases o.dst with
  | none => simp
  | some d => simp only [Option.some.injEq]; exact ⟨Nat.eq_of_beq_eq_true,fun h => by subst h; exact Nat.beq_refl d⟩
theorem Q2b {o : Oper} {i : Nat} : ∀ (l : List Oper) (c : Nat),(o,i) ∈ numbered c l ↔ c ≤ i ∧ l[i - c]? = some o:=by
  intro l
  induction l with
  | nil => intro c; simp [numbered]
  | cons x r ih =>
    intro c
    simp only [numbered,List.mem_cons,Prod.mk.injEq,ih]
    constructor
    · rintro (⟨rfl,rfl⟩ | ⟨h1,h2⟩)
      · simp
      · refine ⟨by omega,?_⟩
        rw [show i - c = (i - (c + 1)) + 1 by omega]; simpa using h2
    · rintro ⟨h1,h2⟩
      rcases Nat.eq_or_lt_of_le h1 with h | h
      · subst h; simp at h2; exact .inl ⟨h2.symm,rfl⟩
      · right
        refine ⟨by omega,?_⟩
        rw [show i - c = (i - (c + 1)) + 1 by omega] at h2; simpa using h2
theorem U0 {o : Oper} {i : Nat} {l : List Oper} : (o,i) ∈ numbered 0 l ↔ l[i]? = some o:=by
  rw [Q2b]; simp
theorem Q28 {l : List Value} {d : Nat} {v : Value} (h : d < l.length) : (put l (some d) v)[d]? = some v:=by simp [put,h]
theorem Q8a {a : Act} {d : Option Tmp} {v : Value} {s : Nat} (h : d ≠ some s) : (a.put d v).tmps[s]? = a.tmps[s]?:=by
  cases d with
  | none => rfl
  | some d => simp only [Act.put]; rw [Array.getElem?_setIfInBounds_ne (fun e => h (by rw [e]))]
theorem Q2K {a : Act} {d : Nat} {v : Value} (h : d < a.tmps.size) : (a.put (some d) v).tmps[d]? = some v:=by simp [Act.put,h]
theorem SF (a : Act) (d : Option Tmp) (v : Value) : (a.put d v).defers = a.defers:=by cases d <;> rfl
theorem Q2J (a : Act) (d : Option Tmp) (v : Value) : (a.put d v).tmps.size = a.tmps.size:=by cases d <;> simp [Act.put]
section
variable {P : Program} {all : List Oper}
def Kept (P : Program) (o : Oper) (l : List Value) (w : World) (v : Value) : Prop :=
  match o.op with
  | .load t x => Ib P w t (ev l x) v
  | _ => True
def Qil (P : Program) (all : List Oper) (o : Oper) (l : List Value) (w : World) : Prop :=
  (Region.wanted o (yielded all.toArray l.toArray) = false ∧ ∀ d,o.dst = some d → l[d]? = some undef) ∨
  (Region.wanted o (yielded all.toArray l.toArray) = true ∧ ∃ v,(∀ d,o.dst = some d → l[d]? = some v) ∧ Kept P o l w v ∧
    ∀ w',Kept P o l w' v → (execOp (ev l) o).run P w' = .ok (.value v) w')
theorem QdS {l : List Value} {a : Act} {x : Operand} (h : ∀ t,x = .tmp t → a.tmps[t]? = l[t]?) : a.eval x = ev l x:=by
  cases x with
  | tmp t => simp [Act.eval,ev,h t rfl]
  | _ => rfl
theorem Q06 {l l' : List Value} {x : Operand} (h : ∀ t,x = .tmp t → l'[t]? = l[t]?) : ev l' x = ev l x:=by
  cases x with
  | tmp t => simp [ev,h t rfl]
  | _ => rfl
theorem Gm {o : Oper} {t : Tmp} (h : Operand.tmp t ∈ o.op.operands) : t ∈ looks all o:=by
  unfold looks QlS
  refine List.mem_append_left _ (List.mem_filterMap.2 ⟨.tmp t,by simpa using h,rfl⟩)
theorem Cu {o : Oper} {T T' : Array Value} (h : ∀ t ∈ looks all o,T'[t]? = T[t]?) :
    Region.wanted o (yielded all.toArray T') = Region.wanted o (yielded all.toArray T):=by
  unfold Region.wanted
  cases hg : o.guard with
  | none => rfl
  | some x =>
    obtain ⟨j,b⟩:=x
    simp only
    have : yielded all.toArray T' j = yielded all.toArray T j:=by
      unfold yielded
      cases ho : (all.toArray[j]?).bind (·.dst) with
      | none => rfl
      | some d =>
        simp only [Option.bind_some]
        rw [h d ?_]
        unfold looks Ea
        rw [hg]
        refine List.mem_append_right _ ?_
        simp only [List.getElem?_toArray] at ho
        cases hp : all[j]? with
        | none => simp [hp] at ho
        | some p => simp [hp] at ho; simp [hp,ho]
    rw [this]
theorem GH {o : Oper} (h : quiet P o.op = true) : ∀ cs b,o.op ≠ .select cs b:=by
  intro cs b e; rw [e] at h; simp [quiet] at h
theorem Qil.agree {o : Oper} {l l' : List Value} {w w' : World} (hq : quiet P o.op = true) (hf : Qil P all o l w)
    (hl : ∀ t ∈ looks all o,l'[t]? = l[t]?) (hd : ∀ d,o.dst = some d → l'[d]? = l[d]?) (hk : Region.wanted o (yielded all.toArray l.toArray) = true → ∀ v,(∀ d,o.dst = some d → l[d]? = some v) → Kept P o l w v → Kept P o l' w' v) : Qil P all o l' w':=by
  have hw : Region.wanted o (yielded all.toArray l'.toArray) = Region.wanted o (yielded all.toArray l.toArray):=Cu fun t ht => by simpa using hl t ht
  have he : execOp (ev l') o = execOp (ev l) o:=execOp_congr o (GH hq) fun x hx => Q06 fun t ht => by subst ht; exact hl t (Gm hx)
  rcases hf with ⟨h1,h2⟩ | ⟨h1,v,h2,h3,h4⟩
  · exact .inl ⟨by rw [hw]; exact h1,fun d h => by rw [hd d h]; exact h2 d h⟩
  · refine .inr ⟨by rw [hw]; exact h1,v,fun d h => by rw [hd d h]; exact h2 d h,hk h1 v h2 h3,fun w2 h5 => ?_⟩
    rw [he]
    refine h4 w2 ?_
    unfold Kept at h5 ⊢
    cases ho : o.op <;> simp only [ho] at h5 ⊢
    rename_i t x
    rw [← Q06 (l':=l') (l:=l) (x:=x) fun t ht => hl t (Gm (by rw [ho]; subst ht; simp [Op.operands]))]
    exact h5
theorem Qbe {o : Oper} {l l' : List Value} {w : World} {v : Value} (hl : ∀ t ∈ looks all o,l'[t]? = l[t]?) (h : Kept P o l w v) : Kept P o l' w v:=by
  unfold Kept at *
  cases ho : o.op <;> simp only [ho] at h ⊢
  rename_i t x
  rw [Q06 (l':=l') (l:=l) (x:=x) fun t ht => hl t (Gm (by rw [ho]; subst ht; simp [Op.operands]))]
  exact h
theorem Qix {o : Oper} {l : List Value} {w : World} {K : List Value → World → Prop} (hq : quiet P o.op = true) (h : vcG P all o l w K) :
    ∃ v,K (put l o.dst v) w ∧
      ((Region.wanted o (yielded all.toArray l.toArray) = false ∧ v = undef) ∨
       (Region.wanted o (yielded all.toArray l.toArray) = true ∧ Kept P o l w v ∧ ∀ w',Kept P o l w' v → (execOp (ev l) o).run P w' = .ok (.value v) w')):=by
  have run : ∀ K : Value → World → Prop,XV P l o.op o.type w K → ∃ v,K v w ∧ Kept P o l w v ∧ ∀ w',Kept P o l w' v → (execOp (ev l) o).run P w' = .ok (.value v) w':=by
    intro K h
    by_cases hl : (match o.op with | .load .. => true | _ => false) = true
    · obtain ⟨t,x,ho⟩ : ∃ t x,o.op = .load t x:=by
        cases ho : o.op with
        | load t x => exact ⟨t,x,rfl⟩
        | _ => rw [ho] at hl; simp at hl
      rw [ho] at h
      obtain ⟨v,h1,h2,h3⟩:=QfP h
      refine ⟨v,h3,by unfold Kept; simp only [ho]; exact h2,fun w' hk => ?_⟩
      unfold Kept at hk
      simp only [ho] at hk
      have:=h1 w' hk
      obtain ⟨dst,op,ty,pos,after,guard⟩:=o
      simp only at ho
      subst ho
      simp [execOp,this]
    · have hl' : (match o.op with | .load .. => true | _ => false) = false:=by simpa using hl
      obtain ⟨v,h1,h2⟩:=Qiv hq hl' h
      refine ⟨v,h2,?_,fun w' _ => h1 w'⟩
      unfold Kept
      cases ho : o.op <;> simp only [ho] at hl' ⊢ <;> try trivial
  unfold vcG at h
  split at h
  · rename_i hg
    obtain ⟨v,h1,h2,h3⟩:=run _ h
    exact ⟨v,h1,.inr ⟨by simp [Region.wanted,hg],h2,h3⟩⟩
  · rename_i j want hg
    split at h
    · exact h.elim
    · rename_i d hd
      rcases Q3J h with ⟨hb,hk⟩ | h
      · have hy:=Gq (l:=l) hd
        rw [Ej hb] at hy
        simp only [Xu] at hy
        exact ⟨undef,hk,.inl ⟨by simp [Region.wanted,hg,hy],rfl⟩⟩
      obtain ⟨t,hv,ht,hf⟩:=Q6w h
      have hy:=Gq (l:=l) hd
      rw [hv] at hy
      simp only [Xu] at hy
      have hs:=Q70 hv (by unfold undef; simp)
      cases t
      · have:=hf rfl
        rw [hs] at this
        cases want
        · obtain ⟨v,h1,h2,h3⟩:=run _ this
          exact ⟨v,h1,.inr ⟨by simp [Region.wanted,hg,hy],h2,h3⟩⟩
        · exact ⟨undef,this,.inl ⟨by simp [Region.wanted,hg,hy],rfl⟩⟩
      · have:=ht rfl
        rw [hs] at this
        cases want
        · exact ⟨undef,this,.inl ⟨by simp [Region.wanted,hg,hy],rfl⟩⟩
        · obtain ⟨v,h1,h2,h3⟩:=run _ this
          exact ⟨v,h1,.inr ⟨by simp [Region.wanted,hg,hy],h2,h3⟩⟩
theorem QkO {o : Oper} {l : List Value} {w : World} {K : List Value → World → Prop} (h : vcG P all o l w K) :
    (Region.wanted o (yielded all.toArray l.toArray) = true ∧ Good P (execOp (ev l) o) w fun v w' => K (put l o.dst v) w') ∨
    (Region.wanted o (yielded all.toArray l.toArray) = false ∧ K (put l o.dst undef) w):=by
  unfold vcG at h
  split at h
  · rename_i hg
    exact .inl ⟨by simp [Region.wanted,hg],Gi h⟩
  · rename_i j want hg
    split at h
    · exact h.elim
    · rename_i d hd
      rcases Q3J h with ⟨hb,hk⟩ | h
      · have hy:=Gq (l:=l) hd
        rw [Ej hb] at hy
        simp only [Xu] at hy
        exact .inr ⟨by simp [Region.wanted,hg,hy],hk⟩
      obtain ⟨t,hv,ht,hf⟩:=Q6w h
      have hy:=Gq (l:=l) hd
      rw [hv] at hy
      simp only [Xu] at hy
      have hs:=Q70 hv (by unfold undef; simp)
      cases t
      · have:=hf rfl
        rw [hs] at this
        cases want
        · exact .inl ⟨by simp [Region.wanted,hg,hy],Gi this⟩
        · exact .inr ⟨by simp [Region.wanted,hg,hy],this⟩
      · have:=ht rfl
        rw [hs] at this
        cases want
        · exact .inr ⟨by simp [Region.wanted,hg,hy],this⟩
        · exact .inl ⟨by simp [Region.wanted,hg,hy],Gi this⟩
structure Qcn (P : Program) (all : List Oper) (BU : List (List Nat)) (n : Nat) : Prop where
  edge : ∀ (o : Oper) (i : Nat),all[i]? = some o → ∀ j ∈ VY o,j < i
  dst : ∀ (o : Oper) (i : Nat),all[i]? = some o → ∀ d,o.dst = some d → d < n
  self : ∀ (o : Oper) (i : Nat),all[i]? = some o → quiet P o.op = true → ∀ d,o.dst = some d → d ∉ X.looks all o
  Q89 : ∀ (o : Oper) (i : Nat),all[i]? = some o → ∀ k ∈ BU.getD i [],k ∈ VY o ∨ ∃ j ∈ VY o,k ∈ BU.getD j []
  uniq : ∀ (o : Oper) (i : Nat) (p : Oper) (j : Nat),all[i]? = some o → all[j]? = some p → j ≠ i → ∀ d,o.dst = some d → p.dst ≠ some d
  looking : ∀ (o : Oper) (i : Nat) (p : Oper) (j : Nat),all[i]? = some o → all[j]? = some p → j ≠ i → ∀ d,p.dst = some d → d ∈ X.looks all o → j ∈ BU.getD i [] ∨ (i ∈ BU.getD j [] ∧ quiet P p.op = false)
theorem Qda {n : Nat} (h : Qb5 P all n = true) : Qcn P all (Q89 all) n:=by
  unfold Qb5 at h
  rw [Q2I] at h
  have h' : ∀ o i,all[i]? = some o → QfH P all (Q89 all) n (numbered 0 all) o i = true:=fun o i hi => h (o,i) (U0.2 hi)
  have pair : ∀ o i p j,all[i]? = some o → all[j]? = some p → j ≠ i → (match o.dst with | some d => !Q5d p d | none => true) = true ∧
      (match Q9w (Q5d p) (X.looks all o) with | false => true | true => mem j ((Q89 all).getD i []) || (mem i ((Q89 all).getD j []) && !quiet P p.op)) = true:=by
    intro o i p j hi hj hne
    have h1:=h' o i hi
    unfold QfH at h1
    simp only [Bool.and_eq_true] at h1
    have h2:=(Q2I.1 h1.2) (p,j) (U0.2 hj)
    unfold QlV at h2
    have : Nat.beq j i = false:=by
      cases hb : Nat.beq j i with
      | true => exact absurd (Nat.eq_of_beq_eq_true hb) hne
      | false => rfl
    simp only [this,Bool.and_eq_true] at h2
    exact h2
  refine ⟨?_,?_,?_,?_,?_,?_⟩
  · intro o i hi j hj
    have h1:=h' o i hi
    unfold QfH at h1
    simp only [Bool.and_eq_true] at h1
    have:=(Q2I.1 h1.1.1.1.1) j hj
    simpa [Nat.blt_eq] using this
  · intro o i hi d hd
    have h1:=h' o i hi
    unfold QfH at h1
    simp only [Bool.and_eq_true,hd] at h1
    have:=h1.1.1.1.2
    simpa [Nat.blt_eq] using this
  · intro o i hi hq d hd hm
    have h1:=h' o i hi
    unfold QfH at h1
    simp only [Bool.and_eq_true,hq] at h1
    have:=h1.1.1.2
    simp only [Bool.not_eq_true'] at this
    have h3 : Q9w (Q5d o) (X.looks all o) = true:=Q87.2 ⟨d,hm,Q45.2 hd⟩
    rw [h3] at this; cases this
  · intro o i hi k hk
    have h1:=h' o i hi
    unfold QfH at h1
    simp only [Bool.and_eq_true] at h1
    have:=(Q2I.1 h1.1.2) k hk
    rw [Bool.or_eq_true] at this
    rcases this with h | h
    · exact .inl (mem_iff.1 h)
    · obtain ⟨j,hj,hk⟩:=Q87.1 h
      exact .inr ⟨j,hj,mem_iff.1 hk⟩
  · intro o i p j hi hj hne d hd hp
    have:=(pair o i p j hi hj hne).1
    rw [hd] at this
    simp only [Bool.not_eq_true'] at this
    rw [Q45.2 hp] at this; cases this
  · intro o i p j hi hj hne d hd hm
    have:=(pair o i p j hi hj hne).2
    rw [Q87.2 ⟨d,hm,Q45.2 hd⟩] at this
    simp only [Bool.or_eq_true,Bool.and_eq_true,Bool.not_eq_true'] at this
    rcases this with h | h
    · exact .inl (mem_iff.1 h)
    · exact .inr ⟨mem_iff.1 h.1,h.2⟩
structure Inv (P : Program) (all : List Oper) (BU : List (List Nat)) (n : Nat) (hard done : List Nat) (XU : List (Oper × Nat)) (l : List Value) (w : World) (lst : Array Bool) (a : Act) (l0 : List Value) : Prop where
  size : lst.size = all.length
  len : l.length = n
  defers : a.defers = []
  tsz : a.tmps.size = n
  slots : ∀ s,(∀ o i,(o,i) ∈ XU → lst.getD i false = false → o.dst ≠ some s) → a.tmps[s]? = l[s]?
  Q2j : ∀ i,lst.getD i false = true → i ∈ done
  hl : ∀ i ∈ hard,lst.getD i false = true
  split : ∀ i ∈ done,i ∈ hard ∨ ∃ o,(o,i) ∈ XU
  Cx : ∀ o i,(o,i) ∈ XU → all[i]? = some o ∧ quiet P o.op = true ∧ i ∈ done
  Qgs : ∀ i ∈ done,∀ k ∈ BU.getD i [],k ∈ done
  facts : ∀ o i,(o,i) ∈ XU → lst.getD i false = false → Qil P all o l w
  la : ∀ i,lst.getD i false = true → ∀ k ∈ BU.getD i [],lst.getD k false = true
  agr : Agree all l0 l
theorem Q5c {BU : List (List Nat)} {n : Nat} (hok : Qcn P all BU n) {hard : List Nat} {w : World} {lst : Array Bool} {a : Act} {l0 : List Value}
    {F : List Nat → List (Oper × Nat) → List Value → World → Prop} :
    ∀ (r : List Oper) (c : Nat),(∀ o i,(o,i) ∈ numbered c r ↔ c ≤ i ∧ all[i]? = some o) → ∀ (done : List Nat) (XU : List (Oper × Nat)) (l : List Value),
      Inv P all BU n hard done XU l w lst a l0 → (∀ o i,i < c → all[i]? = some o → quiet P o.op = true → (∀ j ∈ VY o,j ∈ done) → i ∈ done) →
      TY P all F (numbered c r) done XU l w →
      ∃ done' Q9Y l',F done' Q9Y l' w ∧ Inv P all BU n hard done' Q9Y l' w lst a l0 ∧
        (∀ o i,all[i]? = some o → quiet P o.op = true → (∀ j ∈ VY o,j ∈ done') → i ∈ done'):=by
  intro r
  induction r with
  | nil =>
    intro c hr done XU l hI hc h
    refine ⟨done,XU,l,h,hI,fun o i hi hq hj => hc o i ?_ hi hq hj⟩
    rcases Nat.lt_or_ge i c with h | h
    · exact h
    · exact absurd ((hr o i).2 ⟨h,hi⟩) (by simp [numbered])
  | cons o r ih =>
    intro c hr done XU l hI hc h
    have ho : all[c]? = some o:=((hr o c).1 (by simp [numbered])).2
    have hr' : ∀ o' i,(o',i) ∈ numbered (c + 1) r ↔ c + 1 ≤ i ∧ all[i]? = some o':=by
      intro o' i
      have:=hr o' i
      simp only [numbered,List.mem_cons,Prod.mk.injEq] at this
      constructor
      · intro hm
        have h1:=this.1 (.inr hm)
        refine ⟨?_,h1.2⟩
        have:=(Q2b r (c + 1)).1 hm
        exact this.1
      · rintro ⟨h1,h2⟩
        rcases this.2 ⟨by omega,h2⟩ with ⟨_,h3⟩ | h3
        · omega
        · exact h3
    simp only [numbered,TY] at h
    split at h
    · rename_i hm
      refine ih (c + 1) hr' done XU l hI (fun o' i hi h1 h2 h3 => ?_) h
      rcases Nat.lt_succ_iff_lt_or_eq.1 hi with h4 | h4
      · exact hc o' i h4 h1 h2 h3
      · subst h4; exact mem_iff.1 hm
    · rename_i hm
      have hm':=Gn.1 hm
      split at h
      · rename_i hq hs
        have hs':=Q6Y.1 hs
        obtain ⟨v,hK,hv⟩:=Qix hq h
        have hnv : ∀ o2 i2,(o2,i2) ∈ XU → i2 ≠ c:=fun o2 i2 hm2 e => hm' (e ▸ (hI.Cx o2 i2 hm2).2.2)
        have QdJ : ∀ k ∈ BU.getD c [],k ∈ done:=fun k hk => by
          rcases hok.Q89 o c ho k hk with h1 | ⟨j,h1,h2⟩
          · exact hs' k h1
          · exact hI.Qgs j (hs' j h1) k h2
        refine ih (c + 1) hr' (c :: done) ((o,c) :: XU) (put l o.dst v) ?_ (fun o' i hi h1 h2 h3 => ?_) hK
        · refine ⟨hI.size,by rw [GI]; exact hI.len,hI.defers,hI.tsz,?_,fun i hi => List.mem_cons_of_mem _ (hI.Q2j i hi),hI.hl,?_,?_,?_,?_,hI.la,⟨by rw [GI]; exact hI.agr.1,fun s hs => by rw [VH (hs o (List.mem_of_getElem? ho))]; exact hI.agr.2 s hs⟩⟩
          · intro s hs2
            have hun : lst.getD c false = false:=by
              cases hx : lst.getD c false with
              | false => rfl
              | true => exact absurd (hI.Q2j c hx) hm'
            rw [VH (hs2 o c (by simp) hun)]
            exact hI.slots s fun o2 i2 h2 h3 => hs2 o2 i2 (List.mem_cons_of_mem _ h2) h3
          · intro i hi
            rcases List.mem_cons.1 hi with h1 | h1
            · exact .inr ⟨o,by simp [h1]⟩
            · rcases hI.split i h1 with h2 | ⟨o2,h2⟩
              · exact .inl h2
              · exact .inr ⟨o2,List.mem_cons_of_mem _ h2⟩
          · intro o2 i2 h2
            rcases List.mem_cons.1 h2 with h3 | h3
            · cases h3; exact ⟨ho,hq,by simp⟩
            · obtain ⟨h4,h5,h6⟩:=hI.Cx o2 i2 h3
              exact ⟨h4,h5,List.mem_cons_of_mem _ h6⟩
          · intro i hi k hk
            rcases List.mem_cons.1 hi with h1 | h1
            · subst h1; exact List.mem_cons_of_mem _ (QdJ k hk)
            · exact List.mem_cons_of_mem _ (hI.Qgs i h1 k hk)
          · intro o2 i2 h2 h3
            rcases List.mem_cons.1 h2 with h4 | h4
            · cases h4
              have hag : ∀ t ∈ looks all o,(put l o.dst v)[t]? = l[t]?:=fun t ht => VH fun e => hok.self o c ho hq t e ht
              have hsame : ∀ d,o.dst = some d → (put l o.dst v)[d]? = some v:=fun d hd => by
                rw [hd]; exact Q28 (by rw [hI.len]; exact hok.dst o c ho d hd)
              have hw : Region.wanted o (yielded all.toArray (put l o.dst v).toArray) = Region.wanted o (yielded all.toArray l.toArray):=Cu fun t ht => by simpa using hag t ht
              have he : execOp (ev (put l o.dst v)) o = execOp (ev l) o:=execOp_congr o (GH hq) fun x hx => Q06 fun t ht => by subst ht; exact hag t (Gm hx)
              rcases hv with ⟨h5,rfl⟩ | ⟨h5,h6,h7⟩
              · exact .inl ⟨by rw [hw]; exact h5,hsame⟩
              · exact .inr ⟨by rw [hw]; exact h5,v,hsame,Qbe hag h6,fun w2 h8 => by rw [he]; exact h7 w2 (Qbe (fun t ht => (hag t ht).symm) h8)⟩
            · obtain ⟨h5,h6,h7⟩:=hI.Cx o2 i2 h4
              have hne:=hnv o2 i2 h4
              have hag : ∀ t ∈ looks all o2,(put l o.dst v)[t]? = l[t]?:=fun t ht => VH fun e => by
                rcases hok.looking o2 i2 o c h5 ho (Ne.symm hne) t e ht with h8 | ⟨_,h8⟩
                · exact hm' (hI.Qgs i2 h7 c h8)
                · rw [hq] at h8; cases h8
              exact (hI.facts o2 i2 h4 h3).agree h6 hag (fun d hd => VH fun e => hok.uniq o2 i2 o c h5 ho (Ne.symm hne) d hd e) fun _ u _ hu => Qbe hag hu
        · rcases Nat.lt_succ_iff_lt_or_eq.1 hi with h4 | h4
          · refine List.mem_cons_of_mem _ (hc o' i h4 h1 h2 fun j hj => ?_)
            rcases List.mem_cons.1 (h3 j hj) with h5 | h5
            · have:=hok.edge o' i h1 j hj; omega
            · exact h5
          · subst h4; exact List.mem_cons_self
      · rename_i hx
        refine ih (c + 1) hr' done XU l hI (fun o' i hi h1 h2 h3 => ?_) h
        rcases Nat.lt_succ_iff_lt_or_eq.1 hi with h4 | h4
        · exact hc o' i h4 h1 h2 h3
        · subst h4
          rw [ho] at h1; cases h1
          exact (hx h2 (Q6Y.2 h3)).elim
theorem Q9r {done : List Nat} {o : Oper} {i : Nat} : ∀ (l : List (Oper × Nat)),(o,i) ∈ l → i ∉ done → quiet P o.op = false → (∀ j ∈ VY o,j ∈ done) → (o,i) ∈ Ch P done l:=by
  intro l
  induction l with
  | nil => intro h; simp at h
  | cons x r ih =>
    intro h hd hq he
    obtain ⟨o2,i2⟩:=x
    simp only [Ch]
    rcases List.mem_cons.1 h with h1 | h1
    · cases h1
      rw [Gn.2 hd,hq,Q6Y.2 he]
      simp
    · split
      · exact List.mem_cons_of_mem _ (ih h1 hd hq he)
      · exact ih h1 hd hq he
theorem Q9q {done : List Nat} : ∀ (l : List (Oper × Nat)),(∀ o i,(o,i) ∈ l → i ∈ done) → Ch P done l = []:=by
  intro l
  induction l with
  | nil => intro _; rfl
  | cons x r ih =>
    intro h
    obtain ⟨o2,i2⟩:=x
    simp only [Ch]
    rw [mem_iff.2 (h o2 i2 (by simp))]
    exact ih fun o i hm => h o i (List.mem_cons_of_mem _ hm)
theorem Qk7 {α : Type} {F : α → Prop} : ∀ (l : List α),QoT F l → ∀ x ∈ l,F x:=by
  intro l
  induction l with
  | nil => intro _ x hx; simp at hx
  | cons y r ih =>
    intro h x hx
    cases r with
    | nil => simp at hx; subst hx; exact h
    | cons z r =>
      obtain ⟨h1,h2⟩:=h
      rcases List.mem_cons.1 hx with h3 | h3
      · subst h3; exact h1
      · exact ih h2 x h3
theorem Qg0 {BU : List (List Nat)} {hard : List Nat} {l : List Value} {w : World} {X : Prop} : ∀ (XU : List (Oper × Nat)),keeps P all BU hard l w X XU →
    X ∧ ∀ o i t x,(o,i) ∈ XU → o.op = .load t x → (∀ h ∈ hard,i ∉ BU.getD h []) → Region.wanted o (yielded all.toArray l.toArray) = true → ∃ d,o.dst = some d ∧ Ib P w t (ev l x) (l.getD d undef):=by
  intro XU
  induction XU with
  | nil => intro h; exact ⟨h,fun o i t x hm => by simp at hm⟩
  | cons y r ih =>
    intro h
    obtain ⟨o2,i2⟩:=y
    simp only [keeps] at h
    split at h
    · rename_i t2 x2 ho2
      split at h
      · rename_i ha
        obtain ⟨hX,hr⟩:=ih h
        refine ⟨hX,fun o i t x hm ho hn hw => ?_⟩
        rcases List.mem_cons.1 hm with h1 | h1
        · cases h1
          obtain ⟨k,hk,hm2⟩:=QgU.1 ha
          exact absurd hm2 (hn k hk)
        · exact hr o i t x h1 ho hn hw
      · split at h
        · rename_i d hd
          have go : (Ib P w t2 (ev l x2) (l.getD d undef) ∧ keeps P all BU hard l w X r) → X ∧ ∀ o i t x,(o,i) ∈ (o2,i2) :: r → o.op = .load t x → (∀ h ∈ hard,i ∉ BU.getD h []) → Region.wanted o (yielded all.toArray l.toArray) = true → ∃ d,o.dst = some d ∧ Ib P w t (ev l x) (l.getD d undef):=by
            rintro ⟨hk,h⟩
            obtain ⟨hX,hr⟩:=ih h
            refine ⟨hX,fun o i t x hm ho hn hw => ?_⟩
            rcases List.mem_cons.1 hm with h1 | h1
            · cases h1
              rw [ho2] at ho; cases ho
              exact ⟨d,hd,hk⟩
            · exact hr o i t x h1 ho hn hw
          have no : Region.wanted o2 (yielded all.toArray l.toArray) = false → keeps P all BU hard l w X r → X ∧ ∀ o i t x,(o,i) ∈ (o2,i2) :: r → o.op = .load t x → (∀ h ∈ hard,i ∉ BU.getD h []) → Region.wanted o (yielded all.toArray l.toArray) = true → ∃ d,o.dst = some d ∧ Ib P w t (ev l x) (l.getD d undef):=by
            rintro hf h
            obtain ⟨hX,hr⟩:=ih h
            refine ⟨hX,fun o i t x hm ho hn hw => ?_⟩
            rcases List.mem_cons.1 hm with h1 | h1
            · cases h1
              rw [hf] at hw; cases hw
            · exact hr o i t x h1 ho hn hw
          split at h
          · exact go h
          · rename_i j want hg
            split at h
            · exact h.elim
            · rename_i gd hgd
              have hy:=Gq (l:=l) hgd
              simp only [Xu] at hy
              split at h
              · rename_i b hb
                rw [hb] at hy
                split at h
                · exact go h
                · exact go h
                · rename_i hn1 hn2
                  refine no ?_ h
                  simp only [Region.wanted,hg,hy]
                  cases b <;> cases want <;> first | rfl | exact absurd rfl (hn1 rfl) | exact absurd rfl (hn2 rfl)
              · rename_i hnb
                refine no ?_ h
                have : isBool (l.getD gd undef) = false:=by
                  cases hx : l.getD gd undef <;> first | rfl | exact absurd hx (hnb _)
                rw [Ej this] at hy
                simp [Region.wanted,hg,hy]
        · exact h.elim
    · rename_i hno
      obtain ⟨hX,hr⟩:=ih h
      refine ⟨hX,fun o i t x hm ho hn hw => ?_⟩
      rcases List.mem_cons.1 hm with h1 | h1
      · cases h1; exact absurd ho (hno t x)
      · exact hr o i t x h1 ho hn hw
theorem Q2x {o : Oper} {lst : Array Bool} : (o.after.all fun e => !Region.binds .any e || lst.getD e.on false) = true ↔ ∀ j ∈ VY o,lst.getD j false = true:=by
  unfold VY
  rw [Array.all_eq_true_iff_forall_mem]
  constructor
  · intro h j hj
    obtain ⟨e,he,hx⟩:=List.mem_filterMap.1 hj
    have:=h e (by simpa using he)
    cases hb : Region.binds .any e with
    | true => simp [hb] at hx this; subst hx; simpa using this
    | false => simp [hb] at hx
  · intro h e he
    cases hb : Region.binds .any e with
    | true =>
      have:=h e.on (List.mem_filterMap.2 ⟨e,by simpa using he,by simp [hb]⟩)
      simp [this]
    | false => simp
theorem Q3M {lst : Array Bool} {i : Nat} : i ∈ Region.ready .any all.toArray lst ↔ ∃ o,all[i]? = some o ∧ lst.getD i true = false ∧ ∀ j ∈ VY o,lst.getD j false = true:=by
  unfold Region.ready
  simp only [List.mem_filter,List.mem_range,List.size_toArray,List.getElem?_toArray,Bool.and_eq_true,Bool.not_eq_true']
  constructor
  · rintro ⟨h1,h2,h3⟩
    cases ho : all[i]? with
    | none => simp [ho] at h3
    | some o =>
      simp only [ho,Option.map_some,Option.getD_some] at h3
      exact ⟨o,rfl,h2,Q2x.1 h3⟩
  · rintro ⟨o,ho,h2,h3⟩
    refine ⟨?_,h2,?_⟩
    · rcases Nat.lt_or_ge i all.length with h | h
      · exact h
      · rw [List.getElem?_eq_none h] at ho; cases ho
    · simp only [ho,Option.map_some,Option.getD_some]; exact Q2x.2 h3
def unl (lst : Array Bool) : Nat → Nat
  | 0 => 0
  | k + 1 => unl lst k + (match lst.getD k false with | true => 0 | false => 1)
theorem Qpw {lst : Array Bool} {i : Nat} (hs : i < lst.size) (h : lst.getD i false = false) : ∀ k,unl (lst.setIfInBounds i true) k + (if i < k then 1 else 0) = unl lst k:=by
  intro k
  induction k with
  | zero => simp [unl]
  | succ k ih =>
    simp only [unl]
    by_cases hk : i = k
    · subst hk
      have h1 : (lst.setIfInBounds i true).getD i false = true:=by simp [hs]
      rw [h1,h]
      simp at ih ⊢
      omega
    · have h1 : (lst.setIfInBounds i true).getD k false = lst.getD k false:=by simp [Array.getElem?_setIfInBounds_ne hk]
      rw [h1,← ih]
      by_cases h2 : i < k
      · rw [if_pos h2,if_pos (by omega)]; omega
      · rw [if_neg h2,if_neg (by omega)]; omega
theorem Qll {lst : Array Bool} : ∀ {k},unl lst k = 0 → ∀ i,i < k → lst.getD i false = true:=by
  intro k
  induction k with
  | zero => intro _ i hi; omega
  | succ k ih =>
    intro h i hi
    simp only [unl] at h
    rcases Nat.lt_succ_iff_lt_or_eq.1 hi with h1 | h1
    · exact ih (by omega) i h1
    · subst h1
      cases hx : lst.getD i false with
      | true => rfl
      | false => rw [hx] at h; simp at h
theorem Q1w {lst : Array Bool} {i : Nat} (h : i < lst.size) : lst.getD i true = lst.getD i false:=by simp [h]
theorem QgV {BU : List (List Nat)} {n : Nat} (hok : Qcn P all BU n) {lst : Array Bool} (hs : lst.size = all.length) (h : Region.ready .any all.toArray lst = []) :
    ∀ i,i < all.length → lst.getD i false = true:=by
  intro i
  induction i using Nat.strongRecOn with
  | _ i ih =>
    intro hi
    cases hx : lst.getD i false with
    | true => rfl
    | false =>
      obtain ⟨o,ho⟩ : ∃ o,all[i]? = some o:=⟨all[i],by simp [hi]⟩
      have : i ∈ Region.ready .any all.toArray lst:=Q3M.2 ⟨o,ho,by rw [Q1w (by omega)]; exact hx,fun j hj => ih j (hok.edge o i ho j hj) (by have:=hok.edge o i ho j hj; omega)⟩
      rw [h] at this; simp at this
section
variable {Q : Exit → Act → World → Prop} {K : List Value → World → Prop} {BU : List (List Nat)} {n : Nat}
theorem QdV {l0 : List Value} (hK : ∀ l w,Agree all l0 l → K l w → Q .normal (Xu l) w) {rec : List Nat → List Nat → List (Oper × Nat) → List Value → World → Prop}
    {hard done : List Nat} {XU : List (Oper × Nat)} {l : List Value} {w : World} {lst : Array Bool} {a : Act} (hI : Inv P all BU n hard done XU l w lst a l0)
    (ha : ∀ i,i < all.length → lst.getD i false = true) (h : Q6R P all BU K rec hard done XU l w) : Q .normal a w:=by
  have hn : Ch P done (numbered 0 all) = []:=Q9q _ fun o i hm => by
    have h1:=U0.1 hm
    refine hI.Q2j i (ha i ?_)
    rcases Nat.lt_or_ge i all.length with h2 | h2
    · exact h2
    · rw [List.getElem?_eq_none h2] at h1; cases h1
  unfold Q6R at h
  rw [hn] at h
  simp only at h
  split at h
  · have e : a = Xu l:=by
      obtain ⟨tm,de⟩:=a
      have hd : de = []:=hI.defers
      have ht : tm = l.toArray:=by
        apply Array.ext_getElem?
        intro s
        have:=hI.slots s fun o i hm hx => by
          have h1:=(hI.Cx o i hm).1
          have h2 : i < all.length:=by
            rcases Nat.lt_or_ge i all.length with h2 | h2
            · exact h2
            · rw [List.getElem?_eq_none h2] at h1; cases h1
          rw [ha i h2] at hx; cases hx
        simpa using this
      rw [hd,ht]; rfl
    rw [e]
    exact hK l w hI.agr h
  · exact h.elim
theorem Qgq {l0 : List Value} (hok : Qcn P all BU n) (hK : ∀ l w,Agree all l0 l → K l w → Q .normal (Xu l) w) : ∀ (m fuel : Nat) (hard done : List Nat) (XU : List (Oper × Nat)) (l : List Value) (w : World) (lst : Array Bool) (a : Act),
    Inv P all BU n hard done XU l w lst a l0 → (∀ o i,all[i]? = some o → quiet P o.op = true → (∀ j ∈ VY o,j ∈ done) → i ∈ done) →
    unl lst all.length ≤ m → Q6R P all BU K (RF P all BU K fuel) hard done XU l w → wpAny P .any all.toArray Q m lst a w:=by
  intro m
  induction m with
  | zero =>
    intro fuel hard done XU l w lst a hI hc hm h
    have ha:=Qll (lst:=lst) (k:=all.length) (by omega)
    refine ⟨?_,QdV hK hI ha h⟩
    cases hr : Region.ready .any all.toArray lst with
    | nil => rfl
    | cons i r =>
      obtain ⟨o,ho,h1,_⟩:=Q3M.1 (show i ∈ Region.ready .any all.toArray lst by rw [hr]; simp)
      have h2 : i < all.length:=by
        rcases Nat.lt_or_ge i all.length with h2 | h2
        · exact h2
        · rw [List.getElem?_eq_none h2] at ho; cases ho
      rw [Q1w (by rw [hI.size]; exact h2),ha i h2] at h1; cases h1
  | succ m ih =>
    intro fuel hard done XU l w lst a hI hc hm h
    refine ⟨fun hr => QdV hK hI (QgV hok hI.size hr) h,fun i hi => ?_⟩
    obtain ⟨o,ho,hun,hed⟩:=Q3M.1 hi
    have hilt : i < all.length:=by
      rcases Nat.lt_or_ge i all.length with h2 | h2
      · exact h2
      · rw [List.getElem?_eq_none h2] at ho; cases ho
    rw [Q1w (by rw [hI.size]; exact hilt)] at hun
    have QdJ : ∀ k ∈ BU.getD i [],lst.getD k false = true:=fun k hk => by
      rcases hok.Q89 o i ho k hk with h1 | ⟨j,h1,h2⟩
      · exact hed k h1
      · exact hI.la j (hed j h1) k h2
    have Qbk : ∀ k,(lst.setIfInBounds i true).getD k false = if k = i then true else lst.getD k false:=fun k => by
      by_cases hk : k = i
      · subst hk; simp [hI.size,hilt]
      · rw [if_neg hk]; simp [Array.getElem?_setIfInBounds_ne (Ne.symm hk)]
    have hm' : unl (lst.setIfInBounds i true) all.length ≤ m:=by
      have:=Qpw (lst:=lst) (i:=i) (by rw [hI.size]; exact hilt) hun all.length
      rw [if_pos hilt] at this; omega
    have hla : ∀ k,(lst.setIfInBounds i true).getD k false = true → ∀ j ∈ BU.getD k [],(lst.setIfInBounds i true).getD j false = true:=fun k hk j hj => by
      rw [Qbk] at hk ⊢
      split at hk
      · rename_i e; subst e
        split
        · rfl
        · exact QdJ j hj
      · split
        · rfl
        · exact hI.la k hk j hj
    have hoa : all.toArray[i]? = some o:=by simpa using ho
    unfold wpOp
    rw [hoa]
    simp only
    by_cases hid : i ∈ done
    · have hv : (o,i) ∈ XU:=by
        rcases hI.split i hid with h1 | ⟨o2,h1⟩
        · rw [hI.hl i h1] at hun; cases hun
        · have:=(hI.Cx o2 i h1).1
          rw [ho] at this; cases this; exact h1
      have hq:=(hI.Cx o i hv).2.1
      have hag : ∀ t ∈ looks all o,a.tmps[t]? = l[t]?:=fun t ht => hI.slots t fun o2 i2 h1 h2 h3 => by
        obtain ⟨h4,h5,h6⟩:=hI.Cx o2 i2 h1
        by_cases he : i2 = i
        · subst he; rw [ho] at h4; cases h4
          exact hok.self o i2 ho hq t h3 ht
        · rcases hok.looking o i o2 i2 ho h4 he t h3 ht with h7 | ⟨_,h7⟩
          · rw [QdJ i2 h7] at h2; cases h2
          · rw [h5] at h7; cases h7
      have hw : Region.wanted o (yielded all.toArray a.tmps) = Region.wanted o (yielded all.toArray l.toArray):=Cu fun t ht => by simpa using hag t ht
      have he : execOp a.eval o = execOp (ev l) o:=execOp_congr o (GH hq) fun x hx => QdS fun t ht => by subst ht; exact hag t (Gm hx)
      have next : ∀ v,(∀ d,o.dst = some d → l[d]? = some v) → wpAny P .any all.toArray Q m (lst.setIfInBounds i true) (a.put o.dst v) w:=fun v hv2 => by
        refine ih fuel hard done XU l w _ _ ⟨by simp [hI.size],hI.len,by rw [SF]; exact hI.defers,by rw [Q2J]; exact hI.tsz,?_,?_,?_,hI.split,hI.Cx,hI.Qgs,?_,hla,hI.agr⟩ hc hm' h
        · intro s hs
          by_cases hd : o.dst = some s
          · rw [hd,Q2K (by rw [hI.tsz]; exact hok.dst o i ho s hd),hv2 s hd]
          · rw [Q8a hd]
            refine hI.slots s fun o2 i2 h1 h2 => ?_
            by_cases he2 : i2 = i
            · subst he2
              have:=(hI.Cx o2 i2 h1).1
              rw [ho] at this; cases this; exact hd
            · exact hs o2 i2 h1 (by rw [Qbk,if_neg he2]; exact h2)
        · intro k hk
          rw [Qbk] at hk
          split at hk
          · rename_i e; subst e; exact hid
          · exact hI.Q2j k hk
        · intro k hk
          rw [Qbk]
          split
          · rfl
          · exact hI.hl k hk
        · intro o2 i2 h1 h2
          rw [Qbk] at h2
          split at h2
          · cases h2
          · exact hI.facts o2 i2 h1 h2
      rcases hI.facts o i hv hun with ⟨h1,h2⟩ | ⟨h1,v,h2,h3,h4⟩
      · rw [hw,h1]
        exact next undef h2
      · rw [hw,h1]
        refine .inl ?_
        refine Gs ?_
        rw [he]
        simp only [Good,h4 w h3]
        exact next v h2
    · have hq : quiet P o.op = false:=by
        cases hx : quiet P o.op with
        | false => rfl
        | true => exact absurd (hc o i ho hx fun j hj => hI.Q2j j (hed j hj)) hid
      have hr:=Q9r (P:=P) (done:=done) (numbered 0 all) (U0.2 ho) hid hq fun j hj => hI.Q2j j (hed j hj)
      unfold Q6R at h
      have h2 : vcG P all o l w fun l' w' => keeps P all BU (i :: hard) l' w' (RF P all BU K fuel (i :: hard) (i :: done) XU l' w') XU:=by
        split at h
        · rename_i hx; rw [hx] at hr; simp at hr
        · exact Qk7 _ h (o,i) hr
      have hag : ∀ t ∈ looks all o,a.tmps[t]? = l[t]?:=fun t ht => hI.slots t fun o2 i2 h1 h2 h3 => by
        obtain ⟨h4,h5,h6⟩:=hI.Cx o2 i2 h1
        have he : i2 ≠ i:=fun e => hid (e ▸ h6)
        rcases hok.looking o i o2 i2 ho h4 he t h3 ht with h7 | ⟨_,h7⟩
        · rw [QdJ i2 h7] at h2; cases h2
        · rw [h5] at h7; cases h7
      have hw : Region.wanted o (yielded all.toArray a.tmps) = Region.wanted o (yielded all.toArray l.toArray):=Cu fun t ht => by simpa using hag t ht
      have cont : ∀ v w',keeps P all BU (i :: hard) (put l o.dst v) w' (RF P all BU K fuel (i :: hard) (i :: done) XU (put l o.dst v) w') XU →
          wpAny P .any all.toArray Q m (lst.setIfInBounds i true) (a.put o.dst v) w':=by
        intro v w' hk
        obtain ⟨hD,hkp⟩:=Qg0 XU hk
        cases fuel with
        | zero => exact hD.elim
        | succ fuel =>
          have hne : ∀ o2 i2,(o2,i2) ∈ XU → i2 ≠ i:=fun o2 i2 h1 e => hid (e ▸ (hI.Cx o2 i2 h1).2.2)
          have hI0 : Inv P all BU n (i :: hard) (i :: done) XU (put l o.dst v) w' (lst.setIfInBounds i true) (a.put o.dst v) l0:=by
            refine ⟨by simp [hI.size],by rw [GI]; exact hI.len,by rw [SF]; exact hI.defers,by rw [Q2J]; exact hI.tsz,?_,?_,?_,?_,?_,?_,?_,hla,⟨by rw [GI]; exact hI.agr.1,fun s hs => by rw [VH (hs o (List.mem_of_getElem? ho))]; exact hI.agr.2 s hs⟩⟩
            · intro s hs
              by_cases hd : o.dst = some s
              · have hlt:=hok.dst o i ho s hd
                rw [hd,Q2K (by rw [hI.tsz]; exact hlt),Q28 (by rw [hI.len]; exact hlt)]
              · rw [Q8a hd,VH hd]
                exact hI.slots s fun o2 i2 h1 h3 => hs o2 i2 h1 (by rw [Qbk,if_neg (hne o2 i2 h1)]; exact h3)
            · intro k hk
              rw [Qbk] at hk
              split at hk
              · rename_i e; subst e; exact List.mem_cons_self
              · exact List.mem_cons_of_mem _ (hI.Q2j k hk)
            · intro k hk
              rw [Qbk]
              split
              · rfl
              · rename_i e
                rcases List.mem_cons.1 hk with h1 | h1
                · exact absurd h1 e
                · exact hI.hl k h1
            · intro k hk
              rcases List.mem_cons.1 hk with h1 | h1
              · subst h1; exact .inl List.mem_cons_self
              · rcases hI.split k h1 with h3 | h3
                · exact .inl (List.mem_cons_of_mem _ h3)
                · exact .inr h3
            · intro o2 i2 h1
              obtain ⟨h3,h4,h5⟩:=hI.Cx o2 i2 h1
              exact ⟨h3,h4,List.mem_cons_of_mem _ h5⟩
            · intro k hk j hj
              rcases List.mem_cons.1 hk with h1 | h1
              · subst h1; exact List.mem_cons_of_mem _ (hI.Q2j j (QdJ j hj))
              · exact List.mem_cons_of_mem _ (hI.Qgs k h1 j hj)
            · intro o2 i2 h1 h3
              obtain ⟨h4,h5,h6⟩:=hI.Cx o2 i2 h1
              have hn2:=hne o2 i2 h1
              rw [Qbk,if_neg hn2] at h3
              have QAx : ∀ t ∈ looks all o2,(put l o.dst v)[t]? = l[t]?:=fun t ht => VH fun e => by
                rcases hok.looking o2 i2 o i h4 ho (Ne.symm hn2) t e ht with h8 | ⟨h8,_⟩
                · exact hid (hI.Qgs i2 h6 i h8)
                · rw [QdJ i2 h8] at h3; cases h3
              have hds : ∀ d,o2.dst = some d → (put l o.dst v)[d]? = l[d]?:=fun d hd => VH fun e => hok.uniq o2 i2 o i h4 ho (Ne.symm hn2) d hd e
              refine (hI.facts o2 i2 h1 h3).agree h5 QAx hds fun hwd u hu _ => ?_
              have hwd' : Region.wanted o2 (yielded all.toArray (put l o.dst v).toArray) = true:=by
                rw [Cu (T:=l.toArray) fun t ht => by simpa using QAx t ht]; exact hwd
              unfold Kept
              cases ho2 : o2.op <;> simp only <;> try trivial
              rename_i t x
              obtain ⟨d,hd,hx⟩:=hkp o2 i2 t x h1 ho2 (fun k hk hin => by
                rcases List.mem_cons.1 hk with h7 | h7
                · subst h7; rw [QdJ i2 hin] at h3; cases h3
                · rw [hI.la k (hI.hl k h7) i2 hin] at h3; cases h3) hwd'
              have : (put l o.dst v).getD d undef = u:=by
                have h7:=hds d hd
                rw [hu d hd] at h7
                simp [h7]
              rw [this] at hx
              exact hx
          simp only [RF] at hD
          obtain ⟨done',Q9Y,l',hF,hI',hc'⟩:=Q5c hok all 0 (fun o i => by rw [U0]; simp) (i :: done) XU (put l o.dst v) hI0 (fun o i h1 => by omega) hD
          exact ih fuel (i :: hard) done' Q9Y l' w' _ _ hI' hc' hm' hF
      rcases QkO h2 with ⟨h1,h3⟩ | ⟨h1,h3⟩
      · have hns : ∀ cs b,o.op ≠ .select cs b:=fun cs b e => by
          obtain ⟨dst,op,ty,pos,after,guard⟩:=o
          simp only at e
          subst e
          simp only [Good,execOp] at h3
          split at h3 <;> first | exact h3 | (rename_i hx; simp [Sem.run_bind] at hx; revert hx; generalize Sem.run P _ w = r; cases r <;> simp)
        have he : execOp a.eval o = execOp (ev l) o:=execOp_congr o hns fun x hx => QdS fun t ht => by subst ht; exact hag t (Gm hx)
        rw [hw,h1,if_pos rfl]
        refine .inl (Gs ?_)
        rw [he]
        exact Q05 (fun v w' hk => cont v w' hk) h3
      · rw [hw,h1]
        exact cont undef w h3
theorem Q27 {id : Nat} (Qg7 : P.follows .mixedOrders = true) {l : List Value} {w : World} (hl : l.length = n) (hok : Qb5 P all n = true) (hK : ∀ l' w,Agree all l l' → K l' w → Q .normal (Xu l') w)
    (h : RF P all (Q89 all) K (all.length + 1) [] [] [] l w.drew) : (Code.region id all.toArray true).wp P Q (Xu l) w:=by
  have hok':=Qda hok
  refine wp_region_any Qg7 ?_
  simp only [RF] at h
  have hf : ∀ k,(Array.replicate all.length false).getD k false = false:=fun k => by
    by_cases hk : k < all.length <;> simp [hk]
  have hI0 : Inv P all (Q89 all) n [] [] [] l w.drew (Array.replicate all.length false) (Xu l) l :=
    { size:=by simp
      len:=hl
      defers:=rfl
      tsz:=by simp [Xu,hl]
      slots:=fun s _ => by simp [Xu]
      Q2j:=fun i hi => by rw [hf] at hi; cases hi
      hl:=fun i hi => by simp at hi
      split:=fun i hi => by simp at hi
      Cx:=fun o i hm => by simp at hm
      Qgs:=fun i hi => by simp at hi
      facts:=fun o i hm => by simp at hm
      la:=fun i hi => by rw [hf] at hi; cases hi
      agr:=⟨rfl,fun s _ => rfl⟩ }
  obtain ⟨done',Q9Y,l',hF,hI',hc'⟩:=Q5c hok' all 0 (fun o i => by rw [U0]; simp) [] [] l hI0 (fun o i h1 => by omega) h
  have hle : ∀ k,unl (Array.replicate all.length false) k ≤ k:=fun k => by
    induction k with
    | zero => simp [unl]
    | succ k ih => simp only [unl]; split <;> omega
  exact Qgq hok' hK all.toArray.size all.length [] done' Q9Y l' w.drew _ _ hI' hc' (by simpa using hle all.length) hF
end
end
end Go.Proofs.YtbnhggfiembejaaGreatDoor.X
end
section
namespace Go.Proofs.YtbnhggfiembejaaGreatDoor.X
open Go
set_option linter.unusedSimpArgs false
set_option linter.unusedVariables false
theorem Qez {i s : Nat} {l : List Nat} : s ∈ addN i l ↔ s = i ∨ s ∈ l:=by
  unfold addN
  cases h : mem i l with
  | true =>
    have:=mem_iff.1 h
    exact ⟨.inr,fun h => by rcases h with rfl | h <;> assumption⟩
  | false => simp only [List.mem_append,List.mem_singleton]; exact Or.comm
theorem Qko {s : Nat} : ∀ (r : List RW) (acc : List Nat),s ∈ QaU r acc ↔ s ∈ acc ∨ RW.wr s ∈ r ∨ RW.as s ∈ r:=by
  intro r
  induction r with
  | nil => intro acc; simp [QaU]
  | cons x r ih =>
    intro acc
    cases x with
    | rd t => simp [QaU,ih]
    | wr t =>
      simp only [QaU,ih,Qez,List.mem_cons,RW.wr.injEq,reduceCtorEq,false_or]
      constructor
      · rintro ((h | h) | h | h) <;> simp [h]
      · rintro (h | (h | h) | h) <;> simp [h]
    | as t =>
      simp only [QaU,ih,Qez,List.mem_cons,RW.as.injEq,reduceCtorEq,false_or]
      constructor
      · rintro ((h | h) | h | h) <;> simp [h]
      · rintro (h | h | h | h) <;> simp [h]
def Wr (c : Code) (s : Nat) : Prop:=RW.wr s ∈ R8 c ∨ RW.as s ∈ R8 c
theorem Q3U {c : Code} {s : Nat} : s ∈ Q0A c ↔ Wr c s:=by
  unfold Q0A; rw [Qko]; simp [Wr]
theorem Qiu {id : Nat} {ops : Array Oper} {d : Bool} {s : Nat} {o : Oper} (ho : o ∈ ops.toList) (hd : o.dst = some s) : Wr (.region id ops d) s:=by
  have : RW.wr s ∈ QpD o ops.toList ∨ RW.as s ∈ QpD o ops.toList:=by
    unfold QpD
    rw [hd]
    cases o.op <;> simp
  unfold Wr
  simp only [R8]
  rcases this with h | h
  · exact .inl (List.mem_flatMap.2 ⟨o,ho,h⟩)
  · exact .inr (List.mem_flatMap.2 ⟨o,ho,h⟩)
theorem QfG (ws lv : List Nat) (vs : List Value) (g : Nat → Value) : ∀ (l : List Value) (c : Nat),(ovl ws lv vs g c l).length = l.length:=by
  intro l
  induction l with
  | nil => intro c; rfl
  | cons v r ih => intro c; simp [ovl,ih]
theorem Qd9 {ws lv : List Nat} {vs : List Value} {g : Nat → Value} : ∀ (l : List Value) (c s : Nat),c + s ∉ ws → (ovl ws lv vs g c l)[s]? = l[s]?:=by
  intro l
  induction l with
  | nil => intro c s _; rfl
  | cons v r ih =>
    intro c s h
    cases s with
    | zero => simp only [ovl,Nat.add_zero] at h ⊢; rw [Gn.2 h]; rfl
    | succ s => simp only [ovl,List.getElem?_cons_succ]; exact ih (c + 1) s (by rw [show c + 1 + s = c + (s + 1) by omega]; exact h)
theorem Qb4 {i : Nat} : ∀ (l : List Nat) (k j : Nat),placeOf i l k = some j → ∃ m,j = k + m ∧ l[m]? = some i:=by
  intro l
  induction l with
  | nil => intro k j h; simp [placeOf] at h
  | cons x r ih =>
    intro k j h
    unfold placeOf at h
    split at h
    · rename_i hb
      cases h
      exact ⟨0,rfl,by simp [Nat.eq_of_beq_eq_true hb]⟩
    · obtain ⟨m,h1,h2⟩:=ih (k + 1) j h
      exact ⟨m + 1,by omega,by simpa using h2⟩
theorem QlO {ws lv : List Nat} {f : Nat → Value} : ∀ (l l' : List Value) (c : Nat),l'.length = l.length → (∀ s,c + s ∉ ws → l'[s]? = l[s]?) → (∀ s,s < l'.length → l'[s]? = some (f (c + s))) →
    ovl ws lv (lv.map f) f c l = l':=by
  intro l
  induction l with
  | nil => intro l' c hl _ _; simp [ovl]; exact List.eq_nil_of_length_eq_zero hl
  | cons v r ih =>
    intro l' c hl ho hf
    cases l' with
    | nil => simp at hl
    | cons u r' =>
      simp only [ovl]
      congr 1
      · have hu : u = f c:=by simpa using hf 0 (by simp)
        cases hm : mem c ws with
        | true =>
          simp only
          split
          · rename_i k hk
            obtain ⟨m,h1,h2⟩:=Qb4 lv 0 k hk
            have : k = m:=by omega
            subst this
            simp [h2,hu]
          · exact hu.symm
        | false => simpa using (ho 0 (by simpa using Gn.1 hm)).symm
      · refine ih r' (c + 1) (by simpa using hl) (fun s hs => ?_) (fun s hs => ?_)
        · have:=ho (s + 1) (by rw [show c + (s + 1) = c + 1 + s by omega]; exact hs)
          simpa using this
        · have:=hf (s + 1) (by simpa using hs)
          rw [show c + (s + 1) = c + 1 + s by omega] at this
          simpa using this
theorem Q3P {ws lv : List Nat} {l l' : List Value} (hl : l'.length = l.length) (ho : ∀ s,s ∉ ws → l'[s]? = l[s]?) :
    ovl ws lv (lv.map fun i => l'.getD i undef) (fun i => l'.getD i undef) 0 l = l' :=
  QlO l l' 0 hl (fun s hs => ho s (by simpa using hs)) fun s hs => by simp [hs]
section
variable {P : Program} {n : Nat}
theorem QkM (Qg7 : P.follows .mixedOrders = true) : ∀ (c : Code) (Q : Exit → List Value → World → Prop) (Q' : Exit → Act → World → Prop) (l : List Value) (w : World),l.length = n →
    (∀ e l' w',l'.length = n → (∀ s,¬ Wr c s → l'[s]? = l[s]?) → Q e l' w' → Q' e (Xu l') w') → vc P n c Q l w → c.wp P Q' (Xu l) w:=by
  intro c
  induction c with
  | skip => intro Q Q' l w hl hq h; exact wp_skip (hq _ _ _ hl (fun _ _ => rfl) h)
  | label i => intro Q Q' l w hl hq h; exact wp_label (hq _ _ _ hl (fun _ _ => rfl) h)
  | exit i => intro Q Q' l w hl hq h; exact wp_exit (hq _ _ _ hl (fun _ _ => rfl) h)
  | ret => intro Q Q' l w hl hq h; exact wp_ret (hq _ _ _ hl (fun _ _ => rfl) h)
  | goto i => intro Q Q' l w hl hq h; exact h.elim
  | refuse s => intro Q Q' l w hl hq h; exact h.elim
  | rangeFunc f p a b iha ihb => intro Q Q' l w hl hq h; exact h.elim
  | region id ops draw =>
    intro Q Q' l w hl hq h
    have key : ∀ l' w',Agree ops.toList l l' → Q .normal l' w' → Q' .normal (Xu l') w':=fun l' w' ha hk =>
      hq _ _ _ (by rw [ha.1,hl]) (fun s hs => ha.2 s fun o ho hd => hs (Qiu ho hd)) hk
    cases draw with
    | false =>
      simp only [vc] at h
      refine wp_region_list ?_
      have:=QcG (Q:=Q') ops.toList l w key h
      simpa using this
    | true =>
      simp only [vc] at h
      split at h
      · rename_i hok
        have:=Q27 (Q:=Q') (id:=id) Qg7 hl hok key h
        simpa using this
      · exact h.elim
  | seq a b iha ihb =>
    intro Q Q' l w hl hq h
    simp only [vc] at h
    refine wp_seq ?_
    have wra : ∀ s,¬ Wr (a.seq b) s → ¬ Wr a s:=fun s hs h => hs (by unfold Wr at *; simp only [R8,List.mem_append]; rcases h with h | h <;> simp [h])
    have wrb : ∀ s,¬ Wr (a.seq b) s → ¬ Wr b s:=fun s hs h => hs (by unfold Wr at *; simp only [R8,List.mem_append]; rcases h with h | h <;> simp [h])
    split at h
    · refine iha _ _ l w hl ?_ h
      intro e l1 w1 hl1 ha1 hk
      cases e with
      | normal =>
        refine ihb Q Q' l1 w1 hl1 (fun e l2 w2 hl2 ha2 hk2 => hq e l2 w2 hl2 (fun s hs => ?_) hk2) hk
        rw [ha2 s (wrb s hs),ha1 s (wra s hs)]
      | _ => exact hq _ _ _ hl1 (fun s hs => ha1 s (wra s hs)) hk
    · obtain ⟨J,hp,hr⟩:=h.out
      refine iha _ _ l w hl ?_ hp
      intro e l1 w1 hl1 ha1 hk
      cases e with
      | normal =>
        have h2:=hr _ (fun i => l1.getD i undef) w1 hk
        rw [Q3P (ws:=Q0A a) (by rw [hl1,hl]) fun s hs => ha1 s (fun h => hs (Q3U.2 h))] at h2
        refine ihb Q Q' l1 w1 hl1 (fun e l2 w2 hl2 ha2 hk2 => hq e l2 w2 hl2 (fun s hs => ?_) hk2) h2
        rw [ha2 s (wrb s hs),ha1 s (wra s hs)]
      | _ => exact hq _ _ _ hl1 (fun s hs => ha1 s (wra s hs)) hk
  | cond c x y ihx ihy =>
    intro Q Q' l w hl hq h
    simp only [vc] at h
    obtain ⟨t,hv,ht,hf⟩:=Q6w h
    have wrx : ∀ s,¬ Wr (Code.cond c x y) s → ¬ Wr x s:=fun s hs h => hs (by unfold Wr at *; simp only [R8,List.mem_append]; rcases h with h | h <;> simp [h])
    have wry : ∀ s,¬ Wr (Code.cond c x y) s → ¬ Wr y s:=fun s hs h => hs (by unfold Wr at *; simp only [R8,List.mem_append]; rcases h with h | h <;> simp [h])
    refine wp_cond (t:=t) (by rw [Q2L]; exact hv) ?_
    cases t
    · exact ihy Q Q' l w hl (fun e l2 w2 hl2 ha2 hk2 => hq e l2 w2 hl2 (fun s hs => ha2 s (wry s hs)) hk2) (hf rfl)
    · exact ihx Q Q' l w hl (fun e l2 w2 hl2 ha2 hk2 => hq e l2 w2 hl2 (fun s hs => ha2 s (wrx s hs)) hk2) (ht rfl)
  | block id c ih =>
    intro Q Q' l w hl hq h
    simp only [vc] at h
    refine wp_block ?_
    refine ih _ _ l w hl ?_ h
    intro e l1 w1 hl1 ha1 hk
    have ha : ∀ s,¬ Wr (Code.block id c) s → l1[s]? = l[s]?:=fun s hs => ha1 s hs
    cases e with
    | exit i =>
      simp only at hk
      simp only [Exit.inBlock]
      split at hk
      · rename_i hb
        rw [if_pos (Nat.eq_of_beq_eq_true hb)]
        exact hq _ _ _ hl1 ha hk
      · rename_i hb
        rw [if_neg (fun e => by subst e; simp at hb)]
        exact hq _ _ _ hl1 ha hk
    | _ => exact hq _ _ _ hl1 ha hk
  | loop c ih =>
    intro Q Q' l w hl hq h
    simp only [vc] at h
    obtain ⟨I,⟨n0,h0⟩,Qun⟩:=h.out
    refine wp_loop_ghost (fun k a w => ∃ vs g,I k vs w ∧ a = Xu (ovl (Q0A c) (Qdl c) vs g 0 l)) n0 ⟨_,fun i => l.getD i undef,h0,by rw [Q3P rfl fun _ _ => rfl]⟩ ?_
    rintro k a w1 ⟨vs,g,hI,rfl⟩
    have hlen : (ovl (Q0A c) (Qdl c) vs g 0 l).length = n:=by rw [QfG,hl]
    refine ih _ _ _ w1 hlen ?_ (Qun k vs g w1 hI)
    intro e l2 w2 hl2 ha2 hk
    have hout : ∀ s,¬ Wr (Code.loop c) s → l2[s]? = l[s]?:=fun s hs => by
      rw [ha2 s hs]
      exact Qd9 l 0 s (by rw [Nat.zero_add,Q3U]; exact hs)
    cases e with
    | normal =>
      obtain ⟨m,hm,hI2⟩:=hk.out
      refine ⟨m,hm,_,fun i => l2.getD i undef,hI2,?_⟩
      rw [Q3P (ws:=Q0A c) (by rw [hl2,hl]) fun s hs => hout s (fun h => hs (Q3U.2 h))]
    | _ => exact hq _ _ _ hl2 hout hk
  | scope c ih =>
    intro Q Q' l w hl hq h
    simp only [vc] at h
    refine wp_scope_straight ?_
    refine ih _ _ l w hl ?_ h
    intro e l1 w1 hl1 ha1 hk
    cases e with
    | goto i => exact hk.elim
    | _ => exact hq _ _ _ hl1 ha1 hk
def Qfz (T : Array Value) : ResultVar → Sem Value
  | .tmp t => pure (T.getD t undef)
  | .cell a t => do loadVar t (← asAddr (T.getD a undef))
theorem Qfy (fn : Func) (T : Array Value) : results fn T = (do let vs ← fn.results.mapM (Qfz T); pure (if h : vs.size = 1 then vs[0] else .tuple vs)):=rfl
theorem Qm8 {l : List Value} {w : World} {K : Value → World → Prop} : ∀ (r : List ResultVar) (vs : List Value),Q1Y P l w K r vs →
    ∃ us : List Value,(r.mapM (Qfz l.toArray)).run P w = .ok us w ∧ K (match vs ++ us with | [v] => v | ws => .tuple ws.toArray) w:=by
  intro r
  induction r with
  | nil =>
    intro vs h
    refine ⟨[],by simp,?_⟩
    rw [List.append_nil]
    match vs,h with
    | [],h => exact h
    | [v],h => exact h
    | v :: u :: r,h => exact h
  | cons x r ih =>
    intro vs h
    have step : ∀ v,(Qfz l.toArray x).run P w = .ok v w → Q1Y P l w K r (vs ++ [v]) →
        ∃ us : List Value,((x :: r).mapM (Qfz l.toArray)).run P w = .ok us w ∧ K (match vs ++ us with | [v] => v | ws => .tuple ws.toArray) w:=by
      intro v hv hK
      obtain ⟨us,h1,h2⟩:=ih _ hK
      refine ⟨v :: us,?_,by simpa using h2⟩
      simp only [List.mapM_cons,Sem.run_bind,Sem.run_pure,Result.andThen_ok,hv,h1]
    cases x with
    | tmp t => exact step _ (by simp [Qfz]) h
    | cell a t =>
      simp only [Q1Y] at h
      split at h
      · rename_i hk
        obtain ⟨ad,ha,h⟩:=Pb h
        have hag:=Q03 (w:=w) hk
        have hga : l.toArray.getD a undef = .pointer (some ad):=by rw [← ha]; simp
        split at h
        · rename_i hagg
          split at h
          · rename_i m hm
            obtain ⟨cs,hs,hc,hK⟩:=h.out
            subst hs
            exact step _ (by simp only [Qfz,hga,asAddr,Sem.run_bind,Sem.run_pure,Result.andThen_ok,loadVar,hag,hagg,if_true,Yl hm,Q3X ad cs hc]) hK
          · exact h.elim
        · rename_i hagg
          obtain ⟨v,hv,hK⟩:=h.out
          exact step _ (by simp only [Qfz,hga,asAddr,Sem.run_bind,Sem.run_pure,Result.andThen_ok,loadVar,hag,hagg,Bool.false_eq_true,if_false,QiT hv]) hK
      · exact h.elim
theorem Q4X {fn : Func} {l : List Value} {w : World} {K : Value → World → Prop} (h : Q1Y P l w K fn.results.toList []) :
    ∃ v,(results fn (Xu l).tmps).run P w = .ok v w ∧ K v w:=by
  obtain ⟨us,h1,h2⟩:=Qm8 _ _ h
  refine ⟨_,?_,h2⟩
  rw [Qfy,Array.mapM_eq_mapM_toList]
  simp only [Xu,Sem.run_bind,Sem.run_map,h1,Result.andThen_ok,List.nil_append]
  match us with
  | [] => rfl
  | [v] => rfl
  | v :: u :: r => rfl
theorem Qiy (Qg7 : P.follows .mixedOrders = true) {f : FuncId} {fn : Func} {args : List Value} {w : World} {K : Value → World → Prop} (hf : P.funcs[f]? = some fn)
    (h : ZM P fn args w K) : Q6 P f args w K:=by
  unfold ZM at h
  split at h
  · rename_i c hc
    refine ⟨?_⟩
    refine calls_of_wp hf hc ?_
    have e : ({ tmps:=args.toArray ++ Array.replicate (fn.ntmps - args.toArray.size) undef,defers:=[] } : Act) = Xu (args ++ List.replicate (fn.ntmps - args.length) undef):=by
      simp [Xu]
    rw [e]
    refine QkM (n:=args.length + (fn.ntmps - args.length)) Qg7 c _ _ _ _ (by simp) ?_ h
    intro e l w' hl _ hk
    cases e <;> simp only [QsX] at hk
    · obtain ⟨v,hv,hK⟩:=Q4X hk; exact ⟨rfl,v,hv,v,rfl,hK⟩
    · obtain ⟨v,hv,hK⟩:=Q4X hk; exact ⟨rfl,v,hv,v,rfl,hK⟩
  · exact h.elim
theorem Q9 (Qg7 : P.follows .mixedOrders = true) {f : FuncId} {fn : Func} {args : List Value} {w : World} {K : Value → World → Prop} {S : Prop} (hf : P.funcs[f]? = some fn)
    (e : S = ZM P fn args w K) (h : S) : Q6 P f args w K:=Qiy Qg7 hf (e ▸ h)
end
end Go.Proofs.YtbnhggfiembejaaGreatDoor.X
end
