/- A symbolic executor for the model's code: the words (expressions, cells, blocks, trees). Conditions: none; nothing is proved here of any program. -/
import Derived.Orders
import Derived.LoopN
import Derived.Scope
import Derived.Below
import Derived.KernelRfl
noncomputable section
namespace Go.SX

/-! ### Lists and tries, made for the kernel -/

def nth {α : Type} (l : List α) : Nat → Option α :=
  List.rec (motive := fun _ => Nat → Option α) (fun _ => none) (fun a _ ih n => Nat.rec (some a) (fun m _ => ih m) n) l

def lenL {α : Type} (l : List α) : Nat := List.rec (motive := fun _ => Nat) 0 (fun _ _ ih => Nat.add ih 1) l
def appL {α : Type} (l m : List α) : List α := List.rec (motive := fun _ => List α) m (fun a _ ih => a :: ih) l
def dropL {α : Type} (n : Nat) : List α → List α :=
  Nat.rec (motive := fun _ => List α → List α) (fun l => l) (fun _ ih l => List.rec (motive := fun _ => List α) [] (fun _ t _ => ih t) l) n
def takeL {α : Type} (n : Nat) : List α → Option (List α) :=
  Nat.rec (motive := fun _ => List α → Option (List α)) (fun _ => some [])
    (fun _ ih l => List.rec (motive := fun _ => Option (List α)) none
      (fun a t _ => Option.rec (motive := fun _ => Option (List α)) none (fun r => some (a :: r)) (ih t)) l) n
/-- The first elements of a list written over. -/
def overL {α : Type} (new : List α) : List α → Option (List α) :=
  List.rec (motive := fun _ => List α → Option (List α)) (fun l => some l)
    (fun c _ ih l => List.rec (motive := fun _ => Option (List α)) none
      (fun _ t _ => Option.rec (motive := fun _ => Option (List α)) none (fun r => some (c :: r)) (ih t)) l) new
def putL {α : Type} (off : Nat) (new : List α) : List α → Option (List α) :=
  Nat.rec (motive := fun _ => List α → Option (List α)) (fun l => overL new l)
    (fun _ ih l => List.rec (motive := fun _ => Option (List α)) none
      (fun a t _ => Option.rec (motive := fun _ => Option (List α)) none (fun r => some (a :: r)) (ih t)) l) off

/-- A trie: number 0 at the root, the others in four branches. -/
inductive T (α : Type)
  | e
  | n (v : Option α) (a b c d : T α)

/-- Where a number lies. -/
inductive Path
  | h
  | a (p : Path)
  | b (p : Path)
  | c (p : Path)
  | d (p : Path)

def pathF (f : Nat) : Nat → Path :=
  Nat.rec (motive := fun _ => Nat → Path) (fun _ => .h)
    (fun _ ih i => cond (Nat.beq i 0) .h (Nat.rec (motive := fun _ => Path) (.a (ih (Nat.div (Nat.sub i 1) 4)))
      (fun k _ => Nat.rec (motive := fun _ => Path) (.b (ih (Nat.div (Nat.sub i 1) 4)))
        (fun k _ => Nat.rec (motive := fun _ => Path) (.c (ih (Nat.div (Nat.sub i 1) 4))) (fun _ _ => .d (ih (Nat.div (Nat.sub i 1) 4))) k) k) (Nat.mod (Nat.sub i 1) 4))) f
def pathOf (i : Nat) : Path := pathF (Nat.succ i) i

def getP {α : Type} (p : Path) : T α → Option α :=
  Path.rec (motive := fun _ => T α → Option α)
    (fun t => T.rec (motive := fun _ => Option α) none (fun v _ _ _ _ _ _ _ _ => v) t)
    (fun _ ih t => T.rec (motive := fun _ => Option α) none (fun _ a _ _ _ _ _ _ _ => ih a) t)
    (fun _ ih t => T.rec (motive := fun _ => Option α) none (fun _ _ b _ _ _ _ _ _ => ih b) t)
    (fun _ ih t => T.rec (motive := fun _ => Option α) none (fun _ _ _ c _ _ _ _ _ => ih c) t)
    (fun _ ih t => T.rec (motive := fun _ => Option α) none (fun _ _ _ _ d _ _ _ _ => ih d) t) p

def setP {α β : Type} (p : Path) : T α → Option α → (T α → β) → β :=
  Path.rec (motive := fun _ => T α → Option α → (T α → β) → β)
    (fun t v k => T.rec (motive := fun _ => β) (k (.n v .e .e .e .e)) (fun _ a b c d _ _ _ _ => k (.n v a b c d)) t)
    (fun _ ih t v k => T.rec (motive := fun _ => β) (ih .e v fun x => k (.n none x .e .e .e)) (fun u a b c d _ _ _ _ => ih a v fun x => k (.n u x b c d)) t)
    (fun _ ih t v k => T.rec (motive := fun _ => β) (ih .e v fun x => k (.n none .e x .e .e)) (fun u a b c d _ _ _ _ => ih b v fun x => k (.n u a x c d)) t)
    (fun _ ih t v k => T.rec (motive := fun _ => β) (ih .e v fun x => k (.n none .e .e x .e)) (fun u a b c d _ _ _ _ => ih c v fun x => k (.n u a b x d)) t)
    (fun _ ih t v k => T.rec (motive := fun _ => β) (ih .e v fun x => k (.n none .e .e .e x)) (fun u a b c d _ _ _ _ => ih d v fun x => k (.n u a b c x)) t) p
/-- The numbers that a trie takes. -/
def room : Nat := 16000000

def T.get {α : Type} (t : T α) (i : Nat) : Option α := getP (pathOf i) t
def T.put {α : Type} (t : T α) (i : Nat) (v : Option α) : T α := setP (pathOf i) t v id

/-! ### Expressions -/

/-- The sorts of scalar values; 'opq': any value of one cell, never looked into. -/
inductive Srt | bool | int (k : IntKind) | float | str | opq | slc

def kindEq : IntKind → IntKind → Bool
  | .i8, .i8 | .i16, .i16 | .i32, .i32 | .i64, .i64 | .u8, .u8 | .u16, .u16 | .u32, .u32 | .u64, .u64 => true
  | _, _ => false

def Srt.eq : Srt → Srt → Bool
  | .bool, .bool | .float, .float | .str, .str | .opq, .opq | .slc, .slc => true
  | .int a, .int b => kindEq a b
  | _, _ => false

/-- Has a value a sort? -/
def Srt.has : Srt → Value → Bool
  | .bool, .bool _ => true
  | .int k, .int k' _ => kindEq k k'
  | .float, .float .f64 _ => true
  | .str, .string _ => true
  | .slc, .slice _ _ _ => true
  | .opq, .agg _ | .opq, .tuple _ => false
  | .opq, _ => true
  | _, _ => false

/-- Expressions over scalar values. -/
inductive E
  | lit (v : Value)
  | var (i : Nat)
  | bin (op : BinOp) (a b : E)
  | not (a : E)
  | ite (c a b : E)
  | conv (k : IntKind) (a : E)
  | toF (a : E)
  | len (a : E)
  | ext (f : Nat) (a : E)
  | pair (a b : E)

def pureOf {α : Type} : Sem α → Option α
  | .pure a => some a
  | _ => none

def bytesEq : List UInt8 → List UInt8 → Bool
  | [], [] => true
  | a :: l, b :: m => Nat.beq a.toNat b.toNat && bytesEq l m
  | _, _ => false

/-- Comparisons of strings. -/
def strV (op : BinOp) (x y : List UInt8) : Option Value :=
  match op with
  | .eql => some (.bool (bytesEq x y))
  | .neq => some (.bool !(bytesEq x y))
  | .lss => some (.bool (Op.bytesLess x y))
  | .leq => some (.bool (Op.bytesLess x y || bytesEq x y))
  | .gtr => some (.bool !(Op.bytesLess x y || bytesEq x y))
  | .geq => some (.bool !(Op.bytesLess x y))
  | _ => none

def boolV (op : BinOp) (a b : Bool) : Option Value :=
  match op with
  | .eql => some (.bool (a == b))
  | .neq => some (.bool (!(a == b)))
  | _ => none

/-- The value of an operation on two scalars, where it is one that asks nothing. -/
def binV (op : BinOp) (x y : Value) : Option Value :=
  match x, y with
  | .int _ _, .int _ _ => pureOf (Go.binOp op 0 x y)
  | .float _ _, .float _ _ => pureOf (Go.binOp op 0 x y)
  | .string a, .string b => strV op a.data.toList b.data.toList
  | .bool a, .bool b => boolV op a b
  | _, _ => none

def notV : Value → Option Value
  | .bool b => some (.bool !b)
  | _ => none

def convV (k : IntKind) : Value → Option Value
  | .int _ n => some (.int k (k.wrap n))
  | _ => none

def toFV : Value → Option Value
  | .int _ n => some (.float .f64 (FloatKind.nearest .f64 n))
  | _ => none

def lenV : Value → Option Value
  | .string s => some (.int .i64 s.data.toList.length)
  | .slice _ n _ => some (.int .i64 (.ofNat n))
  | _ => none

/-- The program's pure functions of one argument that have no body. -/
abbrev Ext := Nat → Value → Option Value

def iteV (c : Option Value) (a b : Option Value) : Option Value :=
  match c with
  | some (.bool true) => a
  | some (.bool false) => b
  | _ => none

def E.den (X : Ext) (vs : List Value) : E → Option Value
  | .lit v => some v
  | .var i => vs[i]?
  | .bin op a b => (a.den X vs).bind fun x => (b.den X vs).bind fun y => binV op x y
  | .not a => (a.den X vs).bind notV
  | .ite c a b => iteV (c.den X vs) (a.den X vs) (b.den X vs)
  | .conv k a => (a.den X vs).bind (convV k)
  | .toF a => (a.den X vs).bind toFV
  | .len a => (a.den X vs).bind lenV
  | .ext f a => (a.den X vs).bind (X f)
  | .pair a b => (a.den X vs).bind fun x => (b.den X vs).bind fun y => some (.tuple #[x, y])

/-! ### Are two expressions the same, sign by sign? -/

def opEq : BinOp → BinOp → Bool
  | .add, .add | .sub, .sub | .mul, .mul | .quo, .quo | .rem, .rem | .and, .and | .or, .or | .xor, .xor | .shl, .shl | .shr, .shr | .andNot, .andNot
  | .eql, .eql | .neq, .neq | .lss, .lss | .leq, .leq | .gtr, .gtr | .geq, .geq => true
  | _, _ => false

def intEq : Int → Int → Bool
  | .ofNat a, .ofNat b => Nat.beq a b
  | .negSucc a, .negSucc b => Nat.beq a b
  | _, _ => false

def boolEq (a b : Bool) : Bool := cond a b (!b)

def scalarEq : Value → Value → Bool
  | .bool a, .bool b => boolEq a b
  | .int k a, .int k' b => kindEq k k' && intEq a b
  | .float .f64 a, .float .f64 b => Nat.beq a b
  | .string a, .string b => bytesEq a.data.toList b.data.toList
  | _, _ => false

def E.eq : E → E → Bool
  | .lit a, .lit b => scalarEq a b
  | .var i, .var j => Nat.beq i j
  | .bin o a b, .bin p c d => opEq o p && a.eq c && b.eq d
  | .not a, .not b => a.eq b
  | .ite a b c, .ite d e f => a.eq d && b.eq e && c.eq f
  | .conv k a, .conv l b => kindEq k l && a.eq b
  | .toF a, .toF b => a.eq b
  | .len a, .len b => a.eq b
  | .ext f a, .ext g b => Nat.beq f g && a.eq b
  | .pair a b, .pair c d => a.eq c && b.eq d
  | _, _ => false

/-! ### Cells, values, blocks -/

/-- A number that may be unknown. -/
inductive N | lit (n : Nat) | var (i : Nat)

def N.den (ns : List Nat) : N → Option Nat
  | .lit n => some n
  | .var i => ns[i]?

/-- A value of one cell. -/
inductive Cell
  | s (t : Srt) (e : E)
  | c (v : Value)
  | ptr (id off : Nat)
  | slice (id off len : Nat) (cap : N)
  | map (id : Nat)
  | func (f : Nat) (caps : List (Nat × Nat))

/-- What a slot holds. -/
inductive AV
  | one (c : Cell)
  | agg (cs : List Cell)
  | tup (vs : List (Bool × List Cell))

def AV.undef : AV := .tup []

/-- What is known of the world: where blocks lie, what variables hold. -/
structure Env where
  X : Ext
  σ : List Nat
  vs : List Value
  ns : List Nat
  β : Nat → Nat

def ptrDen (σ : List Nat) (β : Nat → Nat) (p : Nat × Nat) : Option Value := (σ[p.1]?).map fun b => .pointer (some ⟨b, β p.1 + p.2, none⟩)

def ptrsDen (σ : List Nat) (β : Nat → Nat) : List (Nat × Nat) → Option (List Value)
  | [] => some []
  | p :: l => (ptrDen σ β p).bind fun v => (ptrsDen σ β l).map (v :: ·)

def sliceDen (b off len c : Nat) : Option Value := if len ≤ c then some (.slice (some ⟨b, off, none⟩) len c) else none

/-- The nil values. -/
def isNil : Value → Bool
  | .pointer none | .slice none 0 0 | .map none | .nilFunc | .nilIface => true
  | _ => false

def Cell.den (Γ : Env) : Cell → Option Value
  | .s t e => (e.den Γ.X Γ.vs).bind fun v => if t.has v then some v else none
  | .c v => if isNil v then some v else none
  | .ptr id off => ptrDen Γ.σ Γ.β (id, off)
  | .slice id off len cap => (Γ.σ[id]?).bind fun b => (cap.den Γ.ns).bind fun c => sliceDen b (Γ.β id + off) len c
  | .map id => (Γ.σ[id]?).map fun b => .map (some b)
  | .func f caps => (ptrsDen Γ.σ Γ.β caps).map fun l => .func (.func f) #[] l.toArray

def cellsDen (Γ : Env) : List Cell → Option (List Value)
  | [] => some []
  | c :: l => (c.den Γ).bind fun v => (cellsDen Γ l).map (v :: ·)

def partDen (Γ : Env) : Bool × List Cell → Option Value
  | (true, cs) => (cellsDen Γ cs).map fun l => .agg l.toArray
  | (false, [c]) => c.den Γ
  | (false, _) => none

def partsDen (Γ : Env) : List (Bool × List Cell) → Option (List Value)
  | [] => some []
  | p :: l => (partDen Γ p).bind fun v => (partsDen Γ l).map (v :: ·)

def AV.den (Γ : Env) : AV → Option Value
  | .one c => c.den Γ
  | .agg cs => (cellsDen Γ cs).map fun l => .agg l.toArray
  | .tup vs => (partsDen Γ vs).map fun l => .tuple l.toArray

def avsDen (Γ : Env) : List AV → Option (List Value)
  | [] => some []
  | v :: l => (v.den Γ).bind fun x => (avsDen Γ l).map (x :: ·)

/-- A block of cells: the first of them; how many there are in all: 'tot' times 'esz'; 'esz' nought: it is only read. -/
structure Blk where
  cells : List Cell
  tot : N
  esz : Nat

/-- A state: the slots of the function under way (so many), the blocks (so many numbers given), variables, sizes (so many), what has been decided. -/
structure St where
  tmps : T AV
  ntm : Nat
  heap : T Blk
  nh : Nat
  nv : Nat
  nn : Nat
  facts : List (E × Bool)

inductive Tree
  | leaf (st : St) (v : AV)
  | fork (c : E) (t f : Tree)
  | spec (f : Nat) (args : List AV) (rest : Tree)
  | cap (lo : Nat) (rest : Tree)
  | fail (why : String)

/-- Every leaf is the boolean true. -/
def Tree.isTrue : Tree → Bool
  | .leaf _ (.one (.s .bool (.lit (.bool true)))) => true
  | .leaf _ _ => false
  | .cap _ t => t.isTrue
  | .fork _ a b => a.isTrue && b.isTrue
  | .spec _ _ t => t.isTrue
  | .fail _ => false

inductive XExit | normal | exit (id : Nat) | goto (l : Nat) | ret

/-! ### Forcing: what is handed on is written out; 'forceX x k = k x' -/

def forceN {β : Type} (n : Nat) (k : Nat → β) : β := Nat.rec (k 0) (fun m _ => k (Nat.succ m)) n

def forceI {β : Type} (n : Int) (k : Int → β) : β := Int.rec (fun m => forceN m fun m => k (.ofNat m)) (fun m => forceN m fun m => k (.negSucc m)) n

def forceB {β : Type} (b : Bool) (k : Bool → β) : β := Bool.rec (k false) (k true) b

def forceV {β : Type} (v : Value) (k : Value → β) : β :=
  match v with
  | .bool b => forceB b fun b => k (.bool b)
  | .int i n => forceI n fun n => k (.int i n)
  | .float f n => forceN n fun n => k (.float f n)
  | v => k v

def forceE {β : Type} (e : E) (k : E → β) : β :=
  match e with
  | .lit v => forceV v fun v => k (.lit v)
  | e => k e

def forceCell {β : Type} (c : Cell) (k : Cell → β) : β :=
  match c with
  | .s t e => forceE e fun e => k (.s t e)
  | .ptr id off => forceN id fun id => forceN off fun off => k (.ptr id off)
  | .slice id off len cap => forceN id fun id => forceN off fun off => forceN len fun len => k (.slice id off len cap)
  | c => k c

/-- A list's spine and its cells' heads. -/
def forceCells {β : Type} (l : List Cell) : (List Cell → β) → β :=
  List.rec (motive := fun _ => (List Cell → β) → β) (fun k => k []) (fun a _ ih k => forceCell a fun a => ih fun l => k (a :: l)) l

/-- A list's spine. -/
def forceL {α β : Type} (l : List α) : (List α → β) → β :=
  List.rec (motive := fun _ => (List α → β) → β) (fun k => k []) (fun a _ ih k => ih fun l => k (a :: l)) l

def forceAV {β : Type} (v : AV) (k : AV → β) : β :=
  match v with
  | .one c => forceCell c fun c => k (.one c)
  | .agg cs => forceCells cs fun cs => k (.agg cs)
  | .tup vs => forceL vs fun vs => k (.tup vs)

end Go.SX
