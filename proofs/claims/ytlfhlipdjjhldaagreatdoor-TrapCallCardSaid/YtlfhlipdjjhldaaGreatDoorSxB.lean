/- A symbolic executor for the model's code: the program's tables, what an operation does. Conditions: none; nothing is proved here of any program. -/
import Derived.Test.YtlfhlipdjjhldaaGreatDoorSxA
noncomputable section
namespace Go.SX

/-! ### The program's tables -/

inductive TK
  | int (k : IntKind) | float | str | bool
  | struct (fs : List (Nat × Nat × Nat))     -- of each field: where, how many cells, its type
  | array (n e : Nat) | slice (e : Nat) | ptr | other

structure TI where
  size : Nat
  bytes : Nat
  kind : TK
  zero : Option (List Cell)

/-- A constant as a cell. -/
def cellOf : Value → Option Cell
  | .bool b => some (.s .bool (.lit (.bool b)))
  | .int k n => some (.s (.int k) (.lit (.int k n)))
  | .float .f64 n => some (.s .float (.lit (.float .f64 n)))
  | .string s => some (.s .str (.lit (.string s)))
  | .pointer none => some (.c (.pointer none))
  | .slice none 0 0 => some (.c (.slice none 0 0))
  | .map none => some (.c (.map none))
  | .nilFunc => some (.c .nilFunc)
  | .nilIface => some (.c .nilIface)
  | _ => none

def cellsOf : List Value → Option (List Cell)
  | [] => some []
  | v :: l => match cellOf v with
    | some c => match cellsOf l with
      | some r => some (c :: r)
      | none => none
    | none => none

def avOf : Value → Option AV
  | .agg cs => (cellsOf cs.toList).map .agg
  | v => (cellOf v).map .one

def tinfo (P : Program) (t : Nat) : Option TypeInfo := nth P.types.toList t

def fieldsOf (P : Program) : List Field → Option (List (Nat × Nat × Nat))
  | [] => some []
  | f :: l => match tinfo P f.type with
    | some i => match fieldsOf P l with
      | some r => some ((f.offset, i.size, f.type) :: r)
      | none => none
    | none => none

def kindOf (P : Program) : TypeDesc → Option TK
  | .int k => some (.int k)
  | .float k => match k with
    | .f64 => some .float
    | .f32 => some .other
  | .string => some .str
  | .bool => some .bool
  | .struct fs => match fieldsOf P fs.toList with
    | some l => some (.struct l)
    | none => none
  | .array n e => some (.array n e)
  | .slice e => some (.slice e)
  | .pointer _ => some .ptr
  | _ => some .other

def under (P : Program) (t : Nat) : Option TypeDesc :=
  match tinfo P t with
  | some i => match i.desc with
    | .named _ u => (tinfo P u).map (·.desc)
    | d => some d
  | none => none

def zeroOf : Option Value → Option (List Cell)
  | some v => cellsOf v.cells.toList
  | none => none

def tiOf (P : Program) (t : Nat) : Option TI :=
  match tinfo P t with
  | some i => match under P t with
    | some d => match kindOf P d with
      | some k => some ⟨i.size, i.bytes, k, zeroOf i.zero⟩
      | none => none
    | none => none
  | none => none

def TI.isAgg (i : TI) : Bool :=
  match i.kind with
  | .struct _ | .array _ _ => true
  | _ => false

/-- A contract that stands in a function's place: how many new variables; what it hands back, the first of these and the arguments given; which arguments it takes. -/
structure Con where
  n : Nat
  res : Nat → List AV → AV
  takes : List AV → Bool

structure Cfg where
  P : Program
  X : Ext
  eqT : Nat → Option (List Srt)            -- types of structs whose cells are scalars of these sorts, held against each other cell by cell
  fns : Nat → Bool            -- functions that are entered in place
  ext : Nat → Option (Srt × Srt × Bool)     -- functions without a body: of what sort, to what sort; whether at every value, or at known ones and at those that are equal to themselves alone
  con : Nat → Option Con      -- functions that are taken by a contract

def Cfg.ti (C : Cfg) (t : Nat) : Option TI := tiOf C.P t

/-! ### Looking at values -/

def AV.cells : AV → Option (List Cell)
  | .one c => some [c]
  | .agg cs => some cs
  | .tup _ => none

def intNat : Int → Option Nat
  | .ofNat n => some n
  | .negSucc _ => none

def AV.num : AV → Option Nat
  | .one (.s (.int _) (.lit (.int _ n))) => intNat n
  | _ => none

def getA (tmps : T AV) (t : Nat) : AV :=
  match tmps.get t with
  | some v => v
  | none => .undef

def evalA (tmps : T AV) : Operand → Option AV
  | .tmp t => some (getA tmps t)
  | .const v => avOf v
  | .global _ => none
  | .func f => some (.one (.func f []))

def evalsA (tmps : T AV) : List Operand → Option (List AV)
  | [] => some []
  | x :: l => match evalA tmps x with
    | some v => match evalsA tmps l with
      | some r => some (v :: r)
      | none => none
    | none => none

/-! ### Making expressions -/

def mkBin (op : BinOp) (a b : E) : E :=
  match a, b with
  | .lit x, .lit y => match binV op x y with
    | some v => .lit v
    | none => .bin op (.lit x) (.lit y)
  | a, b => .bin op a b

def mkNot : E → E
  | .lit (.bool b) => .lit (.bool !b)
  | a => .not a

def mkConv (k : IntKind) : E → E
  | .lit (.int _ n) => .lit (.int k (k.wrap n))
  | a => .conv k a

def mkToF : E → E
  | .lit (.int _ n) => .lit (.float .f64 (FloatKind.nearest .f64 n))
  | a => .toF a

def mkLen : E → E
  | .lit (.string s) => .lit (.int .i64 s.data.toList.length)
  | a => .len a

def mkExt (X : Ext) (f : Nat) : E → E
  | .lit v => match X f v with
    | some u => .lit u
    | none => .ext f (.lit v)
  | a => .ext f a

/-- Is a divisor known not to be nought? -/
def divisor : E → Bool
  | .lit (.int _ (.ofNat (_ + 1))) => true
  | _ => false

/-- The sort of an operation's value on two values of a sort; none: it may not be. -/
def binSort (op : BinOp) (t : Srt) (b : E) : Option Srt :=
  match t with
  | .int k => match op with
    | .add | .sub | .mul | .and | .or | .xor | .andNot => some (.int k)
    | .quo | .rem => if divisor b then some (.int k) else none
    | .eql | .neq | .lss | .leq | .gtr | .geq => some .bool
    | _ => none
  | .float => match op with
    | .eql | .neq | .lss | .leq | .gtr | .geq => some .bool
    | _ => none
  | .str => match op with
    | .eql | .neq | .lss | .leq | .gtr | .geq => some .bool
    | _ => none
  | .bool => match op with
    | .eql | .neq => some .bool
    | _ => none
  | .opq => none
  | .slc => none

def andE (e r : E) : E :=
  match e with
  | .lit (.bool true) => r
  | .lit (.bool false) => .lit (.bool false)
  | e => match r with
    | .lit (.bool true) => e
    | r => .ite e r (.lit (.bool false))

/-- '==' of two expressions of a sort. -/
def eqE (s : Srt) (a b : E) : E :=
  match s with
  | .float => mkBin .eql a b
  | _ => if E.eq a b then .lit (.bool true) else mkBin .eql a b

def neqE (s : Srt) (a b : E) : E :=
  match s with
  | .float => mkBin .neq a b
  | _ => if E.eq a b then .lit (.bool false) else mkBin .neq a b

/-- An operation of two expressions of a sort. -/
def mkOp (s : Srt) (op : BinOp) (a b : E) : E :=
  match op with
  | .eql => eqE s a b
  | .neq => neqE s a b
  | op => mkBin op a b

/-- All pairs of cells are equal: as an expression; cells of the given sorts. -/
def eqCells : List Srt → List Cell → List Cell → Option E
  | [], [], [] => some (.lit (.bool true))
  | q :: ss, .s t a :: l, .s u b :: m =>
    if t.eq q && u.eq q then
      match binSort .eql q b with
      | some _ => match eqCells ss l m with
        | some r => some (andE (eqE q a b) r)
        | none => none
      | none => none
    else none
  | _, _, _ => none

/-- What is known of a condition. -/
def known (facts : List (E × Bool)) (c : E) : Option Bool :=
  match facts with
  | [] => none
  | (e, b) :: l => if e.eq c then some b else known l c

def intLit : E → Bool
  | .lit (.int _ _) => true
  | _ => false

def flipN (x : E × Bool) : E × Bool := (x.1, !x.2)

/-- 'a == b': where one is a boolean written out: the other, or its opposite. -/
def eqN (na nb : E × Bool) (a b : E) : E × Bool :=
  match a with
  | .lit (.bool t) => cond t nb (flipN nb)
  | a => match b with
    | .lit (.bool t) => cond t na (flipN na)
    | b => (.bin .eql a b, false)

/-- A condition's plain form; and: is it the opposite? -/
def norm : E → E × Bool
  | .not a => flipN (norm a)
  | .bin op a b => match op with
    | .eql => eqN (norm a) (norm b) a b
    | .neq => flipN (eqN (norm a) (norm b) a b)
    | .gtr => if intLit a || intLit b then (.bin .lss b a, false) else (.bin .gtr a b, false)
    | .leq => if intLit a || intLit b then (.bin .lss b a, true) else (.bin .leq a b, false)
    | .geq => if intLit a || intLit b then (.bin .lss a b, true) else (.bin .geq a b, false)
    | op => (.bin op a b, false)
  | e => (e, false)

def isTrueLit : E → Bool
  | .lit (.bool true) => true
  | _ => false

/-- What an implication that holds says of a plain condition: 'if a then d', written as '.ite a d true'; 'H': which conditions hold. -/
def concH (H : E → Bool) (c : E) : E → Option Bool
  | .ite a d r => match concH H c d with
    | some b => if isTrueLit r && H a then some b else none
    | none => none
  | .not d => if d.eq c then some false else none
  | d => if d.eq c then some true else none

def byImpH (H : E → Bool) (c : E) : List (E × Bool) → Option Bool
  | [] => none
  | (e, b) :: l => match e with
    | .ite a d r => match (match b with | true => concH H c (.ite a d r) | false => none) with
      | some x => some x
      | none => byImpH H c l
    | _ => byImpH H c l

/-- Does a condition stand among what is known? -/
def holdsK (facts : List (E × Bool)) (c : E) : Bool :=
  match norm c with
  | (e, p) => match known facts e with
    | some b => cond p (!b) b
    | none => false

/-- What is known of a condition, or follows at once. -/
def knownK (facts : List (E × Bool)) (c : E) : Option Bool :=
  match known facts c with
  | some b => some b
  | none => byImpH (holdsK facts) c facts

/-- What a table comes to, as far as its conditions are known. -/
def tableV (facts : List (E × Bool)) (e : E) : Option Value :=
  match e with
  | .lit (.int k n) => some (.int k n)
  | .ite c a b => match knownK facts c with
    | some true => tableV facts a
    | some false => tableV facts b
    | none => none
  | _ => none

/-- The integer that an expression is known to be: equal to a literal, or to a table of literals. -/
def knownIn (all : List (E × Bool)) (facts : List (E × Bool)) (a : E) : Option Value :=
  match facts with
  | [] => none
  | (e, b) :: l => match e with
    | .bin op x y => if b && opEq op .eql && x.eq a then match tableV all y with
        | some v => some v
        | none => knownIn all l a
      else knownIn all l a
    | _ => knownIn all l a

def knownInt (facts : List (E × Bool)) (a : E) : Option Value := knownIn facts facts a

def isBool : Option Value → Option Bool
  | some (.bool b) => some b
  | _ => none

/-- What an expression is known to come to. -/
def knownV (facts : List (E × Bool)) (e : E) : Option Value :=
  E.rec (motive := fun _ => Option Value)
    (fun v => some v)
    (fun i => knownInt facts (.var i))
    (fun op a b iha ihb => Option.rec (motive := fun _ => Option Value)
      (Option.rec (motive := fun _ => Option Value) none (fun x => Option.rec (motive := fun _ => Option Value) none (fun y => binV op x y) ihb) iha)
      (fun v => some v) (knownInt facts (.bin op a b)))
    (fun _ _ => none)
    (fun _ _ _ _ _ _ => none)
    (fun k a iha => Option.rec (motive := fun _ => Option Value) (Option.rec (motive := fun _ => Option Value) none (fun x => convV k x) iha) (fun v => some v) (knownInt facts (.conv k a)))
    (fun _ _ => none)
    (fun a _ => knownInt facts (.len a))
    (fun f a _ => knownInt facts (.ext f a))
    (fun _ _ _ _ => none) e

def byInt (facts : List (E × Bool)) : E → Option Bool
  | .bin op a b => isBool (knownV facts (.bin op a b))
  | _ => none

/-- Is an expression known to be equal to something? -/
def knownSelf (a : E) : List (E × Bool) → Bool
  | [] => false
  | (e, b) :: l => match e with
    | .bin op x _ => (b && opEq op .eql && x.eq a) || knownSelf a l
    | _ => knownSelf a l

/-- What is equal to something is equal to itself. -/
def bySelf (facts : List (E × Bool)) : E → Option Bool
  | .bin op a b => if opEq op .eql && a.eq b && knownSelf a facts then some true else none
  | _ => none

/-- What is known of a plain condition, implications aside. -/
def decide0 (facts : List (E × Bool)) (c : E) : Option Bool :=
  match c with
  | .lit (.bool b) => some b
  | c => match known facts c with
    | some b => some b
    | none => match byInt facts c with
      | some b => some b
      | none => bySelf facts c

/-- Is a condition known to hold, implications aside? -/
def holds0 (facts : List (E × Bool)) (c : E) : Bool :=
  match norm c with
  | (e, p) => match decide0 facts e with
    | some b => cond p (!b) b
    | none => false

def decideN (facts : List (E × Bool)) (c : E) : Option Bool :=
  match decide0 facts c with
  | some b => some b
  | none => byImpH (holds0 facts) c facts

def decideE (facts : List (E × Bool)) (c : E) : Option Bool :=
  match norm c with
  | (e, p) => match decideN facts e with
    | some b => some (cond p (!b) b)
    | none => none

def learn (st : St) (c : E) (b : Bool) : St :=
  match st with
  | ⟨tmps, ntm, heap, nh, nv, nn, facts⟩ => match norm c with
    | (e, p) => ⟨tmps, ntm, heap, nh, nv, nn, (e, cond p (!b) b) :: facts⟩

def isCmp : BinOp → Bool
  | .eql | .neq | .lss | .leq | .gtr | .geq => true
  | _ => false

/-- Is an expression a condition by its shape? -/
def isCond : E → Bool
  | .bin op _ _ => isCmp op
  | .not _ => true
  | _ => false

/-- Are two conditions held against each other: for the same, or for the opposite? -/
def condEq (op : BinOp) (a b : E) : Option Bool :=
  if isCond a && isCond b then
    match op with
    | .eql => some true
    | .neq => some false
    | _ => none
  else none

/-- Two ways on, by a condition. -/
def forkE : E → St → (St → Tree) → (St → Tree) → Tree
  | .not a, st, t, f => forkE a st f t
  | .ite c a b, st, t, f => forkE c st (fun st => forkE a st t f) (fun st => forkE b st t f)
  | .bin op a b, st, t, f => match condEq op a b with
    | some true => forkE a st (fun st => forkE b st t f) (fun st => forkE b st f t)
    | some false => forkE a st (fun st => forkE b st f t) (fun st => forkE b st t f)
    | none => match decideE st.facts (.bin op a b) with
      | some true => t st
      | some false => f st
      | none => .fork (.bin op a b) (t (learn st (.bin op a b) true)) (f (learn st (.bin op a b) false))
  | c, st, t, f => match decideE st.facts c with
    | some true => t st
    | some false => f st
    | none => .fork c (t (learn st c true)) (f (learn st c false))

/-! ### Memory -/

def getCells (l : List Cell) (off n : Nat) : Option (List Cell) :=
  takeL n (dropL off l)

def putCells (l : List Cell) (off : Nat) (new : List Cell) : Option (List Cell) :=
  putL off new l

def loadA (h : T Blk) (id off n : Nat) : Option (List Cell) :=
  match h.get id with
  | some b => getCells b.cells off n
  | none => none

def storeA (h : T Blk) (id off : Nat) (new : List Cell) : Option (T Blk) :=
  match h.get id with
  | some b => match Nat.beq b.esz 0 with
    | true => none
    | false => match putCells b.cells off new with
      | some l => some (h.put id (some ⟨l, b.tot, b.esz⟩))
      | none => none
  | none => none

/-- A new block: its number is the next. -/
def newA (st : St) (b : Blk) : Option St :=
  match st with
  | ⟨tmps, ntm, heap, nh, nv, nn, facts⟩ => if Nat.ble nh room then some ⟨tmps, ntm, heap.put nh (some b), Nat.add nh 1, nv, nn, facts⟩ else none

def setHeap (st : St) (h : T Blk) : St :=
  match st with
  | ⟨tmps, ntm, _, nh, nv, nn, facts⟩ => ⟨tmps, ntm, h, nh, nv, nn, facts⟩

def setTmp (st : St) (d : Option Nat) (v : AV) : Option St :=
  match d with
  | none => some st
  | some d => match st with
    | ⟨tmps, ntm, heap, nh, nv, nn, facts⟩ => if Nat.ble (Nat.add d 1) ntm && Nat.ble d room then some ⟨tmps.put d (some v), ntm, heap, nh, nv, nn, facts⟩ else none

/-! ### Parts -/

/-- As the model's 'fill': parts into cells, each at its place. -/
def fillA (place : Nat → Option (Nat × Nat)) (cells : List Cell) : List (Nat × AV) → Option (List Cell)
  | [] => some cells
  | (i, v) :: rest =>
    match place i with
    | some p => match v.cells with
      | some cs => if Nat.beq (lenL cs) p.2 then
          match putCells cells p.1 cs with
          | some l => fillA place l rest
          | none => none
        else none
      | none => none
    | none => none

def partsA (tmps : T AV) : List (Nat × Operand) → Option (List (Nat × AV))
  | [] => some []
  | (i, x) :: l => match evalA tmps x with
    | some v => match partsA tmps l with
      | some r => some ((i, v) :: r)
      | none => none
    | none => none

def placeOf (fs : List (Nat × Nat × Nat)) (i : Nat) : Option (Nat × Nat) :=
  match nth fs i with
  | some f => some (f.1, f.2.1)
  | none => none

def repeatCells (z : List Cell) : Nat → List Cell
  | 0 => []
  | n + 1 => appL z (repeatCells z n)

/-- A part of an aggregate. -/
def partA (i : TI) (cs : List Cell) (off : Nat) : Option AV :=
  if i.isAgg then (getCells cs off i.size).map .agg
  else match nth cs off with
    | some c => some (.one c)
    | none => none

/-! ### Operations -/

/-- '==' on what is no scalar; none: not told here. -/
def eqlA (C : Cfg) (t : Nat) (x y : AV) : Option E :=
  match x, y with
  | .agg l, .agg m => match C.eqT t with
    | some ss => eqCells ss l m
    | none => none
  | .one c, .one d => match C.ti t with
    | some i => match i.kind with
      | .ptr => match c, d with
        | .c (.pointer none), .c (.pointer none) => some (.lit (.bool true))
        | .ptr _ _, .c (.pointer none) => some (.lit (.bool false))
        | _, _ => none
      | .slice _ => match c, d with
        | .c (.slice none _ _), .c (.slice none _ _) => some (.lit (.bool true))
        | .slice _ _ _ _, .c (.slice none _ _) => some (.lit (.bool false))
        | _, _ => none
      | _ => none
    | none => none
  | _, _ => none

def unsignedK : IntKind → Bool
  | .u8 | .u16 | .u32 | .u64 => true
  | _ => false

def isShift : BinOp → Bool
  | .shl | .shr => true
  | _ => false

/-- Is an expression's value surely not below nought, where it is of an unsigned sort? -/
def wrapped : E → Bool
  | .lit (.int _ (.ofNat _)) => true
  | .bin .add _ _ | .bin .sub _ _ | .bin .mul _ _ | .bin .and _ _ | .bin .or _ _ | .bin .xor _ _ | .bin .andNot _ _ => true
  | _ => false

def shiftA (op : BinOp) (s t : Srt) (a b : E) : Option AV :=
  match s, t with
  | .int k, .int j => if unsignedK j && wrapped b then some (.one (.s (.int k) (mkBin op a b))) else none
  | _, _ => none

/-- Do a sort and a type agree? (Asked of booleans alone.) -/
def boolFits (C : Cfg) (ty : Nat) : Srt → Bool
  | .bool => match C.ti ty with
    | some i => match i.kind with
      | .bool => true
      | _ => false
    | none => false
  | _ => true

def scalA (C : Cfg) (op : BinOp) (ty : Nat) (s t : Srt) (a b : E) : Option AV :=
  if s.eq t && boolFits C ty s then
    match binSort op s b with
    | some r => some (.one (.s r (mkOp s op a b)))
    | none => none
  else none

def binA (C : Cfg) (op : BinOp) (t : Nat) (x y : AV) : Option AV :=
  match x, y with
  | .one (.s sx a), .one (.s sy b) => if isShift op then shiftA op sx sy a b else scalA C op t sx sy a b
  | x, y =>
    match op with
    | .eql => match eqlA C t x y with
      | some e => some (.one (.s .bool e))
      | none => none
    | .neq => match eqlA C t x y with
      | some e => some (.one (.s .bool (mkNot e)))
      | none => none
    | _ => none

def lenA (k : TK) : AV → Option AV
  | .one (.slice _ _ n _) => match k with
    | .slice _ => some (.one (.s (.int .i64) (.lit (.int .i64 (.ofNat n)))))
    | _ => none
  | .one (.c (.slice none _ _)) => match k with
    | .slice _ => some (.one (.s (.int .i64) (.lit (.int .i64 (.ofNat 0)))))
    | _ => none
  | .one (.s .str e) => match k with
    | .str => some (.one (.s (.int .i64) (mkLen e)))
    | _ => none
  | .one (.s .slc e) => match k with
    | .slice _ => some (.one (.s (.int .i64) (.len e)))
    | _ => none
  | _ => none

def ptrsOf : List AV → Option (List (Nat × Nat))
  | [] => some []
  | .one (.ptr id off) :: l => (ptrsOf l).map ((id, off) :: ·)
  | _ :: _ => none

def pickA (c a b : AV) : Option AV :=
  match c with
  | .one (.s .bool (.lit (.bool true))) => some a
  | .one (.s .bool (.lit (.bool false))) => some b
  | .one (.s .bool e) => match a, b with
    | .one (.s t x), .one (.s u y) => if t.eq u then some (.one (.s t (.ite e x y))) else none
    | _, _ => none
  | _ => none

/-- A slice of a slice: low and high as numbers. -/
def sliceA (size : Nat) (x : AV) (low high : Option Nat) : Option AV :=
  match x with
  | .one (.slice id off len (.lit c)) =>
    let l := low.getD 0
    let h := high.getD len
    if Nat.ble l h && Nat.ble h c then some (.one (.slice id (if Nat.beq c l then off else Nat.add off (Nat.mul l size)) (Nat.sub h l) (.lit (Nat.sub c l)))) else none
  | .one (.c (.slice none l c)) => if Nat.beq (low.getD 0) 0 && Nat.beq (high.getD 0) 0 then some (.one (.c (.slice none l c))) else none
  | _ => none

/-- A part of a string that is known. -/
def sliceStr (x : AV) (low high : Option Nat) : Option AV :=
  match x with
  | .one (.s .str (.lit (.string s))) =>
    let l := low.getD 0
    let h := high.getD (lenL s.data.toList)
    if Nat.ble l h && Nat.ble h (lenL s.data.toList) then
      match takeL (Nat.sub h l) (dropL l s.data.toList) with
      | some r => some (.one (.s .str (.lit (.string ⟨r.toArray⟩))))
      | none => none
    else none
  | _ => none

def boundA (tmps : T AV) : Option Operand → Option (Option Nat)
  | none => some none
  | some x => match evalA tmps x with
    | some v => match v.num with
      | some n => some (some n)
      | none => none
    | none => none

def unA (op : UnOp) : AV → Option AV
  | .one (.s t e) => match op with
    | .not => match t with
      | .bool => some (.one (.s .bool (mkNot e)))
      | _ => none
    | .xor => match t with
      | .int k => some (.one (.s (.int k) (mkBin .xor (.lit (.int k (if k.signed then -1 else k.max))) e)))
      | _ => none
    | .neg => match t with
      | .int k => some (.one (.s (.int k) (mkBin .sub (.lit (.int k 0)) e)))
      | _ => none
    | .plus => none
  | _ => none

def convA (s d : TK) : AV → Option AV
  | .one (.s (.int k) e) => match s with
    | .int k' => if kindEq k k' then
        match d with
        | .int j => some (.one (.s (.int j) (mkConv j e)))
        | .float => some (.one (.s .float (mkToF e)))
        | _ => none
      else none
    | _ => none
  | _ => none

def fieldAddrA (i : TI) (f : Nat) : AV → Option AV
  | .one (.ptr id off) => match i.kind with
    | .struct fs => match nth fs f with
      | some fd => if Nat.beq fd.2.1 0 then none else some (.one (.ptr id (Nat.add off fd.1)))
      | none => none
    | _ => none
  | _ => none

def indexAddrA (C : Cfg) (k : TK) (n : Nat) : AV → Option AV
  | .one (.slice id off len _) => match k with
    | .slice e => match C.ti e with
      | some i => if Nat.ble (Nat.add n 1) len then some (.one (.ptr id (Nat.add off (Nat.mul n i.size)))) else none
      | none => none
    | _ => none
  | .one (.ptr id off) => match k with
    | .array len e => match C.ti e with
      | some i => if Nat.ble (Nat.add n 1) len then some (.one (.ptr id (Nat.add off (Nat.mul n i.size)))) else none
      | none => none
    | _ => none
  | _ => none

def indexA (C : Cfg) (k : TK) (n : Nat) : AV → Option AV
  | .one (.s .str (.lit (.string s))) => match k with
    | .str => match nth s.data.toList n with
      | some b => some (.one (.s (.int .u8) (.lit (.int .u8 (.ofNat b.toNat)))))
      | none => none
    | _ => none
  | .agg cs => match k with
    | .array len e => match C.ti e with
      | some i => if Nat.ble (Nat.add n 1) len then partA i cs (Nat.mul n i.size) else none
      | none => none
    | _ => none
  | _ => none

def fieldA (C : Cfg) (i : TI) (f : Nat) : AV → Option AV
  | .agg cs => match i.kind with
    | .struct fs => match nth fs f with
      | some fd => match C.ti fd.2.2 with
        | some j => partA j cs fd.1
        | none => none
      | none => none
    | _ => none
  | _ => none

def extractA (i : Nat) : AV → Option AV
  | .tup vs => match nth vs i with
    | some (true, cs) => some (.agg cs)
    | some (false, [c]) => some (.one c)
    | _ => none
  | _ => none

def nilCheckA : AV → Option AV
  | .one (.ptr id off) => some (.one (.ptr id off))
  | .one (.func f l) => some (.one (.func f l))
  | _ => none

def buildA (C : Cfg) (tmps : T AV) (t : Nat) (parts : List (Nat × Operand)) : Option AV :=
  match C.ti t with
  | some i => match i.zero with
    | some z => match partsA tmps parts with
      | some ps => match i.kind with
        | .struct fs => match fillA (placeOf fs) z ps with
          | some cs => some (.agg cs)
          | none => none
        | _ => none
      | none => none
    | none => none
  | none => none

def makeFuncA (tmps : T AV) (fn : Fn) (first caps : List Operand) : Option AV :=
  match fn with
  | .func f => match first with
    | [] => match evalsA tmps caps with
      | some l => match ptrsOf l with
        | some ps => some (.one (.func f ps))
        | none => none
      | none => none
    | _ => none
  | _ => none

/-- Operations that neither read nor turn memory. -/
def valA (C : Cfg) (tmps : T AV) : Op → Option AV
  | .move x => evalA tmps x
  | .assign x => evalA tmps x
  | .pick c a b => match evalA tmps c with
    | some c => match evalA tmps a with
      | some a => match evalA tmps b with
        | some b => pickA c a b
        | none => none
      | none => none
    | none => none
  | .build t parts => buildA C tmps t parts.toList
  | .nilCheck x => match evalA tmps x with
    | some v => nilCheckA v
    | none => none
  | .binOp op t x y _ => match evalA tmps x with
    | some a => match evalA tmps y with
      | some b => binA C op t a b
      | none => none
    | none => none
  | .unOp op _ x => match evalA tmps x with
    | some v => unA op v
    | none => none
  | .convert s d x => match evalA tmps x with
    | some v => match C.ti s with
      | some i => match C.ti d with
        | some j => convA i.kind j.kind v
        | none => none
      | none => none
    | none => none
  | .makeFunc fn first caps => makeFuncA tmps fn first.toList caps.toList
  | .slice t x lo hi mx => match mx with
    | none => match C.ti t with
      | some i => match i.kind with
        | .slice e => match C.ti e with
          | some j => match evalA tmps x with
            | some v => match boundA tmps lo with
              | some l => match boundA tmps hi with
                | some u => sliceA j.size v l u
                | none => none
              | none => none
            | none => none
          | none => none
        | .str => match evalA tmps x with
          | some v => match boundA tmps lo with
            | some l => match boundA tmps hi with
              | some u => sliceStr v l u
              | none => none
            | none => none
          | none => none
        | _ => none
      | none => none
    | some _ => none
  | .fieldAddr t x f => match evalA tmps x with
    | some v => match C.ti t with
      | some i => fieldAddrA i f v
      | none => none
    | none => none
  | .field t x f => match evalA tmps x with
    | some v => match C.ti t with
      | some i => fieldA C i f v
      | none => none
    | none => none
  | .indexAddr t x ix => match evalA tmps x with
    | some v => match evalA tmps ix with
      | some j => match j.num with
        | some n => match C.ti t with
          | some i => indexAddrA C i.kind n v
          | none => none
        | none => none
      | none => none
    | none => none
  | .index t x ix => match evalA tmps x with
    | some v => match evalA tmps ix with
      | some j => match j.num with
        | some n => match C.ti t with
          | some i => indexA C i.kind n v
          | none => none
        | none => none
      | none => none
    | none => none
  | .extract x i => match evalA tmps x with
    | some v => extractA i v
    | none => none
  | .call c => match c.callee with
    | .builtin .len => match c.args.toList with
      | [x] => match c.argTypes.toList with
        | [t] => match C.ti t with
          | some i => match evalA tmps x with
            | some v => lenA i.kind v
            | none => none
          | none => none
        | _ => none
      | _ => none
    | _ => none
  | _ => none

/-- A load. -/
def readA (C : Cfg) (h : T Blk) (t : Nat) : AV → Option AV
  | .one (.ptr id off) => match C.ti t with
    | some i => if i.isAgg then (loadA h id off i.size).map .agg
      else match h.get id with
        | some b => match nth b.cells off with
          | some c => some (.one c)
          | none => none
        | none => none
    | none => none
  | _ => none

/-- A store. -/
def writeA (C : Cfg) (h : T Blk) (t : Nat) (v : AV) : AV → Option (T Blk)
  | .one (.ptr id off) => match v.cells with
    | some cs => match C.ti t with
      | some i => if Nat.beq (lenL cs) i.size then storeA h id off cs else none
      | none => none
    | none => none
  | _ => none

/-- The cells of a new block: how many times, how many cells each; and the value. -/
def freshA (C : Cfg) (tmps : T AV) (nh : Nat) : Op → Option (AV × Blk)
  | .alloc t => match C.ti t with
    | some i => match i.zero with
      | some z => some (.one (.ptr nh 0), ⟨z, .lit (lenL z), 1⟩)
      | none => none
    | none => none
  | .box _ x => match evalA tmps x with
    | some v => match v.cells with
      | some cs => some (.one (.ptr nh 0), ⟨cs, .lit (lenL cs), 1⟩)
      | none => none
    | none => none
  | .buildSlice t len parts => match C.ti t with
    | some i => match i.kind with
      | .slice e => match C.ti e with
        | some j => match j.zero with
          | some z => match partsA tmps parts.toList with
            | some ps =>
              if Nat.ble (Nat.mul len j.size) 16777216 && Nat.beq (lenL z) j.size && !Nat.beq j.size 0 then
                match fillA (fun i => some (Nat.mul i j.size, j.size)) (repeatCells z len) ps with
                | some cs => some (.one (.slice nh 0 len (.lit len)), ⟨cs, .lit len, j.size⟩)
                | none => none
              else none
            | none => none
          | none => none
        | none => none
      | _ => none
    | none => none
  | _ => none

/-- An operation that neither forks nor calls: its value, and the state behind it (its slot not yet written). -/
def opD (C : Cfg) (st : St) (op : Op) : Option (AV × St) :=
  match op with
  | .load t x => match evalA st.tmps x with
    | some v => match readA C st.heap t v with
      | some r => some (r, st)
      | none => none
    | none => none
  | .store t x y => match evalA st.tmps x with
    | some v => match evalA st.tmps y with
      | some u => match writeA C st.heap t u v with
        | some h => some (.undef, setHeap st h)
        | none => none
      | none => none
    | none => none
  | .alloc t => match freshA C st.tmps st.nh (.alloc t) with
    | some (v, b) => match newA st b with
      | some st' => some (v, st')
      | none => none
    | none => none
  | .box t x => match freshA C st.tmps st.nh (.box t x) with
    | some (v, b) => match newA st b with
      | some st' => some (v, st')
      | none => none
    | none => none
  | .buildSlice t len ps => match freshA C st.tmps st.nh (.buildSlice t len ps) with
    | some (v, b) => match newA st b with
      | some st' => some (v, st')
      | none => none
    | none => none
  | op => match valA C st.tmps op with
    | some v => some (v, st)
    | none => none

/-- What append comes to: the same slice; the same block, one behind it written; a new block out of cells (the old one dead, if the room was not known). -/
inductive App
  | same (v : AV)
  | inPlace (v : AV) (h : T Blk)
  | grow (need esz : Nat) (cells : List Cell) (h : T Blk)

def srcCells (h : T Blk) (esz : Nat) : AV → Option (List Cell)
  | .one (.c (.slice none _ _)) => some []
  | .one (.slice id off len _) => loadA h id off (Nat.mul len esz)
  | _ => none

/-- How many cells are appended at most. -/
def most : Nat := 1048576

def appendTo (h : T Blk) (esz : Nat) (n : Nat) (new : List Cell) : AV → Option App
  | .one (.c (.slice none _ _)) => if Nat.ble n most then some (.grow n esz new h) else none
  | .one (.slice id off len cap) => match cap with
    | .lit c =>
      if Nat.ble (Nat.add len n) c then
        match storeA h id (Nat.add off (Nat.mul len esz)) new with
        | some h' => some (.inPlace (.one (.slice id off (Nat.add len n) (.lit c))) h')
        | none => none
      else if Nat.ble (Nat.add len n) most then
        match loadA h id off (Nat.mul len esz) with
        | some old => some (.grow (Nat.add len n) esz (appL old new) h)
        | none => none
      else none
    | .var i =>
      match h.get id with
      | some b => match b.tot with
        | .var j =>
          if Nat.beq off 0 && Nat.beq i j && Nat.beq b.esz esz && Nat.beq (lenL b.cells) (Nat.mul len esz) && Nat.ble (Nat.add len n) most then some (.grow (Nat.add len n) esz (appL b.cells new) (h.put id none)) else none
        | .lit _ => none
      | none => none
  | _ => none

def lenOfAV : AV → Option Nat
  | .one (.c (.slice none _ _)) => some 0
  | .one (.slice _ _ len _) => some len
  | _ => none

def sameA (x : AV) : Option App :=
  match lenOfAV x with
  | some _ => some (.same x)
  | none => none

def appendA (C : Cfg) (h : T Blk) (t : Nat) (x y : AV) : Option App :=
  match C.ti t with
  | some i => match i.kind with
    | .slice e => match C.ti e with
      | some j => match srcCells h j.size y with
        | some new => match lenOfAV y with
          | some n => match j.zero with
            | some z => if Nat.beq j.size 0 || Nat.ble 1048576 j.bytes || !Nat.beq (lenL z) j.size then none else
              if Nat.beq n 0 then sameA x else appendTo h j.size n new x
            | none => none
          | none => none
        | none => none
      | none => none
    | _ => none
  | none => none

end Go.SX
