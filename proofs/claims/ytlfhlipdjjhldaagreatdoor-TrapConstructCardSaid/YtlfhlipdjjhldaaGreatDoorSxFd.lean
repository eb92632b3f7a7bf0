/- A symbolic executor for the model's code: functions of scalars as expressions, and contracts made of them: the words. Conditions: none; nothing is proved here of any program. -/
import Derived.Test.YtlfhlipdjjhldaaGreatDoorSxC
noncomputable section
namespace Go.SX

/-- Cells that are the variables from 'i' on. -/
def varsFrom : Nat → List Srt → List Cell
  | _, [] => []
  | i, s :: ss => .s s (.var i) :: varsFrom (Nat.add i 1) ss

/-- Arguments: of each, is it an aggregate, and its cells' sorts. -/
def argsFrom : Nat → List (Bool × List Srt) → List AV
  | _, [] => []
  | i, (true, ss) :: l => .agg (varsFrom i ss) :: argsFrom (Nat.add i (lenL ss)) l
  | i, (false, s :: _) :: l => .one (.s s (.var i)) :: argsFrom (Nat.add i 1) l
  | i, (false, []) :: l => .undef :: argsFrom i l

/-- A tree whose leaves are scalars of a sort, as one expression. -/
def toE (s : Srt) : Tree → Option E
  | .leaf _ (.one (.s t e)) => if t.eq s then some e else none
  | .fork c a b => match toE s a with
    | some x => match toE s b with
      | some y => some (.ite c x y)
      | none => none
    | none => none
  | .spec _ _ t => toE s t
  | _ => none

/-- Values in one. -/
def packV : List Value → Value
  | [] => .bool true
  | v :: l => .tuple #[v, packV l]

def unpackV : Nat → Value → List Value
  | n + 1, .tuple a => match a.toList with
    | [x, y] => x :: unpackV n y
    | _ => []
  | _, _ => []

def litsOf : List E → Option (List Value)
  | [] => some []
  | .lit v :: l => match litsOf l with
    | some r => some (v :: r)
    | none => none
  | _ :: _ => none

def pairs : List E → E
  | [] => .lit (.bool true)
  | e :: l => .pair e (pairs l)

def pack (l : List E) : E :=
  match litsOf l with
  | some vs => .lit (packV vs)
  | none => pairs l

def cellsE : List Srt → List Cell → Option (List E)
  | [], [] => some []
  | s :: ss, .s t e :: l => if t.eq s then match cellsE ss l with
      | some r => some (e :: r)
      | none => none
    else none
  | _, _ => none

/-- The expressions of arguments of given shapes. -/
def exprsOf : List (Bool × List Srt) → List AV → Option (List E)
  | [], [] => some []
  | p :: ps, a :: l => match exprsOf ps l with
    | some r => match p with
      | (true, ss) => match a with
        | .agg cs => match cellsE ss cs with
          | some es => some (appL es r)
          | none => none
        | _ => none
      | (false, ss) => match a with
        | .one c => match cellsE ss [c] with
          | some es => some (appL es r)
          | none => none
        | _ => none
    | none => none
  | _, _ => none

/-- How many cells arguments have. -/
def cellsIn : List (Bool × List Srt) → Nat
  | [] => 0
  | p :: l => Nat.add (lenL p.2) (cellsIn l)

/-- A function of scalars: its number, its arguments' shapes, its value's sort, its value; which arguments it is taken at. -/
structure PFn where
  f : Nat
  ps : List (Bool × List Srt)
  s : Srt
  val : List Value → Option Value
  ok : List E → Bool := fun _ => true

def boolOf (e : E) : Option Bool :=
  match e with
  | .lit (.bool b) => some b
  | _ => none

/-- 'if c then a else b' of booleans. -/
def mkIte (c a b : E) : E :=
  match boolOf a, boolOf b with
  | some true, some true => .lit (.bool true)
  | some true, some false => c
  | some false, some false => .lit (.bool false)
  | _, _ => .ite c a b

/-- The first one that is chosen by a condition: the condition, and both ways. -/
def splitIte : List E → Option (E × List E × List E)
  | [] => none
  | e :: l => match e with
    | .ite c x y => some (c, x :: l, y :: l)
    | e => match splitIte l with
      | some (c, p, q) => some (c, e :: p, e :: q)
      | none => none

/-- A function's value as an expression: a choice among arguments becomes one among values, where these are known. -/
def appE (X : Ext) (f : Nat) (es : List E) : E :=
  match splitIte es with
  | some (c, p, q) => match litsOf p, litsOf q with
    | some _, some _ => mkIte c (mkExt X f (pack p)) (mkExt X f (pack q))
    | _, _ => mkExt X f (pack es)
  | none => mkExt X f (pack es)

def XF (X : Ext) : List PFn → Ext
  | [] => X
  | F :: l => fun f v => cond (Nat.beq f F.f) (F.val (unpackV (cellsIn F.ps) v)) (XF X l f v)

def PFn.con (Xf : Ext) (F : PFn) : Con where
  n := 0
  res := fun _ args => match exprsOf F.ps args with
    | some es => .one (.s F.s (appE Xf F.f es))
    | none => .undef
  takes := fun args => match exprsOf F.ps args with
    | some es => F.ok es
    | none => false

def ctOf : List (Nat × Con) → Nat → Option Con
  | [], _ => none
  | c :: l, f => cond (Nat.beq f c.1) (some c.2) (ctOf l f)

def conOf (Xf : Ext) : List PFn → List (Nat × Con) → Nat → Option Con
  | [], cts, f => ctOf cts f
  | F :: l, cts, f => cond (Nat.beq f F.f) (some (F.con Xf)) (conOf Xf l cts f)

/-! ### Ways through an expression -/

def learnF (fs : List (E × Bool)) (c : E) (b : Bool) : List (E × Bool) :=
  match norm c with
  | (e, p) => (e, cond p (!b) b) :: fs

/-- All ways through a condition. -/
def pathsB : E → List (E × Bool) → (Bool → List (E × Bool) → Bool) → Bool
  | .not a, fs, k => pathsB a fs fun b fs => k (!b) fs
  | .ite c a b, fs, k => pathsB c fs fun x fs => cond x (pathsB a fs k) (pathsB b fs k)
  | e, fs, k => match decideE fs e with
    | some b => k b fs
    | none => k true (learnF fs e true) && k false (learnF fs e false)

/-- All ways through an expression. -/
def pathsV : E → List (E × Bool) → (E → List (E × Bool) → Bool) → Bool
  | .ite c a b, fs, k => pathsB c fs fun x fs => cond x (pathsV a fs k) (pathsV b fs k)
  | e, fs, k => k e fs

/-- Where an integer comes to 'n', some conditions are known. -/
def goalsK (n : Int) (goals : List (E × Bool)) (e : E) (fs : List (E × Bool)) : Bool :=
  match e with
  | .lit (.int _ m) => if intEq m n then goals.all fun g => match decideE fs g.1 with
      | some b => boolEq b g.2
      | none => false
    else true
  | _ => false

/-! ### The same variables twice -/

def E.twice (m : Nat) : E → E
  | .lit v => .lit v
  | .var i => .var (cond (Nat.blt i m) i (Nat.sub i m))
  | .bin op a b => .bin op (a.twice m) (b.twice m)
  | .not a => .not (a.twice m)
  | .ite c a b => .ite (c.twice m) (a.twice m) (b.twice m)
  | .conv k a => .conv k (a.twice m)
  | .toF a => .toF (a.twice m)
  | .len a => .len (a.twice m)
  | .ext f a => .ext f (a.twice m)
  | .pair a b => .pair (a.twice m) (b.twice m)

end Go.SX
