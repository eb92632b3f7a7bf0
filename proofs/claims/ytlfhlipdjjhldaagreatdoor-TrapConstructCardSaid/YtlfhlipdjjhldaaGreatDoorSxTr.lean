/- The Trap laws: the functions that are taken as expressions, and the configurations, for any program. Conditions: none; nothing is proved here of any program. -/
import Derived.Test.YtlfhlipdjjhldaaGreatDoorSxFd
noncomputable section
namespace Go.SX.Tr

def vS : List Srt := [.int .u8, .float, .str, .int .i64]
def kS : List Srt := [.str, .int .i64]
def dS : List Srt := [.int .u8, .int .u8, .float, .str, .int .i64, .int .u8, .float, .str, .int .i64, .int .u8, .float, .str, .int .i64, .bool, .bool, .bool]
def valP : Bool × List Srt := (true, vS)
def keyP : Bool × List Srt := (true, kS)
def descP : Bool × List Srt := (true, dS)
def boolP : Bool × List Srt := (false, [.bool])
def slcP : Bool × List Srt := (false, [.slc])
def floatP : Bool × List Srt := (false, [.float])

/-- The struct types that are held against each other cell by cell. -/
def eqT : Nat → Option (List Srt) := fun t => cond (Nat.beq t 24) (some vS) (cond (Nat.beq t 32) (some kS) (cond (Nat.beq t 26) (some dS) none))

def ext : Nat → Option (Srt × Srt × Bool) := fun f =>
  cond (Nat.beq f 125) (some (Srt.float, Srt.int .u64, true)) (cond (Nat.beq f 124) (some (Srt.int .u64, Srt.float, true)) (cond (Nat.beq f 122) (some (Srt.float, Srt.float, false)) none))

def base (P : Program) (X : Ext) (fns : List PFn) (cts : List (Nat × Con)) : Cfg where
  P := P
  X := XF X fns
  eqT := eqT
  fns := fun _ => true
  ext := ext
  con := conOf (XF X fns) fns cts

def treeOf (C : Cfg) (f : Nat) (ps : List (Bool × List Srt)) : Tree := runF C 1000000 f (argsFrom 0 ps) (St.start .e 0 (cellsIn ps) 0 [])

def fnOf (C : Cfg) (f : Nat) (ps : List (Bool × List Srt)) (s : Srt) : PFn :=
  let e := toE s (treeOf C f ps)
  ⟨f, ps, s, fun us => match e with
    | some e => e.den C.X us
    | none => none, fun _ => true⟩

def C0 (P : Program) (X : Ext) : Cfg := base P X [] []
/-- num.May -/
def f60 (P : Program) (X : Ext) : PFn := fnOf (C0 P X) 60 [floatP] .bool
/-- key.Check -/
def f37 (P : Program) (X : Ext) : PFn := fnOf (C0 P X) 37 [keyP] (.int .i64)
/-- value.IsObject -/
def f51 (P : Program) (X : Ext) : PFn := fnOf (C0 P X) 51 [valP] .bool
/-- value.Truth -/
def f35 (P : Program) (X : Ext) : PFn := fnOf (C0 P X) 35 [valP] .bool
def C1 (P : Program) (X : Ext) : Cfg := base P X [f60 P X] []
/-- value.Same -/
def f33 (P : Program) (X : Ext) : PFn := fnOf (C1 P X) 33 [valP, valP] .bool
/-- value.May -/
def f30 (P : Program) (X : Ext) : PFn := fnOf (C1 P X) 30 [valP] .bool
def C2 (P : Program) (X : Ext) : Cfg := base P X [f30 P X, f60 P X] []
/-- desc.called -/
def f64 (P : Program) (X : Ext) : PFn := fnOf (C2 P X) 64 [valP] .bool
def C2' (P : Program) (X : Ext) : Cfg := base P X [f30 P X, f64 P X, f60 P X] []
/-- desc.Check -/
def f38 (P : Program) (X : Ext) : PFn := fnOf (C2' P X) 38 [descP] (.int .i64)

def C2s (P : Program) (X : Ext) : Cfg := base P X [f33 P X, f60 P X] []
/-- desc.may -/
def f67 (P : Program) (X : Ext) : PFn := fnOf (C2s P X) 67 [descP, descP] .bool

def fns (P : Program) (X : Ext) : List PFn := [f30 P X, f33 P X, f35 P X, f37 P X, f38 P X, f51 P X, f60 P X, f64 P X, f67 P X]

/-- 'alive' answers true. -/
def alive : Con := ⟨0, fun _ _ => .one (.s .bool (.lit (.bool true))), fun l => match l with | [] => true | _ => false⟩
def C3 (P : Program) (X : Ext) : Cfg := base P X (fns P X) [(26, alive)]

/-- inner.Fields: some slice. -/
def fields : Con := ⟨1, fun nv _ => .one (.s .opq (.var nv)), fun l => match exprsOf [descP] l with | some _ => true | none => false⟩
/-- key.Value: some value. -/
def keyVal : Con := ⟨4, fun nv _ => .agg (varsFrom nv vS), fun l => match exprsOf [keyP] l with | some _ => true | none => false⟩
def C4 (P : Program) (X : Ext) : Cfg := base P X (fns P X) [(26, alive), (80, fields), (96, keyVal)]

/-- A boolean's number. -/
def boolNum (e : E) : E :=
  match boolOf e with
  | some true => .lit (.float .f64 4607182418800017408)
  | some false => .lit (.float .f64 0)
  | none => .ite e (.lit (.float .f64 4607182418800017408)) (.lit (.float .f64 0))
/-- value.Bool: by its argument. -/
def boolVal : Con where
  n := 0
  res := fun _ l => match l with
    | [.one (.s .bool e)] => .agg [.s (.int .u8) (.lit (.int .u8 2)), .s .float (boolNum e), .s .str (.lit (.string ⟨#[]⟩)), .s (.int .i64) (.lit (.int .i64 0))]
    | _ => .undef
  takes := fun l => match l with
    | [.one (.s .bool _)] => true
    | _ => false

/-- desc.Check, where what it has is a variable, or everything is known; else it is entered. -/
def f38' (P : Program) (X : Ext) : PFn := { f38 P X with ok := fun es => match es with
  | .var _ :: _ => true
  | es => match litsOf es with
    | some _ => true
    | none => false }
/-- value.Same, where the first one's kind is not written out. -/
def kindOpen (es : List E) : Bool :=
  match es with
  | .lit _ :: _ => match litsOf es with
    | some _ => true
    | none => false
  | _ => true
def f33' (P : Program) (X : Ext) : PFn := { f33 P X with ok := kindOpen }
/-- value.IsObject, where the kind is not written out. -/
def f51' (P : Program) (X : Ext) : PFn := { f51 P X with ok := kindOpen }
/-- value.Calls -/
def f72 (P : Program) (X : Ext) : PFn := fnOf (C2 P X) 72 [valP] .bool
def fnsG (P : Program) (X : Ext) : List PFn := [f30 P X, f33' P X, f35 P X, f37 P X, f38' P X, f51' P X, f60 P X, f64 P X, f72 P X]
def C5 (P : Program) (X : Ext) : Cfg := base P X (fnsG P X) [(26, alive), (96, keyVal), (126, boolVal)]

/-! ### What always holds -/

def imp (a d : E) : E := .ite a d (.lit (.bool true))

/-- So many variables, from 'i' on. -/
def varsE : Nat → Nat → List E
  | _, 0 => []
  | i, n + 1 => .var i :: varsE (Nat.add i 1) n

def mayE (i : Nat) : E := .ext 30 (pack (varsE i 4))
def selfE (i : Nat) : E := .ext 33 (pack (appL (varsE i 4) (varsE i 4)))
def okE (i : Nat) : E := .bin .eql (.ext 38 (pack (varsE i 16))) (.lit (.int .i64 0))

/-- Of a value: one that may be is the same as itself. -/
def valueFacts (i : Nat) : List E := [imp (mayE i) (selfE i)]

/-- Of a descriptor that may be: its values may be; an accessor's is not writable. -/
def descFacts (i : Nat) : List E :=
  [imp (okE i) (mayE (Nat.add i 1)), imp (okE i) (selfE (Nat.add i 1)), imp (okE i) (mayE (Nat.add i 5)), imp (okE i) (selfE (Nat.add i 5)), imp (okE i) (mayE (Nat.add i 9)), imp (okE i) (selfE (Nat.add i 9)),
   imp (okE i) (imp (.bin .eql (.var i) (.lit (.int .u8 60))) (.not (.var (Nat.add i 13))))]

inductive Sh | val | desc | key | bool | slc

def Sh.ps : Sh → Bool × List Srt
  | .val => valP
  | .desc => descP
  | .key => keyP
  | .bool => boolP
  | .slc => slcP

def psOf : List Sh → List (Bool × List Srt)
  | [] => []
  | h :: l => h.ps :: psOf l

def factsFrom : Nat → List Sh → List E
  | _, [] => []
  | i, .val :: l => appL (valueFacts i) (factsFrom (Nat.add i 4) l)
  | i, .desc :: l => appL (descFacts i) (factsFrom (Nat.add i 16) l)
  | i, .key :: l => factsFrom (Nat.add i 2) l
  | i, .bool :: l => factsFrom (Nat.add i 1) l
  | i, .slc :: l => factsFrom (Nat.add i 1) l

def trues : List E → List (E × Bool)
  | [] => []
  | e :: l => (e, true) :: trues l

/-! ### TrapGetOwnProperty: the descriptor told, by what it has -/

def hasBit (n m : Nat) : Bool := !Nat.beq (Nat.mod (Nat.div n m) 2) 0

/-- A value's cells: variables, or nothing but its number (which is nought). -/
def valC (is : Bool) (i : Nat) : List Cell :=
  cond is (varsFrom i vS) [.s (.int .u8) (.lit (.int .u8 0)), .s .float (.var (Nat.add i 1)), .s .str (.lit (.string ⟨#[]⟩)), .s (.int .i64) (.lit (.int .i64 0))]
def boolC (is : Bool) (i : Nat) : Cell := .s .bool (cond is (.var i) (.lit (.bool false)))

/-- A descriptor's cells, that has just 'n'. -/
def descC (n i : Nat) : List Cell :=
  .s (.int .u8) (.lit (.int .u8 (Int.ofNat n))) :: appL (valC (hasBit n 1) (Nat.add i 1)) (appL (valC (hasBit n 4) (Nat.add i 5)) (appL (valC (hasBit n 8) (Nat.add i 9))
    [boolC (hasBit n 2) (Nat.add i 13), boolC (hasBit n 16) (Nat.add i 14), boolC (hasBit n 32) (Nat.add i 15)]))

def numZ (i : Nat) : E := .bin .eql (.var i) (.lit (.float .f64 0))
def calledE (i : Nat) : E := .ext 64 (pack (varsE i 4))
def callsE (i : Nat) : E := .ext 72 (pack (varsE i 4))
def kindZ (i : Nat) : E := .bin .eql (.var i) (.lit (.int .u8 0))
def callFacts (i : Nat) : List E := [imp (calledE i) (mayE i), imp (calledE i) (selfE i), imp (calledE i) (imp (.not (kindZ i)) (callsE i))]

/-- What is known of it, its cells being the variables 3 to 18; of what there is, these being 21 to 36. -/
def ownFacts (n : Nat) : List E :=
  appL (cond (hasBit n 1) (valueFacts 4) [numZ 5]) (appL (cond (hasBit n 4) (callFacts 8) [numZ 9]) (appL (cond (hasBit n 8) (callFacts 12) [numZ 13]) (descFacts 21)))

def ownArgs (n : Nat) : List AV :=
  [.agg (varsFrom 0 kS), .one (.s .bool (.lit (.bool true))), .agg (descC n 3), .one (.s .bool (.var 19)), .one (.s .bool (.var 20)), .agg (varsFrom 21 dS)]

/-- A law's tree. -/
def law (C : Cfg) (f : Nat) (l : List Sh) (more : List (E × Bool)) : Tree := runF C 1000000 f (argsFrom 0 (psOf l)) (St.start .e 0 (cellsIn (psOf l)) 0 (appL more (trues (factsFrom 0 l))))

/-! ### TrapCall, TrapConstruct: so many arguments -/

/-- So many values, the variables from 'i' on. -/
def valsC : Nat → Nat → List Cell
  | _, 0 => []
  | i, n + 1 => appL (varsFrom i vS) (valsC (Nat.add i 4) n)

/-- A memory of one block that is only read: so many values. -/
def argsHeap (i n : Nat) : T Blk := T.put .e 0 (some ⟨valsC i n, .lit 0, 0⟩)

/-- A slice of them. -/
def argsA (n : Nat) : AV := .one (.slice 0 0 n (.var 0))

/-- TrapCall: this, the arguments, the answer; then the arguments' cells. -/
def callArgs (n : Nat) : List AV := [.agg (varsFrom 0 vS), argsA n, .agg (varsFrom 4 vS)]
def callSt (n : Nat) (more : List (E × Bool)) : St := St.start (argsHeap 8 n) 1 (Nat.add 8 (Nat.mul 4 n)) 1 (appL more (trues (appL (valueFacts 0) (valueFacts 4))))

/-- TrapConstruct. -/
def makeArgs (n : Nat) : List AV := [argsA n, .agg (varsFrom 0 vS)]
def makeSt (n : Nat) (more : List (E × Bool)) : St := St.start (argsHeap 4 n) 1 (Nat.add 4 (Nat.mul 4 n)) 1 (appL more (trues (valueFacts 0)))

end Go.SX.Tr
