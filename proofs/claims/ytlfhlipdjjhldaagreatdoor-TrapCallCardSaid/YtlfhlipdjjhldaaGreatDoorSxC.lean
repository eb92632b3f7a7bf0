/- A symbolic executor for the model's code: the machine. Conditions: none; nothing is proved here of any program. -/
import Derived.Test.YtlfhlipdjjhldaaGreatDoorSxB
noncomputable section
namespace Go.SX

/-! ### Are two cells the same, sign by sign? -/

def nilEq : Value → Value → Bool
  | .pointer none, .pointer none => true
  | .map none, .map none => true
  | .nilFunc, .nilFunc => true
  | .nilIface, .nilIface => true
  | .slice none a b, .slice none c d => Nat.beq a c && Nat.beq b d
  | _, _ => false

def N.eq : N → N → Bool
  | .lit a, .lit b => Nat.beq a b
  | .var a, .var b => Nat.beq a b
  | _, _ => false

def pairsEq : List (Nat × Nat) → List (Nat × Nat) → Bool
  | [], [] => true
  | a :: l, b :: m => Nat.beq a.1 b.1 && Nat.beq a.2 b.2 && pairsEq l m
  | _, _ => false

def Cell.eq : Cell → Cell → Bool
  | .s t e, .s u f => t.eq u && e.eq f
  | .c v, .c w => nilEq v w
  | .ptr i1 o1, .ptr i2 o2 => Nat.beq i1 i2 && Nat.beq o1 o2
  | .slice i1 o1 l1 n1, .slice i2 o2 l2 n2 => Nat.beq i1 i2 && Nat.beq o1 o2 && Nat.beq l1 l2 && n1.eq n2
  | .map i1, .map i2 => Nat.beq i1 i2
  | .func f1 l1, .func f2 l2 => Nat.beq f1 f2 && pairsEq l1 l2
  | _, _ => false

def cellsEq : List Cell → List Cell → Bool
  | [], [] => true
  | a :: l, b :: m => a.eq b && cellsEq l m
  | _, _ => false

/-! ### The order of a region -/

def softG : Ground → Bool
  | .textOnly _ | .gcOnly _ => true
  | _ => false

def waitsL (i : Nat) : List Edge → Bool
  | [] => false
  | e :: l => (!softG e.ground && Nat.beq e.on i) || waitsL i l

/-- Does an operation wait for number 'i'? -/
def waits (i : Nat) (o : Oper) : Bool := waitsL i o.after.toList

def nthB (l : List Bool) (i : Nat) (d : Bool) : Bool :=
  match nth l i with
  | some b => b
  | none => d

def readyE (listed : List Bool) : List Edge → Bool
  | [] => true
  | e :: l => (softG e.ground || nthB listed e.on false) && readyE listed l

/-- The ready ones that are not listed, from number 'i' on. -/
def readyList (listed : List Bool) : List Oper → Nat → List Nat
  | [], _ => []
  | o :: l, i => if !nthB listed i true && readyE listed o.after.toList then i :: readyList listed l (Nat.add i 1) else readyList listed l (Nat.add i 1)

/-- Does an operation ask and turn nothing of the world? -/
def pureOp : Op → Bool
  | .move _ | .assign _ | .pick _ _ _ | .nilCheck _ | .unOp _ _ _ | .convert _ _ _ | .makeFunc _ _ _ | .slice _ _ _ _ _ | .fieldAddr _ _ _ | .field _ _ _ | .indexAddr _ _ _ | .index _ _ _ | .extract _ _ | .build _ _ | .binOp _ _ _ _ _ => true
  | .call c => match c.callee with
    | .builtin .len => true
    | _ => false
  | _ => false

def loadOp : Op → Bool
  | .load _ _ => true
  | _ => false

def allocOp : Op → Bool
  | .alloc _ | .box _ _ | .buildSlice _ _ _ => true
  | _ => false

def takeOp (op : Op) : Bool := pureOp op || loadOp op
def effectOp (op : Op) : Bool := !(pureOp op || loadOp op || allocOp op)

def setB (l : List Bool) (i : Nat) : List Bool :=
  match l, i with
  | [], _ => []
  | _ :: l, 0 => true :: l
  | b :: l, i + 1 => b :: setB l i

def falses : Nat → List Bool
  | 0 => []
  | n + 1 => false :: falses n

/-- The first of some numbers whose operation is of a kind. -/
def firstOf (all : List Oper) (is : Op → Bool) : List Nat → Option (Nat × Oper)
  | [] => none
  | i :: l => match nth all i with
    | some o => if is o.op then some (i, o) else firstOf all is l
    | none => firstOf all is l

def listAll (listed : List Bool) : List Nat → List Bool
  | [] => listed
  | i :: l => listAll (setB listed i) l

def onlyThis (i : Nat) : List Nat → Bool
  | [] => true
  | j :: l => Nat.beq j i && onlyThis i l

def without (i : Nat) : List Nat → List Nat
  | [] => []
  | j :: l => if Nat.beq j i then without i l else j :: without i l

def tmpsOf : List Operand → List Nat
  | [] => []
  | .tmp t :: l => t :: tmpsOf l
  | _ :: l => tmpsOf l

def slotOf (all : List Oper) (j : Nat) : Option Nat :=
  match nth all j with
  | some o => o.dst
  | none => none

/-- The temporaries that an operation reads. -/
def looksA (all : List Oper) (o : Oper) : List Nat :=
  match o.guard with
  | some (g, _) => match slotOf all g with
    | some d => d :: tmpsOf o.op.operands.toList
    | none => tmpsOf o.op.operands.toList
  | none => tmpsOf o.op.operands.toList

def memNat (x : Nat) : List Nat → Bool
  | [] => false
  | y :: l => Nat.beq x y || memNat x l

def apartA (all : List Oper) (x y : Oper) : Bool :=
  (match x.dst with
   | some d => !memNat d (looksA all y) && (match y.dst with | some e => !Nat.beq d e | none => true)
   | none => true) &&
  (match y.dst with
   | some d => !memNat d (looksA all x)
   | none => true)

/-- Is an operation apart from each one of some numbers? -/
def apartAll (all : List Oper) (x : Oper) : List Nat → Bool
  | [] => true
  | j :: l => (match nth all j with | some o => apartA all o x | none => false) && apartAll all x l

/-- Does an operation leave alone what it reads itself? -/
def selfApart (all : List Oper) (o : Oper) : Bool :=
  match o.dst with
  | some d => !memNat d (looksA all o)
  | none => true

def plainAlloc (all : List Oper) (o : Oper) : Bool := allocOp o.op && selfApart all o && (match o.guard with | none => true | some _ => false)

/-- Each of some numbers allocates, whatever the world. -/
def allocsFresh (C : Cfg) (tmps : T AV) (all : List Oper) : List Nat → Bool
  | [] => true
  | j :: l => (match nth all j with | some o => (match freshA C tmps 0 o.op with | some _ => true | none => false) | none => false) && allocsFresh C tmps all l

/-- Each of some numbers allocates, and is apart from all of them that come behind it. -/
def allocsApart (all : List Oper) : List Nat → Bool
  | [] => true
  | j :: l => (match nth all j with | some o => plainAlloc all o && apartAll all o l | none => false) && allocsApart all l

/-- May 'i' come next, whatever allocations came ahead of their turn? -/
def mayCome (all : List Oper) (listed : List Bool) (i : Nat) (o : Oper) (rest : List Nat) : Bool :=
  allocsApart all rest && apartAll all o rest && onlyThis i (readyList (listAll listed rest) all 0)

/-- Every operation that is not listed waits for 'i', or is apart from it. -/
def freeA (all : List Oper) (listed : List Bool) (i : Nat) (oi : Oper) : List Oper → Nat → Bool
  | [], _ => true
  | oj :: l, j => (Nat.beq j i || nthB listed j true || waits i oj || apartA all oi oj) && freeA all listed i oi l (Nat.add j 1)

def noSelectA : List Oper → Bool
  | [] => true
  | o :: l => (match o.op with | .select _ _ => false | _ => true) && noSelectA l

/-- What comes next in a region that draws its order. -/
inductive Nxt
  | done
  | take (i : Nat) (o : Oper)
  | eff (i : Nat) (o : Oper) (rest : List Nat)
  | alloc (i : Nat) (o : Oper) (rest : List Nat)
  | bad

def nextOf (all : List Oper) (listed : List Bool) (ready : List Nat) : Nxt :=
  match ready with
  | [] => .done
  | i :: l =>
    match firstOf all takeOp (i :: l) with
    | some (i, o) => if freeA all listed i o all 0 && noSelectA all then .take i o else .bad
    | none =>
      match firstOf all effectOp (i :: l) with
      | some (j, o) => if mayCome all listed j o (without j (i :: l)) && noSelectA all then .eff j o (without j (i :: l)) else .bad
      | none =>
        match firstOf all allocOp (i :: l) with
        | some (j, o) => if mayCome all listed j o (without j (i :: l)) && plainAlloc all o && noSelectA all then .alloc j o (without j (i :: l)) else .bad
        | none => .bad

def nextA (all : List Oper) (listed : List Bool) : Nxt := nextOf all listed (readyList listed all 0)

/-! ### The machine -/

abbrev K := XExit → St → Tree

/-- A load that was taken ahead of its turn: its number, where it read, what it read. -/
structure Held where
  i : Nat
  id : Nat
  off : Nat
  n : Nat
  cells : List Cell

inductive Job
  | code (c : Code)
  | loop (c : Code)
  | scope (c rest : Code)
  | ops (all rest : List Oper)
  | any (all : List Oper) (listed : List Bool) (held : List Held)

def forceT {α β : Type} (t : T α) (k : T α → β) : β :=
  match t with
  | .e => k .e
  | .n v a b c d => k (.n v a b c d)

def forceSt (st : St) (k : St → Tree) : Tree :=
  match st with
  | ⟨tmps, ntm, heap, nh, nv, nn, facts⟩ => forceT tmps fun tmps => forceT heap fun heap => forceN nh fun nh => k ⟨tmps, ntm, heap, nh, nv, nn, facts⟩

/-- The slot is written; then on. -/
def finish (st : St) (d : Option Nat) (v : AV) (k : St → Tree) : Tree :=
  match setTmp st d v with
  | some st' => forceSt st' k
  | none => .fail "slot"

def partOf : AV → Option (Bool × List Cell)
  | .one c => some (false, [c])
  | .agg cs => some (true, cs)
  | .tup _ => none

def resultA (C : Cfg) (st : St) : ResultVar → Option AV
  | .tmp t => some (getA st.tmps t)
  | .cell a t => readA C st.heap t (getA st.tmps a)

def resultsA (C : Cfg) (st : St) : List ResultVar → Option (List AV)
  | [] => some []
  | r :: l => match resultA C st r with
    | some v => match resultsA C st l with
      | some m => some (v :: m)
      | none => none
    | none => none

def partsOf : List AV → Option (List (Bool × List Cell))
  | [] => some []
  | v :: l => match partOf v with
    | some p => match partsOf l with
      | some m => some (p :: m)
      | none => none
    | none => none

def joinA : List AV → Option AV
  | [] => some (.tup [])
  | [v] => some v
  | v :: u :: l => match partsOf (v :: u :: l) with
    | some m => some (.tup m)
    | none => none

def returned (C : Cfg) (fn : Func) (st : St) : Option AV :=
  match resultsA C st fn.results.toList with
  | some l => joinA l
  | none => none

def boolLit (b : Bool) : AV := .one (.s .bool (.lit (.bool b)))

/-- By the guard: is the operation carried out? In each way the guard's slot holds what is known then. -/
def guardA (all : List Oper) (o : Oper) (st : St) (yes no : St → Tree) : Tree :=
  match o.guard with
  | none => yes st
  | some (j, want) =>
    match slotOf all j with
    | none => no st
    | some d =>
      match st.tmps.get d with
      | some (.one (.s .bool e)) =>
        match e with
        | .lit (.bool b) => cond (boolEq b want) (yes st) (no st)
        | e => forkE e st
          (fun st => finish st (some d) (boolLit true) fun st => if want then yes st else no st)
          (fun st => finish st (some d) (boolLit false) fun st => if want then no st else yes st)
      | some (.tup []) => no st
      | none => no st
      | _ => .fail "guard"

def fillT : List AV → Nat → T AV → T AV
  | [], _, t => t
  | v :: l, i, t => fillT l (Nat.add i 1) (t.put i (some v))

def frameOf (st : St) (args : List AV) (n : Nat) : Option St :=
  match st with
  | ⟨_, _, heap, nh, nv, nn, facts⟩ => if Nat.ble (lenL args) n && Nat.ble n room then some ⟨fillT args 0 .e, n, heap, nh, nv, nn, facts⟩ else none

/-- The frame of 'old' over the memory of 'st'. -/
def backTo (old st : St) : St :=
  match st with
  | ⟨_, _, heap, nh, nv, nn, facts⟩ => ⟨old.tmps, old.ntm, heap, nh, nv, nn, facts⟩

def moreVars (st : St) (n : Nat) : St :=
  match st with
  | ⟨tmps, ntm, heap, nh, nv, nn, facts⟩ => ⟨tmps, ntm, heap, nh, Nat.add nv n, nn, facts⟩

def bodyA (C : Cfg) (rec : Job → St → K → Tree) (fn : Func) (args : List AV) (st : St) (k : AV → St → Tree) : Tree :=
  match fn.body with
  | some c =>
    match frameOf st args fn.ntmps with
    | some st0 => forceSt st0 fun st0 => rec (.code c) st0 fun e st' =>
      match e with
      | .normal | .ret => match returned C fn st' with
        | some v => k v (backTo st st')
        | none => .fail "results"
      | _ => .fail "exit"
    | none => .fail "frame"
  | none => .fail "no body"

/-- Is an expression known to be equal to itself (no NaN)? -/
def selfEq (facts : List (E × Bool)) (e : E) : Bool :=
  match decideE facts (.bin .eql e e) with
  | some true => true
  | _ => false

def isLit : E → Bool
  | .lit _ => true
  | _ => false

/-- A function is entered: not by a contract. -/
def enterB (C : Cfg) (rec : Job → St → K → Tree) (f : Nat) (args : List AV) (st : St) (k : AV → St → Tree) : Tree :=
  match C.ext f with
  | some (s, t, total) => match args with
    | [.one (.s u e)] => if u.eq s then (if total || selfEq st.facts e || isLit (mkExt C.X f e) then forceE (mkExt C.X f e) fun e => k (.one (.s t e)) st else .fail "ext") else .fail "ext"
    | _ => .fail "ext"
  | none =>
    if C.fns f then
      match nth C.P.funcs.toList f with
      | some fn => bodyA C rec fn args st k
      | none => .fail "no function"
    else .fail "not to be entered"

/-- A function is entered. -/
def enterA (C : Cfg) (rec : Job → St → K → Tree) (f : Nat) (args : List AV) (st : St) (k : AV → St → Tree) : Tree :=
  match C.con f with
  | some c => if c.takes args then .spec f args (forceAV (c.res st.nv args) fun v => k v (moreVars st c.n)) else enterB C rec f args st k
  | none => enterB C rec f args st k

def ptrAVs : List (Nat × Nat) → List AV
  | [] => []
  | p :: l => .one (.ptr p.1 p.2) :: ptrAVs l

def callA (C : Cfg) (rec : Job → St → K → Tree) (f : Operand) (args : List Operand) (st : St) (k : AV → St → Tree) : Tree :=
  match evalA st.tmps f with
  | some (.one (.func g caps)) => match evalsA st.tmps args with
    | some l => enterA C rec g (appL l (ptrAVs caps)) st k
    | none => .fail "arguments"
  | _ => .fail "callee"

/-- A block that is appended to: how much room it has is not known. -/
def growA (st : St) (h : T Blk) (cells : List Cell) (esz : Nat) : Option St :=
  match st with
  | ⟨tmps, ntm, _, nh, nv, nn, facts⟩ => if Nat.ble nh room then some ⟨tmps, ntm, h.put nh (some ⟨cells, .var nn, esz⟩), Nat.add nh 1, nv, Nat.add nn 1, facts⟩ else none

def appendK (C : Cfg) (args : List Operand) (types : List Nat) (st : St) (k : AV → St → Tree) : Tree :=
  match evalsA st.tmps args with
  | some [x, y] => match types with
    | [t, u] => if Nat.beq t u then
      match appendA C st.heap t x y with
      | some (.same v) => k v st
      | some (.inPlace v h) => k v (setHeap st h)
      | some (.grow need esz cells h) => match growA st h cells esz with
        | some st' => .cap need (forceN need fun need => k (.one (.slice st.nh 0 need (.var st.nn))) st')
        | none => .fail "room"
      | none => .fail "append"
      else .fail "append's types"
    | _ => .fail "append's types"
  | _ => .fail "append's arguments"

/-- An operation. -/
def execA (C : Cfg) (rec : Job → St → K → Tree) (o : Oper) (st : St) (k : AV → St → Tree) : Tree :=
  let other : Tree := match opD C st o.op with
    | some (v, st') => forceAV v fun v => k v st'
    | none => .fail ("op " ++ o.pos)
  match o.op with
  | .call c => match c.callee with
    | .value f => callA C rec f c.args.toList st k
    | .builtin .append => appendK C c.args.toList c.argTypes.toList st k
    | _ => other
  | _ => other

def heldOk (h : T Blk) (o : Oper) : List Held → Bool
  | [] => true
  | x :: l => (waits x.i o || (match loadA h x.id x.off x.n with | some cs => cellsEq cs x.cells | none => false)) && heldOk h o l

/-- What a load reads: where, what. -/
def heldOf (C : Cfg) (st : St) (i : Nat) : Op → Option Held
  | .load t x => match evalA st.tmps x with
    | some (.one (.ptr id off)) => match C.ti t with
      | some ti => match loadA st.heap id off (if ti.isAgg then ti.size else 1) with
        | some cs => some ⟨i, id, off, if ti.isAgg then ti.size else 1, cs⟩
        | none => none
      | none => none
    | _ => none
  | _ => none

def forceBs (l : List Bool) : (List Bool → Tree) → Tree := forceL l

def takeA (C : Cfg) (rec : Job → St → K → Tree) (all : List Oper) (listed : List Bool) (held : List Held) (i : Nat) (o : Oper) (st : St) (k : K) : Tree :=
  guardA all o st
    (fun st => match opD C st o.op with
      | some (v, _) =>
        match loadOp o.op with
        | true => match heldOf C st i o.op with
          | some x => forceAV v fun v => finish st o.dst v fun st => forceBs (setB listed i) fun listed => rec (.any all listed (x :: held)) st k
          | none => .fail "held"
        | false => forceAV v fun v => finish st o.dst v fun st => forceBs (setB listed i) fun listed => rec (.any all listed held) st k
      | none => .fail ("op, taken first " ++ o.pos))
    (fun st => finish st o.dst .undef fun st => forceBs (setB listed i) fun listed => rec (.any all listed held) st k)

def effA (C : Cfg) (rec : Job → St → K → Tree) (all : List Oper) (listed : List Bool) (held : List Held) (i : Nat) (o : Oper) (st : St) (k : K) : Tree :=
  guardA all o st
    (fun st => execA C rec o st fun v st => finish st o.dst v fun st =>
      if heldOk st.heap o held then forceBs (setB listed i) fun listed => rec (.any all listed held) st k else .fail ("held " ++ o.pos))
    (fun st => finish st o.dst .undef fun st => forceBs (setB listed i) fun listed => rec (.any all listed held) st k)

def allocA (C : Cfg) (rec : Job → St → K → Tree) (all : List Oper) (listed : List Bool) (held : List Held) (i : Nat) (o : Oper) (st : St) (k : K) : Tree :=
  match opD C st o.op with
  | some (v, st') => forceAV v fun v => finish st' o.dst v fun st => forceBs (setB listed i) fun listed => rec (.any all listed held) st k
  | none => .fail ("op, allocation " ++ o.pos)

def anyA (C : Cfg) (rec : Job → St → K → Tree) (all : List Oper) (listed : List Bool) (held : List Held) (st : St) (k : K) : Tree :=
  match nextA all listed with
  | .done => k .normal st
  | .take i o => takeA C rec all listed held i o st k
  | .eff i o rest => if allocsFresh C st.tmps all rest then effA C rec all listed held i o st k else .fail "allocations"
  | .alloc i o rest => if allocsFresh C st.tmps all rest then allocA C rec all listed held i o st k else .fail "allocations"
  | .bad => .fail "order"

def opsA (C : Cfg) (rec : Job → St → K → Tree) (all : List Oper) (rest : List Oper) (st : St) (k : K) : Tree :=
  match rest with
  | [] => k .normal st
  | o :: rest' =>
    guardA all o st
      (fun st => execA C rec o st fun v st => finish st o.dst v fun st => rec (.ops all rest') st k)
      (fun st => finish st o.dst .undef fun st => rec (.ops all rest') st k)

def condA (rec : Job → St → K → Tree) (c : Operand) (a b : Code) (st : St) (k : K) : Tree :=
  match evalA st.tmps c with
  | some (.one (.s .bool e)) => forkE e st (fun st => rec (.code a) st k) (fun st => rec (.code b) st k)
  | _ => .fail "cond"

def seqK (rec : Job → St → K → Tree) (b : Code) (k : K) : K := fun e st =>
  match e with
  | .normal => rec (.code b) st k
  | e => k e st

def blockK (id : Nat) (k : K) : K := fun e st =>
  match e with
  | .exit id' => if Nat.beq id' id then k .normal st else k (.exit id') st
  | e => k e st

def loopK (rec : Job → St → K → Tree) (b : Code) (k : K) : K := fun e st =>
  match e with
  | .normal => rec (.loop b) st k
  | e => k e st

def scopeK (rec : Job → St → K → Tree) (b : Code) (k : K) : K := fun e st =>
  match e with
  | .goto l => match findLabel b l with
    | some rest => rec (.scope b rest) st k
    | none => .fail "goto"
  | e => k e st

def regionA (rec : Job → St → K → Tree) (ops : List Oper) (draw : Bool) (st : St) (k : K) : Tree :=
  if draw then forceBs (falses (lenL ops)) fun listed => rec (.any ops listed []) st k else rec (.ops ops ops) st k

def codeA (rec : Job → St → K → Tree) (c : Code) (st : St) (k : K) : Tree :=
  match c with
  | .skip => k .normal st
  | .label _ => k .normal st
  | .region _ ops draw => regionA rec ops.toList draw st k
  | .seq a b => rec (.code a) st (seqK rec b k)
  | .cond c a b => condA rec c a b st k
  | .block id b => rec (.code b) st (blockK id k)
  | .loop b => rec (.loop b) st k
  | .scope b => rec (.code b) st (scopeK rec b k)
  | .exit id => k (.exit id) st
  | .goto l => k (.goto l) st
  | .ret => k .ret st
  | .rangeFunc _ _ _ _ => .fail "code"
  | .refuse _ => .fail "code"

/-- One step of the machine. -/
def step (C : Cfg) (rec : Job → St → K → Tree) (j : Job) (st : St) (k : K) : Tree :=
  match j with
  | .code c => codeA rec c st k
  | .loop b => rec (.code b) st (loopK rec b k)
  | .scope b rest => rec (.code rest) st (scopeK rec b k)
  | .ops all rest => opsA C rec all rest st k
  | .any all listed held => anyA C rec all listed held st k

def run (C : Cfg) (n : Nat) : Job → St → K → Tree :=
  Nat.rec (motive := fun _ => Job → St → K → Tree) (fun _ _ _ => .fail "fuel") (fun _ ih => step C ih) n

/-- A call of a function, from a state. -/
def runF (C : Cfg) (n : Nat) (f : Nat) (args : List AV) (st : St) : Tree :=
  match nth C.P.funcs.toList f with
  | some fn => bodyA C (run C n) fn args st fun v st => .leaf st v
  | none => .fail "no function"

def St.start (heap : T Blk) (nh nv nn : Nat) (facts : List (E × Bool)) : St := ⟨.e, 0, heap, nh, nv, nn, facts⟩

end Go.SX
