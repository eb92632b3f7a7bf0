/- A symbolic executor for the model's code: the same machine in stages, made for the kernel: what an operation's text alone says is worked out once. It is equal to 'run'. Conditions: none. -/
import Derived.Test.YtlfhlipdjjhldaaGreatDoorSxW
noncomputable section
namespace Go.SX

inductive Stg (α : Type) | mk (x : α)
def Stg.un {α : Type} : Stg α → α | .mk x => x

/-! ### Operands -/

def evS (x : Operand) : Stg (T AV → Tree → (AV → Tree) → Tree) :=
  match x with
  | .tmp t => .mk fun tmps _ k => Option.rec (motive := fun _ => Tree) (k AV.undef) (fun v => k v) (getP (pathOf t) tmps)
  | .const v => match avOf v with
    | some a => .mk fun _ _ k => k a
    | none => .mk fun _ fl _ => fl
  | .global _ => .mk fun _ fl _ => fl
  | .func f => .mk fun _ _ k => k (.one (.func f []))

theorem evS_eq (x : Operand) (tmps : T AV) (fl : Tree) (k : AV → Tree) : (evS x).un tmps fl k = match evalA tmps x with
    | some v => k v
    | none => fl := by
  cases x with
  | tmp t =>
    simp only [evS, Stg.un, evalA, getA, T.get]
    cases getP (pathOf t) tmps <;> rfl
  | const v =>
    simp only [evS, evalA]
    cases avOf v <;> rfl
  | _ => rfl

/-! ### Operations -/

abbrev OpF := St → Tree → (AV → St → Tree) → Tree

/-- What 'opD' says, for what follows. -/
def opK (C : Cfg) (op : Op) (st : St) (fl : Tree) (k : AV → St → Tree) : Tree :=
  match opD C st op with
  | some (v, st') => k v st'
  | none => fl

def moveS (x : Operand) : Stg OpF :=
  match evS x with
  | .mk ex => .mk fun st fl k => ex st.tmps fl fun v => k v st

def ptrK (v : AV) (fl : Tree) (k : Nat → Nat → Tree) : Tree :=
  match v with
  | .one (.ptr id off) => k id off
  | _ => fl

def fieldAddrS (C : Cfg) (t : Nat) (x : Operand) (f : Nat) : Stg OpF :=
  match evS x with
  | .mk ex => match C.ti t with
    | none => .mk fun _ fl _ => fl
    | some i => match i.kind with
      | .struct fs => match nth fs f with
        | some fd => match Nat.beq fd.2.1 0 with
          | true => .mk fun _ fl _ => fl
          | false => .mk fun st fl k => ex st.tmps fl fun v => ptrK v fl fun id off => forceN (Nat.add off fd.1) fun n => k (.one (.ptr id n)) st
        | none => .mk fun _ fl _ => fl
      | _ => .mk fun _ fl _ => fl

def loadS (C : Cfg) (t : Nat) (x : Operand) : Stg OpF :=
  match evS x with
  | .mk ex => match C.ti t with
    | none => .mk fun _ fl _ => fl
    | some i => match i.isAgg with
      | true => .mk fun st fl k => ex st.tmps fl fun v => ptrK v fl fun id off => Option.rec (motive := fun _ => Tree) fl (fun cs => k (.agg cs) st) (loadA st.heap id off i.size)
      | false => .mk fun st fl k => ex st.tmps fl fun v => ptrK v fl fun id off => Option.rec (motive := fun _ => Tree) fl
          (fun b => Option.rec (motive := fun _ => Tree) fl (fun c => k (.one c) st) (nth b.cells off)) (st.heap.get id)

def storeS (C : Cfg) (t : Nat) (x y : Operand) : Stg OpF :=
  match evS x with
  | .mk ex => match evS y with
    | .mk ey => match C.ti t with
      | none => .mk fun _ fl _ => fl
      | some i => .mk fun st fl k => ex st.tmps fl fun v => ey st.tmps fl fun u => ptrK v fl fun id off =>
          Option.rec (motive := fun _ => Tree) fl (fun cs => Bool.rec (motive := fun _ => Tree) fl
            (Option.rec (motive := fun _ => Tree) fl (fun h => forceT h fun h => k .undef (setHeap st h)) (storeA st.heap id off cs)) (Nat.beq (lenL cs) i.size)) u.cells

def newK (st : St) (b : Blk) (fl : Tree) (k : St → Tree) : Tree :=
  match newA st b with
  | some st' => forceSt st' k
  | none => fl

def allocS (C : Cfg) (t : Nat) : Stg OpF :=
  match C.ti t with
  | none => .mk fun _ fl _ => fl
  | some i => match i.zero with
    | none => .mk fun _ fl _ => fl
    | some z => .mk fun st fl k => newK st ⟨z, .lit (lenL z), 1⟩ fl fun st' => k (.one (.ptr st.nh 0)) st'

def boxS (x : Operand) : Stg OpF :=
  match evS x with
  | .mk ex => .mk fun st fl k => ex st.tmps fl fun v => Option.rec (motive := fun _ => Tree) fl (fun cs => newK st ⟨cs, .lit (lenL cs), 1⟩ fl fun st' => k (.one (.ptr st.nh 0)) st') v.cells

def optK (r : Option AV) (fl : Tree) (k : AV → Tree) : Tree :=
  match r with
  | some v => forceAV v k
  | none => fl

def binS (C : Cfg) (op : BinOp) (t : Nat) (x y : Operand) : Stg OpF :=
  match evS x with
  | .mk ex => match evS y with
    | .mk ey => .mk fun st fl k => ex st.tmps fl fun a => ey st.tmps fl fun b => optK (binA C op t a b) fl fun r => k r st

def unS (op : UnOp) (x : Operand) : Stg OpF :=
  match evS x with
  | .mk ex => .mk fun st fl k => ex st.tmps fl fun a => optK (unA op a) fl fun r => k r st

def pickS (c a b : Operand) : Stg OpF :=
  match evS c with
  | .mk ec => match evS a with
    | .mk ea => match evS b with
      | .mk eb => .mk fun st fl k => ec st.tmps fl fun c => ea st.tmps fl fun a => eb st.tmps fl fun b => optK (pickA c a b) fl fun r => k r st

def extractS (x : Operand) (i : Nat) : Stg OpF :=
  match evS x with
  | .mk ex => .mk fun st fl k => ex st.tmps fl fun a => Option.rec (motive := fun _ => Tree) fl (fun r => k r st) (extractA i a)

def nilCheckS (x : Operand) : Stg OpF :=
  match evS x with
  | .mk ex => .mk fun st fl k => ex st.tmps fl fun a => Option.rec (motive := fun _ => Tree) fl (fun r => k r st) (nilCheckA a)

def restS (C : Cfg) (op : Op) : Stg OpF := .mk fun st fl k => match opD C st op with
  | some (v, st') => forceAV v fun v => k v st'
  | none => fl

/-- Out of forced parts: nothing is to be forced. -/
def plainS (C : Cfg) (op : Op) : Stg OpF := .mk fun st fl k => match opD C st op with
  | some (v, st') => k v st'
  | none => fl

def opS (C : Cfg) (op : Op) : Stg OpF :=
  match op with
  | .build t ps => plainS C (.build t ps)
  | .move x => moveS x
  | .assign x => moveS x
  | .fieldAddr t x f => fieldAddrS C t x f
  | .load t x => loadS C t x
  | .store t x y => storeS C t x y
  | .alloc t => allocS C t
  | .box _ x => boxS x
  | .binOp op t x y _ => binS C op t x y
  | .unOp op _ x => unS op x
  | .pick c a b => pickS c a b
  | .extract x i => extractS x i
  | .nilCheck x => nilCheckS x
  | op => restS C op

theorem optK_eq (r : Option AV) (fl : Tree) (k : AV → Tree) : optK r fl k = match r with
    | some v => k v
    | none => fl := by
  cases r <;> simp [optK, forceAV_eq]

theorem un_ev {x : Operand} {ex : T AV → Tree → (AV → Tree) → Tree} (h : evS x = .mk ex) (tmps : T AV) (fl : Tree) (k : AV → Tree) : ex tmps fl k = match evalA tmps x with
    | some v => k v
    | none => fl := by
  rw [← evS_eq, h]; rfl

theorem opS_eq (C : Cfg) (op : Op) (st : St) (fl : Tree) (k : AV → St → Tree) : (opS C op).un st fl k = opK C op st fl k := by
  have rest : ∀ op, (restS C op).un st fl k = opK C op st fl k := by
    intro op
    simp only [restS, Stg.un, opK]
    cases opD C st op with
    | none => rfl
    | some r => obtain ⟨v, st'⟩ := r; simp [forceAV_eq]
  have move : ∀ x, (moveS x).un st fl k = (match evalA st.tmps x with | some v => k v st | none => fl) := by
    intro x
    unfold moveS
    cases hx : evS x with
    | mk ex => simp only [Stg.un, un_ev hx]
  cases op with
  | build t ps => rfl
  | move x =>
    simp only [opS, move, opK, opD, valA]
    cases evalA st.tmps x <;> rfl
  | assign x =>
    simp only [opS, move, opK, opD, valA]
    cases evalA st.tmps x <;> rfl
  | fieldAddr t x f =>
    simp only [opS, fieldAddrS, opK, opD, valA]
    cases hx : evS x with
    | mk ex =>
      simp only
      cases hi : C.ti t with
      | none =>
        simp only [Stg.un]
        cases evalA st.tmps x <;> rfl
      | some i =>
        simp only
        have key : ∀ (g : AV → Option AV), (∀ v, g v = fieldAddrA i f v) → ∀ (h : OpF), (∀ st fl k, h st fl k = (match evalA st.tmps x with | some v => (match g v with | some r => k r st | none => fl) | none => fl)) →
            h st fl k = (match (match (match evalA st.tmps x with | some v => fieldAddrA i f v | none => none) with | some v => some (v, st) | none => none) with | some (v, st') => k v st' | none => fl) := by
          intro g hg h hh
          rw [hh]
          cases evalA st.tmps x with
          | none => rfl
          | some v =>
            simp only [hg]
            cases fieldAddrA i f v <;> rfl
        have none' : (fun (_ : St) (fl : Tree) (_ : AV → St → Tree) => fl) st fl k = (match (match (match evalA st.tmps x with | some _ => (none : Option AV) | none => none) with | some v => some (v, st) | none => none) with | some (v, st') => k v st' | none => fl) := by
          cases evalA st.tmps x <;> rfl
        have nofield : (∀ v, fieldAddrA i f v = none) → (fun (_ : St) (fl : Tree) (_ : AV → St → Tree) => fl) st fl k = (match (match (match evalA st.tmps x with | some v => fieldAddrA i f v | none => none) with | some v => some (v, st) | none => none) with | some (v, st') => k v st' | none => fl) := by
          intro hn
          cases evalA st.tmps x with
          | none => rfl
          | some v => simp only [hn]
        cases hk : i.kind with
        | struct fs =>
          simp only
          cases hf : nth fs f with
          | none =>
            simp only [Stg.un]
            refine nofield fun v => ?_
            unfold fieldAddrA
            split
            · simp only [hk, hf]
            · rfl
          | some fd =>
            simp only
            cases hb : Nat.beq fd.2.1 0 with
            | true =>
              simp only [Stg.un]
              refine nofield fun v => ?_
              unfold fieldAddrA
              split
              · simp only [hk, hf, hb, if_true]
              · rfl
            | false =>
              simp only [Stg.un, un_ev hx]
              cases evalA st.tmps x with
              | none => rfl
              | some v =>
                cases v with
                | one c =>
                  cases c with
                  | ptr id off => simp [ptrK, fieldAddrA, forceN_eq, hk, hf, hb]
                  | _ => rfl
                | _ => rfl
        | _ =>
          simp only [Stg.un]
          refine nofield fun v => ?_
          unfold fieldAddrA
          split
          · simp only [hk]
          · rfl
  | load t x =>
    simp only [opS, loadS, opK, opD]
    cases hx : evS x with
    | mk ex =>
      simp only
      cases hi : C.ti t with
      | none =>
        simp only [Stg.un]
        cases evalA st.tmps x with
        | none => rfl
        | some v =>
          cases v with
          | one c =>
            cases c with
            | ptr id off => simp only [readA, hi]
            | _ => rfl
          | _ => rfl
      | some i =>
        simp only
        cases ha : i.isAgg with
        | true =>
          simp only [Stg.un, un_ev hx]
          cases evalA st.tmps x with
          | none => rfl
          | some v =>
            cases v with
            | one c =>
              cases c with
              | ptr id off =>
                simp only [ptrK, readA, hi, ha, if_true]
                cases loadA st.heap id off i.size <;> rfl
              | _ => rfl
            | _ => rfl
        | false =>
          simp only [Stg.un, un_ev hx]
          cases evalA st.tmps x with
          | none => rfl
          | some v =>
            cases v with
            | one c =>
              cases c with
              | ptr id off =>
                simp only [ptrK, readA, hi, ha, Bool.false_eq_true, if_false]
                cases st.heap.get id with
                | none => rfl
                | some b =>
                  simp only
                  cases nth b.cells off <;> rfl
              | _ => rfl
            | _ => rfl
  | store t x y =>
    simp only [opS, storeS, opK, opD]
    cases hx : evS x with
    | mk ex =>
      cases hy : evS y with
      | mk ey =>
        simp only
        cases hi : C.ti t with
        | none =>
          simp only [Stg.un]
          cases evalA st.tmps x with
          | none => rfl
          | some v =>
            cases evalA st.tmps y with
            | none => rfl
            | some u =>
              cases v with
              | one c =>
                cases c with
                | ptr id off =>
                  simp only [writeA, hi]
                  cases u.cells <;> rfl
                | _ => rfl
              | _ => rfl
        | some i =>
          simp only [Stg.un, un_ev hx]
          cases evalA st.tmps x with
          | none => rfl
          | some v =>
            simp only [un_ev hy]
            cases evalA st.tmps y with
            | none => rfl
            | some u =>
              cases v with
              | one c =>
                cases c with
                | ptr id off =>
                  simp only [ptrK, writeA, hi]
                  cases u.cells with
                  | none => rfl
                  | some cs =>
                    simp only
                    cases Nat.beq (lenL cs) i.size with
                    | false => rfl
                    | true =>
                      simp only [if_true]
                      cases storeA st.heap id off cs with
                      | none => rfl
                      | some h => simp only [forceT_eq]
                | _ => rfl
              | _ => rfl
  | alloc t =>
    simp only [opS, allocS, opK, opD, freshA]
    cases hi : C.ti t with
    | none => rfl
    | some i =>
      simp only
      cases i.zero with
      | none => rfl
      | some z =>
        simp only [Stg.un, newK]
        cases newA st ⟨z, .lit (lenL z), 1⟩ with
        | none => rfl
        | some st' => simp only [forceSt_eq]
  | box t x =>
    simp only [opS, boxS, opK, opD, freshA]
    cases hx : evS x with
    | mk ex =>
      simp only [Stg.un, un_ev hx]
      cases evalA st.tmps x with
      | none => rfl
      | some v =>
        simp only
        cases v.cells with
        | none => rfl
        | some cs =>
          simp only [newK]
          cases newA st ⟨cs, .lit (lenL cs), 1⟩ with
          | none => rfl
          | some st' => simp only [forceSt_eq]
  | binOp o t x y ty =>
    simp only [opS, binS, opK, opD, valA]
    cases hx : evS x with
    | mk ex =>
      cases hy : evS y with
      | mk ey =>
        simp only [Stg.un, un_ev hx]
        cases evalA st.tmps x with
        | none => rfl
        | some v =>
          simp only [un_ev hy]
          cases evalA st.tmps y with
          | none => rfl
          | some u =>
            simp only [optK_eq]
            cases binA C o t v u <;> rfl
  | unOp o t x =>
    simp only [opS, unS, opK, opD, valA]
    cases hx : evS x with
    | mk ex =>
      simp only [Stg.un, un_ev hx]
      cases evalA st.tmps x with
      | none => rfl
      | some v =>
        simp only [optK_eq]
        cases unA o v <;> rfl
  | pick c a b =>
    simp only [opS, pickS, opK, opD, valA]
    cases hc : evS c with
    | mk ec =>
      cases ha : evS a with
      | mk ea =>
        cases hb : evS b with
        | mk eb =>
          simp only [Stg.un, un_ev hc]
          cases evalA st.tmps c with
          | none => rfl
          | some cv =>
            simp only [un_ev ha]
            cases evalA st.tmps a with
            | none => rfl
            | some av =>
              simp only [un_ev hb]
              cases evalA st.tmps b with
              | none => rfl
              | some bv =>
                simp only [optK_eq]
                cases pickA cv av bv <;> rfl
  | extract x i =>
    simp only [opS, extractS, opK, opD, valA]
    cases hx : evS x with
    | mk ex =>
      simp only [Stg.un, un_ev hx]
      cases evalA st.tmps x with
      | none => rfl
      | some v =>
        simp only
        cases extractA i v <;> rfl
  | nilCheck x =>
    simp only [opS, nilCheckS, opK, opD, valA]
    cases hx : evS x with
    | mk ex =>
      simp only [Stg.un, un_ev hx]
      cases evalA st.tmps x with
      | none => rfl
      | some v =>
        simp only
        cases nilCheckA v <;> rfl
  | _ => simp only [opS]; exact rest _

/-! ### Slots, guards -/

def finS (d : Option Nat) : Stg (St → AV → (St → Tree) → Tree) :=
  match d with
  | none => .mk fun st _ k => k st
  | some d => match Nat.ble d room with
    | true => .mk fun st v k => St.rec (motive := fun _ => Tree) (fun tmps ntm heap nh nv nn facts =>
        Bool.rec (motive := fun _ => Tree) (.fail "slot") (setP (pathOf d) tmps (some v) fun tmps => k ⟨tmps, ntm, heap, nh, nv, nn, facts⟩) (Nat.ble (Nat.add d 1) ntm)) st
    | false => .mk fun _ _ _ => .fail "slot"

theorem finS_eq (d : Option Nat) (st : St) (v : AV) (k : St → Tree) : (finS d).un st v k = finish st d v k := by
  obtain ⟨tmps, ntm, heap, nh, nv, nn, facts⟩ := st
  cases d with
  | none => simp only [finS, Stg.un, finish, setTmp, forceSt_eq]
  | some d =>
    simp only [finS, finish, setTmp]
    cases h1 : Nat.ble d room with
    | false => simp [Stg.un]
    | true =>
      simp only [Stg.un]
      cases h2 : Nat.ble (Nat.add d 1) ntm with
      | false => simp
      | true => simp [forceSt_eq, T.put, setP_eq (pathOf d) tmps (some v) (fun tmps => k ⟨tmps, ntm, heap, nh, nv, nn, facts⟩)]

def litB (e : E) : Option Bool :=
  match e with
  | .lit (.bool b) => some b
  | _ => none

/-- What a guard's slot holds: known, a condition, nothing, something else. -/
inductive Gd | known (b : Bool) | cond (e : E) | undef | bad

def gdE (e : E) : Gd :=
  match litB e with
  | some b => .known b
  | none => .cond e

def gdC (c : Cell) : Gd :=
  match c with
  | .s t e => match t with
    | .bool => gdE e
    | _ => .bad
  | _ => .bad

def gdOf (v : AV) : Gd :=
  match v with
  | .one c => gdC c
  | .tup l => match l with
    | [] => .undef
    | _ => .bad
  | .agg _ => .bad

def gdO (v : Option AV) : Gd := Option.rec (motive := fun _ => Gd) .undef gdOf v

def guardS (all : List Oper) (o : Oper) : Stg (St → (St → Tree) → (St → Tree) → Tree) :=
  match o.guard with
  | none => .mk fun st yes _ => yes st
  | some (j, want) => match slotOf all j with
    | none => .mk fun st _ no => no st
    | some d => match want with
      | true => .mk fun st yes no => Gd.rec (motive := fun _ => Tree) (fun b => Bool.rec (motive := fun _ => Tree) (no st) (yes st) b)
          (fun e => forkE e st (fun st => finish st (some d) (boolLit true) yes) (fun st => finish st (some d) (boolLit false) no)) (no st) (.fail "guard") (gdO (getP (pathOf d) st.tmps))
      | false => .mk fun st yes no => Gd.rec (motive := fun _ => Tree) (fun b => Bool.rec (motive := fun _ => Tree) (yes st) (no st) b)
          (fun e => forkE e st (fun st => finish st (some d) (boolLit true) no) (fun st => finish st (some d) (boolLit false) yes)) (no st) (.fail "guard") (gdO (getP (pathOf d) st.tmps))

theorem guardS_eq (all : List Oper) (o : Oper) (st : St) (yes no : St → Tree) : (guardS all o).un st yes no = guardA all o st yes no := by
  unfold guardS guardA
  cases o.guard with
  | none => rfl
  | some g =>
    obtain ⟨j, want⟩ := g
    simp only
    cases slotOf all j with
    | none => rfl
    | some d =>
      cases want <;> simp only [Stg.un, T.get] <;> generalize getP (pathOf d) st.tmps = v
      all_goals
        cases v with
        | none => rfl
        | some v =>
          cases v with
          | agg cs => rfl
          | tup l => cases l <;> rfl
          | one c =>
            cases c with
            | s t e =>
              cases t with
              | bool =>
                cases e with
                | lit v =>
                  cases v with
                  | bool b => cases b <;> rfl
                  | _ => rfl
                | _ => rfl
              | _ => rfl
            | _ => rfl

/-! ### Steps -/

abbrev Rec := Job → St → K → Tree

theorem opS_un {C : Cfg} {op : Op} {f : OpF} (h : opS C op = .mk f) (st : St) (fl : Tree) (k : AV → St → Tree) : f st fl k = opK C op st fl k := by
  rw [← opS_eq, h]; rfl

def exS (C : Cfg) (o : Oper) : Stg (Rec → St → (AV → St → Tree) → Tree) :=
  match opS C o.op with
  | .mk f => match o.op with
    | .call c => match c.callee with
      | .value g => .mk fun rec st k => callA C rec g c.args.toList st k
      | .builtin .append => .mk fun _ st k => appendK C c.args.toList c.argTypes.toList st k
      | _ => .mk fun _ st k => f st (.fail ("op " ++ o.pos)) k
    | _ => .mk fun _ st k => f st (.fail ("op " ++ o.pos)) k

theorem exS_eq (C : Cfg) (o : Oper) (rec : Rec) (st : St) (k : AV → St → Tree) : (exS C o).un rec st k = execA C rec o st k := by
  have other : ∀ f, opS C o.op = .mk f → f st (.fail ("op " ++ o.pos)) k = (match opD C st o.op with
      | some (v, st') => forceAV v fun v => k v st'
      | none => .fail ("op " ++ o.pos)) := by
    intro f hf
    rw [opS_un hf, opK]
    cases opD C st o.op with
    | none => rfl
    | some r => obtain ⟨v, st'⟩ := r; simp [forceAV_eq]
  unfold exS execA
  cases hf : opS C o.op with
  | mk f =>
    simp only
    have ot := other f hf
    cases ho : o.op with
    | call c =>
      simp only [ho] at ot ⊢
      cases hc : c.callee with
      | builtin b => cases b <;> first | rfl | exact ot
      | value g => rfl
      | _ => exact ot
    | _ => simp only [ho] at ot ⊢; exact ot

def nzTake (C : Cfg) (all : List Oper) (listed : List Bool) (i : Nat) (o : Oper) : Stg (Rec → List Held → St → K → Tree) :=
  match guardS all o with
  | .mk g => match opS C o.op with
    | .mk f => match finS o.dst with
      | .mk fin => match loadOp o.op with
        | true => .mk fun rec held st k => g st
            (fun st => f st (.fail ("op, taken first " ++ o.pos)) fun v _ => Option.rec (motive := fun _ => Tree) (.fail "held") (fun x => fin st v fun st => rec (.any all listed (x :: held)) st k) (heldOf C st i o.op))
            (fun st => fin st .undef fun st => rec (.any all listed held) st k)
        | false => .mk fun rec held st k => g st
            (fun st => f st (.fail ("op, taken first " ++ o.pos)) fun v _ => fin st v fun st => rec (.any all listed held) st k)
            (fun st => fin st .undef fun st => rec (.any all listed held) st k)

def nzEff (C : Cfg) (all : List Oper) (listed : List Bool) (o : Oper) (rest : List Nat) : Stg (Rec → List Held → St → K → Tree) :=
  match guardS all o with
  | .mk g => match exS C o with
    | .mk f => match finS o.dst with
      | .mk fin => match rest with
        | [] => .mk fun rec held st k => g st
            (fun st => f rec st fun v st => fin st v fun st => Bool.rec (motive := fun _ => Tree) (.fail ("held " ++ o.pos)) (rec (.any all listed held) st k) (heldOk st.heap o held))
            (fun st => fin st .undef fun st => rec (.any all listed held) st k)
        | r :: rest => .mk fun rec held st k => Bool.rec (motive := fun _ => Tree) (.fail "allocations") (g st
            (fun st => f rec st fun v st => fin st v fun st => Bool.rec (motive := fun _ => Tree) (.fail ("held " ++ o.pos)) (rec (.any all listed held) st k) (heldOk st.heap o held))
            (fun st => fin st .undef fun st => rec (.any all listed held) st k)) (allocsFresh C st.tmps all (r :: rest))

def nzAlloc (C : Cfg) (all : List Oper) (listed : List Bool) (o : Oper) (rest : List Nat) : Stg (Rec → List Held → St → K → Tree) :=
  match opS C o.op with
  | .mk f => match finS o.dst with
    | .mk fin => match rest with
      | [] => .mk fun rec held st k => f st (.fail ("op, allocation " ++ o.pos)) fun v st => fin st v fun st => rec (.any all listed held) st k
      | r :: rest => .mk fun rec held st k => Bool.rec (motive := fun _ => Tree) (.fail "allocations")
          (f st (.fail ("op, allocation " ++ o.pos)) fun v st => fin st v fun st => rec (.any all listed held) st k) (allocsFresh C st.tmps all (r :: rest))

def nz (C : Cfg) (all : List Oper) (listed : List Bool) : Stg (Rec → List Held → St → K → Tree) :=
  match nextA all listed with
  | .done => .mk fun _ _ st k => k .normal st
  | .take i o => forceL (setB listed i) fun l => nzTake C all l i o
  | .eff i o rest => forceL (setB listed i) fun l => nzEff C all l o rest
  | .alloc i o rest => forceL (setB listed i) fun l => nzAlloc C all l o rest
  | .bad => .mk fun _ _ _ _ => .fail "order"

theorem guard_un {all : List Oper} {o : Oper} {g : St → (St → Tree) → (St → Tree) → Tree} (h : guardS all o = .mk g) (st : St) (yes no : St → Tree) : g st yes no = guardA all o st yes no := by
  rw [← guardS_eq, h]; rfl
theorem fin_un {d : Option Nat} {f : St → AV → (St → Tree) → Tree} (h : finS d = .mk f) (st : St) (v : AV) (k : St → Tree) : f st v k = finish st d v k := by
  rw [← finS_eq, h]; rfl
theorem ex_un {C : Cfg} {o : Oper} {f : Rec → St → (AV → St → Tree) → Tree} (h : exS C o = .mk f) (rec : Rec) (st : St) (k : AV → St → Tree) : f rec st k = execA C rec o st k := by
  rw [← exS_eq, h]; rfl

theorem nz_eq (C : Cfg) (all : List Oper) (listed : List Bool) (rec : Rec) (held : List Held) (st : St) (k : K) : (nz C all listed).un rec held st k = anyA C rec all listed held st k := by
  unfold nz anyA
  cases nextA all listed with
  | done => rfl
  | bad => rfl
  | take i o =>
    simp only [forceL_eq]
    unfold nzTake takeA
    cases hg : guardS all o with
    | mk g =>
      cases hf : opS C o.op with
      | mk f =>
        cases hd : finS o.dst with
        | mk fin =>
          simp only
          cases hl : loadOp o.op with
          | true =>
            simp only [Stg.un, guard_un hg, opS_un hf, fin_un hd, opK, forceBs_eq]
            congr 1
            funext st
            cases opD C st o.op with
            | none => rfl
            | some r =>
              obtain ⟨v, st'⟩ := r
              simp only
              cases heldOf C st i o.op with
              | none => rfl
              | some x => simp only [forceAV_eq]
          | false =>
            simp only [Stg.un, guard_un hg, opS_un hf, fin_un hd, opK, forceBs_eq]
            congr 1
            funext st
            cases opD C st o.op with
            | none => rfl
            | some r =>
              obtain ⟨v, st'⟩ := r
              simp only [forceAV_eq]
  | eff i o rest =>
    simp only [forceL_eq]
    unfold nzEff effA
    cases hg : guardS all o with
    | mk g =>
      cases hf : exS C o with
      | mk f =>
        cases hd : finS o.dst with
        | mk fin =>
          have hb : ∀ (b : Bool) (x y : Tree), Bool.rec (motive := fun _ => Tree) x y b = if b then y else x := by intro b x y; cases b <;> rfl
          cases rest with
          | nil => simp only [Stg.un, guard_un hg, ex_un hf, fin_un hd, forceBs_eq, allocsFresh, if_true, hb]
          | cons r rest => simp only [Stg.un, guard_un hg, ex_un hf, fin_un hd, forceBs_eq, hb]
  | alloc i o rest =>
    simp only [forceL_eq]
    unfold nzAlloc allocA
    cases hf : opS C o.op with
    | mk f =>
      cases hd : finS o.dst with
      | mk fin =>
        have hb : ∀ (b : Bool) (x y : Tree), Bool.rec (motive := fun _ => Tree) x y b = if b then y else x := by intro b x y; cases b <;> rfl
        have key : f st (.fail ("op, allocation " ++ o.pos)) (fun v st => fin st v fun st => rec (.any all (setB listed i) held) st k) = (match opD C st o.op with
            | some (v, st') => forceAV v fun v => finish st' o.dst v fun st => forceBs (setB listed i) fun listed => rec (.any all listed held) st k
            | none => .fail ("op, allocation " ++ o.pos)) := by
          rw [opS_un hf, opK]
          cases opD C st o.op with
          | none => rfl
          | some r => obtain ⟨v, st'⟩ := r; simp only [forceAV_eq, fin_un hd, forceBs_eq]
        cases rest with
        | nil => simp only [Stg.un, allocsFresh, if_true]; exact key
        | cons r rest => simp only [Stg.un, hb, key]; rfl

def oz (C : Cfg) (all rest : List Oper) : Stg (Rec → St → K → Tree) :=
  match rest with
  | [] => .mk fun _ st k => k .normal st
  | o :: rest' => match guardS all o with
    | .mk g => match exS C o with
      | .mk f => match finS o.dst with
        | .mk fin => .mk fun rec st k => g st (fun st => f rec st fun v st => fin st v fun st => rec (.ops all rest') st k) (fun st => fin st .undef fun st => rec (.ops all rest') st k)

theorem oz_eq (C : Cfg) (all rest : List Oper) (rec : Rec) (st : St) (k : K) : (oz C all rest).un rec st k = opsA C rec all rest st k := by
  unfold oz opsA
  cases rest with
  | nil => rfl
  | cons o rest' =>
    simp only
    cases hg : guardS all o with
    | mk g =>
      cases hf : exS C o with
      | mk f =>
        cases hd : finS o.dst with
        | mk fin => simp only [Stg.un, guard_un hg, ex_un hf, fin_un hd]

def condZ (ex : T AV → Tree → (AV → Tree) → Tree) (a b : Code) (rec : Rec) (st : St) (k : K) : Tree :=
  ex st.tmps (.fail "cond") fun v => match gdOf v with
    | .known x => Bool.rec (motive := fun _ => Tree) (rec (.code b) st k) (rec (.code a) st k) x
    | .cond e => forkE e st (fun st => rec (.code a) st k) (fun st => rec (.code b) st k)
    | _ => .fail "cond"

def cz (_C : Cfg) (c : Code) : Stg (Rec → St → K → Tree) :=
  match c with
  | .skip => .mk fun _ st k => k .normal st
  | .label _ => .mk fun _ st k => k .normal st
  | .region _ ops draw => match draw with
    | true => forceL (falses (lenL ops.toList)) fun l => .mk fun rec st k => rec (.any ops.toList l []) st k
    | false => .mk fun rec st k => rec (.ops ops.toList ops.toList) st k
  | .seq a b => .mk fun rec st k => rec (.code a) st (seqK rec b k)
  | .cond c a b => match evS c with
    | .mk ex => .mk fun rec st k => condZ ex a b rec st k
  | .block id b => .mk fun rec st k => rec (.code b) st (blockK id k)
  | .loop b => .mk fun rec st k => rec (.loop b) st k
  | .scope b => .mk fun rec st k => rec (.code b) st (scopeK rec b k)
  | .exit id => .mk fun _ st k => k (.exit id) st
  | .goto l => .mk fun _ st k => k (.goto l) st
  | .ret => .mk fun _ st k => k .ret st
  | .rangeFunc _ _ _ _ => .mk fun _ _ _ => .fail "code"
  | .refuse _ => .mk fun _ _ _ => .fail "code"

theorem decideE_lit (fs : List (E × Bool)) (b : Bool) : decideE fs (.lit (.bool b)) = some b := by
  simp [decideE, norm, decideN, decide0]

theorem forkE_lit (b : Bool) (st : St) (t f : St → Tree) : forkE (.lit (.bool b)) st t f = if b then t st else f st := by
  simp only [forkE, decideE_lit]
  cases b <;> rfl

theorem cz_eq (C : Cfg) (c : Code) (rec : Rec) (st : St) (k : K) : (cz C c).un rec st k = codeA rec c st k := by
  cases c with
  | region id ops draw =>
    cases draw with
    | true => simp only [cz, forceL_eq, Stg.un, codeA, regionA, if_true, forceBs_eq]
    | false => rfl
  | cond c a b =>
    simp only [cz, codeA]
    cases hx : evS c with
    | mk ex =>
      simp only [Stg.un, condZ, condA, un_ev hx]
      cases evalA st.tmps c with
      | none => rfl
      | some v =>
        cases v with
        | agg cs => rfl
        | tup l => cases l <;> rfl
        | one x =>
          cases x with
          | s t e =>
            cases t with
            | bool =>
              cases e with
              | lit v =>
                cases v with
                | bool y =>
                  simp only [forkE_lit]
                  cases y <;> rfl
                | _ => rfl
              | _ => rfl
            | _ => rfl
          | _ => rfl
  | _ => rfl

def stepZ (C : Cfg) (rec : Rec) (j : Job) (st : St) (k : K) : Tree :=
  Job.rec (motive := fun _ => Tree)
    (fun c => Stg.rec (motive := fun _ => Tree) (fun f => f rec st k) (cz C c))
    (fun b => rec (.code b) st (loopK rec b k))
    (fun b rest => rec (.code rest) st (scopeK rec b k))
    (fun all rest => Stg.rec (motive := fun _ => Tree) (fun f => f rec st k) (oz C all rest))
    (fun all listed held => Stg.rec (motive := fun _ => Tree) (fun f => f rec held st k) (nz C all listed)) j

theorem stepZ_eq (C : Cfg) (rec : Rec) : stepZ C rec = step C rec := by
  funext j st k
  cases j with
  | code c =>
    show Stg.rec (motive := fun _ => Tree) (fun f => f rec st k) (cz C c) = codeA rec c st k
    rw [← cz_eq]
    cases cz C c; rfl
  | loop b => rfl
  | scope b rest => rfl
  | ops all rest =>
    show Stg.rec (motive := fun _ => Tree) (fun f => f rec st k) (oz C all rest) = opsA C rec all rest st k
    rw [← oz_eq]
    cases oz C all rest; rfl
  | any all listed held =>
    show Stg.rec (motive := fun _ => Tree) (fun f => f rec held st k) (nz C all listed) = anyA C rec all listed held st k
    rw [← nz_eq]
    cases nz C all listed; rfl

def runZ (C : Cfg) (n : Nat) : Rec :=
  Nat.rec (motive := fun _ => Rec) (fun _ _ _ => .fail "fuel") (fun _ ih => stepZ C ih) n

theorem runZ_eq (C : Cfg) : ∀ n, runZ C n = run C n := by
  intro n
  induction n with
  | zero => rfl
  | succ n ih =>
    show stepZ C (runZ C n) = step C (run C n)
    rw [stepZ_eq, ih]

/-- As 'runF', in stages. -/
def runFZ (C : Cfg) (n : Nat) (f : Nat) (args : List AV) (st : St) : Tree :=
  match nth C.P.funcs.toList f with
  | some fn => bodyA C (runZ C n) fn args st fun v st => .leaf st v
  | none => .fail "no function"

theorem runFZ_eq (C : Cfg) (n f : Nat) (args : List AV) (st : St) : runFZ C n f args st = runF C n f args st := by
  unfold runFZ runF
  rw [runZ_eq]
  rfl

end Go.SX
