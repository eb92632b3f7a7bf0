/- The Trap laws: contracts of functions whose values nobody looks into; cases by what arguments are. Conditions: none. -/
import Derived.Test.YtlfhlipdjjhldaaGreatDoorSxLaw
import Derived.Test.YtlfhlipdjjhldaaGreatDoorSxZ
namespace Go.Proofs.YtlfhlipdjjhldaaGreatDoor
open Go Go.SX Go.RowKit
set_option maxRecDepth 1000000

/-- Every leaf is a value of one cell. -/
def leavesOne : Tree → Bool
  | .leaf _ (.one _) => true
  | .leaf _ _ => false
  | .fork _ a b => leavesOne a && leavesOne b
  | .cap _ t => leavesOne t
  | .spec _ _ t => leavesOne t
  | .fail _ => false

def cellsFit : List Srt → List Cell → Bool
  | [], [] => true
  | s :: ss, .s t _ :: l => t.eq s && cellsFit ss l
  | _, _ => false

/-- Every leaf is a struct of scalars of given sorts. -/
def leavesAgg (ss : List Srt) : Tree → Bool
  | .leaf _ (.agg cs) => cellsFit ss cs
  | .leaf _ _ => false
  | .fork _ a b => leavesAgg ss a && leavesAgg ss b
  | .cap _ t => leavesAgg ss t
  | .spec _ _ t => leavesAgg ss t
  | .fail _ => false

theorem leavesOne_holds {Y : Ext} {R : Nat → List Value → List Value → Prop} : ∀ {t : Tree} {vs : List Value} {ns : List Nat}, leavesOne t = true → Holds Y R (fun _ v _ _ => ∃ c, v = .one c) t vs ns := by
  intro t
  induction t with
  | leaf st v =>
    intro vs ns h
    cases v with
    | one c => exact ⟨c, rfl⟩
    | _ => cases h
  | fork c a b iha ihb =>
    intro vs ns h
    simp only [leavesOne, Bool.and_eq_true] at h
    exact fun b _ => ⟨fun _ => iha h.1, fun _ => ihb h.2⟩
  | spec f args rest ih => intro vs ns h; exact fun _ _ _ _ _ _ => ih h
  | cap lo rest ih => intro vs ns h; exact fun _ _ => ih h
  | fail s => intro vs ns h; cases h

theorem leavesAgg_holds {Y : Ext} {R : Nat → List Value → List Value → Prop} {ss : List Srt} : ∀ {t : Tree} {vs : List Value} {ns : List Nat}, leavesAgg ss t = true → Holds Y R (fun _ v _ _ => ∃ cs, v = .agg cs ∧ cellsFit ss cs = true) t vs ns := by
  intro t
  induction t with
  | leaf st v =>
    intro vs ns h
    cases v with
    | agg c => exact ⟨c, rfl, h⟩
    | _ => cases h
  | fork c a b iha ihb =>
    intro vs ns h
    simp only [leavesAgg, Bool.and_eq_true] at h
    exact fun b _ => ⟨fun _ => iha h.1, fun _ => ihb h.2⟩
  | spec f args rest ih => intro vs ns h; exact fun _ _ _ _ _ _ => ih h
  | cap lo rest ih => intro vs ns h; exact fun _ _ => ih h
  | fail s => intro vs ns h; cases h

theorem cellsFit_has {Γ : Env} : ∀ {ss : List Srt} {cs : List Cell} {l : List Value}, cellsFit ss cs = true → cellsDen Γ cs = some l → HasAll ss l := by
  intro ss
  induction ss with
  | nil =>
    intro cs l h hd
    cases cs with
    | nil => cases hd; exact .nil
    | cons c cs => cases h
  | cons s ss ih =>
    intro cs l h hd
    cases cs with
    | nil => cases h
    | cons c cs =>
      cases c with
      | s t e =>
        simp only [cellsFit, Bool.and_eq_true] at h
        simp only [cellsDen, Option.bind_eq_some_iff, Option.map_eq_some_iff] at hd
        obtain ⟨v, hv, m, hm, rfl⟩ := hd
        obtain rfl := Srt.eq_eq h.1
        exact .cons (den_s.1 hv).2 (ih h.2 hm)
      | _ => cases h

theorem opq_has {v : Value} (h : oneCell v = true) : Srt.opq.has v = true := by
  cases v <;> first | rfl | cases h

/-- A function whose value is of one cell, whatever it is. -/
theorem one_ct {C : Cfg} {R R' : Nat → List Value → List Value → Prop} (hC : CfgOk C R) {f n : Nat} {ps : List (Bool × List Srt)} (hb : ∃ fn, C.P.funcs[f]? = some fn ∧ fn.body.isNone = false)
    (h : leavesOne (runF C n f (argsFrom 0 ps) (St.start .e 0 (SX.cellsIn ps) 0 [])) = true) (hR : ∀ xs ys, R' f xs ys) :
    CtOk C.P R' f ⟨1, fun nv _ => .one (.s .opq (.var nv)), fun l => match exprsOf ps l with | some _ => true | none => false⟩ := by
  intro Y args σ vs ns β xs w ht hx
  refine ⟨hb, ?_⟩
  simp only at ht
  cases he : exprsOf ps args with
  | none => rw [he] at ht; cases ht
  | some es =>
    obtain ⟨us, _, hf⟩ := exprsOf_den he hx
    have hx' : avsDen ⟨C.X, [], us, [], fun _ => 0⟩ (argsFrom 0 ps) = some xs := argsFrom_den (X := C.X) (σ := []) (ns := []) hf []
    refine Calls.mono (runF_sound hC (MRel.startV' w us _ hf.length [] (fun p hp => by cases hp)) hx' (leavesOne_holds h)) ?_
    rintro r w' ⟨u, rfl, st', v, Γ', hl, hm, hden, c, rfl⟩
    refine ⟨u, [u], rfl, hR xs [u], rfl, ?_, Fr.below' hm.fr⟩
    show (AV.one (.s .opq (.var vs.length))).den ⟨Y, σ, vs ++ [u], ns, β⟩ = some u
    rw [AV.den_one, den_s]
    refine ⟨?_, opq_has (Cell.den_oneCell hden)⟩
    show (vs ++ [u])[vs.length]? = some u
    simp

/-- A function whose value is a struct of scalars, whatever these are. -/
theorem agg_ct {C : Cfg} {R R' : Nat → List Value → List Value → Prop} (hC : CfgOk C R) {f n : Nat} {ps : List (Bool × List Srt)} {ss : List Srt} (hb : ∃ fn, C.P.funcs[f]? = some fn ∧ fn.body.isNone = false)
    (h : leavesAgg ss (runF C n f (argsFrom 0 ps) (St.start .e 0 (SX.cellsIn ps) 0 [])) = true) (hR : ∀ xs ys, R' f xs ys) :
    CtOk C.P R' f ⟨lenL ss, fun nv _ => .agg (varsFrom nv ss), fun l => match exprsOf ps l with | some _ => true | none => false⟩ := by
  intro Y args σ vs ns β xs w ht hx
  refine ⟨hb, ?_⟩
  simp only at ht
  cases he : exprsOf ps args with
  | none => rw [he] at ht; cases ht
  | some es =>
    obtain ⟨us, _, hf⟩ := exprsOf_den he hx
    have hx' : avsDen ⟨C.X, [], us, [], fun _ => 0⟩ (argsFrom 0 ps) = some xs := argsFrom_den (X := C.X) (σ := []) (ns := []) hf []
    refine Calls.mono (runF_sound hC (MRel.startV' w us _ hf.length [] (fun p hp => by cases hp)) hx' (leavesAgg_holds (ss := ss) h)) ?_
    rintro r w' ⟨u, rfl, st', v, Γ', hl, hm, hden, cs, rfl, hcs⟩
    simp only [AV.den, Option.map_eq_some_iff] at hden
    obtain ⟨l, hl1, rfl⟩ := hden
    have hh := cellsFit_has hcs hl1
    refine ⟨_, l, rfl, hR xs l, by rw [hh.length, lenL_eq], ?_, Fr.below' hm.fr⟩
    show (AV.agg (varsFrom vs.length ss)).den ⟨Y, σ, vs ++ l, ns, β⟩ = some (.agg l.toArray)
    have := varsFrom_den (X := Y) (σ := σ) (ns := ns) (β := β) hh vs []
    rw [List.append_nil] at this
    simp only [AV.den, this, Option.map_some]

theorem fields_treeZ : leavesOne (runFZ (Tr.C0 Tryz.prog X) 1000000 80 (argsFrom 0 [Tr.descP]) (St.start .e 0 (SX.cellsIn [Tr.descP]) 0 [])) = true := by kernel_rfl
theorem fields_tree : leavesOne (runF (Tr.C0 Tryz.prog X) 1000000 80 (argsFrom 0 [Tr.descP]) (St.start .e 0 (SX.cellsIn [Tr.descP]) 0 [])) = true := by rw [← runFZ_eq]; exact fields_treeZ
theorem fields_ct : CtOk Tryz.prog R1 80 Tr.fields := one_ct (C := Tr.C0 Tryz.prog X) (R' := R1) C0_ok ⟨_, Tryz.func80, rfl⟩ fields_tree (fun _ _ => trivial)
theorem keyVal_ct : CtOk Tryz.prog R1 96 Tr.keyVal := agg_ct (C := Tr.C0 Tryz.prog X) (n := 1000000) (ss := Tr.vS) (R' := R1) C0_ok ⟨_, Tryz.func96, rfl⟩ (by kernel_rfl) (fun _ _ => trivial)

theorem C4_ok : CfgOk (Tr.C4 Tryz.prog X) R1 := base_ok fns_ok fns_apart (fun _ _ _ => trivial) (cons_ct (alive_ct fun _ => trivial) (cons_ct fields_ct (cons_ct keyVal_ct nil_ct)))

/-! ### Cases -/

def flat : List (Bool × List Srt) → List Srt
  | [] => []
  | p :: l => p.2 ++ flat l

theorem hasAll_app : ∀ {ss ts : List Srt} {l m : List Value}, HasAll ss l → HasAll ts m → HasAll (ss ++ ts) (l ++ m) := by
  intro ss ts l m h1 h2
  induction h1 with
  | nil => exact h2
  | cons h _ ih => exact .cons h ih

theorem fits_flat {ps : List (Bool × List Srt)} {xs us : List Value} (h : FitsAll ps xs us) : HasAll (flat ps) us := by
  induction h with
  | nil => exact .nil
  | cons h1 _ ih =>
    refine hasAll_app ?_ ih
    cases h1 with
    | agg h => exact h
    | one h => exact .cons h .nil

theorem hasAll_get : ∀ {ss : List Srt} {l : List Value}, HasAll ss l → ∀ {i : Nat} {s : Srt}, ss[i]? = some s → ∃ v, l[i]? = some v ∧ s.has v = true := by
  intro ss l h
  induction h with
  | nil => intro i s hi; simp at hi
  | cons h1 _ ih =>
    intro i s hi
    cases i with
    | zero => simp at hi; subst hi; exact ⟨_, rfl, h1⟩
    | succ i => simpa using ih (by simpa using hi)

theorem var_bool {Y : Ext} {ps : List (Bool × List Srt)} {xs us : List Value} (h : FitsAll ps xs us) {i : Nat} (hi : (flat ps)[i]? = some .bool) : ∃ b, (E.var i).den Y us = some (.bool b) := by
  obtain ⟨v, h1, h2⟩ := hasAll_get (fits_flat h) hi
  obtain ⟨b, rfl⟩ := has_bool h2
  exact ⟨b, h1⟩

noncomputable def isN (i n : Nat) : E := .bin .eql (.var i) (.lit (.int .u8 (Int.ofNat n)))

theorem var_is {Y : Ext} {ps : List (Bool × List Srt)} {xs us : List Value} (h : FitsAll ps xs us) {i : Nat} (n : Nat) (hi : (flat ps)[i]? = some (.int .u8)) : ∃ b, (isN i n).den Y us = some (.bool b) := by
  obtain ⟨v, h1, h2⟩ := hasAll_get (fits_flat h) hi
  obtain ⟨m, rfl⟩ := has_int h2
  exact ⟨m == Int.ofNat n, den_bin.2 ⟨_, _, h1, rfl, rfl⟩⟩

theorem facts1 {Y : Ext} {us : List Value} {c : E} {b : Bool} (h : c.den Y us = some (.bool b)) {l : List (E × Bool)} (hl : FactsOk Y us l) : FactsOk Y us ((c, b) :: l) := by
  intro p hp
  rcases List.mem_cons.1 hp with rfl | hp
  · exact h
  · exact hl p hp
theorem facts0 {Y : Ext} {us : List Value} : FactsOk Y us [] := fun p hp => by cases hp

end Go.Proofs.YtlfhlipdjjhldaaGreatDoor
