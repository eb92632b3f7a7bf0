/- A symbolic executor for the model's code: operations that neither read nor turn memory do what 'valA' says, II. Conditions: 'EqOk': what '==' comes to at the struct types of the table. -/
import Derived.Test.YtlfhlipdjjhldaaGreatDoorSxF
namespace Go.SX

def eqV (x y : Value) : Bool :=
  match binV .eql x y with
  | some (.bool b) => b
  | _ => false

def eqAll : List Value → List Value → Bool
  | x :: l, y :: m => eqV x y && eqAll l m
  | _, _ => true

/-- Values of given sorts. -/
inductive HasAll : List Srt → List Value → Prop
  | nil : HasAll [] []
  | cons {s : Srt} {v : Value} {ss : List Srt} {l : List Value} : s.has v = true → HasAll ss l → HasAll (s :: ss) (v :: l)

/-- What '==' and '!=' come to at the struct types of the table. -/
def EqOk (C : Cfg) : Prop := ∀ t ss, C.eqT t = some ss → ∀ xs ys, HasAll ss xs → HasAll ss ys → ∀ (op : BinOp) (p q : Operand) (w : World),
  (eqGuard op t p q (.agg xs.toArray) (.agg ys.toArray)).run C.P w = .ok () w ∧ (Op.equal t (.agg xs.toArray) (.agg ys.toArray)).run C.P w = .ok (eqAll xs ys) w

theorem andE_den {X : Ext} {vs : List Value} {e r : E} {b c : Bool} (he : e.den X vs = some (.bool b)) (hr : r.den X vs = some (.bool c)) : (andE e r).den X vs = some (.bool (b && c)) := by
  unfold andE
  split
  · simp only [E.den] at he; cases he; simpa using hr
  · simp only [E.den] at he; cases he; rfl
  · split
    · simp only [E.den] at hr; cases hr; simpa using he
    · rw [show (E.ite e r (.lit (.bool false))).den X vs = iteV (e.den X vs) (r.den X vs) (some (.bool false)) from rfl, he]
      cases b with
      | true => simpa [iteV] using hr
      | false => rfl

theorem eqCells_den {Γ : Env} : ∀ {ss : List Srt} {l m : List Cell} {e : E} {xs ys : List Value}, eqCells ss l m = some e → cellsDen Γ l = some xs → cellsDen Γ m = some ys →
    e.den Γ.X Γ.vs = some (.bool (eqAll xs ys)) ∧ HasAll ss xs ∧ HasAll ss ys := by
  intro ss
  induction ss with
  | nil =>
    intro l m e xs ys h hx hy
    match l, m, h with
    | [], [], h =>
      cases h; cases hx; cases hy
      exact ⟨rfl, .nil, .nil⟩
  | cons q ss ih =>
    intro l m e xs ys h hx hy
    match l, m, h with
    | .s t a :: l, .s u b :: m, h =>
      simp only [eqCells] at h
      split at h
      case isFalse => cases h
      rename_i htu
      obtain ⟨ht, hu⟩ := Bool.and_eq_true_iff.1 htu
      obtain rfl := Srt.eq_eq ht
      obtain rfl := Srt.eq_eq hu
      cases hb : binSort .eql u b with
      | none => rw [hb] at h; cases h
      | some r =>
        rw [hb] at h
        cases hr : eqCells ss l m with
        | none => simp only [hr] at h; cases h
        | some z =>
          simp only [hr] at h
          cases h
          simp only [cellsDen, Option.bind_eq_some_iff, Option.map_eq_some_iff] at hx hy
          obtain ⟨x, hx1, xs, hx2, rfl⟩ := hx
          obtain ⟨y, hy1, ys, hy2, rfl⟩ := hy
          obtain ⟨i1, i2, i3⟩ := ih hr hx2 hy2
          obtain ⟨hx3, hx4⟩ := den_s.1 hx1
          obtain ⟨hy3, hy4⟩ := den_s.1 hy1
          obtain ⟨v, hv, hv2⟩ := binV_sort hx4 hy4 hy3 hb
          have hrb : r = .bool := by
            cases u <;> simp only [binSort] at hb <;> cases hb <;> rfl
          subst hrb
          obtain ⟨c, rfl⟩ := has_bool hv2
          refine ⟨?_, .cons hx4 i2, .cons hy4 i3⟩
          refine andE_den (b := eqV x y) ?_ i1
          rw [eqE_den hx3 hy3 hx4 (fun e => by rcases e with e | e <;> rw [e] at hb <;> cases hb)]
          simp [E.den, hx3, hy3, hv, eqV]

/-- The operands of an operation are what their slots say. -/
def Ev (Γ : Env) (tmps : T AV) (a : Act) (o : Op) : Prop := ∀ x ∈ o.operands, ∀ v, evalA tmps x = some v → v.den Γ = some (a.eval x)

theorem cellOf_den {Γ : Env} {v : Value} {c : Cell} (h : cellOf v = some c) : c.den Γ = some v := by
  unfold cellOf at h
  split at h <;> cases h
  · exact den_s.2 ⟨rfl, rfl⟩
  · exact den_s.2 ⟨rfl, kindEq_refl _⟩
  · exact den_s.2 ⟨rfl, rfl⟩
  · exact den_s.2 ⟨rfl, rfl⟩
  · rfl
  · rfl
  · rfl
  · rfl
  · rfl

theorem cellsOf_den {Γ : Env} : ∀ {l : List Value} {cs : List Cell}, cellsOf l = some cs → cellsDen Γ cs = some l := by
  intro l
  induction l with
  | nil => intro cs h; cases h; rfl
  | cons v l ih =>
    intro cs h
    simp only [cellsOf] at h
    cases hc : cellOf v with
    | none => rw [hc] at h; cases h
    | some c =>
      rw [hc] at h
      cases hr : cellsOf l with
      | none => simp only [hr] at h; cases h
      | some r =>
        simp only [hr] at h
        cases h
        simp [cellsDen, cellOf_den (Γ := Γ) hc, ih hr]

theorem avOf_den {Γ : Env} {v : Value} {x : AV} (h : avOf v = some x) : x.den Γ = some v := by
  unfold avOf at h
  split at h
  · simp only [Option.map_eq_some_iff] at h
    obtain ⟨cs, hc, rfl⟩ := h
    simp [AV.den, cellsOf_den (Γ := Γ) hc]
  · simp only [Option.map_eq_some_iff] at h
    obtain ⟨c, hc, rfl⟩ := h
    exact cellOf_den hc

theorem evalA_den {Γ : Env} {tmps : T AV} {a : Act} {x : Operand} {v : AV} (h : evalA tmps x = some v) (ht : ∀ t, x = .tmp t → (getA tmps t).den Γ = some (a.tmps.getD t undef)) : v.den Γ = some (a.eval x) := by
  cases x with
  | tmp t => cases h; exact ht t rfl
  | const u => exact avOf_den h
  | global g => cases h
  | func f => cases h; rfl

theorem evalsA_den {Γ : Env} {tmps : T AV} {a : Act} : ∀ {l : List Operand} {vs : List AV}, evalsA tmps l = some vs → (∀ x ∈ l, ∀ v, evalA tmps x = some v → v.den Γ = some (a.eval x)) → avsDen Γ vs = some (l.map a.eval) := by
  intro l
  induction l with
  | nil => intro vs h _; cases h; rfl
  | cons x l ih =>
    intro vs h he
    simp only [evalsA] at h
    cases hx : evalA tmps x with
    | none => rw [hx] at h; cases h
    | some v =>
      rw [hx] at h
      cases hr : evalsA tmps l with
      | none => simp only [hr] at h; cases h
      | some r =>
        simp only [hr] at h
        cases h
        simp [avsDen, he x (by simp) v hx, ih hr (fun y hy => he y (by simp [hy]))]

/-! ### Operations on values -/

theorem AV.den_one {Γ : Env} {c : Cell} : (AV.one c).den Γ = c.den Γ := rfl

theorem undef_den (Γ : Env) : AV.undef.den Γ = some undef := rfl

theorem num_den {Γ : Env} {v : AV} {n : Nat} {x : Value} (h : v.num = some n) (hv : v.den Γ = some x) : ∃ k, x = .int k n := by
  unfold AV.num at h
  split at h
  · rename_i s k m
    unfold intNat at h
    split at h
    · cases h
      rw [AV.den_one] at hv
      obtain ⟨h1, _⟩ := den_s.1 hv
      cases h1
      exact ⟨k, rfl⟩
    · cases h
  · cases h

section
variable {C : Cfg} {Γ : Env}

theorem scalA_sound {op : BinOp} {ty : Nat} {s t : Srt} {a b : E} {v : AV} {x y : Value} (h : scalA C op ty s t a b = some v) (hop : isShift op = false) (hx : (Cell.s s a).den Γ = some x) (hy : (Cell.s t b).den Γ = some y) :
    ∃ u, v.den Γ = some u ∧ ∀ (w : World) (p q : Operand), (eqGuard op ty p q x y).run C.P w = .ok () w ∧ (Go.binOp op ty x y).run C.P w = .ok u w := by
  unfold scalA at h
  split at h
  case isFalse => cases h
  rename_i hst
  obtain ⟨h1, h2⟩ := Bool.and_eq_true_iff.1 hst
  obtain rfl := Srt.eq_eq h1
  cases hb : binSort op s b with
  | none => rw [hb] at h; cases h
  | some r =>
    rw [hb] at h
    cases h
    obtain ⟨hx1, hx2⟩ := den_s.1 hx
    obtain ⟨hy1, hy2⟩ := den_s.1 hy
    obtain ⟨u, hu, hu2⟩ := binV_sort hx2 hy2 hy1 hb
    have hs : s = .opq ∨ s = .slc → False := by rintro (rfl | rfl) <;> cases hb
    refine ⟨u, den_s.2 ⟨by rw [mkOp_den hx1 hy1 hx2 hs]; simp [E.den, hx1, hy1, hu], hu2⟩, fun w p q => ⟨eqGuard_scalar hx2 hs op ty p q C.P w, ?_⟩⟩
    refine binOp_scalar hx2 hy2 hs hu hop C.P ty (fun e => ?_) w
    subst e
    unfold boolFits at h2
    cases hi : C.ti ty with
    | none => simp only [hi] at h2; cases h2
    | some i =>
      simp only [hi] at h2
      obtain ⟨info, d, ok⟩ := tiOf_ok hi
      split at h2
      · rename_i hk
        have := kind_bool (hk ▸ ok.kind)
        rw [← this]; exact ok.under
      · cases h2

theorem wrap_nonneg {k : IntKind} (h : unsignedK k = true) (n : Int) : 0 ≤ k.wrap n := by
  have hs : k.signed = false := by cases k <;> first | rfl | cases h
  unfold IntKind.wrap
  simp only [hs, Bool.false_and, Bool.false_eq_true, if_false]
  exact Int.emod_nonneg _ (by cases k <;> decide)

theorem floatArith_no_int {op : BinOp} {i : FloatKind} {m n : Nat} {k : IntKind} {b : Int} : pureOf (Op.floatArith op i m n) = some (.int k b) → False := by
  intro h
  have key : ∀ r : Option Nat, pureOf (match r with
    | some r => (pure (.float i r) : Sem Value)
    | none => do pure (.float i (← choose (.nanBits i m n)))) = some (.int k b) → False := by
    intro r h
    cases r with
    | some r => cases h
    | none => cases h
  cases op <;> first | exact key _ h | cases h

theorem wrapped_nonneg {X : Ext} {vs : List Value} {e : E} {k : IntKind} {b : Int} (h : wrapped e = true) (hk : unsignedK k = true) (he : e.den X vs = some (.int k b)) : 0 ≤ b := by
  have key : ∀ (op : BinOp) (p q : E), (op = .add ∨ op = .sub ∨ op = .mul ∨ op = .and ∨ op = .or ∨ op = .xor ∨ op = .andNot) → (E.bin op p q).den X vs = some (.int k b) → 0 ≤ b := by
    intro op p q ho hd
    simp only [E.den, Option.bind_eq_some_iff] at hd
    obtain ⟨x, _, y, _, hb⟩ := hd
    cases x with
    | int i m =>
      cases y with
      | int j n =>
        simp only [binV] at hb
        by_cases hij : i = j
        · subst hij
          rcases ho with rfl | rfl | rfl | rfl | rfl | rfl | rfl <;>
            (simp [Go.binOp, Op.intArith, Op.intBits, pureOf, pure] at hb; obtain ⟨rfl, rfl⟩ := hb; exact wrap_nonneg hk _)
        · rcases ho with rfl | rfl | rfl | rfl | rfl | rfl | rfl <;>
            (simp [Go.binOp, hij, stuck, pureOf] at hb)
      | _ => cases hb
    | float i m =>
      cases y with
      | float j n =>
        simp only [binV] at hb
        by_cases hij : i = j
        · subst hij
          rcases ho with rfl | rfl | rfl | rfl | rfl | rfl | rfl
          · simp only [Go.binOp, ne_eq, not_true_eq_false, if_false] at hb; exact (floatArith_no_int hb).elim
          · simp only [Go.binOp, ne_eq, not_true_eq_false, if_false] at hb; exact (floatArith_no_int hb).elim
          · simp only [Go.binOp, ne_eq, not_true_eq_false, if_false] at hb; exact (floatArith_no_int hb).elim
          all_goals (simp [Go.binOp, Op.floatCmp, stuck, pureOf] at hb)
        · rcases ho with rfl | rfl | rfl | rfl | rfl | rfl | rfl <;>
            (simp [Go.binOp, hij, stuck, pureOf] at hb)
      | _ => cases hb
    | string m =>
      cases y with
      | string n =>
        rcases ho with rfl | rfl | rfl | rfl | rfl | rfl | rfl <;> cases hb
      | _ => cases hb
    | bool m =>
      cases y with
      | bool n =>
        rcases ho with rfl | rfl | rfl | rfl | rfl | rfl | rfl <;> cases hb
      | _ => cases hb
    | _ => cases hb
  unfold wrapped at h
  split at h
  · simp only [E.den] at he; cases he; exact Int.natCast_nonneg _
  · exact key _ _ _ (by simp) he
  · exact key _ _ _ (by simp) he
  · exact key _ _ _ (by simp) he
  · exact key _ _ _ (by simp) he
  · exact key _ _ _ (by simp) he
  · exact key _ _ _ (by simp) he
  · exact key _ _ _ (by simp) he
  · cases h


theorem shiftA_sound {op : BinOp} {ty : Nat} {s t : Srt} {a b : E} {v : AV} {x y : Value} (h : shiftA op s t a b = some v) (hop : isShift op = true) (hx : (Cell.s s a).den Γ = some x) (hy : (Cell.s t b).den Γ = some y) :
    ∃ u, v.den Γ = some u ∧ ∀ (w : World) (p q : Operand), (eqGuard op ty p q x y).run C.P w = .ok () w ∧ (Go.binOp op ty x y).run C.P w = .ok u w := by
  unfold shiftA at h
  split at h
  case h_2 => cases h
  rename_i k j
  split at h
  case isFalse => cases h
  rename_i hh
  obtain ⟨h1, h2⟩ := Bool.and_eq_true_iff.1 hh
  cases h
  obtain ⟨hx1, hx2⟩ := den_s.1 hx
  obtain ⟨hy1, hy2⟩ := den_s.1 hy
  obtain ⟨m, rfl⟩ := has_int hx2
  obtain ⟨n, rfl⟩ := has_int hy2
  have hn := wrapped_nonneg h2 h1 hy1
  have hn' : ¬ n < 0 := by omega
  cases op <;> first | (cases hop; done) | skip
  · refine ⟨.int k (k.wrap (m * 2 ^ (min n.toNat k.bits))), den_s.2 ⟨?_, kindEq_refl k⟩, fun w p q => ⟨rfl, ?_⟩⟩
    · rw [mkBin_den]; simp [E.den, hx1, hy1, binV, Go.binOp, Op.shift, hn', pureOf, pure]
    · simp [Go.binOp, Op.shift, hn']
  · refine ⟨.int k (m.fdiv (2 ^ (min n.toNat k.bits))), den_s.2 ⟨?_, kindEq_refl k⟩, fun w p q => ⟨rfl, ?_⟩⟩
    · rw [mkBin_den]; simp [E.den, hx1, hy1, binV, Go.binOp, Op.shift, hn', pureOf, pure]
    · simp [Go.binOp, Op.shift, hn']

theorem ptrDen_some {σ : List Nat} {β : Nat → Nat} {p : Nat × Nat} {v : Value} (h : ptrDen σ β p = some v) : ∃ b, σ[p.1]? = some b ∧ v = .pointer (some ⟨b, β p.1 + p.2, none⟩) := by
  simp only [ptrDen, Option.map_eq_some_iff] at h
  obtain ⟨b, hb, rfl⟩ := h
  exact ⟨b, hb, rfl⟩

theorem den_ptr {id off : Nat} {v : Value} (h : (AV.one (.ptr id off)).den Γ = some v) : ∃ b, Γ.σ[id]? = some b ∧ v = .pointer (some ⟨b, Γ.β id + off, none⟩) := ptrDen_some h

theorem den_slice {id off len : Nat} {cap : N} {v : Value} (h : (AV.one (.slice id off len cap)).den Γ = some v) :
    ∃ b c, Γ.σ[id]? = some b ∧ cap.den Γ.ns = some c ∧ len ≤ c ∧ v = .slice (some ⟨b, Γ.β id + off, none⟩) len c := by
  rw [AV.den_one] at h
  simp only [Cell.den, Option.bind_eq_some_iff, sliceDen] at h
  obtain ⟨b, hb, c, hc, h⟩ := h
  split at h
  · rename_i hl; cases h; exact ⟨b, c, hb, hc, hl, rfl⟩
  · cases h

theorem den_c {u v : Value} (h : (AV.one (.c u)).den Γ = some v) : isNil u = true ∧ v = u := by
  rw [AV.den_one] at h
  simp only [Cell.den] at h
  split at h
  · rename_i hn; cases h; exact ⟨hn, rfl⟩
  · cases h

theorem isNil_slice {l c : Nat} (h : isNil (.slice none l c) = true) : l = 0 ∧ c = 0 := by
  cases l <;> cases c <;> first | exact ⟨rfl, rfl⟩ | cases h

theorem eqlA_sound (hE : EqOk C) {t : Nat} {x y : AV} {e : E} {p q : Value} (h : eqlA C t x y = some e) (hx : x.den Γ = some p) (hy : y.den Γ = some q) :
    ∃ b, e.den Γ.X Γ.vs = some (.bool b) ∧ ∀ (w : World) (op : BinOp) (o1 o2 : Operand), (eqGuard op t o1 o2 p q).run C.P w = .ok () w ∧ (Op.equal t p q).run C.P w = .ok b w ∧
      (Go.binOp .eql t p q = (do pure (.bool (← Op.equal t p q)))) ∧ (Go.binOp .neq t p q = (do pure (.bool (!(← Op.equal t p q))))) := by
  unfold eqlA at h
  split at h
  · rename_i l m
    split at h
    case h_2 => cases h
    rename_i ss hss
    simp only [AV.den, Option.map_eq_some_iff] at hx hy
    obtain ⟨xs, hxs, rfl⟩ := hx
    obtain ⟨ys, hys, rfl⟩ := hy
    obtain ⟨h1, h2, h3⟩ := eqCells_den h hxs hys
    exact ⟨_, h1, fun w op o1 o2 => ⟨(hE t ss hss xs ys h2 h3 op o1 o2 w).1, (hE t ss hss xs ys h2 h3 op o1 o2 w).2, rfl, rfl⟩⟩
  · rename_i c d
    cases hi : C.ti t with
    | none => simp only [hi] at h; cases h
    | some i =>
      simp only [hi] at h
      obtain ⟨info, dd, ok⟩ := tiOf_ok hi
      split at h
      · rename_i hk
        obtain ⟨el, rfl⟩ := kind_ptr (hk ▸ ok.kind)
        split at h
        · cases h
          obtain ⟨_, rfl⟩ := den_c hx
          obtain ⟨_, rfl⟩ := den_c hy
          refine ⟨true, rfl, fun w op o1 o2 => ⟨by cases op <;> rfl, run_equal_succ fun n => ?_, rfl, rfl⟩⟩
          unfold Op.equalIn
          rw [Sem.run_bind, ok.run_under]; rfl
        · cases h
          obtain ⟨b, _, rfl⟩ := den_ptr hx
          obtain ⟨_, rfl⟩ := den_c hy
          refine ⟨false, rfl, fun w op o1 o2 => ⟨by cases op <;> rfl, run_equal_succ fun n => ?_, rfl, rfl⟩⟩
          unfold Op.equalIn
          rw [Sem.run_bind, ok.run_under]; rfl
        · cases h
      · rename_i el hk
        obtain rfl := kind_slice (hk ▸ ok.kind)
        split at h
        · cases h
          obtain ⟨_, rfl⟩ := den_c hx
          obtain ⟨_, rfl⟩ := den_c hy
          refine ⟨true, rfl, fun w op o1 o2 => ⟨by cases op <;> rfl, run_equal_succ fun n => ?_, rfl, rfl⟩⟩
          unfold Op.equalIn
          rw [Sem.run_bind, ok.run_under]; rfl
        · cases h
          obtain ⟨b, c, _, _, _, rfl⟩ := den_slice hx
          obtain ⟨_, rfl⟩ := den_c hy
          refine ⟨false, rfl, fun w op o1 o2 => ⟨by cases op <;> rfl, run_equal_succ fun n => ?_, rfl, rfl⟩⟩
          unfold Op.equalIn
          rw [Sem.run_bind, ok.run_under]; rfl
        · cases h
      · cases h
  · cases h

theorem binA_sound (hE : EqOk C) {op : BinOp} {t : Nat} {x y v : AV} {p q : Value} (h : binA C op t x y = some v) (hx : x.den Γ = some p) (hy : y.den Γ = some q) :
    ∃ u, v.den Γ = some u ∧ ∀ (w : World) (o1 o2 : Operand), (eqGuard op t o1 o2 p q).run C.P w = .ok () w ∧ (Go.binOp op t p q).run C.P w = .ok u w := by
  unfold binA at h
  split at h
  · rename_i sx a sy b
    split at h
    · rename_i hop; exact shiftA_sound h hop hx hy
    · rename_i hop; exact scalA_sound h (by simpa using hop) hx hy
  · split at h
    · split at h
      · rename_i e he
        cases h
        obtain ⟨b, h1, h2⟩ := eqlA_sound hE he hx hy
        refine ⟨.bool b, den_s.2 ⟨h1, rfl⟩, fun w o1 o2 => ⟨(h2 w _ o1 o2).1, ?_⟩⟩
        rw [(h2 w .eql o1 o2).2.2.1, Sem.run_bind, (h2 w .eql o1 o2).2.1]; rfl
      · cases h
    · split at h
      · rename_i e he
        cases h
        obtain ⟨b, h1, h2⟩ := eqlA_sound hE he hx hy
        refine ⟨.bool (!b), den_s.2 ⟨?_, rfl⟩, fun w o1 o2 => ⟨(h2 w _ o1 o2).1, ?_⟩⟩
        · rw [mkNot_den]; simp [E.den, h1, notV]
        · rw [(h2 w .eql o1 o2).2.2.2, Sem.run_bind, (h2 w .eql o1 o2).2.1]; rfl
      · cases h
    · cases h

end
end Go.SX
