/- A symbolic executor for the model's code: operations that neither read nor turn memory do what 'valA' says, I: scalars. Conditions: none. -/
import Derived.Test.YtlfhlipdjjhldaaGreatDoorSxE
namespace Go.SX

theorem kindEq_eq {a b : IntKind} (h : kindEq a b = true) : a = b := by
  cases a <;> cases b <;> first | rfl | cases h

theorem Srt.eq_eq {a b : Srt} (h : a.eq b = true) : a = b := by
  cases a <;> cases b <;> first | rfl | cases h | skip
  rename_i k j
  rw [kindEq_eq (a := k) (b := j) h]

theorem has_int {k : IntKind} {v : Value} (h : Srt.has (.int k) v = true) : ∃ n, v = .int k n := by
  cases v with
  | int j n => exact ⟨n, by rw [kindEq_eq (a := k) (b := j) h]⟩
  | _ => cases h
theorem has_bool {v : Value} (h : Srt.has .bool v = true) : ∃ b, v = .bool b := by
  cases v with
  | bool b => exact ⟨b, rfl⟩
  | _ => cases h
theorem has_float {v : Value} (h : Srt.has .float v = true) : ∃ b, v = .float .f64 b := by
  cases v with
  | float k b => cases k with
    | f64 => exact ⟨b, rfl⟩
    | f32 => cases h
  | _ => cases h
theorem has_str {v : Value} (h : Srt.has .str v = true) : ∃ s, v = .string s := by
  cases v with
  | string b => exact ⟨b, rfl⟩
  | _ => cases h

theorem has_slc {v : Value} (h : Srt.has .slc v = true) : ∃ a n c, v = .slice a n c := by
  cases v with
  | slice a n c => exact ⟨a, n, c, rfl⟩
  | _ => cases h

theorem kindEq_refl (k : IntKind) : kindEq k k = true := by cases k <;> rfl

/-- What a cell of a sort denotes. -/
theorem den_s {Γ : Env} {t : Srt} {e : E} {v : Value} : (Cell.s t e).den Γ = some v ↔ e.den Γ.X Γ.vs = some v ∧ t.has v = true := by
  simp only [Cell.den, Option.bind_eq_some_iff]
  constructor
  · rintro ⟨x, hx, h⟩
    split at h
    · rename_i hh; cases h; exact ⟨hx, hh⟩
    · cases h
  · rintro ⟨h, hh⟩
    exact ⟨v, h, by rw [if_pos hh]⟩

theorem bytesEq_beq : ∀ (l m : List UInt8), bytesEq l m = (l == m)
  | [], [] => rfl
  | [], _ :: _ => rfl
  | _ :: _, [] => rfl
  | a :: l, b :: m => by
    show (Nat.beq a.toNat b.toNat && bytesEq l m) = ((a == b) && (l == m))
    rw [bytesEq_beq l m]
    congr 1
    rw [Bool.eq_iff_iff]
    constructor
    · intro h; exact beq_iff_eq.2 (UInt8.toNat_inj.1 (Nat.eq_of_beq_eq_true h))
    · intro h; rw [beq_iff_eq.1 h]; exact Nat.beq_refl _

theorem run_equal_succ {P : Program} {t : TypeId} {x y : Value} {w : World} {r : Result Bool} (h : ∀ d, (Op.equalIn (d + 1) t x y).run P w = r) : (Op.equal t x y).run P w = r := by
  have e : Op.maxDepth = 9999 + 1 := rfl
  unfold Op.equal
  rw [e]
  exact h 9999

theorem run_equal_bool {P : Program} {t : TypeId} {a b : Bool} (hu : P.underlying t = some .bool) (w : World) : (Op.equal t (.bool a) (.bool b)).run P w = .ok (a == b) w :=
  run_equal_succ fun d => by
    unfold Op.equalIn
    rw [Sem.run_bind, run_underlying hu w]
    rfl

/-- The model's operation on two scalars, where 'binV' tells one. -/
theorem binOp_scalar {op : BinOp} {s : Srt} {x y u : Value} (hx : s.has x = true) (hy : s.has y = true) (hs : s = .opq ∨ s = .slc → False) (h : binV op x y = some u) (hop : isShift op = false) (P : Program) (t : TypeId)
    (hu : s = .bool → P.underlying t = some .bool) (w : World) :
    (Go.binOp op t x y).run P w = .ok u w := by
  cases s with
  | int k =>
    obtain ⟨a, rfl⟩ := has_int hx
    obtain ⟨b, rfl⟩ := has_int hy
    have e : Go.binOp op t (.int k a) (.int k b) = Go.binOp op 0 (.int k a) (.int k b) := by cases op <;> rfl
    rw [e]
    simp only [binV] at h
    cases hb : Go.binOp op 0 (.int k a) (.int k b) with
    | pure z => rw [hb] at h; cases h; rfl
    | _ => rw [hb] at h; cases h
  | float =>
    obtain ⟨a, rfl⟩ := has_float hx
    obtain ⟨b, rfl⟩ := has_float hy
    have e : Go.binOp op t (.float .f64 a) (.float .f64 b) = Go.binOp op 0 (.float .f64 a) (.float .f64 b) := by cases op <;> rfl
    rw [e]
    simp only [binV] at h
    cases hb : Go.binOp op 0 (.float .f64 a) (.float .f64 b) with
    | pure z => rw [hb] at h; cases h; rfl
    | _ => rw [hb] at h; cases h
  | str =>
    obtain ⟨a, rfl⟩ := has_str hx
    obtain ⟨b, rfl⟩ := has_str hy
    have e : Go.binOp op t (.string a) (.string b) = Op.stringOp op a b := by cases op <;> rfl
    rw [e]
    simp only [binV] at h
    cases op <;> simp only [strV] at h <;> (first | (cases h; done) | skip)
    all_goals (cases h; simp [Op.stringOp, Go.ByteArray.toList_eq, bytesEq_beq])
  | bool =>
    obtain ⟨a, rfl⟩ := has_bool hx
    obtain ⟨b, rfl⟩ := has_bool hy
    have hu := hu rfl
    simp only [binV] at h
    have hr := run_equal_bool (a := a) (b := b) hu w
    cases op <;> simp only [boolV] at h <;> (first | (cases h; done) | skip)
    · cases h
      show (do pure (Value.bool (← Op.equal t (.bool a) (.bool b)))).run P w = _
      rw [Sem.run_bind, hr]; rfl
    · cases h
      show (do pure (Value.bool (!(← Op.equal t (.bool a) (.bool b))))).run P w = _
      rw [Sem.run_bind, hr]; rfl
  | opq => exact (hs (.inl rfl)).elim
  | slc => exact (hs (.inr rfl)).elim

theorem binV_int {op : BinOp} {k : IntKind} {a b : Int} {s : Srt} {e : E} (h : binSort op (.int k) e = some s) (hd : divisor e = true → b ≠ 0) :
    ∃ u, binV op (.int k a) (.int k b) = some u ∧ s.has u = true := by
  have hq : ∀ o, (o = .quo ∨ o = .rem) → b ≠ 0 → ∃ u, binV o (.int k a) (.int k b) = some u ∧ (Srt.int k).has u = true := by
    intro o ho hb
    rcases ho with rfl | rfl
    · refine ⟨.int k (k.wrap (a.tdiv b)), ?_, kindEq_refl k⟩
      simp [binV, Go.binOp, Op.intDiv, hb, pureOf, pure]
    · refine ⟨.int k (a.tmod b), ?_, kindEq_refl k⟩
      simp [binV, Go.binOp, Op.intDiv, hb, pureOf, pure]
  have ha : ∀ o u, (Go.binOp o 0 (.int k a) (.int k b) = .pure u) → binV o (.int k a) (.int k b) = some u := by
    intro o u ho
    simp only [binV, ho, pureOf]
  cases op <;> simp only [binSort] at h <;> (first | (cases h; done) | skip)
  case quo => split at h <;> cases h; rename_i hh; exact hq _ (.inl rfl) (hd hh)
  case rem => split at h <;> cases h; rename_i hh; exact hq _ (.inr rfl) (hd hh)
  all_goals cases h
  all_goals (refine ⟨_, ha _ _ (by simp [Go.binOp, Op.intArith, Op.intBits, Op.intCmp, pure]; rfl), ?_⟩)
  all_goals first | exact kindEq_refl k | rfl

theorem binV_float {op : BinOp} {a b : Nat} {s : Srt} {e : E} (h : binSort op .float e = some s) : ∃ u, binV op (.float .f64 a) (.float .f64 b) = some u ∧ s.has u = true := by
  cases op <;> simp only [binSort] at h <;> (first | (cases h; done) | skip)
  all_goals cases h
  all_goals (refine ⟨_, by simp [binV, Go.binOp, Op.floatCmp, pureOf, pure]; rfl, rfl⟩)

theorem binV_str {op : BinOp} {a b : ByteArray} {s : Srt} {e : E} (h : binSort op .str e = some s) : ∃ u, binV op (.string a) (.string b) = some u ∧ s.has u = true := by
  cases op <;> simp only [binSort] at h <;> (first | (cases h; done) | skip)
  all_goals cases h
  all_goals exact ⟨_, rfl, rfl⟩

theorem binV_bool {op : BinOp} {a b : Bool} {s : Srt} {e : E} (h : binSort op .bool e = some s) : ∃ u, binV op (.bool a) (.bool b) = some u ∧ s.has u = true := by
  cases op <;> simp only [binSort] at h <;> (first | (cases h; done) | skip)
  all_goals cases h
  all_goals exact ⟨_, rfl, rfl⟩

theorem divisor_lit {e : E} (h : divisor e = true) : ∃ k n, e = .lit (.int k (.ofNat (n + 1))) := by
  unfold divisor at h
  split at h
  · exact ⟨_, _, rfl⟩
  · cases h

theorem binV_sort {X : Ext} {vs : List Value} {op : BinOp} {s r : Srt} {e : E} {x y : Value} (hx : s.has x = true) (hy : s.has y = true) (he : e.den X vs = some y) (h : binSort op s e = some r) :
    ∃ u, binV op x y = some u ∧ r.has u = true := by
  cases s with
  | int k =>
    obtain ⟨a, rfl⟩ := has_int hx
    obtain ⟨b, rfl⟩ := has_int hy
    refine binV_int h fun hd => ?_
    obtain ⟨k', n, rfl⟩ := divisor_lit hd
    simp only [E.den] at he
    cases he
    exact fun hh => by cases hh
  | float =>
    obtain ⟨a, rfl⟩ := has_float hx
    obtain ⟨b, rfl⟩ := has_float hy
    exact binV_float h
  | str =>
    obtain ⟨a, rfl⟩ := has_str hx
    obtain ⟨b, rfl⟩ := has_str hy
    exact binV_str h
  | bool =>
    obtain ⟨a, rfl⟩ := has_bool hx
    obtain ⟨b, rfl⟩ := has_bool hy
    exact binV_bool h
  | opq => cases h
  | slc => cases h

theorem mkBin_den {X : Ext} {vs : List Value} (op : BinOp) (a b : E) : (mkBin op a b).den X vs = (E.bin op a b).den X vs := by
  unfold mkBin
  split
  · rename_i x y
    split
    · rename_i v hv
      simp [E.den, hv]
    · rfl
  · rfl

theorem mkNot_den {X : Ext} {vs : List Value} (a : E) : (mkNot a).den X vs = (E.not a).den X vs := by
  unfold mkNot
  split
  · simp [E.den, notV]
  · rfl

theorem mkConv_den {X : Ext} {vs : List Value} (k : IntKind) (a : E) : (mkConv k a).den X vs = (E.conv k a).den X vs := by
  unfold mkConv
  split
  · simp [E.den, convV]
  · rfl

theorem mkToF_den {X : Ext} {vs : List Value} (a : E) : (mkToF a).den X vs = (E.toF a).den X vs := by
  unfold mkToF
  split
  · simp [E.den, toFV]
  · rfl

theorem mkLen_den {X : Ext} {vs : List Value} (a : E) : (mkLen a).den X vs = (E.len a).den X vs := by
  unfold mkLen
  split
  · simp [E.den, lenV]
  · rfl

theorem mkExt_den {X : Ext} {vs : List Value} (f : Nat) (a : E) : (mkExt X f a).den X vs = (E.ext f a).den X vs := by
  unfold mkExt
  split
  · rename_i v
    split
    · rename_i u hu
      simp [E.den, hu]
    · rfl
  · rfl

/-! ### The model's guard on '==' does nothing at scalars -/

theorem eqGuard_scalar {s : Srt} {x y : Value} (hx : s.has x = true) (hs : s = .opq ∨ s = .slc → False) (op : BinOp) (t : TypeId) (p q : Operand) (P : Program) (w : World) :
    (eqGuard op t p q x y).run P w = .ok () w := by
  have h1 : (match x, y with
    | .nilIface, .nilIface => false
    | .agg _, .agg _ => false
    | _, _ => true) = true := by
    cases s with
    | int k => obtain ⟨a, rfl⟩ := has_int hx; rfl
    | bool => obtain ⟨a, rfl⟩ := has_bool hx; rfl
    | float => obtain ⟨a, rfl⟩ := has_float hx; rfl
    | str => obtain ⟨a, rfl⟩ := has_str hx; rfl
    | opq => exact (hs (.inl rfl)).elim
    | slc => exact (hs (.inr rfl)).elim
  unfold eqGuard
  cases x <;> cases y <;> (first | (cases h1; done) | skip)
  all_goals (cases op <;> rfl)

/-! ### Sameness of expressions -/

theorem opEq_eq {a b : BinOp} (h : opEq a b = true) : a = b := by cases a <;> cases b <;> first | rfl | cases h
theorem intEq_eq {a b : Int} (h : intEq a b = true) : a = b := by
  cases a <;> cases b <;> simp only [intEq] at h <;> first | cases h | rw [Nat.eq_of_beq_eq_true h]
theorem boolEq_eq {a b : Bool} (h : boolEq a b = true) : a = b := by cases a <;> cases b <;> first | rfl | cases h
theorem bytesEq_eq {a b : ByteArray} (h : bytesEq a.data.toList b.data.toList = true) : a = b := by
  rw [bytesEq_beq] at h
  obtain ⟨⟨l⟩⟩ := a
  obtain ⟨⟨m⟩⟩ := b
  have : l = m := by simpa using h
  rw [this]
theorem scalarEq_eq {a b : Value} (h : scalarEq a b = true) : a = b := by
  unfold scalarEq at h
  split at h
  · rw [boolEq_eq h]
  · simp only [Bool.and_eq_true] at h; rw [kindEq_eq h.1, intEq_eq h.2]
  · rw [Nat.eq_of_beq_eq_true h]
  · rw [bytesEq_eq h]
  · cases h

theorem E.eq_eq : ∀ {a b : E}, a.eq b = true → a = b := by
  intro a
  induction a with
  | lit v => intro b h; cases b <;> simp only [E.eq] at h <;> first | cases h | rw [scalarEq_eq h]
  | var i => intro b h; cases b <;> simp only [E.eq] at h <;> first | cases h | rw [Nat.eq_of_beq_eq_true h]
  | bin o x y ih1 ih2 => intro b h; cases b <;> simp only [E.eq, Bool.and_eq_true] at h <;> first | cases h; done | rw [opEq_eq h.1.1, ih1 h.1.2, ih2 h.2]
  | not x ih => intro b h; cases b <;> simp only [E.eq] at h <;> first | cases h; done | rw [ih h]
  | ite x y z ih1 ih2 ih3 => intro b h; cases b <;> simp only [E.eq, Bool.and_eq_true] at h <;> first | cases h; done | rw [ih1 h.1.1, ih2 h.1.2, ih3 h.2]
  | conv k x ih => intro b h; cases b <;> simp only [E.eq, Bool.and_eq_true] at h <;> first | cases h; done | rw [kindEq_eq h.1, ih h.2]
  | toF x ih => intro b h; cases b <;> simp only [E.eq] at h <;> first | cases h; done | rw [ih h]
  | len x ih => intro b h; cases b <;> simp only [E.eq] at h <;> first | cases h; done | rw [ih h]
  | pair x y ih1 ih2 => intro b h; cases b <;> simp only [E.eq, Bool.and_eq_true] at h <;> first | cases h; done | rw [ih1 h.1, ih2 h.2]
  | ext f x ih => intro b h; cases b <;> simp only [E.eq, Bool.and_eq_true] at h <;> first | cases h; done | rw [Nat.eq_of_beq_eq_true h.1, ih h.2]

theorem eqE_den {X : Ext} {vs : List Value} {s : Srt} {a b : E} {x y : Value} (ha : a.den X vs = some x) (hb : b.den X vs = some y) (hx : s.has x = true) (hs : s = .opq ∨ s = .slc → False) : (eqE s a b).den X vs = (E.bin .eql a b).den X vs := by
  have refl : E.eq a b = true → s ≠ .float → (E.lit (.bool true)).den X vs = (E.bin .eql a b).den X vs := by
    intro he hf
    have := E.eq_eq he
    subst this
    simp only [E.den, ha, Option.bind_some]
    cases s with
    | int k =>
      obtain ⟨n, rfl⟩ := has_int hx
      simp only [binV, Go.binOp, ne_eq, not_true_eq_false, if_false, Op.intCmp]
      show some (Value.bool true) = some (Value.bool (n == n))
      simp
    | float => exact absurd rfl hf
    | str =>
      obtain ⟨n, rfl⟩ := has_str hx
      simp [binV, strV, bytesEq_beq]
    | bool =>
      obtain ⟨n, rfl⟩ := has_bool hx
      simp [binV, boolV]
    | opq => exact (hs (.inl rfl)).elim
    | slc => exact (hs (.inr rfl)).elim
  unfold eqE
  split
  · exact mkBin_den _ _ _
  · split
    · rename_i hf he
      exact refl he (fun e => hf e)
    · exact mkBin_den _ _ _

theorem neqE_den {X : Ext} {vs : List Value} {s : Srt} {a b : E} {x y : Value} (ha : a.den X vs = some x) (hb : b.den X vs = some y) (hx : s.has x = true) (hs : s = .opq ∨ s = .slc → False) : (neqE s a b).den X vs = (E.bin .neq a b).den X vs := by
  have refl : E.eq a b = true → s ≠ .float → (E.lit (.bool false)).den X vs = (E.bin .neq a b).den X vs := by
    intro he hf
    have := E.eq_eq he
    subst this
    simp only [E.den, ha, Option.bind_some]
    cases s with
    | int k =>
      obtain ⟨n, rfl⟩ := has_int hx
      simp only [binV, Go.binOp, ne_eq, not_true_eq_false, if_false, Op.intCmp]
      show some (Value.bool false) = some (Value.bool (n != n))
      simp
    | float => exact absurd rfl hf
    | str =>
      obtain ⟨n, rfl⟩ := has_str hx
      simp [binV, strV, bytesEq_beq]
    | bool =>
      obtain ⟨n, rfl⟩ := has_bool hx
      simp [binV, boolV]
    | opq => exact (hs (.inl rfl)).elim
    | slc => exact (hs (.inr rfl)).elim
  unfold neqE
  split
  · exact mkBin_den _ _ _
  · split
    · rename_i hf he
      exact refl he (fun e => hf e)
    · exact mkBin_den _ _ _

theorem mkOp_den {X : Ext} {vs : List Value} {s : Srt} {op : BinOp} {a b : E} {x y : Value} (ha : a.den X vs = some x) (hb : b.den X vs = some y) (hx : s.has x = true) (hs : s = .opq ∨ s = .slc → False) : (mkOp s op a b).den X vs = (E.bin op a b).den X vs := by
  unfold mkOp
  split
  · exact eqE_den ha hb hx hs
  · exact neqE_den ha hb hx hs
  · exact mkBin_den _ _ _

end Go.SX
