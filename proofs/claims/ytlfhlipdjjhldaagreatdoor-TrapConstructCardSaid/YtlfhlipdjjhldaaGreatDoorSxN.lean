/- A symbolic executor for the model's code: sameness, what is decided, slots, results. Conditions: none beyond those of the parts before. -/
import Derived.Test.YtlfhlipdjjhldaaGreatDoorSxM
namespace Go.SX

/-! ### Sameness -/

theorem nilEq_eq {a b : Value} (h : nilEq a b = true) : a = b := by
  unfold nilEq at h
  split at h <;> first | rfl | skip
  · simp only [Bool.and_eq_true] at h; rw [Nat.eq_of_beq_eq_true h.1, Nat.eq_of_beq_eq_true h.2]
  · cases h

theorem N.eq_eq {a b : N} (h : a.eq b = true) : a = b := by
  cases a <;> cases b <;> simp only [N.eq] at h <;> first | cases h; done | rw [Nat.eq_of_beq_eq_true h]

theorem pairsEq_eq : ∀ {a b : List (Nat × Nat)}, pairsEq a b = true → a = b := by
  intro a
  induction a with
  | nil => intro b h; cases b <;> first | rfl | cases h
  | cons x l ih =>
    intro b h
    cases b with
    | nil => cases h
    | cons y m =>
      simp only [pairsEq, Bool.and_eq_true] at h
      rw [ih h.2, Prod.ext (Nat.eq_of_beq_eq_true h.1.1) (Nat.eq_of_beq_eq_true h.1.2)]

theorem Cell.eq_eq {a b : Cell} (h : a.eq b = true) : a = b := by
  cases a <;> cases b <;> simp only [Cell.eq, Bool.and_eq_true] at h <;> first | cases h; done | skip
  · rw [Srt.eq_eq h.1, E.eq_eq h.2]
  · rw [nilEq_eq h]
  · rw [Nat.eq_of_beq_eq_true h.1, Nat.eq_of_beq_eq_true h.2]
  · rw [Nat.eq_of_beq_eq_true h.1.1.1, Nat.eq_of_beq_eq_true h.1.1.2, Nat.eq_of_beq_eq_true h.1.2, N.eq_eq h.2]
  · rw [Nat.eq_of_beq_eq_true h]
  · rw [Nat.eq_of_beq_eq_true h.1, pairsEq_eq h.2]

theorem cellsEq_eq : ∀ {a b : List Cell}, cellsEq a b = true → a = b := by
  intro a
  induction a with
  | nil => intro b h; cases b <;> first | rfl | cases h
  | cons x l ih =>
    intro b h
    cases b with
    | nil => cases h
    | cons y m =>
      simp only [cellsEq, Bool.and_eq_true] at h
      rw [ih h.2, Cell.eq_eq h.1]

/-! ### What is decided -/

theorem known_sound {X : Ext} {vs : List Value} {c : E} : ∀ {facts : List (E × Bool)} {b : Bool}, (∀ p ∈ facts, p.1.den X vs = some (.bool p.2)) → known facts c = some b → c.den X vs = some (.bool b) := by
  intro facts
  induction facts with
  | nil => intro b _ h; cases h
  | cons p l ih =>
    intro b hf h
    obtain ⟨e, b'⟩ := p
    simp only [known] at h
    split at h
    · rename_i he
      cases h
      rw [← E.eq_eq he]
      exact hf (e, b) (by simp)
    · exact ih (fun p hp => hf p (List.mem_cons_of_mem _ hp)) h

theorem binV_neq {x y : Value} {r : Bool} : binV .neq x y = some (.bool r) ↔ binV .eql x y = some (.bool !r) := by
  unfold binV
  split
  · rename_i k a k' b
    by_cases hk : k = k'
    · subst hk
      simp only [Go.binOp, ne_eq, not_true_eq_false, if_false, Op.intCmp]
      show some (Value.bool (a != b)) = _ ↔ some (Value.bool (a == b)) = _
      unfold bne
      cases (a == b) <;> cases r <;> simp
    · simp only [Go.binOp, ne_eq, hk, not_false_eq_true, if_true]
      show none = _ ↔ none = _
      simp
  · rename_i k a k' b
    by_cases hk : k = k'
    · subst hk
      simp only [Go.binOp, ne_eq, not_true_eq_false, if_false, Op.floatCmp]
      show some (Value.bool (!Op.floatEq k a b)) = _ ↔ some (Value.bool (Op.floatEq k a b)) = _
      cases (Op.floatEq k a b) <;> cases r <;> simp
    · simp only [Go.binOp, ne_eq, hk, not_false_eq_true, if_true]
      show none = _ ↔ none = _
      simp
  · rename_i a b
    simp only [strV]
    cases (bytesEq a.data.toList b.data.toList) <;> cases r <;> simp
  · rename_i a b
    simp only [boolV]
    cases a <;> cases b <;> cases r <;> simp
  · simp

theorem binV_boolL {t : Bool} {y : Value} {r : Bool} : binV .eql (.bool t) y = some (.bool r) ↔ y = .bool (cond t r (!r)) := by
  cases y <;> simp [binV, boolV]
  rename_i b
  cases t <;> cases b <;> cases r <;> simp

theorem binV_boolR {t : Bool} {y : Value} {r : Bool} : binV .eql y (.bool t) = some (.bool r) ↔ y = .bool (cond t r (!r)) := by
  cases y <;> simp [binV, boolV]
  rename_i b
  cases t <;> cases b <;> cases r <;> simp

/-- Orders of integers. -/
theorem binV_ord {op : BinOp} {x y : Value} (h : op = .gtr ∨ op = .leq ∨ op = .geq) (hi : (∃ k n, x = .int k n) ∨ ∃ k n, y = .int k n) {r : Bool} :
    (op = .gtr → (binV op x y = some (.bool r) ↔ binV .lss y x = some (.bool r))) ∧ (op = .leq → (binV op x y = some (.bool r) ↔ binV .lss y x = some (.bool !r))) ∧
    (op = .geq → (binV op x y = some (.bool r) ↔ binV .lss x y = some (.bool !r))) := by
  have key : ∀ (k k' : IntKind) (a b : Int), x = .int k a → y = .int k' b → (op = .gtr → (binV op x y = some (.bool r) ↔ binV .lss y x = some (.bool r))) ∧ (op = .leq → (binV op x y = some (.bool r) ↔ binV .lss y x = some (.bool !r))) ∧
    (op = .geq → (binV op x y = some (.bool r) ↔ binV .lss x y = some (.bool !r))) := by
    rintro k k' a b rfl rfl
    by_cases hk : k = k'
    · subst hk
      refine ⟨?_, ?_, ?_⟩ <;> rintro rfl <;> simp only [binV, Go.binOp, ne_eq, not_true_eq_false, if_false, Op.intCmp]
      · show some (Value.bool (decide (a ≤ b))) = _ ↔ some (Value.bool (decide (b < a))) = _
        by_cases h : b < a
        · have : ¬ a ≤ b := by omega
          cases r <;> simp [h, this]
        · have : a ≤ b := by omega
          cases r <;> simp [h, this]
      · show some (Value.bool (decide (a ≥ b))) = _ ↔ some (Value.bool (decide (a < b))) = _
        by_cases h : a < b
        · have : ¬ a ≥ b := by omega
          cases r <;> simp [h, this]
        · have : a ≥ b := by omega
          cases r <;> simp [h, this]
    · have hk' : ¬ k' = k := fun e => hk e.symm
      refine ⟨?_, ?_, ?_⟩ <;> rintro rfl <;> simp only [binV, Go.binOp, ne_eq, hk, hk', not_false_eq_true, if_true]
      all_goals exact iff_of_false (fun h => by cases h) (fun h => by cases h)
  rcases hi with ⟨k, n, rfl⟩ | ⟨k, n, rfl⟩
  · cases y with
    | int k' b => exact key k k' n b rfl rfl
    | _ => refine ⟨?_, ?_, ?_⟩ <;> rintro rfl <;> simp [binV]
  · cases x with
    | int k' b => exact key k' k b n rfl rfl
    | _ => refine ⟨?_, ?_, ?_⟩ <;> rintro rfl <;> simp [binV]

def Bx (p b : Bool) : Bool := cond p (!b) b

theorem den_bin {X : Ext} {vs : List Value} {op : BinOp} {a b : E} {v : Value} : (E.bin op a b).den X vs = some v ↔ ∃ x y, a.den X vs = some x ∧ b.den X vs = some y ∧ binV op x y = some v := by
  simp only [E.den, Option.bind_eq_some_iff]
  constructor
  · rintro ⟨x, hx, y, hy, h⟩; exact ⟨x, y, hx, hy, h⟩
  · rintro ⟨x, y, hx, hy, h⟩; exact ⟨x, hx, y, hy, h⟩

theorem eqN_den {X : Ext} {vs : List Value} {na nb : E × Bool} {a b : E} (ha : ∀ r, a.den X vs = some (.bool r) ↔ na.1.den X vs = some (.bool (Bx na.2 r))) (hb : ∀ r, b.den X vs = some (.bool r) ↔ nb.1.den X vs = some (.bool (Bx nb.2 r))) (r : Bool) :
    (E.bin .eql a b).den X vs = some (.bool r) ↔ (eqN na nb a b).1.den X vs = some (.bool (Bx (eqN na nb a b).2 r)) := by
  unfold eqN
  split
  · rename_i t
    have h1 : (E.bin .eql (.lit (.bool t)) b).den X vs = some (.bool r) ↔ b.den X vs = some (.bool (cond t r (!r))) := by
      rw [den_bin]
      constructor
      · rintro ⟨x, y, hx, hy, h⟩
        cases hx
        rw [hy, binV_boolL.1 h]
      · intro h
        exact ⟨_, _, rfl, h, binV_boolL.2 rfl⟩
    rw [h1, hb]
    cases t <;> cases hn : nb.2 <;> cases r <;> simp [flipN, Bx, hn]
  · split
    · rename_i t
      have h1 : (E.bin .eql a (.lit (.bool t))).den X vs = some (.bool r) ↔ a.den X vs = some (.bool (cond t r (!r))) := by
        rw [den_bin]
        constructor
        · rintro ⟨x, y, hx, hy, h⟩
          cases hy
          rw [hx, binV_boolR.1 h]
        · intro h
          exact ⟨_, _, h, rfl, binV_boolR.2 rfl⟩
      rw [h1, ha]
      cases t <;> cases hn : na.2 <;> cases r <;> simp [flipN, Bx, hn]
    · simp [Bx]

theorem intLit_den {X : Ext} {vs : List Value} {e : E} {v : Value} (h : intLit e = true) (he : e.den X vs = some v) : ∃ k n, v = .int k n := by
  unfold intLit at h
  split at h
  · cases he; exact ⟨_, _, rfl⟩
  · cases h

theorem norm_den {X : Ext} {vs : List Value} : ∀ (c : E) (r : Bool), c.den X vs = some (.bool r) ↔ (norm c).1.den X vs = some (.bool (Bx (norm c).2 r)) := by
  intro c
  induction c with
  | not a ih =>
    intro r
    simp only [norm, flipN]
    have h1 : (E.not a).den X vs = some (.bool r) ↔ a.den X vs = some (.bool !r) := by
      simp only [E.den, Option.bind_eq_some_iff]
      constructor
      · rintro ⟨x, hx, h⟩
        cases x <;> simp [notV] at h
        rw [hx, ← h]; try simp
      · intro h; exact ⟨_, h, by simp [notV]⟩
    rw [h1, ih]
    cases (norm a).2 <;> cases r <;> simp [Bx]
  | bin op a b iha ihb =>
    intro r
    have same : (E.bin op a b).den X vs = some (.bool r) ↔ (E.bin op a b, false).1.den X vs = some (.bool (Bx (E.bin op a b, false).2 r)) := by simp [Bx]
    have ord : (op = .gtr ∨ op = .leq ∨ op = .geq) → (intLit a || intLit b) = true → (op = .gtr → ((E.bin op a b).den X vs = some (.bool r) ↔ (E.bin .lss b a).den X vs = some (.bool r))) ∧
        (op = .leq → ((E.bin op a b).den X vs = some (.bool r) ↔ (E.bin .lss b a).den X vs = some (.bool !r))) ∧ (op = .geq → ((E.bin op a b).den X vs = some (.bool r) ↔ (E.bin .lss a b).den X vs = some (.bool !r))) := by
      intro ho hl
      have hint : ∀ {x y : Value}, a.den X vs = some x → b.den X vs = some y → (∃ k n, x = .int k n) ∨ ∃ k n, y = .int k n := by
        intro x y hx hy
        simp only [Bool.or_eq_true] at hl
        exact hl.imp (fun h => intLit_den h hx) (fun h => intLit_den h hy)
      refine ⟨fun e => ?_, fun e => ?_, fun e => ?_⟩ <;> rw [den_bin, den_bin]
      · constructor
        · rintro ⟨x, y, hx, hy, h⟩; exact ⟨y, x, hy, hx, ((binV_ord ho (hint hx hy)).1 e).1 h⟩
        · rintro ⟨y, x, hy, hx, h⟩; exact ⟨x, y, hx, hy, ((binV_ord ho (hint hx hy)).1 e).2 h⟩
      · constructor
        · rintro ⟨x, y, hx, hy, h⟩; exact ⟨y, x, hy, hx, ((binV_ord ho (hint hx hy)).2.1 e).1 h⟩
        · rintro ⟨y, x, hy, hx, h⟩; exact ⟨x, y, hx, hy, ((binV_ord ho (hint hx hy)).2.1 e).2 h⟩
      · constructor
        · rintro ⟨x, y, hx, hy, h⟩; exact ⟨x, y, hx, hy, ((binV_ord ho (hint hx hy)).2.2 e).1 h⟩
        · rintro ⟨x, y, hx, hy, h⟩; exact ⟨x, y, hx, hy, ((binV_ord ho (hint hx hy)).2.2 e).2 h⟩
    cases op
    case eql => exact eqN_den iha ihb r
    case neq =>
      simp only [norm, flipN]
      have h1 : (E.bin .neq a b).den X vs = some (.bool r) ↔ (E.bin .eql a b).den X vs = some (.bool !r) := by
        rw [den_bin, den_bin]
        constructor
        · rintro ⟨x, y, hx, hy, h⟩; exact ⟨x, y, hx, hy, binV_neq.1 h⟩
        · rintro ⟨x, y, hx, hy, h⟩; exact ⟨x, y, hx, hy, binV_neq.2 h⟩
      rw [h1, eqN_den iha ihb]
      cases (eqN (norm a) (norm b) a b).2 <;> cases r <;> simp [Bx]
    case gtr =>
      simp only [norm]
      split
      · rename_i hl; rw [(ord (.inl rfl) hl).1 rfl]; simp [Bx]
      · exact same
    case leq =>
      simp only [norm]
      split
      · rename_i hl; rw [(ord (.inr (.inl rfl)) hl).2.1 rfl]; simp [Bx]
      · exact same
    case geq =>
      simp only [norm]
      split
      · rename_i hl; rw [(ord (.inr (.inr rfl)) hl).2.2 rfl]; simp [Bx]
      · exact same
    all_goals exact same
  | _ => intro r; simp [norm, Bx]

theorem concH_sound {X : Ext} {vs : List Value} {c : E} {H : E → Bool} (hH : ∀ a, H a = true → a.den X vs = some (.bool true)) : ∀ {d : E} {b : Bool}, concH H c d = some b → d.den X vs = some (.bool true) → c.den X vs = some (.bool b) := by
  intro d
  have same : ∀ {d : E} {b : Bool}, (if d.eq c then some true else none) = some b → d.den X vs = some (.bool true) → c.den X vs = some (.bool b) := by
    intro d b h hd
    split at h
    · rename_i he
      cases h
      rw [← E.eq_eq he]; exact hd
    · cases h
  induction d with
  | ite a d r iha ihd ihr =>
    intro b h hd
    simp only [concH] at h
    split at h
    · rename_i b' hb
      split at h
      case isFalse => cases h
      rename_i hc
      cases h
      simp only [Bool.and_eq_true] at hc
      have ha := hH _ hc.2
      simp only [E.den, ha, iteV] at hd
      exact ihd hb hd
    · cases h
  | not d ih =>
    intro b h hd
    simp only [concH] at h
    split at h
    · rename_i he
      cases h
      rw [← E.eq_eq he]
      simp only [E.den, Option.bind_eq_some_iff] at hd
      obtain ⟨x, hx, hn⟩ := hd
      cases x <;> simp [notV] at hn
      rw [hx, hn]
    · cases h
  | _ => intro b h hd; exact same h hd

theorem byImpH_sound {X : Ext} {vs : List Value} {c : E} {H : E → Bool} (hH : ∀ a, H a = true → a.den X vs = some (.bool true)) : ∀ {l : List (E × Bool)} {b : Bool}, (∀ p ∈ l, p.1.den X vs = some (.bool p.2)) → byImpH H c l = some b → c.den X vs = some (.bool b) := by
  intro l
  induction l with
  | nil => intro b _ h; cases h
  | cons p l ih =>
    intro b hl h
    obtain ⟨e, x⟩ := p
    have hl' : ∀ p ∈ l, p.1.den X vs = some (.bool p.2) := fun p hp => hl p (List.mem_cons_of_mem _ hp)
    have he := hl (e, x) List.mem_cons_self
    cases e with
    | ite a d r =>
      simp only [byImpH] at h
      cases x with
      | true =>
        simp only at h
        cases hc : concH H c (.ite a d r) with
        | some y => rw [hc] at h; cases h; exact concH_sound hH hc he
        | none => rw [hc] at h; exact ih hl' h
      | false => exact ih hl' h
    | _ => exact ih hl' h

theorem holdsK_sound {X : Ext} {vs : List Value} {c : E} {facts : List (E × Bool)} (hf : ∀ p ∈ facts, p.1.den X vs = some (.bool p.2)) (h : holdsK facts c = true) : c.den X vs = some (.bool true) := by
  unfold holdsK at h
  split at h
  rename_i e p hn
  split at h
  · rename_i b' hd
    have h1 := known_sound hf hd
    rw [norm_den, hn, h1]
    cases p <;> cases b' <;> first | rfl | cases h
  · cases h

theorem knownK_sound {X : Ext} {vs : List Value} {c : E} {facts : List (E × Bool)} {b : Bool} (hf : ∀ p ∈ facts, p.1.den X vs = some (.bool p.2)) (h : knownK facts c = some b) : c.den X vs = some (.bool b) := by
  unfold knownK at h
  split at h
  · rename_i hk; cases h; exact known_sound hf hk
  · exact byImpH_sound (fun a ha => holdsK_sound hf ha) hf h

theorem tableV_sound {X : Ext} {vs : List Value} {facts : List (E × Bool)} (hf : ∀ p ∈ facts, p.1.den X vs = some (.bool p.2)) : ∀ {e : E} {v : Value}, tableV facts e = some v → e.den X vs = some v ∧ ∃ k n, v = .int k n := by
  intro e
  induction e with
  | lit u =>
    intro v h
    cases u <;> simp only [tableV] at h <;> first | (cases h; done) | skip
    cases h
    exact ⟨rfl, _, _, rfl⟩
  | ite c a b _ iha ihb =>
    intro v h
    simp only [tableV] at h
    split at h
    · rename_i hk
      have hc := knownK_sound hf hk
      obtain ⟨h1, h2⟩ := iha h
      refine ⟨?_, h2⟩
      simp only [E.den, hc, iteV]
      exact h1
    · rename_i hk
      have hc := knownK_sound hf hk
      obtain ⟨h1, h2⟩ := ihb h
      refine ⟨?_, h2⟩
      simp only [E.den, hc, iteV]
      exact h1
    · cases h
  | _ => intro v h; simp only [tableV] at h; cases h

theorem knownIn_sound {X : Ext} {vs : List Value} {all : List (E × Bool)} (hall : ∀ p ∈ all, p.1.den X vs = some (.bool p.2)) {a : E} : ∀ {facts : List (E × Bool)} {v : Value}, (∀ p ∈ facts, p.1.den X vs = some (.bool p.2)) → knownIn all facts a = some v → a.den X vs = some v := by
  intro facts
  induction facts with
  | nil => intro v _ h; cases h
  | cons p l ih =>
    intro v hf h
    obtain ⟨e, b⟩ := p
    have hl : ∀ p ∈ l, p.1.den X vs = some (.bool p.2) := fun p hp => hf p (List.mem_cons_of_mem _ hp)
    simp only [knownIn] at h
    split at h
    · rename_i op x y
      split at h
      · rename_i hc
        simp only [Bool.and_eq_true] at hc
        obtain ⟨⟨rfl, hop⟩, hx⟩ := hc
        have hop := opEq_eq hop
        subst hop
        split at h
        · rename_i w ht
          cases h
          have hx := E.eq_eq hx
          subst hx
          obtain ⟨y', z, hy, hz, hb⟩ := den_bin.1 (hf _ List.mem_cons_self)
          obtain ⟨h1, k, n, rfl⟩ := tableV_sound hall ht
          rw [h1] at hz
          cases hz
          rw [hy]
          cases y' <;> simp [binV] at hb
          rename_i k' m
          by_cases hk : k' = k
          · subst hk
            simp only [Go.binOp, ne_eq, not_true_eq_false, if_false, Op.intCmp] at hb
            have hb : some (Value.bool (m == n)) = some (.bool true) := hb
            simp at hb
            rw [hb]
          · simp only [Go.binOp, ne_eq, hk, not_false_eq_true, if_true] at hb
            cases hb
        · exact ih hl h
      · exact ih hl h
    · exact ih hl h

theorem knownInt_sound {X : Ext} {vs : List Value} {a : E} {facts : List (E × Bool)} {v : Value} (hf : ∀ p ∈ facts, p.1.den X vs = some (.bool p.2)) (h : knownInt facts a = some v) : a.den X vs = some v := knownIn_sound hf hf h

theorem isBool_some {v : Option Value} {b : Bool} (h : isBool v = some b) : v = some (.bool b) := by
  unfold isBool at h
  split at h
  · cases h; rfl
  · cases h

theorem knownV_sound {X : Ext} {vs : List Value} {facts : List (E × Bool)} (hf : ∀ p ∈ facts, p.1.den X vs = some (.bool p.2)) : ∀ {e : E} {v : Value}, knownV facts e = some v → e.den X vs = some v := by
  intro e
  induction e with
  | lit v => intro u h; exact h
  | var i => intro u h; exact knownInt_sound hf h
  | bin op a b iha ihb =>
    intro u h
    have h : Option.rec (motive := fun _ => Option Value)
      (Option.rec (motive := fun _ => Option Value) none (fun x => Option.rec (motive := fun _ => Option Value) none (fun y => binV op x y) (knownV facts b)) (knownV facts a))
      (fun v => some v) (knownInt facts (.bin op a b)) = some u := h
    cases hk : knownInt facts (.bin op a b) with
    | some v =>
      rw [hk] at h
      cases h
      exact knownInt_sound hf hk
    | none =>
      rw [hk] at h
      cases ha : knownV facts a with
      | none => rw [ha] at h; cases h
      | some x =>
        cases hb : knownV facts b with
        | none => rw [ha, hb] at h; cases h
        | some y =>
          rw [ha, hb] at h
          exact den_bin.2 ⟨x, y, iha ha, ihb hb, h⟩
  | not a _ => intro u h; cases h
  | ite c a b _ _ _ => intro u h; cases h
  | conv k a iha =>
    intro u h
    have h : Option.rec (motive := fun _ => Option Value) (Option.rec (motive := fun _ => Option Value) none (fun x => convV k x) (knownV facts a)) (fun v => some v) (knownInt facts (.conv k a)) = some u := h
    cases hk : knownInt facts (.conv k a) with
    | some v =>
      rw [hk] at h
      cases h
      exact knownInt_sound hf hk
    | none =>
      rw [hk] at h
      cases ha : knownV facts a with
      | none => rw [ha] at h; cases h
      | some x =>
        rw [ha] at h
        simp only [E.den, iha ha]
        exact h
  | toF a _ => intro u h; cases h
  | len a _ => intro u h; exact knownInt_sound hf h
  | ext f a _ => intro u h; exact knownInt_sound hf h
  | pair a b _ _ => intro u h; cases h

theorem byInt_sound {X : Ext} {vs : List Value} {c : E} {facts : List (E × Bool)} {b : Bool} (hf : ∀ p ∈ facts, p.1.den X vs = some (.bool p.2)) (h : byInt facts c = some b) : c.den X vs = some (.bool b) := by
  unfold byInt at h
  split at h
  · exact knownV_sound hf (isBool_some h)
  · cases h

theorem order_self {d e : Ieee.Datum} {r : Ordering} (h : d.order e = some r) : d.order d = some .eq := by
  cases d with
  | nan s f => cases e <;> simp [Ieee.Datum.order] at h
  | infinity s => cases s <;> rfl
  | number s m i => simp [Ieee.Datum.order, compare, compareOfLessAndEq]

theorem binV_self {x y : Value} (h : binV .eql x y = some (.bool true)) : binV .eql x x = some (.bool true) := by
  unfold binV at h
  split at h
  · rename_i k a k' b
    simp only [binV, Go.binOp, ne_eq, not_true_eq_false, if_false, Op.intCmp]
    show some (Value.bool (a == a)) = _
    simp
  · rename_i k a k' b
    by_cases hk : k = k'
    · subst hk
      simp only [Go.binOp, ne_eq, not_true_eq_false, if_false, Op.floatCmp] at h
      have h : some (Value.bool (((k.decode a).order (k.decode b)) == some .eq)) = some (.bool true) := h
      have h1 : (k.decode a).order (k.decode b) = some .eq := by simpa using h
      have h2 := order_self h1
      simp only [binV, Go.binOp, ne_eq, not_true_eq_false, if_false, Op.floatCmp]
      show some (Value.bool (((k.decode a).order (k.decode a)) == some .eq)) = _
      rw [h2]; rfl
    · simp only [Go.binOp, ne_eq, hk, not_false_eq_true, if_true] at h
      cases h
  · rename_i a b
    simp [binV, strV, bytesEq_beq]
  · simp [binV, boolV]
  · cases h

theorem knownSelf_sound {X : Ext} {vs : List Value} {a : E} : ∀ {facts : List (E × Bool)}, (∀ p ∈ facts, p.1.den X vs = some (.bool p.2)) → knownSelf a facts = true → ∃ v, a.den X vs = some v ∧ binV .eql v v = some (.bool true) := by
  intro facts
  induction facts with
  | nil => intro _ h; cases h
  | cons p l ih =>
    intro hf h
    obtain ⟨e, b⟩ := p
    have hl : ∀ p ∈ l, p.1.den X vs = some (.bool p.2) := fun p hp => hf p (List.mem_cons_of_mem _ hp)
    have he := hf (e, b) List.mem_cons_self
    cases e with
    | bin op x y =>
      simp only [knownSelf, Bool.or_eq_true, Bool.and_eq_true] at h
      rcases h with ⟨⟨rfl, hop⟩, h⟩ | h
      · obtain rfl := opEq_eq hop
        obtain ⟨p, q, hp, hq, hb⟩ := den_bin.1 he
        rw [E.eq_eq h] at hp
        exact ⟨p, hp, binV_self hb⟩
      · exact ih hl h
    | _ => exact ih hl h

theorem bySelf_sound {X : Ext} {vs : List Value} {c : E} {facts : List (E × Bool)} {b : Bool} (hf : ∀ p ∈ facts, p.1.den X vs = some (.bool p.2)) (h : bySelf facts c = some b) : c.den X vs = some (.bool b) := by
  unfold bySelf at h
  split at h
  · split at h
    case isFalse => cases h
    rename_i hc
    cases h
    simp only [Bool.and_eq_true] at hc
    obtain ⟨⟨hop, hab⟩, hk⟩ := hc
    obtain rfl := opEq_eq hop
    obtain rfl := E.eq_eq hab
    obtain ⟨v, hv, hs⟩ := knownSelf_sound hf hk
    exact den_bin.2 ⟨v, v, hv, hv, hs⟩
  · cases h

theorem decide0_sound {X : Ext} {vs : List Value} {c : E} {facts : List (E × Bool)} {b : Bool} (hf : ∀ p ∈ facts, p.1.den X vs = some (.bool p.2)) (h : decide0 facts c = some b) : c.den X vs = some (.bool b) := by
  unfold decide0 at h
  split at h
  · cases h; rfl
  · split at h
    · rename_i hk; cases h; exact known_sound hf hk
    · split at h
      · rename_i hk; cases h; exact byInt_sound hf hk
      · exact bySelf_sound hf h

theorem holds0_sound {X : Ext} {vs : List Value} {c : E} {facts : List (E × Bool)} (hf : ∀ p ∈ facts, p.1.den X vs = some (.bool p.2)) (h : holds0 facts c = true) : c.den X vs = some (.bool true) := by
  unfold holds0 at h
  split at h
  rename_i e p hn
  split at h
  · rename_i b' hd
    have h1 := decide0_sound hf hd
    rw [norm_den, hn, h1]
    cases p <;> cases b' <;> first | rfl | cases h
  · cases h

theorem decideN_sound {X : Ext} {vs : List Value} {c : E} {facts : List (E × Bool)} {b : Bool} (hf : ∀ p ∈ facts, p.1.den X vs = some (.bool p.2)) (h : decideN facts c = some b) : c.den X vs = some (.bool b) := by
  unfold decideN at h
  split at h
  · rename_i hk; cases h; exact decide0_sound hf hk
  · exact byImpH_sound (fun a ha => holds0_sound hf ha) hf h

theorem decideE_sound {X : Ext} {vs : List Value} {c : E} {facts : List (E × Bool)} {b : Bool} (hf : ∀ p ∈ facts, p.1.den X vs = some (.bool p.2)) (h : decideE facts c = some b) : c.den X vs = some (.bool b) := by
  unfold decideE at h
  split at h
  rename_i e p hn
  split at h
  · rename_i b' hd
    cases h
    have h1 := decideN_sound hf hd
    rw [norm_den, hn, h1]
    cases p <;> cases b' <;> rfl
  · cases h

theorem binV_cmp {op : BinOp} {x y v : Value} (ho : isCmp op = true) (h : binV op x y = some v) : ∃ b, v = .bool b := by
  unfold binV at h
  split at h
  · rename_i k a k' b
    by_cases hk : k = k'
    · subst hk
      cases op <;> first | (cases ho; done) | (simp only [Go.binOp, ne_eq, not_true_eq_false, if_false, Op.intCmp] at h; cases h; exact ⟨_, rfl⟩)
    · cases op <;> first | (cases ho; done) | (simp only [Go.binOp, ne_eq, hk, not_false_eq_true, if_true] at h; cases h)
  · rename_i k a k' b
    by_cases hk : k = k'
    · subst hk
      cases op <;> first | (cases ho; done) | (simp only [Go.binOp, ne_eq, not_true_eq_false, if_false, Op.floatCmp] at h; cases h; exact ⟨_, rfl⟩)
    · cases op <;> first | (cases ho; done) | (simp only [Go.binOp, ne_eq, hk, not_false_eq_true, if_true] at h; cases h)
  · cases op <;> first | (cases ho; done) | (cases h; exact ⟨_, rfl⟩)
  · cases op <;> first | (cases h; done) | (cases h; exact ⟨_, rfl⟩)
  · cases h

theorem isCond_den {X : Ext} {vs : List Value} {e : E} {v : Value} (h : isCond e = true) (he : e.den X vs = some v) : ∃ b, v = .bool b := by
  unfold isCond at h
  split at h
  · obtain ⟨x, y, _, _, hb⟩ := den_bin.1 he
    exact binV_cmp h hb
  · simp only [E.den, Option.bind_eq_some_iff] at he
    obtain ⟨x, _, hn⟩ := he
    cases x <;> simp [notV] at hn
    exact ⟨_, hn.symm⟩
  · cases h

/-! ### What a tree says -/

/-- 'R': what is taken for granted of a function that is taken by a contract; 'L': what is asked of a leaf. -/
def Holds (X : Ext) (R : Nat → List Value → List Value → Prop) (L : St → AV → List Value → List Nat → Prop) : Tree → List Value → List Nat → Prop
  | .leaf st v, vs, ns => L st v vs ns
  | .fork c t f, vs, ns => ∀ b, c.den X vs = some (.bool b) → (b = true → Holds X R L t vs ns) ∧ (b = false → Holds X R L f vs ns)
  | .spec g args rest, vs, ns => ∀ (σ : List Nat) (β : Nat → Nat) (xs outs : List Value), avsDen ⟨X, σ, vs, ns, β⟩ args = some xs → R g xs outs → Holds X R L rest (vs ++ outs) ns
  | .cap lo rest, vs, ns => ∀ c, lo ≤ c → Holds X R L rest vs (ns ++ [c])
  | .fail _, _, _ => False

theorem holds_isTrue {X : Ext} {R : Nat → List Value → List Value → Prop} : ∀ {t : Tree} {vs : List Value} {ns : List Nat}, t.isTrue = true →
    Holds X R (fun _ v _ _ => v = boolLit true) t vs ns := by
  intro t
  induction t with
  | leaf st v =>
    intro vs ns h
    unfold Tree.isTrue at h
    split at h <;> rename_i heq <;> first | (cases heq; rfl) | (cases heq; done) | (cases h; done)
  | fork c a b iha ihb =>
    intro vs ns h
    simp only [Tree.isTrue, Bool.and_eq_true] at h
    exact fun b _ => ⟨fun _ => iha h.1, fun _ => ihb h.2⟩
  | spec f args rest ih => intro vs ns h; exact fun _ _ _ _ _ _ => ih h
  | cap lo rest ih => intro vs ns h; exact fun _ _ => ih h
  | fail s => intro vs ns h; cases h

/-! ### Slots -/

/-- The slots hold what is known of them, but for those in 'D'. -/
structure TRel (D : Nat → Prop) (Γ : Env) (st : St) (a : Act) : Prop where
  size : a.tmps.size = st.ntm
  den : ∀ t, ¬ D t → (getA st.tmps t).den Γ = some (a.tmps.getD t undef)
  defers : a.defers = []

def noSlot : Nat → Prop := fun _ => False

section
variable {S : Nat → Prop} {B : World} {C : Cfg} {Γ Γ' : Env} {st st' : St} {w : World} {a : Act} {D D' : Nat → Prop}

theorem TRel.mono (h : TRel D Γ st a) (hle : Γ.le Γ') (h1 : st'.tmps = st.tmps) (h2 : st'.ntm = st.ntm) (hD : ∀ t, D t → D' t) : TRel D' Γ' st' a :=
  ⟨h2 ▸ h.size, fun t ht => by rw [h1]; exact AV.den_mono hle (h.den t fun hd => ht (hD t hd)), h.defers⟩

theorem getA_put {t : T AV} {d s : Nat} {v : AV} (h : d ≤ room) : getA (t.put d (some v)) s = if s = d then v else getA t s := by
  unfold getA
  rw [T.get_put _ _ _ _ h]
  by_cases hs : s = d <;> simp [hs]

theorem setTmp_sound (hT : TRel D Γ st a) {d : Option Nat} {v : AV} {u : Value} (h : setTmp st d v = some st') (hv : v.den Γ = some u) (hD : ∀ t, D t → d = some t ∨ D' t) :
    TRel D' Γ st' (a.put d u) ∧ st'.heap = st.heap ∧ st'.nh = st.nh ∧ st'.nv = st.nv ∧ st'.nn = st.nn ∧ st'.facts = st.facts ∧ st'.ntm = st.ntm := by
  unfold setTmp at h
  cases d with
  | none =>
    cases h
    exact ⟨hT.mono (Env.le.refl Γ) rfl rfl fun t ht => (hD t ht).resolve_left (by simp), rfl, rfl, rfl, rfl, rfl, rfl⟩
  | some d =>
    obtain ⟨tmps, ntm, heap, nh, nv, nn, facts⟩ := st
    simp only at h
    split at h
    case isFalse => cases h
    rename_i hc
    simp only [Bool.and_eq_true] at hc
    have h1 : d + 1 ≤ ntm := Nat.le_of_ble_eq_true hc.1
    have h2 : d ≤ room := Nat.le_of_ble_eq_true hc.2
    cases h
    refine ⟨⟨by simpa [Act.put] using hT.size, fun t ht => ?_, hT.defers⟩, rfl, rfl, rfl, rfl, rfl, rfl⟩
    have hsz : a.tmps.size = ntm := hT.size
    show (getA (tmps.put d (some v)) t).den Γ = some ((a.tmps.setIfInBounds d u).getD t undef)
    rw [getA_put h2]
    split
    · rename_i e
      subst e
      rw [hv]
      have : t < a.tmps.size := by omega
      simp [Array.getD_eq_getD_getElem?, this]
    · rename_i e
      have hd : ¬ D t := fun hd => by
        rcases hD t hd with h3 | h3
        · exact e (Option.some.inj h3).symm
        · exact ht h3
      have h4 := hT.den t hd
      rw [Array.getD_eq_getD_getElem?, Array.getElem?_setIfInBounds_ne (Ne.symm e), ← Array.getD_eq_getD_getElem?]
      exact h4

/-! ### Results -/

/-- A result, as the model reads it. -/
def resOf (a : Act) : ResultVar → Sem Value
  | .tmp t => pure (a.tmps.getD t undef)
  | .cell x t => do loadVar t (← asAddr (a.tmps.getD x undef))

theorem resultA_sound (hM : MRel S B C Γ st w) (hT : TRel noSlot Γ st a) {r : ResultVar} {v : AV} (h : resultA C st r = some v) :
    ∃ u, v.den Γ = some u ∧ (resOf a r).run C.P w = .ok u w := by
  cases r with
  | tmp t =>
    cases h
    exact ⟨_, hT.den t id, by simp [resOf]⟩
  | cell x t =>
    simp only [resultA] at h
    obtain ⟨u, h1, h2, b, h3, h4⟩ := readA_sound hM h (hT.den x id)
    refine ⟨u, h1, ?_⟩
    simp [resOf, h3, asAddr, h4]

theorem resultsA_sound (hM : MRel S B C Γ st w) (hT : TRel noSlot Γ st a) : ∀ {l : List ResultVar} {vs : List AV}, resultsA C st l = some vs →
    ∃ us, avsDen Γ vs = some us ∧ us.length = vs.length ∧ (l.mapM (resOf a)).run C.P w = .ok us w := by
  intro l
  induction l with
  | nil => intro vs h; cases h; exact ⟨[], rfl, rfl, by simp⟩
  | cons r l ih =>
    intro vs h
    simp only [resultsA] at h
    cases h1 : resultA C st r with
    | none => rw [h1] at h; cases h
    | some v =>
      rw [h1] at h
      cases h2 : resultsA C st l with
      | none => simp only [h2] at h; cases h
      | some m =>
        simp only [h2] at h
        cases h
        obtain ⟨u, hu, hr⟩ := resultA_sound hM hT h1
        obtain ⟨us, hus, hlen, hrs⟩ := ih h2
        refine ⟨u :: us, by simp [avsDen, hu, hus], by simp [hlen], ?_⟩
        rw [List.mapM_cons]
        simp only [Sem.run_bind, hr, hrs, Result.andThen_ok, Sem.run_pure]

theorem partOf_den {v : AV} {p : Bool × List Cell} {u : Value} (h : partOf v = some p) (hv : v.den Γ = some u) : partDen Γ p = some u := by
  cases v with
  | one c => cases h; exact hv
  | agg cs => cases h; exact hv
  | tup vs => cases h

theorem partsOf_den : ∀ {l : List AV} {m : List (Bool × List Cell)} {us : List Value}, partsOf l = some m → avsDen Γ l = some us → partsDen Γ m = some us := by
  intro l
  induction l with
  | nil => intro m us h hv; cases h; cases hv; rfl
  | cons v l ih =>
    intro m us h hv
    simp only [partsOf] at h
    cases h1 : partOf v with
    | none => rw [h1] at h; cases h
    | some p =>
      rw [h1] at h
      cases h2 : partsOf l with
      | none => simp only [h2] at h; cases h
      | some m' =>
        simp only [h2] at h
        cases h
        simp only [avsDen, Option.bind_eq_some_iff, Option.map_eq_some_iff] at hv
        obtain ⟨u, hu, us', hus, rfl⟩ := hv
        simp [partsDen, partOf_den h1 hu, ih h2 hus]

theorem returned_sound (hM : MRel S B C Γ st w) (hT : TRel noSlot Γ st a) {fn : Func} {v : AV} (h : returned C fn st = some v) :
    ∃ u, v.den Γ = some u ∧ (results fn a.tmps).run C.P w = .ok u w := by
  unfold returned at h
  cases h1 : resultsA C st fn.results.toList with
  | none => rw [h1] at h; cases h
  | some l =>
    rw [h1] at h
    simp only at h
    obtain ⟨us, hus, hlen, hr⟩ := resultsA_sound hM hT h1
    have hrun : ∀ u, (if h : us.toArray.size = 1 then us.toArray[0] else Value.tuple us.toArray) = u → (results fn a.tmps).run C.P w = .ok u w := by
      intro u hu
      have e : results fn a.tmps = (do let vs ← fn.results.mapM (resOf a); pure (if h : vs.size = 1 then vs[0] else .tuple vs)) := by
        unfold results
        congr 2
      rw [e, ← hu, Array.mapM_eq_mapM_toList]
      simp [hr]
    unfold joinA at h
    split at h
    · cases h
      cases hus
      exact ⟨_, rfl, hrun _ (by simp)⟩
    · cases h
      rename_i v'
      simp only [avsDen, Option.bind_eq_some_iff, Option.map_eq_some_iff] at hus
      obtain ⟨u, hu, us', hus', rfl⟩ := hus
      cases hus'
      exact ⟨u, hu, hrun _ (by simp)⟩
    · split at h
      case h_2 => cases h
      rename_i v1 v2 l' m hm
      cases h
      refine ⟨.tuple us.toArray, by simp [AV.den, partsOf_den hm hus], hrun _ ?_⟩
      rw [dif_neg]
      simp only [List.length_cons] at hlen
      simp
      omega

end
end Go.SX
