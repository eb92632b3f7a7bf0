/- A symbolic executor for the model's code: a region that draws its order, with what loads taken ahead of their turn ask of the world. Conditions: none. After the kit's Derived/OrdersHeld. -/
import Derived.OrdersHeld
import Derived.Test.YtlfhlipdjjhldaaGreatDoorSxN
namespace Go.SX

/-- Loads that were taken ahead: their numbers, what they ask of the world. -/
abbrev HL := List (Nat × (World → Prop))

section
variable {P : Program} {ops : Array Oper} {Q : Exit → Act → World → Prop}

/-- Does number 'j' wait for number 'i'? -/
def waitsOn (ops : Array Oper) (j i : Nat) : Bool :=
  match ops[j]? with
  | some o => o.after.any fun e => Region.binds .any e && e.on == i
  | none => false

/-- Those that number 'j' does not wait for. -/
def stay (ops : Array Oper) (j : Nat) (H : HL) : HL := H.filter fun p => !waitsOn ops j p.1

theorem mem_stay {j : Nat} {H : HL} {p : Nat × (World → Prop)} : p ∈ stay ops j H ↔ p ∈ H ∧ waitsOn ops j p.1 = false := by simp [stay]

/-- Whatever order is picked from here on: and what the loads ask holds behind every operation that does not wait for them. -/
def wpAnyL (P : Program) (ops : Array Oper) (Q : Exit → Act → World → Prop) : Nat → HL → Array Bool → Act → World → Prop
  | 0, _, listed, a, w => Region.ready .any ops listed = [] ∧ Q .normal a w
  | fuel + 1, H, listed, a, w =>
    (Region.ready .any ops listed = [] → Q .normal a w) ∧
    ∀ i ∈ Region.ready .any ops listed, wpOp P ops Q i (fun a' w' => (∀ p ∈ stay ops i H, p.2 w') ∧ wpAnyL P ops Q fuel (stay ops i H) (listed.setIfInBounds i true) a' w') a w

theorem wpAny_of_L : ∀ (fuel : Nat) (H : HL) (listed : Array Bool) (a : Act) (w : World), wpAnyL P ops Q fuel H listed a w → wpAny P .any ops Q fuel listed a w
  | 0, _, _, _, _, h => h
  | fuel + 1, _, _, _, _, h => ⟨h.1, fun i hi => wpOp_mono (fun a' w' h' => wpAny_of_L fuel _ _ a' w' h'.2) (h.2 i hi)⟩

theorem wpAnyL_drop : ∀ (fuel : Nat) (H H' : HL) (listed : Array Bool) (a : Act) (w : World), (∀ p ∈ H', p ∈ H) → wpAnyL P ops Q fuel H listed a w → wpAnyL P ops Q fuel H' listed a w
  | 0, _, _, _, _, _, _, h => h
  | fuel + 1, H, H', _, _, _, hs, h => by
    have hs' : ∀ i, ∀ p ∈ stay ops i H', p ∈ stay ops i H := fun i p hp => mem_stay.2 ⟨hs p (mem_stay.1 hp).1, (mem_stay.1 hp).2⟩
    exact ⟨h.1, fun i hi => wpOp_mono (fun a' w' h' => ⟨fun p hp => h'.1 p (hs' i p hp), wpAnyL_drop fuel _ _ _ a' w' (hs' i) h'.2⟩) (h.2 i hi)⟩

/-- An operation that may come up now may be taken first, if it yields its value in every world that meets 'S', and every other operation that has not come up yet waits for it or is apart from it. -/
theorem wpAnyL_first {S : World → Prop} {i : Nat} {oi : Oper} {v : Value} (hi : ops[i]? = some oi) (hsel : ∀ (j : Nat) (o : Oper) cs b, ops[j]? = some o → o.op ≠ .select cs b)
    (hQ : ∀ c a w, Q (.panic c) (a.put oi.dst v) w → Q (.panic c) a w) :
    ∀ (fuel : Nat) (H : HL) (listed : Array Bool) (a : Act) (w : World),
      (∀ j oj, ops[j]? = some oj → j ≠ i → listed.getD j true = false → (∀ e ∈ oj.after, Region.binds .any e = true → e.on ≠ i) → oi.apart ops oj = true) →
      i ∈ Region.ready .any ops listed → YieldsIf P ops S oi v a → S w → (∀ p ∈ H, p.2 w) →
      wpAnyL P ops Q fuel ((i, S) :: H) (listed.setIfInBounds i true) (a.put oi.dst v) w → wpAnyL P ops Q (fuel + 1) H listed a w := by
  intro fuel
  have now : ∀ (fuel : Nat) (H : HL) (listed : Array Bool) (a : Act) (w : World), YieldsIf P ops S oi v a → S w → (∀ p ∈ H, p.2 w) →
      wpAnyL P ops Q fuel ((i, S) :: H) (listed.setIfInBounds i true) (a.put oi.dst v) w →
      wpOp P ops Q i (fun a' w' => (∀ p ∈ stay ops i H, p.2 w') ∧ wpAnyL P ops Q fuel (stay ops i H) (listed.setIfInBounds i true) a' w') a w := by
    intro fuel H listed a w hy hS hH h
    exact hy.wpOp hi hS ⟨fun p hp => hH p (mem_stay.1 hp).1, wpAnyL_drop _ _ _ _ _ _ (fun p hp => List.mem_cons_of_mem _ (mem_stay.1 hp).1) h⟩
  induction fuel with
  | zero =>
    intro H listed a w _ hr hy hS hH h
    refine ⟨fun h => (by rw [h] at hr; cases hr), fun j hj => ?_⟩
    by_cases hji : j = i
    · subst hji; exact now 0 H listed a w hy hS hH h
    · have := ready_mono hj hji
      rw [h.1] at this
      cases this
  | succ fuel ih =>
    intro H listed a w hfree hr hy hS hH h
    refine ⟨fun h => (by rw [h] at hr; cases hr), fun j hj => ?_⟩
    by_cases hji : j = i
    · subst hji; exact now _ H listed a w hy hS hH h
    · have h1 := h.2 j (ready_mono hj hji)
      obtain ⟨hjun, oj, hoj, hall⟩ := mem_ready.1 hj
      have hnot : ∀ e ∈ oj.after, Region.binds .any e = true → e.on ≠ i := fun e he hb heq => by
        have h1 := hall e he hb
        have h0 := (mem_ready.1 hr).1
        rw [heq] at h1
        rcases Nat.lt_or_ge i listed.size with h' | h'
        · simp [h'] at h0 h1; rw [h0] at h1; cases h1
        · simp [Array.getElem?_eq_none h'] at h1
      have hnw : waitsOn ops j i = false := by
        simp only [waitsOn, hoj]
        rw [Bool.eq_false_iff]
        intro hc
        obtain ⟨e, he, hb⟩ := Array.any_eq_true'.1 hc
        simp only [Bool.and_eq_true, beq_iff_eq] at hb
        exact hnot e he hb.1 hb.2
      have hstay : stay ops j ((i, S) :: H) = (i, S) :: stay ops j H := by simp [stay, hnw]
      rw [hstay] at h1
      have h2 := wpOp_putIf hoj (hfree j oj hoj hji hjun hnot) (fun cs b => hsel i oi cs b hi) (fun cs b => hsel j oj cs b hoj) hQ hy h1
      have hfree' : ∀ k ok, ops[k]? = some ok → k ≠ i → (listed.setIfInBounds j true).getD k true = false →
          (∀ e ∈ ok.after, Region.binds .any e = true → e.on ≠ i) → oi.apart ops ok = true := fun k ok hk hki hun hno => by
        refine hfree k ok hk hki ?_ hno
        by_cases hjk : j = k
        · subst hjk; exact hjun
        · rw [getD_set_ne true hjk] at hun; exact hun
      refine wpOp_mono (fun a' w' h3 => ⟨fun p hp => h3.2.1 p (List.mem_cons_of_mem _ hp), ih (stay ops j H) (listed.setIfInBounds j true) a' w' hfree' (ready_mono hr (Ne.symm hji)) h3.1
        (h3.2.1 (i, S) (by simp)) (fun p hp => h3.2.1 p (List.mem_cons_of_mem _ hp)) ?_⟩) h2
      rw [Array.setIfInBounds_comm _ _ hji]
      exact h3.2.2

theorem wp_region_L {id : Nat} {a : Act} {w : World} (hm : P.follows .mixedOrders = true)
    (h : wpAnyL P ops Q ops.size [] (Array.replicate ops.size false) a w.drew) : (Code.region id ops true).wp P Q a w :=
  wp_region_any hm (wpAny_of_L _ _ _ _ _ h)

end
end Go.SX
