/- A symbolic executor for the model's code: the order of a region: what is asked of it is what the model asks. Conditions: none. -/
import Derived.Test.YtlfhlipdjjhldaaGreatDoorSxO
namespace Go.SX

section
variable {all : List Oper}

theorem softG_binds (e : Edge) : softG e.ground = !Region.binds .any e := by
  unfold softG Region.binds
  cases e.ground <;> rfl

theorem nthB_eq (l : List Bool) (i : Nat) (d : Bool) : nthB l i d = l.toArray.getD i d := by
  unfold nthB
  rw [nth_eq, Array.getD_eq_getD_getElem?]
  cases h : l[i]? <;> simp [h]

theorem waitsL_eq (i : Nat) : ∀ l : List Edge, waitsL i l = l.any fun e => Region.binds .any e && e.on == i := by
  intro l
  induction l with
  | nil => rfl
  | cons e l ih =>
    simp only [waitsL, List.any_cons, ih, softG_binds, Bool.not_not]
    have : Nat.beq e.on i = (e.on == i) := by
      cases h : Nat.beq e.on i with
      | true => rw [Nat.eq_of_beq_eq_true h]; simp
      | false => symm; rw [beq_eq_false_iff_ne]; intro e'; rw [e', Nat.beq_refl] at h; cases h
    rw [this]

theorem waits_eq {i j : Nat} {o : Oper} (ho : all[j]? = some o) : waits i o = waitsOn all.toArray j i := by
  unfold waits waitsOn
  rw [List.getElem?_toArray, ho, waitsL_eq]
  simp

theorem readyE_iff (listed : List Bool) : ∀ l : List Edge, readyE listed l = true ↔ ∀ e ∈ l, Region.binds .any e = true → listed.toArray.getD e.on false = true := by
  intro l
  induction l with
  | nil => simp [readyE]
  | cons e l ih =>
    simp only [readyE, Bool.and_eq_true, Bool.or_eq_true, ih, softG_binds, nthB_eq, List.mem_cons, forall_eq_or_imp]
    constructor
    · rintro ⟨h1, h2⟩
      exact ⟨fun hb => h1.resolve_left (by simp [hb]), h2⟩
    · rintro ⟨h1, h2⟩
      refine ⟨?_, h2⟩
      cases hb : Region.binds .any e
      · exact .inl rfl
      · exact .inr (h1 hb)

theorem mem_readyList (listed : List Bool) (j : Nat) : ∀ (l : List Oper) (i : Nat), j ∈ readyList listed l i ↔ ∃ k o, j = i + k ∧ l[k]? = some o ∧ listed.toArray.getD j true = false ∧
    ∀ e ∈ o.after, Region.binds .any e = true → listed.toArray.getD e.on false = true := by
  intro l
  induction l with
  | nil => intro i; simp [readyList]
  | cons o l ih =>
    intro i
    simp only [readyList]
    have step : j ∈ readyList listed l (Nat.add i 1) ↔ ∃ k o, j = i + (k + 1) ∧ l[k]? = some o ∧ listed.toArray.getD j true = false ∧
        ∀ e ∈ o.after, Region.binds .any e = true → listed.toArray.getD e.on false = true := by
      rw [ih]
      constructor
      · rintro ⟨k, o', h1, h2⟩; exact ⟨k, o', by simp at h1; omega, h2⟩
      · rintro ⟨k, o', h1, h2⟩; exact ⟨k, o', by simp; omega, h2⟩
    have hcond : (!nthB listed i true && readyE listed o.after.toList) = true ↔ listed.toArray.getD i true = false ∧ ∀ e ∈ o.after, Region.binds .any e = true → listed.toArray.getD e.on false = true := by
      rw [Bool.and_eq_true, readyE_iff, nthB_eq]
      simp
    constructor
    · intro h
      by_cases hc : (!nthB listed i true && readyE listed o.after.toList) = true
      · rw [if_pos hc, List.mem_cons] at h
        rcases h with rfl | h
        · exact ⟨0, o, rfl, rfl, hcond.1 hc⟩
        · obtain ⟨k, o', h1, h2, h3⟩ := step.1 h
          exact ⟨k + 1, o', h1, by simpa using h2, h3⟩
      · rw [if_neg hc] at h
        obtain ⟨k, o', h1, h2, h3⟩ := step.1 h
        exact ⟨k + 1, o', h1, by simpa using h2, h3⟩
    · rintro ⟨k, o', h1, h2, h3⟩
      cases k with
      | zero =>
        simp at h2
        subst h2
        simp at h1
        subst h1
        rw [if_pos (hcond.2 h3)]
        exact List.mem_cons_self
      | succ k =>
        have := step.2 ⟨k, o', h1, by simpa using h2, h3⟩
        split
        · exact List.mem_cons_of_mem _ this
        · exact this

theorem mem_ready_iff {listed : List Bool} {j : Nat} : j ∈ readyList listed all 0 ↔ j ∈ Region.ready .any all.toArray listed.toArray := by
  rw [mem_readyList, mem_ready]
  constructor
  · rintro ⟨k, o, h1, h2, h3, h4⟩
    obtain rfl : j = k := by omega
    exact ⟨h3, o, by simpa using h2, h4⟩
  · rintro ⟨h3, o, h2, h4⟩
    exact ⟨j, o, by omega, by simpa using h2, h3, h4⟩

theorem setB_eq : ∀ (l : List Bool) (i : Nat), (setB l i).toArray = l.toArray.setIfInBounds i true := by
  have : ∀ (l : List Bool) (i : Nat), setB l i = l.set i true := by
    intro l
    induction l with
    | nil => intro i; cases i <;> rfl
    | cons b l ih => intro i; cases i with
      | zero => rfl
      | succ i => simp [setB, ih]
  intro l i
  rw [this]
  simp

theorem memNat_iff {x : Nat} : ∀ {l : List Nat}, memNat x l = true ↔ x ∈ l := by
  intro l
  induction l with
  | nil => simp [memNat]
  | cons y l ih =>
    simp only [memNat, Bool.or_eq_true, ih, List.mem_cons]
    constructor
    · rintro (h | h)
      · exact .inl (Nat.eq_of_beq_eq_true h)
      · exact .inr h
    · rintro (rfl | h)
      · exact .inl (Nat.beq_refl _)
      · exact .inr h

theorem mem_tmpsOf {d : Nat} : ∀ {l : List Operand}, d ∈ tmpsOf l ↔ Operand.tmp d ∈ l := by
  intro l
  induction l with
  | nil => simp [tmpsOf]
  | cons x l ih => cases x <;> simp [tmpsOf, ih]

theorem slotOf_eq (j : Nat) : slotOf all j = (all.toArray[j]?).bind (·.dst) := by
  unfold slotOf
  rw [nth_eq, List.getElem?_toArray]
  cases all[j]? <;> rfl

theorem mem_looksA {o : Oper} {d : Nat} : d ∈ looksA all o ↔ d ∈ o.looksAt all.toArray := by
  have h : d ∈ o.looksAt all.toArray ↔ Operand.tmp d ∈ o.op.operands.toList ∨ ∃ g, o.guard = some g ∧ (all.toArray[g.1]?).bind (·.dst) = some d := by
    unfold Oper.looksAt
    rw [List.mem_append, List.mem_filterMap]
    refine or_congr ⟨?_, fun h => ⟨_, h, rfl⟩⟩ ?_
    · rintro ⟨x, hx, h⟩
      cases x <;> simp at h
      subst h
      exact hx
    · cases hg : o.guard with
      | none => simp
      | some g => obtain ⟨j, b⟩ := g; simp
  rw [h]
  unfold looksA
  cases hg : o.guard with
  | none => simp [mem_tmpsOf]
  | some g =>
    obtain ⟨j, b⟩ := g
    simp only [slotOf_eq]
    generalize hs : (all.toArray[j]?).bind (·.dst) = s
    cases s with
    | none =>
      rw [mem_tmpsOf]
      refine ⟨fun h => .inl h, ?_⟩
      rintro (h | ⟨g, h1, h2⟩)
      · exact h
      · cases h1; rw [hs] at h2; cases h2
    | some e =>
      rw [List.mem_cons, mem_tmpsOf]
      constructor
      · rintro (rfl | h)
        · exact .inr ⟨_, rfl, hs⟩
        · exact .inl h
      · rintro (h | ⟨g, h1, h2⟩)
        · exact .inr h
        · cases h1; rw [hs] at h2; cases h2; exact .inl rfl

theorem apartA_spec {x y : Oper} (h : apartA all x y = true) : x.apart all.toArray y = true := by
  unfold apartA at h
  unfold Oper.apart
  simp only [Bool.and_eq_true] at h ⊢
  refine ⟨?_, ?_⟩
  · cases hx : x.dst with
    | none => rfl
    | some d =>
      simp only [hx, Bool.and_eq_true, Bool.not_eq_true'] at h ⊢
      refine ⟨?_, ?_⟩
      · have h1 : ¬ d ∈ y.looksAt all.toArray := by rw [← mem_looksA, ← memNat_iff, h.1.1]; simp
        simpa using h1
      · cases hy : y.dst with
        | none => rfl
        | some e =>
          have h2 := h.1.2
          simp only [hy, Bool.not_eq_true'] at h2
          have : d ≠ e := fun e' => by subst e'; rw [Nat.beq_refl] at h2; cases h2
          simp [Ne.symm this]
  · cases hy : y.dst with
    | none => rfl
    | some d =>
      simp only [hy, Bool.not_eq_true'] at h ⊢
      have h1 : ¬ d ∈ x.looksAt all.toArray := by rw [← mem_looksA, ← memNat_iff, h.2]; simp
      simpa using h1

theorem apart_symm {ops : Array Oper} {x y : Oper} (h : x.apart ops y = true) : y.apart ops x = true := by
  unfold Oper.apart at *
  simp only [Bool.and_eq_true] at h ⊢
  cases hx : x.dst <;> cases hy : y.dst <;> simp [hx, hy] at h ⊢
  · exact h
  · exact h
  · exact ⟨⟨h.2, fun e => h.1.2 e.symm⟩, h.1.1⟩

theorem apartAll_spec {x : Oper} : ∀ {l : List Nat}, apartAll all x l = true → ∀ j ∈ l, ∃ o, all[j]? = some o ∧ o.apart all.toArray x = true := by
  intro l
  induction l with
  | nil => intro _ j hj; cases hj
  | cons k l ih =>
    intro h j hj
    simp only [apartAll, Bool.and_eq_true] at h
    rcases List.mem_cons.1 hj with rfl | hj
    · rw [nth_eq] at h
      cases ho : all[j]? with
      | none => simp [ho] at h
      | some o => simp only [ho] at h; exact ⟨o, rfl, apartA_spec h.1⟩
    · exact ih h.2 j hj

/-- An allocation that does not hang on what it leaves. -/
structure Plain (all : List Oper) (o : Oper) : Prop where
  alloc : allocOp o.op = true
  self : ∀ d, o.dst = some d → d ∉ o.looksAt all.toArray
  guard : o.guard = none

theorem plainAlloc_spec {o : Oper} (h : plainAlloc all o = true) : Plain all o := by
  unfold plainAlloc selfApart at h
  simp only [Bool.and_eq_true] at h
  refine ⟨h.1.1, fun d hd => ?_, ?_⟩
  · have h1 := h.1.2
    simp only [hd, Bool.not_eq_true'] at h1
    rw [← mem_looksA, ← memNat_iff, h1]
    simp
  · cases hg : o.guard with
    | none => rfl
    | some g => have := h.2; rw [hg] at this; cases this

theorem allocsApart_spec : ∀ {l : List Nat}, allocsApart all l = true → (∀ j ∈ l, ∃ o, all[j]? = some o ∧ Plain all o) ∧
    ∀ j ∈ l, ∀ k ∈ l, j ≠ k → ∀ oj ok, all[j]? = some oj → all[k]? = some ok → oj.apart all.toArray ok = true := by
  intro l
  induction l with
  | nil => exact fun _ => ⟨fun j hj => (by cases hj), fun j hj => (by cases hj)⟩
  | cons i l ih =>
    intro h
    simp only [allocsApart, Bool.and_eq_true] at h
    obtain ⟨h1, h2⟩ := h
    rw [nth_eq] at h1
    obtain ⟨i1, i2⟩ := ih h2
    cases ho : all[i]? with
    | none => simp [ho] at h1
    | some o =>
      simp only [ho, Bool.and_eq_true] at h1
      have hp := plainAlloc_spec h1.1
      have ha := apartAll_spec h1.2
      refine ⟨fun j hj => ?_, fun j hj k hk hne oj ok hoj hok => ?_⟩
      · rcases List.mem_cons.1 hj with rfl | hj
        · exact ⟨o, ho, hp⟩
        · exact i1 j hj
      · rcases List.mem_cons.1 hj with rfl | hj'
        · rcases List.mem_cons.1 hk with rfl | hk'
          · exact absurd rfl hne
          · rw [ho] at hoj; cases hoj
            obtain ⟨o2, h3, h4⟩ := ha k hk'
            rw [h3] at hok; cases hok
            exact apart_symm h4
        · rcases List.mem_cons.1 hk with rfl | hk'
          · rw [ho] at hok; cases hok
            obtain ⟨o2, h3, h4⟩ := ha j hj'
            rw [h3] at hoj; cases hoj
            exact h4
          · exact i2 j hj' k hk' hne oj ok hoj hok

theorem without_mem {i j : Nat} : ∀ {l : List Nat}, j ∈ without i l ↔ j ∈ l ∧ j ≠ i := by
  intro l
  induction l with
  | nil => simp [without]
  | cons k l ih =>
    simp only [without]
    split
    · rename_i h
      obtain rfl := Nat.eq_of_beq_eq_true h
      rw [ih, List.mem_cons]
      constructor
      · rintro ⟨h1, h2⟩; exact ⟨.inr h1, h2⟩
      · rintro ⟨h1 | h1, h2⟩
        · exact absurd h1 h2
        · exact ⟨h1, h2⟩
    · rename_i h
      rw [List.mem_cons, ih, List.mem_cons]
      constructor
      · rintro (rfl | ⟨h1, h2⟩)
        · exact ⟨.inl rfl, fun e => h (by rw [e]; exact Nat.beq_refl _)⟩
        · exact ⟨.inr h1, h2⟩
      · rintro ⟨h1 | h1, h2⟩
        · exact .inl h1
        · exact .inr ⟨h1, h2⟩

theorem onlyThis_spec {i : Nat} : ∀ {l : List Nat}, onlyThis i l = true → ∀ j ∈ l, j = i := by
  intro l
  induction l with
  | nil => intro _ j hj; cases hj
  | cons k l ih =>
    intro h j hj
    simp only [onlyThis, Bool.and_eq_true] at h
    rcases List.mem_cons.1 hj with rfl | hj
    · exact Nat.eq_of_beq_eq_true h.1
    · exact ih h.2 j hj

theorem listAll_eq : ∀ (l : List Nat) (listed : List Bool), (listAll listed l).toArray = l.foldl (fun s i => s.setIfInBounds i true) listed.toArray := by
  intro l
  induction l with
  | nil => intro listed; rfl
  | cons i l ih => intro listed; simp only [listAll, List.foldl_cons, ih, setB_eq]

theorem firstOf_some {is : Op → Bool} {i : Nat} {o : Oper} : ∀ {l : List Nat}, firstOf all is l = some (i, o) → i ∈ l ∧ all[i]? = some o ∧ is o.op = true := by
  intro l
  induction l with
  | nil => intro h; cases h
  | cons j l ih =>
    intro h
    simp only [firstOf, nth_eq] at h
    split at h
    · rename_i o' ho
      split at h
      · rename_i hi; cases h; exact ⟨List.mem_cons_self, ho, hi⟩
      · obtain ⟨h1, h2⟩ := ih h; exact ⟨List.mem_cons_of_mem _ h1, h2⟩
    · obtain ⟨h1, h2⟩ := ih h; exact ⟨List.mem_cons_of_mem _ h1, h2⟩

theorem freeA_spec {listed : List Bool} {i : Nat} {oi : Oper} : ∀ {l : List Oper} {k : Nat}, freeA all listed i oi l k = true → ∀ (m : Nat) (oj : Oper), l[m]? = some oj → k + m ≠ i → listed.toArray.getD (k + m) true = false →
    (∀ e ∈ oj.after, Region.binds .any e = true → e.on ≠ i) → oi.apart all.toArray oj = true := by
  intro l
  induction l with
  | nil => intro k _ m oj hm; simp at hm
  | cons o l ih =>
    intro k h m oj hm hne hun hno
    simp only [freeA, Bool.and_eq_true] at h
    cases m with
    | zero =>
      simp at hm
      subst hm
      have h1 := h.1
      simp only [Bool.or_eq_true] at h1
      rcases h1 with ((h1 | h1) | h1) | h1
      · exact absurd (Nat.eq_of_beq_eq_true h1) hne
      · rw [nthB_eq] at h1; rw [Nat.add_zero] at hun; rw [hun] at h1; cases h1
      · exfalso
        unfold waits at h1
        rw [waitsL_eq, List.any_eq_true] at h1
        obtain ⟨e, he, hb⟩ := h1
        simp only [Bool.and_eq_true, beq_iff_eq] at hb
        exact hno e (by simpa using he) hb.1 hb.2
      · exact apartA_spec h1
    | succ m =>
      have e : k + (m + 1) = Nat.add k 1 + m := by simp; omega
      rw [e] at hne hun
      exact ih h.2 m oj (by simpa using hm) hne hun hno

theorem noSelectA_spec : ∀ {l : List Oper}, noSelectA l = true → ∀ (j : Nat) (o : Oper) (cs : Array SelectCase) (b : Bool), l[j]? = some o → o.op ≠ .select cs b := by
  intro l
  induction l with
  | nil => intro _ j o cs b h; simp at h
  | cons o l ih =>
    intro h j o' cs b hj
    simp only [noSelectA, Bool.and_eq_true] at h
    cases j with
    | zero =>
      simp at hj
      subst hj
      intro e
      have := h.1
      rw [e] at this
      cases this
    | succ j => exact ih h.2 j o' cs b (by simpa using hj)

end
end Go.SX
