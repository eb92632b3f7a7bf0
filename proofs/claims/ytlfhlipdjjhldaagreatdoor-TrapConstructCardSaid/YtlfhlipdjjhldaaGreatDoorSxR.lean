/- A symbolic executor for the model's code: what holds in the midst of a region that draws its order. Conditions: 'CfgOk'. -/
import Derived.Test.YtlfhlipdjjhldaaGreatDoorSxQ
namespace Go.SX
open Go.RowKit

/-! ### How many have not come up -/

def unl (listed : Array Bool) : Nat := listed.toList.countP (!·)

theorem countP_set {l : List Bool} : ∀ {i : Nat}, l[i]? = some false → (l.set i true).countP (!·) + 1 = l.countP (!·) := by
  induction l with
  | nil => intro i h; simp at h
  | cons b l ih =>
    intro i h
    cases i with
    | zero => simp at h; subst h; simp
    | succ i =>
      have := ih (i := i) (by simpa using h)
      cases b <;> simp <;> omega

theorem unl_set {listed : Array Bool} {i : Nat} (h : listed.getD i true = false) : unl (listed.setIfInBounds i true) + 1 = unl listed := by
  have hi : listed.toList[i]? = some false := by
    rw [Array.getD_eq_getD_getElem?] at h
    rw [Array.getElem?_toList]
    cases hx : listed[i]? with
    | none => rw [hx] at h; cases h
    | some b => rw [hx] at h; simp at h; rw [h]
  unfold unl
  rw [Array.toList_setIfInBounds]
  exact countP_set hi

theorem getD_set {listed : Array Bool} {i j : Nat} : (listed.setIfInBounds i true).getD j true = (listed.getD j true || (i == j)) := by
  by_cases h : i = j
  · subst h
    rcases Nat.lt_or_ge i listed.size with h' | h'
    · simp [h']
    · simp [Array.getD_eq_getD_getElem?, h']
  · rw [getD_set_ne true h]; simp [h]

/-! ### Loads taken ahead; allocations that came ahead of their turn -/

def reads (b off : Nat) (vs : List Value) (w : World) : Prop := ∀ (j : Nat) (v : Value), vs[j]? = some v → w.cell? ⟨b, off + j, none⟩ = some v

/-- What a load that was taken ahead asks. -/
def HeldOk (Γ : Env) (x : Held) (p : World → Prop) : Prop := ∃ (b : Nat) (vs : List Value), Γ.σ[x.id]? = some b ∧ cellsDen Γ x.cells = some vs ∧ p = reads b (Γ.β x.id + x.off) vs

theorem cell_lt {w : World} {b k : Nat} {v : Value} (h : w.cell? ⟨b, k, none⟩ = some v) : b < w.heap.size := by
  rcases Nat.lt_or_ge b w.heap.size with h1 | h1
  · exact h1
  · exfalso
    have hn : w.heap[b]? = none := Array.getElem?_eq_none h1
    simp [World.cell?, hn] at h

theorem cell_congr {w w' : World} {b k : Nat} (h : w'.heap[b]? = w.heap[b]?) : w'.cell? ⟨b, k, none⟩ = w.cell? ⟨b, k, none⟩ := by
  simp [World.cell?, h]

theorem reads.alloc {b off : Nat} {vs : List Value} {w : World} (h : reads b off vs w) (o : Obj) : reads b off vs (w.alloc o) := by
  intro j v hv
  have h1 := h j v hv
  rw [cell_congr (heap_alloc_old w o (cell_lt h1))]
  exact h1

theorem HeldOk.mono {Γ Γ' : Env} {x : Held} {p : World → Prop} (h : HeldOk Γ x p) (hle : Γ.le Γ') : HeldOk Γ' x p := by
  obtain ⟨b, vs, h1, h2, h3⟩ := h
  exact ⟨b, vs, prefix_get hle.σ h1, cellsDen_mono hle h2, by rw [hle.β]; exact h3⟩

/-- An allocation that came ahead of its turn: its number, its block. -/
structure Pended (C : Cfg) (all : List Oper) (Γ : Env) (lo : Nat) (a : Act) (w : World) (p : Nat × Nat) : Prop where
  ex : ∃ (o : Oper) (mk : Nat → Value) (obj : Obj), all[p.1]? = some o ∧ Plain all o ∧ (∀ w, (execOp a.eval o).run C.P w = .ok (.value (mk w.heap.size)) (w.alloc obj)) ∧ w.heap[p.2]? = some obj ∧
    ∀ d, o.dst = some d → d < a.tmps.size → a.tmps.getD d undef = mk p.2
  lo : lo ≤ p.2
  hi : p.2 < w.heap.size
  out : ∀ i : Nat, Γ.σ[i]? ≠ some p.2

/-- The slots of the allocations that came ahead. -/
def dslot (all : List Oper) (D : List (Nat × Nat)) (t : Nat) : Prop := ∃ p ∈ D, ∃ o, all[p.1]? = some o ∧ o.dst = some t

theorem not_select {o : Oper} (h : allocOp o.op = true) (cs : Array SelectCase) (b : Bool) : o.op ≠ .select cs b := by
  intro e; rw [e] at h; cases h

section
variable {S : Nat → Prop} {B : World} {C : Cfg} {Γ Γ' Γ₀ : Env} {st st' : St} {w w' w₀ : World} {a : Act} {R : Nat → List Value → List Value → Prop} {all : List Oper} {lo : Nat} {p : Nat × Nat}
  {L : St → AV → List Value → List Nat → Prop}

theorem Pended.world (h : Pended C all Γ lo a w p) (hl : Later Γ w Γ' w') : Pended C all Γ' lo a w' p := by
  obtain ⟨o, mk, obj, h1, h2, h3, h4, h5⟩ := h.ex
  refine ⟨⟨o, mk, obj, h1, h2, h3, (hl.keep _ h.hi h.out).trans h4, h5⟩, h.lo, Nat.lt_of_lt_of_le h.hi hl.size, ?_⟩
  intro i hi
  rcases hl.names i _ hi with ⟨j, hj⟩ | hj
  · exact h.out j hj
  · have := h.hi; omega

theorem Pended.put (h : Pended C all Γ lo a w p) {o : Oper} (hap : ∀ oj, all[p.1]? = some oj → oj.apart all.toArray o = true) (u : Value) : Pended C all Γ lo (a.put o.dst u) w p := by
  obtain ⟨oj, mk, obj, h1, h2, h3, h4, h5⟩ := h.ex
  obtain ⟨a1, a2, a3⟩ := Oper.apart_spec (hap oj h1)
  refine ⟨⟨oj, mk, obj, h1, h2, ?_, h4, ?_⟩, h.lo, h.hi, h.out⟩
  · rw [execOp_put oj (not_select h2.alloc) a o.dst u a3]; exact h3
  · intro d hd hlt
    cases ho : o.dst with
    | none => rw [ho] at hlt; exact h5 d hd hlt
    | some e =>
      have hne : e ≠ d := fun e' => a2 d hd (by rw [ho, e'])
      rw [ho] at hlt
      simp only [Act.put, Array.size_setIfInBounds] at hlt
      simp only [Act.put]
      rw [Array.getD_eq_getD_getElem?, Array.getElem?_setIfInBounds_ne hne, ← Array.getD_eq_getD_getElem?]
      exact h5 d hd hlt

theorem Ev.of {D : Nat → Prop} (hT : TRel D Γ st a) {o : Oper} (h : ∀ d ∈ o.looksAt all.toArray, ¬ D d) : Ev Γ st.tmps a o.op := by
  intro x hx v hv
  refine evalA_den hv ?_
  rintro t rfl
  refine hT.den t (h t ?_)
  unfold Oper.looksAt
  exact List.mem_append_left _ (List.mem_filterMap.2 ⟨.tmp t, by simpa using hx, rfl⟩)

theorem put_same {d : Nat} {u : Value} (h : d < a.tmps.size → a.tmps.getD d undef = u) : a.put (some d) u = a := by
  simp only [Act.put]
  have : a.tmps.setIfInBounds d u = a.tmps := by
    apply Array.ext_getElem?
    intro i
    rw [Array.getElem?_setIfInBounds]
    split
    · rename_i hid
      subst hid
      split
      · rename_i hlt
        have hb := h hlt
        rw [Array.getD_eq_getD_getElem?, Array.getElem?_eq_getElem hlt] at hb
        rw [Array.getElem?_eq_getElem hlt]
        simp at hb
        rw [hb]
      · rw [Array.getElem?_eq_none (by omega)]
    · rfl
  rw [this]

/-- In the midst of a region: what is known ('listed', 'held', 'st'), what is so ('listedR', 'H', 'a', 'w'), and the allocations that came ahead ('D'). -/
structure RelAny (S : Nat → Prop) (B : World) (C : Cfg) (Γ₀ : Env) (w₀ : World) (all : List Oper) (listed : List Bool) (held : List Held) (st : St) (Γ : Env) (w : World) (a : Act)
    (D : List (Nat × Nat)) (H : HL) (listedR : Array Bool) (m : Nat) : Prop where
  mem : MRel S B C Γ st w
  later : Later Γ₀ w₀ Γ w
  tmps : TRel (dslot all D) Γ st a
  len : listed.length = all.length
  lenR : listedR.size = all.length
  bits : ∀ j, listedR.getD j true = true ↔ listed.toArray.getD j true = true ∨ ∃ b, (j, b) ∈ D
  pend : ∀ p ∈ D, Pended C all Γ w₀.heap.size a w p
  rdy : ∀ p ∈ D, p.1 ∈ readyList listed all 0
  nd : D.Pairwise fun p q => p.1 ≠ q.1 ∧ p.2 ≠ q.2
  held : ∀ q ∈ H, q.2 w ∧ ((∀ w', q.2 w') ∨ ∃ x ∈ held, x.i = q.1 ∧ HeldOk Γ x q.2)
  fuel : unl listedR ≤ m

variable {listed : List Bool} {held : List Held} {D : List (Nat × Nat)} {H : HL} {listedR : Array Bool} {m : Nat}

theorem mem_R {i : Nat} : i ∈ readyList listed all 0 ↔ listed.toArray.getD i true = false ∧ ∃ o, all[i]? = some o ∧ ∀ e ∈ o.after, Region.binds .any e = true → listed.toArray.getD e.on false = true := by
  rw [mem_ready_iff, mem_ready]
  simp

theorem getD_false_of {l : Array Bool} {i : Nat} (h : l.getD i false = true) : l.getD i true = true := by
  rw [Array.getD_eq_getD_getElem?] at *
  cases hx : l[i]? with
  | none => rw [hx] at h; cases h
  | some b => rw [hx] at h; simpa using h

theorem getD_true_lt {l : Array Bool} {i : Nat} (h : l.getD i true = true) (hi : i < l.size) : l.getD i false = true := by
  rw [Array.getD_eq_getD_getElem?, Array.getElem?_eq_getElem hi] at *
  simpa using h

/-- What may come next as far as is known, and has not come, may come next. -/
theorem RelAny.ready (h : RelAny S B C Γ₀ w₀ all listed held st Γ w a D H listedR m) {i : Nat} (hi : i ∈ readyList listed all 0) (hD : ∀ b, (i, b) ∉ D) : i ∈ Region.ready .any all.toArray listedR := by
  obtain ⟨h1, o, h2, h3⟩ := mem_R.1 hi
  rw [mem_ready]
  refine ⟨?_, o, by simpa using h2, fun e he hb => ?_⟩
  · cases hx : listedR.getD i true with
    | false => rfl
    | true =>
      rcases (h.bits i).1 hx with h4 | ⟨b, h4⟩
      · rw [h1] at h4; cases h4
      · exact absurd h4 (hD b)
  · have h5 := h3 e he hb
    refine getD_true_lt ((h.bits e.on).2 (.inl (getD_false_of h5))) ?_
    have hlt : e.on < listed.toArray.size := by
      rcases Nat.lt_or_ge e.on listed.toArray.size with h6 | h6
      · exact h6
      · rw [Array.getD_eq_getD_getElem?, Array.getElem?_eq_none h6] at h5; cases h5
    rw [h.lenR, ← h.len]
    simpa using hlt

/-- An operation that may come next waits for none that has not come. -/
theorem nowait {i j : Nat} {o : Oper} (hj : j ∈ readyList listed all 0) (ho : all[j]? = some o) (hi : listed.toArray.getD i true = false) : ∀ e ∈ o.after, Region.binds .any e = true → e.on ≠ i := by
  intro e he hb heq
  obtain ⟨_, o', h2, h3⟩ := mem_R.1 hj
  rw [ho] at h2
  cases h2
  have := getD_false_of (h3 e he hb)
  rw [heq, hi] at this
  cases this

theorem pairwise_mem {α : Type} {r : α → α → Prop} (hs : ∀ x y, r x y → r y x) : ∀ {l : List α}, l.Pairwise r → ∀ x ∈ l, ∀ y ∈ l, x = y ∨ r x y := by
  intro l
  induction l with
  | nil => intro _ x hx; cases hx
  | cons z l ih =>
    intro h x hx y hy
    obtain ⟨h1, h2⟩ := List.pairwise_cons.1 h
    rcases List.mem_cons.1 hx with h3 | h3 <;> rcases List.mem_cons.1 hy with h4 | h4
    · exact .inl (h3.trans h4.symm)
    · exact .inr (h3 ▸ h1 y h4)
    · exact .inr (h4 ▸ hs _ _ (h1 x h3))
    · exact ih h2 x h3 y h4

theorem RelAny.one (h : RelAny S B C Γ₀ w₀ all listed held st Γ w a D H listedR m) {p q : Nat × Nat} (hp : p ∈ D) (hq : q ∈ D) (he : p.1 = q.1 ∨ p.2 = q.2) : p = q := by
  rcases pairwise_mem (r := fun p q : Nat × Nat => p.1 ≠ q.1 ∧ p.2 ≠ q.2) (fun x y h => ⟨h.1.symm, h.2.symm⟩) h.nd p hp q hq with h1 | ⟨h1, h2⟩
  · exact h1
  · rcases he with he | he
    · exact absurd he h1
    · exact absurd he h2

/-- One more allocation comes ahead of its turn. -/
theorem RelAny.pended (h : RelAny S B C Γ₀ w₀ all listed held st Γ w a D H listedR (m + 1)) {j : Nat} {o : Oper} (hj : j ∈ readyList listed all 0) (hD : ∀ b, (j, b) ∉ D) (ho : all[j]? = some o) (hp : Plain all o)
    (hap : ∀ p ∈ D, ∀ ok, all[p.1]? = some ok → ok.apart all.toArray o = true) {mk : Nat → Value} {obj : Obj} (hrun : ∀ w, (execOp a.eval o).run C.P w = .ok (.value (mk w.heap.size)) (w.alloc obj)) :
    RelAny S B C Γ₀ w₀ all listed held st Γ (w.alloc obj) (a.put o.dst (mk w.heap.size)) ((j, w.heap.size) :: D) (stay all.toArray j H) (listedR.setIfInBounds j true) m := by
  obtain ⟨m1, l1⟩ := h.mem.alloc_out obj
  have hready := h.ready hj hD
  have hun := (mem_ready.1 hready).1
  refine ⟨m1, h.later.trans l1, ⟨?_, ?_, ?_⟩, h.len, by simpa using h.lenR, ?_, ?_, ?_, ?_, ?_, ?_⟩
  · cases ho : o.dst with
    | none => exact h.tmps.size
    | some d => simpa [Act.put] using h.tmps.size
  · intro t ht
    have h1 : ¬ dslot all D t := fun ⟨p, hp, r⟩ => ht ⟨p, List.mem_cons_of_mem _ hp, r⟩
    rw [h.tmps.den t h1]
    congr 1
    cases hd : o.dst with
    | none => rfl
    | some d =>
      have hne : d ≠ t := by
        rintro rfl
        exact ht ⟨(j, w.heap.size), List.mem_cons_self, o, ho, hd⟩
      simp only [Act.put]
      rw [Array.getD_eq_getD_getElem?, Array.getD_eq_getD_getElem?, Array.getElem?_setIfInBounds_ne hne]
  · cases ho : o.dst with
    | none => exact h.tmps.defers
    | some d => exact h.tmps.defers
  · intro k
    rw [getD_set, Bool.or_eq_true, h.bits k]
    constructor
    · rintro ((h1 | ⟨b, h1⟩) | h1)
      · exact .inl h1
      · exact .inr ⟨b, List.mem_cons_of_mem _ h1⟩
      · simp at h1; subst h1; exact .inr ⟨_, List.mem_cons_self⟩
    · rintro (h1 | ⟨b, h1⟩)
      · exact .inl (.inl h1)
      · rcases List.mem_cons.1 h1 with h1 | h1
        · cases h1; exact .inr (by simp)
        · exact .inl (.inr ⟨b, h1⟩)
  · intro p hpD
    rcases List.mem_cons.1 hpD with rfl | hpD
    · refine ⟨⟨o, mk, obj, ho, hp, ?_, heap_alloc_new _ _, ?_⟩, h.later.size, by simp, ?_⟩
      · rw [execOp_put o (not_select hp.alloc) a o.dst _ hp.self]; exact hrun
      · intro d hd hlt
        rw [hd] at hlt ⊢
        simp only [Act.put, Array.size_setIfInBounds] at hlt
        simp [Act.put, hlt]
      · intro i hi
        have := (h.mem.mine i _ hi).2
        simp at this
    · exact ((h.pend p hpD).world l1).put (hap p hpD) _
  · intro p hpD
    rcases List.mem_cons.1 hpD with rfl | hpD
    · exact hj
    · exact h.rdy p hpD
  · refine List.pairwise_cons.2 ⟨fun q hq => ⟨?_, ?_⟩, h.nd⟩
    · intro e
      exact hD q.2 (by rw [show (j, q.2) = q from Prod.ext e rfl]; exact hq)
    · have := (h.pend q hq).hi
      simp only
      omega
  · intro q hq
    obtain ⟨h1, h2⟩ := h.held q (mem_stay.1 hq).1
    refine ⟨?_, h2⟩
    rcases h2 with h2 | ⟨x, hx, _, b, vs, _, _, h3⟩
    · exact h2 _
    · rw [h3] at h1 ⊢
      exact h1.alloc obj
  · have := unl_set hun
    have := h.fuel
    omega

end
end Go.SX
