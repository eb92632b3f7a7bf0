/- Expressions: what follows out of what, by all ways through one. Conditions: none. -/
import Derived.Test.YtlfhlipdjjhldaaGreatDoorSxFun
noncomputable section
namespace Go.SX

section
variable {X : Ext} {vs : List Value}

def FactsOk (X : Ext) (vs : List Value) (fs : List (E × Bool)) : Prop := ∀ p ∈ fs, p.1.den X vs = some (.bool p.2)

theorem learnF_ok {fs : List (E × Bool)} {c : E} {b : Bool} (h : FactsOk X vs fs) (hc : c.den X vs = some (.bool b)) : FactsOk X vs (learnF fs c b) := by
  have e : learnF fs c b = ((norm c).1, cond (norm c).2 (!b) b) :: fs := rfl
  rw [e]
  intro p hp
  rcases List.mem_cons.1 hp with rfl | hp
  · exact (norm_den c b).1 hc
  · exact h p hp

theorem pathsB_sound : ∀ {e : E} {fs : List (E × Bool)} {k : Bool → List (E × Bool) → Bool} {b : Bool}, FactsOk X vs fs → e.den X vs = some (.bool b) → pathsB e fs k = true → ∃ fs', FactsOk X vs fs' ∧ k b fs' = true := by
  intro e
  have base : ∀ {e : E} {fs : List (E × Bool)} {k : Bool → List (E × Bool) → Bool} {b : Bool}, FactsOk X vs fs → e.den X vs = some (.bool b) →
      (match decideE fs e with
        | some b => k b fs
        | none => k true (learnF fs e true) && k false (learnF fs e false)) = true → ∃ fs', FactsOk X vs fs' ∧ k b fs' = true := by
    intro e fs k b hf he h
    cases hd : decideE fs e with
    | some x =>
      rw [hd] at h
      have := decideE_sound hf hd
      rw [he] at this
      cases this
      exact ⟨fs, hf, h⟩
    | none =>
      rw [hd] at h
      simp only [Bool.and_eq_true] at h
      refine ⟨learnF fs e b, learnF_ok hf he, ?_⟩
      cases b
      · exact h.2
      · exact h.1
  induction e with
  | not a ih =>
    intro fs k b hf he h
    simp only [pathsB] at h
    simp only [E.den, Option.bind_eq_some_iff] at he
    obtain ⟨x, hx, hn⟩ := he
    cases x <;> simp [notV] at hn
    subst hn
    obtain ⟨fs', h1, h2⟩ := ih hf hx h
    exact ⟨fs', h1, by simpa using h2⟩
  | ite c x y ihc ihx ihy =>
    intro fs k b hf he h
    simp only [pathsB] at h
    simp only [E.den] at he
    unfold iteV at he
    split at he
    · rename_i hd
      obtain ⟨fs1, h1, h2⟩ := ihc hf hd h
      exact ihx h1 he h2
    · rename_i hd
      obtain ⟨fs1, h1, h2⟩ := ihc hf hd h
      exact ihy h1 he h2
    · cases he
  | _ => intro fs k b hf he h; exact base hf he h

theorem pathsV_sound : ∀ {e : E} {fs : List (E × Bool)} {k : E → List (E × Bool) → Bool} {v : Value}, FactsOk X vs fs → e.den X vs = some v → pathsV e fs k = true → ∃ e' fs', FactsOk X vs fs' ∧ e'.den X vs = some v ∧ k e' fs' = true := by
  intro e
  induction e with
  | ite c x y ihc ihx ihy =>
    intro fs k v hf he h
    simp only [pathsV] at h
    simp only [E.den] at he
    unfold iteV at he
    split at he
    · rename_i hd
      obtain ⟨fs1, h1, h2⟩ := pathsB_sound hf hd h
      exact ihx h1 he h2
    · rename_i hd
      obtain ⟨fs1, h1, h2⟩ := pathsB_sound hf hd h
      exact ihy h1 he h2
    · cases he
  | _ => intro fs k v hf he h; exact ⟨_, fs, hf, he, h⟩

theorem entails {e : E} {n : Int} {k : IntKind} {fs goals : List (E × Bool)} (hf : FactsOk X vs fs) (he : e.den X vs = some (.int k n)) (h : pathsV e fs (goalsK n goals) = true) : FactsOk X vs goals := by
  obtain ⟨e', fs', h1, h2, h3⟩ := pathsV_sound hf he h
  unfold goalsK at h3
  split at h3
  · rename_i k' m
    cases h2
    have hm : intEq n n = true := by cases n <;> simp [intEq]
    simp only [hm, if_true] at h3
    intro g hg
    have := List.all_eq_true.1 h3 g hg
    split at this
    · rename_i b hb
      rw [← boolEq_eq this]
      exact decideE_sound h1 hb
    · cases this
  · cases h3

/-! ### The same variables twice -/

theorem iteV_some {c a b : Option Value} {v : Value} (h : iteV c a b = some v) : (c = some (.bool true) ∧ a = some v) ∨ (c = some (.bool false) ∧ b = some v) := by
  unfold iteV at h
  split at h
  · exact .inl ⟨rfl, h⟩
  · exact .inr ⟨rfl, h⟩
  · cases h

theorem twice_den {ws : List Value} : ∀ {e : E} {v : Value}, e.den X (ws ++ ws) = some v → (e.twice ws.length).den X ws = some v := by
  intro e
  induction e with
  | lit v => intro u h; exact h
  | var i =>
    intro u h
    simp only [E.den] at h
    simp only [E.twice, E.den]
    cases hb : Nat.blt i ws.length with
    | true =>
      have : i < ws.length := by simpa [Nat.blt_eq] using hb
      rw [List.getElem?_append_left this] at h
      exact h
    | false =>
      have : ws.length ≤ i := by
        rcases Nat.lt_or_ge i ws.length with hl | hl
        · have : Nat.blt i ws.length = true := by simpa [Nat.blt_eq] using hl
          rw [this] at hb; cases hb
        · exact hl
      rw [List.getElem?_append_right this] at h
      exact h
  | bin op a b iha ihb =>
    intro u h
    obtain ⟨x, y, hx, hy, hv⟩ := den_bin.1 h
    exact den_bin.2 ⟨x, y, iha hx, ihb hy, hv⟩
  | not a ih =>
    intro u h
    simp only [E.den, Option.bind_eq_some_iff] at h
    obtain ⟨x, hx, hn⟩ := h
    simp only [E.twice, E.den, ih hx]
    exact hn
  | ite c a b ihc iha ihb =>
    intro u h
    simp only [E.den] at h
    rcases iteV_some h with ⟨h1, h2⟩ | ⟨h1, h2⟩
    · simp only [E.twice, E.den, ihc h1, iteV]; exact iha h2
    · simp only [E.twice, E.den, ihc h1, iteV]; exact ihb h2
  | conv k a ih =>
    intro u h
    simp only [E.den, Option.bind_eq_some_iff] at h
    obtain ⟨x, hx, hn⟩ := h
    simp only [E.twice, E.den, ih hx]
    exact hn
  | toF a ih =>
    intro u h
    simp only [E.den, Option.bind_eq_some_iff] at h
    obtain ⟨x, hx, hn⟩ := h
    simp only [E.twice, E.den, ih hx]
    exact hn
  | len a ih =>
    intro u h
    simp only [E.den, Option.bind_eq_some_iff] at h
    obtain ⟨x, hx, hn⟩ := h
    simp only [E.twice, E.den, ih hx]
    exact hn
  | ext f a ih =>
    intro u h
    simp only [E.den, Option.bind_eq_some_iff] at h
    obtain ⟨x, hx, hn⟩ := h
    simp only [E.twice, E.den, ih hx]
    exact hn
  | pair a b iha ihb =>
    intro u h
    simp only [E.den, Option.bind_eq_some_iff] at h
    obtain ⟨x, hx, y, hy, hn⟩ := h
    simp only [E.twice, E.den, iha hx, ihb hy]
    exact hn

/-! ### Variables in a row -/

theorem PFn.total {P : Program} {F : PFn} (h : FnOk P F) (w : World) {xs us : List Value} (hf : FitsAll F.ps xs us) : ∃ u, F.val us = some u ∧ F.s.has u = true := by
  obtain ⟨e, w', fr, ⟨u, _, h1, h2, _⟩, _⟩ := h.calls xs us w hf []
  exact ⟨u, h1, h2⟩

end
end Go.SX
