/- A symbolic executor for the model's code: arguments as variables. Conditions: none. -/
import Derived.Test.YtlfhlipdjjhldaaGreatDoorSxX
import Derived.Test.YtlfhlipdjjhldaaGreatDoorSxFd
import Derived.WideShapes
noncomputable section
namespace Go.SX

/-- A value of a shape, and its cells. -/
inductive Fits : Bool × List Srt → Value → List Value → Prop
  | agg {ss : List Srt} {l : List Value} : HasAll ss l → Fits (true, ss) (.agg l.toArray) l
  | one {s : Srt} {v : Value} : s.has v = true → Fits (false, [s]) v [v]

inductive FitsAll : List (Bool × List Srt) → List Value → List Value → Prop
  | nil : FitsAll [] [] []
  | cons {p : Bool × List Srt} {ps : List (Bool × List Srt)} {v : Value} {vs l m : List Value} : Fits p v l → FitsAll ps vs m → FitsAll (p :: ps) (v :: vs) (l ++ m)

theorem varsFrom_den {X : Ext} {σ : List Nat} {ns : List Nat} {β : Nat → Nat} : ∀ {ss : List Srt} {l : List Value}, HasAll ss l → ∀ (pre post : List Value), cellsDen ⟨X, σ, pre ++ (l ++ post), ns, β⟩ (varsFrom pre.length ss) = some l := by
  intro ss l h
  induction h with
  | nil => intro pre post; rfl
  | cons h1 _ ih =>
    intro pre post
    rename_i s v ss l _
    have h2 := ih (pre ++ [v]) post
    simp only [List.append_assoc, List.cons_append, List.nil_append, List.length_append, List.length_cons, List.length_nil, Nat.zero_add] at h2
    have hd : (Cell.s s (.var pre.length)).den ⟨X, σ, pre ++ (v :: l ++ post), ns, β⟩ = some v := by
      rw [den_s]
      refine ⟨?_, h1⟩
      show (pre ++ (v :: l ++ post))[pre.length]? = some v
      simp
    simp only [varsFrom, cellsDen, hd, Option.bind_some]
    have e : pre ++ (v :: l ++ post) = pre ++ v :: (l ++ post) := by simp
    rw [e]
    show Option.map _ (cellsDen _ (varsFrom (pre.length + 1) ss)) = _
    rw [h2]
    rfl

theorem argsFrom_den {X : Ext} {σ : List Nat} {ns : List Nat} {β : Nat → Nat} : ∀ {ps : List (Bool × List Srt)} {xs l : List Value}, FitsAll ps xs l → ∀ (pre : List Value), avsDen ⟨X, σ, pre ++ l, ns, β⟩ (argsFrom pre.length ps) = some xs := by
  intro ps xs l h
  induction h with
  | nil => intro pre; rfl
  | cons h1 _ ih =>
    intro pre
    rename_i p ps v vs l m hf
    cases h1 with
    | agg hh =>
      rename_i ss
      have hd := varsFrom_den (X := X) (σ := σ) (ns := ns) (β := β) hh pre m
      have h2 := ih (pre ++ l)
      have hlen : lenL ss = l.length := by rw [lenL_eq, hh.length]
      simp only [List.append_assoc, List.length_append] at h2
      simp only [argsFrom, avsDen, AV.den, hd, Option.map_some, Option.bind_some, hlen]
      show Option.map _ (avsDen _ (argsFrom (pre.length + l.length) ps)) = _
      rw [h2]
      rfl
    | one hh =>
      rename_i s
      have h2 := ih (pre ++ [v])
      simp only [List.append_assoc, List.length_append, List.length_cons, List.length_nil, Nat.zero_add] at h2
      have hd : (AV.one (.s s (.var pre.length))).den ⟨X, σ, pre ++ ([v] ++ m), ns, β⟩ = some v := by
        rw [AV.den_one, den_s]
        exact ⟨by show (pre ++ ([v] ++ m))[pre.length]? = some v; simp, hh⟩
      simp only [argsFrom, avsDen, hd, Option.bind_some]
      show Option.map _ (avsDen _ (argsFrom (pre.length + 1) ps)) = _
      rw [h2]
      rfl

/-- Types that are of given sorts, one by one. -/
def typesAre (P : Program) : List TypeId → List Srt → Bool
  | [], [] => true
  | t :: ts, s :: ss => (match under P t with
    | some d => srtIs d s
    | none => false) && typesAre P ts ss
  | _, _ => false

section
variable {P : Program} {w : World} {r : Reach} {base : Nat}

theorem cell_has {t : TypeId} {d : TypeDesc} {s : Srt} {v : Value} (ht : P.underlying t = some d) (hs : srtIs d s = true) (h : Cell.okWide P w r base t v) : s.has v = true := by
  unfold srtIs at hs
  unfold Cell.okWide at h
  split at hs
  · obtain rfl := kindEq_eq hs
    rw [ht] at h
    cases v <;> simp_all [Cell.ok, Srt.has, kindEq_refl]
  · rw [ht] at h
    cases v <;> simp_all [Cell.ok, Srt.has]
  · rw [ht] at h
    cases v <;> simp_all [Cell.ok, Srt.has]
  · rw [ht] at h
    cases v <;> simp_all [Cell.ok, Srt.has]
  · cases hs

theorem hasAll_of : ∀ {ts : List TypeId} {ss : List Srt} {l : List Value}, typesAre P ts ss = true → l.length = ts.length → (∀ (i : Nat) v u, l[i]? = some v → ts[i]? = some u → Cell.okWide P w r base u v) → HasAll ss l := by
  intro ts
  induction ts with
  | nil =>
    intro ss l h hl _
    cases ss with
    | nil => cases l with
      | nil => exact .nil
      | cons v l => cases hl
    | cons s ss => cases h
  | cons t ts ih =>
    intro ss l h hl hok
    cases ss with
    | nil => cases h
    | cons s ss =>
      cases l with
      | nil => cases hl
      | cons v l =>
        simp only [typesAre, Bool.and_eq_true] at h
        obtain ⟨h1, h2⟩ := h
        cases hu : under P t with
        | none => rw [hu] at h1; cases h1
        | some d =>
          rw [hu] at h1
          refine .cons (cell_has (under_underlying hu) h1 (hok 0 v t rfl rfl)) (ih h2 (by simpa using hl) (fun i v u hv hu => hok (i + 1) v u (by simpa using hv) (by simpa using hu)))

/-- A value of a struct type of scalars. -/
theorem fits_struct {t : TypeId} {fs : Array Field} {ts : List TypeId} {ss : List Srt} {v : Value} (ht : P.underlying t = some (.struct fs)) (hts : P.cellTypes P.depth t = some ts) (hn : P.cellsOf t = ts.length)
    (hss : typesAre P ts ss = true) (h : Value.okWide P w r base t v) : ∃ l, Fits (true, ss) v l := by
  simp only [Value.okWide, ht] at h
  obtain ⟨cs, rfl, hsz, ts', h1, _, h3⟩ := h
  rw [hts] at h1
  cases h1
  refine ⟨cs.toList, ?_⟩
  have e : cs = cs.toList.toArray := by simp
  have hh : HasAll ss cs.toList := by
    refine hasAll_of (w := w) (r := r) (base := base) hss (by simp [hsz, hn]) ?_
    intro i v u hv hu
    have hi : i < ts.length := (List.getElem?_eq_some_iff.1 hu).1
    obtain ⟨u', hu', hok⟩ := h3 i v (by simpa using hv)
    rw [Nat.mod_eq_of_lt hi, hu] at hu'
    cases hu'
    exact hok
  have := Fits.agg hh
  rwa [← e] at this

theorem fits_bool {t : TypeId} {v : Value} (ht : P.underlying t = some .bool) (h : Value.okWide P w r base t v) : ∃ l, Fits (false, [.bool]) v l := by
  obtain ⟨b, rfl⟩ := WideShapes.okWide_bool ht h
  exact ⟨_, .one rfl⟩

end
end Go.SX
