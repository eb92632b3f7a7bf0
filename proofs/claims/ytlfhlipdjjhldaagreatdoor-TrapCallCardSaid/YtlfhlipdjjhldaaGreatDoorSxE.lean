/- A symbolic executor for the model's code: operations that neither read nor turn memory do what 'valA' says. Conditions: the table of struct types whose cells are held against each other is as said. -/
import Derived.Test.YtlfhlipdjjhldaaGreatDoorSxD
namespace Go.SX

/-! ### Tables -/

theorem tinfo_info {P : Program} {t : Nat} {i : TypeInfo} (h : tinfo P t = some i) : P.info? t = some i := by
  unfold tinfo at h
  rw [nth_eq, Array.getElem?_toList] at h
  have hlt : t < P.types.size := (Array.getElem?_eq_some_iff.1 h).1
  unfold Tables.info?
  rw [if_pos hlt]; exact h

theorem under_underlying {P : Program} {t : Nat} {d : TypeDesc} (h : under P t = some d) : P.underlying t = some d := by
  unfold under at h
  unfold Program.underlying
  cases hi : tinfo P t with
  | none => rw [hi] at h; cases h
  | some i =>
    rw [tinfo_info hi]
    rw [hi] at h
    obtain ⟨desc, str, size, bytes, hp, al, fa, zero, comp, meth⟩ := i
    cases desc with
    | named n u =>
      simp only [Option.map_eq_some_iff] at h ⊢
      obtain ⟨j, hj, e⟩ := h
      exact ⟨j, tinfo_info hj, e⟩
    | _ => exact h

/-- What a row of the table says. -/
structure TiOk (P : Program) (t : Nat) (i : TI) (j : TypeInfo) (d : TypeDesc) : Prop where
  info : P.info? t = some j
  under : P.underlying t = some d
  size : i.size = j.size
  bytes : i.bytes = j.bytes
  kind : kindOf P d = some i.kind
  zero : i.zero = zeroOf j.zero

theorem tiOf_ok {P : Program} {t : Nat} {i : TI} (h : tiOf P t = some i) : ∃ info d, TiOk P t i info d := by
  unfold tiOf at h
  cases hi : tinfo P t with
  | none => rw [hi] at h; cases h
  | some info =>
    rw [hi] at h
    cases hu : SX.under P t with
    | none => simp only [hu] at h; cases h
    | some d =>
      simp only [hu] at h
      cases hk : kindOf P d with
      | none => simp only [hk] at h; cases h
      | some k =>
        simp only [hk] at h
        cases h
        exact ⟨info, d, tinfo_info hi, under_underlying hu, rfl, rfl, hk, rfl⟩

section
variable {P : Program} {t : Nat} {i : TI} {info : TypeInfo} {d : TypeDesc}

theorem TiOk.run_under (h : TiOk P t i info d) (w : World) : (underlying t).run P w = .ok d w := run_underlying h.under w
theorem TiOk.run_info (h : TiOk P t i info d) (w : World) : (typeInfo t).run P w = .ok info w := by simp [typeInfo, h.info]
theorem TiOk.run_size (h : TiOk P t i info d) (w : World) : (sizeOf t).run P w = .ok i.size w := by simp [sizeOf, h.run_info, h.size]

theorem kind_cases {k : TK} (h : kindOf P d = some k) :
    (∃ a fs, d = .struct a ∧ k = .struct fs ∧ fieldsOf P a.toList = some fs) ∨ (∃ n e, d = .array n e ∧ k = .array n e) ∨ (∃ e, d = .slice e ∧ k = .slice e) ∨
    (∃ j, d = .int j ∧ k = .int j) ∨ (d = .float .f64 ∧ k = .float) ∨ (d = .string ∧ k = .str) ∨ (d = .bool ∧ k = .bool) ∨ (∃ e, d = .pointer e ∧ k = .ptr) ∨
    ((match d with | .struct _ | .array _ _ => true | _ => false) = false ∧ k = .other) := by
  cases d with
  | struct a =>
    simp only [kindOf] at h
    split at h
    · rename_i l hl; cases h; exact .inl ⟨a, l, rfl, rfl, hl⟩
    · cases h
  | float f =>
    cases f with
    | f32 => cases h; simp
    | f64 => cases h; simp
  | _ => cases h; simp

theorem kind_struct {fs : List (Nat × Nat × Nat)} (h : kindOf P d = some (.struct fs)) : ∃ a, d = .struct a ∧ fieldsOf P a.toList = some fs := by
  rcases kind_cases h with ⟨a, l, h1, h2, h3⟩ | ⟨n, e, h1, h2⟩ | ⟨e, h1, h2⟩ | ⟨j, h1, h2⟩ | ⟨h1, h2⟩ | ⟨h1, h2⟩ | ⟨h1, h2⟩ | ⟨e, h1, h2⟩ | ⟨h1, h2⟩ <;> cases h2
  exact ⟨a, h1, h3⟩
theorem kind_array {n e : Nat} (h : kindOf P d = some (.array n e)) : d = .array n e := by
  rcases kind_cases h with ⟨a, l, h1, h2, h3⟩ | ⟨n, e, h1, h2⟩ | ⟨e, h1, h2⟩ | ⟨j, h1, h2⟩ | ⟨h1, h2⟩ | ⟨h1, h2⟩ | ⟨h1, h2⟩ | ⟨e, h1, h2⟩ | ⟨h1, h2⟩ <;> cases h2
  exact h1
theorem kind_slice {e : Nat} (h : kindOf P d = some (.slice e)) : d = .slice e := by
  rcases kind_cases h with ⟨a, l, h1, h2, h3⟩ | ⟨n, e, h1, h2⟩ | ⟨e, h1, h2⟩ | ⟨j, h1, h2⟩ | ⟨h1, h2⟩ | ⟨h1, h2⟩ | ⟨h1, h2⟩ | ⟨e, h1, h2⟩ | ⟨h1, h2⟩ <;> cases h2
  exact h1
theorem kind_int {k : IntKind} (h : kindOf P d = some (.int k)) : d = .int k := by
  rcases kind_cases h with ⟨a, l, h1, h2, h3⟩ | ⟨n, e, h1, h2⟩ | ⟨e, h1, h2⟩ | ⟨j, h1, h2⟩ | ⟨h1, h2⟩ | ⟨h1, h2⟩ | ⟨h1, h2⟩ | ⟨e, h1, h2⟩ | ⟨h1, h2⟩ <;> cases h2
  exact h1
theorem kind_float (h : kindOf P d = some .float) : d = .float .f64 := by
  rcases kind_cases h with ⟨a, l, h1, h2, h3⟩ | ⟨n, e, h1, h2⟩ | ⟨e, h1, h2⟩ | ⟨j, h1, h2⟩ | ⟨h1, h2⟩ | ⟨h1, h2⟩ | ⟨h1, h2⟩ | ⟨e, h1, h2⟩ | ⟨h1, h2⟩ <;> cases h2
  exact h1
theorem kind_str (h : kindOf P d = some .str) : d = .string := by
  rcases kind_cases h with ⟨a, l, h1, h2, h3⟩ | ⟨n, e, h1, h2⟩ | ⟨e, h1, h2⟩ | ⟨j, h1, h2⟩ | ⟨h1, h2⟩ | ⟨h1, h2⟩ | ⟨h1, h2⟩ | ⟨e, h1, h2⟩ | ⟨h1, h2⟩ <;> cases h2
  exact h1

theorem kind_bool (h : kindOf P d = some .bool) : d = .bool := by
  rcases kind_cases h with ⟨a, l, h1, h2, h3⟩ | ⟨n, e, h1, h2⟩ | ⟨e, h1, h2⟩ | ⟨j, h1, h2⟩ | ⟨h1, h2⟩ | ⟨h1, h2⟩ | ⟨h1, h2⟩ | ⟨e, h1, h2⟩ | ⟨h1, h2⟩ <;> cases h2
  exact h1

theorem kind_ptr (h : kindOf P d = some .ptr) : ∃ e, d = .pointer e := by
  rcases kind_cases h with ⟨a, l, h1, h2, h3⟩ | ⟨n, e, h1, h2⟩ | ⟨e, h1, h2⟩ | ⟨j, h1, h2⟩ | ⟨h1, h2⟩ | ⟨h1, h2⟩ | ⟨h1, h2⟩ | ⟨e, h1, h2⟩ | ⟨h1, h2⟩ <;> cases h2
  exact ⟨e, h1⟩

theorem TiOk.run_agg (h : TiOk P t i info d) (w : World) : (isAgg t).run P w = .ok i.isAgg w := by
  have hk := h.kind
  have hr := h.run_under w
  unfold TI.isAgg
  generalize i.kind = k at hk
  rcases kind_cases hk with ⟨a, l, h1, h2, h3⟩ | ⟨n, e, h1, h2⟩ | ⟨e, h1, h2⟩ | ⟨j, h1, h2⟩ | ⟨h1, h2⟩ | ⟨h1, h2⟩ | ⟨h1, h2⟩ | ⟨e, h1, h2⟩ | ⟨h1, h2⟩ <;> subst h2
  all_goals (simp only [isAgg, Sem.run_bind, hr, Result.andThen_ok])
  · subst h1; rfl
  · subst h1; rfl
  · subst h1; rfl
  · subst h1; rfl
  · subst h1; rfl
  · subst h1; rfl
  · subst h1; rfl
  · subst h1; rfl
  · cases d <;> first | rfl | cases h1

end
end Go.SX
