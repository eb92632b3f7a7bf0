/- A symbolic executor for the model's code: what '==' comes to at structs of scalars, by a check of the type's table. Conditions: the checks. -/
import Derived.Test.YtlfhlipdjjhldaaGreatDoorSxW
import Derived.Laws.StructEq
noncomputable section
namespace Go.SX

def srtIs : TypeDesc → Srt → Bool
  | .int k, .int k' => kindEq k k'
  | .float .f64, .float => true
  | .string, .str => true
  | .bool, .bool => true
  | _, _ => false

/-- Fields that lie one behind the other, of scalars and of structs of such. -/
def fieldsChk (P : Program) (rec : TypeId → List Srt → Bool) : List Field → Nat → List Srt → Bool
  | [], _, ss => ss.isEmpty
  | f :: fs, off, ss => f.name != "_" && Nat.beq f.offset off && match tiOf P f.type with
    | some i => match i.isAgg with
      | true => Nat.ble i.size ss.length && rec f.type (ss.take i.size) && fieldsChk P rec fs (off + i.size) (ss.drop i.size)
      | false => match ss with
        | s :: rest => (match under P f.type with
          | some d => srtIs d s
          | none => false) && fieldsChk P rec fs (off + 1) rest
        | [] => false
    | none => false

def eqChk (P : Program) : Nat → TypeId → List Srt → Bool
  | 0, _, _ => false
  | d + 1, t, ss => match under P t with
    | some (.struct fs) => !P.stoodInHeld t && fieldsChk P (eqChk P d) fs.toList 0 ss
    | _ => false

theorem HasAll.length {ss : List Srt} {l : List Value} (h : HasAll ss l) : l.length = ss.length := by
  induction h with
  | nil => rfl
  | cons _ _ ih => simp [ih]

theorem HasAll.take {ss : List Srt} {l : List Value} (h : HasAll ss l) : ∀ n, HasAll (ss.take n) (l.take n) := by
  induction h with
  | nil => intro n; simpa using HasAll.nil
  | cons h1 _ ih =>
    intro n
    cases n with
    | zero => exact .nil
    | succ n => exact .cons h1 (ih n)

theorem HasAll.drop {ss : List Srt} {l : List Value} (h : HasAll ss l) : ∀ n, HasAll (ss.drop n) (l.drop n) := by
  induction h with
  | nil => intro n; simpa using HasAll.nil
  | cons h1 h2 ih =>
    intro n
    cases n with
    | zero => exact .cons h1 h2
    | succ n => exact ih n

theorem eqAll_append : ∀ (n : Nat) (xs ys : List Value), xs.length = ys.length → eqAll xs ys = (eqAll (xs.take n) (ys.take n) && eqAll (xs.drop n) (ys.drop n)) := by
  intro n
  induction n with
  | zero => intro xs ys _; simp [eqAll]
  | succ n ih =>
    intro xs ys h
    cases xs with
    | nil => cases ys with
      | nil => rfl
      | cons y ys => cases h
    | cons x xs => cases ys with
      | nil => cases h
      | cons y ys =>
        simp only [List.take_succ_cons, List.drop_succ_cons, eqAll]
        rw [ih xs ys (by simpa using h), Bool.and_assoc]

section
variable {P : Program} {w : World}

theorem scalar_eq {d : TypeDesc} {s : Srt} (hs : srtIs d s = true) {t : TypeId} (ht : P.underlying t = some d) {x y : Value} (hx : s.has x = true) (hy : s.has y = true) (n : Nat) :
    (Op.equalIn (n + 1) t x y).run P w = .ok (eqV x y) w := by
  unfold srtIs at hs
  split at hs
  · obtain rfl := kindEq_eq hs
    obtain ⟨a, rfl⟩ := has_int hx
    obtain ⟨b, rfl⟩ := has_int hy
    rw [run_equalIn_int w n t _ _ a b ht]
    congr 1
    simp only [eqV, binV, Go.binOp, pureOf, Op.intCmp, ne_eq, not_true_eq_false, if_false]
    rfl
  · obtain ⟨a, rfl⟩ := has_float hx
    obtain ⟨b, rfl⟩ := has_float hy
    unfold Op.equalIn
    rw [Sem.run_bind, run_underlying ht w]
    rfl
  · obtain ⟨a, rfl⟩ := has_str hx
    obtain ⟨b, rfl⟩ := has_str hy
    rw [run_equalIn_string w n t a b ht, Go.ByteArray.toList_eq, Go.ByteArray.toList_eq]
    simp [eqV, binV, strV, bytesEq_beq]
  · obtain ⟨a, rfl⟩ := has_bool hx
    obtain ⟨b, rfl⟩ := has_bool hy
    rw [run_equalIn_bool' w n t a b ht]
    rfl
  · cases hs

theorem eqFields_chk {rec : TypeId → List Srt → Bool} {n : Nat} (hn : n ≠ 0) (hrec : ∀ t ss, rec t ss = true → ∀ xs ys, HasAll ss xs → HasAll ss ys → (Op.equalIn n t (.agg xs.toArray) (.agg ys.toArray)).run P w = .ok (eqAll xs ys) w) :
    ∀ (fs : List Field) (off : Nat) (ss : List Srt) (xs ys pre pre' : List Value), fieldsChk P rec fs off ss = true → HasAll ss xs → HasAll ss ys → pre.length = off → pre'.length = off →
      (Op.eqFields n (pre ++ xs).toArray (pre' ++ ys).toArray fs).run P w = .ok (eqAll xs ys) w := by
  intro fs
  induction fs with
  | nil =>
    intro off ss xs ys pre pre' h hx hy _ _
    simp only [fieldsChk, List.isEmpty_iff] at h
    subst h
    cases hx
    cases hy
    simp [Op.eqFields, eqAll]
  | cons f fs ih =>
    intro off ss xs ys pre pre' h hx hy h1 h2
    simp only [fieldsChk, Bool.and_eq_true, bne_iff_ne] at h
    obtain ⟨⟨hname, hoff⟩, h⟩ := h
    have hoff := Nat.eq_of_beq_eq_true hoff
    cases hi : tiOf P f.type with
    | none => rw [hi] at h; cases h
    | some i =>
      rw [hi] at h
      obtain ⟨info, d, ok⟩ := tiOf_ok hi
      simp only [Op.eqFields, hname, ne_eq, not_false_eq_true, if_true]
      cases ha : i.isAgg with
      | true =>
        simp only [ha, Bool.and_eq_true] at h
        obtain ⟨⟨h3, h4⟩, h5⟩ := h
        have h3 := Nat.le_of_ble_eq_true h3
        have part_run : ∀ (p l : List Value), p.length = off → HasAll ss l → (part f.type (p ++ l).toArray f.offset).run P w = .ok (.agg (l.take i.size).toArray) w := by
          intro p l hp hl
          have e : (p ++ l).toArray.extract f.offset (f.offset + i.size) = (l.take i.size).toArray := by
            apply Array.ext'
            rw [hoff, ← hp]
            simp
          simp only [part, Sem.run_bind, ok.run_agg, ha, Result.andThen_ok, if_true, ok.run_size, e, Sem.run_pure]
        rw [Sem.run_bind, part_run pre xs h1 hx]
        simp only [Result.andThen_ok]
        rw [Sem.run_bind, part_run pre' ys h2 hy]
        simp only [Result.andThen_ok]
        rw [Sem.run_bind, hrec f.type _ h4 _ _ (hx.take _) (hy.take _)]
        simp only [Result.andThen_ok]
        have hlen : xs.length = ys.length := hx.length.trans hy.length.symm
        rw [eqAll_append i.size xs ys hlen]
        cases he : eqAll (xs.take i.size) (ys.take i.size) with
        | false => simp
        | true =>
          simp only [Bool.not_true, Bool.false_eq_true, if_false, Bool.true_and]
          have := ih (off + i.size) (ss.drop i.size) (xs.drop i.size) (ys.drop i.size) (pre ++ xs.take i.size) (pre' ++ ys.take i.size) h5 (hx.drop _) (hy.drop _)
            (by have := hx.length; simp; omega) (by have := hy.length; simp; omega)
          simpa [List.append_assoc, List.take_append_drop] using this
      | false =>
        simp only [ha] at h
        cases hx with
        | nil => cases h
        | cons hx1 hx2 =>
          rename_i s x ss' l
          cases hy with
          | cons hy1 hy2 =>
            rename_i y m
            simp only [Bool.and_eq_true] at h
            obtain ⟨h3, h4⟩ := h
            cases hu : SX.under P f.type with
            | none => rw [hu] at h3; cases h3
            | some d' =>
              rw [hu] at h3
              have part_run : ∀ (p : List Value) (z : Value) (l : List Value), p.length = off → (part f.type (p ++ z :: l).toArray f.offset).run P w = .ok z w := by
                intro p z l hp
                have e : (p ++ z :: l).toArray[f.offset]? = some z := by
                  rw [hoff, ← hp]; simp
                simp only [part, Sem.run_bind, ok.run_agg, ha, Result.andThen_ok, e]
                rfl
              obtain ⟨n', rfl⟩ : ∃ n', n = n' + 1 := ⟨n - 1, by omega⟩
              rw [Sem.run_bind, part_run pre x l h1]
              simp only [Result.andThen_ok]
              rw [Sem.run_bind, part_run pre' y m h2]
              simp only [Result.andThen_ok]
              rw [Sem.run_bind, scalar_eq h3 (under_underlying hu) hx1 hy1 n']
              simp only [Result.andThen_ok, eqAll]
              cases he : eqV x y with
              | false => simp
              | true =>
                simp only [Bool.not_true, Bool.false_eq_true, if_false, Bool.true_and]
                have := ih (off + 1) ss' l m (pre ++ [x]) (pre' ++ [y]) h4 hx2 hy2 (by simp [h1]) (by simp [h2])
                simpa using this

theorem eqChk_sound : ∀ (d : Nat) (t : TypeId) (ss : List Srt), eqChk P d t ss = true → ∀ n, d ≤ n → ∀ xs ys, HasAll ss xs → HasAll ss ys →
    (Op.equalIn (n + 1) t (.agg xs.toArray) (.agg ys.toArray)).run P w = .ok (eqAll xs ys) w := by
  intro d
  induction d with
  | zero => intro t ss h; cases h
  | succ d ih =>
    intro t ss h n hn xs ys hx hy
    simp only [eqChk] at h
    split at h
    case h_2 => cases h
    rename_i fs hu
    simp only [Bool.and_eq_true, Bool.not_eq_true'] at h
    have hu' := under_underlying hu
    have hf : P.fieldsOf t = fs := by unfold Program.fieldsOf; rw [hu']
    rw [run_equalIn_struct w n t _ _ (by rw [hf]; exact hu') h.1, hf]
    obtain ⟨n', rfl⟩ : ∃ n', n = n' + 1 := ⟨n - 1, by omega⟩
    exact eqFields_chk (by omega) (fun t ss h xs ys hx hy => ih t ss h n' (by omega) xs ys hx hy) fs.toList 0 ss xs ys [] [] h.2 hx hy rfl rfl

/-- **'==' at the struct types of the table**, by a check. -/
theorem eqOk_of {C : Cfg} (h : ∀ t ss, C.eqT t = some ss → eqChk C.P 5 t ss = true ∧ C.P.eqGuardType C.P.depth t = false) : EqOk C := by
  intro t ss ht xs ys hx hy op p q w
  obtain ⟨h1, h2⟩ := h t ss ht
  exact ⟨run_eqGuard_agg w op t p q _ _ h2, by
    have e : Op.maxDepth = 9999 + 1 := rfl
    unfold Op.equal
    rw [e]
    exact eqChk_sound 5 t ss h1 9999 (by omega) xs ys hx hy⟩

end
end Go.SX
