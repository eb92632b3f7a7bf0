/- A symbolic executor for the model's code: operations that neither read nor turn memory do what 'valA' says, IV: the whole. Conditions: 'EqOk'. -/
import Derived.Test.YtlfhlipdjjhldaaGreatDoorSxH
namespace Go.SX

/-! ### Parts -/

theorem foldl_set_aux (off : Nat) : ∀ (new : List Value) (k : Nat) (cs : Array Value), off + k + new.length ≤ cs.size →
    ((new.zipIdx k).foldl (fun cs p => cs.setIfInBounds (off + p.2) p.1) cs).toList = cs.toList.take (off + k) ++ (new ++ cs.toList.drop (off + k + new.length))
  | [], k, cs, _ => by simp
  | v :: new, k, cs, h => by
    have h' : off + (k + 1) + new.length ≤ (cs.setIfInBounds (off + k) v).size := by simp at h ⊢; omega
    rw [List.zipIdx_cons, List.foldl_cons, foldl_set_aux off new (k + 1) _ h']
    have e := list_seg_step cs.toList (off + k) v new (by simp at h ⊢; omega)
    simpa [Array.toList_setIfInBounds, Nat.add_assoc] using e

theorem fold_set (off : Nat) (new : List Value) (l : List Value) (h : off + new.length ≤ l.length) :
    new.toArray.zipIdx.foldl (fun cs (x : Value × Nat) => cs.setIfInBounds (off + x.2) x.1) l.toArray = (l.take off ++ (new ++ l.drop (off + new.length))).toArray := by
  apply Array.ext'
  rw [← Array.foldl_toList]
  have := foldl_set_aux off new 0 l.toArray (by simpa using h)
  simpa using this

/-- The parts of a literal, as values. -/
def Parts (Γ : Env) : List (Nat × AV) → List (Nat × Value) → Prop
  | [], [] => True
  | p :: l, q :: m => p.1 = q.1 ∧ p.2.den Γ = some q.2 ∧ Parts Γ l m
  | _, _ => False

theorem fillA_sound {Γ : Env} {place place' : Nat → Option (Nat × Nat)} (hp : ∀ i p, place i = some p → place' i = some p) :
    ∀ {ps : List (Nat × AV)} {qs : List (Nat × Value)} {cs r : List Cell} {l : List Value}, Parts Γ ps qs → fillA place cs ps = some r → cellsDen Γ cs = some l →
      ∃ l', cellsDen Γ r = some l' ∧ Instr.fill place' l.toArray qs = some l'.toArray ∧ l'.length = l.length := by
  intro ps
  induction ps with
  | nil =>
    intro qs cs r l hq h hl
    cases qs with
    | nil => cases h; exact ⟨l, hl, rfl, rfl⟩
    | cons q qs => exact hq.elim
  | cons p ps ih =>
    intro qs cs r l hq h hl
    cases qs with
    | nil => exact hq.elim
    | cons q qs =>
      obtain ⟨i, v⟩ := p
      obtain ⟨i', x⟩ := q
      obtain ⟨rfl, hv, hq⟩ := hq
      simp only [fillA] at h
      cases hpl : place i with
      | none => rw [hpl] at h; cases h
      | some pl =>
        rw [hpl] at h
        cases hc : v.cells with
        | none => simp only [hc] at h; cases h
        | some ds =>
          simp only [hc] at h
          split at h
          case isFalse => cases h
          rename_i hlen
          have hlen := Nat.eq_of_beq_eq_true hlen
          rw [lenL_eq] at hlen
          cases hput : putCells cs pl.1 ds with
          | none => simp only [hput] at h; cases h
          | some m =>
            simp only [hput] at h
            obtain ⟨hb, rfl⟩ := putL_some _ _ _ _ hput
            obtain ⟨dv, hdv, hxc⟩ := AV.den_cells hv hc
            have e1 := cellsDen_length hdv
            have e2 := cellsDen_length hl
            have hden : cellsDen Γ (cs.take pl.1 ++ (ds ++ cs.drop (pl.1 + ds.length))) = some (l.take pl.1 ++ (dv ++ l.drop (pl.1 + ds.length))) :=
              cellsDen_append (cellsDen_take _ hl) (cellsDen_append hdv (cellsDen_drop _ hl))
            obtain ⟨l', h1, h2, h3⟩ := ih hq h hden
            refine ⟨l', h1, ?_, ?_⟩
            · simp only [Instr.fill, hp _ _ hpl, hxc]
              have hs : (dv.toArray.size ≠ pl.2 || pl.1 + dv.toArray.size > l.toArray.size) = false := by
                simp; omega
              rw [if_neg (by rw [hs]; decide)]
              rw [← h2]
              congr 1
              have := fold_set pl.1 dv l (by omega)
              rw [← e1]
              exact this
            · rw [h3]; simp; omega

section
variable {C : Cfg} {Γ : Env} {tmps : T AV} {a : Act}

theorem partsA_sound : ∀ {l : List (Nat × Operand)} {ps : List (Nat × AV)}, partsA tmps l = some ps → (∀ x ∈ l.map (·.2), ∀ v, evalA tmps x = some v → v.den Γ = some (a.eval x)) →
    Parts Γ ps (l.map fun (i, x) => (i, a.eval x)) := by
  intro l
  induction l with
  | nil => intro ps h _; cases h; trivial
  | cons p l ih =>
    intro ps h he
    obtain ⟨i, x⟩ := p
    simp only [partsA] at h
    cases hx : evalA tmps x with
    | none => rw [hx] at h; cases h
    | some v =>
      rw [hx] at h
      cases hr : partsA tmps l with
      | none => simp only [hr] at h; cases h
      | some r =>
        simp only [hr] at h
        cases h
        exact ⟨rfl, he x (by simp) v hx, ih hr (fun y hy => he y (List.mem_cons_of_mem _ hy))⟩

theorem zeroOf_den {z : Option Value} {cs : List Cell} (h : zeroOf z = some cs) : ∃ v, z = some v ∧ cellsDen Γ cs = some v.cells.toList := by
  unfold zeroOf at h
  split at h
  · rename_i v; exact ⟨v, rfl, cellsOf_den h⟩
  · cases h

theorem fieldsOf_mapM {P : Program} : ∀ {fs : List Field} {l : List (Nat × Nat × Nat)}, fieldsOf P fs = some l →
    fs.mapM (fun f => (P.info? f.type).map fun i => (f.offset, i.size)) = some (l.map fun x => (x.1, x.2.1)) := by
  intro fs
  induction fs with
  | nil => intro l h; cases h; rfl
  | cons f fs ih =>
    intro l h
    simp only [fieldsOf] at h
    cases hi : tinfo P f.type with
    | none => rw [hi] at h; cases h
    | some j =>
      rw [hi] at h
      cases hr : fieldsOf P fs with
      | none => simp only [hr] at h; cases h
      | some r =>
        simp only [hr] at h
        cases h
        simp [List.mapM_cons, tinfo_info hi, ih hr]

theorem buildA_sound {t : Nat} {parts : Array (Nat × Operand)} {v : AV} (h : buildA C tmps t parts.toList = some v) (he : ∀ x ∈ parts.toList.map (·.2), ∀ v, evalA tmps x = some v → v.den Γ = some (a.eval x)) :
    ∃ u, v.den Γ = some u ∧ ∀ w, (Instr.build t (parts.map fun (i, x) => (i, a.eval x))).run C.P w = .ok u w := by
  unfold buildA at h
  cases hi : C.ti t with
  | none => simp only [hi] at h; cases h
  | some i =>
    simp only [hi] at h
    obtain ⟨info, d, ok⟩ := tiOf_ok hi
    cases hz : i.zero with
    | none => simp only [hz] at h; cases h
    | some z =>
      simp only [hz] at h
      obtain ⟨zv, hzv, hzd⟩ := zeroOf_den (Γ := Γ) (ok.zero ▸ hz)
      cases hps : partsA tmps parts.toList with
      | none => simp only [hps] at h; cases h
      | some ps =>
        simp only [hps] at h
        have hparts := partsA_sound (Γ := Γ) (a := a) hps he
        split at h
        case h_2 => cases h
        rename_i fs hk
        obtain ⟨fa, rfl, hfs⟩ := kind_struct (hk ▸ ok.kind)
        split at h
        case h_2 => cases h
        rename_i cs hcs
        cases h
        have hplace : ∀ i p, placeOf fs i = some p → (fun x => ((fs.map fun x => (x.1, x.2.1)).toArray)[x]?) i = some p := by
          intro i p hp
          unfold placeOf at hp
          split at hp
          · rename_i f hf
            cases hp
            rw [nth_eq] at hf
            simp [hf]
          · cases hp
        obtain ⟨l', h1, h2, _⟩ := fillA_sound hplace hparts hcs hzd
        refine ⟨.agg l'.toArray, by simp [AV.den, h1], fun w => ?_⟩
        refine run_build w t _ _ ?_
        have h2' : Instr.fill (fun x => ((fs.map fun x => (x.1, x.2.1)).toArray)[x]?) zv.cells (parts.map fun (i, x) => (i, a.eval x)).toList = some l'.toArray := by
          simpa using h2
        unfold Program.built
        simp only [ok.info, ok.under, hzv, fieldsOf_mapM hfs]
        exact h2'

theorem boundA_sound {o : Option Operand} {r : Option Nat} (h : boundA tmps o = some r) (he : ∀ x, o = some x → ∀ v, evalA tmps x = some v → v.den Γ = some (a.eval x)) :
    (r = none ∧ o.map a.eval = none) ∨ ∃ k n, r = some n ∧ o.map a.eval = some (.int k n) := by
  unfold boundA at h
  split at h
  · cases h; exact .inl ⟨rfl, rfl⟩
  · rename_i x
    cases hx : evalA tmps x with
    | none => rw [hx] at h; cases h
    | some v =>
      rw [hx] at h
      cases hn : v.num with
      | none => simp only [hn] at h; cases h
      | some n =>
        simp only [hn] at h
        cases h
        obtain ⟨k, hk⟩ := num_den hn (he x rfl v hx)
        exact .inr ⟨k, n, rfl, by simp [hk]⟩

theorem run_sliceBounds {P : Program} {isS : Bool} {lo hi : Option Value} {l h : Option Nat} {len cap : Nat} (hl : (l = none ∧ lo = none) ∨ ∃ k n, l = some n ∧ lo = some (.int k n))
    (hh : (h = none ∧ hi = none) ∨ ∃ k n, h = some n ∧ hi = some (.int k n)) (h1 : l.getD 0 ≤ h.getD len) (h2 : h.getD len ≤ cap) (w : World) :
    (Instr.sliceBounds isS len cap lo hi none).run P w = .ok (l.getD 0, h.getD len, cap) w := by
  have hb : ∀ (k : IntKind) (n y : Nat) (c : BoundsCode), n ≤ y → (Instr.sliceBound (.int k n) y c).run P w = .ok n w := by
    intro k n y c hn
    have : (0 : Int) ≤ (n : Int) ∧ (n : Int) ≤ (y : Int) := by omega
    simp [Instr.sliceBound, asIntOf, this.1, this.2]
  unfold Instr.sliceBounds
  rcases hl with ⟨rfl, rfl⟩ | ⟨k, n, rfl, rfl⟩ <;> rcases hh with ⟨rfl, rfl⟩ | ⟨k', n', rfl, rfl⟩
  · simp
  · simp only [Option.getD_some] at h2
    simp [hb k' n' cap _ h2]
  · simp only [Option.getD_some, Option.getD_none] at h1 h2
    simp [hb k n len _ h1]
  · simp only [Option.getD_some] at h1 h2
    simp [hb k' n' cap _ h2, hb k n n' _ h1]

theorem extract_eq (s : ByteArray) (l h : Nat) : s.extract l h = ⟨((s.data.toList.drop l).take (h - l)).toArray⟩ := by
  obtain ⟨⟨xs⟩⟩ := s
  apply ByteArray.ext
  apply Array.ext'
  simp [ByteArray.data_extract, List.extract_eq_take_drop]

theorem sliceStr_sound {t : Nat} {i : TI} {v r : AV} {x : Value} {lo hi : Option Value} {l h : Option Nat} (hi' : C.ti t = some i) (hk : i.kind = .str)
    (hs : sliceStr v l h = some r) (hv : v.den Γ = some x) (hl : (l = none ∧ lo = none) ∨ ∃ k n, l = some n ∧ lo = some (.int k n))
    (hh : (h = none ∧ hi = none) ∨ ∃ k n, h = some n ∧ hi = some (.int k n)) :
    ∃ u, r.den Γ = some u ∧ ∀ w, (Instr.sliceAt t x lo hi none).run C.P w = .ok u w := by
  obtain ⟨info, d, ok⟩ := tiOf_ok hi'
  obtain rfl := kind_str (hk ▸ ok.kind)
  unfold sliceStr at hs
  split at hs
  case h_2 => cases hs
  rename_i s
  dsimp only at hs
  split at hs
  case isFalse => cases hs
  rename_i hle
  obtain ⟨h1, h2⟩ := Bool.and_eq_true_iff.1 hle
  have h1 := Nat.le_of_ble_eq_true h1
  have h2 := Nat.le_of_ble_eq_true h2
  rw [lenL_eq] at h1 h2
  split at hs
  case h_2 => cases hs
  rename_i r' hr
  cases hs
  obtain ⟨_, rfl⟩ := takeL_some _ _ _ hr
  rw [AV.den_one, den_s] at hv
  obtain ⟨hv, _⟩ := hv
  cases hv
  have hsz : s.size = s.data.toList.length := (bsize s).symm
  refine ⟨.string (s.extract (l.getD 0) (h.getD s.size)), ?_, fun w => ?_⟩
  · rw [AV.den_one, den_s]
    refine ⟨?_, rfl⟩
    rw [extract_eq, dropL_eq, hsz, lenL_eq]
    rfl
  · have hb := run_sliceBounds (P := C.P) (isS := false) (len := s.size) (cap := s.size) hl hh (by rw [hsz]; exact h1) (by rw [hsz]; exact h2) w
    simp [Instr.sliceAt, Instr.slice, ok.run_under, hb]

theorem sliceA_sound {t e : Nat} {i j : TI} {v r : AV} {x : Value} {lo hi : Option Value} {l h : Option Nat} (hi' : C.ti t = some i) (hk : i.kind = .slice e) (hj : C.ti e = some j)
    (hs : sliceA j.size v l h = some r) (hv : v.den Γ = some x) (hl : (l = none ∧ lo = none) ∨ ∃ k n, l = some n ∧ lo = some (.int k n))
    (hh : (h = none ∧ hi = none) ∨ ∃ k n, h = some n ∧ hi = some (.int k n)) :
    ∃ u, r.den Γ = some u ∧ ∀ w, (Instr.sliceAt t x lo hi none).run C.P w = .ok u w := by
  obtain ⟨info, d, ok⟩ := tiOf_ok hi'
  obtain ⟨infoe, de, oke⟩ := tiOf_ok hj
  obtain rfl := kind_slice (hk ▸ ok.kind)
  have run : ∀ (aa : Option Addr) (len cap : Nat), l.getD 0 ≤ h.getD len → h.getD len ≤ cap → ∀ w, (Instr.sliceAt t (.slice aa len cap) lo hi none).run C.P w =
      .ok (.slice (if cap = l.getD 0 then aa else aa.map (·.add (l.getD 0 * j.size))) (h.getD len - l.getD 0) (cap - l.getD 0)) w := by
    intro aa len cap h1 h2 w
    simp only [Instr.sliceAt, Instr.slice, Sem.run_bind, ok.run_under, Result.andThen_ok, run_sliceBounds hl hh h1 h2, oke.run_size, Sem.run_pure]
  unfold sliceA at hs
  split at hs
  · rename_i id off len c
    dsimp only at hs
    split at hs
    case isFalse => cases hs
    rename_i hle
    obtain ⟨h1, h2⟩ := Bool.and_eq_true_iff.1 hle
    have h1 := Nat.le_of_ble_eq_true h1
    have h2 := Nat.le_of_ble_eq_true h2
    cases hs
    obtain ⟨b, c', hb, hc, hlen, rfl⟩ := den_slice hv
    cases hc
    have hcl : ∀ (m n : Nat), Nat.beq m n = true ↔ m = n := fun m n => ⟨Nat.eq_of_beq_eq_true, fun e => e ▸ Nat.beq_refl _⟩
    refine ⟨.slice (some ⟨b, Γ.β id + (if c = l.getD 0 then off else off + l.getD 0 * j.size), none⟩) (h.getD len - l.getD 0) (c - l.getD 0), ?_, fun w => ?_⟩
    · rw [AV.den_one]
      simp only [Cell.den, hb, Option.bind_some, N.den, sliceDen, hcl]
      have hle' : h.getD len - l.getD 0 ≤ c - l.getD 0 := by omega
      show (if h.getD len - l.getD 0 ≤ c - l.getD 0 then _ else none) = _
      rw [if_pos hle']
      rfl
    · rw [run _ _ _ h1 h2]
      congr 2
      split
      · rfl
      · simp [addr_add, Nat.add_assoc]
  · rename_i l' c'
    split at hs
    case isFalse => cases hs
    rename_i hle
    obtain ⟨h1, h2⟩ := Bool.and_eq_true_iff.1 hle
    have h1 := Nat.eq_of_beq_eq_true h1
    have h2 := Nat.eq_of_beq_eq_true h2
    cases hs
    obtain ⟨hn, rfl⟩ := den_c hv
    obtain ⟨rfl, rfl⟩ := isNil_slice hn
    refine ⟨_, hv, fun w => ?_⟩
    rw [run _ _ _ (by omega) (by omega)]
    simp [h1, h2]
  · cases hs

/-- **OPERATIONS THAT NEITHER READ NOR TURN MEMORY.** -/
theorem valA_sound (hE : EqOk C) {o : Oper} {v : AV} (he : Ev Γ tmps a o.op) (h : valA C tmps o.op = some v) : ∃ u, v.den Γ = some u ∧ ∀ w, (execOp a.eval o).run C.P w = .ok (.value u) w := by
  obtain ⟨dst, op, type, pos, after, guard⟩ := o
  have fin : ∀ {s : Sem Value}, (∃ u, v.den Γ = some u ∧ ∀ w, s.run C.P w = .ok u w) → (∀ w, (execOp a.eval ⟨dst, op, type, pos, after, guard⟩).run C.P w = ((do pure (.value (← s)) : Sem Next)).run C.P w) →
      ∃ u, v.den Γ = some u ∧ ∀ w, (execOp a.eval ⟨dst, op, type, pos, after, guard⟩).run C.P w = .ok (.value u) w := by
    rintro s ⟨u, hu, hr⟩ hs
    exact ⟨u, hu, fun w => by rw [hs w, Sem.run_bind, hr w]; rfl⟩
  have one : ∀ {x : Operand} {y : AV}, x ∈ op.operands → evalA tmps x = some y → y.den Γ = some (a.eval x) := fun hx hy => he _ hx _ hy
  simp only at h
  cases op <;> simp only [valA] at h <;> (first | (cases h; done) | skip)
  case move x => exact ⟨a.eval x, one (by simp [Op.operands]) h, fun w => rfl⟩
  case assign x => exact ⟨a.eval x, one (by simp [Op.operands]) h, fun w => rfl⟩
  case pick c p q =>
    cases hc : evalA tmps c with
    | none => simp only [hc] at h; cases h
    | some cv => cases hp : evalA tmps p with
      | none => simp only [hc, hp] at h; cases h
      | some pv => cases hq : evalA tmps q with
        | none => simp only [hc, hp, hq] at h; cases h
        | some qv =>
          simp only [hc, hp, hq] at h
          obtain ⟨t, ht, hv⟩ := pickA_sound h (one (by simp [Op.operands]) hc) (one (by simp [Op.operands]) hp) (one (by simp [Op.operands]) hq)
          refine ⟨_, hv, fun w => ?_⟩
          simp [execOp, ht, asBool]
  case build t parts =>
    refine fin (s := Instr.build t (parts.map fun (i, x) => (i, a.eval x))) (buildA_sound h ?_) (fun w => rfl)
    intro x hx v hv
    exact he x (by simpa [Op.operands] using hx) v hv
  case nilCheck x =>
    cases hx : evalA tmps x with
    | none => simp only [hx] at h; cases h
    | some y =>
      simp only [hx] at h
      have hy := one (by simp [Op.operands]) hx
      unfold nilCheckA at h
      split at h
      · cases h
        refine ⟨_, hy, fun w => ?_⟩
        obtain ⟨b, _, e⟩ := den_ptr hy
        simp [execOp, e]
      · cases h
        refine ⟨_, hy, fun w => ?_⟩
        rw [AV.den_one] at hy
        simp only [Cell.den, Option.map_eq_some_iff] at hy
        obtain ⟨l, _, e⟩ := hy
        simp [execOp, ← e]
      · cases h
  case binOp op t x y ty =>
    cases hx : evalA tmps x with
    | none => simp only [hx] at h; cases h
    | some p => cases hy : evalA tmps y with
      | none => simp only [hx, hy] at h; cases h
      | some q =>
        simp only [hx, hy] at h
        obtain ⟨u, hu, hr⟩ := binA_sound hE h (one (by simp [Op.operands]) hx) (one (by simp [Op.operands]) hy)
        refine ⟨u, hu, fun w => ?_⟩
        obtain ⟨h1, h2⟩ := hr w x y
        simp [execOp, h1, h2]
  case unOp op t x =>
    cases hx : evalA tmps x with
    | none => simp only [hx] at h; cases h
    | some p =>
      simp only [hx] at h
      exact fin (unA_sound h (one (by simp [Op.operands]) hx)) (fun w => rfl)
  case convert s d x =>
    cases hx : evalA tmps x with
    | none => simp only [hx] at h; cases h
    | some p => cases hi : C.ti s with
      | none => simp only [hx, hi] at h; cases h
      | some i => cases hj : C.ti d with
        | none => simp only [hx, hi, hj] at h; cases h
        | some j =>
          simp only [hx, hi, hj] at h
          exact fin (convA_sound hi hj h (one (by simp [Op.operands]) hx)) (fun w => rfl)
  case makeFunc fn first caps =>
    unfold makeFuncA at h
    split at h
    case h_2 => cases h
    rename_i f
    split at h
    case h_2 => cases h
    rename_i hf
    cases hl : evalsA tmps caps.toList with
    | none => simp only [hl] at h; cases h
    | some l =>
      simp only [hl] at h
      cases hp : ptrsOf l with
      | none => simp only [hp] at h; cases h
      | some ps =>
        simp only [hp] at h
        cases h
        have hd := evalsA_den (Γ := Γ) (a := a) hl (fun x hx v hv => he x (by simp [Op.operands]; exact .inr (by simpa using hx)) v hv)
        have hd2 := ptrsOf_den hp hd
        refine ⟨.func (.func f) #[] (caps.map a.eval), ?_, fun w => ?_⟩
        · rw [AV.den_one]
          simp only [Cell.den, hd2, Option.map_some]
          congr 2
          apply Array.ext'
          simp
        · have : first = #[] := by apply Array.ext'; simpa using hf
          subst this
          simp [execOp, Instr.makeFunc]
  case slice t x lo hi mx =>
    split at h
    case h_2 => cases h
    cases hi' : C.ti t with
    | none => simp only [hi'] at h; cases h
    | some i =>
      simp only [hi'] at h
      split at h
      case h_3 => cases h
      case h_2 =>
        rename_i hk
        cases hx : evalA tmps x with
        | none => simp only [hx] at h; cases h
        | some v => cases hl : boundA tmps lo with
          | none => simp only [hx, hl] at h; cases h
          | some l => cases hh : boundA tmps hi with
            | none => simp only [hx, hl, hh] at h; cases h
            | some u =>
              simp only [hx, hl, hh] at h
              refine fin (sliceStr_sound hi' hk h (one (by simp [Op.operands]) hx) (boundA_sound (Γ := Γ) (a := a) hl ?_) (boundA_sound (Γ := Γ) (a := a) hh ?_)) (fun w => rfl)
              · rintro y rfl v hv; exact he y (by simp [Op.operands]) v hv
              · rintro y rfl v hv; exact he y (by simp [Op.operands]) v hv
      rename_i e hk
      cases hj : C.ti e with
      | none => simp only [hj] at h; cases h
      | some j => cases hx : evalA tmps x with
        | none => simp only [hj, hx] at h; cases h
        | some v => cases hl : boundA tmps lo with
          | none => simp only [hj, hx, hl] at h; cases h
          | some l => cases hh : boundA tmps hi with
            | none => simp only [hj, hx, hl, hh] at h; cases h
            | some u =>
              simp only [hj, hx, hl, hh] at h
              refine fin (sliceA_sound hi' hk hj h (one (by simp [Op.operands]) hx) (boundA_sound (Γ := Γ) (a := a) hl ?_) (boundA_sound (Γ := Γ) (a := a) hh ?_)) (fun w => rfl)
              · rintro y rfl v hv; exact he y (by simp [Op.operands]) v hv
              · rintro y rfl v hv; exact he y (by simp [Op.operands]) v hv
  case fieldAddr t x f =>
    cases hx : evalA tmps x with
    | none => simp only [hx] at h; cases h
    | some p => cases hi : C.ti t with
      | none => simp only [hx, hi] at h; cases h
      | some i =>
        simp only [hx, hi] at h
        exact fin (fieldAddrA_sound hi h (one (by simp [Op.operands]) hx)) (fun w => rfl)
  case field t x f =>
    cases hx : evalA tmps x with
    | none => simp only [hx] at h; cases h
    | some p => cases hi : C.ti t with
      | none => simp only [hx, hi] at h; cases h
      | some i =>
        simp only [hx, hi] at h
        exact fin (fieldA_sound hi h (one (by simp [Op.operands]) hx)) (fun w => rfl)
  case indexAddr t x ix =>
    cases hx : evalA tmps x with
    | none => simp only [hx] at h; cases h
    | some p => cases hj : evalA tmps ix with
      | none => simp only [hx, hj] at h; cases h
      | some j => cases hn : j.num with
        | none => simp only [hx, hj, hn] at h; cases h
        | some n => cases hi : C.ti t with
          | none => simp only [hx, hj, hn, hi] at h; cases h
          | some i =>
            simp only [hx, hj, hn, hi] at h
            obtain ⟨k, hk⟩ := num_den hn (one (x := ix) (by simp [Op.operands]) hj)
            exact fin (indexAddrA_sound hi h (one (by simp [Op.operands]) hx)) (fun w => by rw [← hk]; rfl)
  case index t x ix =>
    cases hx : evalA tmps x with
    | none => simp only [hx] at h; cases h
    | some p => cases hj : evalA tmps ix with
      | none => simp only [hx, hj] at h; cases h
      | some j => cases hn : j.num with
        | none => simp only [hx, hj, hn] at h; cases h
        | some n => cases hi : C.ti t with
          | none => simp only [hx, hj, hn, hi] at h; cases h
          | some i =>
            simp only [hx, hj, hn, hi] at h
            obtain ⟨k, hk⟩ := num_den hn (one (x := ix) (by simp [Op.operands]) hj)
            exact fin (indexA_sound hi h (one (by simp [Op.operands]) hx)) (fun w => by rw [← hk]; rfl)
  case extract x i =>
    cases hx : evalA tmps x with
    | none => simp only [hx] at h; cases h
    | some p =>
      simp only [hx] at h
      exact fin (extractA_sound h (one (by simp [Op.operands]) hx)) (fun w => rfl)
  case call c =>
    obtain ⟨callee, args, types⟩ := c
    simp only at h
    split at h
    case h_2 => cases h
    split at h
    case h_2 => cases h
    rename_i x hargs
    split at h
    case h_2 => cases h
    rename_i t htypes
    cases hi : C.ti t with
    | none => simp only [hi] at h; cases h
    | some i =>
      simp only [hi] at h
      cases hx : evalA tmps x with
      | none => simp only [hx] at h; cases h
      | some y =>
        simp only [hx] at h
        have hargs' : args = #[x] := by apply Array.ext'; simpa using hargs
        have htypes' : types = #[t] := by apply Array.ext'; simpa using htypes
        subst hargs' htypes'
        have hyd := one (x := x) (by simp [Op.operands, Call.operands]) hx
        obtain ⟨u, hu, hr⟩ := lenA_sound hi h hyd
        refine ⟨u, hu, fun w => ?_⟩
        have hr' := hr w type
        simp [execOp, resolve, invoke, builtin, hr']
end
end Go.SX
