/- A symbolic executor for the model's code: operations that neither read nor turn memory do what 'valA' says, III. Conditions: 'EqOk'. -/
import Derived.Test.YtlfhlipdjjhldaaGreatDoorSxG
namespace Go.SX

theorem addr_add (b off n : Nat) : (⟨b, off, none⟩ : Addr).add n = ⟨b, off + n, none⟩ := by
  unfold Addr.add
  split
  · rename_i h; subst h; rfl
  · rfl

theorem fieldsOf_get {P : Program} : ∀ {fs : List Field} {l : List (Nat × Nat × Nat)}, fieldsOf P fs = some l → ∀ {i : Nat} {x : Nat × Nat × Nat}, l[i]? = some x →
    ∃ f j, fs[i]? = some f ∧ x = (f.offset, j.size, f.type) ∧ P.info? f.type = some j := by
  intro fs
  induction fs with
  | nil => intro l h i x hx; cases h; simp at hx
  | cons f fs ih =>
    intro l h i x hx
    simp only [fieldsOf] at h
    cases hi : tinfo P f.type with
    | none => rw [hi] at h; cases h
    | some j =>
      rw [hi] at h
      cases hr : fieldsOf P fs with
      | none => simp only [hr] at h; cases h
      | some r =>
        simp only [hr] at h
        cases h
        cases i with
        | zero => simp at hx; subst hx; exact ⟨f, j, rfl, rfl, tinfo_info hi⟩
        | succ i => simpa using ih hr (by simpa using hx)

theorem fieldsOf_length {P : Program} : ∀ {fs : List Field} {l : List (Nat × Nat × Nat)}, fieldsOf P fs = some l → l.length = fs.length := by
  intro fs
  induction fs with
  | nil => intro l h; cases h; rfl
  | cons f fs ih =>
    intro l h
    simp only [fieldsOf] at h
    cases hi : tinfo P f.type with
    | none => rw [hi] at h; cases h
    | some j =>
      rw [hi] at h
      cases hr : fieldsOf P fs with
      | none => simp only [hr] at h; cases h
      | some r =>
        simp only [hr] at h
        cases h
        simp [ih hr]

theorem bsize (s : ByteArray) : s.data.toList.length = s.size := Array.length_toList

section
variable {C : Cfg} {Γ : Env}

theorem den_av {t : Srt} {e : E} {v : Value} : (AV.one (.s t e)).den Γ = some v ↔ e.den Γ.X Γ.vs = some v ∧ t.has v = true := den_s

theorem lenA_sound {v r : AV} {x : Value} {t : Nat} {i : TI} (hi : C.ti t = some i) (h : lenA i.kind v = some r) (hv : v.den Γ = some x) :
    ∃ u, r.den Γ = some u ∧ ∀ (w : World) (ty : TypeId), (Builtin.len_ #[t] ty #[x]).run C.P w = .ok u w := by
  obtain ⟨info, d, ok⟩ := tiOf_ok hi
  unfold lenA at h
  split at h
  · split at h
    case h_2 => cases h
    rename_i e he
    cases h
    obtain ⟨b, c, _, _, _, rfl⟩ := den_slice hv
    obtain rfl := kind_slice (he ▸ ok.kind)
    refine ⟨_, den_av.2 ⟨rfl, rfl⟩, fun w ty => ?_⟩
    simp [Builtin.len_, ok.run_under, goInt]
  · split at h
    case h_2 => cases h
    rename_i e he
    cases h
    obtain ⟨h1, rfl⟩ := den_c hv
    obtain rfl := kind_slice (he ▸ ok.kind)
    refine ⟨_, den_av.2 ⟨rfl, rfl⟩, fun w ty => ?_⟩
    obtain ⟨rfl, rfl⟩ := isNil_slice h1
    simp [Builtin.len_, ok.run_under, goInt]
  · rename_i e
    split at h
    case h_2 => cases h
    rename_i hk
    cases h
    obtain rfl := kind_str (hk ▸ ok.kind)
    rw [AV.den_one] at hv
    obtain ⟨h1, h2⟩ := den_s.1 hv
    obtain ⟨s, rfl⟩ := has_str h2
    refine ⟨.int .i64 s.size, ?_, fun w ty => ?_⟩
    · refine den_av.2 ⟨?_, rfl⟩
      rw [mkLen_den]
      show (e.den Γ.X Γ.vs).bind lenV = _
      rw [h1]
      show some (Value.int .i64 (s.data.toList.length : Nat)) = _
      rw [bsize]
    · simp [Builtin.len_, ok.run_under, goInt]
  · rename_i e
    split at h
    case h_2 => cases h
    rename_i e' hk
    cases h
    obtain rfl := kind_slice (hk ▸ ok.kind)
    rw [AV.den_one] at hv
    obtain ⟨h1, h2⟩ := den_s.1 hv
    obtain ⟨a, n, c, rfl⟩ := has_slc h2
    refine ⟨.int .i64 n, ?_, fun w ty => ?_⟩
    · refine den_av.2 ⟨?_, rfl⟩
      show (e.den Γ.X Γ.vs).bind lenV = _
      rw [h1]
      rfl
    · simp [Builtin.len_, ok.run_under, goInt]
  · cases h

theorem pickA_sound {c a b v : AV} {x y z : Value} (h : pickA c a b = some v) (hc : c.den Γ = some x) (ha : a.den Γ = some y) (hb : b.den Γ = some z) :
    ∃ t, x = .bool t ∧ v.den Γ = some (if t then y else z) := by
  unfold pickA at h
  split at h
  · cases h
    rw [AV.den_one] at hc
    obtain ⟨h1, _⟩ := den_s.1 hc
    cases h1
    exact ⟨true, rfl, ha⟩
  · cases h
    rw [AV.den_one] at hc
    obtain ⟨h1, _⟩ := den_s.1 hc
    cases h1
    exact ⟨false, rfl, hb⟩
  · split at h
    case h_2 => cases h
    rename_i t p u q
    split at h
    case isFalse => cases h
    rename_i hs
    cases h
    obtain rfl := Srt.eq_eq hs
    rw [AV.den_one] at hc ha hb
    obtain ⟨h1, h2⟩ := den_s.1 hc
    obtain ⟨tt, rfl⟩ := has_bool h2
    obtain ⟨ha1, ha2⟩ := den_s.1 ha
    obtain ⟨hb1, hb2⟩ := den_s.1 hb
    refine ⟨tt, rfl, ?_⟩
    rw [AV.den_one]
    cases tt with
    | true => exact den_s.2 ⟨by simp [E.den, h1, iteV, ha1], ha2⟩
    | false => exact den_s.2 ⟨by simp [E.den, h1, iteV, hb1], hb2⟩
  · cases h

theorem unA_sound {op : UnOp} {v r : AV} {x : Value} (h : unA op v = some r) (hv : v.den Γ = some x) : ∃ u, r.den Γ = some u ∧ ∀ w, (Op.unary op x).run C.P w = .ok u w := by
  unfold unA at h
  split at h
  case h_2 => cases h
  rename_i t e
  rw [AV.den_one] at hv
  obtain ⟨h1, h2⟩ := den_s.1 hv
  split at h
  · split at h
    case h_2 => cases h
    cases h
    obtain ⟨b, rfl⟩ := has_bool h2
    refine ⟨.bool !b, ?_, fun w => rfl⟩
    rw [AV.den_one]
    exact den_s.2 ⟨by rw [mkNot_den]; simp [E.den, h1, notV], rfl⟩
  · split at h
    case h_2 => cases h
    rename_i k
    cases h
    obtain ⟨n, rfl⟩ := has_int h2
    obtain ⟨u, hu, hu2⟩ := binV_int (op := .xor) (k := k) (a := if k.signed then -1 else k.max) (b := n) (s := .int k) (e := e) rfl (by intro hd; obtain ⟨k', m, rfl⟩ := divisor_lit hd; cases h1; exact fun hh => by cases hh)
    refine ⟨u, ?_, fun w => ?_⟩
    · rw [AV.den_one]
      refine den_s.2 ⟨?_, hu2⟩
      rw [mkBin_den]
      simp only [E.den, Option.bind_some, h1]
      exact hu
    · have : Op.unary .xor (.int k n) = Go.binOp .xor 0 (.int k (if k.signed then -1 else k.max)) (.int k n) := by
        simp [Op.unary, Go.binOp]
      rw [this]
      simp only [binV] at hu
      cases hb : Go.binOp .xor 0 (.int k (if k.signed then -1 else k.max)) (.int k n) with
      | pure z => rw [hb] at hu; cases hu; rfl
      | _ => rw [hb] at hu; cases hu
  · split at h
    case h_2 => cases h
    rename_i k
    cases h
    obtain ⟨n, rfl⟩ := has_int h2
    refine ⟨.int k (k.wrap (0 - n)), ?_, fun w => rfl⟩
    rw [AV.den_one]
    refine den_s.2 ⟨?_, kindEq_refl k⟩
    rw [mkBin_den]
    simp [E.den, h1, binV, Go.binOp, Op.intArith, pureOf, pure]
  · cases h

theorem convA_sound {s d : Nat} {i j : TI} {v r : AV} {x : Value} (hi : C.ti s = some i) (hj : C.ti d = some j) (h : convA i.kind j.kind v = some r) (hv : v.den Γ = some x) :
    ∃ u, r.den Γ = some u ∧ ∀ w, (Go.convert s d x).run C.P w = .ok u w := by
  obtain ⟨_, di, oki⟩ := tiOf_ok hi
  obtain ⟨_, dj, okj⟩ := tiOf_ok hj
  unfold convA at h
  split at h
  case h_2 => cases h
  rename_i k e
  split at h
  case h_2 => cases h
  rename_i k' hk'
  split at h
  case isFalse => cases h
  obtain rfl := kind_int (hk' ▸ oki.kind)
  rw [AV.den_one] at hv
  obtain ⟨h1, h2⟩ := den_s.1 hv
  obtain ⟨n, rfl⟩ := has_int h2
  split at h
  · rename_i m hm
    cases h
    obtain rfl := kind_int (hm ▸ okj.kind)
    refine ⟨.int m (m.wrap n), ?_, fun w => ?_⟩
    · rw [AV.den_one]
      exact den_s.2 ⟨by rw [mkConv_den]; simp [E.den, h1, convV], kindEq_refl m⟩
    · simp [Go.convert, oki.run_under, okj.run_under, Conv.intToInt]
  · rename_i hm
    cases h
    obtain rfl := kind_float (hm ▸ okj.kind)
    refine ⟨.float .f64 (FloatKind.nearest .f64 n), ?_, fun w => ?_⟩
    · rw [AV.den_one]
      exact den_s.2 ⟨by rw [mkToF_den]; simp [E.den, h1, toFV], rfl⟩
    · simp [Go.convert, oki.run_under, okj.run_under, Conv.intToFloat]
  · cases h

theorem fieldAddrA_sound {t f : Nat} {i : TI} {v r : AV} {x : Value} (hi : C.ti t = some i) (h : fieldAddrA i f v = some r) (hv : v.den Γ = some x) :
    ∃ u, r.den Γ = some u ∧ ∀ w, (Instr.fieldAt t x f).run C.P w = .ok u w := by
  obtain ⟨_, d, ok⟩ := tiOf_ok hi
  unfold fieldAddrA at h
  split at h
  case h_2 => cases h
  rename_i id off
  split at h
  case h_2 => cases h
  rename_i fs hk
  obtain ⟨a, rfl, hfs⟩ := kind_struct (hk ▸ ok.kind)
  split at h
  case h_2 => cases h
  rename_i fd hfd
  split at h
  case isTrue => cases h
  rename_i hz
  cases h
  obtain ⟨b, hb, rfl⟩ := den_ptr hv
  rw [nth_eq] at hfd
  obtain ⟨fl, j, hfl, rfl, hinfo⟩ := fieldsOf_get hfs hfd
  have hsz : ¬ j.size = 0 := by
    intro e; apply hz; show Nat.beq j.size 0 = true; rw [e]; rfl
  have hfl' : a[f]? = some fl := by rw [← Array.getElem?_toList]; exact hfl
  refine ⟨.pointer (some ⟨b, Γ.β id + off + fl.offset, none⟩), ?_, fun w => ?_⟩
  · show ptrDen Γ.σ Γ.β (id, off + fl.offset) = _
    simp [ptrDen, hb, Nat.add_assoc]
  · simp [Instr.fieldAt, ok.run_under, hfl', Instr.sureAddr, fieldPlace, sizeOf, typeInfo, hinfo, hsz, addr_add]

theorem partA_sound {e : Nat} {i : TI} {cs : List Cell} {off : Nat} {r : AV} {l : List Value} (hi : C.ti e = some i) (h : partA i cs off = some r) (hl : cellsDen Γ cs = some l) :
    ∃ u, r.den Γ = some u ∧ ∀ w, (part e l.toArray off).run C.P w = .ok u w := by
  obtain ⟨_, d, ok⟩ := tiOf_ok hi
  unfold partA at h
  split at h
  · rename_i ha
    simp only [Option.map_eq_some_iff] at h
    obtain ⟨p, hp, rfl⟩ := h
    have hd : cellsDen Γ p = some ((l.drop off).take i.size) := by
      rcases getCells_some hp with ⟨h1, rfl⟩ | ⟨h1, rfl⟩
      · exact cellsDen_take _ (cellsDen_drop _ hl)
      · rw [h1]; rfl
    refine ⟨.agg ((l.drop off).take i.size).toArray, by simp [AV.den, hd], fun w => ?_⟩
    simp only [part, Sem.run_bind, ok.run_agg, ha, Result.andThen_ok, if_true, ok.run_size, Sem.run_pure]
    congr 2
    apply Array.ext'
    simp [List.take_drop]
  · rename_i ha
    have ha : i.isAgg = false := by simpa using ha
    split at h
    case h_2 => cases h
    rename_i c hc
    cases h
    rw [nth_eq] at hc
    obtain ⟨x, hx, hlx⟩ := cellsDen_get hl hc
    refine ⟨x, hx, fun w => ?_⟩
    simp [part, ok.run_agg, ha, hlx]

theorem indexAddrA_sound {t n : Nat} {i : TI} {v r : AV} {x : Value} {k : IntKind} (hi : C.ti t = some i) (h : indexAddrA C i.kind n v = some r) (hv : v.den Γ = some x) :
    ∃ u, r.den Γ = some u ∧ ∀ w, (Instr.indexAt t x (.int k n)).run C.P w = .ok u w := by
  obtain ⟨_, d, ok⟩ := tiOf_ok hi
  unfold indexAddrA at h
  split at h
  · rename_i id off len cap
    split at h
    case h_2 => cases h
    rename_i e hk
    obtain rfl := kind_slice (hk ▸ ok.kind)
    split at h
    case h_2 => cases h
    rename_i j hj
    obtain ⟨_, dj, okj⟩ := tiOf_ok hj
    split at h
    case isFalse => cases h
    rename_i hlt
    cases h
    have hlt : n + 1 ≤ len := Nat.le_of_ble_eq_true hlt
    obtain ⟨b, c, hb, _, _, rfl⟩ := den_slice hv
    refine ⟨.pointer (some ⟨b, Γ.β id + off + n * j.size, none⟩), ?_, fun w => ?_⟩
    · show ptrDen Γ.σ Γ.β (id, off + n * j.size) = _
      simp [ptrDen, hb, Nat.add_assoc]
    · have h1 : (0 : Int) ≤ (n : Int) ∧ (n : Int) < (len : Int) := by omega
      simp only [Instr.indexAt, asIntOf, Sem.run_bind, Sem.run_pure, Result.andThen_ok, ok.run_under, h1.1, h1.2, and_self, if_true, okj.run_size, Int.toNat_natCast, addr_add]
  · rename_i id off
    split at h
    case h_2 => cases h
    rename_i len e hk
    obtain rfl := kind_array (hk ▸ ok.kind)
    split at h
    case h_2 => cases h
    rename_i j hj
    obtain ⟨_, dj, okj⟩ := tiOf_ok hj
    split at h
    case isFalse => cases h
    rename_i hlt
    cases h
    have hlt : n + 1 ≤ len := Nat.le_of_ble_eq_true hlt
    obtain ⟨b, hb, rfl⟩ := den_ptr hv
    refine ⟨.pointer (some ⟨b, Γ.β id + off + n * j.size, none⟩), ?_, fun w => ?_⟩
    · show ptrDen Γ.σ Γ.β (id, off + n * j.size) = _
      simp [ptrDen, hb, Nat.add_assoc]
    · have h1 : (0 : Int) ≤ (n : Int) ∧ (n : Int) < (len : Int) := by omega
      simp only [Instr.indexAt, asIntOf, Instr.sureAddr, Sem.run_bind, Sem.run_pure, Result.andThen_ok, ok.run_under, h1.1, h1.2, and_self, if_true, okj.run_size, Int.toNat_natCast, addr_add]
  · cases h

theorem indexA_sound {t n : Nat} {i : TI} {v r : AV} {x : Value} {k : IntKind} (hi : C.ti t = some i) (h : indexA C i.kind n v = some r) (hv : v.den Γ = some x) :
    ∃ u, r.den Γ = some u ∧ ∀ w, (Instr.index t x (.int k n)).run C.P w = .ok u w := by
  obtain ⟨_, d, ok⟩ := tiOf_ok hi
  unfold indexA at h
  split at h
  · rename_i s
    split at h
    case h_2 => cases h
    rename_i hk
    obtain rfl := kind_str (hk ▸ ok.kind)
    split at h
    case h_2 => cases h
    rename_i b hb
    cases h
    rw [AV.den_one] at hv
    obtain ⟨h1, _⟩ := den_s.1 hv
    cases h1
    rw [nth_eq] at hb
    refine ⟨.int .u8 b.toNat, den_av.2 ⟨rfl, rfl⟩, fun w => ?_⟩
    have hlt : n < s.size := by
      have := (List.getElem?_eq_some_iff.1 hb).1
      rw [bsize] at this
      exact this
    have hs : s[n]? = some b := by
      have h2 := hb
      rw [Array.getElem?_toList] at h2
      rw [getElem?_pos s n hlt]
      rw [getElem?_pos s.data n (show n < s.data.size from hlt)] at h2
      exact h2
    simp [Instr.index, asIntOf, ok.run_under, hs]
  · rename_i cs
    split at h
    case h_2 => cases h
    rename_i len e hk
    obtain rfl := kind_array (hk ▸ ok.kind)
    split at h
    case h_2 => cases h
    rename_i j hj
    obtain ⟨_, dj, okj⟩ := tiOf_ok hj
    split at h
    case isFalse => cases h
    rename_i hlt
    have hlt : n + 1 ≤ len := Nat.le_of_ble_eq_true hlt
    simp only [AV.den, Option.map_eq_some_iff] at hv
    obtain ⟨l, hl, rfl⟩ := hv
    obtain ⟨u, hu, hr⟩ := partA_sound hj h hl
    refine ⟨u, hu, fun w => ?_⟩
    have h1 : (0 : Int) ≤ (n : Int) ∧ (n : Int) < (len : Int) := by omega
    have hr' := hr w
    simp only [Instr.index, asIntOf, Sem.run_bind, Sem.run_pure, Result.andThen_ok, ok.run_under, h1.1, h1.2, and_self, if_true, okj.run_size, Int.toNat_natCast]
    exact hr'
  · cases h

theorem fieldA_sound {t f : Nat} {i : TI} {v r : AV} {x : Value} (hi : C.ti t = some i) (h : fieldA C i f v = some r) (hv : v.den Γ = some x) :
    ∃ u, r.den Γ = some u ∧ ∀ w, (Instr.field t x f).run C.P w = .ok u w := by
  obtain ⟨_, d, ok⟩ := tiOf_ok hi
  unfold fieldA at h
  split at h
  case h_2 => cases h
  rename_i cs
  split at h
  case h_2 => cases h
  rename_i fs hk
  obtain ⟨a, rfl, hfs⟩ := kind_struct (hk ▸ ok.kind)
  split at h
  case h_2 => cases h
  rename_i fd hfd
  split at h
  case h_2 => cases h
  rename_i j hj
  rw [nth_eq] at hfd
  obtain ⟨fl, jj, hfl, rfl, hinfo⟩ := fieldsOf_get hfs hfd
  simp only [AV.den, Option.map_eq_some_iff] at hv
  obtain ⟨l, hl, rfl⟩ := hv
  obtain ⟨u, hu, hr⟩ := partA_sound hj h hl
  refine ⟨u, hu, fun w => ?_⟩
  have hfl' : a[f]? = some fl := by rw [← Array.getElem?_toList]; exact hfl
  simp [Instr.field, ok.run_under, hfl', asAgg, hr w]

theorem partsDen_get : ∀ {vs : List (Bool × List Cell)} {l : List Value}, partsDen Γ vs = some l → ∀ {i : Nat} {p : Bool × List Cell}, vs[i]? = some p → ∃ x, partDen Γ p = some x ∧ l[i]? = some x := by
  intro vs
  induction vs with
  | nil => intro l _ i p h; simp at h
  | cons q vs ih =>
    intro l hl i p h
    simp only [partsDen, Option.bind_eq_some_iff, Option.map_eq_some_iff] at hl
    obtain ⟨x, hx, r, hr, rfl⟩ := hl
    cases i with
    | zero => simp at h; subst h; exact ⟨x, hx, rfl⟩
    | succ i => simpa using ih hr (by simpa using h)

theorem extractA_sound {i : Nat} {v r : AV} {x : Value} (h : extractA i v = some r) (hv : v.den Γ = some x) : ∃ u, r.den Γ = some u ∧ ∀ w, (Instr.extract x i).run C.P w = .ok u w := by
  unfold extractA at h
  split at h
  case h_2 => cases h
  rename_i vs
  simp only [AV.den, Option.map_eq_some_iff] at hv
  obtain ⟨l, hl, rfl⟩ := hv
  rw [nth_eq] at h
  split at h
  · rename_i cs hcs
    cases h
    obtain ⟨x, hx, hlx⟩ := partsDen_get hl hcs
    exact ⟨x, hx, fun w => by simp [Instr.extract, hlx]⟩
  · rename_i c hc
    cases h
    obtain ⟨x, hx, hlx⟩ := partsDen_get hl hc
    exact ⟨x, hx, fun w => by simp [Instr.extract, hlx]⟩
  · cases h

theorem ptrsOf_den : ∀ {vs : List AV} {ps : List (Nat × Nat)} {l : List Value}, ptrsOf vs = some ps → avsDen Γ vs = some l → ptrsDen Γ.σ Γ.β ps = some l := by
  intro vs
  induction vs with
  | nil => intro ps l h hl; cases h; cases hl; rfl
  | cons v vs ih =>
    intro ps l h hl
    simp only [avsDen, Option.bind_eq_some_iff, Option.map_eq_some_iff] at hl
    obtain ⟨x, hx, r, hr, rfl⟩ := hl
    cases v with
    | one c => cases c with
      | ptr id off =>
        simp only [ptrsOf, Option.map_eq_some_iff] at h
        obtain ⟨qs, hqs, rfl⟩ := h
        simp [ptrsDen, show ptrDen Γ.σ Γ.β (id, off) = some x from hx, ih hqs hr]
      | _ => cases h
    | _ => cases h

end
end Go.SX
