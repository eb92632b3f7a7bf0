/- A symbolic executor for the model's code: operations that neither fork nor call; append; results. Conditions: 'EqOk'. -/
import Derived.Test.YtlfhlipdjjhldaaGreatDoorSxK
namespace Go.SX

section
variable {S : Nat → Prop} {B : World} {C : Cfg} {Γ : Env} {st st' : St} {w : World} {a : Act}

/-- What an operation leaves. -/
def OpRes (P : Program) (a : Act) (o : Oper) (w : World) (u : Value) (w' : World) : Prop :=
  (execOp a.eval o).run P w = .ok (.value u) w' ∨ ((execOp a.eval o).run P w = .ok .skip w' ∧ u = undef)

theorem setHeap_tmps (st : St) (h : T Blk) : (setHeap st h).tmps = st.tmps ∧ (setHeap st h).ntm = st.ntm := by cases st; exact ⟨rfl, rfl⟩

theorem opD_sound (hE : EqOk C) (hM : MRel S B C Γ st w) {o : Oper} {v : AV} (he : Ev Γ st.tmps a o.op) (h : opD C st o.op = some (v, st')) :
    ∃ Γ' w' u, Γ'.vs = Γ.vs ∧ Γ'.ns = Γ.ns ∧ Later Γ w Γ' w' ∧ MRel S B C Γ' st' w' ∧ st'.tmps = st.tmps ∧ st'.ntm = st.ntm ∧ v.den Γ' = some u ∧ OpRes C.P a o w u w' := by
  have fresh : ∀ {b : Blk}, freshA C st.tmps st.nh o.op = some (v, b) → newA st b = some st' →
      ∃ Γ' w' u, Γ'.vs = Γ.vs ∧ Γ'.ns = Γ.ns ∧ Later Γ w Γ' w' ∧ MRel S B C Γ' st' w' ∧ st'.tmps = st.tmps ∧ st'.ntm = st.ntm ∧ v.den Γ' = some u ∧ OpRes C.P a o w u w' := by
    intro b hf hn
    obtain ⟨arr, e, n, h1, h2, h3, mk, h4, h5⟩ := freshA_sound (a := a) hM.X he hf
    obtain ⟨m1, m2, m3, m4, m5⟩ := hM.new (e := e) hn h1 (List.prefix_refl _) h2 h3
    exact ⟨Γ.addBlk w.heap.size, _, _, rfl, rfl, m2, m1, m4, m5, h4 _ _ (hM.base _ (Nat.le_refl _)) m3, .inl (h5 w)⟩
  have val : valA C st.tmps o.op = some v → st' = st →
      ∃ Γ' w' u, Γ'.vs = Γ.vs ∧ Γ'.ns = Γ.ns ∧ Later Γ w Γ' w' ∧ MRel S B C Γ' st' w' ∧ st'.tmps = st.tmps ∧ st'.ntm = st.ntm ∧ v.den Γ' = some u ∧ OpRes C.P a o w u w' := by
    rintro hv rfl
    obtain ⟨u, h1, h2⟩ := valA_sound hE he hv
    exact ⟨Γ, w, u, rfl, rfl, Later.refl _ _, hM, rfl, rfl, h1, .inl (h2 w)⟩
  obtain ⟨dst, op, type, pos, after, guard⟩ := o
  simp only at h fresh val he
  have rest : (match valA C st.tmps op with | some v => some (v, st) | none => none) = some (v, st') →
      ∃ Γ' w' u, Γ'.vs = Γ.vs ∧ Γ'.ns = Γ.ns ∧ Later Γ w Γ' w' ∧ MRel S B C Γ' st' w' ∧ st'.tmps = st.tmps ∧ st'.ntm = st.ntm ∧ v.den Γ' = some u ∧ OpRes C.P a ⟨dst, op, type, pos, after, guard⟩ w u w' := by
    intro h
    cases hv : valA C st.tmps op with
    | none => rw [hv] at h; cases h
    | some y => rw [hv] at h; cases h; exact val hv rfl
  cases op <;> simp only [opD] at h <;> (first | exact rest h | skip)
  case load t x =>
    cases hx : evalA st.tmps x with
    | none => simp only [hx] at h; cases h
    | some p =>
      simp only [hx] at h
      cases hr : readA C st.heap t p with
      | none => simp only [hr] at h; cases h
      | some r =>
        simp only [hr] at h
        cases h
        obtain ⟨u, h1, h2, _⟩ := readA_sound hM hr (he x (by simp [Op.operands]) p hx)
        refine ⟨Γ, w, u, rfl, rfl, Later.refl _ _, hM, rfl, rfl, h1, .inl ?_⟩
        simp [execOp, h2]
  case store t x y =>
    cases hx : evalA st.tmps x with
    | none => simp only [hx] at h; cases h
    | some p => cases hy : evalA st.tmps y with
      | none => simp only [hx, hy] at h; cases h
      | some q =>
        simp only [hx, hy] at h
        cases hr : writeA C st.heap t q p with
        | none => simp only [hr] at h; cases h
        | some h' =>
          simp only [hr] at h
          cases h
          obtain ⟨w', h1, h2, h3⟩ := writeA_sound hM hr (he x (by simp [Op.operands]) p hx) (he y (by simp [Op.operands]) q hy)
          refine ⟨Γ, w', undef, rfl, rfl, h3, h2, (setHeap_tmps st h').1, (setHeap_tmps st h').2, rfl, .inr ⟨?_, rfl⟩⟩
          simp [execOp, h1]
  case alloc t =>
    cases hf : freshA C st.tmps st.nh (.alloc t) with
    | none => simp only [hf] at h; cases h
    | some vb =>
      obtain ⟨y, b⟩ := vb
      simp only [hf] at h
      cases hn : newA st b with
      | none => simp only [hn] at h; cases h
      | some st1 => simp only [hn] at h; cases h; exact fresh hf hn
  case box t x =>
    cases hf : freshA C st.tmps st.nh (.box t x) with
    | none => simp only [hf] at h; cases h
    | some vb =>
      obtain ⟨y, b⟩ := vb
      simp only [hf] at h
      cases hn : newA st b with
      | none => simp only [hn] at h; cases h
      | some st1 => simp only [hn] at h; cases h; exact fresh hf hn
  case buildSlice t n ps =>
    cases hf : freshA C st.tmps st.nh (.buildSlice t n ps) with
    | none => simp only [hf] at h; cases h
    | some vb =>
      obtain ⟨y, b⟩ := vb
      simp only [hf] at h
      cases hn : newA st b with
      | none => simp only [hn] at h; cases h
      | some st1 => simp only [hn] at h; cases h; exact fresh hf hn

/-! ### append -/

/-- append within the room: whatever type the block is of. -/
theorem run_append_in {P : Program} (w : World) (t ty e : TypeId) (i : TypeInfo) (ht : P.underlying t = some (.slice e)) (hi : P.info? e = some i)
    (g off sLen sCap : Nat) (cur : Array Value) (bt : TypeId) (hg : w.heap[g]? = some (.cells cur bt (0, 0)))
    (b : Addr) (m c : Nat) (news : List Value) (hl : news.length = m * i.size) (hnews : ∀ j u, news[j]? = some u → w.cell? (b.add j) = some u) (h1 : ∀ u ∈ news, u.oneCell' = true)
    (hroom : sLen + m ≤ sCap) (hfit : off + sLen * i.size + news.length ≤ cur.size) :
    (Builtin.append_ #[t, t] ty #[.slice (some ⟨g, off, none⟩) sLen sCap, .slice (some b) m c]).run P w =
      .ok (.slice (some ⟨g, off, none⟩) (sLen + m) sCap) (w.setRow g (cur.toList.take (off + sLen * i.size) ++ news ++ cur.toList.drop (off + sLen * i.size + news.length)).toArray) := by
  have hf := run_firstCells_some (P := P) w i.size m b m c news hl hnews
  have hst := run_storeCells_at P g (off + sLen * i.size) bt news 0 cur w hg (by simpa using hfit) h1
  simp only [Nat.add_zero] at hst
  simp [Builtin.append_, run_underlying ht, sizeOf, typeInfo, hi, Builtin.lenOf, hroom, hf, addr_add, hst]

theorem run_append_none {P : Program} (w : World) (t ty e : TypeId) (i : TypeInfo) (ht : P.underlying t = some (.slice e)) (hi : P.info? e = some i)
    (base xb : Option Addr) (sLen sCap c : Nat) (hx : xb = none ∨ ∃ b, xb = some b) (h : sLen ≤ sCap) :
    (Builtin.append_ #[t, t] ty #[.slice base sLen sCap, .slice xb 0 c]).run P w = .ok (.slice base sLen sCap) w := by
  have hf : (Builtin.firstCells i.size 0 (.slice xb 0 c)).run P w = .ok #[] w := by
    rcases hx with rfl | ⟨b, rfl⟩
    · exact run_firstCells_none w _ _ _ _
    · exact run_firstCells_some w i.size 0 b 0 c [] (by simp) (fun j v hv => by simp at hv)
  cases base with
  | none => simp [Builtin.append_, run_underlying ht, sizeOf, typeInfo, hi, Builtin.lenOf, h, hf]
  | some a => simp [Builtin.append_, run_underlying ht, sizeOf, typeInfo, hi, Builtin.lenOf, h, hf, storeCells]

/-- The cells that are appended. -/
theorem srcCells_sound (hM : MRel S B C Γ st w) {esz n : Nat} {y : AV} {v : Value} {new : List Cell} (h : srcCells st.heap esz y = some new) (hn : lenOfAV y = some n) (hy : y.den Γ = some v) :
    ∃ (b : Option Addr) (c : Nat) (nv : List Value), v = .slice b n c ∧ cellsDen Γ new = some nv ∧ nv.length = n * esz ∧
      (b = none → n = 0) ∧ ∀ a, b = some a → ∀ j u, nv[j]? = some u → w.cell? (a.add j) = some u := by
  unfold srcCells at h
  split at h
  · cases h
    cases hn
    obtain ⟨h1, rfl⟩ := den_c hy
    obtain ⟨rfl, rfl⟩ := isNil_slice h1
    exact ⟨none, 0, [], rfl, rfl, by simp, fun _ => rfl, fun a ha => by cases ha⟩
  · rename_i id off len cap
    cases hn
    obtain ⟨b, c, hb, hc, hle, rfl⟩ := den_slice hy
    obtain ⟨a, vs, ha, h2, h3, h4⟩ := hM.load h
    rw [hb] at ha
    cases ha
    refine ⟨some ⟨b, Γ.β id + off, none⟩, c, vs, rfl, h2, h3, fun hh => (by cases hh), fun a ha j u hu => ?_⟩
    cases ha
    rw [addr_add]
    exact h4 j u hu
  · cases h

end
end Go.SX
