/- A symbolic executor for the model's code: the steps of a region that draws its order. Conditions: 'CfgOk'. -/
import Derived.Test.YtlfhlipdjjhldaaGreatDoorSxR
namespace Go.SX
open Go.RowKit

section
variable {S : Nat → Prop} {B : World} {C : Cfg} {Γ Γ' Γ₀ : Env} {st st' : St} {w w' w₀ : World} {a : Act} {R : Nat → List Value → List Value → Prop} {all : List Oper} {lo : Nat} {p : Nat × Nat}
  {L : St → AV → List Value → List Nat → Prop} {listed : List Bool} {held : List Held} {D : List (Nat × Nat)} {H : HL} {listedR : Array Bool} {m : Nat}

/-! ### What comes next -/

theorem next_done (h : nextA all listed = .done) : readyList listed all 0 = [] := by
  unfold nextA nextOf at h
  split at h
  · assumption
  · split at h
    · split at h <;> cases h
    · split at h
      · split at h <;> cases h
      · split at h
        · split at h <;> cases h
        · cases h

theorem next_take {i : Nat} {o : Oper} (h : nextA all listed = .take i o) : i ∈ readyList listed all 0 ∧ all[i]? = some o ∧ takeOp o.op = true ∧ freeA all listed i o all 0 = true ∧ noSelectA all = true := by
  unfold nextA nextOf at h
  split at h
  · cases h
  · rename_i j l hl
    split at h
    · rename_i i' o' hf
      split at h
      · rename_i hc
        cases h
        simp only [Bool.and_eq_true] at hc
        obtain ⟨h1, h2, h3⟩ := firstOf_some hf
        exact ⟨hl ▸ h1, h2, h3, hc.1, hc.2⟩
      · cases h
    · split at h
      · split at h <;> cases h
      · split at h
        · split at h <;> cases h
        · cases h

theorem next_eff {i : Nat} {o : Oper} {rest : List Nat} (h : nextA all listed = .eff i o rest) : i ∈ readyList listed all 0 ∧ all[i]? = some o ∧ effectOp o.op = true ∧ rest = without i (readyList listed all 0) ∧
    mayCome all listed i o rest = true ∧ noSelectA all = true := by
  unfold nextA nextOf at h
  split at h
  · cases h
  · rename_i j l hl
    split at h
    · split at h <;> cases h
    · split at h
      · rename_i i' o' hf
        split at h
        · rename_i hc
          cases h
          simp only [Bool.and_eq_true] at hc
          obtain ⟨h1, h2, h3⟩ := firstOf_some hf
          exact ⟨hl ▸ h1, h2, h3, by rw [hl], hc.1, hc.2⟩
        · cases h
      · split at h
        · split at h <;> cases h
        · cases h

theorem next_alloc {i : Nat} {o : Oper} {rest : List Nat} (h : nextA all listed = .alloc i o rest) : i ∈ readyList listed all 0 ∧ all[i]? = some o ∧ allocOp o.op = true ∧ rest = without i (readyList listed all 0) ∧
    mayCome all listed i o rest = true ∧ plainAlloc all o = true ∧ noSelectA all = true := by
  unfold nextA nextOf at h
  split at h
  · cases h
  · rename_i j l hl
    split at h
    · split at h <;> cases h
    · split at h
      · split at h <;> cases h
      · split at h
        · rename_i i' o' hf
          split at h
          · rename_i hc
            cases h
            simp only [Bool.and_eq_true] at hc
            obtain ⟨h1, h2, h3⟩ := firstOf_some hf
            exact ⟨hl ▸ h1, h2, h3, by rw [hl], hc.1.1, hc.1.2, hc.2⟩
          · cases h
        · cases h

/-! ### Loads taken ahead -/

theorem load_any (hM : MRel S B C Γ st w) {t : Nat} {i : TI} (hi : C.ti t = some i) {id off : Nat} {cs : List Cell} {v : AV} (hl : loadA st.heap id off (if i.isAgg then i.size else 1) = some cs)
    (hr : readA C st.heap t (.one (.ptr id off)) = some v) :
    ∃ (b : Nat) (vs : List Value) (u : Value), Γ.σ[id]? = some b ∧ cellsDen Γ cs = some vs ∧ reads b (Γ.β id + off) vs w ∧ v.den Γ = some u ∧
      ∀ w', reads b (Γ.β id + off) vs w' → (Instr.loadAt t (.pointer (some ⟨b, Γ.β id + off, none⟩))).run C.P w' = .ok u w' := by
  obtain ⟨info, d, ok⟩ := tiOf_ok hi
  obtain ⟨b, vs, hb, hvs, hlen, hcell⟩ := hM.load hl
  simp only [readA, hi] at hr
  split at hr
  · rename_i hagg
    rw [if_pos hagg] at hl hlen
    rw [hl] at hr
    cases hr
    refine ⟨b, vs, .agg vs.toArray, hb, hvs, hcell, by simp [AV.den, hvs], fun w' h => ?_⟩
    have hl' := run_loadCells_list (P := C.P) w' ⟨b, Γ.β id + off, none⟩ vs (fun j v hj => by rw [addr_add]; exact h j v hj)
    rw [hlen] at hl'
    simp [Instr.loadAt, Instr.sureAddr, loadVar, ok.run_agg, hagg, ok.run_size, hl']
  · rename_i hagg
    rw [if_neg hagg] at hl hlen
    have hagg : i.isAgg = false := by simpa using hagg
    unfold loadA at hl
    cases hg : st.heap.get id with
    | none => rw [hg] at hl; cases hl
    | some blk =>
      rw [hg] at hl
      simp only [hg] at hr
      split at hr
      case h_2 => cases hr
      rename_i c hc
      cases hr
      rw [nth_eq] at hc
      rcases getCells_some hl with ⟨h1, h2⟩ | ⟨h1, _⟩
      · have hcs : cs = [c] := by
          rw [h2]
          apply List.ext_getElem?
          intro k
          rw [List.getElem?_take, List.getElem?_drop]
          cases k with
          | zero => simp [hc]
          | succ k => simp
        rw [hcs] at hvs
        simp only [cellsDen, Option.bind_eq_some_iff, Option.map_eq_some_iff] at hvs
        obtain ⟨y, hy, zs, hzs, rfl⟩ := hvs
        cases hzs
        refine ⟨b, [y], y, hb, by rw [hcs]; simp [cellsDen, hy], hcell, hy, fun w' h => ?_⟩
        have h0 := h 0 y rfl
        simp only [Nat.add_zero] at h0
        simp [Instr.loadAt, Instr.sureAddr, loadVar, ok.run_agg, hagg, h0]
      · cases h1

theorem take_load (hM : MRel S B C Γ st w) {o : Oper} (he : Ev Γ st.tmps a o.op) (hlo : loadOp o.op = true) {v : AV} {i : Nat} {x : Held} (h : opD C st o.op = some (v, st')) (hx : heldOf C st i o.op = some x) :
    x.i = i ∧ ∃ (p : World → Prop) (u : Value), HeldOk Γ x p ∧ p w ∧ v.den Γ = some u ∧ ∀ w', p w' → (execOp a.eval o).run C.P w' = .ok (.value u) w' := by
  obtain ⟨dst, op, type, pos, after, guard⟩ := o
  simp only at hlo h hx he
  unfold loadOp at hlo
  split at hlo
  case h_2 => cases hlo
  rename_i t y
  simp only [opD] at h
  simp only [heldOf] at hx
  cases hy : evalA st.tmps y with
  | none => rw [hy] at h; cases h
  | some pv =>
    simp only [hy] at h hx
    split at hx
    case h_2 => cases hx
    rename_i id off hpv
    cases hpv
    cases hi : C.ti t with
    | none => simp only [hi] at hx; cases hx
    | some ti =>
      simp only [hi] at hx
      split at hx
      case h_2 => cases hx
      rename_i cs hcs
      cases hx
      cases hr : readA C st.heap t (.one (.ptr id off)) with
      | none => simp only [hr] at h; cases h
      | some r =>
        simp only [hr] at h
        cases h
        obtain ⟨b, vs, u, h1, h2, h3, h4, h5⟩ := load_any hM hi hcs hr
        have hp := he y (by simp [Op.operands]) _ hy
        obtain ⟨b', hb', hpe⟩ := den_ptr hp
        rw [h1] at hb'
        cases hb'
        refine ⟨rfl, reads b (Γ.β id + off) vs, u, ⟨b, vs, h1, h2, rfl⟩, h3, h4, fun w' hw => ?_⟩
        simp [execOp, hpe, h5 w' hw]

theorem take_pure (hE : EqOk C) {o : Oper} (he : Ev Γ st.tmps a o.op) (ht : takeOp o.op = true) (hlo : loadOp o.op = false) {v : AV} (h : opD C st o.op = some (v, st')) :
    ∃ u, v.den Γ = some u ∧ ∀ w', (execOp a.eval o).run C.P w' = .ok (.value u) w' := by
  unfold takeOp at ht
  rw [hlo, Bool.or_false] at ht
  obtain ⟨dst, op, type, pos, after, guard⟩ := o
  simp only at h ht he
  have rest : (match valA C st.tmps op with | some v => some (v, st) | none => none) = some (v, st') → valA C st.tmps op = some v := by
    intro h
    cases hv : valA C st.tmps op with
    | none => rw [hv] at h; cases h
    | some y => rw [hv] at h; cases h; rfl
  have hv : valA C st.tmps op = some v := by
    cases op <;> first | (cases ht; done) | (simp only [opD] at h; exact rest h)
  obtain ⟨u, h1, h2⟩ := valA_sound (o := ⟨dst, op, type, pos, after, guard⟩) hE he hv
  exact ⟨u, h1, h2⟩

theorem heldOk_sound (hM : MRel S B C Γ st w) {o : Oper} {x : Held} {p : World → Prop} : ∀ {l : List Held}, heldOk st.heap o l = true → x ∈ l → waits x.i o = false → HeldOk Γ x p → p w := by
  intro l
  induction l with
  | nil => intro _ hx; cases hx
  | cons y l ih =>
    intro h hx hw hp
    simp only [heldOk, Bool.and_eq_true] at h
    rcases List.mem_cons.1 hx with rfl | hx
    · have h1 := h.1
      rw [hw, Bool.false_or] at h1
      obtain ⟨b, vs, h2, h3, rfl⟩ := hp
      cases hl : loadA st.heap x.id x.off x.n with
      | none => simp [hl] at h1
      | some cs =>
        simp only [hl] at h1
        obtain ⟨b', vs', h4, h5, _, h6⟩ := hM.load hl
        rw [h2] at h4
        cases h4
        rw [cellsEq_eq h1, h3] at h5
        cases h5
        exact h6
    · exact ih h.2 hx hw hp

/-- An allocation that came ahead of its turn is named. -/
theorem MRel.adopt {b : Blk} (h : MRel S B C Γ st w) (hn : newA st b = some st') {arr : Array Value} {e : TypeId} {vs : List Value} {n blk : Nat} (hv : cellsDen Γ b.cells = some vs) (hp : vs <+: arr.toList)
    (ht : b.tot.den Γ.ns = some n) (hs : arr.size = n * b.esz) (hblk : w.heap[blk]? = some (.cells arr e (0, 0))) (hout : ∀ i : Nat, Γ.σ[i]? ≠ some blk) (hlo : B.heap.size ≤ blk) :
    MRel S B C (Γ.addBlk blk) st' w ∧ (Γ.addBlk blk).σ[st.nh]? = some blk ∧ st'.tmps = st.tmps ∧ st'.ntm = st.ntm := by
  obtain ⟨tmps, ntm, heap, nh, nv, nn, facts⟩ := st
  simp only [newA] at hn
  split at hn
  case isFalse => cases hn
  rename_i hr
  cases hn
  have hroom := Nat.le_of_ble_eq_true hr
  have hlen : Γ.σ.length = nh := h.lenσ
  have hget : ∀ id, (heap.put nh (some b)).get id = if id = nh then some b else heap.get id := fun id => T.get_put heap nh (some b) id hroom
  have hnew : (Γ.addBlk blk).σ[nh]? = some blk := by
    show (Γ.σ ++ [blk])[nh]? = _
    rw [List.getElem?_append_right (by omega), hlen]; simp
  have hold : ∀ (i a : Nat), (Γ.addBlk blk).σ[i]? = some a → (Γ.σ[i]? = some a ∧ i < nh) ∨ (i = nh ∧ a = blk) := by
    intro i a hi
    have hi : (Γ.σ ++ [blk])[i]? = some a := hi
    by_cases hlt : i < Γ.σ.length
    · rw [List.getElem?_append_left hlt] at hi; exact .inl ⟨hi, by omega⟩
    · rw [List.getElem?_append_right (by omega)] at hi
      right
      have : i - Γ.σ.length = 0 := by
        by_cases h0 : i - Γ.σ.length = 0
        · exact h0
        · rw [List.getElem?_eq_none (by simp; omega)] at hi; cases hi
      rw [this] at hi
      simp at hi
      exact ⟨by omega, hi.symm⟩
  have hle := Env.le_addBlk Γ blk
  have hlt : blk < w.heap.size := (Array.getElem?_eq_some_iff.1 hblk).1
  have hbase : ∀ i, nh ≤ i → Γ.β i = 0 := h.base
  refine ⟨⟨h.X, ?_, h.lenv, h.lenn, by show Nat.add nh 1 ≤ _; simp; omega, ?_, ?_, ?_, h.fr, ?_, fun i hi => hbase i (Nat.le_of_succ_le hi)⟩, hnew, rfl, rfl⟩
  · show (Γ.σ ++ [blk]).length = Nat.add nh 1
    simp [hlen]
  · intro id c hc0
    have hc : (heap.put nh (some b)).get id = some c := hc0
    clear hc0
    rw [hget] at hc
    split at hc
    · rename_i hid
      subst hid
      cases hc
      refine ⟨_, hnew, arr, e, vs, n, (0, 0), hblk, cellsDen_mono hle hv, ?_, ht, .inr ⟨rfl, hbase id (Nat.le_refl _), hs⟩⟩
      show vs <+: arr.toList.drop (Γ.β id)
      rw [hbase id (Nat.le_refl _)]; exact hp
    · obtain ⟨a, ha, hb⟩ := h.live id c hc
      exact ⟨a, prefix_get hle.σ ha, hb.mono hle rfl⟩
  · intro i j a hi hj hli0 hlj0
    have hli : ((heap.put nh (some b)).get i).isSome = true := hli0
    have hlj : ((heap.put nh (some b)).get j).isSome = true := hlj0
    rw [hget] at hli hlj
    rcases hold i a hi with ⟨hi', hin⟩ | ⟨hi1, hi2⟩
    · rcases hold j a hj with ⟨hj', hjn⟩ | ⟨hj1, hj2⟩
      · rw [if_neg (by omega)] at hli hlj
        exact h.inj i j a hi' hj' hli hlj
      · exact absurd (hj2 ▸ hi') (hout i)
    · rcases hold j a hj with ⟨hj', hjn⟩ | ⟨hj1, hj2⟩
      · exact absurd (hi2 ▸ hj') (hout j)
      · omega
  · intro i a hi
    rcases hold i a hi with ⟨hi, hin⟩ | ⟨_, rfl⟩
    · refine ⟨fun c hc hz => (h.mine i a hi).1 c ?_ hz, (h.mine i a hi).2⟩
      have hc : (heap.put nh (some b)).get i = some c := hc
      rwa [hget, if_neg (by omega)] at hc
    · exact ⟨fun _ _ _ => .inl hlo, hlt⟩
  · intro p hp; exact E.den_mono (List.prefix_refl _) (h.facts p hp)

end
end Go.SX
