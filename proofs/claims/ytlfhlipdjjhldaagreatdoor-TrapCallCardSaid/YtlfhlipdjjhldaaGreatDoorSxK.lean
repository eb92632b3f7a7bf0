/- A symbolic executor for the model's code: operations that read and turn memory do what 'opD' says. Conditions: 'EqOk'. -/
import Derived.Test.YtlfhlipdjjhldaaGreatDoorSxJ
import Derived.Great.BuildSlice
namespace Go.SX

section
variable {S : Nat → Prop} {B : World} {C : Cfg} {Γ : Env} {st st' : St} {w : World} {a : Act}

theorem oneCell_eq (v : Value) : v.oneCell' = oneCell v := by cases v <;> rfl

theorem readA_sound (h : MRel S B C Γ st w) {t : Nat} {v r : AV} {x : Value} (hr : readA C st.heap t v = some r) (hv : v.den Γ = some x) :
    ∃ u, r.den Γ = some u ∧ (Instr.loadAt t x).run C.P w = .ok u w ∧ ∃ b : Addr, x = .pointer (some b) ∧ (loadVar t b).run C.P w = .ok u w := by
  unfold readA at hr
  split at hr
  case h_2 => cases hr
  rename_i id off
  cases hi : C.ti t with
  | none => simp only [hi] at hr; cases hr
  | some i =>
    simp only [hi] at hr
    obtain ⟨info, d, ok⟩ := tiOf_ok hi
    obtain ⟨b, hb, rfl⟩ := den_ptr hv
    split at hr
    · rename_i hagg
      simp only [Option.map_eq_some_iff] at hr
      obtain ⟨cs, hcs, rfl⟩ := hr
      obtain ⟨b', vs, hb', hvs, hlen, hcell⟩ := h.load hcs
      rw [hb] at hb'
      cases hb'
      have hl := run_loadCells_list (P := C.P) w ⟨b, Γ.β id + off, none⟩ vs (fun j v hj => by rw [addr_add]; exact hcell j v hj)
      rw [hlen] at hl
      have hvar : (loadVar t ⟨b, Γ.β id + off, none⟩).run C.P w = .ok (.agg vs.toArray) w := by
        simp [loadVar, ok.run_agg, hagg, ok.run_size, hl]
      exact ⟨.agg vs.toArray, by simp [AV.den, hvs], by simp [Instr.loadAt, Instr.sureAddr, hvar], _, rfl, hvar⟩
    · rename_i hagg
      have hagg : i.isAgg = false := by simpa using hagg
      cases hg : st.heap.get id with
      | none => simp only [hg] at hr; cases hr
      | some blk =>
        simp only [hg] at hr
        split at hr
        case h_2 => cases hr
        rename_i c hc
        cases hr
        rw [nth_eq] at hc
        obtain ⟨a', ha', arr, e, vs, m, fr, h1, h2, h3, h4, h5⟩ := h.live id blk hg
        rw [hb] at ha'
        cases ha'
        obtain ⟨y, hy, hvy⟩ := cellsDen_get h2 hc
        have hcell : w.cell? ⟨b, Γ.β id + off, none⟩ = some y := by
          rw [cell_of_row w b _ arr e fr h1, ← Array.getElem?_toList]
          have := prefix_get h3 hvy
          rwa [List.getElem?_drop] at this
        have hvar : (loadVar t ⟨b, Γ.β id + off, none⟩).run C.P w = .ok y w := by
          simp [loadVar, ok.run_agg, hagg, hcell]
        exact ⟨y, hy, by simp [Instr.loadAt, Instr.sureAddr, hvar], _, rfl, hvar⟩

theorem writeA_sound (h : MRel S B C Γ st w) {t : Nat} {v u : AV} {x y : Value} {h' : T Blk} (hr : writeA C st.heap t u v = some h') (hv : v.den Γ = some x) (hu : u.den Γ = some y) :
    ∃ w', (Instr.storeAt t x y).run C.P w = .ok () w' ∧ MRel S B C Γ (setHeap st h') w' ∧ Later Γ w Γ w' := by
  unfold writeA at hr
  split at hr
  case h_2 => cases hr
  rename_i id off
  cases hc : u.cells with
  | none => simp only [hc] at hr; cases hr
  | some cs =>
    simp only [hc] at hr
    cases hi : C.ti t with
    | none => simp only [hi] at hr; cases hr
    | some i =>
      simp only [hi] at hr
      obtain ⟨info, d, ok⟩ := tiOf_ok hi
      split at hr
      case isFalse => cases hr
      rename_i hl
      have hl := Nat.eq_of_beq_eq_true hl
      rw [lenL_eq] at hl
      obtain ⟨nv, hnv, hyc⟩ := AV.den_cells hu hc
      obtain ⟨b, hb, rfl⟩ := den_ptr hv
      obtain ⟨b', arr, e, hb', h1, h2, h3, h4⟩ := h.store hr hnv
      rw [hb] at hb'
      cases hb'
      have hst := run_storeCells_at C.P b (Γ.β id + off) e nv 0 arr w h1 (by simpa using h2) (fun v hv => by rw [oneCell_eq]; exact cellsDen_oneCell hnv v hv)
      simp only [Nat.add_zero] at hst
      refine ⟨_, ?_, h3, h4⟩
      have hsz : nv.length = i.size := by rw [cellsDen_length hnv, hl]
      simp [Instr.storeAt, Instr.sureAddr, storeVar, ok.run_size, hyc, hsz, hst]

theorem range_repeat (z : List Value) (_hz : 0 < z.length) : ∀ n, ((List.range (n * z.length)).map fun i => (z.toArray)[i % z.toArray.size]!) = (List.replicate n z).flatten := by
  intro n
  induction n with
  | zero => simp
  | succ n ih =>
    have e : (n + 1) * z.length = z.length + n * z.length := by rw [Nat.succ_mul]; omega
    rw [e, List.range_add, List.map_append, List.map_map, List.replicate_succ, List.flatten_cons]
    congr 1
    · apply List.ext_getElem?
      intro j
      by_cases hj : j < z.length
      · simp [hj, Nat.mod_eq_of_lt hj]
      · simp [hj]
    · rw [← ih]
      apply List.map_congr_left
      intro j _
      simp

theorem repeatCells_den {z : List Cell} {zv : List Value} (h : cellsDen Γ z = some zv) : ∀ n, cellsDen Γ (repeatCells z n) = some (List.replicate n zv).flatten := by
  intro n
  induction n with
  | zero => rfl
  | succ n ih =>
    simp only [repeatCells, appL_eq, List.replicate_succ, List.flatten_cons]
    exact cellsDen_append h ih

theorem partsDen_nil {ps : List (Nat × AV)} (h : Parts Γ ps []) : ps = [] := by
  cases ps with
  | nil => rfl
  | cons p ps => exact h.elim

/-- What a fresh block holds, and the operation that makes it. -/
theorem freshA_sound (_hX : Γ.X = C.X) {o : Oper} {v : AV} {b : Blk} {nh : Nat} (he : Ev Γ st.tmps a o.op) (h : freshA C st.tmps nh o.op = some (v, b)) :
    ∃ (arr : Array Value) (e : TypeId) (n : Nat), cellsDen Γ b.cells = some arr.toList ∧ b.tot.den Γ.ns = some n ∧ arr.size = n * b.esz ∧
      ∃ mk : Nat → Value, (∀ Δ : Env, ∀ blk : Nat, Δ.β nh = 0 → Δ.σ[nh]? = some blk → v.den Δ = some (mk blk)) ∧
        ∀ w, (execOp a.eval o).run C.P w = .ok (.value (mk w.heap.size)) (w.alloc (.cells arr e)) := by
  obtain ⟨dst, op, type, pos, after, guard⟩ := o
  have hptr : ∀ Δ : Env, ∀ blk : Nat, Δ.β nh = 0 → Δ.σ[nh]? = some blk → (AV.one (.ptr nh 0)).den Δ = some (.pointer (some ⟨blk, 0, none⟩)) := by
    intro Δ blk h0 hb; show ptrDen Δ.σ Δ.β (nh, 0) = _; simp [ptrDen, hb, h0]
  simp only at h
  cases op <;> simp only [freshA] at h <;> (first | (cases h; done) | skip)
  case alloc t =>
    cases hi : C.ti t with
    | none => simp only [hi] at h; cases h
    | some i =>
      simp only [hi] at h
      obtain ⟨info, d, ok⟩ := tiOf_ok hi
      cases hz : i.zero with
      | none => simp only [hz] at h; cases h
      | some z =>
        simp only [hz] at h
        cases h
        obtain ⟨zv, hzv, hzd⟩ := zeroOf_den (Γ := Γ) (ok.zero ▸ hz)
        refine ⟨zv.cells, t, z.length, hzd, by rw [lenL_eq]; rfl, ?_, fun b => .pointer (some ⟨b, 0, none⟩), hptr, fun w => ?_⟩
        · have := cellsDen_length hzd; simp at this; simp [this]
        · simp [execOp, Instr.alloc, zeroValue, ok.run_info, hzv, newVar, newRow]
  case box t x =>
    cases hx : evalA st.tmps x with
    | none => simp only [hx] at h; cases h
    | some y =>
      simp only [hx] at h
      cases hc : y.cells with
      | none => simp only [hc] at h; cases h
      | some cs =>
        simp only [hc] at h
        cases h
        obtain ⟨l, hl, hyc⟩ := AV.den_cells (he x (by simp [Op.operands]) y hx) hc
        refine ⟨l.toArray, t, cs.length, by simpa using hl, by rw [lenL_eq]; rfl, ?_, fun b => .pointer (some ⟨b, 0, none⟩), hptr, fun w => ?_⟩
        · have := cellsDen_length hl; simp [this]
        · simp [execOp, Instr.box, newVar, newRow, hyc]
  case buildSlice t len parts =>
    cases hi : C.ti t with
    | none => simp only [hi] at h; cases h
    | some i =>
      simp only [hi] at h
      obtain ⟨info, d, ok⟩ := tiOf_ok hi
      split at h
      case h_2 => cases h
      rename_i e hk
      obtain rfl := kind_slice (hk ▸ ok.kind)
      cases hj : C.ti e with
      | none => simp only [hj] at h; cases h
      | some j =>
        simp only [hj] at h
        obtain ⟨infoe, de, oke⟩ := tiOf_ok hj
        cases hz : j.zero with
        | none => simp only [hz] at h; cases h
        | some z =>
          simp only [hz] at h
          obtain ⟨zv, hzv, hzd⟩ := zeroOf_den (Γ := Γ) (oke.zero ▸ hz)
          cases hp : partsA st.tmps parts.toList with
          | none => simp only [hp] at h; cases h
          | some ps =>
            simp only [hp] at h
            split at h
            case isFalse => cases h
            rename_i hcond
            obtain ⟨hc1, hc3⟩ := Bool.and_eq_true_iff.1 hcond
            obtain ⟨hc1, hc2⟩ := Bool.and_eq_true_iff.1 hc1
            have hc1 : len * j.size ≤ 16777216 := Nat.le_of_ble_eq_true hc1
            have hc2 := Nat.eq_of_beq_eq_true hc2
            rw [lenL_eq] at hc2
            have hc3 : j.size ≠ 0 := by
              intro e0
              rw [e0] at hc3
              cases hc3
            split at h
            case h_2 => cases h
            rename_i cs hcs
            cases h
            have hzl := cellsDen_length hzd
            have hparts := partsA_sound (Γ := Γ) (a := a) hp (fun x hx v hv => he x (by simpa [Op.operands] using hx) v hv)
            have hrep := repeatCells_den hzd len
            obtain ⟨l', h1, h2, h3⟩ := fillA_sound (place := fun i => some (Nat.mul i j.size, j.size)) (place' := fun i => some (i * j.size, j.size)) (fun i p hp => hp) hparts hcs hrep
            have hlen : l'.length = len * j.size := by
              rw [h3]
              have e1 : zv.cells.toList.length = j.size := by rw [hzl, hc2]
              clear h1 h2 h3 hrep hcs
              have gen : ∀ n, (List.replicate n zv.cells.toList).flatten.length = n * j.size := by
                intro n
                induction n with
                | zero => simp
                | succ n ih => rw [List.replicate_succ, List.flatten_cons, List.length_append, ih, e1, Nat.succ_mul]; omega
              exact gen len
            refine ⟨l'.toArray, e, len, by simpa using h1, rfl, by simpa using hlen, fun b => .slice (some ⟨b, 0, none⟩) len len, ?_, fun w => ?_⟩
            · intro Δ blk h0 hb
              rw [AV.den_one]
              simp [Cell.den, hb, h0, N.den, sliceDen]
            · have hrun : (Instr.buildSlice t len (parts.map fun (i, x) => (i, a.eval x))).run C.P w = .ok (.slice (some ⟨w.heap.size, 0, none⟩) len len) (w.alloc (.cells l'.toArray e)) := by
                by_cases h0 : len = 0
                · subst h0
                  have hl0 : l' = [] := List.eq_nil_of_length_eq_zero (by rw [hlen]; simp)
                  subst hl0
                  have hm : ∀ f : Nat → Value, Array.map f (Array.range 0) = #[] := fun f => by simp
                  have h2' : Instr.fill (fun i => some (i * j.size, j.size)) #[] (parts.toList.map fun x => (x.1, a.eval x.2)) = some #[] := h2
                  simp [Instr.buildSlice, ok.run_under, oke.run_size, hm, h2', newRow]
                · refine run_buildSlice w t e len _ l'.toArray infoe zv ok.under oke.info hzv (by rw [← oke.size]; omega) (by rw [← oke.size]; exact Nat.mul_ne_zero h0 hc3) ?_
                  rw [← oke.size]
                  have e2 : ((Array.range (len * j.size)).map (zv.cells[· % zv.cells.size]!)) = (List.replicate len zv.cells.toList).flatten.toArray := by
                    apply Array.ext'
                    have e3 : zv.cells.toList.length = j.size := by rw [hzl, hc2]
                    have := range_repeat zv.cells.toList (by omega) len
                    rw [e3] at this
                    simpa using this
                  rw [e2]
                  simpa using h2
              simp [execOp, hrun]

end
end Go.SX
