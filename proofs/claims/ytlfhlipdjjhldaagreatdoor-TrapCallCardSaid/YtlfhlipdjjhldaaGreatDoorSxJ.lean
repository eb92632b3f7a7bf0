/- A symbolic executor for the model's code: what is known of memory, and operations that read and turn it. Conditions: 'EqOk'. -/
import Derived.Test.YtlfhlipdjjhldaaGreatDoorSxI
namespace Go.SX

/-- What is known of a block holds in a world. -/
def BlkRel (Γ : Env) (b : Blk) (a o : Nat) (w : World) : Prop :=
  ∃ (arr : Array Value) (e : TypeId) (vs : List Value) (n : Nat) (fr : Nat × Nat), w.heap[a]? = some (.cells arr e fr) ∧ cellsDen Γ b.cells = some vs ∧ vs <+: arr.toList.drop o ∧ b.tot.den Γ.ns = some n ∧ (b.esz = 0 ∨ fr = (0, 0) ∧ o = 0 ∧ arr.size = n * b.esz)

/-- But for the blocks of 'S', what stood in 'B' stands as it stood. -/
structure Fr (S : Nat → Prop) (B w : World) : Prop where
  os : w.os = B.os
  tape : w.tape = B.tape
  output : w.output = B.output
  size : B.heap.size ≤ w.heap.size
  block : ∀ k, k < B.heap.size → ¬ S k → w.heap[k]? = B.heap[k]?

/-- What is known of memory holds in a world. -/
structure MRel (S : Nat → Prop) (B : World) (C : Cfg) (Γ : Env) (st : St) (w : World) : Prop where
  X : Γ.X = C.X
  lenσ : Γ.σ.length = st.nh
  lenv : Γ.vs.length = st.nv
  lenn : Γ.ns.length = st.nn
  roomy : st.nh ≤ room + 1
  live : ∀ id b, st.heap.get id = some b → ∃ a, Γ.σ[id]? = some a ∧ BlkRel Γ b a (Γ.β id) w
  inj : ∀ (i j a : Nat), Γ.σ[i]? = some a → Γ.σ[j]? = some a → (st.heap.get i).isSome = true → (st.heap.get j).isSome = true → i = j
  mine : ∀ (i a : Nat), Γ.σ[i]? = some a → (∀ b, st.heap.get i = some b → b.esz ≠ 0 → B.heap.size ≤ a ∨ S a) ∧ a < w.heap.size
  fr : Fr S B w
  facts : ∀ p ∈ st.facts, p.1.den Γ.X Γ.vs = some (.bool p.2)
  base : ∀ i, st.nh ≤ i → Γ.β i = 0

/-- A later state: more is known; blocks that nothing is known of stand as they stood; new names are of new blocks, or of known ones. -/
structure Later (Γ : Env) (w : World) (Γ' : Env) (w' : World) : Prop where
  le : Γ.le Γ'
  size : w.heap.size ≤ w'.heap.size
  keep : ∀ k, k < w.heap.size → (∀ i : Nat, Γ.σ[i]? ≠ some k) → w'.heap[k]? = w.heap[k]?
  names : ∀ (i a : Nat), Γ'.σ[i]? = some a → (∃ j : Nat, Γ.σ[j]? = some a) ∨ w.heap.size ≤ a

theorem Later.refl (Γ : Env) (w : World) : Later Γ w Γ w := ⟨Env.le.refl Γ, Nat.le_refl _, fun _ _ _ => rfl, fun i _ h => .inl ⟨i, h⟩⟩

theorem Later.trans {Γ Δ Θ : Env} {u v w : World} (h : Later Γ u Δ v) (k : Later Δ v Θ w) : Later Γ u Θ w := by
  refine ⟨h.le.trans k.le, Nat.le_trans h.size k.size, fun b hb hn => ?_, fun i a hi => ?_⟩
  · rw [k.keep b (Nat.lt_of_lt_of_le hb h.size) ?_, h.keep b hb hn]
    intro i hi
    rcases h.names i b hi with ⟨j, hj⟩ | hlt
    · exact hn j hj
    · omega
  · rcases k.names i a hi with ⟨j, hj⟩ | hlt
    · exact h.names j a hj
    · exact .inr (Nat.le_trans h.size hlt)

def Env.addBlk (Γ : Env) (a : Nat) : Env := { Γ with σ := Γ.σ ++ [a] }
def Env.addN (Γ : Env) (n : Nat) : Env := { Γ with ns := Γ.ns ++ [n] }
def Env.addVs (Γ : Env) (vs : List Value) : Env := { Γ with vs := Γ.vs ++ vs }

theorem Env.le_addBlk (Γ : Env) (a : Nat) : Γ.le (Γ.addBlk a) := ⟨rfl, List.prefix_append _ _, List.prefix_refl _, List.prefix_refl _, rfl⟩
theorem Env.le_addN (Γ : Env) (n : Nat) : Γ.le (Γ.addN n) := ⟨rfl, List.prefix_refl _, List.prefix_refl _, List.prefix_append _ _, rfl⟩
theorem Env.le_addVs (Γ : Env) (vs : List Value) : Γ.le (Γ.addVs vs) := ⟨rfl, List.prefix_refl _, List.prefix_append _ _, List.prefix_refl _, rfl⟩

theorem BlkRel.mono {Γ Γ' : Env} {b : Blk} {a o : Nat} {w w' : World} (h : BlkRel Γ b a o w) (hle : Γ.le Γ') (hw : w'.heap[a]? = w.heap[a]?) : BlkRel Γ' b a o w' := by
  obtain ⟨arr, e, vs, n, fr, h1, h2, h3, h4, h5⟩ := h
  exact ⟨arr, e, vs, n, fr, hw.trans h1, cellsDen_mono hle h2, h3, N.den_mono hle.ns h4, h5⟩

theorem Fr.refl (S : Nat → Prop) (B : World) : Fr S B B := ⟨rfl, rfl, rfl, Nat.le_refl _, fun _ _ _ => rfl⟩

theorem Fr.alloc {S : Nat → Prop} {B w : World} (h : Fr S B w) (o : Obj) : Fr S B (w.alloc o) :=
  ⟨h.os, h.tape, h.output, Nat.le_trans h.size (by simp), fun k hk hs => by rw [heap_alloc_old _ _ (Nat.lt_of_lt_of_le hk h.size)]; exact h.block k hk hs⟩

theorem Fr.drew {S : Nat → Prop} {B w : World} (h : Fr S B w) : Fr S B w.drew := ⟨h.os, h.tape, h.output, h.size, h.block⟩

theorem Fr.setRow {S : Nat → Prop} {B w : World} (h : Fr S B w) {a : Nat} (ha : B.heap.size ≤ a ∨ S a) (cs : Array Value) : Fr S B (w.setRow a cs) :=
  ⟨h.os, h.tape, h.output, by simpa using h.size, fun k hk hs => by
    rw [setRow_other w a k cs (by rintro rfl; rcases ha with ha | ha; omega; exact hs ha)]; exact h.block k hk hs⟩

section
variable {S : Nat → Prop} {B : World} {C : Cfg} {Γ : Env} {st st' : St} {w : World}

/-- The state's memory alone counts. -/
theorem MRel.of_mem (h : MRel S B C Γ st w) (h1 : st'.heap = st.heap) (h2 : st'.nh = st.nh) (h3 : st'.nv = st.nv) (h4 : st'.nn = st.nn) (h5 : st'.facts = st.facts) : MRel S B C Γ st' w := by
  refine ⟨h.X, h2 ▸ h.lenσ, h3 ▸ h.lenv, h4 ▸ h.lenn, h2 ▸ h.roomy, ?_, ?_, ?_, h.fr, ?_, h2 ▸ h.base⟩
  · rw [h1]; exact h.live
  · rw [h1]; exact h.inj
  · rw [h1]; exact h.mine
  · rw [h5]; exact h.facts

theorem MRel.drew (h : MRel S B C Γ st w) : MRel S B C Γ st w.drew :=
  ⟨h.X, h.lenσ, h.lenv, h.lenn, h.roomy, h.live, h.inj, h.mine, h.fr.drew, h.facts, h.base⟩

theorem Later.drew (Γ : Env) (w : World) : Later Γ w Γ w.drew := ⟨Env.le.refl Γ, Nat.le_refl _, fun _ _ _ => rfl, fun i _ h => .inl ⟨i, h⟩⟩

/-- A new block. -/
theorem MRel.new {b : Blk} (h : MRel S B C Γ st w) (hn : newA st b = some st') {arr : Array Value} {e : TypeId} {vs : List Value} {n : Nat} (hv : cellsDen Γ b.cells = some vs) (hp : vs <+: arr.toList)
    (ht : b.tot.den Γ.ns = some n) (hs : arr.size = n * b.esz) :
    MRel S B C (Γ.addBlk w.heap.size) st' (w.alloc (.cells arr e)) ∧ Later Γ w (Γ.addBlk w.heap.size) (w.alloc (.cells arr e)) ∧ (Γ.addBlk w.heap.size).σ[st.nh]? = some w.heap.size ∧
      st'.tmps = st.tmps ∧ st'.ntm = st.ntm := by
  obtain ⟨tmps, ntm, heap, nh, nv, nn, facts⟩ := st
  simp only [newA] at hn
  split at hn
  case isFalse => cases hn
  rename_i hr
  cases hn
  have hroom := Nat.le_of_ble_eq_true hr
  have hlen : Γ.σ.length = nh := h.lenσ
  have hget : ∀ id, (heap.put nh (some b)).get id = if id = nh then some b else heap.get id := fun id => T.get_put heap nh (some b) id hroom
  have hnew : (Γ.addBlk w.heap.size).σ[nh]? = some w.heap.size := by
    show (Γ.σ ++ [w.heap.size])[nh]? = _
    rw [List.getElem?_append_right (by omega), hlen]; simp
  have hold : ∀ (i a : Nat), (Γ.addBlk w.heap.size).σ[i]? = some a → (Γ.σ[i]? = some a ∧ i < nh) ∨ (i = nh ∧ a = w.heap.size) := by
    intro i a hi
    have hi : (Γ.σ ++ [w.heap.size])[i]? = some a := hi
    by_cases hlt : i < Γ.σ.length
    · rw [List.getElem?_append_left hlt] at hi; exact .inl ⟨hi, by omega⟩
    · rw [List.getElem?_append_right (by omega)] at hi
      right
      have : i - Γ.σ.length = 0 := by
        by_cases h0 : i - Γ.σ.length = 0
        · exact h0
        · rw [List.getElem?_eq_none (by simp; omega)] at hi; cases hi
      rw [this] at hi
      simp at hi
      exact ⟨by omega, hi.symm⟩
  have hle := Env.le_addBlk Γ w.heap.size
  have hbase : ∀ i, nh ≤ i → Γ.β i = 0 := h.base
  refine ⟨⟨h.X, ?_, h.lenv, h.lenn, by show Nat.add nh 1 ≤ _; simp; omega, ?_, ?_, ?_, h.fr.alloc _, ?_, fun i hi => hbase i (Nat.le_of_succ_le hi)⟩, ⟨hle, by simp, ?_, ?_⟩, hnew, rfl, rfl⟩
  · show (Γ.σ ++ [w.heap.size]).length = Nat.add nh 1
    simp [hlen]
  · intro id c hc0
    have hc : (heap.put nh (some b)).get id = some c := hc0
    clear hc0
    rw [hget] at hc
    split at hc
    · rename_i hid
      subst hid
      cases hc
      refine ⟨_, hnew, arr, e, vs, n, (0, 0), by rw [heap_alloc_new], cellsDen_mono hle hv, ?_, ht, .inr ⟨rfl, hbase id (Nat.le_refl _), hs⟩⟩
      show vs <+: arr.toList.drop (Γ.β id)
      rw [hbase id (Nat.le_refl _)]; exact hp
    · obtain ⟨a, ha, hb⟩ := h.live id c hc
      refine ⟨a, prefix_get hle.σ ha, hb.mono hle ?_⟩
      exact heap_alloc_old _ _ (h.mine id a ha).2
  · intro i j a hi hj hli0 hlj0
    have hli : ((heap.put nh (some b)).get i).isSome = true := hli0
    have hlj : ((heap.put nh (some b)).get j).isSome = true := hlj0
    rw [hget] at hli hlj
    rcases hold i a hi with ⟨hi', hin⟩ | ⟨hi1, hi2⟩
    · rcases hold j a hj with ⟨hj', hjn⟩ | ⟨hj1, hj2⟩
      · rw [if_neg (by omega)] at hli hlj
        exact h.inj i j a hi' hj' hli hlj
      · have := (h.mine i a hi').2; omega
    · rcases hold j a hj with ⟨hj', hjn⟩ | ⟨hj1, hj2⟩
      · have := (h.mine j a hj').2; omega
      · omega
  · intro i a hi
    rcases hold i a hi with ⟨hi, hin⟩ | ⟨_, rfl⟩
    · refine ⟨fun c hc hz => (h.mine i a hi).1 c ?_ hz, by have := (h.mine i a hi).2; simp; omega⟩
      have hc : (heap.put nh (some b)).get i = some c := hc
      rwa [hget, if_neg (by omega)] at hc
    · exact ⟨fun _ _ _ => .inl h.fr.size, by simp⟩
  · intro p hp; exact E.den_mono (List.prefix_refl _) (h.facts p hp)
  · intro k hk _; exact heap_alloc_old _ _ hk
  · intro i a hi
    rcases hold i a hi with ⟨hi, _⟩ | ⟨_, rfl⟩
    · exact .inl ⟨i, hi⟩
    · exact .inr (Nat.le_refl _)

/-- A store into a known block. -/
theorem MRel.store {id off : Nat} {new : List Cell} {h' : T Blk} (h : MRel S B C Γ st w) (hs : storeA st.heap id off new = some h') {nv : List Value} (hn : cellsDen Γ new = some nv) :
    ∃ (a : Nat) (arr : Array Value) (e : TypeId), Γ.σ[id]? = some a ∧ w.heap[a]? = some (.cells arr e (0, 0)) ∧ Γ.β id + off + nv.length ≤ arr.size ∧
      MRel S B C Γ (setHeap st h') (w.setRow a (arr.toList.take (Γ.β id + off) ++ nv ++ arr.toList.drop (Γ.β id + off + nv.length)).toArray) ∧
      Later Γ w Γ (w.setRow a (arr.toList.take (Γ.β id + off) ++ nv ++ arr.toList.drop (Γ.β id + off + nv.length)).toArray) := by
  unfold storeA at hs
  cases hb : st.heap.get id with
  | none => rw [hb] at hs; cases hs
  | some b =>
    rw [hb] at hs
    cases hez : Nat.beq b.esz 0 with
    | true => simp only [hez] at hs; cases hs
    | false =>
    have hez : b.esz ≠ 0 := fun e0 => by rw [e0] at hez; cases hez
    cases hput : putCells b.cells off new with
    | none => rename_i hez'; simp only [hez', hput] at hs; cases hs
    | some l =>
      rename_i hez'
      simp only [hez', hput] at hs
      cases hs
      obtain ⟨a, ha, arr, e, vs, n, fr, h1, h2, h3, h4, h5⟩ := h.live id b hb
      obtain ⟨rfl, h0, h6⟩ := h5.resolve_left hez
      clear h5
      have h5 := h6
      have hroom : id ≤ room := by
        have h6 := (List.getElem?_eq_some_iff.1 ha).1
        have h7 := h.lenσ
        have h8 := h.roomy
        omega
      obtain ⟨hlen, rfl⟩ := putL_some _ _ _ _ hput
      have e1 := cellsDen_length hn
      have e2 := cellsDen_length h2
      obtain ⟨slack, hsl⟩ := h3
      have e3 : vs.length + slack.length = arr.size - Γ.β id := by rw [← List.length_append, hsl]; simp
      have e4 : Γ.β id ≤ arr.size := by omega
      have hsplit : arr.toList = arr.toList.take (Γ.β id) ++ (vs ++ slack) := by rw [hsl, List.take_append_drop]
      have hpre : (arr.toList.take (Γ.β id)).length = Γ.β id := by simp; omega
      have i1 : (vs ++ slack).take off = vs.take off := by rw [List.take_append_of_le_length (by omega)]
      have i2 : (vs ++ slack).drop (off + nv.length) = vs.drop (off + nv.length) ++ slack := by rw [List.drop_append_of_le_length (by omega)]
      have i3 : arr.toList.take (Γ.β id + off) = arr.toList.take (Γ.β id) ++ vs.take off := by
        rw [List.take_add, ← hsl, i1]
      have i4 : arr.toList.drop (Γ.β id + off + nv.length) = vs.drop (off + nv.length) ++ slack := by
        rw [Nat.add_assoc, ← List.drop_drop, ← hsl, i2]
      have hal := (h.mine id a ha)
      have h5x := h5
      refine ⟨a, arr, e, ha, h1, by omega, ⟨h.X, ?_, ?_, ?_, ?_, ?_, ?_, ?_, h.fr.setRow (hal.1 b hb hez) _, ?_, by cases st; exact h.base⟩, ⟨Env.le.refl Γ, by simp, ?_, fun i a h => .inl ⟨i, h⟩⟩⟩
      · cases st; exact h.lenσ
      · cases st; exact h.lenv
      · cases st; exact h.lenn
      · cases st; exact h.roomy
      · intro id' c hc0
        have hc : (st.heap.put id (some ⟨b.cells.take off ++ (new ++ b.cells.drop (off + new.length)), b.tot, b.esz⟩)).get id' = some c := by cases st; exact hc0
        clear hc0
        rw [T.get_put _ _ _ _ hroom] at hc
        split at hc
        · rename_i hid
          subst hid
          cases hc
          refine ⟨a, ha, _, e, vs.take off ++ (nv ++ vs.drop (off + nv.length)), n, (0, 0), setRow_heap w a arr _ e (0, 0) h1, ?_, ?_, h4, .inr ⟨rfl, h0, ?_⟩⟩
          · rw [e1]; exact cellsDen_append (cellsDen_take _ h2) (cellsDen_append hn (cellsDen_drop _ h2))
          · refine ⟨slack, ?_⟩
            rw [i3, i4]
            simp only [List.append_assoc]
            rw [List.drop_left' hpre]
          · rw [← h5x]; simp; omega
        · rename_i hid
          obtain ⟨a', ha', hb'⟩ := h.live id' c hc
          refine ⟨a', ha', hb'.mono (Env.le.refl Γ) (setRow_other w a a' _ ?_)⟩
          rintro rfl
          exact hid (h.inj id' id a' ha' ha (by rw [hc]; rfl) (by rw [hb]; rfl))
      · intro i j c hi hj hli hlj
        have conv : ∀ x, ((setHeap st (st.heap.put id (some ⟨b.cells.take off ++ (new ++ b.cells.drop (off + new.length)), b.tot, b.esz⟩))).heap.get x).isSome = true → (st.heap.get x).isSome = true := by
          intro x hx
          have hx : ((st.heap.put id (some ⟨b.cells.take off ++ (new ++ b.cells.drop (off + new.length)), b.tot, b.esz⟩)).get x).isSome = true := by cases st; exact hx
          rw [T.get_put _ _ _ _ hroom] at hx
          split at hx
          · rename_i e; rw [e, hb]; rfl
          · exact hx
        exact h.inj i j c hi hj (conv i hli) (conv j hlj)
      · intro i c hi
        refine ⟨fun b2 hb2 hz => ?_, by simpa using (h.mine i c hi).2⟩
        have hb2 : (st.heap.put id (some ⟨b.cells.take off ++ (new ++ b.cells.drop (off + new.length)), b.tot, b.esz⟩)).get i = some b2 := by cases st; exact hb2
        rw [T.get_put _ _ _ _ hroom] at hb2
        split at hb2
        · rename_i hid
          subst hid
          rw [ha] at hi
          cases hi
          exact hal.1 b hb hez
        · exact (h.mine i c hi).1 b2 hb2 hz
      · intro p hp; exact h.facts p (by cases st; exact hp)
      · intro k hk hn
        exact setRow_other w a k _ (by rintro rfl; exact hn id ha)

/-- A load. -/
theorem MRel.load {id off n : Nat} {cs : List Cell} (h : MRel S B C Γ st w) (hl : loadA st.heap id off n = some cs) :
    ∃ (a : Nat) (vs : List Value), Γ.σ[id]? = some a ∧ cellsDen Γ cs = some vs ∧ vs.length = n ∧ ∀ j v, vs[j]? = some v → w.cell? ⟨a, Γ.β id + off + j, none⟩ = some v := by
  unfold loadA at hl
  cases hb : st.heap.get id with
  | none => rw [hb] at hl; cases hl
  | some b =>
    rw [hb] at hl
    obtain ⟨a, ha, arr, e, vs, m, fr, h1, h2, h3, h4, h5⟩ := h.live id b hb
    have hcell : ∀ (j : Nat) (v : Value), vs[j]? = some v → w.cell? ⟨a, Γ.β id + j, none⟩ = some v := by
      intro j v hv
      rw [cell_of_row w a _ arr e fr h1, ← Array.getElem?_toList]
      have := prefix_get h3 hv
      rwa [List.getElem?_drop] at this
    rcases getCells_some hl with ⟨hle, rfl⟩ | ⟨rfl, rfl⟩
    · refine ⟨a, (vs.drop off).take n, ha, cellsDen_take _ (cellsDen_drop _ h2), ?_, ?_⟩
      · have := cellsDen_length h2; simp; omega
      · intro j v hv
        rw [Nat.add_assoc]
        refine hcell _ _ ?_
        rw [List.getElem?_take] at hv
        split at hv
        · rwa [List.getElem?_drop] at hv
        · cases hv
    · exact ⟨a, [], ha, rfl, rfl, fun j v hv => by simp at hv⟩

end
end Go.SX
