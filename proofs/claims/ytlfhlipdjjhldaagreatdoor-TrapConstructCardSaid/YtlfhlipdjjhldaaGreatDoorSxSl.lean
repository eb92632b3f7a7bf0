/- TrapCall, TrapConstruct: a run with so many arguments that are only read; a run with more of them than are looked at. Conditions: none. -/
import Derived.Test.YtlfhlipdjjhldaaGreatDoorSxSlice
import Derived.Test.YtlfhlipdjjhldaaGreatDoorSxOwnB
import Derived.Test.YtlfhlipdjjhldaaGreatDoorSxMore
namespace Go.Proofs.YtlfhlipdjjhldaaGreatDoor
open Go Go.SX Go.RowKit

theorem valsC_den {Y : Ext} {σ ns : List Nat} {β : Nat → Nat} : ∀ {n : Nat} {l : List Value}, HasAll (manyS n) l → ∀ (pre : List Value), cellsDen ⟨Y, σ, pre ++ l, ns, β⟩ (Tr.valsC pre.length n) = some l := by
  intro n
  induction n with
  | zero => intro l h pre; cases h; rfl
  | succ n ih =>
    intro l h pre
    obtain ⟨a, b, rfl, h1, h2⟩ := hasAll_split (ts := Tr.vS) (ss := manyS n) h
    show cellsDen _ (appL (varsFrom pre.length Tr.vS) (Tr.valsC (Nat.add pre.length 4) n)) = _
    rw [appL_eq]
    refine cellsDen_append (varsFrom_den h1 pre b) ?_
    have := ih h2 (pre ++ a)
    rw [List.append_assoc, List.length_append, len4 h1] at this
    exact this

theorem prefix_of_get {l m : List Value} (h : ∀ (j : Nat) (v : Value), l[j]? = some v → m[j]? = some v) : l <+: m := by
  rw [List.prefix_iff_getElem?]
  intro i hi
  exact h i _ (List.getElem?_eq_getElem hi)

/-- The start of a run with so many values that are only read. -/
theorem slice_start {C : Cfg} (w : World) {pre l : List Value} {n cap nv : Nat} {a : Addr} {arr : Array Value} {e : TypeId} {fr : Nat × Nat} (hl : HasAll (manyS n) l) (hh : w.heap[a.block]? = some (.cells arr e fr))
    (hc : ∀ j v, l[j]? = some v → w.cell? (a.add j) = some v) (hs : a.spot = none) (hnv : (pre ++ l).length = nv) (fs : List (E × Bool)) (hf : ∀ p ∈ fs, p.1.den C.X (pre ++ l) = some (.bool p.2)) :
    MRel (fun _ => False) w C ⟨C.X, [a.block], pre ++ l, [cap], fun i => if i = 0 then a.off else 0⟩ (St.start (Tr.argsHeap pre.length n) 1 nv 1 fs) w := by
  have hget : ∀ id, (Tr.argsHeap pre.length n).get id = if id = 0 then some ⟨Tr.valsC pre.length n, .lit 0, 0⟩ else none := by
    intro id
    unfold Tr.argsHeap
    rw [T.get_put _ _ _ _ (Nat.zero_le _), T.get_e]
  refine ⟨rfl, rfl, hnv, rfl, (by decide +kernel : 1 ≤ room + 1), ?_, ?_, ?_, Fr.refl _ _, hf, ?_⟩
  · intro id b hb
    have hb : (Tr.argsHeap pre.length n).get id = some b := hb
    rw [hget] at hb
    split at hb
    · rename_i hid
      subst hid
      cases hb
      refine ⟨a.block, rfl, arr, e, l, 0, fr, hh, valsC_den hl pre, prefix_of_get fun j v hv => ?_, rfl, .inl rfl⟩
      have := hc j v hv
      rw [List.getElem?_drop]
      obtain ⟨blk, off, spot⟩ := a
      cases hs
      have h2 : w.cell? ⟨blk, off + j, none⟩ = some v := by rw [addr_add] at this; exact this
      rw [cell_of_row w blk _ arr e fr hh] at h2
      rw [Array.getElem?_toList]
      exact h2
    · cases hb
  · intro i j x hi hj _ _
    have e : ∀ k, ([a.block] : List Nat)[k]? = some x → k = 0 := by
      intro k hk
      cases k with
      | zero => rfl
      | succ k => simp at hk
    rw [e i hi, e j hj]
  · intro i x hi
    cases i with
    | zero =>
      cases hi
      refine ⟨fun b hb hz => ?_, (Array.getElem?_eq_some_iff.1 hh).1⟩
      have hb : (Tr.argsHeap pre.length n).get 0 = some b := hb
      rw [hget] at hb
      cases hb
      exact absurd rfl hz
    | succ i => exact absurd hi (by simp)
  · intro i hi
    have hi : 1 ≤ i := hi
    show (if i = 0 then a.off else 0) = 0
    rw [if_neg (by omega)]

theorem argsA_den {Y : Ext} {vs : List Value} {a : Addr} {n cap : Nat} (hs : a.spot = none) (h : n ≤ cap) : (Tr.argsA n).den ⟨Y, [a.block], vs, [cap], fun i => if i = 0 then a.off else 0⟩ = some (.slice (some a) n cap) := by
  obtain ⟨blk, off, spot⟩ := a
  cases hs
  simp [Tr.argsA, AV.den_one, Cell.den, N.den, sliceDen, h]

theorem aggA_den {Γ : Env} {cs : List Cell} {l : List Value} (h : cellsDen Γ cs = some l) : (AV.agg cs).den Γ = some (.agg l.toArray) := by
  simp only [AV.den, h, Option.map_some]

/-- A tree that is true everywhere: the call answers true. -/
theorem tree_calls {R : Nat → List Value → List Value → Prop} {f : Nat} {al : List AV} {st : St} (hC : CfgOk (Tr.C5 Tryz.prog X) R) (h : Tree.isTrue (runFZ (Tr.C5 Tryz.prog X) 1000000 f al st) = true) {Γ : Env} {w : World} {xs : List Value}
    (hm : MRel (fun _ => False) w (Tr.C5 Tryz.prog X) Γ st w) (hx : avsDen Γ al = some xs) : Calls Tryz.prog f xs.toArray w fun e w' => e = .returned (.bool true) ∧ Below w.heap.size w w' := by
  rw [runFZ_eq] at h
  refine Calls.mono (runF_sound hC hm hx (holds_isTrue h)) ?_
  rintro e w' ⟨u, rfl, st', v, Γ', hl, hm, hv, rfl⟩
  refine ⟨?_, Fr.below' hm.fr⟩
  unfold boolLit at hv
  rw [AV.den_one, den_s] at hv
  rw [← Option.some.inj hv.1]

/-- A row of cells that a slice's place is in. -/
theorem has_row {P : Program} {w : World} {r : Reach} {b0 : Nat} {t e : TypeId} {a : Addr} {len cap : Nat} (ht : P.underlying t = some (.slice e)) (h : Value.okWide P w r b0 t (.slice (some a) len cap)) :
    a.spot = none ∧ ∃ arr ty fr, w.heap[a.block]? = some (.cells arr ty fr) := by
  simp only [Value.okWide, ht, Cell.okWide, Cell.ok] at h
  obtain ⟨_, _, _, hs, row, cells, hsh, _⟩ := h
  refine ⟨hs, ?_⟩
  unfold World.shape? at hsh
  split at hsh
  · rename_i c ty fr hh
    exact ⟨c, ty, fr, hh⟩
  · cases hsh

theorem trues_app {Y : Ext} {us : List Value} {l : List E} (h : ∀ e ∈ l, e.den Y us = some (.bool true)) : ∀ p ∈ appL [] (Tr.trues l), p.1.den Y us = some (.bool p.2) := by
  intro p hp
  rw [appL_eq] at hp
  exact trues_ok h p hp

/-- TrapCall with so many arguments. -/
theorem call_n {n : Nat} (h : Tree.isTrue (runFZ (Tr.C5 Tryz.prog X) 1000000 16 (Tr.callArgs n) (Tr.callSt n [])) = true) (w : World) {l0 l1 l : List Value} {a : Addr} {cap : Nat} {arr : Array Value} {e : TypeId} {fr : Nat × Nat}
    (h0 : HasAll Tr.vS l0) (h1 : HasAll Tr.vS l1) (g0 : ∀ v ∈ l0, Good v) (g1 : ∀ v ∈ l1, Good v) (hl : HasAll (manyS n) l) (hs : a.spot = none) (hh : w.heap[a.block]? = some (.cells arr e fr))
    (hc : ∀ j v, l[j]? = some v → w.cell? (a.add j) = some v) (hn : n ≤ cap) :
    Calls Tryz.prog 16 #[.agg l0.toArray, .slice (some a) n cap, .agg l1.toArray] w fun e w' => e = .returned (.bool true) ∧ Below w.heap.size w w' := by
  have hlen : l.length = 4 * n := by
    have : ∀ n l, HasAll (manyS n) l → l.length = 4 * n := by
      intro n
      induction n with
      | zero => intro l h; cases h; rfl
      | succ n ih =>
        intro l h
        obtain ⟨a, b, rfl, h1, h2⟩ := hasAll_split (ts := Tr.vS) (ss := manyS n) h
        rw [List.length_append, len4 h1, ih b h2]; omega
    exact this n l hl
  have hp : (l0 ++ l1).length = 8 := by rw [List.length_append, len4 h0, len4 h1]
  have hm := slice_start (C := Tr.C5 Tryz.prog X) w (pre := l0 ++ l1) (cap := cap) (nv := Nat.add 8 (Nat.mul 4 n)) hl hh hc hs (by rw [List.length_append, hp, hlen]; rfl)
    (appL [] (Tr.trues (appL (Tr.valueFacts 0) (Tr.valueFacts 4)))) (trues_app fun e he => by
      rw [appL_eq] at he
      rcases List.mem_append.1 he with he | he
      · exact value_facts (Y := X5) X5_ok w (pre := []) (ws := l0) (post := l1 ++ l) (by simp) rfl h0 g0 e he
      · exact value_facts (Y := X5) X5_ok w (pre := l0) (ws := l1) (post := l) (by simp) (len4 h0) h1 g1 e he)
  rw [hp] at hm
  refine tree_calls C5_ok h hm (xs := [.agg l0.toArray, .slice (some a) n cap, .agg l1.toArray]) ?_
  have e0 : cellsDen ⟨(Tr.C5 Tryz.prog X).X, [a.block], (l0 ++ l1) ++ l, [cap], fun i => if i = 0 then a.off else 0⟩ (varsFrom 0 Tr.vS) = some l0 := by
    have := varsFrom_den (X := (Tr.C5 Tryz.prog X).X) (σ := [a.block]) (ns := [cap]) (β := fun i => if i = 0 then a.off else 0) h0 [] (l1 ++ l)
    rw [List.nil_append, ← List.append_assoc] at this
    exact this
  have e1 : cellsDen ⟨(Tr.C5 Tryz.prog X).X, [a.block], (l0 ++ l1) ++ l, [cap], fun i => if i = 0 then a.off else 0⟩ (varsFrom 4 Tr.vS) = some l1 := by
    have := varsFrom_den (X := (Tr.C5 Tryz.prog X).X) (σ := [a.block]) (ns := [cap]) (β := fun i => if i = 0 then a.off else 0) h1 l0 l
    rw [← List.append_assoc, len4 h0] at this
    exact this
  simp only [Tr.callArgs, avsDen, aggA_den e0, aggA_den e1, argsA_den hs hn, Option.bind_some, Option.map_some]

/-- TrapConstruct with so many arguments. -/
theorem make_n {n : Nat} (h : Tree.isTrue (runFZ (Tr.C5 Tryz.prog X) 1000000 17 (Tr.makeArgs n) (Tr.makeSt n [])) = true) (w : World) {l0 l : List Value} {a : Addr} {cap : Nat} {arr : Array Value} {e : TypeId} {fr : Nat × Nat}
    (h0 : HasAll Tr.vS l0) (g0 : ∀ v ∈ l0, Good v) (hl : HasAll (manyS n) l) (hs : a.spot = none) (hh : w.heap[a.block]? = some (.cells arr e fr))
    (hc : ∀ j v, l[j]? = some v → w.cell? (a.add j) = some v) (hn : n ≤ cap) :
    Calls Tryz.prog 17 #[.slice (some a) n cap, .agg l0.toArray] w fun e w' => e = .returned (.bool true) ∧ Below w.heap.size w w' := by
  have hlen : l.length = 4 * n := by
    have : ∀ n l, HasAll (manyS n) l → l.length = 4 * n := by
      intro n
      induction n with
      | zero => intro l h; cases h; rfl
      | succ n ih =>
        intro l h
        obtain ⟨a, b, rfl, h1, h2⟩ := hasAll_split (ts := Tr.vS) (ss := manyS n) h
        rw [List.length_append, len4 h1, ih b h2]; omega
    exact this n l hl
  have hm := slice_start (C := Tr.C5 Tryz.prog X) w (pre := l0) (cap := cap) (nv := Nat.add 4 (Nat.mul 4 n)) hl hh hc hs (by rw [List.length_append, len4 h0, hlen]; rfl)
    (appL [] (Tr.trues (Tr.valueFacts 0))) (trues_app fun e he => value_facts (Y := X5) X5_ok w (pre := []) (ws := l0) (post := l) (by simp) rfl h0 g0 e he)
  rw [len4 h0] at hm
  refine tree_calls C5_ok h hm (xs := [.slice (some a) n cap, .agg l0.toArray]) ?_
  have e0 : cellsDen ⟨(Tr.C5 Tryz.prog X).X, [a.block], l0 ++ l, [cap], fun i => if i = 0 then a.off else 0⟩ (varsFrom 0 Tr.vS) = some l0 := by
    have := varsFrom_den (X := (Tr.C5 Tryz.prog X).X) (σ := [a.block]) (ns := [cap]) (β := fun i => if i = 0 then a.off else 0) h0 [] l
    rwa [List.nil_append] at this
  simp only [Tr.makeArgs, avsDen, aggA_den e0, argsA_den hs hn, Option.bind_some, Option.map_some]

end Go.Proofs.YtlfhlipdjjhldaaGreatDoor
