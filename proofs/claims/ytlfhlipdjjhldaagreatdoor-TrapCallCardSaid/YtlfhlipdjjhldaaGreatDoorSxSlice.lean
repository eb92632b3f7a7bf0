/- An argument that is a slice of values, opened to cells. After the kit's howto page on structs, section 1. Conditions: none. -/
import Derived.Test.YtlfhlipdjjhldaaGreatDoorSxCard
import Derived.Deep.Slices
import Derived.Deep.Fields
import Derived.ChangeSame
namespace Go.Proofs.YtlfhlipdjjhldaaGreatDoor
open Go Go.SX Go.RowKit Go.ChangeShapes Go.WideShapes Go.Deep

set_option maxRecDepth 100000

section
variable {H : Type} {enc : TypeId × Value → H} {P : Program} {w : World} {base : Nat} {spare : Nat → Bool} {held : Bool}

theorem trod_float {t : TypeId} {k : FloatKind} {fuel : Nat} {cs : List Value} {x : DataW H × List MemPlace} (ht : P.underlying t = some (.float k)) (h : DataW.trod enc P w base spare held fuel t cs = some x) : ∃ b, cs = [.float k b] := by
  cases fuel with
  | zero => simp [DataW.trod] at h
  | succ n =>
    unfold DataW.trod at h
    rw [ht] at h
    split at h <;> simp_all

/-- The cells of one value. -/
theorem value_cells {t0 t1 t2 t3 : TypeId} (h0 : P.underlying t0 = some (.int .u8)) (h1 : P.underlying t1 = some (.float .f64)) (h2 : P.underlying t2 = some .string) (h3 : P.underlying t3 = some (.int .i64)) {n0 n1 n2 n3 : Nat} {c0 c1 c2 c3 : Value}
    {y0 y1 y2 y3 : DataW H × List MemPlace} (k0 : DataW.trod enc P w base spare held n0 t0 [c0] = some y0) (k1 : DataW.trod enc P w base spare held n1 t1 [c1] = some y1) (k2 : DataW.trod enc P w base spare held n2 t2 [c2] = some y2)
    (k3 : DataW.trod enc P w base spare held n3 t3 [c3] = some y3) : HasAll Tr.vS [c0, c1, c2, c3] ∧ ∀ v ∈ [c0, c1, c2, c3], Good v := by
  obtain ⟨a, ha, _, hw⟩ := DataW.trod_int h0 k0
  obtain ⟨b, hb⟩ := trod_float h1 k1
  obtain ⟨c, hc, _, _⟩ := DataW.trod_string h2 k2
  obtain ⟨d, hd, _, _⟩ := DataW.trod_int h3 k3
  cases ha
  cases hb
  cases hc
  cases hd
  refine ⟨.cons rfl (.cons rfl (.cons rfl (.cons rfl .nil))), ?_⟩
  intro v hv n e
  subst e
  simp at hv
  subst hv
  exact bounds_u8 hw

/-- Sorts of so many values. -/
def manyS : Nat → List Srt
  | 0 => []
  | n + 1 => Tr.vS ++ manyS n

/-- So many values lie behind an address. -/
theorem gather {a : Addr} : ∀ (m : Nat) (off : Nat), (∀ i, i < m → ∃ c : List Value, HasAll Tr.vS c ∧ (∀ v ∈ c, Good v) ∧ ∀ j v, c[j]? = some v → w.cell? (a.add (off + i * 4 + j)) = some v) →
    ∃ l : List Value, HasAll (manyS m) l ∧ (∀ v ∈ l, Good v) ∧ ∀ j v, l[j]? = some v → w.cell? (a.add (off + j)) = some v := by
  intro m
  induction m with
  | zero => intro off _; exact ⟨[], .nil, fun v hv => by simp at hv, fun j v hv => by simp at hv⟩
  | succ m ih =>
    intro off h
    obtain ⟨c, h1, h2, h3⟩ := h 0 (by omega)
    obtain ⟨l, h4, h5, h6⟩ := ih (off + 4) (fun i hi => by
      obtain ⟨c, k1, k2, k3⟩ := h (i + 1) (by omega)
      refine ⟨c, k1, k2, fun j v hv => ?_⟩
      have := k3 j v hv
      rw [show off + (i + 1) * 4 + j = off + 4 + i * 4 + j by omega] at this
      exact this)
    have hc : c.length = 4 := h1.length
    refine ⟨c ++ l, ?_, ?_, ?_⟩
    · show HasAll (Tr.vS ++ manyS m) (c ++ l)
      have happ : ∀ {ss ts : List Srt} {l m : List Value}, HasAll ss l → HasAll ts m → HasAll (ss ++ ts) (l ++ m) := by
        intro ss ts l m h1 h2
        induction h1 with
        | nil => exact h2
        | cons h _ ih => exact .cons h ih
      exact happ h1 h4
    · intro v hv
      rcases List.mem_append.1 hv with hv | hv
      · exact h2 v hv
      · exact h5 v hv
    · intro j v hv
      by_cases hj : j < c.length
      · rw [List.getElem?_append_left hj] at hv
        have := h3 j v hv
        simpa using this
      · rw [List.getElem?_append_right (by omega)] at hv
        have := h6 _ v hv
        rw [show off + 4 + (j - c.length) = off + j by omega] at this
        exact this

/-- A slice of values: nothing, or so many of them behind an address. -/
theorem open_values {t e t0 t1 t2 t3 : TypeId} {f0 f1 f2 f3 : Field} {v : Value} {d : DataW H} {ps : List MemPlace} (ht : P.underlying t = some (.slice e)) (he : P.underlying e = some (.struct #[f0, f1, f2, f3])) (hC : P.cellsOf e = 4)
    (g0 : f0.type = t0 ∧ f0.offset = 0 ∧ P.cellsOf t0 = 1) (g1 : f1.type = t1 ∧ f1.offset = 1 ∧ P.cellsOf t1 = 1) (g2 : f2.type = t2 ∧ f2.offset = 2 ∧ P.cellsOf t2 = 1) (g3 : f3.type = t3 ∧ f3.offset = 3 ∧ P.cellsOf t3 = 1)
    (h0 : P.underlying t0 = some (.int .u8)) (h1 : P.underlying t1 = some (.float .f64)) (h2 : P.underlying t2 = some .string) (h3 : P.underlying t3 = some (.int .i64))
    {r : Reach} {b0 : Nat} (hv : Value.okWide P w r b0 t v) (h : DataW.Trod enc P w base spare held t v d ps) :
    v = .slice none 0 0 ∨ ∃ (a : Addr) (len cap : Nat) (l : List Value), v = .slice (some a) len cap ∧ len ≤ cap ∧ HasAll (manyS len) l ∧ (∀ v ∈ l, Good v) ∧ ∀ j v, l[j]? = some v → w.cell? (a.add j) = some v := by
  obtain ⟨aa, ln, cp, rfl⟩ := okWide_slice ht hv
  obtain ⟨fuel, h⟩ := h
  rcases open_slice ht h with ⟨hcs, _⟩ | ⟨a, len, cap, m, n, D, Pl, hcs, hb, hl, hm, hmm, hx, hi⟩
  · left
    simpa [Value.cells] using hcs
  · right
    have e1 : (.slice aa ln cp : Value) = .slice (some a) len cap := by simpa [Value.cells] using hcs
    have hlen : len ≤ m := by rw [hmm]; split <;> omega
    obtain ⟨l, k1, k2, k3⟩ := gather (w := w) (a := a) len 0 (fun i hi' => by
      obtain ⟨cs', hc, ht'⟩ := hi i (by omega)
      rw [hC] at hc
      obtain ⟨ys, n', hn', hy, hclen, hyl, hf⟩ := DataW.trod_struct he ht'
      obtain ⟨_, hcl, hat⟩ := World.cells?_some hc
      have hlen4 : cs'.length = 4 := by rw [hclen, hC]
      obtain ⟨c0, c1, c2, c3, rfl⟩ : ∃ c0 c1 c2 c3, cs' = [c0, c1, c2, c3] := by
        match cs', hlen4 with
        | [c0, c1, c2, c3], _ => exact ⟨c0, c1, c2, c3, rfl⟩
      have q0 := hf 0 f0 rfl
      have q1 := hf 1 f1 rfl
      have q2 := hf 2 f2 rfl
      have q3 := hf 3 f3 rfl
      rw [g0.1, g0.2.1, g0.2.2] at q0
      rw [g1.1, g1.2.1, g1.2.2] at q1
      rw [g2.1, g2.2.1, g2.2.2] at q2
      rw [g3.1, g3.2.1, g3.2.2] at q3
      have hy4 : ys.length = 4 := hyl
      obtain ⟨y0, y1, y2, y3, rfl⟩ : ∃ y0 y1 y2 y3, ys = [y0, y1, y2, y3] := by
        match ys, hy4 with
        | [y0, y1, y2, y3], _ => exact ⟨y0, y1, y2, y3, rfl⟩
      obtain ⟨r1, r2⟩ := value_cells h0 h1 h2 h3 (y0 := y0) (y1 := y1) (y2 := y2) (y3 := y3) q0 q1 q2 q3
      refine ⟨[c0, c1, c2, c3], r1, r2, fun j v hv => ?_⟩
      have hj : j < 4 := by
        have := (List.getElem?_eq_some_iff.1 hv).1
        simpa using this
      have := hat j hj
      rw [Nat.zero_add, ← Go.Deep.add_add, this, hv])
    refine ⟨a, len, cap, l, e1, hl, k1, k2, fun j v hv => ?_⟩
    have := k3 j v hv
    rwa [Nat.zero_add] at this

end

section
variable {H : Type} {enc : TypeId × Value → H} {w : World} {r : Reach} {b0 : Nat}

theorem trod_at0 {P : Program} {base : Nat} {spare : Nat → Bool} {held : Bool} {t0 : TypeId} {ts : List TypeId} {v0 : Value} {vs : List Value} {d0 : DataW H} {ds : List (DataW H)} {ps : List MemPlace}
    (h : DataW.TrodAll enc P w base spare held (t0 :: ts) (v0 :: vs) (d0 :: ds) ps) : ∃ q, DataW.Trod enc P w base spare held t0 v0 d0 q := by
  obtain ⟨v, s, d, e, p, q, h1, h2, _, h4, _⟩ := trodAll_cons h
  cases h1
  cases h2
  exact ⟨_, h4⟩

theorem trod_at1 {P : Program} {base : Nat} {spare : Nat → Bool} {held : Bool} {t0 t1 : TypeId} {ts : List TypeId} {v0 v1 : Value} {vs : List Value} {d0 d1 : DataW H} {ds : List (DataW H)} {ps : List MemPlace}
    (h : DataW.TrodAll enc P w base spare held (t0 :: t1 :: ts) (v0 :: v1 :: vs) (d0 :: d1 :: ds) ps) : ∃ q, DataW.Trod enc P w base spare held t1 v1 d1 q := by
  obtain ⟨v, s, d, e, p, q, h1, h2, _, _, h5⟩ := trodAll_cons h
  cases h1
  cases h2
  exact trod_at0 h5

/-- A slice of the program's values. -/
theorem open24 {base : Nat} {spare : Nat → Bool} {held : Bool} {v : Value} {d : DataW H} {ps : List MemPlace} (hv : Value.okWide Tryz.prog w r b0 33 v) (h : DataW.Trod enc Tryz.prog w base spare held 33 v d ps) :
    v = .slice none 0 0 ∨ ∃ (a : Addr) (len cap : Nat) (l : List Value), v = .slice (some a) len cap ∧ len ≤ cap ∧ HasAll (manyS len) l ∧ (∀ v ∈ l, Good v) ∧ ∀ j v, l[j]? = some v → w.cell? (a.add j) = some v :=
  open_values Tryz.underlying33 Tryz.underlying24 (by kernel_rfl) ⟨rfl, rfl, by kernel_rfl⟩ ⟨rfl, rfl, by kernel_rfl⟩ ⟨rfl, rfl, by kernel_rfl⟩ ⟨rfl, rfl, by kernel_rfl⟩
    Tryz.underlying5 Tryz.underlying22 Tryz.underlying9 Tryz.underlying3 hv h

end
end Go.Proofs.YtlfhlipdjjhldaaGreatDoor
