/- What the Trap laws' tied cards have in common: arguments opened, read again behind the call. Conditions: none. -/
import Derived.Test.YtlfhlipdjjhldaaGreatDoorSxLaw
import Derived.Test.YtlfhlipdjjhldaaGreatDoorRows
import Derived.Test.YtlfhlipdjjhldaaGreatDoorTie
import Derived.Test.YtlfhlipdjjhldaaGreatDoorCards
import Derived.ProofKit
import Derived.LaidLaws
import Derived.LaidHandle
import Derived.Lay
import Derived.MakeChecks
import Derived.SevenTiedAt
import Derived.Carry
import Derived.OpenShut
namespace Go.Proofs.YtlfhlipdjjhldaaGreatDoor
open Go Go.SX Go.RowKit Go.ChangeShapes Go.WideShapes

set_option maxRecDepth 100000

theorem own : ownKnob Tryz.prog.godebug = none := by kernel_rfl
theorem outLaid : laidOutB Tryz.prog = true := by kernel_rfl

/-- Values of all zeros: the witnesses'. -/
noncomputable def zero24 : Value := .agg #[.int .u8 0, .float .f64 0, .string ⟨#[]⟩, .int .i64 0]
noncomputable def zero32 : Value := .agg #[.string ⟨#[]⟩, .int .i64 0]
noncomputable def zero26 : Value := .agg #[.int .u8 0, .int .u8 0, .float .f64 0, .string ⟨#[]⟩, .int .i64 0, .int .u8 0, .float .f64 0, .string ⟨#[]⟩, .int .i64 0, .int .u8 0, .float .f64 0, .string ⟨#[]⟩, .int .i64 0, .bool false, .bool false, .bool false]

theorem cells24 : Tryz.prog.cellTypes Tryz.prog.depth 24 = some [5, 22, 9, 3] := by kernel_rfl
theorem cells32 : Tryz.prog.cellTypes Tryz.prog.depth 32 = some [9, 3] := by kernel_rfl
theorem cells26 : Tryz.prog.cellTypes Tryz.prog.depth 26 = some [5, 5, 22, 9, 3, 5, 22, 9, 3, 5, 22, 9, 3, 4, 4, 4] := by kernel_rfl

section
variable {w : World} {r : Reach} {base : Nat} {v : Value}

theorem cell_good {P : Program} {t : TypeId} {v : Value} (h : Cell.okWide P w r base t v) : Good v := by
  rintro n rfl
  unfold Cell.okWide at h
  split at h
  all_goals first | (rename_i heq; cases heq; done) | skip
  all_goals first | (rename_i heq _; cases heq; done) | skip
  all_goals first | (rename_i heq1 heq2; cases heq2; done) | skip
  unfold Cell.ok at h
  split at h
  all_goals first | (rename_i heq1 heq2; cases heq2; done) | skip
  all_goals first | (cases h; done) | skip
  rename_i k k' n' heq1 heq2
  cases heq2
  obtain ⟨rfl, hk⟩ := h
  simp [IntKind.has, IntKind.min, IntKind.max, IntKind.signed, IntKind.bits] at hk
  exact hk

theorem fits_struct' {P : Program} {t : TypeId} {fs : Array Field} {ts : List TypeId} {ss : List Srt} {v : Value} (ht : P.underlying t = some (.struct fs)) (hts : P.cellTypes P.depth t = some ts) (hn : P.cellsOf t = ts.length)
    (hss : typesAre P ts ss = true) (h : Value.okWide P w r base t v) : ∃ l, Fits (true, ss) v l ∧ ∀ x ∈ l, Good x := by
  obtain ⟨l, hl⟩ := fits_struct ht hts hn hss h
  refine ⟨l, hl, ?_⟩
  simp only [Value.okWide, ht] at h
  obtain ⟨cs, rfl, hsz, ts', h1, _, h3⟩ := h
  obtain ⟨l', rfl⟩ : ∃ l' : List Value, cs = l'.toArray := ⟨cs.toList, by simp⟩
  have : l = l' := by
    have aux : ∀ {p : Bool × List Srt} {v : Value}, Fits p v l → p.1 = true → v = .agg l.toArray := by
      intro p v hf hp
      cases hf with
      | agg _ => rfl
      | one _ => cases hp
    have e := aux hl rfl
    simpa using e.symm
  subst this
  intro x hx
  obtain ⟨i, hi⟩ := List.mem_iff_getElem?.1 hx
  obtain ⟨u, _, hok⟩ := h3 i x (by simpa using hi)
  exact cell_good hok

theorem fits24 (h : Value.okWide Tryz.prog w r base 24 v) : ∃ l, Fits Tr.valP v l ∧ ∀ x ∈ l, Good x := fits_struct' Tryz.underlying24 cells24 (by kernel_rfl) (by kernel_rfl) h
theorem fits32 (h : Value.okWide Tryz.prog w r base 32 v) : ∃ l, Fits Tr.keyP v l ∧ ∀ x ∈ l, Good x := fits_struct' Tryz.underlying32 cells32 (by kernel_rfl) (by kernel_rfl) h
theorem fits26 (h : Value.okWide Tryz.prog w r base 26 v) : ∃ l, Fits Tr.descP v l ∧ ∀ x ∈ l, Good x := fits_struct' Tryz.underlying26 cells26 (by kernel_rfl) (by kernel_rfl) h
theorem fits4 (h : Value.okWide Tryz.prog w r base 4 v) : ∃ l, Fits Tr.boolP v l ∧ ∀ x ∈ l, Good x := by
  obtain ⟨b, rfl⟩ := WideShapes.okWide_bool Tryz.underlying4 h
  refine ⟨[.bool b], .one rfl, ?_⟩
  intro x hx
  rw [List.mem_singleton.1 hx]
  intro n e
  cases e

theorem good_nil : ∀ x ∈ ([] : List Value), Good x := fun _ h => by cases h
theorem good_app {a b : List Value} (ha : ∀ x ∈ a, Good x) (hb : ∀ x ∈ b, Good x) : ∀ x ∈ a ++ b, Good x := fun x hx => by
  rcases List.mem_append.1 hx with h | h
  · exact ha x h
  · exact hb x h

end

section
variable {H : Type} {enc : TypeId × Value → H} {P : Program} {w : World} {base : Nat} {spare : Nat → Bool} {held : Bool}

theorem trodAll_five {t0 t1 t2 t3 t4 : TypeId} {args : Array Value} {ds : List (DataW H)} {ps : List MemPlace} (h : DataW.TrodAll enc P w base spare held [t0, t1, t2, t3, t4] args.toList ds ps) :
    ∃ v0 v1 v2 v3 v4 d0 d1 d2 d3 d4, args = #[v0, v1, v2, v3, v4] ∧ ds = [d0, d1, d2, d3, d4] := by
  obtain ⟨v0, s0, d0, e0, p0, q0, h0, rfl, rfl, _, r0⟩ := trodAll_cons h
  obtain ⟨v1, s1, d1, e1, p1, q1, rfl, rfl, rfl, _, r1⟩ := trodAll_cons r0
  obtain ⟨v2, s2, d2, e2, p2, q2, rfl, rfl, rfl, _, r2⟩ := trodAll_cons r1
  obtain ⟨v3, s3, d3, e3, p3, q3, rfl, rfl, rfl, _, r3⟩ := trodAll_cons r2
  obtain ⟨v4, s4, d4, e4, p4, q4, rfl, rfl, rfl, _, r4⟩ := trodAll_cons r3
  obtain ⟨rfl, rfl, rfl⟩ := trodAll_nil r4
  exact ⟨v0, v1, v2, v3, v4, d0, d1, d2, d3, d4, by cases args; simp_all, rfl⟩

theorem trodAll_six {t0 t1 t2 t3 t4 t5 : TypeId} {args : Array Value} {ds : List (DataW H)} {ps : List MemPlace} (h : DataW.TrodAll enc P w base spare held [t0, t1, t2, t3, t4, t5] args.toList ds ps) :
    ∃ v0 v1 v2 v3 v4 v5 d0 d1 d2 d3 d4 d5, args = #[v0, v1, v2, v3, v4, v5] ∧ ds = [d0, d1, d2, d3, d4, d5] := by
  obtain ⟨v0, s0, d0, e0, p0, q0, h0, rfl, rfl, _, r0⟩ := trodAll_cons h
  obtain ⟨v1, s1, d1, e1, p1, q1, rfl, rfl, rfl, _, r1⟩ := trodAll_cons r0
  obtain ⟨v2, s2, d2, e2, p2, q2, rfl, rfl, rfl, _, r2⟩ := trodAll_cons r1
  obtain ⟨v3, s3, d3, e3, p3, q3, rfl, rfl, rfl, _, r3⟩ := trodAll_cons r2
  obtain ⟨v4, s4, d4, e4, p4, q4, rfl, rfl, rfl, _, r4⟩ := trodAll_cons r3
  obtain ⟨v5, s5, d5, e5, p5, q5, rfl, rfl, rfl, _, r5⟩ := trodAll_cons r4
  obtain ⟨rfl, rfl, rfl⟩ := trodAll_nil r5
  exact ⟨v0, v1, v2, v3, v4, v5, d0, d1, d2, d3, d4, d5, by cases args; simp_all, rfl⟩

theorem trodAll_2 {t0 t1 : TypeId} {args : Array Value} {ds : List (DataW H)} {ps : List MemPlace} (h : DataW.TrodAll enc P w base spare held [t0, t1] args.toList ds ps) : ∃ v0 v1 d0 d1, args = #[v0, v1] ∧ ds = [d0, d1] := by
  obtain ⟨v0, v1, d0, d1, _, _, h1, h2, _⟩ := trodAll_two h
  exact ⟨v0, v1, d0, d1, h1, h2⟩

theorem trodAll_3 {t0 t1 t2 : TypeId} {args : Array Value} {ds : List (DataW H)} {ps : List MemPlace} (h : DataW.TrodAll enc P w base spare held [t0, t1, t2] args.toList ds ps) : ∃ v0 v1 v2 d0 d1 d2, args = #[v0, v1, v2] ∧ ds = [d0, d1, d2] := by
  obtain ⟨v0, v1, v2, d0, d1, d2, _, _, _, h1, h2, _⟩ := trodAll_three h
  exact ⟨v0, v1, v2, d0, d1, d2, h1, h2⟩

theorem trodAll_4 {t0 t1 t2 t3 : TypeId} {args : Array Value} {ds : List (DataW H)} {ps : List MemPlace} (h : DataW.TrodAll enc P w base spare held [t0, t1, t2, t3] args.toList ds ps) : ∃ v0 v1 v2 v3 d0 d1 d2 d3, args = #[v0, v1, v2, v3] ∧ ds = [d0, d1, d2, d3] := by
  obtain ⟨v0, s0, d0, e0, p0, q0, h0, rfl, rfl, _, r0⟩ := trodAll_cons h
  obtain ⟨v1, s1, d1, e1, p1, q1, rfl, rfl, rfl, _, r1⟩ := trodAll_cons r0
  obtain ⟨v2, s2, d2, e2, p2, q2, rfl, rfl, rfl, _, r2⟩ := trodAll_cons r1
  obtain ⟨v3, s3, d3, e3, p3, q3, rfl, rfl, rfl, _, r3⟩ := trodAll_cons r2
  obtain ⟨rfl, rfl, rfl⟩ := trodAll_nil r3
  exact ⟨v0, v1, v2, v3, d0, d1, d2, d3, by cases args; simp_all, rfl⟩

/-- The types of the laws' arguments can be read. -/
def readable (P : Program) (t : TypeId) : Bool := P.readableRec t && decide (t < P.types.size)

theorem below_trodAll (hl : laidOutB P = true) {W W' : World} (hb : Below W.heap.size W W') : ∀ {ts : List TypeId} {vs : List Value} {ds : List (DataW H)} {ps : List MemPlace}, ts.all (readable P) = true →
    DataW.TrodAll enc P W 0 (fun _ => true) true ts vs ds ps → (∀ x ∈ ps, x.block < W.heap.size) → DataW.TrodAll enc P W' 0 (fun b => decide (b < W.heap.size)) true ts vs ds ps := by
  intro ts
  induction ts with
  | nil =>
    intro vs ds ps _ h _
    obtain ⟨rfl, rfl, rfl⟩ := trodAll_nil h
    exact trodAll_mk0
  | cons t ts ih =>
    intro vs ds ps hr h hlt
    obtain ⟨v, vs', d, ds', p, q, rfl, rfl, rfl, h1, h2⟩ := trodAll_cons h
    simp only [List.all_cons, Bool.and_eq_true] at hr
    have hr1 := hr.1
    simp only [readable, Bool.and_eq_true, decide_eq_true_eq] at hr1
    exact trodAll_cons_mk (Below.trod hl hr1.1 hr1.2 h1 hb (fun x hx => hlt x (List.mem_append_left _ hx))) (ih hr.2 h2 (fun x hx => hlt x (List.mem_append_right _ hx)))

end
theorem readable_all : [24, 4, 26, 32, 33].all (readable Tryz.prog) = true := by kernel_rfl
theorem readable_of {ts : List TypeId} (h : ts.all (fun t => [24, 4, 26, 32, 33].contains t) = true) : ts.all (readable Tryz.prog) = true := by
  rw [List.all_eq_true] at h ⊢
  intro t ht
  have h1 := h t ht
  exact List.all_eq_true.1 readable_all t (by simpa using h1)
theorem noStand24 : Tryz.prog.wantsStandIn 24 = false := by kernel_rfl
theorem noStand4 : Tryz.prog.wantsStandIn 4 = false := by kernel_rfl
theorem noStand26 : Tryz.prog.wantsStandIn 26 = false := by kernel_rfl
theorem noStand32 : Tryz.prog.wantsStandIn 32 = false := by kernel_rfl
theorem noStand33 : Tryz.prog.wantsStandIn 33 = false := by kernel_rfl
theorem noStand {ts : List TypeId} (h : ts.all (fun t => [24, 4, 26, 32, 33].contains t) = true) : ∀ t ∈ ts, Tryz.prog.wantsStandIn t = false := by
  rw [List.all_eq_true] at h
  intro t ht
  have h1 := h t ht
  have h2 : t = 24 ∨ t = 4 ∨ t = 26 ∨ t = 32 ∨ t = 33 := by simpa using h1
  rcases h2 with rfl | rfl | rfl | rfl | rfl
  · exact noStand24
  · exact noStand4
  · exact noStand26
  · exact noStand32
  · exact noStand33
end Go.Proofs.YtlfhlipdjjhldaaGreatDoor
