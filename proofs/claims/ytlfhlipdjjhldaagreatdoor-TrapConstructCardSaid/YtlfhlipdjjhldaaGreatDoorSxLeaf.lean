/- The functions that the Trap laws take as expressions are what their expressions say. Conditions: none. -/
import Derived.Test.YtlfhlipdjjhldaaGreatDoorSxY
import Derived.Test.YtlfhlipdjjhldaaGreatDoorSxFun
import Derived.Test.YtlfhlipdjjhldaaGreatDoorSxTr
namespace Go.Proofs.YtlfhlipdjjhldaaGreatDoor
open Go Go.SX Go.RowKit

/-- Contracts that hand back nothing new. -/
def R0 : Nat → List Value → List Value → Prop := fun _ _ outs => outs = []

theorem base_ok {R : Nat → List Value → List Value → Prop} {fns : List PFn} {cts : List (Nat × Con)} (hF : ∀ F ∈ fns, FnOk Tryz.prog F) (apart : ∀ F ∈ fns, Tr.ext F.f = none) (hR : ∀ F ∈ fns, ∀ xs, R F.f xs [])
    (hc : ∀ c ∈ cts, CtOk Tryz.prog R c.1 c.2) : CfgOk (Tr.base Tryz.prog X fns cts) R :=
  cfgOk_with (X := X) (fns := fns) (cts := cts) rfl rfl (eq_ok rfl rfl) mixedOrders (fun _ _ h _ => name_ok h) (ext_ok (C := Tr.base Tryz.prog X [] []) rfl rfl rfl) apart hF hR hc

theorem fnOf_ok {C : Cfg} (hC : CfgOk C R0) {f : Nat} {ps : List (Bool × List Srt)} {s : Srt} (hb : ∃ fn, C.P.funcs[f]? = some fn ∧ fn.body.isNone = false) (h : (toE s (Tr.treeOf C f ps)).isSome = true) : FnOk C.P (Tr.fnOf C f ps s) := by
  obtain ⟨e, he⟩ := Option.isSome_iff_exists.1 h
  refine fnOk_of_tree (R := R0) (F := Tr.fnOf C f ps s) (e := e) (n := 1000000) hC (fun _ _ _ h => h) hb he fun us => ?_
  simp only [Tr.fnOf, he]

theorem nil_ok {p : PFn → Prop} : ∀ F ∈ ([] : List PFn), p F := fun _ h => by cases h
theorem cons_ok {p : PFn → Prop} {G : PFn} {l : List PFn} (h : p G) (hl : ∀ F ∈ l, p F) : ∀ F ∈ G :: l, p F := fun F hF => by
  rcases List.mem_cons.1 hF with rfl | hF
  · exact h
  · exact hl F hF
theorem nil_ct {p : Nat × Con → Prop} : ∀ c ∈ ([] : List (Nat × Con)), p c := fun _ h => by cases h

set_option maxRecDepth 1000000

theorem C0_ok : CfgOk (Tr.C0 Tryz.prog X) R0 := base_ok nil_ok nil_ok nil_ok nil_ct
theorem ok60 : FnOk Tryz.prog (Tr.f60 Tryz.prog X) := fnOf_ok C0_ok ⟨_, Tryz.func60, rfl⟩ (by kernel_rfl)
theorem ok37 : FnOk Tryz.prog (Tr.f37 Tryz.prog X) := fnOf_ok C0_ok ⟨_, Tryz.func37, rfl⟩ (by kernel_rfl)
theorem C1_ok : CfgOk (Tr.C1 Tryz.prog X) R0 := base_ok (cons_ok ok60 nil_ok) (cons_ok rfl nil_ok) (cons_ok (fun _ => rfl) nil_ok) nil_ct
theorem ok33 : FnOk Tryz.prog (Tr.f33 Tryz.prog X) := fnOf_ok C1_ok ⟨_, Tryz.func33, rfl⟩ (by kernel_rfl)
theorem ok51 : FnOk Tryz.prog (Tr.f51 Tryz.prog X) := fnOf_ok C0_ok ⟨_, Tryz.func51, rfl⟩ (by kernel_rfl)
theorem ok35 : FnOk Tryz.prog (Tr.f35 Tryz.prog X) := fnOf_ok C0_ok ⟨_, Tryz.func35, rfl⟩ (by kernel_rfl)
theorem ok30 : FnOk Tryz.prog (Tr.f30 Tryz.prog X) := fnOf_ok C1_ok ⟨_, Tryz.func30, rfl⟩ (by kernel_rfl)
theorem C2_ok : CfgOk (Tr.C2 Tryz.prog X) R0 := base_ok (cons_ok ok30 (cons_ok ok60 nil_ok)) (cons_ok rfl (cons_ok rfl nil_ok)) (cons_ok (fun _ => rfl) (cons_ok (fun _ => rfl) nil_ok)) nil_ct
theorem ok64 : FnOk Tryz.prog (Tr.f64 Tryz.prog X) := fnOf_ok C2_ok ⟨_, Tryz.func64, rfl⟩ (by kernel_rfl)
end Go.Proofs.YtlfhlipdjjhldaaGreatDoor
