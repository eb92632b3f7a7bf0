/- desc.Check as an expression. Conditions: none. -/
import Derived.Test.YtlfhlipdjjhldaaGreatDoorSxLeaf
namespace Go.Proofs.YtlfhlipdjjhldaaGreatDoor
open Go Go.SX Go.RowKit
set_option maxRecDepth 1000000
theorem C2'_ok : CfgOk (Tr.C2' Tryz.prog X) R0 := base_ok (cons_ok ok30 (cons_ok ok64 (cons_ok ok60 nil_ok))) (cons_ok rfl (cons_ok rfl (cons_ok rfl nil_ok))) (cons_ok (fun _ => rfl) (cons_ok (fun _ => rfl) (cons_ok (fun _ => rfl) nil_ok))) nil_ct
theorem ok38 : FnOk Tryz.prog (Tr.f38 Tryz.prog X) := fnOf_ok C2'_ok ⟨_, Tryz.func38, rfl⟩ (by kernel_rfl)
theorem C2s_ok : CfgOk (Tr.C2s Tryz.prog X) R0 := base_ok (cons_ok ok33 (cons_ok ok60 nil_ok)) (cons_ok rfl (cons_ok rfl nil_ok)) (cons_ok (fun _ => rfl) (cons_ok (fun _ => rfl) nil_ok)) nil_ct
theorem ok67 : FnOk Tryz.prog (Tr.f67 Tryz.prog X) := fnOf_ok C2s_ok ⟨_, Tryz.func67, rfl⟩ (by kernel_rfl)

end Go.Proofs.YtlfhlipdjjhldaaGreatDoor
