/- TrapNames: its run, by the kernel. Conditions: none. -/
import Derived.Test.YtlfhlipdjjhldaaGreatDoorSxY
namespace Go.Proofs.YtlfhlipdjjhldaaGreatDoor
open Go Go.SX Go.RowKit
set_option maxRecDepth 1000000
theorem names_tree : Tree.isTrue (runF cfg 1000000 3 [] (St.start .e 0 0 0 [])) = true := by kernel_rfl
theorem names_calls (w : World) : Calls Tryz.prog 3 #[] w fun e w' => e = .returned (.bool true) ∧ Below w.heap.size w w' := calls_true cfg_ok names_tree w
#print axioms names_calls
end Go.Proofs.YtlfhlipdjjhldaaGreatDoor
