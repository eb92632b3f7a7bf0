/- TrapDelete: its run, by the kernel. Conditions: none. -/
import Derived.Test.YtlfhlipdjjhldaaGreatDoorSxLaw
namespace Go.Proofs.YtlfhlipdjjhldaaGreatDoor
open Go Go.SX Go.RowKit
set_option maxRecDepth 1000000
theorem trapDelete_tree : Tree.isTrue (Tr.law (Tr.C3 Tryz.prog X) 14 [.key, .val, .bool, .bool, .desc] []) = true := by kernel_rfl
end Go.Proofs.YtlfhlipdjjhldaaGreatDoor
