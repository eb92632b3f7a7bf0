/- TrapSet: its run, by the kernel. Conditions: none. -/
import Derived.Test.YtlfhlipdjjhldaaGreatDoorSxLaw
namespace Go.Proofs.YtlfhlipdjjhldaaGreatDoor
open Go Go.SX Go.RowKit
set_option maxRecDepth 1000000
theorem trapSet_tree : Tree.isTrue (Tr.law (Tr.C3 Tryz.prog X) 13 [.key, .val, .val, .bool, .desc] []) = true := by kernel_rfl
end Go.Proofs.YtlfhlipdjjhldaaGreatDoor
