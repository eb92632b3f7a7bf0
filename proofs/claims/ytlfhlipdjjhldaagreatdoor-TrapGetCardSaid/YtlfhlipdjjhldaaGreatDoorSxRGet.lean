/- TrapGet: its run, by the kernel. Conditions: none. -/
import Derived.Test.YtlfhlipdjjhldaaGreatDoorSxLaw
namespace Go.Proofs.YtlfhlipdjjhldaaGreatDoor
open Go Go.SX Go.RowKit
set_option maxRecDepth 1000000
theorem trapGet_tree : Tree.isTrue (Tr.law (Tr.C3 Tryz.prog X) 12 [.key, .val, .bool, .desc, .val] []) = true := by kernel_rfl
end Go.Proofs.YtlfhlipdjjhldaaGreatDoor
