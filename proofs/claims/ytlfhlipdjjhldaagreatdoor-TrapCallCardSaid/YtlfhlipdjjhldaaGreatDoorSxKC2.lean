/- TrapCall: its runs with 9 to 17 arguments, by the kernel. Conditions: none. -/
import Derived.Test.YtlfhlipdjjhldaaGreatDoorSxLeaf
import Derived.Test.YtlfhlipdjjhldaaGreatDoorSxZ
namespace Go.Proofs.YtlfhlipdjjhldaaGreatDoor
open Go Go.SX Go.RowKit
set_option maxRecDepth 1000000
theorem call_9 : Tree.isTrue (runFZ (Tr.C5 Tryz.prog X) 1000000 16 (Tr.callArgs 9) (Tr.callSt 9 [])) = true := by kernel_rfl
theorem call_10 : Tree.isTrue (runFZ (Tr.C5 Tryz.prog X) 1000000 16 (Tr.callArgs 10) (Tr.callSt 10 [])) = true := by kernel_rfl
theorem call_11 : Tree.isTrue (runFZ (Tr.C5 Tryz.prog X) 1000000 16 (Tr.callArgs 11) (Tr.callSt 11 [])) = true := by kernel_rfl
theorem call_12 : Tree.isTrue (runFZ (Tr.C5 Tryz.prog X) 1000000 16 (Tr.callArgs 12) (Tr.callSt 12 [])) = true := by kernel_rfl
theorem call_13 : Tree.isTrue (runFZ (Tr.C5 Tryz.prog X) 1000000 16 (Tr.callArgs 13) (Tr.callSt 13 [])) = true := by kernel_rfl
theorem call_14 : Tree.isTrue (runFZ (Tr.C5 Tryz.prog X) 1000000 16 (Tr.callArgs 14) (Tr.callSt 14 [])) = true := by kernel_rfl
theorem call_15 : Tree.isTrue (runFZ (Tr.C5 Tryz.prog X) 1000000 16 (Tr.callArgs 15) (Tr.callSt 15 [])) = true := by kernel_rfl
theorem call_16 : Tree.isTrue (runFZ (Tr.C5 Tryz.prog X) 1000000 16 (Tr.callArgs 16) (Tr.callSt 16 [])) = true := by kernel_rfl
theorem call_17 : Tree.isTrue (runFZ (Tr.C5 Tryz.prog X) 1000000 16 (Tr.callArgs 17) (Tr.callSt 17 [])) = true := by kernel_rfl
end Go.Proofs.YtlfhlipdjjhldaaGreatDoor
