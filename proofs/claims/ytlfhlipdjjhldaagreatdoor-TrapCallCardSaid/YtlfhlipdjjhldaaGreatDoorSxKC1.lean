/- TrapCall: its runs with 0 to 8 arguments, by the kernel. Conditions: none. -/
import Derived.Test.YtlfhlipdjjhldaaGreatDoorSxLeaf
import Derived.Test.YtlfhlipdjjhldaaGreatDoorSxZ
namespace Go.Proofs.YtlfhlipdjjhldaaGreatDoor
open Go Go.SX Go.RowKit
set_option maxRecDepth 1000000
theorem call_0 : Tree.isTrue (runFZ (Tr.C5 Tryz.prog X) 1000000 16 (Tr.callArgs 0) (Tr.callSt 0 [])) = true := by kernel_rfl
theorem call_1 : Tree.isTrue (runFZ (Tr.C5 Tryz.prog X) 1000000 16 (Tr.callArgs 1) (Tr.callSt 1 [])) = true := by kernel_rfl
theorem call_2 : Tree.isTrue (runFZ (Tr.C5 Tryz.prog X) 1000000 16 (Tr.callArgs 2) (Tr.callSt 2 [])) = true := by kernel_rfl
theorem call_3 : Tree.isTrue (runFZ (Tr.C5 Tryz.prog X) 1000000 16 (Tr.callArgs 3) (Tr.callSt 3 [])) = true := by kernel_rfl
theorem call_4 : Tree.isTrue (runFZ (Tr.C5 Tryz.prog X) 1000000 16 (Tr.callArgs 4) (Tr.callSt 4 [])) = true := by kernel_rfl
theorem call_5 : Tree.isTrue (runFZ (Tr.C5 Tryz.prog X) 1000000 16 (Tr.callArgs 5) (Tr.callSt 5 [])) = true := by kernel_rfl
theorem call_6 : Tree.isTrue (runFZ (Tr.C5 Tryz.prog X) 1000000 16 (Tr.callArgs 6) (Tr.callSt 6 [])) = true := by kernel_rfl
theorem call_7 : Tree.isTrue (runFZ (Tr.C5 Tryz.prog X) 1000000 16 (Tr.callArgs 7) (Tr.callSt 7 [])) = true := by kernel_rfl
theorem call_8 : Tree.isTrue (runFZ (Tr.C5 Tryz.prog X) 1000000 16 (Tr.callArgs 8) (Tr.callSt 8 [])) = true := by kernel_rfl
end Go.Proofs.YtlfhlipdjjhldaaGreatDoor
