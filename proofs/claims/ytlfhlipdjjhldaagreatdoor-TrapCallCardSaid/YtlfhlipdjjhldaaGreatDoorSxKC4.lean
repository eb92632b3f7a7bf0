/- TrapCall: its runs with 27 to 34 arguments, by the kernel. Conditions: none. -/
import Derived.Test.YtlfhlipdjjhldaaGreatDoorSxLeaf
import Derived.Test.YtlfhlipdjjhldaaGreatDoorSxZ
namespace Go.Proofs.YtlfhlipdjjhldaaGreatDoor
open Go Go.SX Go.RowKit
set_option maxRecDepth 1000000
theorem call_27 : Tree.isTrue (runFZ (Tr.C5 Tryz.prog X) 1000000 16 (Tr.callArgs 27) (Tr.callSt 27 [])) = true := by kernel_rfl
theorem call_28 : Tree.isTrue (runFZ (Tr.C5 Tryz.prog X) 1000000 16 (Tr.callArgs 28) (Tr.callSt 28 [])) = true := by kernel_rfl
theorem call_29 : Tree.isTrue (runFZ (Tr.C5 Tryz.prog X) 1000000 16 (Tr.callArgs 29) (Tr.callSt 29 [])) = true := by kernel_rfl
theorem call_30 : Tree.isTrue (runFZ (Tr.C5 Tryz.prog X) 1000000 16 (Tr.callArgs 30) (Tr.callSt 30 [])) = true := by kernel_rfl
theorem call_31 : Tree.isTrue (runFZ (Tr.C5 Tryz.prog X) 1000000 16 (Tr.callArgs 31) (Tr.callSt 31 [])) = true := by kernel_rfl
theorem call_32 : Tree.isTrue (runFZ (Tr.C5 Tryz.prog X) 1000000 16 (Tr.callArgs 32) (Tr.callSt 32 [])) = true := by kernel_rfl
theorem call_33 : Tree.isTrue (runFZ (Tr.C5 Tryz.prog X) 1000000 16 (Tr.callArgs 33) (Tr.callSt 33 [])) = true := by kernel_rfl
theorem call_34 : Tree.isTrue (runFZ (Tr.C5 Tryz.prog X) 1000000 16 (Tr.callArgs 34) (Tr.callSt 34 [])) = true := by kernel_rfl
end Go.Proofs.YtlfhlipdjjhldaaGreatDoor
