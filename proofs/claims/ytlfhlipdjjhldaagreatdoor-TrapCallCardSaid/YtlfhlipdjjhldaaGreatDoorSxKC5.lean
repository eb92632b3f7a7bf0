/- TrapCall: its runs with 35 to 42 arguments, by the kernel. Conditions: none. -/
import Derived.Test.YtlfhlipdjjhldaaGreatDoorSxLeaf
import Derived.Test.YtlfhlipdjjhldaaGreatDoorSxZ
namespace Go.Proofs.YtlfhlipdjjhldaaGreatDoor
open Go Go.SX Go.RowKit
set_option maxRecDepth 1000000
theorem call_35 : Tree.isTrue (runFZ (Tr.C5 Tryz.prog X) 1000000 16 (Tr.callArgs 35) (Tr.callSt 35 [])) = true := by kernel_rfl
theorem call_36 : Tree.isTrue (runFZ (Tr.C5 Tryz.prog X) 1000000 16 (Tr.callArgs 36) (Tr.callSt 36 [])) = true := by kernel_rfl
theorem call_37 : Tree.isTrue (runFZ (Tr.C5 Tryz.prog X) 1000000 16 (Tr.callArgs 37) (Tr.callSt 37 [])) = true := by kernel_rfl
theorem call_38 : Tree.isTrue (runFZ (Tr.C5 Tryz.prog X) 1000000 16 (Tr.callArgs 38) (Tr.callSt 38 [])) = true := by kernel_rfl
theorem call_39 : Tree.isTrue (runFZ (Tr.C5 Tryz.prog X) 1000000 16 (Tr.callArgs 39) (Tr.callSt 39 [])) = true := by kernel_rfl
theorem call_40 : Tree.isTrue (runFZ (Tr.C5 Tryz.prog X) 1000000 16 (Tr.callArgs 40) (Tr.callSt 40 [])) = true := by kernel_rfl
theorem call_41 : Tree.isTrue (runFZ (Tr.C5 Tryz.prog X) 1000000 16 (Tr.callArgs 41) (Tr.callSt 41 [])) = true := by kernel_rfl
theorem call_42 : Tree.isTrue (runFZ (Tr.C5 Tryz.prog X) 1000000 16 (Tr.callArgs 42) (Tr.callSt 42 [])) = true := by kernel_rfl
end Go.Proofs.YtlfhlipdjjhldaaGreatDoor
