/- TrapCall: its runs with 18 to 26 arguments, by the kernel. Conditions: none. -/
import Derived.Test.YtlfhlipdjjhldaaGreatDoorSxLeaf
import Derived.Test.YtlfhlipdjjhldaaGreatDoorSxZ
namespace Go.Proofs.YtlfhlipdjjhldaaGreatDoor
open Go Go.SX Go.RowKit
set_option maxRecDepth 1000000
theorem call_18 : Tree.isTrue (runFZ (Tr.C5 Tryz.prog X) 1000000 16 (Tr.callArgs 18) (Tr.callSt 18 [])) = true := by kernel_rfl
theorem call_19 : Tree.isTrue (runFZ (Tr.C5 Tryz.prog X) 1000000 16 (Tr.callArgs 19) (Tr.callSt 19 [])) = true := by kernel_rfl
theorem call_20 : Tree.isTrue (runFZ (Tr.C5 Tryz.prog X) 1000000 16 (Tr.callArgs 20) (Tr.callSt 20 [])) = true := by kernel_rfl
theorem call_21 : Tree.isTrue (runFZ (Tr.C5 Tryz.prog X) 1000000 16 (Tr.callArgs 21) (Tr.callSt 21 [])) = true := by kernel_rfl
theorem call_22 : Tree.isTrue (runFZ (Tr.C5 Tryz.prog X) 1000000 16 (Tr.callArgs 22) (Tr.callSt 22 [])) = true := by kernel_rfl
theorem call_23 : Tree.isTrue (runFZ (Tr.C5 Tryz.prog X) 1000000 16 (Tr.callArgs 23) (Tr.callSt 23 [])) = true := by kernel_rfl
theorem call_24 : Tree.isTrue (runFZ (Tr.C5 Tryz.prog X) 1000000 16 (Tr.callArgs 24) (Tr.callSt 24 [])) = true := by kernel_rfl
theorem call_25 : Tree.isTrue (runFZ (Tr.C5 Tryz.prog X) 1000000 16 (Tr.callArgs 25) (Tr.callSt 25 [])) = true := by kernel_rfl
theorem call_26 : Tree.isTrue (runFZ (Tr.C5 Tryz.prog X) 1000000 16 (Tr.callArgs 26) (Tr.callSt 26 [])) = true := by kernel_rfl
end Go.Proofs.YtlfhlipdjjhldaaGreatDoor
