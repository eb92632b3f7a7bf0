/- TrapCall: its runs with 58 to 64 arguments, by the kernel. Conditions: none. -/
import Derived.Test.YtlfhlipdjjhldaaGreatDoorSxLeaf
import Derived.Test.YtlfhlipdjjhldaaGreatDoorSxZ
namespace Go.Proofs.YtlfhlipdjjhldaaGreatDoor
open Go Go.SX Go.RowKit
set_option maxRecDepth 1000000
theorem call_58 : Tree.isTrue (runFZ (Tr.C5 Tryz.prog X) 1000000 16 (Tr.callArgs 58) (Tr.callSt 58 [])) = true := by kernel_rfl
theorem call_59 : Tree.isTrue (runFZ (Tr.C5 Tryz.prog X) 1000000 16 (Tr.callArgs 59) (Tr.callSt 59 [])) = true := by kernel_rfl
theorem call_60 : Tree.isTrue (runFZ (Tr.C5 Tryz.prog X) 1000000 16 (Tr.callArgs 60) (Tr.callSt 60 [])) = true := by kernel_rfl
theorem call_61 : Tree.isTrue (runFZ (Tr.C5 Tryz.prog X) 1000000 16 (Tr.callArgs 61) (Tr.callSt 61 [])) = true := by kernel_rfl
theorem call_62 : Tree.isTrue (runFZ (Tr.C5 Tryz.prog X) 1000000 16 (Tr.callArgs 62) (Tr.callSt 62 [])) = true := by kernel_rfl
theorem call_63 : Tree.isTrue (runFZ (Tr.C5 Tryz.prog X) 1000000 16 (Tr.callArgs 63) (Tr.callSt 63 [])) = true := by kernel_rfl
theorem call_64 : Tree.isTrue (runFZ (Tr.C5 Tryz.prog X) 1000000 16 (Tr.callArgs 64) (Tr.callSt 64 [])) = true := by kernel_rfl
end Go.Proofs.YtlfhlipdjjhldaaGreatDoor
