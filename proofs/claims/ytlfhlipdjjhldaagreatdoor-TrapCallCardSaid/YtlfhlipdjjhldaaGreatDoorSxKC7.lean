/- TrapCall: its runs with 51 to 57 arguments, by the kernel. Conditions: none. -/
import Derived.Test.YtlfhlipdjjhldaaGreatDoorSxLeaf
import Derived.Test.YtlfhlipdjjhldaaGreatDoorSxZ
namespace Go.Proofs.YtlfhlipdjjhldaaGreatDoor
open Go Go.SX Go.RowKit
set_option maxRecDepth 1000000
theorem call_51 : Tree.isTrue (runFZ (Tr.C5 Tryz.prog X) 1000000 16 (Tr.callArgs 51) (Tr.callSt 51 [])) = true := by kernel_rfl
theorem call_52 : Tree.isTrue (runFZ (Tr.C5 Tryz.prog X) 1000000 16 (Tr.callArgs 52) (Tr.callSt 52 [])) = true := by kernel_rfl
theorem call_53 : Tree.isTrue (runFZ (Tr.C5 Tryz.prog X) 1000000 16 (Tr.callArgs 53) (Tr.callSt 53 [])) = true := by kernel_rfl
theorem call_54 : Tree.isTrue (runFZ (Tr.C5 Tryz.prog X) 1000000 16 (Tr.callArgs 54) (Tr.callSt 54 [])) = true := by kernel_rfl
theorem call_55 : Tree.isTrue (runFZ (Tr.C5 Tryz.prog X) 1000000 16 (Tr.callArgs 55) (Tr.callSt 55 [])) = true := by kernel_rfl
theorem call_56 : Tree.isTrue (runFZ (Tr.C5 Tryz.prog X) 1000000 16 (Tr.callArgs 56) (Tr.callSt 56 [])) = true := by kernel_rfl
theorem call_57 : Tree.isTrue (runFZ (Tr.C5 Tryz.prog X) 1000000 16 (Tr.callArgs 57) (Tr.callSt 57 [])) = true := by kernel_rfl
end Go.Proofs.YtlfhlipdjjhldaaGreatDoor
