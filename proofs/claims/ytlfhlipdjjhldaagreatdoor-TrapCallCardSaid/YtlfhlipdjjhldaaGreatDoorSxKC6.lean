/- TrapCall: its runs with 43 to 50 arguments, by the kernel. Conditions: none. -/
import Derived.Test.YtlfhlipdjjhldaaGreatDoorSxLeaf
import Derived.Test.YtlfhlipdjjhldaaGreatDoorSxZ
namespace Go.Proofs.YtlfhlipdjjhldaaGreatDoor
open Go Go.SX Go.RowKit
set_option maxRecDepth 1000000
theorem call_43 : Tree.isTrue (runFZ (Tr.C5 Tryz.prog X) 1000000 16 (Tr.callArgs 43) (Tr.callSt 43 [])) = true := by kernel_rfl
theorem call_44 : Tree.isTrue (runFZ (Tr.C5 Tryz.prog X) 1000000 16 (Tr.callArgs 44) (Tr.callSt 44 [])) = true := by kernel_rfl
theorem call_45 : Tree.isTrue (runFZ (Tr.C5 Tryz.prog X) 1000000 16 (Tr.callArgs 45) (Tr.callSt 45 [])) = true := by kernel_rfl
theorem call_46 : Tree.isTrue (runFZ (Tr.C5 Tryz.prog X) 1000000 16 (Tr.callArgs 46) (Tr.callSt 46 [])) = true := by kernel_rfl
theorem call_47 : Tree.isTrue (runFZ (Tr.C5 Tryz.prog X) 1000000 16 (Tr.callArgs 47) (Tr.callSt 47 [])) = true := by kernel_rfl
theorem call_48 : Tree.isTrue (runFZ (Tr.C5 Tryz.prog X) 1000000 16 (Tr.callArgs 48) (Tr.callSt 48 [])) = true := by kernel_rfl
theorem call_49 : Tree.isTrue (runFZ (Tr.C5 Tryz.prog X) 1000000 16 (Tr.callArgs 49) (Tr.callSt 49 [])) = true := by kernel_rfl
theorem call_50 : Tree.isTrue (runFZ (Tr.C5 Tryz.prog X) 1000000 16 (Tr.callArgs 50) (Tr.callSt 50 [])) = true := by kernel_rfl
end Go.Proofs.YtlfhlipdjjhldaaGreatDoor
