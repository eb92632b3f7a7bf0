/- TrapConstruct: its runs with 27 to 34 arguments, by the kernel. Conditions: none. -/
import Derived.Test.YtlfhlipdjjhldaaGreatDoorSxLeaf
import Derived.Test.YtlfhlipdjjhldaaGreatDoorSxZ
namespace Go.Proofs.YtlfhlipdjjhldaaGreatDoor
open Go Go.SX Go.RowKit
set_option maxRecDepth 1000000
theorem make_27 : Tree.isTrue (runFZ (Tr.C5 Tryz.prog X) 1000000 17 (Tr.makeArgs 27) (Tr.makeSt 27 [])) = true := by kernel_rfl
theorem make_28 : Tree.isTrue (runFZ (Tr.C5 Tryz.prog X) 1000000 17 (Tr.makeArgs 28) (Tr.makeSt 28 [])) = true := by kernel_rfl
theorem make_29 : Tree.isTrue (runFZ (Tr.C5 Tryz.prog X) 1000000 17 (Tr.makeArgs 29) (Tr.makeSt 29 [])) = true := by kernel_rfl
theorem make_30 : Tree.isTrue (runFZ (Tr.C5 Tryz.prog X) 1000000 17 (Tr.makeArgs 30) (Tr.makeSt 30 [])) = true := by kernel_rfl
theorem make_31 : Tree.isTrue (runFZ (Tr.C5 Tryz.prog X) 1000000 17 (Tr.makeArgs 31) (Tr.makeSt 31 [])) = true := by kernel_rfl
theorem make_32 : Tree.isTrue (runFZ (Tr.C5 Tryz.prog X) 1000000 17 (Tr.makeArgs 32) (Tr.makeSt 32 [])) = true := by kernel_rfl
theorem make_33 : Tree.isTrue (runFZ (Tr.C5 Tryz.prog X) 1000000 17 (Tr.makeArgs 33) (Tr.makeSt 33 [])) = true := by kernel_rfl
theorem make_34 : Tree.isTrue (runFZ (Tr.C5 Tryz.prog X) 1000000 17 (Tr.makeArgs 34) (Tr.makeSt 34 [])) = true := by kernel_rfl
end Go.Proofs.YtlfhlipdjjhldaaGreatDoor
