/- TrapConstruct: its runs with 0 to 8 arguments, by the kernel. Conditions: none. -/
import Derived.Test.YtlfhlipdjjhldaaGreatDoorSxLeaf
import Derived.Test.YtlfhlipdjjhldaaGreatDoorSxZ
namespace Go.Proofs.YtlfhlipdjjhldaaGreatDoor
open Go Go.SX Go.RowKit
set_option maxRecDepth 1000000
theorem make_0 : Tree.isTrue (runFZ (Tr.C5 Tryz.prog X) 1000000 17 (Tr.makeArgs 0) (Tr.makeSt 0 [])) = true := by kernel_rfl
theorem make_1 : Tree.isTrue (runFZ (Tr.C5 Tryz.prog X) 1000000 17 (Tr.makeArgs 1) (Tr.makeSt 1 [])) = true := by kernel_rfl
theorem make_2 : Tree.isTrue (runFZ (Tr.C5 Tryz.prog X) 1000000 17 (Tr.makeArgs 2) (Tr.makeSt 2 [])) = true := by kernel_rfl
theorem make_3 : Tree.isTrue (runFZ (Tr.C5 Tryz.prog X) 1000000 17 (Tr.makeArgs 3) (Tr.makeSt 3 [])) = true := by kernel_rfl
theorem make_4 : Tree.isTrue (runFZ (Tr.C5 Tryz.prog X) 1000000 17 (Tr.makeArgs 4) (Tr.makeSt 4 [])) = true := by kernel_rfl
theorem make_5 : Tree.isTrue (runFZ (Tr.C5 Tryz.prog X) 1000000 17 (Tr.makeArgs 5) (Tr.makeSt 5 [])) = true := by kernel_rfl
theorem make_6 : Tree.isTrue (runFZ (Tr.C5 Tryz.prog X) 1000000 17 (Tr.makeArgs 6) (Tr.makeSt 6 [])) = true := by kernel_rfl
theorem make_7 : Tree.isTrue (runFZ (Tr.C5 Tryz.prog X) 1000000 17 (Tr.makeArgs 7) (Tr.makeSt 7 [])) = true := by kernel_rfl
theorem make_8 : Tree.isTrue (runFZ (Tr.C5 Tryz.prog X) 1000000 17 (Tr.makeArgs 8) (Tr.makeSt 8 [])) = true := by kernel_rfl
end Go.Proofs.YtlfhlipdjjhldaaGreatDoor
