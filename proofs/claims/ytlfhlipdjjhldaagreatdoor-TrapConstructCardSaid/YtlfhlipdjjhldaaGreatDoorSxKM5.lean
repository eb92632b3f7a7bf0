/- TrapConstruct: its runs with 35 to 42 arguments, by the kernel. Conditions: none. -/
import Derived.Test.YtlfhlipdjjhldaaGreatDoorSxLeaf
import Derived.Test.YtlfhlipdjjhldaaGreatDoorSxZ
namespace Go.Proofs.YtlfhlipdjjhldaaGreatDoor
open Go Go.SX Go.RowKit
set_option maxRecDepth 1000000
theorem make_35 : Tree.isTrue (runFZ (Tr.C5 Tryz.prog X) 1000000 17 (Tr.makeArgs 35) (Tr.makeSt 35 [])) = true := by kernel_rfl
theorem make_36 : Tree.isTrue (runFZ (Tr.C5 Tryz.prog X) 1000000 17 (Tr.makeArgs 36) (Tr.makeSt 36 [])) = true := by kernel_rfl
theorem make_37 : Tree.isTrue (runFZ (Tr.C5 Tryz.prog X) 1000000 17 (Tr.makeArgs 37) (Tr.makeSt 37 [])) = true := by kernel_rfl
theorem make_38 : Tree.isTrue (runFZ (Tr.C5 Tryz.prog X) 1000000 17 (Tr.makeArgs 38) (Tr.makeSt 38 [])) = true := by kernel_rfl
theorem make_39 : Tree.isTrue (runFZ (Tr.C5 Tryz.prog X) 1000000 17 (Tr.makeArgs 39) (Tr.makeSt 39 [])) = true := by kernel_rfl
theorem make_40 : Tree.isTrue (runFZ (Tr.C5 Tryz.prog X) 1000000 17 (Tr.makeArgs 40) (Tr.makeSt 40 [])) = true := by kernel_rfl
theorem make_41 : Tree.isTrue (runFZ (Tr.C5 Tryz.prog X) 1000000 17 (Tr.makeArgs 41) (Tr.makeSt 41 [])) = true := by kernel_rfl
theorem make_42 : Tree.isTrue (runFZ (Tr.C5 Tryz.prog X) 1000000 17 (Tr.makeArgs 42) (Tr.makeSt 42 [])) = true := by kernel_rfl
end Go.Proofs.YtlfhlipdjjhldaaGreatDoor
