/- TrapConstruct: its runs with 58 to 64 arguments, by the kernel. Conditions: none. -/
import Derived.Test.YtlfhlipdjjhldaaGreatDoorSxLeaf
import Derived.Test.YtlfhlipdjjhldaaGreatDoorSxZ
namespace Go.Proofs.YtlfhlipdjjhldaaGreatDoor
open Go Go.SX Go.RowKit
set_option maxRecDepth 1000000
theorem make_58 : Tree.isTrue (runFZ (Tr.C5 Tryz.prog X) 1000000 17 (Tr.makeArgs 58) (Tr.makeSt 58 [])) = true := by kernel_rfl
theorem make_59 : Tree.isTrue (runFZ (Tr.C5 Tryz.prog X) 1000000 17 (Tr.makeArgs 59) (Tr.makeSt 59 [])) = true := by kernel_rfl
theorem make_60 : Tree.isTrue (runFZ (Tr.C5 Tryz.prog X) 1000000 17 (Tr.makeArgs 60) (Tr.makeSt 60 [])) = true := by kernel_rfl
theorem make_61 : Tree.isTrue (runFZ (Tr.C5 Tryz.prog X) 1000000 17 (Tr.makeArgs 61) (Tr.makeSt 61 [])) = true := by kernel_rfl
theorem make_62 : Tree.isTrue (runFZ (Tr.C5 Tryz.prog X) 1000000 17 (Tr.makeArgs 62) (Tr.makeSt 62 [])) = true := by kernel_rfl
theorem make_63 : Tree.isTrue (runFZ (Tr.C5 Tryz.prog X) 1000000 17 (Tr.makeArgs 63) (Tr.makeSt 63 [])) = true := by kernel_rfl
theorem make_64 : Tree.isTrue (runFZ (Tr.C5 Tryz.prog X) 1000000 17 (Tr.makeArgs 64) (Tr.makeSt 64 [])) = true := by kernel_rfl
end Go.Proofs.YtlfhlipdjjhldaaGreatDoor
