/- TrapConstruct: its runs with 9 to 17 arguments, by the kernel. Conditions: none. -/
import Derived.Test.YtlfhlipdjjhldaaGreatDoorSxLeaf
import Derived.Test.YtlfhlipdjjhldaaGreatDoorSxZ
namespace Go.Proofs.YtlfhlipdjjhldaaGreatDoor
open Go Go.SX Go.RowKit
set_option maxRecDepth 1000000
theorem make_9 : Tree.isTrue (runFZ (Tr.C5 Tryz.prog X) 1000000 17 (Tr.makeArgs 9) (Tr.makeSt 9 [])) = true := by kernel_rfl
theorem make_10 : Tree.isTrue (runFZ (Tr.C5 Tryz.prog X) 1000000 17 (Tr.makeArgs 10) (Tr.makeSt 10 [])) = true := by kernel_rfl
theorem make_11 : Tree.isTrue (runFZ (Tr.C5 Tryz.prog X) 1000000 17 (Tr.makeArgs 11) (Tr.makeSt 11 [])) = true := by kernel_rfl
theorem make_12 : Tree.isTrue (runFZ (Tr.C5 Tryz.prog X) 1000000 17 (Tr.makeArgs 12) (Tr.makeSt 12 [])) = true := by kernel_rfl
theorem make_13 : Tree.isTrue (runFZ (Tr.C5 Tryz.prog X) 1000000 17 (Tr.makeArgs 13) (Tr.makeSt 13 [])) = true := by kernel_rfl
theorem make_14 : Tree.isTrue (runFZ (Tr.C5 Tryz.prog X) 1000000 17 (Tr.makeArgs 14) (Tr.makeSt 14 [])) = true := by kernel_rfl
theorem make_15 : Tree.isTrue (runFZ (Tr.C5 Tryz.prog X) 1000000 17 (Tr.makeArgs 15) (Tr.makeSt 15 [])) = true := by kernel_rfl
theorem make_16 : Tree.isTrue (runFZ (Tr.C5 Tryz.prog X) 1000000 17 (Tr.makeArgs 16) (Tr.makeSt 16 [])) = true := by kernel_rfl
theorem make_17 : Tree.isTrue (runFZ (Tr.C5 Tryz.prog X) 1000000 17 (Tr.makeArgs 17) (Tr.makeSt 17 [])) = true := by kernel_rfl
end Go.Proofs.YtlfhlipdjjhldaaGreatDoor
