/- TrapConstruct: its runs with 18 to 26 arguments, by the kernel. Conditions: none. -/
import Derived.Test.YtlfhlipdjjhldaaGreatDoorSxLeaf
import Derived.Test.YtlfhlipdjjhldaaGreatDoorSxZ
namespace Go.Proofs.YtlfhlipdjjhldaaGreatDoor
open Go Go.SX Go.RowKit
set_option maxRecDepth 1000000
theorem make_18 : Tree.isTrue (runFZ (Tr.C5 Tryz.prog X) 1000000 17 (Tr.makeArgs 18) (Tr.makeSt 18 [])) = true := by kernel_rfl
theorem make_19 : Tree.isTrue (runFZ (Tr.C5 Tryz.prog X) 1000000 17 (Tr.makeArgs 19) (Tr.makeSt 19 [])) = true := by kernel_rfl
theorem make_20 : Tree.isTrue (runFZ (Tr.C5 Tryz.prog X) 1000000 17 (Tr.makeArgs 20) (Tr.makeSt 20 [])) = true := by kernel_rfl
theorem make_21 : Tree.isTrue (runFZ (Tr.C5 Tryz.prog X) 1000000 17 (Tr.makeArgs 21) (Tr.makeSt 21 [])) = true := by kernel_rfl
theorem make_22 : Tree.isTrue (runFZ (Tr.C5 Tryz.prog X) 1000000 17 (Tr.makeArgs 22) (Tr.makeSt 22 [])) = true := by kernel_rfl
theorem make_23 : Tree.isTrue (runFZ (Tr.C5 Tryz.prog X) 1000000 17 (Tr.makeArgs 23) (Tr.makeSt 23 [])) = true := by kernel_rfl
theorem make_24 : Tree.isTrue (runFZ (Tr.C5 Tryz.prog X) 1000000 17 (Tr.makeArgs 24) (Tr.makeSt 24 [])) = true := by kernel_rfl
theorem make_25 : Tree.isTrue (runFZ (Tr.C5 Tryz.prog X) 1000000 17 (Tr.makeArgs 25) (Tr.makeSt 25 [])) = true := by kernel_rfl
theorem make_26 : Tree.isTrue (runFZ (Tr.C5 Tryz.prog X) 1000000 17 (Tr.makeArgs 26) (Tr.makeSt 26 [])) = true := by kernel_rfl
end Go.Proofs.YtlfhlipdjjhldaaGreatDoor
