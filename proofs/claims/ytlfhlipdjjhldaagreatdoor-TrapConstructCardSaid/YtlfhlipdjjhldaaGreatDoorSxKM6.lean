/- TrapConstruct: its runs with 43 to 50 arguments, by the kernel. Conditions: none. -/
import Derived.Test.YtlfhlipdjjhldaaGreatDoorSxLeaf
import Derived.Test.YtlfhlipdjjhldaaGreatDoorSxZ
namespace Go.Proofs.YtlfhlipdjjhldaaGreatDoor
open Go Go.SX Go.RowKit
set_option maxRecDepth 1000000
theorem make_43 : Tree.isTrue (runFZ (Tr.C5 Tryz.prog X) 1000000 17 (Tr.makeArgs 43) (Tr.makeSt 43 [])) = true := by kernel_rfl
theorem make_44 : Tree.isTrue (runFZ (Tr.C5 Tryz.prog X) 1000000 17 (Tr.makeArgs 44) (Tr.makeSt 44 [])) = true := by kernel_rfl
theorem make_45 : Tree.isTrue (runFZ (Tr.C5 Tryz.prog X) 1000000 17 (Tr.makeArgs 45) (Tr.makeSt 45 [])) = true := by kernel_rfl
theorem make_46 : Tree.isTrue (runFZ (Tr.C5 Tryz.prog X) 1000000 17 (Tr.makeArgs 46) (Tr.makeSt 46 [])) = true := by kernel_rfl
theorem make_47 : Tree.isTrue (runFZ (Tr.C5 Tryz.prog X) 1000000 17 (Tr.makeArgs 47) (Tr.makeSt 47 [])) = true := by kernel_rfl
theorem make_48 : Tree.isTrue (runFZ (Tr.C5 Tryz.prog X) 1000000 17 (Tr.makeArgs 48) (Tr.makeSt 48 [])) = true := by kernel_rfl
theorem make_49 : Tree.isTrue (runFZ (Tr.C5 Tryz.prog X) 1000000 17 (Tr.makeArgs 49) (Tr.makeSt 49 [])) = true := by kernel_rfl
theorem make_50 : Tree.isTrue (runFZ (Tr.C5 Tryz.prog X) 1000000 17 (Tr.makeArgs 50) (Tr.makeSt 50 [])) = true := by kernel_rfl
end Go.Proofs.YtlfhlipdjjhldaaGreatDoor
