/- TrapConstruct: its runs with 51 to 57 arguments, by the kernel. Conditions: none. -/
import Derived.Test.YtlfhlipdjjhldaaGreatDoorSxLeaf
import Derived.Test.YtlfhlipdjjhldaaGreatDoorSxZ
namespace Go.Proofs.YtlfhlipdjjhldaaGreatDoor
open Go Go.SX Go.RowKit
set_option maxRecDepth 1000000
theorem make_51 : Tree.isTrue (runFZ (Tr.C5 Tryz.prog X) 1000000 17 (Tr.makeArgs 51) (Tr.makeSt 51 [])) = true := by kernel_rfl
theorem make_52 : Tree.isTrue (runFZ (Tr.C5 Tryz.prog X) 1000000 17 (Tr.makeArgs 52) (Tr.makeSt 52 [])) = true := by kernel_rfl
theorem make_53 : Tree.isTrue (runFZ (Tr.C5 Tryz.prog X) 1000000 17 (Tr.makeArgs 53) (Tr.makeSt 53 [])) = true := by kernel_rfl
theorem make_54 : Tree.isTrue (runFZ (Tr.C5 Tryz.prog X) 1000000 17 (Tr.makeArgs 54) (Tr.makeSt 54 [])) = true := by kernel_rfl
theorem make_55 : Tree.isTrue (runFZ (Tr.C5 Tryz.prog X) 1000000 17 (Tr.makeArgs 55) (Tr.makeSt 55 [])) = true := by kernel_rfl
theorem make_56 : Tree.isTrue (runFZ (Tr.C5 Tryz.prog X) 1000000 17 (Tr.makeArgs 56) (Tr.makeSt 56 [])) = true := by kernel_rfl
theorem make_57 : Tree.isTrue (runFZ (Tr.C5 Tryz.prog X) 1000000 17 (Tr.makeArgs 57) (Tr.makeSt 57 [])) = true := by kernel_rfl
end Go.Proofs.YtlfhlipdjjhldaaGreatDoor
