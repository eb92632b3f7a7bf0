/- The Trap laws' 'alive': its run, by the kernel. Conditions: none. -/
import Derived.Test.YtlfhlipdjjhldaaGreatDoorSxLeaf
namespace Go.Proofs.YtlfhlipdjjhldaaGreatDoor
open Go Go.SX Go.RowKit
set_option maxRecDepth 1000000
noncomputable def cfgA : Cfg := Tr.base Tryz.prog X [Tr.f30 Tryz.prog X, Tr.f33 Tryz.prog X, Tr.f60 Tryz.prog X] []
theorem alive_tree : Tree.isTrue (runF cfgA 1000000 26 [] (St.start .e 0 0 0 [])) = true := by kernel_rfl
end Go.Proofs.YtlfhlipdjjhldaaGreatDoor
