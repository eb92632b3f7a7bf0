/- TrapGetOwnProperty: runs by the kernel, by what the told descriptor has and by what there is, 5. Conditions: none. -/
import Derived.Test.YtlfhlipdjjhldaaGreatDoorSxMore
namespace Go.Proofs.YtlfhlipdjjhldaaGreatDoor
open Go Go.SX Go.RowKit
set_option maxRecDepth 1000000
theorem own_34_n : Tree.isTrue (runFZ (Tr.C5 Tryz.prog X) 1000000 9 (Tr.ownArgs 34) (St.start .e 0 37 0 (appL [(.var 20, false)] (Tr.trues (Tr.ownFacts 34))))) = true := by kernel_rfl
theorem own_34_a : Tree.isTrue (runFZ (Tr.C5 Tryz.prog X) 1000000 9 (Tr.ownArgs 34) (St.start .e 0 37 0 (appL [(.var 20, true), (isN 21 51, true)] (Tr.trues (Tr.ownFacts 34))))) = true := by kernel_rfl
theorem own_34_b : Tree.isTrue (runFZ (Tr.C5 Tryz.prog X) 1000000 9 (Tr.ownArgs 34) (St.start .e 0 37 0 (appL [(.var 20, true), (isN 21 51, false), (isN 21 60, true)] (Tr.trues (Tr.ownFacts 34))))) = true := by kernel_rfl
theorem own_35_n : Tree.isTrue (runFZ (Tr.C5 Tryz.prog X) 1000000 9 (Tr.ownArgs 35) (St.start .e 0 37 0 (appL [(.var 20, false)] (Tr.trues (Tr.ownFacts 35))))) = true := by kernel_rfl
theorem own_35_a : Tree.isTrue (runFZ (Tr.C5 Tryz.prog X) 1000000 9 (Tr.ownArgs 35) (St.start .e 0 37 0 (appL [(.var 20, true), (isN 21 51, true)] (Tr.trues (Tr.ownFacts 35))))) = true := by kernel_rfl
theorem own_35_b : Tree.isTrue (runFZ (Tr.C5 Tryz.prog X) 1000000 9 (Tr.ownArgs 35) (St.start .e 0 37 0 (appL [(.var 20, true), (isN 21 51, false), (isN 21 60, true)] (Tr.trues (Tr.ownFacts 35))))) = true := by kernel_rfl
theorem own_36_n : Tree.isTrue (runFZ (Tr.C5 Tryz.prog X) 1000000 9 (Tr.ownArgs 36) (St.start .e 0 37 0 (appL [(.var 20, false)] (Tr.trues (Tr.ownFacts 36))))) = true := by kernel_rfl
theorem own_36_a : Tree.isTrue (runFZ (Tr.C5 Tryz.prog X) 1000000 9 (Tr.ownArgs 36) (St.start .e 0 37 0 (appL [(.var 20, true), (isN 21 51, true)] (Tr.trues (Tr.ownFacts 36))))) = true := by kernel_rfl
theorem own_36_b : Tree.isTrue (runFZ (Tr.C5 Tryz.prog X) 1000000 9 (Tr.ownArgs 36) (St.start .e 0 37 0 (appL [(.var 20, true), (isN 21 51, false), (isN 21 60, true)] (Tr.trues (Tr.ownFacts 36))))) = true := by kernel_rfl
theorem own_40_n : Tree.isTrue (runFZ (Tr.C5 Tryz.prog X) 1000000 9 (Tr.ownArgs 40) (St.start .e 0 37 0 (appL [(.var 20, false)] (Tr.trues (Tr.ownFacts 40))))) = true := by kernel_rfl
theorem own_40_a : Tree.isTrue (runFZ (Tr.C5 Tryz.prog X) 1000000 9 (Tr.ownArgs 40) (St.start .e 0 37 0 (appL [(.var 20, true), (isN 21 51, true)] (Tr.trues (Tr.ownFacts 40))))) = true := by kernel_rfl
theorem own_40_b : Tree.isTrue (runFZ (Tr.C5 Tryz.prog X) 1000000 9 (Tr.ownArgs 40) (St.start .e 0 37 0 (appL [(.var 20, true), (isN 21 51, false), (isN 21 60, true)] (Tr.trues (Tr.ownFacts 40))))) = true := by kernel_rfl
end Go.Proofs.YtlfhlipdjjhldaaGreatDoor
