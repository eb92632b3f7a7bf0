/- TrapGetOwnProperty: runs by the kernel, by what the told descriptor has and by what there is, 1. Conditions: none. -/
import Derived.Test.YtlfhlipdjjhldaaGreatDoorSxMore
namespace Go.Proofs.YtlfhlipdjjhldaaGreatDoor
open Go Go.SX Go.RowKit
set_option maxRecDepth 1000000
theorem own_0_n : Tree.isTrue (runFZ (Tr.C5 Tryz.prog X) 1000000 9 (Tr.ownArgs 0) (St.start .e 0 37 0 (appL [(.var 20, false)] (Tr.trues (Tr.ownFacts 0))))) = true := by kernel_rfl
theorem own_0_a : Tree.isTrue (runFZ (Tr.C5 Tryz.prog X) 1000000 9 (Tr.ownArgs 0) (St.start .e 0 37 0 (appL [(.var 20, true), (isN 21 51, true)] (Tr.trues (Tr.ownFacts 0))))) = true := by kernel_rfl
theorem own_0_b : Tree.isTrue (runFZ (Tr.C5 Tryz.prog X) 1000000 9 (Tr.ownArgs 0) (St.start .e 0 37 0 (appL [(.var 20, true), (isN 21 51, false), (isN 21 60, true)] (Tr.trues (Tr.ownFacts 0))))) = true := by kernel_rfl
theorem own_1_n : Tree.isTrue (runFZ (Tr.C5 Tryz.prog X) 1000000 9 (Tr.ownArgs 1) (St.start .e 0 37 0 (appL [(.var 20, false)] (Tr.trues (Tr.ownFacts 1))))) = true := by kernel_rfl
theorem own_1_a : Tree.isTrue (runFZ (Tr.C5 Tryz.prog X) 1000000 9 (Tr.ownArgs 1) (St.start .e 0 37 0 (appL [(.var 20, true), (isN 21 51, true)] (Tr.trues (Tr.ownFacts 1))))) = true := by kernel_rfl
theorem own_1_b : Tree.isTrue (runFZ (Tr.C5 Tryz.prog X) 1000000 9 (Tr.ownArgs 1) (St.start .e 0 37 0 (appL [(.var 20, true), (isN 21 51, false), (isN 21 60, true)] (Tr.trues (Tr.ownFacts 1))))) = true := by kernel_rfl
theorem own_2_n : Tree.isTrue (runFZ (Tr.C5 Tryz.prog X) 1000000 9 (Tr.ownArgs 2) (St.start .e 0 37 0 (appL [(.var 20, false)] (Tr.trues (Tr.ownFacts 2))))) = true := by kernel_rfl
theorem own_2_a : Tree.isTrue (runFZ (Tr.C5 Tryz.prog X) 1000000 9 (Tr.ownArgs 2) (St.start .e 0 37 0 (appL [(.var 20, true), (isN 21 51, true)] (Tr.trues (Tr.ownFacts 2))))) = true := by kernel_rfl
theorem own_2_b : Tree.isTrue (runFZ (Tr.C5 Tryz.prog X) 1000000 9 (Tr.ownArgs 2) (St.start .e 0 37 0 (appL [(.var 20, true), (isN 21 51, false), (isN 21 60, true)] (Tr.trues (Tr.ownFacts 2))))) = true := by kernel_rfl
theorem own_3_n : Tree.isTrue (runFZ (Tr.C5 Tryz.prog X) 1000000 9 (Tr.ownArgs 3) (St.start .e 0 37 0 (appL [(.var 20, false)] (Tr.trues (Tr.ownFacts 3))))) = true := by kernel_rfl
theorem own_3_a : Tree.isTrue (runFZ (Tr.C5 Tryz.prog X) 1000000 9 (Tr.ownArgs 3) (St.start .e 0 37 0 (appL [(.var 20, true), (isN 21 51, true)] (Tr.trues (Tr.ownFacts 3))))) = true := by kernel_rfl
theorem own_3_b : Tree.isTrue (runFZ (Tr.C5 Tryz.prog X) 1000000 9 (Tr.ownArgs 3) (St.start .e 0 37 0 (appL [(.var 20, true), (isN 21 51, false), (isN 21 60, true)] (Tr.trues (Tr.ownFacts 3))))) = true := by kernel_rfl
end Go.Proofs.YtlfhlipdjjhldaaGreatDoor
