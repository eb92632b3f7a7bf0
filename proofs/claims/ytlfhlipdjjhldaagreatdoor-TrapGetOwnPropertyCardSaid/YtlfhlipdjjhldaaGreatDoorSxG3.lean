/- TrapGetOwnProperty: runs by the kernel, by what the told descriptor has and by what there is, 3. Conditions: none. -/
import Derived.Test.YtlfhlipdjjhldaaGreatDoorSxMore
namespace Go.Proofs.YtlfhlipdjjhldaaGreatDoor
open Go Go.SX Go.RowKit
set_option maxRecDepth 1000000
theorem own_17_n : Tree.isTrue (runFZ (Tr.C5 Tryz.prog X) 1000000 9 (Tr.ownArgs 17) (St.start .e 0 37 0 (appL [(.var 20, false)] (Tr.trues (Tr.ownFacts 17))))) = true := by kernel_rfl
theorem own_17_a : Tree.isTrue (runFZ (Tr.C5 Tryz.prog X) 1000000 9 (Tr.ownArgs 17) (St.start .e 0 37 0 (appL [(.var 20, true), (isN 21 51, true)] (Tr.trues (Tr.ownFacts 17))))) = true := by kernel_rfl
theorem own_17_b : Tree.isTrue (runFZ (Tr.C5 Tryz.prog X) 1000000 9 (Tr.ownArgs 17) (St.start .e 0 37 0 (appL [(.var 20, true), (isN 21 51, false), (isN 21 60, true)] (Tr.trues (Tr.ownFacts 17))))) = true := by kernel_rfl
theorem own_18_n : Tree.isTrue (runFZ (Tr.C5 Tryz.prog X) 1000000 9 (Tr.ownArgs 18) (St.start .e 0 37 0 (appL [(.var 20, false)] (Tr.trues (Tr.ownFacts 18))))) = true := by kernel_rfl
theorem own_18_a : Tree.isTrue (runFZ (Tr.C5 Tryz.prog X) 1000000 9 (Tr.ownArgs 18) (St.start .e 0 37 0 (appL [(.var 20, true), (isN 21 51, true)] (Tr.trues (Tr.ownFacts 18))))) = true := by kernel_rfl
theorem own_18_b : Tree.isTrue (runFZ (Tr.C5 Tryz.prog X) 1000000 9 (Tr.ownArgs 18) (St.start .e 0 37 0 (appL [(.var 20, true), (isN 21 51, false), (isN 21 60, true)] (Tr.trues (Tr.ownFacts 18))))) = true := by kernel_rfl
theorem own_19_n : Tree.isTrue (runFZ (Tr.C5 Tryz.prog X) 1000000 9 (Tr.ownArgs 19) (St.start .e 0 37 0 (appL [(.var 20, false)] (Tr.trues (Tr.ownFacts 19))))) = true := by kernel_rfl
theorem own_19_a : Tree.isTrue (runFZ (Tr.C5 Tryz.prog X) 1000000 9 (Tr.ownArgs 19) (St.start .e 0 37 0 (appL [(.var 20, true), (isN 21 51, true)] (Tr.trues (Tr.ownFacts 19))))) = true := by kernel_rfl
theorem own_19_b : Tree.isTrue (runFZ (Tr.C5 Tryz.prog X) 1000000 9 (Tr.ownArgs 19) (St.start .e 0 37 0 (appL [(.var 20, true), (isN 21 51, false), (isN 21 60, true)] (Tr.trues (Tr.ownFacts 19))))) = true := by kernel_rfl
theorem own_20_n : Tree.isTrue (runFZ (Tr.C5 Tryz.prog X) 1000000 9 (Tr.ownArgs 20) (St.start .e 0 37 0 (appL [(.var 20, false)] (Tr.trues (Tr.ownFacts 20))))) = true := by kernel_rfl
theorem own_20_a : Tree.isTrue (runFZ (Tr.C5 Tryz.prog X) 1000000 9 (Tr.ownArgs 20) (St.start .e 0 37 0 (appL [(.var 20, true), (isN 21 51, true)] (Tr.trues (Tr.ownFacts 20))))) = true := by kernel_rfl
theorem own_20_b : Tree.isTrue (runFZ (Tr.C5 Tryz.prog X) 1000000 9 (Tr.ownArgs 20) (St.start .e 0 37 0 (appL [(.var 20, true), (isN 21 51, false), (isN 21 60, true)] (Tr.trues (Tr.ownFacts 20))))) = true := by kernel_rfl
end Go.Proofs.YtlfhlipdjjhldaaGreatDoor
