/- TrapGetOwnProperty: runs by the kernel, by what the told descriptor has and by what there is, 7. Conditions: none. -/
import Derived.Test.YtlfhlipdjjhldaaGreatDoorSxMore
namespace Go.Proofs.YtlfhlipdjjhldaaGreatDoor
open Go Go.SX Go.RowKit
set_option maxRecDepth 1000000
theorem own_51_n : Tree.isTrue (runFZ (Tr.C5 Tryz.prog X) 1000000 9 (Tr.ownArgs 51) (St.start .e 0 37 0 (appL [(.var 20, false)] (Tr.trues (Tr.ownFacts 51))))) = true := by kernel_rfl
theorem own_51_a : Tree.isTrue (runFZ (Tr.C5 Tryz.prog X) 1000000 9 (Tr.ownArgs 51) (St.start .e 0 37 0 (appL [(.var 20, true), (isN 21 51, true)] (Tr.trues (Tr.ownFacts 51))))) = true := by kernel_rfl
theorem own_51_b : Tree.isTrue (runFZ (Tr.C5 Tryz.prog X) 1000000 9 (Tr.ownArgs 51) (St.start .e 0 37 0 (appL [(.var 20, true), (isN 21 51, false), (isN 21 60, true)] (Tr.trues (Tr.ownFacts 51))))) = true := by kernel_rfl
theorem own_52_n : Tree.isTrue (runFZ (Tr.C5 Tryz.prog X) 1000000 9 (Tr.ownArgs 52) (St.start .e 0 37 0 (appL [(.var 20, false)] (Tr.trues (Tr.ownFacts 52))))) = true := by kernel_rfl
theorem own_52_a : Tree.isTrue (runFZ (Tr.C5 Tryz.prog X) 1000000 9 (Tr.ownArgs 52) (St.start .e 0 37 0 (appL [(.var 20, true), (isN 21 51, true)] (Tr.trues (Tr.ownFacts 52))))) = true := by kernel_rfl
theorem own_52_b : Tree.isTrue (runFZ (Tr.C5 Tryz.prog X) 1000000 9 (Tr.ownArgs 52) (St.start .e 0 37 0 (appL [(.var 20, true), (isN 21 51, false), (isN 21 60, true)] (Tr.trues (Tr.ownFacts 52))))) = true := by kernel_rfl
theorem own_56_n : Tree.isTrue (runFZ (Tr.C5 Tryz.prog X) 1000000 9 (Tr.ownArgs 56) (St.start .e 0 37 0 (appL [(.var 20, false)] (Tr.trues (Tr.ownFacts 56))))) = true := by kernel_rfl
theorem own_56_a : Tree.isTrue (runFZ (Tr.C5 Tryz.prog X) 1000000 9 (Tr.ownArgs 56) (St.start .e 0 37 0 (appL [(.var 20, true), (isN 21 51, true)] (Tr.trues (Tr.ownFacts 56))))) = true := by kernel_rfl
theorem own_56_b : Tree.isTrue (runFZ (Tr.C5 Tryz.prog X) 1000000 9 (Tr.ownArgs 56) (St.start .e 0 37 0 (appL [(.var 20, true), (isN 21 51, false), (isN 21 60, true)] (Tr.trues (Tr.ownFacts 56))))) = true := by kernel_rfl
theorem own_60_n : Tree.isTrue (runFZ (Tr.C5 Tryz.prog X) 1000000 9 (Tr.ownArgs 60) (St.start .e 0 37 0 (appL [(.var 20, false)] (Tr.trues (Tr.ownFacts 60))))) = true := by kernel_rfl
theorem own_60_a : Tree.isTrue (runFZ (Tr.C5 Tryz.prog X) 1000000 9 (Tr.ownArgs 60) (St.start .e 0 37 0 (appL [(.var 20, true), (isN 21 51, true)] (Tr.trues (Tr.ownFacts 60))))) = true := by kernel_rfl
theorem own_60_b : Tree.isTrue (runFZ (Tr.C5 Tryz.prog X) 1000000 9 (Tr.ownArgs 60) (St.start .e 0 37 0 (appL [(.var 20, true), (isN 21 51, false), (isN 21 60, true)] (Tr.trues (Tr.ownFacts 60))))) = true := by kernel_rfl
end Go.Proofs.YtlfhlipdjjhldaaGreatDoor
