/- TrapGetOwnProperty: runs by the kernel, by what the told descriptor has and by what there is, 6. Conditions: none. -/
import Derived.Test.YtlfhlipdjjhldaaGreatDoorSxMore
namespace Go.Proofs.YtlfhlipdjjhldaaGreatDoor
open Go Go.SX Go.RowKit
set_option maxRecDepth 1000000
theorem own_44_n : Tree.isTrue (runFZ (Tr.C5 Tryz.prog X) 1000000 9 (Tr.ownArgs 44) (St.start .e 0 37 0 (appL [(.var 20, false)] (Tr.trues (Tr.ownFacts 44))))) = true := by kernel_rfl
theorem own_44_a : Tree.isTrue (runFZ (Tr.C5 Tryz.prog X) 1000000 9 (Tr.ownArgs 44) (St.start .e 0 37 0 (appL [(.var 20, true), (isN 21 51, true)] (Tr.trues (Tr.ownFacts 44))))) = true := by kernel_rfl
theorem own_44_b : Tree.isTrue (runFZ (Tr.C5 Tryz.prog X) 1000000 9 (Tr.ownArgs 44) (St.start .e 0 37 0 (appL [(.var 20, true), (isN 21 51, false), (isN 21 60, true)] (Tr.trues (Tr.ownFacts 44))))) = true := by kernel_rfl
theorem own_48_n : Tree.isTrue (runFZ (Tr.C5 Tryz.prog X) 1000000 9 (Tr.ownArgs 48) (St.start .e 0 37 0 (appL [(.var 20, false)] (Tr.trues (Tr.ownFacts 48))))) = true := by kernel_rfl
theorem own_48_a : Tree.isTrue (runFZ (Tr.C5 Tryz.prog X) 1000000 9 (Tr.ownArgs 48) (St.start .e 0 37 0 (appL [(.var 20, true), (isN 21 51, true)] (Tr.trues (Tr.ownFacts 48))))) = true := by kernel_rfl
theorem own_48_b : Tree.isTrue (runFZ (Tr.C5 Tryz.prog X) 1000000 9 (Tr.ownArgs 48) (St.start .e 0 37 0 (appL [(.var 20, true), (isN 21 51, false), (isN 21 60, true)] (Tr.trues (Tr.ownFacts 48))))) = true := by kernel_rfl
theorem own_49_n : Tree.isTrue (runFZ (Tr.C5 Tryz.prog X) 1000000 9 (Tr.ownArgs 49) (St.start .e 0 37 0 (appL [(.var 20, false)] (Tr.trues (Tr.ownFacts 49))))) = true := by kernel_rfl
theorem own_49_a : Tree.isTrue (runFZ (Tr.C5 Tryz.prog X) 1000000 9 (Tr.ownArgs 49) (St.start .e 0 37 0 (appL [(.var 20, true), (isN 21 51, true)] (Tr.trues (Tr.ownFacts 49))))) = true := by kernel_rfl
theorem own_49_b : Tree.isTrue (runFZ (Tr.C5 Tryz.prog X) 1000000 9 (Tr.ownArgs 49) (St.start .e 0 37 0 (appL [(.var 20, true), (isN 21 51, false), (isN 21 60, true)] (Tr.trues (Tr.ownFacts 49))))) = true := by kernel_rfl
theorem own_50_n : Tree.isTrue (runFZ (Tr.C5 Tryz.prog X) 1000000 9 (Tr.ownArgs 50) (St.start .e 0 37 0 (appL [(.var 20, false)] (Tr.trues (Tr.ownFacts 50))))) = true := by kernel_rfl
theorem own_50_a : Tree.isTrue (runFZ (Tr.C5 Tryz.prog X) 1000000 9 (Tr.ownArgs 50) (St.start .e 0 37 0 (appL [(.var 20, true), (isN 21 51, true)] (Tr.trues (Tr.ownFacts 50))))) = true := by kernel_rfl
theorem own_50_b : Tree.isTrue (runFZ (Tr.C5 Tryz.prog X) 1000000 9 (Tr.ownArgs 50) (St.start .e 0 37 0 (appL [(.var 20, true), (isN 21 51, false), (isN 21 60, true)] (Tr.trues (Tr.ownFacts 50))))) = true := by kernel_rfl
end Go.Proofs.YtlfhlipdjjhldaaGreatDoor
