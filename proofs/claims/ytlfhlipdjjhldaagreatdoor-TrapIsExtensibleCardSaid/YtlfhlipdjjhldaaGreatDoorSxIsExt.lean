/- TrapIsExtensible: its run, by the kernel. Conditions: none. -/
import Derived.Test.YtlfhlipdjjhldaaGreatDoorSxEach
namespace Go.Proofs.YtlfhlipdjjhldaaGreatDoor
open Go Go.SX Go.RowKit
set_option maxRecDepth 1000000
theorem isExt_0 : Tree.isTrue (runF cfg1 1000000 7 (argsFrom 0 [valP, boolP]) (St.start .e 0 5 0 (kinds 0 0))) = true := by kernel_rfl
theorem isExt_1 : Tree.isTrue (runF cfg1 1000000 7 (argsFrom 0 [valP, boolP]) (St.start .e 0 5 0 (kinds 0 1))) = true := by kernel_rfl
theorem isExt_2 : Tree.isTrue (runF cfg1 1000000 7 (argsFrom 0 [valP, boolP]) (St.start .e 0 5 0 (kinds 0 2))) = true := by kernel_rfl
theorem isExt_3 : Tree.isTrue (runF cfg1 1000000 7 (argsFrom 0 [valP, boolP]) (St.start .e 0 5 0 (kinds 0 3))) = true := by kernel_rfl
theorem isExt_4 : Tree.isTrue (runF cfg1 1000000 7 (argsFrom 0 [valP, boolP]) (St.start .e 0 5 0 (kinds 0 4))) = true := by kernel_rfl
theorem isExt_5 : Tree.isTrue (runF cfg1 1000000 7 (argsFrom 0 [valP, boolP]) (St.start .e 0 5 0 (kinds 0 5))) = true := by kernel_rfl
theorem isExt_6 : Tree.isTrue (runF cfg1 1000000 7 (argsFrom 0 [valP, boolP]) (St.start .e 0 5 0 (kinds 0 6))) = true := by kernel_rfl
theorem isExt_7 : Tree.isTrue (runF cfg1 1000000 7 (argsFrom 0 [valP, boolP]) (St.start .e 0 5 0 (kinds 0 7))) = true := by kernel_rfl
theorem isExt_8 : Tree.isTrue (runF cfg1 1000000 7 (argsFrom 0 [valP, boolP]) (St.start .e 0 5 0 (kinds 0 8))) = true := by kernel_rfl
theorem isExt_9 : Tree.isTrue (runF cfg1 1000000 7 (argsFrom 0 [valP, boolP]) (St.start .e 0 5 0 (kinds 0 9))) = true := by kernel_rfl
end Go.Proofs.YtlfhlipdjjhldaaGreatDoor
