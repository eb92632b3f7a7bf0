/- TrapConstruct: its runs put together. Conditions: none. -/
import Derived.Test.YtlfhlipdjjhldaaGreatDoorSxRCallNil
import Derived.Test.YtlfhlipdjjhldaaGreatDoorSxKM1
import Derived.Test.YtlfhlipdjjhldaaGreatDoorSxKM2
import Derived.Test.YtlfhlipdjjhldaaGreatDoorSxKM3
import Derived.Test.YtlfhlipdjjhldaaGreatDoorSxKM4
import Derived.Test.YtlfhlipdjjhldaaGreatDoorSxKM5
import Derived.Test.YtlfhlipdjjhldaaGreatDoorSxKM6
import Derived.Test.YtlfhlipdjjhldaaGreatDoorSxKM7
import Derived.Test.YtlfhlipdjjhldaaGreatDoorSxKM8
namespace Go.Proofs.YtlfhlipdjjhldaaGreatDoor
open Go Go.SX Go.RowKit
set_option maxRecDepth 1000000
theorem make_tree : ∀ n, n ≤ 64 → Tree.isTrue (runFZ (Tr.C5 Tryz.prog X) 1000000 17 (Tr.makeArgs n) (Tr.makeSt n [])) = true
  | 0, _ => make_0
  | 1, _ => make_1
  | 2, _ => make_2
  | 3, _ => make_3
  | 4, _ => make_4
  | 5, _ => make_5
  | 6, _ => make_6
  | 7, _ => make_7
  | 8, _ => make_8
  | 9, _ => make_9
  | 10, _ => make_10
  | 11, _ => make_11
  | 12, _ => make_12
  | 13, _ => make_13
  | 14, _ => make_14
  | 15, _ => make_15
  | 16, _ => make_16
  | 17, _ => make_17
  | 18, _ => make_18
  | 19, _ => make_19
  | 20, _ => make_20
  | 21, _ => make_21
  | 22, _ => make_22
  | 23, _ => make_23
  | 24, _ => make_24
  | 25, _ => make_25
  | 26, _ => make_26
  | 27, _ => make_27
  | 28, _ => make_28
  | 29, _ => make_29
  | 30, _ => make_30
  | 31, _ => make_31
  | 32, _ => make_32
  | 33, _ => make_33
  | 34, _ => make_34
  | 35, _ => make_35
  | 36, _ => make_36
  | 37, _ => make_37
  | 38, _ => make_38
  | 39, _ => make_39
  | 40, _ => make_40
  | 41, _ => make_41
  | 42, _ => make_42
  | 43, _ => make_43
  | 44, _ => make_44
  | 45, _ => make_45
  | 46, _ => make_46
  | 47, _ => make_47
  | 48, _ => make_48
  | 49, _ => make_49
  | 50, _ => make_50
  | 51, _ => make_51
  | 52, _ => make_52
  | 53, _ => make_53
  | 54, _ => make_54
  | 55, _ => make_55
  | 56, _ => make_56
  | 57, _ => make_57
  | 58, _ => make_58
  | 59, _ => make_59
  | 60, _ => make_60
  | 61, _ => make_61
  | 62, _ => make_62
  | 63, _ => make_63
  | 64, _ => make_64
  | n + 65, h => absurd h (by omega)
end Go.Proofs.YtlfhlipdjjhldaaGreatDoor
