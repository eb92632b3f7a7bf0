/- TrapCall: its runs put together. Conditions: none. -/
import Derived.Test.YtlfhlipdjjhldaaGreatDoorSxRCallNil
import Derived.Test.YtlfhlipdjjhldaaGreatDoorSxKC1
import Derived.Test.YtlfhlipdjjhldaaGreatDoorSxKC2
import Derived.Test.YtlfhlipdjjhldaaGreatDoorSxKC3
import Derived.Test.YtlfhlipdjjhldaaGreatDoorSxKC4
import Derived.Test.YtlfhlipdjjhldaaGreatDoorSxKC5
import Derived.Test.YtlfhlipdjjhldaaGreatDoorSxKC6
import Derived.Test.YtlfhlipdjjhldaaGreatDoorSxKC7
import Derived.Test.YtlfhlipdjjhldaaGreatDoorSxKC8
namespace Go.Proofs.YtlfhlipdjjhldaaGreatDoor
open Go Go.SX Go.RowKit
set_option maxRecDepth 1000000
theorem call_tree : ∀ n, n ≤ 64 → Tree.isTrue (runFZ (Tr.C5 Tryz.prog X) 1000000 16 (Tr.callArgs n) (Tr.callSt n [])) = true
  | 0, _ => call_0
  | 1, _ => call_1
  | 2, _ => call_2
  | 3, _ => call_3
  | 4, _ => call_4
  | 5, _ => call_5
  | 6, _ => call_6
  | 7, _ => call_7
  | 8, _ => call_8
  | 9, _ => call_9
  | 10, _ => call_10
  | 11, _ => call_11
  | 12, _ => call_12
  | 13, _ => call_13
  | 14, _ => call_14
  | 15, _ => call_15
  | 16, _ => call_16
  | 17, _ => call_17
  | 18, _ => call_18
  | 19, _ => call_19
  | 20, _ => call_20
  | 21, _ => call_21
  | 22, _ => call_22
  | 23, _ => call_23
  | 24, _ => call_24
  | 25, _ => call_25
  | 26, _ => call_26
  | 27, _ => call_27
  | 28, _ => call_28
  | 29, _ => call_29
  | 30, _ => call_30
  | 31, _ => call_31
  | 32, _ => call_32
  | 33, _ => call_33
  | 34, _ => call_34
  | 35, _ => call_35
  | 36, _ => call_36
  | 37, _ => call_37
  | 38, _ => call_38
  | 39, _ => call_39
  | 40, _ => call_40
  | 41, _ => call_41
  | 42, _ => call_42
  | 43, _ => call_43
  | 44, _ => call_44
  | 45, _ => call_45
  | 46, _ => call_46
  | 47, _ => call_47
  | 48, _ => call_48
  | 49, _ => call_49
  | 50, _ => call_50
  | 51, _ => call_51
  | 52, _ => call_52
  | 53, _ => call_53
  | 54, _ => call_54
  | 55, _ => call_55
  | 56, _ => call_56
  | 57, _ => call_57
  | 58, _ => call_58
  | 59, _ => call_59
  | 60, _ => call_60
  | 61, _ => call_61
  | 62, _ => call_62
  | 63, _ => call_63
  | 64, _ => call_64
  | n + 65, h => absurd h (by omega)
end Go.Proofs.YtlfhlipdjjhldaaGreatDoor
