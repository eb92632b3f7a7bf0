/-
  NARROWER THAN 'FOR EVERY INPUT', by the rows' own cells (each row's printed sentence says how): TrapNames: laid · TrapChecks: laid · TrapGetPrototypeOf: laid · TrapSetPrototypeOf: laid · TrapIsExtensible: laid · TrapPreventExtensions: laid · TrapGetOwnProperty: laid · TrapDefineOwnProperty: laid · TrapHasProperty: laid · TrapGet: laid · TrapSet: laid · TrapDelete: laid · TrapOwnKeys: laid · TrapCall: laid · TrapConstruct: laid.
  DERIVED. THE GIVEN ROWS OF THIS SEAT. 15 by the template 'for every input the law returns true; each argument reads behind the call as it read before'; 0 by the template 'total and deterministic' (their statements: YtlfhlipdjjhldaaGreatDoorTotals.lean).
  GIVEN WITH THE SEED: the statements are not yours to turn. If you find one false, say at which input.
  Laid BY PROGRAM, IN A SANDBOX (cutbox-rows.mjs): the forced cells as the released guide's own fill.sh prints them over the translation 76c2bb2d4b271df5… (all of the seat's roots in one cut). By AI agents, Wed Nov 11 2026. No macro, syntax, notation, axiom, sorry.
-/
import Derived.Test.YtlfhlipdjjhldaaGreatDoorChecked
import GoSem.Claim
import GoSem.ClaimJoined
import GoSem.ClaimMapViews
import Derived.JoinedTies
import Derived.KernelRfl
namespace Go.Proofs.YtlfhlipdjjhldaaGreatDoor
/- THE CELL 'sum', in the pinned program and in every row, IS THE sha256 OF THE DUMP (.gsa) THAT YtlfhlipdjjhldaaGreatDoorProg.lean LOADS. Nothing in Lean hashes anything: it is a label: what it is worth is what the hold of that sum in a sandbox is worth. -/
noncomputable def Tryz.pinned : Pinned := { name := "ytlfhlipdjjhldaagreatdoor", sum := "76c2bb2d4b271df56fbb4caaecaeff465f8bff4b73ea6b948482eebd0a51bc3b", checked := Tryz.checked }
namespace Rows
def none {H : Type} : Left H := { results := [], args := [] }

/- WHAT THE LISTED PACKAGE-LEVEL VARIABLES READ AS WHEN THE CALL BEGINS. Each datum BY PROGRAM (the guide's laid-datum.mjs) off the statement by which the dump's own 'gosem.cut.vars' lays the variable. In a bare row this is a premise. The card (YtlfhlipdjjhldaaGreatDoorCards.lean) ties it to the program's text. -/
def laid_math_bits_deBruijn32tab {H : Type} : DataW H := .agg [.lit (.int .u8 0), .lit (.int .u8 1), .lit (.int .u8 28), .lit (.int .u8 2), .lit (.int .u8 29), .lit (.int .u8 14), .lit (.int .u8 24), .lit (.int .u8 3), .lit (.int .u8 30), .lit (.int .u8 22), .lit (.int .u8 20), .lit (.int .u8 15), .lit (.int .u8 25), .lit (.int .u8 17), .lit (.int .u8 4), .lit (.int .u8 8), .lit (.int .u8 31), .lit (.int .u8 27), .lit (.int .u8 13), .lit (.int .u8 23), .lit (.int .u8 21), .lit (.int .u8 19), .lit (.int .u8 16), .lit (.int .u8 7), .lit (.int .u8 26), .lit (.int .u8 12), .lit (.int .u8 18), .lit (.int .u8 6), .lit (.int .u8 11), .lit (.int .u8 5), .lit (.int .u8 10), .lit (.int .u8 9)]
def laid_math_bits_deBruijn64tab {H : Type} : DataW H := .agg [.lit (.int .u8 0), .lit (.int .u8 1), .lit (.int .u8 56), .lit (.int .u8 2), .lit (.int .u8 57), .lit (.int .u8 49), .lit (.int .u8 28), .lit (.int .u8 3), .lit (.int .u8 61), .lit (.int .u8 58), .lit (.int .u8 42), .lit (.int .u8 50), .lit (.int .u8 38), .lit (.int .u8 29), .lit (.int .u8 17), .lit (.int .u8 4), .lit (.int .u8 62), .lit (.int .u8 47), .lit (.int .u8 59), .lit (.int .u8 36), .lit (.int .u8 45), .lit (.int .u8 43), .lit (.int .u8 51), .lit (.int .u8 22), .lit (.int .u8 53), .lit (.int .u8 39), .lit (.int .u8 33), .lit (.int .u8 30), .lit (.int .u8 24), .lit (.int .u8 18), .lit (.int .u8 12), .lit (.int .u8 5), .lit (.int .u8 63), .lit (.int .u8 55), .lit (.int .u8 48), .lit (.int .u8 27), .lit (.int .u8 60), .lit (.int .u8 41), .lit (.int .u8 37), .lit (.int .u8 16), .lit (.int .u8 46), .lit (.int .u8 35), .lit (.int .u8 44), .lit (.int .u8 21), .lit (.int .u8 52), .lit (.int .u8 32), .lit (.int .u8 23), .lit (.int .u8 11), .lit (.int .u8 54), .lit (.int .u8 26), .lit (.int .u8 40), .lit (.int .u8 15), .lit (.int .u8 34), .lit (.int .u8 20), .lit (.int .u8 31), .lit (.int .u8 10), .lit (.int .u8 25), .lit (.int .u8 14), .lit (.int .u8 19), .lit (.int .u8 9), .lit (.int .u8 13), .lit (.int .u8 8), .lit (.int .u8 7), .lit (.int .u8 6)]
def laid_internal_strconv_uint64pow10 {H : Type} : DataW H := .agg [.lit (.int .u64 1), .lit (.int .u64 10), .lit (.int .u64 100), .lit (.int .u64 1000), .lit (.int .u64 10000), .lit (.int .u64 100000), .lit (.int .u64 1000000), .lit (.int .u64 10000000), .lit (.int .u64 100000000), .lit (.int .u64 1000000000), .lit (.int .u64 10000000000), .lit (.int .u64 100000000000), .lit (.int .u64 1000000000000), .lit (.int .u64 10000000000000), .lit (.int .u64 100000000000000), .lit (.int .u64 1000000000000000), .lit (.int .u64 10000000000000000), .lit (.int .u64 100000000000000000), .lit (.int .u64 1000000000000000000), .lit (.int .u64 10000000000000000000)]

/-- 'bailifflaw16.TrapNames': WHATEVER THE INPUT: true; the input reads as it did. -/
def trapNamesSpec : ChangeSpec := { name := "trapNames", fn := fun _ => fun
  | [] => { results := [.lit (.bool true)], args := [] }
  | _ => none }
def trapNamesRow : OpenClaim := { program := "ytlfhlipdjjhldaagreatdoor", sum := "76c2bb2d4b271df56fbb4caaecaeff465f8bff4b73ea6b948482eebd0a51bc3b", func := "bailiff/bailifflaw16.TrapNames", spec := "trapNames", inPlace := ["math.archTrunc", "math.Float64bits", "math.Float64frombits"], unfollowed := true, recurses := true, named := ["internal/strconv.uint64pow10", "math/bits.deBruijn32tab", "math/bits.deBruijn64tab"], plainKeys := false, apart := false, laid := [("math/bits.deBruijn32tab", laid_math_bits_deBruijn32tab), ("math/bits.deBruijn64tab", laid_math_bits_deBruijn64tab), ("internal/strconv.uint64pow10", laid_internal_strconv_uint64pow10)] }
def TrapNamesSaid : Prop := trapNamesRow.holds Tryz.pinned (OpenSpec.ofChange trapNamesSpec)

/-- ITS FALSE NEIGHBOUR: 'it returns false'. Refute it at one input. -/
def trapNamesWrong : ChangeSpec := { name := "trapNames", fn := fun _ => fun
  | [] => { results := [.lit (.bool false)], args := [] }
  | _ => none }
def TrapNamesWrongFalsely : Prop := trapNamesRow.holds Tryz.pinned (OpenSpec.ofChange trapNamesWrong)

/-- 'bailifflaw16.TrapChecks': WHATEVER THE INPUT: true; the input reads as it did. -/
def trapChecksSpec : ChangeSpec := { name := "trapChecks", fn := fun _ => fun
  | [d1, d2, d3, d4] => { results := [.lit (.bool true)], args := [d1, d2, d3, d4] }
  | _ => none }
def trapChecksRow : OpenClaim := { program := "ytlfhlipdjjhldaagreatdoor", sum := "76c2bb2d4b271df56fbb4caaecaeff465f8bff4b73ea6b948482eebd0a51bc3b", func := "bailiff/bailifflaw16.TrapChecks", spec := "trapChecks", inPlace := ["math.archTrunc", "math.Float64bits", "math.Float64frombits"], unfollowed := true, recurses := true, named := ["internal/strconv.uint64pow10", "math/bits.deBruijn32tab", "math/bits.deBruijn64tab"], plainKeys := false, apart := false, laid := [("math/bits.deBruijn32tab", laid_math_bits_deBruijn32tab), ("math/bits.deBruijn64tab", laid_math_bits_deBruijn64tab), ("internal/strconv.uint64pow10", laid_internal_strconv_uint64pow10)] }
def TrapChecksSaid : Prop := trapChecksRow.holds Tryz.pinned (OpenSpec.ofChange trapChecksSpec)

/-- ITS FALSE NEIGHBOUR: 'it returns false'. Refute it at one input. -/
def trapChecksWrong : ChangeSpec := { name := "trapChecks", fn := fun _ => fun
  | [d1, d2, d3, d4] => { results := [.lit (.bool false)], args := [d1, d2, d3, d4] }
  | _ => none }
def TrapChecksWrongFalsely : Prop := trapChecksRow.holds Tryz.pinned (OpenSpec.ofChange trapChecksWrong)

/-- 'bailifflaw16.TrapGetPrototypeOf': WHATEVER THE INPUT: true; the input reads as it did. -/
def trapGetPrototypeOfSpec : ChangeSpec := { name := "trapGetPrototypeOf", fn := fun _ => fun
  | [d1, d2, d3] => { results := [.lit (.bool true)], args := [d1, d2, d3] }
  | _ => none }
def trapGetPrototypeOfRow : OpenClaim := { program := "ytlfhlipdjjhldaagreatdoor", sum := "76c2bb2d4b271df56fbb4caaecaeff465f8bff4b73ea6b948482eebd0a51bc3b", func := "bailiff/bailifflaw16.TrapGetPrototypeOf", spec := "trapGetPrototypeOf", inPlace := ["math.archTrunc", "math.Float64bits", "math.Float64frombits"], unfollowed := true, recurses := true, named := ["internal/strconv.uint64pow10", "math/bits.deBruijn32tab", "math/bits.deBruijn64tab"], plainKeys := false, apart := false, laid := [("math/bits.deBruijn32tab", laid_math_bits_deBruijn32tab), ("math/bits.deBruijn64tab", laid_math_bits_deBruijn64tab), ("internal/strconv.uint64pow10", laid_internal_strconv_uint64pow10)] }
def TrapGetPrototypeOfSaid : Prop := trapGetPrototypeOfRow.holds Tryz.pinned (OpenSpec.ofChange trapGetPrototypeOfSpec)

/-- ITS FALSE NEIGHBOUR: 'it returns false'. Refute it at one input. -/
def trapGetPrototypeOfWrong : ChangeSpec := { name := "trapGetPrototypeOf", fn := fun _ => fun
  | [d1, d2, d3] => { results := [.lit (.bool false)], args := [d1, d2, d3] }
  | _ => none }
def TrapGetPrototypeOfWrongFalsely : Prop := trapGetPrototypeOfRow.holds Tryz.pinned (OpenSpec.ofChange trapGetPrototypeOfWrong)

/-- 'bailifflaw16.TrapSetPrototypeOf': WHATEVER THE INPUT: true; the input reads as it did. -/
def trapSetPrototypeOfSpec : ChangeSpec := { name := "trapSetPrototypeOf", fn := fun _ => fun
  | [d1, d2, d3, d4] => { results := [.lit (.bool true)], args := [d1, d2, d3, d4] }
  | _ => none }
def trapSetPrototypeOfRow : OpenClaim := { program := "ytlfhlipdjjhldaagreatdoor", sum := "76c2bb2d4b271df56fbb4caaecaeff465f8bff4b73ea6b948482eebd0a51bc3b", func := "bailiff/bailifflaw16.TrapSetPrototypeOf", spec := "trapSetPrototypeOf", inPlace := ["math.archTrunc", "math.Float64bits", "math.Float64frombits"], unfollowed := true, recurses := true, named := ["internal/strconv.uint64pow10", "math/bits.deBruijn32tab", "math/bits.deBruijn64tab"], plainKeys := false, apart := false, laid := [("math/bits.deBruijn32tab", laid_math_bits_deBruijn32tab), ("math/bits.deBruijn64tab", laid_math_bits_deBruijn64tab), ("internal/strconv.uint64pow10", laid_internal_strconv_uint64pow10)] }
def TrapSetPrototypeOfSaid : Prop := trapSetPrototypeOfRow.holds Tryz.pinned (OpenSpec.ofChange trapSetPrototypeOfSpec)

/-- ITS FALSE NEIGHBOUR: 'it returns false'. Refute it at one input. -/
def trapSetPrototypeOfWrong : ChangeSpec := { name := "trapSetPrototypeOf", fn := fun _ => fun
  | [d1, d2, d3, d4] => { results := [.lit (.bool false)], args := [d1, d2, d3, d4] }
  | _ => none }
def TrapSetPrototypeOfWrongFalsely : Prop := trapSetPrototypeOfRow.holds Tryz.pinned (OpenSpec.ofChange trapSetPrototypeOfWrong)

/-- 'bailifflaw16.TrapIsExtensible': WHATEVER THE INPUT: true; the input reads as it did. -/
def trapIsExtensibleSpec : ChangeSpec := { name := "trapIsExtensible", fn := fun _ => fun
  | [d1, d2] => { results := [.lit (.bool true)], args := [d1, d2] }
  | _ => none }
def trapIsExtensibleRow : OpenClaim := { program := "ytlfhlipdjjhldaagreatdoor", sum := "76c2bb2d4b271df56fbb4caaecaeff465f8bff4b73ea6b948482eebd0a51bc3b", func := "bailiff/bailifflaw16.TrapIsExtensible", spec := "trapIsExtensible", inPlace := ["math.archTrunc", "math.Float64bits", "math.Float64frombits"], unfollowed := true, recurses := true, named := ["internal/strconv.uint64pow10", "math/bits.deBruijn32tab", "math/bits.deBruijn64tab"], plainKeys := false, apart := false, laid := [("math/bits.deBruijn32tab", laid_math_bits_deBruijn32tab), ("math/bits.deBruijn64tab", laid_math_bits_deBruijn64tab), ("internal/strconv.uint64pow10", laid_internal_strconv_uint64pow10)] }
def TrapIsExtensibleSaid : Prop := trapIsExtensibleRow.holds Tryz.pinned (OpenSpec.ofChange trapIsExtensibleSpec)

/-- ITS FALSE NEIGHBOUR: 'it returns false'. Refute it at one input. -/
def trapIsExtensibleWrong : ChangeSpec := { name := "trapIsExtensible", fn := fun _ => fun
  | [d1, d2] => { results := [.lit (.bool false)], args := [d1, d2] }
  | _ => none }
def TrapIsExtensibleWrongFalsely : Prop := trapIsExtensibleRow.holds Tryz.pinned (OpenSpec.ofChange trapIsExtensibleWrong)

/-- 'bailifflaw16.TrapPreventExtensions': WHATEVER THE INPUT: true; the input reads as it did. -/
def trapPreventExtensionsSpec : ChangeSpec := { name := "trapPreventExtensions", fn := fun _ => fun
  | [d1, d2] => { results := [.lit (.bool true)], args := [d1, d2] }
  | _ => none }
def trapPreventExtensionsRow : OpenClaim := { program := "ytlfhlipdjjhldaagreatdoor", sum := "76c2bb2d4b271df56fbb4caaecaeff465f8bff4b73ea6b948482eebd0a51bc3b", func := "bailiff/bailifflaw16.TrapPreventExtensions", spec := "trapPreventExtensions", inPlace := ["math.archTrunc", "math.Float64bits", "math.Float64frombits"], unfollowed := true, recurses := true, named := ["internal/strconv.uint64pow10", "math/bits.deBruijn32tab", "math/bits.deBruijn64tab"], plainKeys := false, apart := false, laid := [("math/bits.deBruijn32tab", laid_math_bits_deBruijn32tab), ("math/bits.deBruijn64tab", laid_math_bits_deBruijn64tab), ("internal/strconv.uint64pow10", laid_internal_strconv_uint64pow10)] }
def TrapPreventExtensionsSaid : Prop := trapPreventExtensionsRow.holds Tryz.pinned (OpenSpec.ofChange trapPreventExtensionsSpec)

/-- ITS FALSE NEIGHBOUR: 'it returns false'. Refute it at one input. -/
def trapPreventExtensionsWrong : ChangeSpec := { name := "trapPreventExtensions", fn := fun _ => fun
  | [d1, d2] => { results := [.lit (.bool false)], args := [d1, d2] }
  | _ => none }
def TrapPreventExtensionsWrongFalsely : Prop := trapPreventExtensionsRow.holds Tryz.pinned (OpenSpec.ofChange trapPreventExtensionsWrong)

/-- 'bailifflaw16.TrapGetOwnProperty': WHATEVER THE INPUT: true; the input reads as it did. -/
def trapGetOwnPropertySpec : ChangeSpec := { name := "trapGetOwnProperty", fn := fun _ => fun
  | [d1, d2, d3, d4, d5, d6] => { results := [.lit (.bool true)], args := [d1, d2, d3, d4, d5, d6] }
  | _ => none }
def trapGetOwnPropertyRow : OpenClaim := { program := "ytlfhlipdjjhldaagreatdoor", sum := "76c2bb2d4b271df56fbb4caaecaeff465f8bff4b73ea6b948482eebd0a51bc3b", func := "bailiff/bailifflaw16.TrapGetOwnProperty", spec := "trapGetOwnProperty", inPlace := ["math.archTrunc", "math.Float64bits", "math.Float64frombits"], unfollowed := true, recurses := true, named := ["internal/strconv.uint64pow10", "math/bits.deBruijn32tab", "math/bits.deBruijn64tab"], plainKeys := false, apart := false, laid := [("math/bits.deBruijn32tab", laid_math_bits_deBruijn32tab), ("math/bits.deBruijn64tab", laid_math_bits_deBruijn64tab), ("internal/strconv.uint64pow10", laid_internal_strconv_uint64pow10)] }
def TrapGetOwnPropertySaid : Prop := trapGetOwnPropertyRow.holds Tryz.pinned (OpenSpec.ofChange trapGetOwnPropertySpec)

/-- ITS FALSE NEIGHBOUR: 'it returns false'. Refute it at one input. -/
def trapGetOwnPropertyWrong : ChangeSpec := { name := "trapGetOwnProperty", fn := fun _ => fun
  | [d1, d2, d3, d4, d5, d6] => { results := [.lit (.bool false)], args := [d1, d2, d3, d4, d5, d6] }
  | _ => none }
def TrapGetOwnPropertyWrongFalsely : Prop := trapGetOwnPropertyRow.holds Tryz.pinned (OpenSpec.ofChange trapGetOwnPropertyWrong)

/-- 'bailifflaw16.TrapDefineOwnProperty': WHATEVER THE INPUT: true; the input reads as it did. -/
def trapDefineOwnPropertySpec : ChangeSpec := { name := "trapDefineOwnProperty", fn := fun _ => fun
  | [d1, d2, d3, d4, d5, d6] => { results := [.lit (.bool true)], args := [d1, d2, d3, d4, d5, d6] }
  | _ => none }
def trapDefineOwnPropertyRow : OpenClaim := { program := "ytlfhlipdjjhldaagreatdoor", sum := "76c2bb2d4b271df56fbb4caaecaeff465f8bff4b73ea6b948482eebd0a51bc3b", func := "bailiff/bailifflaw16.TrapDefineOwnProperty", spec := "trapDefineOwnProperty", inPlace := ["math.archTrunc", "math.Float64bits", "math.Float64frombits"], unfollowed := true, recurses := true, named := ["internal/strconv.uint64pow10", "math/bits.deBruijn32tab", "math/bits.deBruijn64tab"], plainKeys := false, apart := false, laid := [("math/bits.deBruijn32tab", laid_math_bits_deBruijn32tab), ("math/bits.deBruijn64tab", laid_math_bits_deBruijn64tab), ("internal/strconv.uint64pow10", laid_internal_strconv_uint64pow10)] }
def TrapDefineOwnPropertySaid : Prop := trapDefineOwnPropertyRow.holds Tryz.pinned (OpenSpec.ofChange trapDefineOwnPropertySpec)

/-- ITS FALSE NEIGHBOUR: 'it returns false'. Refute it at one input. -/
def trapDefineOwnPropertyWrong : ChangeSpec := { name := "trapDefineOwnProperty", fn := fun _ => fun
  | [d1, d2, d3, d4, d5, d6] => { results := [.lit (.bool false)], args := [d1, d2, d3, d4, d5, d6] }
  | _ => none }
def TrapDefineOwnPropertyWrongFalsely : Prop := trapDefineOwnPropertyRow.holds Tryz.pinned (OpenSpec.ofChange trapDefineOwnPropertyWrong)

/-- 'bailifflaw16.TrapHasProperty': WHATEVER THE INPUT: true; the input reads as it did. -/
def trapHasPropertySpec : ChangeSpec := { name := "trapHasProperty", fn := fun _ => fun
  | [d1, d2, d3, d4, d5] => { results := [.lit (.bool true)], args := [d1, d2, d3, d4, d5] }
  | _ => none }
def trapHasPropertyRow : OpenClaim := { program := "ytlfhlipdjjhldaagreatdoor", sum := "76c2bb2d4b271df56fbb4caaecaeff465f8bff4b73ea6b948482eebd0a51bc3b", func := "bailiff/bailifflaw16.TrapHasProperty", spec := "trapHasProperty", inPlace := ["math.archTrunc", "math.Float64bits", "math.Float64frombits"], unfollowed := true, recurses := true, named := ["internal/strconv.uint64pow10", "math/bits.deBruijn32tab", "math/bits.deBruijn64tab"], plainKeys := false, apart := false, laid := [("math/bits.deBruijn32tab", laid_math_bits_deBruijn32tab), ("math/bits.deBruijn64tab", laid_math_bits_deBruijn64tab), ("internal/strconv.uint64pow10", laid_internal_strconv_uint64pow10)] }
def TrapHasPropertySaid : Prop := trapHasPropertyRow.holds Tryz.pinned (OpenSpec.ofChange trapHasPropertySpec)

/-- ITS FALSE NEIGHBOUR: 'it returns false'. Refute it at one input. -/
def trapHasPropertyWrong : ChangeSpec := { name := "trapHasProperty", fn := fun _ => fun
  | [d1, d2, d3, d4, d5] => { results := [.lit (.bool false)], args := [d1, d2, d3, d4, d5] }
  | _ => none }
def TrapHasPropertyWrongFalsely : Prop := trapHasPropertyRow.holds Tryz.pinned (OpenSpec.ofChange trapHasPropertyWrong)

/-- 'bailifflaw16.TrapGet': WHATEVER THE INPUT: true; the input reads as it did. -/
def trapGetSpec : ChangeSpec := { name := "trapGet", fn := fun _ => fun
  | [d1, d2, d3, d4, d5] => { results := [.lit (.bool true)], args := [d1, d2, d3, d4, d5] }
  | _ => none }
def trapGetRow : OpenClaim := { program := "ytlfhlipdjjhldaagreatdoor", sum := "76c2bb2d4b271df56fbb4caaecaeff465f8bff4b73ea6b948482eebd0a51bc3b", func := "bailiff/bailifflaw16.TrapGet", spec := "trapGet", inPlace := ["math.archTrunc", "math.Float64bits", "math.Float64frombits"], unfollowed := true, recurses := true, named := ["internal/strconv.uint64pow10", "math/bits.deBruijn32tab", "math/bits.deBruijn64tab"], plainKeys := false, apart := false, laid := [("math/bits.deBruijn32tab", laid_math_bits_deBruijn32tab), ("math/bits.deBruijn64tab", laid_math_bits_deBruijn64tab), ("internal/strconv.uint64pow10", laid_internal_strconv_uint64pow10)] }
def TrapGetSaid : Prop := trapGetRow.holds Tryz.pinned (OpenSpec.ofChange trapGetSpec)

/-- ITS FALSE NEIGHBOUR: 'it returns false'. Refute it at one input. -/
def trapGetWrong : ChangeSpec := { name := "trapGet", fn := fun _ => fun
  | [d1, d2, d3, d4, d5] => { results := [.lit (.bool false)], args := [d1, d2, d3, d4, d5] }
  | _ => none }
def TrapGetWrongFalsely : Prop := trapGetRow.holds Tryz.pinned (OpenSpec.ofChange trapGetWrong)

/-- 'bailifflaw16.TrapSet': WHATEVER THE INPUT: true; the input reads as it did. -/
def trapSetSpec : ChangeSpec := { name := "trapSet", fn := fun _ => fun
  | [d1, d2, d3, d4, d5] => { results := [.lit (.bool true)], args := [d1, d2, d3, d4, d5] }
  | _ => none }
def trapSetRow : OpenClaim := { program := "ytlfhlipdjjhldaagreatdoor", sum := "76c2bb2d4b271df56fbb4caaecaeff465f8bff4b73ea6b948482eebd0a51bc3b", func := "bailiff/bailifflaw16.TrapSet", spec := "trapSet", inPlace := ["math.archTrunc", "math.Float64bits", "math.Float64frombits"], unfollowed := true, recurses := true, named := ["internal/strconv.uint64pow10", "math/bits.deBruijn32tab", "math/bits.deBruijn64tab"], plainKeys := false, apart := false, laid := [("math/bits.deBruijn32tab", laid_math_bits_deBruijn32tab), ("math/bits.deBruijn64tab", laid_math_bits_deBruijn64tab), ("internal/strconv.uint64pow10", laid_internal_strconv_uint64pow10)] }
def TrapSetSaid : Prop := trapSetRow.holds Tryz.pinned (OpenSpec.ofChange trapSetSpec)

/-- ITS FALSE NEIGHBOUR: 'it returns false'. Refute it at one input. -/
def trapSetWrong : ChangeSpec := { name := "trapSet", fn := fun _ => fun
  | [d1, d2, d3, d4, d5] => { results := [.lit (.bool false)], args := [d1, d2, d3, d4, d5] }
  | _ => none }
def TrapSetWrongFalsely : Prop := trapSetRow.holds Tryz.pinned (OpenSpec.ofChange trapSetWrong)

/-- 'bailifflaw16.TrapDelete': WHATEVER THE INPUT: true; the input reads as it did. -/
def trapDeleteSpec : ChangeSpec := { name := "trapDelete", fn := fun _ => fun
  | [d1, d2, d3, d4, d5] => { results := [.lit (.bool true)], args := [d1, d2, d3, d4, d5] }
  | _ => none }
def trapDeleteRow : OpenClaim := { program := "ytlfhlipdjjhldaagreatdoor", sum := "76c2bb2d4b271df56fbb4caaecaeff465f8bff4b73ea6b948482eebd0a51bc3b", func := "bailiff/bailifflaw16.TrapDelete", spec := "trapDelete", inPlace := ["math.archTrunc", "math.Float64bits", "math.Float64frombits"], unfollowed := true, recurses := true, named := ["internal/strconv.uint64pow10", "math/bits.deBruijn32tab", "math/bits.deBruijn64tab"], plainKeys := false, apart := false, laid := [("math/bits.deBruijn32tab", laid_math_bits_deBruijn32tab), ("math/bits.deBruijn64tab", laid_math_bits_deBruijn64tab), ("internal/strconv.uint64pow10", laid_internal_strconv_uint64pow10)] }
def TrapDeleteSaid : Prop := trapDeleteRow.holds Tryz.pinned (OpenSpec.ofChange trapDeleteSpec)

/-- ITS FALSE NEIGHBOUR: 'it returns false'. Refute it at one input. -/
def trapDeleteWrong : ChangeSpec := { name := "trapDelete", fn := fun _ => fun
  | [d1, d2, d3, d4, d5] => { results := [.lit (.bool false)], args := [d1, d2, d3, d4, d5] }
  | _ => none }
def TrapDeleteWrongFalsely : Prop := trapDeleteRow.holds Tryz.pinned (OpenSpec.ofChange trapDeleteWrong)

/-- 'bailifflaw16.TrapOwnKeys': WHATEVER THE INPUT: true; the input reads as it did. -/
def trapOwnKeysSpec : ChangeSpec := { name := "trapOwnKeys", fn := fun _ => fun
  | [d1, d2, d3, d4] => { results := [.lit (.bool true)], args := [d1, d2, d3, d4] }
  | _ => none }
def trapOwnKeysRow : OpenClaim := { program := "ytlfhlipdjjhldaagreatdoor", sum := "76c2bb2d4b271df56fbb4caaecaeff465f8bff4b73ea6b948482eebd0a51bc3b", func := "bailiff/bailifflaw16.TrapOwnKeys", spec := "trapOwnKeys", inPlace := ["math.archTrunc", "math.Float64bits", "math.Float64frombits"], unfollowed := true, recurses := true, named := ["internal/strconv.uint64pow10", "math/bits.deBruijn32tab", "math/bits.deBruijn64tab"], plainKeys := false, apart := false, laid := [("math/bits.deBruijn32tab", laid_math_bits_deBruijn32tab), ("math/bits.deBruijn64tab", laid_math_bits_deBruijn64tab), ("internal/strconv.uint64pow10", laid_internal_strconv_uint64pow10)] }
def TrapOwnKeysSaid : Prop := trapOwnKeysRow.holds Tryz.pinned (OpenSpec.ofChange trapOwnKeysSpec)

/-- ITS FALSE NEIGHBOUR: 'it returns false'. Refute it at one input. -/
def trapOwnKeysWrong : ChangeSpec := { name := "trapOwnKeys", fn := fun _ => fun
  | [d1, d2, d3, d4] => { results := [.lit (.bool false)], args := [d1, d2, d3, d4] }
  | _ => none }
def TrapOwnKeysWrongFalsely : Prop := trapOwnKeysRow.holds Tryz.pinned (OpenSpec.ofChange trapOwnKeysWrong)

/-- 'bailifflaw16.TrapCall': WHATEVER THE INPUT: true; the input reads as it did. -/
def trapCallSpec : ChangeSpec := { name := "trapCall", fn := fun _ => fun
  | [d1, d2, d3] => { results := [.lit (.bool true)], args := [d1, d2, d3] }
  | _ => none }
def trapCallRow : OpenClaim := { program := "ytlfhlipdjjhldaagreatdoor", sum := "76c2bb2d4b271df56fbb4caaecaeff465f8bff4b73ea6b948482eebd0a51bc3b", func := "bailiff/bailifflaw16.TrapCall", spec := "trapCall", inPlace := ["math.archTrunc", "math.Float64bits", "math.Float64frombits"], unfollowed := true, recurses := true, named := ["internal/strconv.uint64pow10", "math/bits.deBruijn32tab", "math/bits.deBruijn64tab"], plainKeys := false, apart := false, laid := [("math/bits.deBruijn32tab", laid_math_bits_deBruijn32tab), ("math/bits.deBruijn64tab", laid_math_bits_deBruijn64tab), ("internal/strconv.uint64pow10", laid_internal_strconv_uint64pow10)] }
def TrapCallSaid : Prop := trapCallRow.holds Tryz.pinned (OpenSpec.ofChange trapCallSpec)

/-- ITS FALSE NEIGHBOUR: 'it returns false'. Refute it at one input. -/
def trapCallWrong : ChangeSpec := { name := "trapCall", fn := fun _ => fun
  | [d1, d2, d3] => { results := [.lit (.bool false)], args := [d1, d2, d3] }
  | _ => none }
def TrapCallWrongFalsely : Prop := trapCallRow.holds Tryz.pinned (OpenSpec.ofChange trapCallWrong)

/-- 'bailifflaw16.TrapConstruct': WHATEVER THE INPUT: true; the input reads as it did. -/
def trapConstructSpec : ChangeSpec := { name := "trapConstruct", fn := fun _ => fun
  | [d1, d2] => { results := [.lit (.bool true)], args := [d1, d2] }
  | _ => none }
def trapConstructRow : OpenClaim := { program := "ytlfhlipdjjhldaagreatdoor", sum := "76c2bb2d4b271df56fbb4caaecaeff465f8bff4b73ea6b948482eebd0a51bc3b", func := "bailiff/bailifflaw16.TrapConstruct", spec := "trapConstruct", inPlace := ["math.archTrunc", "math.Float64bits", "math.Float64frombits"], unfollowed := true, recurses := true, named := ["internal/strconv.uint64pow10", "math/bits.deBruijn32tab", "math/bits.deBruijn64tab"], plainKeys := false, apart := false, laid := [("math/bits.deBruijn32tab", laid_math_bits_deBruijn32tab), ("math/bits.deBruijn64tab", laid_math_bits_deBruijn64tab), ("internal/strconv.uint64pow10", laid_internal_strconv_uint64pow10)] }
def TrapConstructSaid : Prop := trapConstructRow.holds Tryz.pinned (OpenSpec.ofChange trapConstructSpec)

/-- ITS FALSE NEIGHBOUR: 'it returns false'. Refute it at one input. -/
def trapConstructWrong : ChangeSpec := { name := "trapConstruct", fn := fun _ => fun
  | [d1, d2] => { results := [.lit (.bool false)], args := [d1, d2] }
  | _ => none }
def TrapConstructWrongFalsely : Prop := trapConstructRow.holds Tryz.pinned (OpenSpec.ofChange trapConstructWrong)

/- THE SECOND FORM. 'bulk': how many values and letters a reading holds, each counted each time it is reached (what is shared counts as often as it is met; a slice's spare places count too). A statement '..UptoSaid' is the law's where the arguments, and the package variables that the reading takes, are together of bulk at most 1048576: NARROWER than '..Said'. Prove '..Said' where nothing that the law and all that it calls make is longer than what came in: it says more and counts as full. Else prove '..UptoSaid'. A law counts once. -/
mutual
def uptoBulk {H : Type} : DataW H → Nat
  | .lit (.string bytes) => bytes.length + 1
  | .lit _ => 1
  | .nil => 1
  | .ptr d => uptoBulk d + 1
  | .slice elems spare => uptoBulkAll elems + uptoBulkAll spare + 1
  | .agg parts => uptoBulkAll parts + 1
  | .iface _ d => uptoBulk d + 1
  | .map entries => uptoBulkEntries entries + 1
  | .held _ => 1
def uptoBulkAll {H : Type} : List (DataW H) → Nat
  | [] => 0
  | d :: r => uptoBulk d + uptoBulkAll r
def uptoBulkEntries {H : Type} : List (Lit × DataW H) → Nat
  | [] => 0
  | x :: r => uptoBulkEntry x + uptoBulkEntries r
def uptoBulkEntry {H : Type} : Lit × DataW H → Nat
  | (.string bytes, d) => bytes.length + uptoBulk d + 1
  | (_, d) => uptoBulk d + 1
 end
def uptoSmall : (H : Type) → List (DataW H) → Bool := fun _ ds => decide (uptoBulkAll ds ≤ 1048576)
def OpenSpec.upto (s : _root_.Go.ChangeSpec) : _root_.Go.OpenSpec := { _root_.Go.OpenSpec.ofChange s with cond := some uptoSmall }

/-- 'bailifflaw16.TrapNames', WHERE WHAT IT READS IS OF BULK AT MOST 1048576: true; the input reads as it did. -/
def trapNamesUptoRow : OpenClaim := { program := "ytlfhlipdjjhldaagreatdoor", sum := "76c2bb2d4b271df56fbb4caaecaeff465f8bff4b73ea6b948482eebd0a51bc3b", func := "bailiff/bailifflaw16.TrapNames", spec := "trapNames", inPlace := ["math.archTrunc", "math.Float64bits", "math.Float64frombits"], unfollowed := true, recurses := true, named := ["internal/strconv.uint64pow10", "math/bits.deBruijn32tab", "math/bits.deBruijn64tab"], plainKeys := false, apart := false, laid := [("math/bits.deBruijn32tab", laid_math_bits_deBruijn32tab), ("math/bits.deBruijn64tab", laid_math_bits_deBruijn64tab), ("internal/strconv.uint64pow10", laid_internal_strconv_uint64pow10)], narrowed := true }
def TrapNamesUptoSaid : Prop := trapNamesUptoRow.holds Tryz.pinned (OpenSpec.upto trapNamesSpec)

/-- 'bailifflaw16.TrapChecks', WHERE WHAT IT READS IS OF BULK AT MOST 1048576: true; the input reads as it did. -/
def trapChecksUptoRow : OpenClaim := { program := "ytlfhlipdjjhldaagreatdoor", sum := "76c2bb2d4b271df56fbb4caaecaeff465f8bff4b73ea6b948482eebd0a51bc3b", func := "bailiff/bailifflaw16.TrapChecks", spec := "trapChecks", inPlace := ["math.archTrunc", "math.Float64bits", "math.Float64frombits"], unfollowed := true, recurses := true, named := ["internal/strconv.uint64pow10", "math/bits.deBruijn32tab", "math/bits.deBruijn64tab"], plainKeys := false, apart := false, laid := [("math/bits.deBruijn32tab", laid_math_bits_deBruijn32tab), ("math/bits.deBruijn64tab", laid_math_bits_deBruijn64tab), ("internal/strconv.uint64pow10", laid_internal_strconv_uint64pow10)], narrowed := true }
def TrapChecksUptoSaid : Prop := trapChecksUptoRow.holds Tryz.pinned (OpenSpec.upto trapChecksSpec)

/-- 'bailifflaw16.TrapGetPrototypeOf', WHERE WHAT IT READS IS OF BULK AT MOST 1048576: true; the input reads as it did. -/
def trapGetPrototypeOfUptoRow : OpenClaim := { program := "ytlfhlipdjjhldaagreatdoor", sum := "76c2bb2d4b271df56fbb4caaecaeff465f8bff4b73ea6b948482eebd0a51bc3b", func := "bailiff/bailifflaw16.TrapGetPrototypeOf", spec := "trapGetPrototypeOf", inPlace := ["math.archTrunc", "math.Float64bits", "math.Float64frombits"], unfollowed := true, recurses := true, named := ["internal/strconv.uint64pow10", "math/bits.deBruijn32tab", "math/bits.deBruijn64tab"], plainKeys := false, apart := false, laid := [("math/bits.deBruijn32tab", laid_math_bits_deBruijn32tab), ("math/bits.deBruijn64tab", laid_math_bits_deBruijn64tab), ("internal/strconv.uint64pow10", laid_internal_strconv_uint64pow10)], narrowed := true }
def TrapGetPrototypeOfUptoSaid : Prop := trapGetPrototypeOfUptoRow.holds Tryz.pinned (OpenSpec.upto trapGetPrototypeOfSpec)

/-- 'bailifflaw16.TrapSetPrototypeOf', WHERE WHAT IT READS IS OF BULK AT MOST 1048576: true; the input reads as it did. -/
def trapSetPrototypeOfUptoRow : OpenClaim := { program := "ytlfhlipdjjhldaagreatdoor", sum := "76c2bb2d4b271df56fbb4caaecaeff465f8bff4b73ea6b948482eebd0a51bc3b", func := "bailiff/bailifflaw16.TrapSetPrototypeOf", spec := "trapSetPrototypeOf", inPlace := ["math.archTrunc", "math.Float64bits", "math.Float64frombits"], unfollowed := true, recurses := true, named := ["internal/strconv.uint64pow10", "math/bits.deBruijn32tab", "math/bits.deBruijn64tab"], plainKeys := false, apart := false, laid := [("math/bits.deBruijn32tab", laid_math_bits_deBruijn32tab), ("math/bits.deBruijn64tab", laid_math_bits_deBruijn64tab), ("internal/strconv.uint64pow10", laid_internal_strconv_uint64pow10)], narrowed := true }
def TrapSetPrototypeOfUptoSaid : Prop := trapSetPrototypeOfUptoRow.holds Tryz.pinned (OpenSpec.upto trapSetPrototypeOfSpec)

/-- 'bailifflaw16.TrapIsExtensible', WHERE WHAT IT READS IS OF BULK AT MOST 1048576: true; the input reads as it did. -/
def trapIsExtensibleUptoRow : OpenClaim := { program := "ytlfhlipdjjhldaagreatdoor", sum := "76c2bb2d4b271df56fbb4caaecaeff465f8bff4b73ea6b948482eebd0a51bc3b", func := "bailiff/bailifflaw16.TrapIsExtensible", spec := "trapIsExtensible", inPlace := ["math.archTrunc", "math.Float64bits", "math.Float64frombits"], unfollowed := true, recurses := true, named := ["internal/strconv.uint64pow10", "math/bits.deBruijn32tab", "math/bits.deBruijn64tab"], plainKeys := false, apart := false, laid := [("math/bits.deBruijn32tab", laid_math_bits_deBruijn32tab), ("math/bits.deBruijn64tab", laid_math_bits_deBruijn64tab), ("internal/strconv.uint64pow10", laid_internal_strconv_uint64pow10)], narrowed := true }
def TrapIsExtensibleUptoSaid : Prop := trapIsExtensibleUptoRow.holds Tryz.pinned (OpenSpec.upto trapIsExtensibleSpec)

/-- 'bailifflaw16.TrapPreventExtensions', WHERE WHAT IT READS IS OF BULK AT MOST 1048576: true; the input reads as it did. -/
def trapPreventExtensionsUptoRow : OpenClaim := { program := "ytlfhlipdjjhldaagreatdoor", sum := "76c2bb2d4b271df56fbb4caaecaeff465f8bff4b73ea6b948482eebd0a51bc3b", func := "bailiff/bailifflaw16.TrapPreventExtensions", spec := "trapPreventExtensions", inPlace := ["math.archTrunc", "math.Float64bits", "math.Float64frombits"], unfollowed := true, recurses := true, named := ["internal/strconv.uint64pow10", "math/bits.deBruijn32tab", "math/bits.deBruijn64tab"], plainKeys := false, apart := false, laid := [("math/bits.deBruijn32tab", laid_math_bits_deBruijn32tab), ("math/bits.deBruijn64tab", laid_math_bits_deBruijn64tab), ("internal/strconv.uint64pow10", laid_internal_strconv_uint64pow10)], narrowed := true }
def TrapPreventExtensionsUptoSaid : Prop := trapPreventExtensionsUptoRow.holds Tryz.pinned (OpenSpec.upto trapPreventExtensionsSpec)

/-- 'bailifflaw16.TrapGetOwnProperty', WHERE WHAT IT READS IS OF BULK AT MOST 1048576: true; the input reads as it did. -/
def trapGetOwnPropertyUptoRow : OpenClaim := { program := "ytlfhlipdjjhldaagreatdoor", sum := "76c2bb2d4b271df56fbb4caaecaeff465f8bff4b73ea6b948482eebd0a51bc3b", func := "bailiff/bailifflaw16.TrapGetOwnProperty", spec := "trapGetOwnProperty", inPlace := ["math.archTrunc", "math.Float64bits", "math.Float64frombits"], unfollowed := true, recurses := true, named := ["internal/strconv.uint64pow10", "math/bits.deBruijn32tab", "math/bits.deBruijn64tab"], plainKeys := false, apart := false, laid := [("math/bits.deBruijn32tab", laid_math_bits_deBruijn32tab), ("math/bits.deBruijn64tab", laid_math_bits_deBruijn64tab), ("internal/strconv.uint64pow10", laid_internal_strconv_uint64pow10)], narrowed := true }
def TrapGetOwnPropertyUptoSaid : Prop := trapGetOwnPropertyUptoRow.holds Tryz.pinned (OpenSpec.upto trapGetOwnPropertySpec)

/-- 'bailifflaw16.TrapDefineOwnProperty', WHERE WHAT IT READS IS OF BULK AT MOST 1048576: true; the input reads as it did. -/
def trapDefineOwnPropertyUptoRow : OpenClaim := { program := "ytlfhlipdjjhldaagreatdoor", sum := "76c2bb2d4b271df56fbb4caaecaeff465f8bff4b73ea6b948482eebd0a51bc3b", func := "bailiff/bailifflaw16.TrapDefineOwnProperty", spec := "trapDefineOwnProperty", inPlace := ["math.archTrunc", "math.Float64bits", "math.Float64frombits"], unfollowed := true, recurses := true, named := ["internal/strconv.uint64pow10", "math/bits.deBruijn32tab", "math/bits.deBruijn64tab"], plainKeys := false, apart := false, laid := [("math/bits.deBruijn32tab", laid_math_bits_deBruijn32tab), ("math/bits.deBruijn64tab", laid_math_bits_deBruijn64tab), ("internal/strconv.uint64pow10", laid_internal_strconv_uint64pow10)], narrowed := true }
def TrapDefineOwnPropertyUptoSaid : Prop := trapDefineOwnPropertyUptoRow.holds Tryz.pinned (OpenSpec.upto trapDefineOwnPropertySpec)

/-- 'bailifflaw16.TrapHasProperty', WHERE WHAT IT READS IS OF BULK AT MOST 1048576: true; the input reads as it did. -/
def trapHasPropertyUptoRow : OpenClaim := { program := "ytlfhlipdjjhldaagreatdoor", sum := "76c2bb2d4b271df56fbb4caaecaeff465f8bff4b73ea6b948482eebd0a51bc3b", func := "bailiff/bailifflaw16.TrapHasProperty", spec := "trapHasProperty", inPlace := ["math.archTrunc", "math.Float64bits", "math.Float64frombits"], unfollowed := true, recurses := true, named := ["internal/strconv.uint64pow10", "math/bits.deBruijn32tab", "math/bits.deBruijn64tab"], plainKeys := false, apart := false, laid := [("math/bits.deBruijn32tab", laid_math_bits_deBruijn32tab), ("math/bits.deBruijn64tab", laid_math_bits_deBruijn64tab), ("internal/strconv.uint64pow10", laid_internal_strconv_uint64pow10)], narrowed := true }
def TrapHasPropertyUptoSaid : Prop := trapHasPropertyUptoRow.holds Tryz.pinned (OpenSpec.upto trapHasPropertySpec)

/-- 'bailifflaw16.TrapGet', WHERE WHAT IT READS IS OF BULK AT MOST 1048576: true; the input reads as it did. -/
def trapGetUptoRow : OpenClaim := { program := "ytlfhlipdjjhldaagreatdoor", sum := "76c2bb2d4b271df56fbb4caaecaeff465f8bff4b73ea6b948482eebd0a51bc3b", func := "bailiff/bailifflaw16.TrapGet", spec := "trapGet", inPlace := ["math.archTrunc", "math.Float64bits", "math.Float64frombits"], unfollowed := true, recurses := true, named := ["internal/strconv.uint64pow10", "math/bits.deBruijn32tab", "math/bits.deBruijn64tab"], plainKeys := false, apart := false, laid := [("math/bits.deBruijn32tab", laid_math_bits_deBruijn32tab), ("math/bits.deBruijn64tab", laid_math_bits_deBruijn64tab), ("internal/strconv.uint64pow10", laid_internal_strconv_uint64pow10)], narrowed := true }
def TrapGetUptoSaid : Prop := trapGetUptoRow.holds Tryz.pinned (OpenSpec.upto trapGetSpec)

/-- 'bailifflaw16.TrapSet', WHERE WHAT IT READS IS OF BULK AT MOST 1048576: true; the input reads as it did. -/
def trapSetUptoRow : OpenClaim := { program := "ytlfhlipdjjhldaagreatdoor", sum := "76c2bb2d4b271df56fbb4caaecaeff465f8bff4b73ea6b948482eebd0a51bc3b", func := "bailiff/bailifflaw16.TrapSet", spec := "trapSet", inPlace := ["math.archTrunc", "math.Float64bits", "math.Float64frombits"], unfollowed := true, recurses := true, named := ["internal/strconv.uint64pow10", "math/bits.deBruijn32tab", "math/bits.deBruijn64tab"], plainKeys := false, apart := false, laid := [("math/bits.deBruijn32tab", laid_math_bits_deBruijn32tab), ("math/bits.deBruijn64tab", laid_math_bits_deBruijn64tab), ("internal/strconv.uint64pow10", laid_internal_strconv_uint64pow10)], narrowed := true }
def TrapSetUptoSaid : Prop := trapSetUptoRow.holds Tryz.pinned (OpenSpec.upto trapSetSpec)

/-- 'bailifflaw16.TrapDelete', WHERE WHAT IT READS IS OF BULK AT MOST 1048576: true; the input reads as it did. -/
def trapDeleteUptoRow : OpenClaim := { program := "ytlfhlipdjjhldaagreatdoor", sum := "76c2bb2d4b271df56fbb4caaecaeff465f8bff4b73ea6b948482eebd0a51bc3b", func := "bailiff/bailifflaw16.TrapDelete", spec := "trapDelete", inPlace := ["math.archTrunc", "math.Float64bits", "math.Float64frombits"], unfollowed := true, recurses := true, named := ["internal/strconv.uint64pow10", "math/bits.deBruijn32tab", "math/bits.deBruijn64tab"], plainKeys := false, apart := false, laid := [("math/bits.deBruijn32tab", laid_math_bits_deBruijn32tab), ("math/bits.deBruijn64tab", laid_math_bits_deBruijn64tab), ("internal/strconv.uint64pow10", laid_internal_strconv_uint64pow10)], narrowed := true }
def TrapDeleteUptoSaid : Prop := trapDeleteUptoRow.holds Tryz.pinned (OpenSpec.upto trapDeleteSpec)

/-- 'bailifflaw16.TrapOwnKeys', WHERE WHAT IT READS IS OF BULK AT MOST 1048576: true; the input reads as it did. -/
def trapOwnKeysUptoRow : OpenClaim := { program := "ytlfhlipdjjhldaagreatdoor", sum := "76c2bb2d4b271df56fbb4caaecaeff465f8bff4b73ea6b948482eebd0a51bc3b", func := "bailiff/bailifflaw16.TrapOwnKeys", spec := "trapOwnKeys", inPlace := ["math.archTrunc", "math.Float64bits", "math.Float64frombits"], unfollowed := true, recurses := true, named := ["internal/strconv.uint64pow10", "math/bits.deBruijn32tab", "math/bits.deBruijn64tab"], plainKeys := false, apart := false, laid := [("math/bits.deBruijn32tab", laid_math_bits_deBruijn32tab), ("math/bits.deBruijn64tab", laid_math_bits_deBruijn64tab), ("internal/strconv.uint64pow10", laid_internal_strconv_uint64pow10)], narrowed := true }
def TrapOwnKeysUptoSaid : Prop := trapOwnKeysUptoRow.holds Tryz.pinned (OpenSpec.upto trapOwnKeysSpec)

/-- 'bailifflaw16.TrapCall', WHERE WHAT IT READS IS OF BULK AT MOST 1048576: true; the input reads as it did. -/
def trapCallUptoRow : OpenClaim := { program := "ytlfhlipdjjhldaagreatdoor", sum := "76c2bb2d4b271df56fbb4caaecaeff465f8bff4b73ea6b948482eebd0a51bc3b", func := "bailiff/bailifflaw16.TrapCall", spec := "trapCall", inPlace := ["math.archTrunc", "math.Float64bits", "math.Float64frombits"], unfollowed := true, recurses := true, named := ["internal/strconv.uint64pow10", "math/bits.deBruijn32tab", "math/bits.deBruijn64tab"], plainKeys := false, apart := false, laid := [("math/bits.deBruijn32tab", laid_math_bits_deBruijn32tab), ("math/bits.deBruijn64tab", laid_math_bits_deBruijn64tab), ("internal/strconv.uint64pow10", laid_internal_strconv_uint64pow10)], narrowed := true }
def TrapCallUptoSaid : Prop := trapCallUptoRow.holds Tryz.pinned (OpenSpec.upto trapCallSpec)

/-- 'bailifflaw16.TrapConstruct', WHERE WHAT IT READS IS OF BULK AT MOST 1048576: true; the input reads as it did. -/
def trapConstructUptoRow : OpenClaim := { program := "ytlfhlipdjjhldaagreatdoor", sum := "76c2bb2d4b271df56fbb4caaecaeff465f8bff4b73ea6b948482eebd0a51bc3b", func := "bailiff/bailifflaw16.TrapConstruct", spec := "trapConstruct", inPlace := ["math.archTrunc", "math.Float64bits", "math.Float64frombits"], unfollowed := true, recurses := true, named := ["internal/strconv.uint64pow10", "math/bits.deBruijn32tab", "math/bits.deBruijn64tab"], plainKeys := false, apart := false, laid := [("math/bits.deBruijn32tab", laid_math_bits_deBruijn32tab), ("math/bits.deBruijn64tab", laid_math_bits_deBruijn64tab), ("internal/strconv.uint64pow10", laid_internal_strconv_uint64pow10)], narrowed := true }
def TrapConstructUptoSaid : Prop := trapConstructUptoRow.holds Tryz.pinned (OpenSpec.upto trapConstructSpec)

end Rows
end Go.Proofs.YtlfhlipdjjhldaaGreatDoor
