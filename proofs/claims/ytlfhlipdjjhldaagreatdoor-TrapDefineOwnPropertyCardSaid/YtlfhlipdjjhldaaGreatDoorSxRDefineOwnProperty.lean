/- TrapDefineOwnProperty: its run, by the kernel, by what there is. Conditions: none. -/
import Derived.Test.YtlfhlipdjjhldaaGreatDoorSxMore
namespace Go.Proofs.YtlfhlipdjjhldaaGreatDoor
open Go Go.SX Go.RowKit
set_option maxRecDepth 1000000
theorem define_none : Tree.isTrue (Tr.law (Tr.C4 Tryz.prog X) 10 [.key, .desc, .val, .bool, .bool, .desc] [(.var 23, false)]) = true := by kernel_rfl
theorem define_51 : Tree.isTrue (Tr.law (Tr.C4 Tryz.prog X) 10 [.key, .desc, .val, .bool, .bool, .desc] [(.var 23, true), (isN 24 51, true)]) = true := by kernel_rfl
theorem define_60 : Tree.isTrue (Tr.law (Tr.C4 Tryz.prog X) 10 [.key, .desc, .val, .bool, .bool, .desc] [(.var 23, true), (isN 24 51, false), (isN 24 60, true)]) = true := by kernel_rfl
theorem define_other : Tree.isTrue (Tr.law (Tr.C4 Tryz.prog X) 10 [.key, .desc, .val, .bool, .bool, .desc] [(.var 23, true), (isN 24 51, false), (isN 24 60, false)]) = true := by kernel_rfl
theorem trapDefineOwnProperty_calls (W : World) {us xs : List Value} (hx : FitsAll (Tr.psOf [.key, .desc, .val, .bool, .bool, .desc]) xs us) (hg : ∀ v ∈ us, Good v) : Calls Tryz.prog 10 xs.toArray W fun e w' => e = .returned (.bool true) ∧ Below W.heap.size W w' := by
  obtain ⟨b, hb⟩ := var_bool (Y := Xc) hx (i := 23) rfl
  cases b with
  | false => exact law_calls C4_ok rfl rfl define_none W hx hg (facts1 hb facts0)
  | true =>
    obtain ⟨b1, h1⟩ := var_is (Y := Xc) hx 51 (i := 24) rfl
    cases b1 with
    | true => exact law_calls C4_ok rfl rfl define_51 W hx hg (facts1 hb (facts1 h1 facts0))
    | false =>
      obtain ⟨b2, h2⟩ := var_is (Y := Xc) hx 60 (i := 24) rfl
      cases b2 with
      | true => exact law_calls C4_ok rfl rfl define_60 W hx hg (facts1 hb (facts1 h1 (facts1 h2 facts0)))
      | false => exact law_calls C4_ok rfl rfl define_other W hx hg (facts1 hb (facts1 h1 (facts1 h2 facts0)))
end Go.Proofs.YtlfhlipdjjhldaaGreatDoor
