/- TrapNames: the tied card. Conditions: the given row's. -/
import Derived.Test.YtlfhlipdjjhldaaGreatDoorSxLawNames
namespace Go.Proofs.YtlfhlipdjjhldaaGreatDoor
open Go

set_option maxRecDepth 100000
theorem trapNames_card_holds : Rows.TrapNamesCardSaid :=
  Claim7.holds_tied_plain_at .later [] [.data, .data, .data] true (true, "e4fbe56a8d8619279f133abbaaf0f33eef6536845780e155db5c8581f31ea403") false
    names_said (fun _ h => by cases h) (by kernel_rfl) (fun _ h => by cases h) trapNames_row_tie rfl ⟨rfl, rfl⟩ (by kernel_rfl) rfl
    (fun f fn hf hfn => by
      obtain rfl : f = 3 := Option.some.inj ((show Tryz.prog.funcNamed "bailiff/bailifflaw16.TrapNames" = some 3 by kernel_rfl).symm.trans hf) |>.symm
      obtain rfl : fn = Tryz.f3 := (Option.some.inj (Tryz.func3.symm.trans hfn)).symm
      exact ⟨by kernel_rfl, fun j t ht => by
        rw [Tryz.params3] at ht
        simp at ht⟩)
    (by kernel_rfl)
#print axioms trapNames_card_holds
end Go.Proofs.YtlfhlipdjjhldaaGreatDoor
