/- TrapDefineOwnProperty: the law and its tied card. Conditions: the given row's. -/
import Derived.Test.YtlfhlipdjjhldaaGreatDoorSxRDefineOwnProperty
import Derived.Test.YtlfhlipdjjhldaaGreatDoorSxCard
namespace Go.Proofs.YtlfhlipdjjhldaaGreatDoor
open Go Go.SX Go.RowKit Go.ChangeShapes Go.WideShapes

set_option maxRecDepth 100000

theorem trapDefineOwnProperty_lifted (os : Os) (started : os.Started) (H : Type) (enc : TypeId × Value → H) :
    ReturnsInHanded {} Tryz.checked os 10 .any (fun w args => (Rows.trapDefineOwnPropertySpec.pre enc Tryz.prog Tryz.f10 Rows.trapDefineOwnPropertyRow.domain false w args ∧ laidMetH Tryz.prog Rows.trapDefineOwnPropertyRow.laid w) ∧ sizedMet enc Tryz.prog Tryz.f10 (OpenSpec.ofChange Rows.trapDefineOwnPropertySpec) false w args)
      (Rows.trapDefineOwnPropertySpec.post enc Tryz.prog Tryz.f10 false true false false) := by
  refine returnsInHanded_of_change_and (C := Tryz.checked) (X := fun w _ => laidMetH Tryz.prog Rows.trapDefineOwnPropertyRow.laid w) (fun _ _ _ hh h => h.of_heap hh) own started (by kernel_rfl) Tryz.func10
    (ChangeSpec.witness_shaped (enc := enc) (C := Tryz.checked) (os := os) (X := fun w _ => laidMetH Tryz.prog Rows.trapDefineOwnPropertyRow.laid w) false (World.laidAll Tryz.prog os Rows.trapDefineOwnPropertyRow.laid) #[zero32, zero26, zero24, .bool false, .bool false, zero26] 8 (World.laidAll_os _ _ _)
      (World.shaped_of_ZipB (by kernel_rfl) (by kernel_rfl)) (by kernel_rfl) (by kernel_rfl) (by kernel_rfl)
      (by rw [MakeChecks.laidMetH_plain _ _ _ (by kernel_rfl)]; exact laidMet_laidAll _ (by kernel_rfl) (by kernel_rfl))) ?_
  intro W base args ds gs before hval0 hW _ _ _ _
  have hval : ∀ (j : Nat) t v, Tryz.f10.params[j]? = some t → args[j]? = some v → Value.okWide Tryz.prog W .any base t v := hval0
  have hW' := hW
  obtain ⟨p, q, hA0, hV, rfl, _, _⟩ := hW
  have hA : DataW.TrodAll enc Tryz.prog W 0 (fun _ => true) true Tryz.f10.params.toList args.toList ds p := hA0
  rw [Tryz.params10] at hA hval
  obtain ⟨v0, v1, v2, v3, v4, v5, d0, d1, d2, d3, d4, d5, rfl, rfl⟩ := trodAll_six hA
  obtain ⟨rfl, rfl⟩ := trodVars_none hV
  clear hA0 hval0
  simp only [List.append_nil] at hW'
  obtain ⟨l0, f0, g0⟩ := fits32 (hval 0 32 v0 rfl rfl)
  obtain ⟨l1, f1, g1⟩ := fits26 (hval 1 26 v1 rfl rfl)
  obtain ⟨l2, f2, g2⟩ := fits24 (hval 2 24 v2 rfl rfl)
  obtain ⟨l3, f3, g3⟩ := fits4 (hval 3 4 v3 rfl rfl)
  obtain ⟨l4, f4, g4⟩ := fits4 (hval 4 4 v4 rfl rfl)
  obtain ⟨l5, f5, g5⟩ := fits26 (hval 5 26 v5 rfl rfl)
  refine (trapDefineOwnProperty_calls W (.cons f0 (.cons f1 (.cons f2 (.cons f3 (.cons f4 (.cons f5 .nil)))))) (good_app g0 (good_app g1 (good_app g2 (good_app g3 (good_app g4 (good_app g5 good_nil))))))).mono fun e W' ⟨he, hb⟩ => ?_
  subst he
  have hlt : ∀ x ∈ p, x.block < W.heap.size := fun x hx => hW'.lt x (by simpa using hx)
  refine ⟨_, rfl, _, _, _, [], p, [], hW', trodAll_mk1 (shut_bool Tryz.underlying4 true), below_trodAll outLaid hb (readable_of (ts := [32, 26, 24, 4, 4, 26]) rfl) hA hlt, rfl, hb.frame _, fun h => by cases h⟩

theorem trapDefineOwnProperty_said : Rows.TrapDefineOwnPropertySaid :=
  OpenClaim.holds_of_wide 10 Tryz.f10 rfl rfl rfl rfl rfl rfl rfl ⟨rfl, rfl, rfl, rfl, rfl⟩ rfl rfl rfl rfl rfl (by kernel_rfl) Tryz.func10 (by kernel_rfl)
    (of_decide_eq_true (by kernel_rfl)) (by unfold Func.isWrapper; first | (rw [if_pos (by decide +kernel)]; kernel_rfl) | (rw [if_neg (by decide +kernel)]; exact ⟨rfl, rfl⟩))
    (fun os started H enc _ => trapDefineOwnProperty_lifted os started H enc)

theorem trapDefineOwnProperty_card_holds : Rows.TrapDefineOwnPropertyCardSaid :=
  Claim7.holds_tied_plain_at .later [] [.data, .data, .data] true (true, "e4fbe56a8d8619279f133abbaaf0f33eef6536845780e155db5c8581f31ea403") false
    trapDefineOwnProperty_said (fun _ h => by cases h) (by kernel_rfl) (fun _ h => by cases h) trapDefineOwnProperty_row_tie rfl ⟨rfl, rfl⟩ (by kernel_rfl) rfl
    (fun f fn hf hfn => by
      obtain rfl : f = 10 := Option.some.inj ((show Tryz.prog.funcNamed "bailiff/bailifflaw16.TrapDefineOwnProperty" = some 10 by kernel_rfl).symm.trans hf) |>.symm
      obtain rfl : fn = Tryz.f10 := (Option.some.inj (Tryz.func10.symm.trans hfn)).symm
      exact ⟨by kernel_rfl, fun j t ht => by
        rw [Tryz.params10] at ht
        exact noStand (ts := [32, 26, 24, 4, 4, 26]) rfl t (List.mem_of_getElem? (by simpa using ht))⟩)
    (by kernel_rfl)
#print axioms trapDefineOwnProperty_card_holds
end Go.Proofs.YtlfhlipdjjhldaaGreatDoor
