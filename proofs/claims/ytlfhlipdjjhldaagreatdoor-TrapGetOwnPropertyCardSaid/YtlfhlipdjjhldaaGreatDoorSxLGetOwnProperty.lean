/- TrapGetOwnProperty: the law and its tied card. Conditions: the given row's. -/
import Derived.Test.YtlfhlipdjjhldaaGreatDoorSxRGetOwnProperty
import Derived.Test.YtlfhlipdjjhldaaGreatDoorSxCard
namespace Go.Proofs.YtlfhlipdjjhldaaGreatDoor
open Go Go.SX Go.RowKit Go.ChangeShapes Go.WideShapes

set_option maxRecDepth 100000

theorem trapGetOwnProperty_lifted (os : Os) (started : os.Started) (H : Type) (enc : TypeId × Value → H) :
    ReturnsInHanded {} Tryz.checked os 9 .any (fun w args => (Rows.trapGetOwnPropertySpec.pre enc Tryz.prog Tryz.f9 Rows.trapGetOwnPropertyRow.domain false w args ∧ laidMetH Tryz.prog Rows.trapGetOwnPropertyRow.laid w) ∧ sizedMet enc Tryz.prog Tryz.f9 (OpenSpec.ofChange Rows.trapGetOwnPropertySpec) false w args)
      (Rows.trapGetOwnPropertySpec.post enc Tryz.prog Tryz.f9 false true false false) := by
  refine returnsInHanded_of_change_and (C := Tryz.checked) (X := fun w _ => laidMetH Tryz.prog Rows.trapGetOwnPropertyRow.laid w) (fun _ _ _ hh h => h.of_heap hh) own started (by kernel_rfl) Tryz.func9
    (ChangeSpec.witness_shaped (enc := enc) (C := Tryz.checked) (os := os) (X := fun w _ => laidMetH Tryz.prog Rows.trapGetOwnPropertyRow.laid w) false (World.laidAll Tryz.prog os Rows.trapGetOwnPropertyRow.laid) #[zero32, .bool false, zero26, .bool false, .bool false, zero26] 8 (World.laidAll_os _ _ _)
      (World.shaped_of_ZipB (by kernel_rfl) (by kernel_rfl)) (by kernel_rfl) (by kernel_rfl) (by kernel_rfl)
      (by rw [MakeChecks.laidMetH_plain _ _ _ (by kernel_rfl)]; exact laidMet_laidAll _ (by kernel_rfl) (by kernel_rfl))) ?_
  intro W base args ds gs before hval0 hW _ _ _ _
  have hval : ∀ (j : Nat) t v, Tryz.f9.params[j]? = some t → args[j]? = some v → Value.okWide Tryz.prog W .any base t v := hval0
  have hW' := hW
  obtain ⟨p, q, hA0, hV, rfl, _, _⟩ := hW
  have hA : DataW.TrodAll enc Tryz.prog W 0 (fun _ => true) true Tryz.f9.params.toList args.toList ds p := hA0
  rw [Tryz.params9] at hA hval
  obtain ⟨v0, v1, v2, v3, v4, v5, d0, d1, d2, d3, d4, d5, rfl, rfl⟩ := trodAll_six hA
  obtain ⟨rfl, rfl⟩ := trodVars_none hV
  clear hA0 hval0
  simp only [List.append_nil] at hW'
  obtain ⟨l0, f0, g0⟩ := fits32 (hval 0 32 v0 rfl rfl)
  obtain ⟨l1, f1, g1⟩ := fits4 (hval 1 4 v1 rfl rfl)
  obtain ⟨l2, f2, g2⟩ := fits26 (hval 2 26 v2 rfl rfl)
  obtain ⟨l3, f3, g3⟩ := fits4 (hval 3 4 v3 rfl rfl)
  obtain ⟨l4, f4, g4⟩ := fits4 (hval 4 4 v4 rfl rfl)
  obtain ⟨l5, f5, g5⟩ := fits26 (hval 5 26 v5 rfl rfl)
  refine (trapGetOwnProperty_calls W (.cons f0 (.cons f1 (.cons f2 (.cons f3 (.cons f4 (.cons f5 .nil)))))) (good_app g0 (good_app g1 (good_app g2 (good_app g3 (good_app g4 (good_app g5 good_nil))))))).mono fun e W' ⟨he, hb⟩ => ?_
  subst he
  have hlt : ∀ x ∈ p, x.block < W.heap.size := fun x hx => hW'.lt x (by simpa using hx)
  refine ⟨_, rfl, _, _, _, [], p, [], hW', trodAll_mk1 (shut_bool Tryz.underlying4 true), below_trodAll outLaid hb (readable_of (ts := [32, 4, 26, 4, 4, 26]) rfl) hA hlt, rfl, hb.frame _, fun h => by cases h⟩

theorem trapGetOwnProperty_said : Rows.TrapGetOwnPropertySaid :=
  OpenClaim.holds_of_wide 9 Tryz.f9 rfl rfl rfl rfl rfl rfl rfl ⟨rfl, rfl, rfl, rfl, rfl⟩ rfl rfl rfl rfl rfl (by kernel_rfl) Tryz.func9 (by kernel_rfl)
    (of_decide_eq_true (by kernel_rfl)) (by unfold Func.isWrapper; first | (rw [if_pos (by decide +kernel)]; kernel_rfl) | (rw [if_neg (by decide +kernel)]; exact ⟨rfl, rfl⟩))
    (fun os started H enc _ => trapGetOwnProperty_lifted os started H enc)

theorem trapGetOwnProperty_card_holds : Rows.TrapGetOwnPropertyCardSaid :=
  Claim7.holds_tied_plain_at .later [] [.data, .data, .data] true (true, "e4fbe56a8d8619279f133abbaaf0f33eef6536845780e155db5c8581f31ea403") false
    trapGetOwnProperty_said (fun _ h => by cases h) (by kernel_rfl) (fun _ h => by cases h) trapGetOwnProperty_row_tie rfl ⟨rfl, rfl⟩ (by kernel_rfl) rfl
    (fun f fn hf hfn => by
      obtain rfl : f = 9 := Option.some.inj ((show Tryz.prog.funcNamed "bailiff/bailifflaw16.TrapGetOwnProperty" = some 9 by kernel_rfl).symm.trans hf) |>.symm
      obtain rfl : fn = Tryz.f9 := (Option.some.inj (Tryz.func9.symm.trans hfn)).symm
      exact ⟨by kernel_rfl, fun j t ht => by
        rw [Tryz.params9] at ht
        exact noStand (ts := [32, 4, 26, 4, 4, 26]) rfl t (List.mem_of_getElem? (by simpa using ht))⟩)
    (by kernel_rfl)
#print axioms trapGetOwnProperty_card_holds
end Go.Proofs.YtlfhlipdjjhldaaGreatDoor
