/- TrapGetPrototypeOf: the law and its tied card. Conditions: the given row's. -/
import Derived.Test.YtlfhlipdjjhldaaGreatDoorSxRGetPrototypeOf
import Derived.Test.YtlfhlipdjjhldaaGreatDoorSxCard
namespace Go.Proofs.YtlfhlipdjjhldaaGreatDoor
open Go Go.SX Go.RowKit Go.ChangeShapes Go.WideShapes

set_option maxRecDepth 100000

theorem trapGetPrototypeOf_lifted (os : Os) (started : os.Started) (H : Type) (enc : TypeId × Value → H) :
    ReturnsInHanded {} Tryz.checked os 5 .any (fun w args => (Rows.trapGetPrototypeOfSpec.pre enc Tryz.prog Tryz.f5 Rows.trapGetPrototypeOfRow.domain false w args ∧ laidMetH Tryz.prog Rows.trapGetPrototypeOfRow.laid w) ∧ sizedMet enc Tryz.prog Tryz.f5 (OpenSpec.ofChange Rows.trapGetPrototypeOfSpec) false w args)
      (Rows.trapGetPrototypeOfSpec.post enc Tryz.prog Tryz.f5 false true false false) := by
  refine returnsInHanded_of_change_and (C := Tryz.checked) (X := fun w _ => laidMetH Tryz.prog Rows.trapGetPrototypeOfRow.laid w) (fun _ _ _ hh h => h.of_heap hh) own started (by kernel_rfl) Tryz.func5
    (ChangeSpec.witness_shaped (enc := enc) (C := Tryz.checked) (os := os) (X := fun w _ => laidMetH Tryz.prog Rows.trapGetPrototypeOfRow.laid w) false (World.laidAll Tryz.prog os Rows.trapGetPrototypeOfRow.laid) #[zero24, .bool false, zero24] 8 (World.laidAll_os _ _ _)
      (World.shaped_of_ZipB (by kernel_rfl) (by kernel_rfl)) (by kernel_rfl) (by kernel_rfl) (by kernel_rfl)
      (by rw [MakeChecks.laidMetH_plain _ _ _ (by kernel_rfl)]; exact laidMet_laidAll _ (by kernel_rfl) (by kernel_rfl))) ?_
  intro W base args ds gs before hval0 hW _ _ _ _
  have hval : ∀ (j : Nat) t v, Tryz.f5.params[j]? = some t → args[j]? = some v → Value.okWide Tryz.prog W .any base t v := hval0
  have hW' := hW
  obtain ⟨p, q, hA0, hV, rfl, _, _⟩ := hW
  have hA : DataW.TrodAll enc Tryz.prog W 0 (fun _ => true) true Tryz.f5.params.toList args.toList ds p := hA0
  rw [Tryz.params5] at hA hval
  obtain ⟨v0, v1, v2, d0, d1, d2, rfl, rfl⟩ := trodAll_3 hA
  obtain ⟨rfl, rfl⟩ := trodVars_none hV
  clear hA0 hval0
  simp only [List.append_nil] at hW'
  obtain ⟨l0, f0, g0⟩ := fits24 (hval 0 24 v0 rfl rfl)
  obtain ⟨l1, f1, g1⟩ := fits4 (hval 1 4 v1 rfl rfl)
  obtain ⟨l2, f2, g2⟩ := fits24 (hval 2 24 v2 rfl rfl)
  refine (law_calls C3_ok rfl rfl trapGetPrototypeOf_tree W (.cons f0 (.cons f1 (.cons f2 .nil))) (good_app g0 (good_app g1 (good_app g2 good_nil))) (fun p hp => by cases hp)).mono fun e W' ⟨he, hb⟩ => ?_
  subst he
  have hlt : ∀ x ∈ p, x.block < W.heap.size := fun x hx => hW'.lt x (by simpa using hx)
  refine ⟨_, rfl, _, _, _, [], p, [], hW', trodAll_mk1 (shut_bool Tryz.underlying4 true), below_trodAll outLaid hb (readable_of (ts := [24, 4, 24]) rfl) hA hlt, rfl, hb.frame _, fun h => by cases h⟩

theorem trapGetPrototypeOf_said : Rows.TrapGetPrototypeOfSaid :=
  OpenClaim.holds_of_wide 5 Tryz.f5 rfl rfl rfl rfl rfl rfl rfl ⟨rfl, rfl, rfl, rfl, rfl⟩ rfl rfl rfl rfl rfl (by kernel_rfl) Tryz.func5 (by kernel_rfl)
    (of_decide_eq_true (by kernel_rfl)) (by unfold Func.isWrapper; first | (rw [if_pos (by decide +kernel)]; kernel_rfl) | (rw [if_neg (by decide +kernel)]; exact ⟨rfl, rfl⟩))
    (fun os started H enc _ => trapGetPrototypeOf_lifted os started H enc)

theorem trapGetPrototypeOf_card_holds : Rows.TrapGetPrototypeOfCardSaid :=
  Claim7.holds_tied_plain_at .later [] [.data, .data, .data] true (true, "e4fbe56a8d8619279f133abbaaf0f33eef6536845780e155db5c8581f31ea403") false
    trapGetPrototypeOf_said (fun _ h => by cases h) (by kernel_rfl) (fun _ h => by cases h) trapGetPrototypeOf_row_tie rfl ⟨rfl, rfl⟩ (by kernel_rfl) rfl
    (fun f fn hf hfn => by
      obtain rfl : f = 5 := Option.some.inj ((show Tryz.prog.funcNamed "bailiff/bailifflaw16.TrapGetPrototypeOf" = some 5 by kernel_rfl).symm.trans hf) |>.symm
      obtain rfl : fn = Tryz.f5 := (Option.some.inj (Tryz.func5.symm.trans hfn)).symm
      exact ⟨by kernel_rfl, fun j t ht => by
        rw [Tryz.params5] at ht
        exact noStand (ts := [24, 4, 24]) rfl t (List.mem_of_getElem? (by simpa using ht))⟩)
    (by kernel_rfl)
#print axioms trapGetPrototypeOf_card_holds
end Go.Proofs.YtlfhlipdjjhldaaGreatDoor
