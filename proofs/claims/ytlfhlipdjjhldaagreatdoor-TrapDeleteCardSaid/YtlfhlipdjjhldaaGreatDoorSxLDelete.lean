/- TrapDelete: the law and its tied card. Conditions: the given row's. -/
import Derived.Test.YtlfhlipdjjhldaaGreatDoorSxRDelete
import Derived.Test.YtlfhlipdjjhldaaGreatDoorSxCard
namespace Go.Proofs.YtlfhlipdjjhldaaGreatDoor
open Go Go.SX Go.RowKit Go.ChangeShapes Go.WideShapes

set_option maxRecDepth 100000

theorem trapDelete_lifted (os : Os) (started : os.Started) (H : Type) (enc : TypeId × Value → H) :
    ReturnsInHanded {} Tryz.checked os 14 .any (fun w args => (Rows.trapDeleteSpec.pre enc Tryz.prog Tryz.f14 Rows.trapDeleteRow.domain false w args ∧ laidMetH Tryz.prog Rows.trapDeleteRow.laid w) ∧ sizedMet enc Tryz.prog Tryz.f14 (OpenSpec.ofChange Rows.trapDeleteSpec) false w args)
      (Rows.trapDeleteSpec.post enc Tryz.prog Tryz.f14 false true false false) := by
  refine returnsInHanded_of_change_and (C := Tryz.checked) (X := fun w _ => laidMetH Tryz.prog Rows.trapDeleteRow.laid w) (fun _ _ _ hh h => h.of_heap hh) own started (by kernel_rfl) Tryz.func14
    (ChangeSpec.witness_shaped (enc := enc) (C := Tryz.checked) (os := os) (X := fun w _ => laidMetH Tryz.prog Rows.trapDeleteRow.laid w) false (World.laidAll Tryz.prog os Rows.trapDeleteRow.laid) #[zero32, zero24, .bool false, .bool false, zero26] 8 (World.laidAll_os _ _ _)
      (World.shaped_of_ZipB (by kernel_rfl) (by kernel_rfl)) (by kernel_rfl) (by kernel_rfl) (by kernel_rfl)
      (by rw [MakeChecks.laidMetH_plain _ _ _ (by kernel_rfl)]; exact laidMet_laidAll _ (by kernel_rfl) (by kernel_rfl))) ?_
  intro W base args ds gs before hval0 hW _ _ _ _
  have hval : ∀ (j : Nat) t v, Tryz.f14.params[j]? = some t → args[j]? = some v → Value.okWide Tryz.prog W .any base t v := hval0
  have hW' := hW
  obtain ⟨p, q, hA0, hV, rfl, _, _⟩ := hW
  have hA : DataW.TrodAll enc Tryz.prog W 0 (fun _ => true) true Tryz.f14.params.toList args.toList ds p := hA0
  rw [Tryz.params14] at hA hval
  obtain ⟨v0, v1, v2, v3, v4, d0, d1, d2, d3, d4, rfl, rfl⟩ := trodAll_five hA
  obtain ⟨rfl, rfl⟩ := trodVars_none hV
  clear hA0 hval0
  simp only [List.append_nil] at hW'
  obtain ⟨l0, f0, g0⟩ := fits32 (hval 0 32 v0 rfl rfl)
  obtain ⟨l1, f1, g1⟩ := fits24 (hval 1 24 v1 rfl rfl)
  obtain ⟨l2, f2, g2⟩ := fits4 (hval 2 4 v2 rfl rfl)
  obtain ⟨l3, f3, g3⟩ := fits4 (hval 3 4 v3 rfl rfl)
  obtain ⟨l4, f4, g4⟩ := fits26 (hval 4 26 v4 rfl rfl)
  refine (law_calls C3_ok rfl rfl trapDelete_tree W (.cons f0 (.cons f1 (.cons f2 (.cons f3 (.cons f4 .nil))))) (good_app g0 (good_app g1 (good_app g2 (good_app g3 (good_app g4 good_nil))))) (fun p hp => by cases hp)).mono fun e W' ⟨he, hb⟩ => ?_
  subst he
  have hlt : ∀ x ∈ p, x.block < W.heap.size := fun x hx => hW'.lt x (by simpa using hx)
  refine ⟨_, rfl, _, _, _, [], p, [], hW', trodAll_mk1 (shut_bool Tryz.underlying4 true), below_trodAll outLaid hb (readable_of (ts := [32, 24, 4, 4, 26]) rfl) hA hlt, rfl, hb.frame _, fun h => by cases h⟩

theorem trapDelete_said : Rows.TrapDeleteSaid :=
  OpenClaim.holds_of_wide 14 Tryz.f14 rfl rfl rfl rfl rfl rfl rfl ⟨rfl, rfl, rfl, rfl, rfl⟩ rfl rfl rfl rfl rfl (by kernel_rfl) Tryz.func14 (by kernel_rfl)
    (of_decide_eq_true (by kernel_rfl)) (by unfold Func.isWrapper; first | (rw [if_pos (by decide +kernel)]; kernel_rfl) | (rw [if_neg (by decide +kernel)]; exact ⟨rfl, rfl⟩))
    (fun os started H enc _ => trapDelete_lifted os started H enc)

theorem trapDelete_card_holds : Rows.TrapDeleteCardSaid :=
  Claim7.holds_tied_plain_at .later [] [.data, .data, .data] true (true, "e4fbe56a8d8619279f133abbaaf0f33eef6536845780e155db5c8581f31ea403") false
    trapDelete_said (fun _ h => by cases h) (by kernel_rfl) (fun _ h => by cases h) trapDelete_row_tie rfl ⟨rfl, rfl⟩ (by kernel_rfl) rfl
    (fun f fn hf hfn => by
      obtain rfl : f = 14 := Option.some.inj ((show Tryz.prog.funcNamed "bailiff/bailifflaw16.TrapDelete" = some 14 by kernel_rfl).symm.trans hf) |>.symm
      obtain rfl : fn = Tryz.f14 := (Option.some.inj (Tryz.func14.symm.trans hfn)).symm
      exact ⟨by kernel_rfl, fun j t ht => by
        rw [Tryz.params14] at ht
        exact noStand (ts := [32, 24, 4, 4, 26]) rfl t (List.mem_of_getElem? (by simpa using ht))⟩)
    (by kernel_rfl)
#print axioms trapDelete_card_holds
end Go.Proofs.YtlfhlipdjjhldaaGreatDoor
