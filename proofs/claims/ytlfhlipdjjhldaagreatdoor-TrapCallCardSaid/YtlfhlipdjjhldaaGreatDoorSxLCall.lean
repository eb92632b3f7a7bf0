/- TrapCall: the law and its tied card. Conditions: the given row's. -/
import Derived.Test.YtlfhlipdjjhldaaGreatDoorSxRCall
import Derived.Test.YtlfhlipdjjhldaaGreatDoorSxSlice
namespace Go.Proofs.YtlfhlipdjjhldaaGreatDoor
open Go Go.SX Go.RowKit Go.ChangeShapes Go.WideShapes Go.Deep

set_option maxRecDepth 100000

theorem fits_eqCall {v : Value} {l : List Value} (h : Fits Tr.valP v l) : v = .agg l.toArray := by
  have aux : ∀ {p : Bool × List Srt} {v : Value}, Fits p v l → p.1 = true → v = .agg l.toArray := by
    intro p v hf hp
    cases hf with
    | agg _ => rfl
    | one _ => cases hp
  exact aux h rfl

theorem trapCall_lifted (os : Os) (started : os.Started) (H : Type) (enc : TypeId × Value → H) :
    ReturnsInHanded {} Tryz.checked os 16 .any (fun w args => (Rows.trapCallSpec.pre enc Tryz.prog Tryz.f16 Rows.trapCallRow.domain false w args ∧ laidMetH Tryz.prog Rows.trapCallRow.laid w) ∧ sizedMet enc Tryz.prog Tryz.f16 (OpenSpec.ofChange Rows.trapCallSpec) false w args)
      (Rows.trapCallSpec.post enc Tryz.prog Tryz.f16 false true false false) := by
  refine returnsInHanded_of_change_and (C := Tryz.checked) (X := fun w _ => laidMetH Tryz.prog Rows.trapCallRow.laid w) (fun _ _ _ hh h => h.of_heap hh) own started (by kernel_rfl) Tryz.func16
    (ChangeSpec.witness_shaped (enc := enc) (C := Tryz.checked) (os := os) (X := fun w _ => laidMetH Tryz.prog Rows.trapCallRow.laid w) false (World.laidAll Tryz.prog os Rows.trapCallRow.laid) #[zero24, .slice none 0 0, zero24] 8 (World.laidAll_os _ _ _)
      (World.shaped_of_ZipB (by kernel_rfl) (by kernel_rfl)) (by kernel_rfl) (by kernel_rfl) (by kernel_rfl)
      (by rw [MakeChecks.laidMetH_plain _ _ _ (by kernel_rfl)]; exact laidMet_laidAll _ (by kernel_rfl) (by kernel_rfl))) ?_
  intro W base args ds gs before hval0 hW _ _ _ _
  have hval : ∀ (j : Nat) t v, Tryz.f16.params[j]? = some t → args[j]? = some v → Value.okWide Tryz.prog W .any base t v := hval0
  have hW' := hW
  obtain ⟨p, q, hA0, hV, rfl, _, _⟩ := hW
  have hA : DataW.TrodAll enc Tryz.prog W 0 (fun _ => true) true Tryz.f16.params.toList args.toList ds p := hA0
  rw [Tryz.params16] at hA hval
  obtain ⟨v0, v1, v2, d0, d1, d2, rfl, rfl⟩ := trodAll_3 hA
  obtain ⟨rfl, rfl⟩ := trodVars_none hV
  clear hA0 hval0
  simp only [List.append_nil] at hW'
  obtain ⟨l0, f0, g0⟩ := fits24 (hval 0 24 v0 rfl rfl)
  have b0 := fits_agg f0
  obtain rfl := fits_eqCall f0
  obtain ⟨l2, f2, g2⟩ := fits24 (hval 2 24 v2 rfl rfl)
  have b2 := fits_agg f2
  obtain rfl := fits_eqCall f2
  have hs := hval 1 33 v1 rfl rfl
  obtain ⟨ps, hT⟩ := trod_at1 hA
  have key : Calls Tryz.prog 16 #[.agg l0.toArray, v1, .agg l2.toArray] W fun e w' => e = .returned (.bool true) ∧ Below W.heap.size W w' := by
    rcases open24 hs hT with rfl | ⟨a, len, cap, l, rfl, hle, k1, k2, k3⟩
    · exact call_none W b0 b2 g0 g2
    · by_cases hlen : len ≤ 64
      · obtain ⟨hsp, arr, ty, fr, hh⟩ := has_row Tryz.underlying33 hs
        exact call_n (call_tree len hlen) W b0 b2 g0 g2 k1 hsp hh k3 hle
      · exact call_over W b0 b2 g0 g2 (by omega)
  refine key.mono fun e W' ⟨he, hb⟩ => ?_
  subst he
  have hlt : ∀ x ∈ p, x.block < W.heap.size := fun x hx => hW'.lt x (by simpa using hx)
  refine ⟨_, rfl, _, _, _, [], p, [], hW', trodAll_mk1 (shut_bool Tryz.underlying4 true), below_trodAll outLaid hb (readable_of (ts := [24, 33, 24]) rfl) hA hlt, rfl, hb.frame _, fun h => by cases h⟩

theorem trapCall_said : Rows.TrapCallSaid :=
  OpenClaim.holds_of_wide 16 Tryz.f16 rfl rfl rfl rfl rfl rfl rfl ⟨rfl, rfl, rfl, rfl, rfl⟩ rfl rfl rfl rfl rfl (by kernel_rfl) Tryz.func16 (by kernel_rfl)
    (of_decide_eq_true (by kernel_rfl)) (by unfold Func.isWrapper; first | (rw [if_pos (by decide +kernel)]; kernel_rfl) | (rw [if_neg (by decide +kernel)]; exact ⟨rfl, rfl⟩))
    (fun os started H enc _ => trapCall_lifted os started H enc)

theorem trapCall_card_holds : Rows.TrapCallCardSaid :=
  Claim7.holds_tied_plain_at .later [] [.data, .data, .data] true (true, "e4fbe56a8d8619279f133abbaaf0f33eef6536845780e155db5c8581f31ea403") false
    trapCall_said (fun _ h => by cases h) (by kernel_rfl) (fun _ h => by cases h) trapCall_row_tie rfl ⟨rfl, rfl⟩ (by kernel_rfl) rfl
    (fun f fn hf hfn => by
      obtain rfl : f = 16 := Option.some.inj ((show Tryz.prog.funcNamed "bailiff/bailifflaw16.TrapCall" = some 16 by kernel_rfl).symm.trans hf) |>.symm
      obtain rfl : fn = Tryz.f16 := (Option.some.inj (Tryz.func16.symm.trans hfn)).symm
      exact ⟨by kernel_rfl, fun j t ht => by
        rw [Tryz.params16] at ht
        exact noStand (ts := [24, 33, 24]) rfl t (List.mem_of_getElem? (by simpa using ht))⟩)
    (by kernel_rfl)
#print axioms trapCall_card_holds
end Go.Proofs.YtlfhlipdjjhldaaGreatDoor
