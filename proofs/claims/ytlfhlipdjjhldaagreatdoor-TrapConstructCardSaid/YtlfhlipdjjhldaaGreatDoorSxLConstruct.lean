/- TrapConstruct: the law and its tied card. Conditions: the given row's. -/
import Derived.Test.YtlfhlipdjjhldaaGreatDoorSxRConstruct
import Derived.Test.YtlfhlipdjjhldaaGreatDoorSxSlice
namespace Go.Proofs.YtlfhlipdjjhldaaGreatDoor
open Go Go.SX Go.RowKit Go.ChangeShapes Go.WideShapes Go.Deep

set_option maxRecDepth 100000

theorem fits_eqConstruct {v : Value} {l : List Value} (h : Fits Tr.valP v l) : v = .agg l.toArray := by
  have aux : ∀ {p : Bool × List Srt} {v : Value}, Fits p v l → p.1 = true → v = .agg l.toArray := by
    intro p v hf hp
    cases hf with
    | agg _ => rfl
    | one _ => cases hp
  exact aux h rfl

theorem trapConstruct_lifted (os : Os) (started : os.Started) (H : Type) (enc : TypeId × Value → H) :
    ReturnsInHanded {} Tryz.checked os 17 .any (fun w args => (Rows.trapConstructSpec.pre enc Tryz.prog Tryz.f17 Rows.trapConstructRow.domain false w args ∧ laidMetH Tryz.prog Rows.trapConstructRow.laid w) ∧ sizedMet enc Tryz.prog Tryz.f17 (OpenSpec.ofChange Rows.trapConstructSpec) false w args)
      (Rows.trapConstructSpec.post enc Tryz.prog Tryz.f17 false true false false) := by
  refine returnsInHanded_of_change_and (C := Tryz.checked) (X := fun w _ => laidMetH Tryz.prog Rows.trapConstructRow.laid w) (fun _ _ _ hh h => h.of_heap hh) own started (by kernel_rfl) Tryz.func17
    (ChangeSpec.witness_shaped (enc := enc) (C := Tryz.checked) (os := os) (X := fun w _ => laidMetH Tryz.prog Rows.trapConstructRow.laid w) false (World.laidAll Tryz.prog os Rows.trapConstructRow.laid) #[.slice none 0 0, zero24] 8 (World.laidAll_os _ _ _)
      (World.shaped_of_ZipB (by kernel_rfl) (by kernel_rfl)) (by kernel_rfl) (by kernel_rfl) (by kernel_rfl)
      (by rw [MakeChecks.laidMetH_plain _ _ _ (by kernel_rfl)]; exact laidMet_laidAll _ (by kernel_rfl) (by kernel_rfl))) ?_
  intro W base args ds gs before hval0 hW _ _ _ _
  have hval : ∀ (j : Nat) t v, Tryz.f17.params[j]? = some t → args[j]? = some v → Value.okWide Tryz.prog W .any base t v := hval0
  have hW' := hW
  obtain ⟨p, q, hA0, hV, rfl, _, _⟩ := hW
  have hA : DataW.TrodAll enc Tryz.prog W 0 (fun _ => true) true Tryz.f17.params.toList args.toList ds p := hA0
  rw [Tryz.params17] at hA hval
  obtain ⟨v0, v1, d0, d1, rfl, rfl⟩ := trodAll_2 hA
  obtain ⟨rfl, rfl⟩ := trodVars_none hV
  clear hA0 hval0
  simp only [List.append_nil] at hW'
  obtain ⟨l1, f1, g1⟩ := fits24 (hval 1 24 v1 rfl rfl)
  have b1 := fits_agg f1
  obtain rfl := fits_eqConstruct f1
  have hs := hval 0 33 v0 rfl rfl
  obtain ⟨ps, hT⟩ := trod_at0 hA
  have key : Calls Tryz.prog 17 #[v0, .agg l1.toArray] W fun e w' => e = .returned (.bool true) ∧ Below W.heap.size W w' := by
    rcases open24 hs hT with rfl | ⟨a, len, cap, l, rfl, hle, k1, k2, k3⟩
    · exact make_none W b1 g1
    · by_cases hlen : len ≤ 64
      · obtain ⟨hsp, arr, ty, fr, hh⟩ := has_row Tryz.underlying33 hs
        exact make_n (make_tree len hlen) W b1 g1 k1 hsp hh k3 hle
      · exact make_over W b1 g1 (by omega)
  refine key.mono fun e W' ⟨he, hb⟩ => ?_
  subst he
  have hlt : ∀ x ∈ p, x.block < W.heap.size := fun x hx => hW'.lt x (by simpa using hx)
  refine ⟨_, rfl, _, _, _, [], p, [], hW', trodAll_mk1 (shut_bool Tryz.underlying4 true), below_trodAll outLaid hb (readable_of (ts := [33, 24]) rfl) hA hlt, rfl, hb.frame _, fun h => by cases h⟩

theorem trapConstruct_said : Rows.TrapConstructSaid :=
  OpenClaim.holds_of_wide 17 Tryz.f17 rfl rfl rfl rfl rfl rfl rfl ⟨rfl, rfl, rfl, rfl, rfl⟩ rfl rfl rfl rfl rfl (by kernel_rfl) Tryz.func17 (by kernel_rfl)
    (of_decide_eq_true (by kernel_rfl)) (by unfold Func.isWrapper; first | (rw [if_pos (by decide +kernel)]; kernel_rfl) | (rw [if_neg (by decide +kernel)]; exact ⟨rfl, rfl⟩))
    (fun os started H enc _ => trapConstruct_lifted os started H enc)

theorem trapConstruct_card_holds : Rows.TrapConstructCardSaid :=
  Claim7.holds_tied_plain_at .later [] [.data, .data, .data] true (true, "e4fbe56a8d8619279f133abbaaf0f33eef6536845780e155db5c8581f31ea403") false
    trapConstruct_said (fun _ h => by cases h) (by kernel_rfl) (fun _ h => by cases h) trapConstruct_row_tie rfl ⟨rfl, rfl⟩ (by kernel_rfl) rfl
    (fun f fn hf hfn => by
      obtain rfl : f = 17 := Option.some.inj ((show Tryz.prog.funcNamed "bailiff/bailifflaw16.TrapConstruct" = some 17 by kernel_rfl).symm.trans hf) |>.symm
      obtain rfl : fn = Tryz.f17 := (Option.some.inj (Tryz.func17.symm.trans hfn)).symm
      exact ⟨by kernel_rfl, fun j t ht => by
        rw [Tryz.params17] at ht
        exact noStand (ts := [33, 24]) rfl t (List.mem_of_getElem? (by simpa using ht))⟩)
    (by kernel_rfl)
#print axioms trapConstruct_card_holds
end Go.Proofs.YtlfhlipdjjhldaaGreatDoor
