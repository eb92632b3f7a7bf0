/- TrapIsExtensible: the law. Conditions: the given row's. -/
import Derived.Test.YtlfhlipdjjhldaaGreatDoorSxIsExt
import Derived.Test.YtlfhlipdjjhldaaGreatDoorRows
import Derived.Test.YtlfhlipdjjhldaaGreatDoorTie
import Derived.Test.YtlfhlipdjjhldaaGreatDoorCards
import Derived.ProofKit
import Derived.LaidLaws
import Derived.LaidHandle
import Derived.Lay
import Derived.MakeChecks
import Derived.SevenTiedAt
import Derived.Carry
namespace Go.Proofs.YtlfhlipdjjhldaaGreatDoor
open Go Go.SX Go.RowKit Go.ChangeShapes Go.WideShapes

set_option maxRecDepth 100000

theorem cells24 : Tryz.prog.cellTypes Tryz.prog.depth 24 = some [5, 22, 9, 3] := by kernel_rfl

theorem fits24 {w : World} {r : Reach} {base : Nat} {v : Value} (h : Value.okWide Tryz.prog w r base 24 v) : ∃ l, Fits valP v l :=
  fits_struct Tryz.underlying24 cells24 (by kernel_rfl) (by kernel_rfl) h

theorem isExt_calls (W : World) {v0 v1 : Value} {l : List Value} (h : FitsAll [valP, boolP] [v0, v1] l) : Calls Tryz.prog 7 #[v0, v1] W fun e W' => e = .returned (.bool true) ∧ Below W.heap.size W W' := by
  obtain ⟨n, hn, hl⟩ : ∃ n, l[0]? = some (.int .u8 n) ∧ l.length = 5 := by
    cases h with
    | cons h1 h2 =>
      cases h1 with
      | agg ha =>
        cases ha with
        | cons hs ha =>
          obtain ⟨n, rfl⟩ := has_int hs
          refine ⟨n, rfl, ?_⟩
          have e1 := ha.length
          cases h2 with
          | cons h3 h4 =>
            cases h3
            cases h4
            simp only [List.length_append, List.length_cons, e1]
            rfl
  obtain ⟨c, hc, hf⟩ := kinds_all (X := cfg1.X) hn
  have hc' : c = 0 ∨ c = 1 ∨ c = 2 ∨ c = 3 ∨ c = 4 ∨ c = 5 ∨ c = 6 ∨ c = 7 ∨ c = 8 ∨ c = 9 := by omega
  rcases hc' with rfl | rfl | rfl | rfl | rfl | rfl | rfl | rfl | rfl | rfl
  · exact calls_trueV cfg1_ok isExt_0 W hl h hf
  · exact calls_trueV cfg1_ok isExt_1 W hl h hf
  · exact calls_trueV cfg1_ok isExt_2 W hl h hf
  · exact calls_trueV cfg1_ok isExt_3 W hl h hf
  · exact calls_trueV cfg1_ok isExt_4 W hl h hf
  · exact calls_trueV cfg1_ok isExt_5 W hl h hf
  · exact calls_trueV cfg1_ok isExt_6 W hl h hf
  · exact calls_trueV cfg1_ok isExt_7 W hl h hf
  · exact calls_trueV cfg1_ok isExt_8 W hl h hf
  · exact calls_trueV cfg1_ok isExt_9 W hl h hf

theorem own : ownKnob Tryz.prog.godebug = none := by kernel_rfl
theorem outLaid : laidOutB Tryz.prog = true := by kernel_rfl

/-- A value of all zeros: the witness's. -/
noncomputable def zero24 : Value := .agg #[.int .u8 0, .float .f64 0, .string ⟨#[]⟩, .int .i64 0]

theorem isExt_lifted (os : Os) (started : os.Started) (H : Type) (enc : TypeId × Value → H) :
    ReturnsInHanded {} Tryz.checked os 7 .any (fun w args => (Rows.trapIsExtensibleSpec.pre enc Tryz.prog Tryz.f7 Rows.trapIsExtensibleRow.domain false w args ∧ laidMetH Tryz.prog Rows.trapIsExtensibleRow.laid w) ∧ sizedMet enc Tryz.prog Tryz.f7 (OpenSpec.ofChange Rows.trapIsExtensibleSpec) false w args)
      (Rows.trapIsExtensibleSpec.post enc Tryz.prog Tryz.f7 false true false false) := by
  refine returnsInHanded_of_change_and (C := Tryz.checked) (X := fun w _ => laidMetH Tryz.prog Rows.trapIsExtensibleRow.laid w) (fun _ _ _ hh h => h.of_heap hh) own started (by kernel_rfl) Tryz.func7
    (ChangeSpec.witness_shaped (enc := enc) (C := Tryz.checked) (os := os) (X := fun w _ => laidMetH Tryz.prog Rows.trapIsExtensibleRow.laid w) false (World.laidAll Tryz.prog os Rows.trapIsExtensibleRow.laid) #[zero24, .bool false] 8 (World.laidAll_os _ _ _)
      (World.shaped_of_ZipB (by kernel_rfl) (by kernel_rfl)) (by kernel_rfl) (by kernel_rfl) (by kernel_rfl)
      (by rw [MakeChecks.laidMetH_plain _ _ _ (by kernel_rfl)]; exact laidMet_laidAll _ (by kernel_rfl) (by kernel_rfl))) ?_
  intro W base args ds gs before hval0 hW _ _ _ _
  have hval : ∀ (j : Nat) t v, Tryz.f7.params[j]? = some t → args[j]? = some v → Value.okWide Tryz.prog W .any base t v := hval0
  have hW' := hW
  obtain ⟨p, q, hA0, hV, rfl, _, _⟩ := hW
  have hA : DataW.TrodAll enc Tryz.prog W 0 (fun _ => true) true Tryz.f7.params.toList args.toList ds p := hA0
  rw [Tryz.params7] at hA hval
  obtain ⟨v0, v1, d0, d1, p0, p1, rfl, rfl, rfl, h0, h1⟩ := trodAll_two hA
  obtain ⟨rfl, rfl⟩ := trodVars_none hV
  clear hA0 hval0
  simp only [List.append_nil] at hW'
  obtain ⟨l0, f0⟩ := fits24 (hval 0 24 v0 rfl rfl)
  obtain ⟨l1, f1⟩ := fits_bool Tryz.underlying4 (hval 1 4 v1 rfl rfl)
  refine (isExt_calls W (.cons f0 (.cons f1 .nil))).mono fun e W' ⟨he, hb⟩ => ?_
  subst he
  have hlt : ∀ x ∈ p0 ++ p1, x.block < W.heap.size := fun x hx => hW'.lt x (by simpa using hx)
  refine ⟨_, rfl, _, _, _, [], p0 ++ p1, [], hW', trodAll_mk1 (shut_bool Tryz.underlying4 true),
    trodAll_mk2 (Below.trod outLaid (by kernel_rfl) (of_decide_eq_true (by kernel_rfl)) h0 hb (fun x hx => hlt x (List.mem_append_left _ hx)))
      (Below.trod outLaid (by kernel_rfl) (of_decide_eq_true (by kernel_rfl)) h1 hb (fun x hx => hlt x (List.mem_append_right _ hx))), rfl, hb.frame _, fun h => by cases h⟩

theorem isExt_said : Rows.TrapIsExtensibleSaid :=
  OpenClaim.holds_of_wide 7 Tryz.f7 rfl rfl rfl rfl rfl rfl rfl ⟨rfl, rfl, rfl, rfl, rfl⟩ rfl rfl rfl rfl rfl (by kernel_rfl) Tryz.func7 (by kernel_rfl)
    (of_decide_eq_true (by kernel_rfl)) (by unfold Func.isWrapper; first | (rw [if_pos (by decide +kernel)]; kernel_rfl) | (rw [if_neg (by decide +kernel)]; exact ⟨rfl, rfl⟩))
    (fun os started H enc _ => isExt_lifted os started H enc)
#print axioms isExt_said

theorem trapIsExtensible_card_holds : Rows.TrapIsExtensibleCardSaid :=
  Claim7.holds_tied_plain_at .later [] [.data, .data, .data] true (true, "e4fbe56a8d8619279f133abbaaf0f33eef6536845780e155db5c8581f31ea403") false
    isExt_said (fun _ h => by cases h) (by kernel_rfl) (fun _ h => by cases h) trapIsExtensible_row_tie rfl ⟨rfl, rfl⟩ (by kernel_rfl) rfl
    (fun f fn hf hfn => by
      obtain rfl : f = 7 := Option.some.inj ((show Tryz.prog.funcNamed "bailiff/bailifflaw16.TrapIsExtensible" = some 7 by kernel_rfl).symm.trans hf) |>.symm
      obtain rfl : fn = Tryz.f7 := (Option.some.inj (Tryz.func7.symm.trans hfn)).symm
      exact ⟨by kernel_rfl, fun j t ht => by
        rw [Tryz.params7] at ht
        rcases j with _ | _ | j
        · obtain rfl : t = 24 := by simpa using ht.symm
          exact (show Tryz.prog.wantsStandIn 24 = false by kernel_rfl)
        · obtain rfl : t = 4 := by simpa using ht.symm
          exact (show Tryz.prog.wantsStandIn 4 = false by kernel_rfl)
        · simp at ht⟩)
    (by kernel_rfl)
#print axioms trapIsExtensible_card_holds
end Go.Proofs.YtlfhlipdjjhldaaGreatDoor
