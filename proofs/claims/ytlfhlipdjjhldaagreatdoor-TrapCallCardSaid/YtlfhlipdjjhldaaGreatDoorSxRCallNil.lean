/- TrapCall, TrapConstruct: without arguments; with more than are looked at. Conditions: none. -/
import Derived.Test.YtlfhlipdjjhldaaGreatDoorSxSl
namespace Go.Proofs.YtlfhlipdjjhldaaGreatDoor
open Go Go.SX Go.RowKit
set_option maxRecDepth 1000000

noncomputable def overE (i : Nat) : E := .bin .lss (.lit (.int .i64 64)) (.len (.var i))

theorem call_long : Tree.isTrue (Tr.law (Tr.C4 Tryz.prog X) 16 [.val, .slc, .val] [(overE 4, true)]) = true := by
  unfold Tr.law; rw [← runFZ_eq]; kernel_rfl
theorem make_long : Tree.isTrue (Tr.law (Tr.C4 Tryz.prog X) 17 [.slc, .val] [(overE 0, true)]) = true := by
  unfold Tr.law; rw [← runFZ_eq]; kernel_rfl

noncomputable def nilArgs : AV := .one (.c (.slice none 0 0))
theorem call_nil : Tree.isTrue (runFZ (Tr.C5 Tryz.prog X) 1000000 16 [.agg (varsFrom 0 Tr.vS), nilArgs, .agg (varsFrom 4 Tr.vS)] (St.start .e 0 8 0 (appL [] (Tr.trues (appL (Tr.valueFacts 0) (Tr.valueFacts 4)))))) = true := by kernel_rfl
theorem make_nil : Tree.isTrue (runFZ (Tr.C5 Tryz.prog X) 1000000 17 [nilArgs, .agg (varsFrom 0 Tr.vS)] (St.start .e 0 4 0 (appL [] (Tr.trues (Tr.valueFacts 0))))) = true := by kernel_rfl

theorem slc_fits {a : Option Addr} {n c : Nat} : Fits Tr.Sh.slc.ps (.slice a n c) [.slice a n c] := (Fits.one (s := .slc) rfl : Fits (false, [.slc]) _ _)

theorem call_over (w : World) {l0 l1 : List Value} {a : Option Addr} {n cap : Nat} (h0 : HasAll Tr.vS l0) (h1 : HasAll Tr.vS l1) (g0 : ∀ v ∈ l0, Good v) (g1 : ∀ v ∈ l1, Good v) (hn : 64 < n) :
    Calls Tryz.prog 16 #[.agg l0.toArray, .slice a n cap, .agg l1.toArray] w fun e w' => e = .returned (.bool true) ∧ Below w.heap.size w w' := by
  refine law_calls C4_ok rfl rfl call_long w (us := l0 ++ ([.slice a n cap] ++ (l1 ++ []))) (.cons (.agg h0) (.cons slc_fits (.cons (.agg h1) .nil)))
    (good_app g0 (good_app (fun v hv m e => by rw [List.mem_singleton.1 hv] at e; cases e) (good_app g1 good_nil))) (facts1 (den_bin.2 ⟨.int .i64 64, .int .i64 n, rfl, ?_, ?_⟩) facts0)
  · show (((l0 ++ ([Value.slice a n cap] ++ (l1 ++ [])))[4]?).bind lenV) = _
    rw [List.getElem?_append_right (by rw [len4 h0]; omega), len4 h0]
    rfl
  · show some (Value.bool (decide ((64 : Int) < (n : Int)))) = _
    rw [decide_eq_true (by omega)]

theorem make_over (w : World) {l0 : List Value} {a : Option Addr} {n cap : Nat} (h0 : HasAll Tr.vS l0) (g0 : ∀ v ∈ l0, Good v) (hn : 64 < n) :
    Calls Tryz.prog 17 #[.slice a n cap, .agg l0.toArray] w fun e w' => e = .returned (.bool true) ∧ Below w.heap.size w w' := by
  refine law_calls C4_ok rfl rfl make_long w (us := [.slice a n cap] ++ (l0 ++ [])) (.cons slc_fits (.cons (.agg h0) .nil))
    (good_app (fun v hv m e => by rw [List.mem_singleton.1 hv] at e; cases e) (good_app g0 good_nil)) (facts1 (den_bin.2 ⟨.int .i64 64, .int .i64 n, rfl, rfl, ?_⟩) facts0)
  show some (Value.bool (decide ((64 : Int) < (n : Int)))) = _
  rw [decide_eq_true (by omega)]

theorem call_none (w : World) {l0 l1 : List Value} (h0 : HasAll Tr.vS l0) (h1 : HasAll Tr.vS l1) (g0 : ∀ v ∈ l0, Good v) (g1 : ∀ v ∈ l1, Good v) :
    Calls Tryz.prog 16 #[.agg l0.toArray, .slice none 0 0, .agg l1.toArray] w fun e w' => e = .returned (.bool true) ∧ Below w.heap.size w w' := by
  have hm := MRel.startV' (C := Tr.C5 Tryz.prog X) w (l0 ++ l1) 8 (by rw [List.length_append, len4 h0, len4 h1]) (appL [] (Tr.trues (appL (Tr.valueFacts 0) (Tr.valueFacts 4)))) (trues_app fun e he => by
    rw [appL_eq] at he
    rcases List.mem_append.1 he with he | he
    · exact value_facts (Y := X5) X5_ok w (pre := []) (ws := l0) (post := l1) (by simp) rfl h0 g0 e he
    · exact value_facts (Y := X5) X5_ok w (pre := l0) (ws := l1) (post := []) (by simp) (len4 h0) h1 g1 e he)
  refine tree_calls C5_ok call_nil hm (xs := [.agg l0.toArray, .slice none 0 0, .agg l1.toArray]) ?_
  have e0 := varsFrom_den (X := (Tr.C5 Tryz.prog X).X) (σ := []) (ns := []) (β := fun _ => 0) h0 [] l1
  have e1 := varsFrom_den (X := (Tr.C5 Tryz.prog X).X) (σ := []) (ns := []) (β := fun _ => 0) h1 l0 []
  rw [List.append_nil, len4 h0] at e1
  simp only [avsDen, aggA_den e1]
  have e2 := aggA_den e0
  rw [List.nil_append] at e2
  have e3 : nilArgs.den ⟨(Tr.C5 Tryz.prog X).X, [], l0 ++ l1, [], fun _ => 0⟩ = some (.slice none 0 0) := rfl
  have e4 : (AV.agg (varsFrom 0 Tr.vS)).den ⟨(Tr.C5 Tryz.prog X).X, [], l0 ++ l1, [], fun _ => 0⟩ = some (.agg l0.toArray) := e2
  simp only [e3, e4, Option.bind_some, Option.map_some]

theorem make_none (w : World) {l0 : List Value} (h0 : HasAll Tr.vS l0) (g0 : ∀ v ∈ l0, Good v) :
    Calls Tryz.prog 17 #[.slice none 0 0, .agg l0.toArray] w fun e w' => e = .returned (.bool true) ∧ Below w.heap.size w w' := by
  have hm := MRel.startV' (C := Tr.C5 Tryz.prog X) w l0 4 (len4 h0) (appL [] (Tr.trues (Tr.valueFacts 0))) (trues_app fun e he => value_facts (Y := X5) X5_ok w (pre := []) (ws := l0) (post := []) (by simp) rfl h0 g0 e he)
  refine tree_calls C5_ok make_nil hm (xs := [.slice none 0 0, .agg l0.toArray]) ?_
  have e0 := varsFrom_den (X := (Tr.C5 Tryz.prog X).X) (σ := []) (ns := []) (β := fun _ => 0) h0 [] []
  rw [List.nil_append, List.append_nil] at e0
  have e3 : nilArgs.den ⟨(Tr.C5 Tryz.prog X).X, [], l0, [], fun _ => 0⟩ = some (.slice none 0 0) := rfl
  have e4 : (AV.agg (varsFrom 0 Tr.vS)).den ⟨(Tr.C5 Tryz.prog X).X, [], l0, [], fun _ => 0⟩ = some (.agg l0.toArray) := aggA_den e0
  simp only [avsDen, e3, e4, Option.bind_some, Option.map_some]

end Go.Proofs.YtlfhlipdjjhldaaGreatDoor
