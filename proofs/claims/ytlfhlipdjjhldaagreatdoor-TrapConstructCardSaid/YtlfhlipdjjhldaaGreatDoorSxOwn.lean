/- TrapGetOwnProperty: the descriptor that is told, by what it has. Conditions: none. -/
import Derived.Test.YtlfhlipdjjhldaaGreatDoorSxMore
import Derived.Test.YtlfhlipdjjhldaaGreatDoorSxZ
namespace Go.Proofs.YtlfhlipdjjhldaaGreatDoor
open Go Go.SX Go.RowKit
set_option maxRecDepth 1000000

/-! ### The configuration -/

theorem ok72 : FnOk Tryz.prog (Tr.f72 Tryz.prog X) := fnOf_ok C2_ok ⟨_, Tryz.func72, rfl⟩ (by kernel_rfl)
theorem ok33' : FnOk Tryz.prog (Tr.f33' Tryz.prog X) := ⟨ok33.body, ok33.calls⟩
theorem ok51' : FnOk Tryz.prog (Tr.f51' Tryz.prog X) := ⟨ok51.body, ok51.calls⟩
theorem ok38' : FnOk Tryz.prog (Tr.f38' Tryz.prog X) := ⟨ok38.body, ok38.calls⟩

noncomputable def X5 : Ext := XF X (Tr.fnsG Tryz.prog X)
theorem X530 (v : Value) : X5 30 v = (Tr.f30 Tryz.prog X).val (unpackV 4 v) := by kernel_rfl
theorem X533 (v : Value) : X5 33 v = (Tr.f33 Tryz.prog X).val (unpackV 8 v) := by kernel_rfl
theorem X538 (v : Value) : X5 38 v = (Tr.f38 Tryz.prog X).val (unpackV 16 v) := by kernel_rfl
theorem X564 (v : Value) : X5 64 v = (Tr.f64 Tryz.prog X).val (unpackV 4 v) := by kernel_rfl
theorem X572 (v : Value) : X5 72 v = (Tr.f72 Tryz.prog X).val (unpackV 4 v) := by kernel_rfl
theorem X5_ok : YOk X5 := ⟨X530, X533, X538⟩

/-- A tree that is one struct of given cells. -/
def leafIs (cs : List Cell) : Tree → Bool
  | .leaf _ (.agg l) => cellsEq l cs
  | .spec _ _ t => leafIs cs t
  | .cap _ t => leafIs cs t
  | _ => false

theorem leafIs_holds {Y : Ext} {R : Nat → List Value → List Value → Prop} {cs : List Cell} : ∀ {t : Tree} {vs : List Value} {ns : List Nat}, leafIs cs t = true → Holds Y R (fun _ v _ _ => v = .agg cs) t vs ns := by
  intro t
  induction t with
  | leaf st v =>
    intro vs ns h
    cases v with
    | agg l => rw [cellsEq_eq (a := l) (b := cs) h]; rfl
    | _ => cases h
  | fork c a b iha ihb => intro vs ns h; cases h
  | spec f args rest ih => intro vs ns h; exact fun _ _ _ _ _ _ => ih h
  | cap lo rest ih => intro vs ns h; exact fun _ _ => ih h
  | fail s => intro vs ns h; cases h

noncomputable def boolBits (b : Bool) : Nat := cond b 4607182418800017408 0
noncomputable def boolCells (b : Bool) : List Cell := [.s (.int .u8) (.lit (.int .u8 2)), .s .float (.lit (.float .f64 (boolBits b))), .s .str (.lit (.string ⟨#[]⟩)), .s (.int .i64) (.lit (.int .i64 0))]

theorem bool_tree_t : leafIs (boolCells true) (runF (Tr.C0 Tryz.prog X) 1000 126 [.one (.s .bool (.var 0))] (St.start .e 0 1 0 [(.var 0, true)])) = true := by kernel_rfl
theorem bool_tree_f : leafIs (boolCells false) (runF (Tr.C0 Tryz.prog X) 1000 126 [.one (.s .bool (.var 0))] (St.start .e 0 1 0 [(.var 0, false)])) = true := by kernel_rfl

theorem bool_calls (b : Bool) (w : World) : Calls Tryz.prog 126 #[.bool b] w fun r w' => r = .returned (.agg #[.int .u8 2, .float .f64 (boolBits b), .string ⟨#[]⟩, .int .i64 0]) ∧ Below w.heap.size w w' := by
  have key : leafIs (boolCells b) (runF (Tr.C0 Tryz.prog X) 1000 126 [.one (.s .bool (.var 0))] (St.start .e 0 1 0 [(.var 0, b)])) = true := by
    cases b
    · exact bool_tree_f
    · exact bool_tree_t
  have hf : ∀ p ∈ [((E.var 0), b)], p.1.den (Tr.C0 Tryz.prog X).X [Value.bool b] = some (.bool p.2) := by
    intro p hp
    rw [List.mem_singleton.1 hp]
    rfl
  refine Calls.mono (runF_sound C0_ok (MRel.startV' w [.bool b] 1 rfl _ hf) (args := [.one (.s .bool (.var 0))]) (xs := [.bool b]) rfl (leafIs_holds key)) ?_
  rintro r w' ⟨u, rfl, st', v, Γ', hl, hm, hden, rfl⟩
  refine ⟨?_, Fr.below' hm.fr⟩
  have : (AV.agg (boolCells b)).den Γ' = some (.agg #[.int .u8 2, .float .f64 (boolBits b), .string ⟨#[]⟩, .int .i64 0]) := rfl
  rw [this] at hden
  rw [← Option.some.inj hden]

theorem boolVal_ct : CtOk Tryz.prog R1 126 Tr.boolVal := by
  intro Y args σ vs ns β xs w ht hx
  match args, ht, hx with
  | [.one (.s .bool e)], _, hx =>
    simp only [avsDen, AV.den_one, Option.bind_eq_some_iff, Option.map_eq_some_iff] at hx
    obtain ⟨v, hv, zs, hzs, rfl⟩ := hx
    cases hzs
    obtain ⟨h1, h2⟩ := den_s.1 hv
    obtain ⟨b, rfl⟩ := has_bool h2
    refine ⟨⟨Tryz.f126, Tryz.func126, rfl⟩, (bool_calls b w).mono ?_⟩
    rintro r w' ⟨rfl, hb⟩
    refine ⟨_, [], rfl, trivial, rfl, ?_, hb⟩
    rw [List.append_nil]
    have hnum : (Cell.s .float (Tr.boolNum e)).den ⟨Y, σ, vs, ns, β⟩ = some (.float .f64 (boolBits b)) := by
      rw [den_s]
      refine ⟨?_, rfl⟩
      unfold Tr.boolNum
      split
      · rename_i he; rw [boolOf_some he] at h1; cases h1; rfl
      · rename_i he; rw [boolOf_some he] at h1; cases h1; rfl
      · have h1 : e.den Y vs = some (.bool b) := h1
        show iteV (e.den Y vs) _ _ = _
        rw [h1]
        cases b <;> rfl
    have e1 : (Cell.s (.int .u8) (.lit (.int .u8 2))).den ⟨Y, σ, vs, ns, β⟩ = some (.int .u8 2) := rfl
    have e2 : (Cell.s .str (.lit (.string ⟨#[]⟩))).den ⟨Y, σ, vs, ns, β⟩ = some (.string ⟨#[]⟩) := rfl
    have e3 : (Cell.s (.int .i64) (.lit (.int .i64 0))).den ⟨Y, σ, vs, ns, β⟩ = some (.int .i64 0) := rfl
    show (AV.agg [.s (.int .u8) (.lit (.int .u8 2)), .s .float (Tr.boolNum e), .s .str (.lit (.string ⟨#[]⟩)), .s (.int .i64) (.lit (.int .i64 0))]).den ⟨Y, σ, vs, ns, β⟩ = _
    simp only [AV.den, cellsDen, hnum, e1, e2, e3, Option.bind_some, Option.map_some]

theorem fnsG_ok : ∀ F ∈ Tr.fnsG Tryz.prog X, FnOk Tryz.prog F :=
  cons_ok ok30 (cons_ok ok33' (cons_ok ok35 (cons_ok ok37 (cons_ok ok38' (cons_ok ok51' (cons_ok ok60 (cons_ok ok64 (cons_ok ok72 nil_ok))))))))
theorem fnsG_apart : ∀ F ∈ Tr.fnsG Tryz.prog X, Tr.ext F.f = none :=
  cons_ok (by kernel_rfl) (cons_ok (by kernel_rfl) (cons_ok (by kernel_rfl) (cons_ok (by kernel_rfl) (cons_ok (by kernel_rfl) (cons_ok (by kernel_rfl) (cons_ok (by kernel_rfl) (cons_ok (by kernel_rfl) (cons_ok (by kernel_rfl) nil_ok))))))))
theorem C5_ok : CfgOk (Tr.C5 Tryz.prog X) R1 := base_ok fnsG_ok fnsG_apart (fun _ _ _ => trivial) (cons_ct (alive_ct fun _ => trivial) (cons_ct keyVal_ct (cons_ct boolVal_ct nil_ct)))

/-! ### What a descriptor that may be lacks -/

noncomputable def list28 : List Nat := [0, 1, 2, 3, 4, 8, 12, 16, 17, 18, 19, 20, 24, 28, 32, 33, 34, 35, 36, 40, 44, 48, 49, 50, 51, 52, 56, 60]

noncomputable def zg (i : Nat) : List (E × Bool) := [(Tr.kindZ i, true), (Tr.numZ (Nat.add i 1), true), (.bin .eql (.var (Nat.add i 2)) (.lit (.string ⟨#[]⟩)), true), (.bin .eql (.var (Nat.add i 3)) (.lit (.int .i64 0)), true)]
noncomputable def zeroGoals (n : Nat) : List (E × Bool) :=
  appL (cond (Tr.hasBit n 1) [] (zg 1)) (appL (cond (Tr.hasBit n 4) [] (zg 5)) (appL (cond (Tr.hasBit n 8) [] (zg 9))
    (appL (cond (Tr.hasBit n 2) [] [(.var 13, false)]) (appL (cond (Tr.hasBit n 16) [] [(.var 14, false)]) (cond (Tr.hasBit n 32) [] [(.var 15, false)])))))

theorem own_chk : (match toE (.int .i64) (Tr.treeOf (Tr.C2' Tryz.prog X) 38 [Tr.descP]) with
    | some e => (List.range 256).all fun n => pathsV e [(isN 0 n, true)] (goalsK 0 (cond (memNat n list28) (zeroGoals n) [(.lit (.bool false), true)]))
    | none => false) = true := by kernel_rfl

theorem own_zero {us : List Value} {m : Nat} (h : (Tr.f38 Tryz.prog X).val us = some (.int .i64 0)) (h0 : us[0]? = some (.int .u8 (Int.ofNat m))) (hm : m < 256) :
    memNat m list28 = true ∧ FactsOk (Tr.C2' Tryz.prog X).X us (zeroGoals m) := by
  have hc := own_chk
  cases he : toE (.int .i64) (Tr.treeOf (Tr.C2' Tryz.prog X) 38 [Tr.descP]) with
  | none => rw [he] at hc; cases hc
  | some e =>
    rw [he] at hc
    have hc := List.all_eq_true.1 hc m (List.mem_range.2 hm)
    have h1 : e.den (Tr.C2' Tryz.prog X).X us = some (.int .i64 0) := by rw [← fnOf_val he]; exact h
    have hf : FactsOk (Tr.C2' Tryz.prog X).X us [(isN 0 m, true)] := by
      intro p hp
      rw [List.mem_singleton.1 hp]
      refine den_bin.2 ⟨_, _, h0, rfl, ?_⟩
      show some (Value.bool (Int.ofNat m == Int.ofNat m)) = _
      simp
    cases hl : memNat m list28 with
    | true =>
      simp only [hl, cond_true] at hc
      exact ⟨rfl, entails hf h1 hc⟩
    | false =>
      simp only [hl, cond_false] at hc
      have := entails hf h1 hc (.lit (.bool false), true) (by simp)
      cases this

theorem d4_chk : (match toE .bool (Tr.treeOf (Tr.C2 Tryz.prog X) 64 [Tr.valP]) with
    | some e => match toE .bool (Tr.treeOf (Tr.C2 Tryz.prog X) 72 [Tr.valP]) with
      | some e' => pathsB e [] (fun b fs => cond b (pathsB e' fs fun c fs => cond c true (match decideE fs (Tr.kindZ 0) with | some x => x | none => false)) true)
      | none => false
    | none => false) = true := by kernel_rfl

/-- What may be a getter, and is something, can be called. -/
theorem called_calls (w : World) {ws : List Value} (h : HasAll Tr.vS ws) (hc : (Tr.f64 Tryz.prog X).val ws = some (.bool true)) :
    ∃ c, (Tr.f72 Tryz.prog X).val ws = some (.bool c) ∧ (c = true ∨ (Tr.kindZ 0).den (Tr.C2 Tryz.prog X).X ws = some (.bool true)) := by
  obtain ⟨u, hu, hs⟩ := PFn.total ok72 w (fits1 h)
  obtain ⟨c, rfl⟩ := has_bool hs
  refine ⟨c, hu, ?_⟩
  have hk := d4_chk
  cases he : toE .bool (Tr.treeOf (Tr.C2 Tryz.prog X) 64 [Tr.valP]) with
  | none => rw [he] at hk; cases hk
  | some e =>
    cases he' : toE .bool (Tr.treeOf (Tr.C2 Tryz.prog X) 72 [Tr.valP]) with
    | none => rw [he, he'] at hk; cases hk
    | some e' =>
      rw [he, he'] at hk
      have h1 : e.den (Tr.C2 Tryz.prog X).X ws = some (.bool true) := by rw [← fnOf_val he]; exact hc
      have h2 : e'.den (Tr.C2 Tryz.prog X).X ws = some (.bool c) := by rw [← fnOf_val he']; exact hu
      obtain ⟨fs, h4, h5⟩ := pathsB_sound (fs := []) (fun p hp => by cases hp) h1 hk
      simp only [cond_true] at h5
      obtain ⟨fs', h6, h7⟩ := pathsB_sound h4 h2 h5
      cases c with
      | true => exact .inl rfl
      | false =>
        right
        simp only [cond_false] at h7
        split at h7
        · rename_i x hx
          subst h7
          exact decideE_sound h6 hx
        · cases h7

end Go.Proofs.YtlfhlipdjjhldaaGreatDoor
