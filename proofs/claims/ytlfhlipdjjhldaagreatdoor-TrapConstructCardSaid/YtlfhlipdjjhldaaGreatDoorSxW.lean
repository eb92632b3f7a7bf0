/- A symbolic executor for the model's code: a call is carried out as its tree says. Conditions: 'CfgOk'. -/
import Derived.Test.YtlfhlipdjjhldaaGreatDoorSxV
import Derived.ScopeJumps
namespace Go.SX
open Go.RowKit

/-- The jumps back in a scope: so many at most. -/
def jumps (P : Program) (c : Code) (Q : Exit → Act → World → Prop) : Nat → Code → Act → World → Prop
  | 0, _, _, _ => False
  | n + 1, rest, a, w => rest.wp P (fun e a w => match e with
      | .goto l => ∃ r, findLabel c l = some r ∧ jumps P c Q n r a w
      | e => Q e a w) a w

/-- As 'jumps', of what comes first. -/
def jumpQ (P : Program) (c : Code) (Q : Exit → Act → World → Prop) (n : Nat) : Exit → Act → World → Prop
  | .goto l, a, w => ∃ r, findLabel c l = some r ∧ jumps P c Q n r a w
  | e, a, w => Q e a w

theorem wp_scope_fuel {P : Program} {c : Code} {Q : Exit → Act → World → Prop} {n : Nat} {a : Act} {w : World} (h : jumps P c Q n c a w) : (Code.scope c).wp P Q a w := by
  intro b k cs
  have key : ∀ n rest a w, jumps P c Q n rest a w → ∃ e a' w', Q e a' w' ∧ Arrives P (lone (b.at a (.code rest :: .inScope c :: k)) cs w) b k cs e a' w' := by
    intro n
    induction n with
    | zero => intro rest a w h; exact h.elim
    | succ n ih =>
      intro rest a w h
      obtain ⟨e, a₁, w₁, hq, harr⟩ := h b (.inScope c :: k) cs
      cases e with
      | normal => exact ⟨.normal, a₁, w₁, hq, Steps.trans harr (.one step_inScope)⟩
      | exit id => exact ⟨.exit id, a₁, w₁, hq, fun k' hk => harr k' (by simp [exitTo, hk])⟩
      | goto l =>
        obtain ⟨r, hf, hj⟩ := hq
        obtain ⟨e₂, a₂, w₂, hq₂, harr₂⟩ := ih r a₁ w₁ hj
        have hg : gotoIn l (.inScope c :: k) = some (.code r :: .inScope c :: k) := by simp [gotoIn, hf]
        exact ⟨e₂, a₂, w₂, hq₂, .of_steps (harr _ hg) harr₂⟩
      | ret => exact ⟨_, a₁, w₁, hq, harr⟩
      | panic ch => exact ⟨_, a₁, w₁, hq, harr⟩
      | outgrown => exact ⟨_, a₁, w₁, hq, harr⟩
  obtain ⟨e, a', w', hq, harr⟩ := key n c a w h
  exact ⟨e, a', w', hq, .of_steps (.one step_scope) harr⟩

section
variable {C : Cfg} {R : Nat → List Value → List Value → Prop} {L : St → AV → List Value → List Nat → Prop}

/-- What follows code. -/
def KOk (S : Nat → Prop) (B : World) (C : Cfg) (R : Nat → List Value → List Value → Prop) (L : St → AV → List Value → List Nat → Prop) (Γ : Env) (w : World) (k : K) (Q : Exit → Act → World → Prop) : Prop :=
  ∀ e st' Γ' w' a', Later Γ w Γ' w' → MRel S B C Γ' st' w' → TRel noSlot Γ' st' a' → Holds C.X R L (k e st') Γ'.vs Γ'.ns → Q (exOf e) a' w'

/-- What each job comes to. -/
structure JobsOk (C : Cfg) (R : Nat → List Value → List Value → Prop) (L : St → AV → List Value → List Nat → Prop) (rec : Job → St → K → Tree) (n : Nat) : Prop where
  code : CodeOk C R L rec
  any : AnyOk C R L rec
  loop : ∀ (S : Nat → Prop) (B : World) (c : Code) (st : St) (k : K) (Γ : Env) (w : World) (a : Act) (Q : Exit → Act → World → Prop), MRel S B C Γ st w → TRel noSlot Γ st a → Holds C.X R L (rec (.loop c) st k) Γ.vs Γ.ns →
    KOk S B C R L Γ w k Q → Code.rounds C.P c Q n a w
  scope : ∀ (S : Nat → Prop) (B : World) (c rest : Code) (st : St) (k : K) (Γ : Env) (w : World) (a : Act) (Q : Exit → Act → World → Prop), MRel S B C Γ st w → TRel noSlot Γ st a →
    Holds C.X R L (rec (.scope c rest) st k) Γ.vs Γ.ns → KOk S B C R L Γ w k Q → jumps C.P c Q n rest a w
  ops : ∀ (S : Nat → Prop) (B : World) (all rest : List Oper) (i : Nat) (st : St) (k : K) (Γ : Env) (w : World) (a : Act) (Q : Exit → Act → World → Prop), all.drop i = rest → MRel S B C Γ st w → TRel noSlot Γ st a →
    Holds C.X R L (rec (.ops all rest) st k) Γ.vs Γ.ns → KOk S B C R L Γ w k Q → wpOps C.P all.toArray Q (List.range' i rest.length) a w

theorem KOk.later {S : Nat → Prop} {B : World} {Γ Γ' : Env} {w w' : World} {k : K} {Q : Exit → Act → World → Prop} (h : KOk S B C R L Γ w k Q) (hl : Later Γ w Γ' w') : KOk S B C R L Γ' w' k Q :=
  fun e st' Γ'' w'' a' hl' => h e st' Γ'' w'' a' (hl.trans hl')

theorem falses_eq : ∀ n : Nat, (falses n).toArray = Array.replicate n false := by
  intro n
  have : falses n = List.replicate n false := by
    induction n with
    | zero => rfl
    | succ n ih => simp [falses, ih, List.replicate_succ]
  rw [this]; simp

theorem region_sound (hC : CfgOk C R) {rec : Job → St → K → Tree} {n : Nat} (hrec : JobsOk C R L rec n) {S : Nat → Prop} {B : World} {id : Nat} {ops : Array Oper} {draw : Bool} {st : St} {k : K} {Γ : Env} {w : World} {a : Act}
    {Q : Exit → Act → World → Prop} (hM : MRel S B C Γ st w) (hT : TRel noSlot Γ st a) (h : Holds C.X R L (regionA rec ops.toList draw st k) Γ.vs Γ.ns) (hk : KOk S B C R L Γ w k Q) : (Code.region id ops draw).wp C.P Q a w := by
  unfold regionA at h
  cases draw with
  | true =>
    simp only [if_true] at h
    rw [forceBs_eq] at h
    let Q' : Exit → Act → World → Prop := fun e a w => match e with
      | .panic _ => False
      | e => Q e a w
    have hw : (Code.region id ops true).wp C.P Q' a w := by
      refine wp_region_L hC.mixed ?_
      have hall : ops.toList.toArray = ops := by simp
      have := hrec.any S B Γ w.drew ops.toList (falses (lenL ops.toList)) [] st k Γ w.drew a [] [] (Array.replicate ops.size false) ops.size Q' (fun c a w h => h) hM.fr.drew.size ?_ h ?_
      · rw [hall] at this; exact this
      · have hf : (falses (lenL ops.toList)).toArray = Array.replicate ops.size false := by rw [falses_eq, lenL_eq]; simp
        refine ⟨hM.drew, Later.refl _ _, hT.mono (Env.le.refl Γ) rfl rfl (fun t ht => ht.elim), ?_, by simp, ?_, fun p hp => (by cases hp), fun p hp => (by cases hp), List.Pairwise.nil, fun q hq => (by cases hq), ?_⟩
        · have : (falses (lenL ops.toList)).toArray.size = ops.size := by rw [hf]; simp
          simpa using this
        · intro j
          rw [hf]
          simp
        · unfold unl
          refine Nat.le_trans List.countP_le_length ?_
          simp
      · intro st' Γ' w' a' hl hm ht hh
        exact hk .normal st' Γ' w' a' ((Later.drew Γ w).trans hl) hm ht hh
    refine wp_mono hw ?_
    intro e a w hq
    cases e with
    | panic c => exact hq.elim
    | _ => exact hq
  | false =>
    simp only [Bool.false_eq_true, if_false] at h
    refine wp_region ?_
    have := hrec.ops S B ops.toList ops.toList 0 st k Γ w a Q rfl hM hT h hk
    rw [List.range_eq_range']
    simpa using this

theorem code_step (hC : CfgOk C R) {rec : Job → St → K → Tree} {n : Nat} (hrec : JobsOk C R L rec n) : CodeOk C R L (step C rec) := by
  intro S B c st k Γ w a Q hM hT h hk
  change Holds C.X R L (codeA rec c st k) Γ.vs Γ.ns at h
  change KOk S B C R L Γ w k Q at hk
  unfold codeA at h
  split at h
  · exact wp_skip (hk .normal st Γ w a (Later.refl _ _) hM hT h)
  · exact wp_label (hk .normal st Γ w a (Later.refl _ _) hM hT h)
  · exact region_sound hC hrec hM hT h hk
  · rename_i x y
    refine wp_seq (hrec.code S B x st _ Γ w a _ hM hT h ?_)
    intro e st' Γ' w' a' hl hm ht hh
    cases e with
    | normal => exact hrec.code S B y st' k Γ' w' a' Q hm ht hh (hk.later hl)
    | exit id => exact hk _ st' Γ' w' a' hl hm ht hh
    | goto l => exact hk _ st' Γ' w' a' hl hm ht hh
    | ret => exact hk _ st' Γ' w' a' hl hm ht hh
  · rename_i x y z
    unfold condA at h
    split at h
    case h_2 => exact h.elim
    rename_i e he
    have hden := evalA_den he (fun t _ => hT.den t id)
    obtain ⟨h1, h2⟩ := den_s.1 hden
    obtain ⟨b, hb⟩ := has_bool h2
    rw [hb] at h1
    obtain ⟨st1, m1, t1, _, hh⟩ := forkE_sound hM hT h1 h
    refine wp_cond hb ?_
    cases b with
    | true => exact hrec.code S B y st1 k Γ w a Q m1 t1 (by simpa using hh) hk
    | false => exact hrec.code S B z st1 k Γ w a Q m1 t1 (by simpa using hh) hk
  · rename_i id b
    refine wp_block (hrec.code S B b st _ Γ w a _ hM hT h ?_)
    intro e st' Γ' w' a' hl hm ht hh
    cases e with
    | exit id' =>
      simp only [blockK] at hh
      simp only [exOf, Exit.inBlock]
      split at hh
      · rename_i hid
        rw [if_pos (Nat.eq_of_beq_eq_true hid)]
        exact hk .normal st' Γ' w' a' hl hm ht hh
      · rename_i hid
        rw [if_neg (fun e => hid (by rw [e]; exact Nat.beq_refl _))]
        exact hk (.exit id') st' Γ' w' a' hl hm ht hh
    | normal => exact hk _ st' Γ' w' a' hl hm ht hh
    | goto l => exact hk _ st' Γ' w' a' hl hm ht hh
    | ret => exact hk _ st' Γ' w' a' hl hm ht hh
  · rename_i b
    exact wp_loop_rounds n (hrec.loop S B b st k Γ w a Q hM hT h hk)
  · rename_i b
    have h1 : jumps C.P b Q (n + 1) b a w := by
      refine hrec.code S B b st _ Γ w a _ hM hT h ?_
      intro e st' Γ' w' a' hl hm ht hh
      cases e with
      | goto l =>
        simp only [scopeK] at hh
        simp only [exOf]
        cases hf : findLabel b l with
        | none => simp only [hf] at hh; exact hh.elim
        | some r =>
          simp only [hf] at hh
          exact ⟨r, rfl, hrec.scope S B b r st' k Γ' w' a' Q hm ht hh (hk.later hl)⟩
      | normal => exact hk _ st' Γ' w' a' hl hm ht hh
      | exit id => exact hk _ st' Γ' w' a' hl hm ht hh
      | ret => exact hk _ st' Γ' w' a' hl hm ht hh
    exact wp_scope_fuel h1
  · rename_i id
    exact wp_exit (hk (.exit id) st Γ w a (Later.refl _ _) hM hT h)
  · rename_i l
    exact wp_goto (hk (.goto l) st Γ w a (Later.refl _ _) hM hT h)
  · exact wp_ret (hk .ret st Γ w a (Later.refl _ _) hM hT h)
  · exact h.elim
  · exact h.elim

theorem run_zero (st : St) (k : K) (j : Job) : run C 0 j st k = .fail "fuel" := rfl
theorem run_succ (n : Nat) : run C (n + 1) = step C (run C n) := rfl

theorem jobs_ok (hC : CfgOk C R) : ∀ n, JobsOk C R L (run C n) n := by
  intro n
  induction n with
  | zero =>
    refine ⟨?_, ?_, ?_, ?_, ?_⟩
    · intro S B c st k Γ w a Q _ _ h; exact h.elim
    · intro S B Γ₀ w₀ all listed held st k Γ w a D H listedR m Q _ _ _ h; exact h.elim
    · intro S B c st k Γ w a Q _ _ h; exact h.elim
    · intro S B c rest st k Γ w a Q _ _ h; exact h.elim
    · intro S B all rest i st k Γ w a Q _ _ _ h; exact h.elim
  | succ n ih =>
    rw [run_succ]
    refine ⟨code_step hC ih, any_step hC ih.code ih.any, ?_, ?_, ?_⟩
    · intro S B c st k Γ w a Q hM hT h hk
      refine ih.code S B c st _ Γ w a _ hM hT h ?_
      intro e st' Γ' w' a' hl hm ht hh
      cases e with
      | normal => exact ih.loop S B c st' k Γ' w' a' Q hm ht hh (hk.later hl)
      | exit id => exact hk _ st' Γ' w' a' hl hm ht hh
      | goto l => exact hk _ st' Γ' w' a' hl hm ht hh
      | ret => exact hk _ st' Γ' w' a' hl hm ht hh
    · intro S B c rest st k Γ w a Q hM hT h hk
      refine ih.code S B rest st _ Γ w a _ hM hT h ?_
      intro e st' Γ' w' a' hl hm ht hh
      cases e with
      | goto l =>
        simp only [scopeK] at hh
        simp only [exOf]
        cases hf : findLabel c l with
        | none => simp only [hf] at hh; exact hh.elim
        | some r =>
          simp only [hf] at hh
          exact ⟨r, rfl, ih.scope S B c r st' k Γ' w' a' Q hm ht hh (hk.later hl)⟩
      | normal => exact hk _ st' Γ' w' a' hl hm ht hh
      | exit id => exact hk _ st' Γ' w' a' hl hm ht hh
      | ret => exact hk _ st' Γ' w' a' hl hm ht hh
    · intro S B all rest i st k Γ w a Q hdrop hM hT h hk
      have h : Holds C.X R L (opsA C (run C n) all rest st k) Γ.vs Γ.ns := h
      unfold opsA at h
      cases rest with
      | nil => exact hk .normal st Γ w a (Later.refl _ _) hM hT h
      | cons o rest' =>
        simp only at h
        have hi : all[i]? = some o := by
          have := congrArg (fun l : List Oper => l[0]?) hdrop
          simpa [List.getElem?_drop] using this
        have hdrop' : all.drop (i + 1) = rest' := by
          rw [← List.tail_drop, hdrop]; rfl
        have ho' : all.toArray[i]? = some o := by simpa using hi
        show wpOps C.P all.toArray Q (i :: List.range' (i + 1) rest'.length) a w
        rw [wpOps_cons]
        unfold wpOp
        simp only [ho']
        have hlooks : ∀ d ∈ o.looksAt all.toArray, ¬ noSlot d := fun d _ h => h
        obtain ⟨st1, hM1, hT1, ⟨hw, hh⟩ | ⟨hw, hh⟩⟩ := guardA_sound hM hT hlooks h
        · simp only [hw, if_true]
          left
          refine execA_sound hC hM1 ih.code (Ev.of hT1 hlooks) (N := fun u w' => wpOps C.P all.toArray Q (List.range' (i + 1) rest'.length) (a.put o.dst u) w') ?_ hh (fun u w' hN => hN)
          intro v st' Γ' w' u hl hM2 hs1 hs2 hv hh
          obtain ⟨st2, hset, hh⟩ := finish_holds hh
          obtain ⟨t1, t2, t3, t4, t5, t6, t7⟩ := setTmp_sound (D' := noSlot) (hT1.mono hl.le hs1 hs2 (fun _ ht => ht)) hset hv (fun t ht => .inr ht)
          exact ih.ops S B all rest' (i + 1) st2 k Γ' w' _ Q hdrop' (hM2.of_mem t2 t3 t4 t5 t6) t1 hh (hk.later hl)
        · simp only [hw]
          obtain ⟨st2, hset, hh⟩ := finish_holds hh
          obtain ⟨t1, t2, t3, t4, t5, t6, t7⟩ := setTmp_sound (D' := noSlot) hT1 hset (undef_den Γ) (fun t ht => .inr ht)
          exact ih.ops S B all rest' (i + 1) st2 k Γ w _ Q hdrop' (hM1.of_mem t2 t3 t4 t5 t6) t1 hh hk

/-- **A call is carried out as its tree says.** -/
theorem runF_sound (hC : CfgOk C R) {n f : Nat} {args : List AV} {st : St} {S : Nat → Prop} {B : World} {Γ : Env} {w : World} {xs : List Value} (hM : MRel S B C Γ st w) (hx : avsDen Γ args = some xs)
    (h : Holds C.X R L (runF C n f args st) Γ.vs Γ.ns) :
    Calls C.P f xs.toArray w fun e w' => ∃ u, e = .returned u ∧ ∃ st' v Γ', Later Γ w Γ' w' ∧ MRel S B C Γ' st' w' ∧ v.den Γ' = some u ∧ L st' v Γ'.vs Γ'.ns := by
  unfold runF at h
  rw [nth_eq, Array.getElem?_toList] at h
  cases hf : C.P.funcs[f]? with
  | none => simp only [hf] at h; exact h.elim
  | some fn =>
    simp only [hf] at h
    exact (bodyA_sound hM (jobs_ok hC n).code hf hx (k := fun v st => .leaf st v) (N := fun u w' => ∃ st' v Γ', Later Γ w Γ' w' ∧ MRel S B C Γ' st' w' ∧ v.den Γ' = some u ∧ L st' v Γ'.vs Γ'.ns)
      (fun v st' Γ' w' u hl hm _ _ hv hh => ⟨st', v, Γ', hl, hm, hv, hh⟩) h).2

end
end Go.SX
