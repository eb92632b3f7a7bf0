/- A symbolic executor for the model's code: calls, guards, single operations. Conditions: 'CfgOk': what is asked of the program and of the functions that are taken by contracts. -/
import Derived.Test.YtlfhlipdjjhldaaGreatDoorSxP
namespace Go.SX
open Go.RowKit

/-- What is asked of the program, and of what is taken for granted. -/
structure CfgOk (C : Cfg) (R : Nat → List Value → List Value → Prop) : Prop where
  eq : EqOk C
  mixed : C.P.follows .mixedOrders = true
  name : ∀ f fn, C.P.funcs[f]? = some fn → (C.fns f = true ∨ (C.con f).isSome = true) → (fn.name == "runtime.NumGoroutine") = false
  ext : ∀ f s t b, C.ext f = some (s, t, b) → ∀ v, s.has v = true → (b = true ∨ binV .eql v v = some (.bool true) → ∃ u, C.X f v = some u) ∧ ∀ u, C.X f v = some u → t.has u = true ∧ ∀ w, (callFunc f #[v]).run C.P w = .ok (.value u) w
  con : ∀ f c, C.con f = some c → ∀ args σ vs ns β xs w, c.takes args = true → avsDen ⟨C.X, σ, vs, ns, β⟩ args = some xs →
    (∃ fn, C.P.funcs[f]? = some fn ∧ fn.body.isNone = false) ∧ Calls C.P f xs.toArray w fun e w' => ∃ u outs, e = .returned u ∧ R f xs outs ∧ outs.length = c.n ∧
      (c.res vs.length args).den ⟨C.X, σ, vs ++ outs, ns, β⟩ = some u ∧ Below w.heap.size w w'

def exOf : XExit → Exit
  | .normal => .normal
  | .exit id => .exit id
  | .goto l => .goto l
  | .ret => .ret

section
variable {S : Nat → Prop} {B : World} {C : Cfg} {Γ Γ' : Env} {st st' : St} {w w' : World} {a : Act} {D D' : Nat → Prop} {R : Nat → List Value → List Value → Prop}
  {L : St → AV → List Value → List Nat → Prop}

/-! ### Memory kept -/

theorem MRel.below (h : MRel S B C Γ st w) (hb : Below w.heap.size w w') : MRel S B C Γ st w' ∧ Later Γ w Γ w' := by
  refine ⟨⟨h.X, h.lenσ, h.lenv, h.lenn, h.roomy, ?_, h.inj, ?_, ?_, h.facts, h.base⟩, ⟨Env.le.refl Γ, hb.size, fun k hk _ => hb.block k hk, fun i a hi => .inl ⟨i, hi⟩⟩⟩
  · intro id b hid
    obtain ⟨x, hx, hr⟩ := h.live id b hid
    exact ⟨x, hx, hr.mono (Env.le.refl Γ) (hb.block x (h.mine id x hx).2)⟩
  · intro i x hi; exact ⟨(h.mine i x hi).1, Nat.lt_of_lt_of_le (h.mine i x hi).2 hb.size⟩
  · exact ⟨hb.os.trans h.fr.os, hb.tape.trans h.fr.tape, hb.output.trans h.fr.output, Nat.le_trans h.fr.size hb.size,
      fun k hk hs => (hb.block k (Nat.lt_of_lt_of_le hk h.fr.size)).trans (h.fr.block k hk hs)⟩

theorem MRel.alloc_out (h : MRel S B C Γ st w) (o : Obj) : MRel S B C Γ st (w.alloc o) ∧ Later Γ w Γ (w.alloc o) :=
  h.below ((Below.refl _ w).alloc (Nat.le_refl _) o)

theorem MRel.addVs (h : MRel S B C Γ st w) (outs : List Value) {n : Nat} (hn : outs.length = n) : MRel S B C (Γ.addVs outs) (moreVars st n) w ∧ Later Γ w (Γ.addVs outs) w := by
  obtain ⟨tmps, ntm, heap, nh, nv, nn, facts⟩ := st
  have hle := Env.le_addVs Γ outs
  refine ⟨⟨h.X, h.lenσ, ?_, h.lenn, h.roomy, ?_, h.inj, h.mine, h.fr, ?_, h.base⟩, ⟨hle, Nat.le_refl _, fun _ _ _ => rfl, fun i a hi => .inl ⟨i, hi⟩⟩⟩
  · have : Γ.vs.length = nv := h.lenv
    show (Γ.vs ++ outs).length = Nat.add nv n
    simp [this, hn]
  · intro id b hid
    obtain ⟨x, hx, hr⟩ := h.live id b hid
    exact ⟨x, hx, hr.mono hle rfl⟩
  · intro p hp; exact E.den_mono hle.vs (h.facts p hp)

theorem MRel.learn (h : MRel S B C Γ st w) {c : E} {b : Bool} (hc : c.den Γ.X Γ.vs = some (.bool b)) : MRel S B C Γ (learn st c b) w := by
  obtain ⟨tmps, ntm, heap, nh, nv, nn, facts⟩ := st
  have e : SX.learn ⟨tmps, ntm, heap, nh, nv, nn, facts⟩ c b = ⟨tmps, ntm, heap, nh, nv, nn, ((norm c).1, cond (norm c).2 (!b) b) :: facts⟩ := rfl
  rw [e]
  refine ⟨h.X, h.lenσ, h.lenv, h.lenn, h.roomy, h.live, h.inj, h.mine, h.fr, ?_, h.base⟩
  intro p hp
  rcases List.mem_cons.1 hp with rfl | hp
  · exact (norm_den c b).1 hc
  · exact h.facts p hp

theorem TRel.learn (h : TRel D Γ st a) {c : E} {b : Bool} : TRel D Γ (learn st c b) a := by
  cases st; exact ⟨h.size, h.den, h.defers⟩

theorem learn_tmps (st : St) (c : E) (b : Bool) : (SX.learn st c b).tmps = st.tmps := by cases st; rfl

/-- Two ways on. -/
theorem forkE_sound : ∀ {c : E} {st : St} {b : Bool} {t f : St → Tree}, MRel S B C Γ st w → TRel D Γ st a → c.den Γ.X Γ.vs = some (.bool b) → Holds C.X R L (forkE c st t f) Γ.vs Γ.ns →
    ∃ st', MRel S B C Γ st' w ∧ TRel D Γ st' a ∧ st'.tmps = st.tmps ∧ Holds C.X R L (if b then t st' else f st') Γ.vs Γ.ns := by
  have base : ∀ {c : E} {st : St} {b : Bool} {t f : St → Tree}, MRel S B C Γ st w → TRel D Γ st a → c.den Γ.X Γ.vs = some (.bool b) →
      Holds C.X R L (match decideE st.facts c with
        | some true => t st
        | some false => f st
        | none => .fork c (t (SX.learn st c true)) (f (SX.learn st c false))) Γ.vs Γ.ns →
      ∃ st', MRel S B C Γ st' w ∧ TRel D Γ st' a ∧ st'.tmps = st.tmps ∧ Holds C.X R L (if b then t st' else f st') Γ.vs Γ.ns := by
    intro c st b t f hM hT hc h
    split at h
    · rename_i hd
      have := decideE_sound hM.facts hd
      rw [hc] at this
      cases this
      exact ⟨st, hM, hT, rfl, h⟩
    · rename_i hd
      have := decideE_sound hM.facts hd
      rw [hc] at this
      cases this
      exact ⟨st, hM, hT, rfl, h⟩
    · have h1 := h b (hM.X ▸ hc)
      refine ⟨SX.learn st c b, hM.learn hc, hT.learn, learn_tmps st c b, ?_⟩
      cases b
      · exact h1.2 rfl
      · exact h1.1 rfl
  intro c
  induction c with
  | not a ih =>
    intro st b t f hM hT hc h
    simp only [forkE] at h
    simp only [E.den, Option.bind_eq_some_iff] at hc
    obtain ⟨x, hx, hn⟩ := hc
    cases x <;> simp [notV] at hn
    obtain ⟨st', h1, h2, h3, h4⟩ := ih hM hT hx h
    refine ⟨st', h1, h2, h3, ?_⟩
    subst hn
    cases b <;> simpa using h4
  | ite c x y ihc ihx ihy =>
    intro st b t f hM hT hc h
    simp only [forkE] at h
    simp only [E.den] at hc
    unfold iteV at hc
    split at hc
    · rename_i hd
      obtain ⟨st1, h1, h2, h3, h4⟩ := ihc hM hT hd h
      obtain ⟨st2, h5, h6, h7, h8⟩ := ihx h1 h2 hc (by simpa using h4)
      exact ⟨st2, h5, h6, h7.trans h3, h8⟩
    · rename_i hd
      obtain ⟨st1, h1, h2, h3, h4⟩ := ihc hM hT hd h
      obtain ⟨st2, h5, h6, h7, h8⟩ := ihy h1 h2 hc (by simpa using h4)
      exact ⟨st2, h5, h6, h7.trans h3, h8⟩
    · cases hc
  | bin op x y ihx ihy =>
    intro st b t f hM hT hc h
    simp only [forkE] at h
    obtain ⟨p, q, hp, hq, hpq⟩ := den_bin.1 hc
    split at h
    · rename_i hce
      unfold condEq at hce
      split at hce
      case isFalse => cases hce
      rename_i hcc
      simp only [Bool.and_eq_true] at hcc
      obtain ⟨p', rfl⟩ := isCond_den hcc.1 hp
      obtain ⟨q', rfl⟩ := isCond_den hcc.2 hq
      split at hce <;> cases hce
      have hb : b = (p' == q') := by simpa [binV, boolV] using hpq.symm
      obtain ⟨st1, h1, h2, h3, h4⟩ := ihx hM hT hp h
      cases p' with
      | true =>
        obtain ⟨st2, h5, h6, h7, h8⟩ := ihy h1 h2 hq (by simpa using h4)
        refine ⟨st2, h5, h6, h7.trans h3, ?_⟩
        cases q' <;> simp [hb] at h8 ⊢ <;> exact h8
      | false =>
        obtain ⟨st2, h5, h6, h7, h8⟩ := ihy h1 h2 hq (by simpa using h4)
        refine ⟨st2, h5, h6, h7.trans h3, ?_⟩
        cases q' <;> simp [hb] at h8 ⊢ <;> exact h8
    · rename_i hce
      unfold condEq at hce
      split at hce
      case isFalse => cases hce
      rename_i hcc
      simp only [Bool.and_eq_true] at hcc
      obtain ⟨p', rfl⟩ := isCond_den hcc.1 hp
      obtain ⟨q', rfl⟩ := isCond_den hcc.2 hq
      split at hce <;> cases hce
      have hb : b = !(p' == q') := by simpa [binV, boolV] using hpq.symm
      obtain ⟨st1, h1, h2, h3, h4⟩ := ihx hM hT hp h
      cases p' with
      | true =>
        obtain ⟨st2, h5, h6, h7, h8⟩ := ihy h1 h2 hq (by simpa using h4)
        refine ⟨st2, h5, h6, h7.trans h3, ?_⟩
        cases q' <;> simp [hb] at h8 ⊢ <;> exact h8
      | false =>
        obtain ⟨st2, h5, h6, h7, h8⟩ := ihy h1 h2 hq (by simpa using h4)
        refine ⟨st2, h5, h6, h7.trans h3, ?_⟩
        cases q' <;> simp [hb] at h8 ⊢ <;> exact h8
    · exact base hM hT hc h
  | _ => intro st b t f hM hT hc h; exact base hM hT hc h

/-- By the guard. -/
theorem guardA_sound {all : List Oper} {o : Oper} {yes no : St → Tree} (hM : MRel S B C Γ st w) (hT : TRel D Γ st a) (hD : ∀ d ∈ o.looksAt all.toArray, ¬ D d)
    (h : Holds C.X R L (guardA all o st yes no) Γ.vs Γ.ns) :
    ∃ st', MRel S B C Γ st' w ∧ TRel D Γ st' a ∧
      ((Region.wanted o (yielded all.toArray a.tmps) = true ∧ Holds C.X R L (yes st') Γ.vs Γ.ns) ∨ (Region.wanted o (yielded all.toArray a.tmps) = false ∧ Holds C.X R L (no st') Γ.vs Γ.ns)) := by
  unfold guardA at h
  unfold Region.wanted
  cases hg : o.guard with
  | none => simp only [hg] at h; exact ⟨st, hM, hT, .inl ⟨rfl, h⟩⟩
  | some g =>
    obtain ⟨j, want⟩ := g
    simp only [hg] at h
    simp only
    rw [slotOf_eq] at h
    cases hs : (all.toArray[j]?).bind (·.dst) with
    | none =>
      simp only [hs] at h
      refine ⟨st, hM, hT, .inr ⟨?_, h⟩⟩
      have : yielded all.toArray a.tmps j = none := by unfold yielded; rw [hs]; rfl
      rw [this]
      rfl
    | some d =>
      simp only [hs] at h
      have hnd : ¬ D d := hD d (by
        unfold Oper.looksAt
        rw [hg]
        refine List.mem_append.2 (.inr ?_)
        show d ∈ ((all.toArray[j]?).bind (·.dst)).toList
        rw [hs]
        exact List.mem_singleton.2 rfl)
      have hden := hT.den d hnd
      have hy : ∀ u, a.tmps.getD d undef = u → yielded all.toArray a.tmps j = match u with | .bool b => some b | _ => none := by
        intro u hu
        unfold yielded
        rw [hs]
        simp only [Option.bind_some]
        rw [Array.getD_eq_getD_getElem?] at hu
        cases hx : a.tmps[d]? with
        | none => rw [hx] at hu; subst hu; rfl
        | some y => rw [hx] at hu; simp at hu; subst hu; cases y <;> rfl
      have fixed : ∀ {st2 : St} {b : Bool} {k : St → Tree}, MRel S B C Γ st2 w → TRel D Γ st2 a → a.tmps.getD d undef = .bool b →
          Holds C.X R L (finish st2 (some d) (boolLit b) k) Γ.vs Γ.ns → ∃ st', MRel S B C Γ st' w ∧ TRel D Γ st' a ∧ Holds C.X R L (k st') Γ.vs Γ.ns := by
        intro st2 b k hM2 hT2 hb hh
        unfold finish at hh
        cases hset : setTmp st2 (some d) (boolLit b) with
        | none => simp only [hset] at hh; exact hh.elim
        | some st3 =>
          simp only [hset, forceSt_eq] at hh
          obtain ⟨t1, t2, t3, t4, t5, t6, t7⟩ := setTmp_sound (D' := D) (u := .bool b) hT2 hset (by unfold boolLit; rw [AV.den_one, den_s]; exact ⟨rfl, rfl⟩) (fun t ht => .inr ht)
          have hput : a.put (some d) (.bool b) = a := by
            simp only [Act.put]
            have : a.tmps.setIfInBounds d (.bool b) = a.tmps := by
              apply Array.ext_getElem?
              intro i
              rw [Array.getElem?_setIfInBounds]
              split
              · rename_i hid
                subst hid
                split
                · rename_i hlt
                  rw [Array.getD_eq_getD_getElem?, Array.getElem?_eq_getElem hlt] at hb
                  rw [Array.getElem?_eq_getElem hlt]
                  simp at hb
                  rw [hb]
                · rename_i hlt
                  rw [Array.getElem?_eq_none (by omega)]
              · rfl
            rw [this]
          rw [hput] at t1
          exact ⟨st3, hM2.of_mem t2 t3 t4 t5 t6, t1, hh⟩
      split at h
      · rename_i e he
        have he' : getA st.tmps d = .one (.s .bool e) := by unfold getA; rw [he]
        rw [he'] at hden
        obtain ⟨h1, h2⟩ := den_s.1 hden
        obtain ⟨b, hb⟩ := has_bool h2
        rw [hb] at h1
        rw [hy _ hb]
        split at h
        · rename_i b'
          cases h1
          refine ⟨st, hM, hT, ?_⟩
          cases b <;> cases want
          · exact .inl ⟨rfl, h⟩
          · exact .inr ⟨rfl, h⟩
          · exact .inr ⟨rfl, h⟩
          · exact .inl ⟨rfl, h⟩
        obtain ⟨st1, m1, t1, _, h3⟩ := forkE_sound hM hT h1 h
        cases b with
        | true =>
          obtain ⟨st2, m2, t2, h4⟩ := fixed m1 t1 hb (by simpa using h3)
          refine ⟨st2, m2, t2, ?_⟩
          cases want
          · exact .inr ⟨rfl, by simpa using h4⟩
          · exact .inl ⟨rfl, by simpa using h4⟩
        | false =>
          obtain ⟨st2, m2, t2, h4⟩ := fixed m1 t1 hb (by simpa using h3)
          refine ⟨st2, m2, t2, ?_⟩
          cases want
          · exact .inl ⟨rfl, by simpa using h4⟩
          · exact .inr ⟨rfl, by simpa using h4⟩
      · rename_i he
        have he' : getA st.tmps d = .tup [] := by unfold getA; rw [he]
        rw [he'] at hden
        have := hy _ (Option.some.inj hden).symm
        rw [this]
        exact ⟨st, hM, hT, .inr ⟨by cases want <;> rfl, h⟩⟩
      · rename_i he
        have he' : getA st.tmps d = .undef := by unfold getA; rw [he]
        rw [he'] at hden
        have := hy _ (Option.some.inj hden).symm
        rw [this]
        exact ⟨st, hM, hT, .inr ⟨by cases want <;> rfl, h⟩⟩
      · exact h.elim

/-! ### Frames -/

theorem fillT_get : ∀ (l : List AV) (i : Nat) (t : T AV) (j : Nat), i + l.length ≤ room → (fillT l i t).get j = if i ≤ j ∧ j < i + l.length then l[j - i]? else t.get j := by
  intro l
  induction l with
  | nil => intro i t j _; simp only [fillT, List.length_nil]; rw [if_neg (by omega)]
  | cons v l ih =>
    intro i t j h
    simp only [List.length_cons] at h
    simp only [fillT, List.length_cons]
    rw [ih _ _ _ (by simp; omega), T.get_put _ _ _ _ (by omega)]
    simp only [Nat.add_eq]
    by_cases h1 : j = i
    · subst h1
      rw [if_neg (by omega), if_pos rfl, if_pos (by omega)]
      simp
    · rw [if_neg h1]
      by_cases h2 : i + 1 ≤ j ∧ j < i + 1 + l.length
      · rw [if_pos h2, if_pos (by omega)]
        have : j - i = (j - (i + 1)) + 1 := by omega
        rw [this]
        simp
      · rw [if_neg h2, if_neg (by omega)]

theorem avsDen_get : ∀ {l : List AV} {xs : List Value}, avsDen Γ l = some xs → ∀ i : Nat, (l[i]?.getD AV.undef).den Γ = some (xs[i]?.getD undef) := by
  intro l
  induction l with
  | nil => intro xs h i; cases h; simp [undef_den]
  | cons v l ih =>
    intro xs h i
    simp only [avsDen, Option.bind_eq_some_iff, Option.map_eq_some_iff] at h
    obtain ⟨x, hx, ys, hys, rfl⟩ := h
    cases i with
    | zero => simpa using hx
    | succ i => simpa using ih hys i

theorem avsDen_length : ∀ {l : List AV} {xs : List Value}, avsDen Γ l = some xs → xs.length = l.length := by
  intro l
  induction l with
  | nil => intro xs h; cases h; rfl
  | cons v l ih =>
    intro xs h
    simp only [avsDen, Option.bind_eq_some_iff, Option.map_eq_some_iff] at h
    obtain ⟨x, hx, ys, hys, rfl⟩ := h
    simp [ih hys]

theorem frameOf_sound (hM : MRel S B C Γ st w) {args : List AV} {xs : List Value} {n : Nat} (h : frameOf st args n = some st') (hx : avsDen Γ args = some xs) :
    MRel S B C Γ st' w ∧ TRel noSlot Γ st' ⟨xs.toArray ++ Array.replicate (n - xs.toArray.size) undef, []⟩ := by
  obtain ⟨tmps, ntm, heap, nh, nv, nn, facts⟩ := st
  simp only [frameOf] at h
  split at h
  case isFalse => cases h
  rename_i hc
  simp only [Bool.and_eq_true] at hc
  have h1 : args.length ≤ n := by rw [← lenL_eq]; exact Nat.le_of_ble_eq_true hc.1
  have h2 : n ≤ room := Nat.le_of_ble_eq_true hc.2
  cases h
  have hl := avsDen_length hx
  refine ⟨hM.of_mem rfl rfl rfl rfl rfl, ⟨by simp; omega, fun t _ => ?_, rfl⟩⟩
  have e : getA (fillT args 0 .e) t = args[t]?.getD AV.undef := by
    unfold getA
    rw [fillT_get _ _ _ _ (by omega)]
    by_cases ht : t < args.length
    · rw [if_pos (by omega)]; simp only [Nat.sub_zero]; cases args[t]? <;> rfl
    · rw [if_neg (by omega)]
      rw [List.getElem?_eq_none (by omega), T.get_e]
      rfl
  show (getA (fillT args 0 .e) t).den Γ = _
  rw [e, avsDen_get hx t]
  congr 1
  rw [Array.getD_eq_getD_getElem?, Array.getElem?_append]
  split
  · simp
  · rename_i hlt
    rw [List.getElem?_eq_none (by simpa using hlt), Array.getElem?_replicate]
    split <;> rfl

theorem ptrAVs_den : ∀ {l : List (Nat × Nat)} {vs : List Value}, ptrsDen Γ.σ Γ.β l = some vs → avsDen Γ (ptrAVs l) = some vs := by
  intro l
  induction l with
  | nil => intro vs h; exact h
  | cons p l ih =>
    intro vs h
    simp only [ptrsDen, Option.bind_eq_some_iff, Option.map_eq_some_iff] at h
    obtain ⟨v, hv, us, hus, rfl⟩ := h
    have : (AV.one (.ptr p.1 p.2)).den Γ = some v := hv
    simp [ptrAVs, avsDen, this, ih hus]

theorem avsDen_append : ∀ {l m : List AV} {xs ys : List Value}, avsDen Γ l = some xs → avsDen Γ m = some ys → avsDen Γ (l ++ m) = some (xs ++ ys) := by
  intro l
  induction l with
  | nil => intro m xs ys h h'; cases h; simpa using h'
  | cons v l ih =>
    intro m xs ys h h'
    simp only [avsDen, Option.bind_eq_some_iff, Option.map_eq_some_iff] at h
    obtain ⟨x, hx, zs, hzs, rfl⟩ := h
    simp [avsDen, hx, ih hzs h']

/-! ### Calls -/

/-- Code is carried out as its tree says. -/
def CodeOk (C : Cfg) (R : Nat → List Value → List Value → Prop) (L : St → AV → List Value → List Nat → Prop) (rec : Job → St → K → Tree) : Prop :=
  ∀ (S : Nat → Prop) (B : World) (c : Code) (st : St) (k : K) (Γ : Env) (w : World) (a : Act) (Q : Exit → Act → World → Prop), MRel S B C Γ st w → TRel noSlot Γ st a → Holds C.X R L (rec (.code c) st k) Γ.vs Γ.ns →
    (∀ e st' Γ' w' a', Later Γ w Γ' w' → MRel S B C Γ' st' w' → TRel noSlot Γ' st' a' → Holds C.X R L (k e st') Γ'.vs Γ'.ns → Q (exOf e) a' w') → c.wp C.P Q a w

/-- What follows a value: 'N'. -/
def Then (S : Nat → Prop) (B : World) (C : Cfg) (R : Nat → List Value → List Value → Prop) (L : St → AV → List Value → List Nat → Prop) (Γ : Env) (w : World) (st : St) (k : AV → St → Tree) (N : Value → World → Prop) : Prop :=
  ∀ v st' Γ' w' u, Later Γ w Γ' w' → MRel S B C Γ' st' w' → st'.tmps = st.tmps → st'.ntm = st.ntm → v.den Γ' = some u → Holds C.X R L (k v st') Γ'.vs Γ'.ns → N u w'

theorem bodyA_sound (hM : MRel S B C Γ st w) {rec : Job → St → K → Tree} (hrec : CodeOk C R L rec) {f : Nat} {fn : Func} (hf : C.P.funcs[f]? = some fn) {args : List AV} {xs : List Value} (hx : avsDen Γ args = some xs)
    {k : AV → St → Tree} {N : Value → World → Prop} (hk : Then S B C R L Γ w st k N) (h : Holds C.X R L (bodyA C rec fn args st k) Γ.vs Γ.ns) :
    fn.body.isNone = false ∧ Calls C.P f xs.toArray w fun e w' => ∃ u, e = .returned u ∧ N u w' := by
  unfold bodyA at h
  cases hb : fn.body with
  | none => simp only [hb] at h; exact h.elim
  | some c =>
    simp only [hb] at h
    cases hfr : frameOf st args fn.ntmps with
    | none => simp only [hfr] at h; exact h.elim
    | some st0 =>
      simp only [hfr, forceSt_eq] at h
      refine ⟨rfl, calls_of_wp hf hb ?_⟩
      obtain ⟨m0, t0⟩ := frameOf_sound hM hfr hx
      refine hrec S B c st0 _ Γ w _ _ m0 t0 h ?_
      intro e st' Γ' w' a' hl hm ht hh
      have key : Holds C.X R L (match returned C fn st' with
          | some v => k v (backTo st st')
          | none => .fail "results") Γ'.vs Γ'.ns → a'.defers = [] ∧ ∃ v, (results fn a'.tmps).run C.P w' = .ok v w' ∧ ∃ u, Ending.returned v = .returned u ∧ N u w' := by
        intro hh
        cases hr : returned C fn st' with
        | none => simp only [hr] at hh; exact hh.elim
        | some v =>
          simp only [hr] at hh
          obtain ⟨u, hu, hrun⟩ := returned_sound hm ht hr
          refine ⟨ht.defers, u, hrun, u, rfl, ?_⟩
          refine hk v (backTo st st') Γ' w' u hl ?_ ?_ ?_ hu hh
          · cases st'; exact hm.of_mem rfl rfl rfl rfl rfl
          · cases st'; rfl
          · cases st'; rfl
      cases e with
      | normal => exact key hh
      | ret => exact key hh
      | exit id => exact hh.elim
      | goto l => exact hh.elim

theorem enters {f : Nat} {fn : Func} {xs : List Value} (hC : CfgOk C R) (h1 : C.P.funcs[f]? = some fn) (h2 : C.fns f = true ∨ (C.con f).isSome = true) (h3 : fn.body.isNone = false) :
    (callFunc f xs.toArray).run C.P w = .ok (.enter f xs.toArray) w := by
  have h4 := hC.name f fn h1 h2
  simp only [beq_eq_false_iff_ne, ne_eq] at h4
  cases hb : fn.body with
  | none => rw [hb] at h3; cases h3
  | some c => simp [callFunc, h1, hb, h4]

theorem enterB_sound (hC : CfgOk C R) (hM : MRel S B C Γ st w) {rec : Job → St → K → Tree} (hrec : CodeOk C R L rec) {f : Nat} {args : List AV} {xs : List Value} (hx : avsDen Γ args = some xs)
    {k : AV → St → Tree} {N : Value → World → Prop} (hk : Then S B C R L Γ w st k N) (h : Holds C.X R L (enterB C rec f args st k) Γ.vs Γ.ns) :
    (∃ u, (callFunc f xs.toArray).run C.P w = .ok (.value u) w ∧ N u w) ∨
    ((callFunc f xs.toArray).run C.P w = .ok (.enter f xs.toArray) w ∧ Calls C.P f xs.toArray w fun e w' => ∃ u, e = .returned u ∧ N u w') := by
  unfold enterB at h
  cases hext : C.ext f with
  | some st2 =>
    obtain ⟨s, t, b⟩ := st2
    simp only [hext] at h
    split at h
    case h_2 => exact h.elim
    rename_i u e
    split at h
    case isFalse => exact h.elim
    rename_i hs
    obtain rfl := Srt.eq_eq hs
    obtain ⟨y, hy, rfl⟩ : ∃ y, (AV.one (.s u e)).den Γ = some y ∧ xs = [y] := by
      simp only [avsDen, Option.bind_eq_some_iff, Option.map_eq_some_iff] at hx
      obtain ⟨y, hy, zs, hzs, rfl⟩ := hx
      cases hzs
      exact ⟨y, hy, rfl⟩
    obtain ⟨hy1, hy2⟩ := den_s.1 hy
    rw [hM.X] at hy1
    split at h
    case isFalse => exact h.elim
    rename_i htot
    rw [forceE_eq] at h
    obtain ⟨x1, x2⟩ := hC.ext f _ t b hext y hy2
    obtain ⟨z, hz1⟩ : ∃ z, C.X f y = some z := by
      simp only [Bool.or_eq_true] at htot
      rcases htot with (htot | htot) | htot
      · exact x1 (.inl htot)
      · refine x1 (.inr ?_)
        unfold selfEq at htot
        split at htot
        · rename_i hd
          have hd := decideE_sound hM.facts hd
          obtain ⟨p, q, hp, hq, hpq⟩ := den_bin.1 hd
          rw [hM.X, hy1] at hp hq
          cases hp
          cases hq
          exact hpq
        · cases htot
      · unfold mkExt at htot
        split at htot
        · rename_i v
          cases hy1
          split at htot
          · rename_i u hu; exact ⟨u, hu⟩
          · cases htot
        · cases htot
    obtain ⟨hz2, hz3⟩ := x2 z hz1
    refine .inl ⟨z, hz3 w, ?_⟩
    refine hk _ st Γ w z (Later.refl _ _) hM rfl rfl ?_ h
    rw [AV.den_one, den_s, hM.X, mkExt_den]
    refine ⟨?_, hz2⟩
    simp [E.den, hy1, hz1]
  | none =>
    simp only [hext] at h
    split at h
    case isFalse => exact h.elim
    rename_i hfns
    rw [nth_eq, Array.getElem?_toList] at h
    cases hf : C.P.funcs[f]? with
    | none => simp only [hf] at h; exact h.elim
    | some fn =>
      simp only [hf] at h
      obtain ⟨h1, h2⟩ := bodyA_sound hM hrec hf hx hk h
      exact .inr ⟨enters hC hf (.inl hfns) h1, h2⟩

theorem enterA_sound (hC : CfgOk C R) (hM : MRel S B C Γ st w) {rec : Job → St → K → Tree} (hrec : CodeOk C R L rec) {f : Nat} {args : List AV} {xs : List Value} (hx : avsDen Γ args = some xs)
    {k : AV → St → Tree} {N : Value → World → Prop} (hk : Then S B C R L Γ w st k N) (h : Holds C.X R L (enterA C rec f args st k) Γ.vs Γ.ns) :
    (∃ u, (callFunc f xs.toArray).run C.P w = .ok (.value u) w ∧ N u w) ∨
    ((callFunc f xs.toArray).run C.P w = .ok (.enter f xs.toArray) w ∧ Calls C.P f xs.toArray w fun e w' => ∃ u, e = .returned u ∧ N u w') := by
  unfold enterA at h
  cases hcon : C.con f with
  | none => simp only [hcon] at h; exact enterB_sound hC hM hrec hx hk h
  | some c =>
    simp only [hcon] at h
    split at h
    case isFalse => exact enterB_sound hC hM hrec hx hk h
    rename_i ht
    right
    have hx' : avsDen ⟨C.X, Γ.σ, Γ.vs, Γ.ns, Γ.β⟩ args = some xs := by rw [← hM.X]; exact hx
    obtain ⟨⟨fn, h1, h2⟩, h3⟩ := hC.con f c hcon args Γ.σ Γ.vs Γ.ns Γ.β xs w ht hx'
    refine ⟨enters hC h1 (.inr (by rw [hcon]; rfl)) h2, Calls.mono h3 ?_⟩
    rintro e w' ⟨u, outs, rfl, hR, hlen, hden, hbelow⟩
    refine ⟨u, rfl, ?_⟩
    have hh := h Γ.σ Γ.β xs outs hx' hR
    rw [forceAV_eq] at hh
    obtain ⟨m1, l1⟩ := hM.below hbelow
    obtain ⟨m2, l2⟩ := m1.addVs outs hlen
    refine hk (c.res st.nv args) (moreVars st c.n) (Γ.addVs outs) w' u (l1.trans l2) m2 (by cases st; rfl) (by cases st; rfl) ?_ hh
    rw [← hM.lenv]
    have e : Γ.addVs outs = ⟨C.X, Γ.σ, Γ.vs ++ outs, Γ.ns, Γ.β⟩ := by rw [← hM.X]; rfl
    rw [e]
    exact hden

/-! ### Single operations -/

theorem execOp_callee {o : Oper} {c : Call} {f : Operand} (ho : o.op = .call c) (hc : c.callee = .value f) {g : Nat} {caps : Array Value} (hf : a.eval f = .func (.func g) #[] caps) :
    (execOp a.eval o).run C.P w = (callFunc g (c.args.map a.eval ++ caps)).run C.P w := by
  unfold execOp
  rw [ho]
  simp [resolve, hc, hf, Deferred.ofValue, invoke]

theorem callA_sound (hC : CfgOk C R) (hM : MRel S B C Γ st w) {rec : Job → St → K → Tree} (hrec : CodeOk C R L rec) {o : Oper} {c : Call} {f : Operand} (ho : o.op = .call c) (hc : c.callee = .value f)
    (he : Ev Γ st.tmps a o.op) {k : AV → St → Tree} {N : Value → World → Prop} (hk : Then S B C R L Γ w st k N) (h : Holds C.X R L (callA C rec f c.args.toList st k) Γ.vs Γ.ns)
    {next : Act → World → Prop} {Q : Exit → Act → World → Prop} (hN : ∀ u w', N u w' → next (a.put o.dst u) w') : o.wp C.P a w next Q := by
  unfold callA at h
  split at h
  case h_2 => exact h.elim
  rename_i g caps hf
  cases hl : evalsA st.tmps c.args.toList with
  | none => simp only [hl] at h; exact h.elim
  | some l =>
    simp only [hl] at h
    have hfm : f ∈ o.op.operands := by rw [ho]; simp [Op.operands, Call.operands, hc]
    have hf1 := he f hfm _ hf
    rw [AV.den_one] at hf1
    simp only [Cell.den, Option.map_eq_some_iff] at hf1
    obtain ⟨cs, hcs, hfe⟩ := hf1
    have hargs := evalsA_den hl (fun x hx v hv => he x (by rw [ho]; simp [Op.operands, Call.operands, hc]; exact .inr (by simpa using hx)) v hv)
    have hx := avsDen_append hargs (ptrAVs_den hcs)
    rw [← appL_eq] at hx
    have hrun := execOp_callee (C := C) (w := w) ho hc hfe.symm
    have earr : c.args.map a.eval ++ cs.toArray = (List.map a.eval c.args.toList ++ cs).toArray := by
      apply Array.ext'
      simp
    rw [earr] at hrun
    unfold Oper.wp
    rcases enterA_sound hC hM hrec hx hk h with ⟨u, h1, h2⟩ | ⟨h1, h2⟩
    · rw [hrun, h1]
      exact hN _ _ h2
    · rw [hrun, h1]
      refine Calls.mono h2 ?_
      rintro e w' ⟨u, rfl, hu⟩
      exact hN _ _ hu

theorem execOp_append {o : Oper} {c : Call} (ho : o.op = .call c) (hc : c.callee = .builtin .append) {t : Nat} {u : Value} {x y : Operand} (hargs : c.args.toList = [x, y]) (ht : c.argTypes.toList = [t, t])
    (hr : (Builtin.append_ #[t, t] o.type #[a.eval x, a.eval y]).run C.P w = .ok u w') : (execOp a.eval o).run C.P w = .ok (.value u) w' := by
  have e1 : c.args = #[x, y] := by apply Array.ext'; simpa using hargs
  have e2 : c.argTypes = #[t, t] := by apply Array.ext'; simpa using ht
  unfold execOp
  rw [ho]
  simp [resolve, hc, e1, e2, invoke, builtin, hr]

theorem appendK_sound (hM : MRel S B C Γ st w) {o : Oper} {c : Call} (ho : o.op = .call c) (hc : c.callee = .builtin .append) (he : Ev Γ st.tmps a o.op)
    {k : AV → St → Tree} {N : Value → World → Prop} (hk : Then S B C R L Γ w st k N) (h : Holds C.X R L (appendK C c.args.toList c.argTypes.toList st k) Γ.vs Γ.ns)
    {next : Act → World → Prop} {Q : Exit → Act → World → Prop} (hN : ∀ u w', N u w' → next (a.put o.dst u) w') : o.wp C.P a w next Q := by
  unfold appendK at h
  split at h
  case h_2 => exact h.elim
  rename_i x y hxy
  split at h
  case h_2 => exact h.elim
  rename_i t t' htt
  split at h
  case isFalse => exact h.elim
  rename_i hte
  obtain rfl := Nat.eq_of_beq_eq_true hte
  obtain ⟨p, q, hpq, hx, hy⟩ : ∃ p q, c.args.toList = [p, q] ∧ evalA st.tmps p = some x ∧ evalA st.tmps q = some y := by
    match hl : c.args.toList, hxy with
    | [], h => cases h
    | [p], h =>
      simp only [evalsA] at h
      split at h <;> cases h
    | p :: q :: r :: rest, h =>
      simp only [evalsA] at h
      cases h1 : evalA st.tmps p <;> simp only [h1] at h <;> try cases h
      cases h2 : evalA st.tmps q <;> simp only [h2] at h <;> try cases h
      cases h3 : evalA st.tmps r <;> simp only [h3] at h <;> try cases h
      cases h4 : evalsA st.tmps rest <;> simp only [h4] at h <;> cases h
    | [p, q], h =>
      simp only [evalsA] at h
      cases h1 : evalA st.tmps p <;> simp only [h1] at h <;> try cases h
      cases h2 : evalA st.tmps q <;> simp only [h2] at h <;> cases h
      exact ⟨p, q, rfl, h1, h2⟩
  have hmem : ∀ z ∈ [p, q], z ∈ o.op.operands := by
    intro z hz
    rw [ho]
    simp only [Op.operands, Call.operands, hc]
    rw [← hpq] at hz
    simpa using hz
  have hxd := he p (hmem p (by simp)) x hx
  have hyd := he q (hmem q (by simp)) y hy
  have fin : ∀ {u : Value} {w' : World}, (Builtin.append_ #[t, t] o.type #[a.eval p, a.eval q]).run C.P w = .ok u w' → N u w' → o.wp C.P a w next Q := by
    intro u w' h1 h2
    unfold Oper.wp
    rw [execOp_append ho hc hpq htt h1]
    exact hN _ _ h2
  cases happ : appendA C st.heap t x y with
  | none => simp only [happ] at h; exact h.elim
  | some app =>
    have hs := appendA_sound hM happ hxd hyd o.type
    simp only [happ] at h
    cases app with
    | same v =>
      obtain ⟨rfl, h1⟩ := hs
      exact fin (h1 _ hxd) (hk _ st Γ w _ (Later.refl _ _) hM rfl rfl hxd h)
    | inPlace v hp =>
      obtain ⟨u, w', h1, h2, h3, h4⟩ := hs
      exact fin h2 (hk _ _ Γ w' u h4 h3 (setHeap_tmps st hp).1 (setHeap_tmps st hp).2 h1 h)
    | grow need esz cells hp =>
      simp only at h
      cases hg : growA st hp cells esz with
      | none => simp only [hg] at h; exact h.elim
      | some st1 =>
        simp only [hg] at h
        obtain ⟨cc, Γ', u, w', h1, h2, h3, h4, h5, h6, h7, h8, h9⟩ := hs st1 hg
        have hh := h cc h1
        rw [forceN_eq] at hh
        refine fin h4 (hk _ st1 Γ' w' u h6 h5 h8 h9 h7 ?_)
        rw [h2, h3]
        exact hh

/-- An operation. -/
theorem execA_sound (hC : CfgOk C R) (hM : MRel S B C Γ st w) {rec : Job → St → K → Tree} (hrec : CodeOk C R L rec) {o : Oper} (he : Ev Γ st.tmps a o.op)
    {k : AV → St → Tree} {N : Value → World → Prop} (hk : Then S B C R L Γ w st k N) (h : Holds C.X R L (execA C rec o st k) Γ.vs Γ.ns)
    {next : Act → World → Prop} {Q : Exit → Act → World → Prop} (hN : ∀ u w', N u w' → next (a.put o.dst u) w') : o.wp C.P a w next Q := by
  have other : Holds C.X R L (match opD C st o.op with
      | some (v, st') => forceAV v fun v => k v st'
      | none => .fail ("op " ++ o.pos)) Γ.vs Γ.ns → o.wp C.P a w next Q := by
    intro h
    cases ho : opD C st o.op with
    | none => simp only [ho] at h; exact h.elim
    | some vs =>
      obtain ⟨v, st'⟩ := vs
      simp only [ho, forceAV_eq] at h
      obtain ⟨Γ', w', u, e1, e2, h1, h2, h3, h4, h5, h6⟩ := opD_sound hC.eq hM he ho
      have hn := hN u w' (hk v st' Γ' w' u h1 h2 h3 h4 h5 (by rw [e1, e2]; exact h))
      unfold Oper.wp
      rcases h6 with h6 | ⟨h6, rfl⟩
      · rw [h6]; exact hn
      · rw [h6]; exact hn
  unfold execA at h
  simp only at h
  split at h
  · rename_i c ho
    split at h
    · rename_i f hc
      exact callA_sound hC hM hrec ho hc he hk h hN
    · rename_i hc
      exact appendK_sound hM ho hc he hk h hN
    · exact other h
  · exact other h

end
end Go.SX
