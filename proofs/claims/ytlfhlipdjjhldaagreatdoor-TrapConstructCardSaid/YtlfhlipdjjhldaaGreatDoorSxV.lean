/- A symbolic executor for the model's code: a run is carried out as its tree says. Conditions: 'CfgOk'. -/
import Derived.Test.YtlfhlipdjjhldaaGreatDoorSxU
namespace Go.SX
open Go.RowKit

section
variable {S : Nat → Prop} {B : World} {C : Cfg} {Γ Γ' Γ₀ : Env} {st st' : St} {w w' w₀ : World} {a : Act} {R : Nat → List Value → List Value → Prop} {all : List Oper} {lo : Nat} {p : Nat × Nat}
  {L : St → AV → List Value → List Nat → Prop} {listed : List Bool} {held : List Held} {D : List (Nat × Nat)} {H : HL} {listedR : Array Bool} {m : Nat}

theorem RelAny.withSt (h : RelAny S B C Γ₀ w₀ all listed held st Γ w a D H listedR m) (hM : MRel S B C Γ st' w) (hT : TRel (dslot all D) Γ st' a) : RelAny S B C Γ₀ w₀ all listed held st' Γ w a D H listedR m :=
  ⟨hM, h.later, hT, h.len, h.lenR, h.bits, h.pend, h.rdy, h.nd, h.held, h.fuel⟩

theorem alloc_take {op : Op} (h : allocOp op = true) : takeOp op = true → False := by cases op <;> intro h' <;> first | (cases h; done) | (cases h'; done)
theorem alloc_eff {op : Op} (h : allocOp op = true) : effectOp op = true → False := by
  intro h'
  unfold effectOp at h'
  rw [h] at h'
  simp at h'

theorem opD_alloc {op : Op} {v : AV} (ha : allocOp op = true) (h : opD C st op = some (v, st')) : ∃ b, freshA C st.tmps st.nh op = some (v, b) ∧ newA st b = some st' := by
  cases op <;> first | (cases ha; done) | skip
  all_goals
    simp only [opD] at h
    split at h
    · rename_i v' b hf
      split at h
      · rename_i s hn
        cases h
        exact ⟨b, hf, hn⟩
      · cases h
    · cases h

theorem finish_holds {X : Ext} {d : Option Nat} {v : AV} {k : St → Tree} {vs : List Value} {ns : List Nat} (h : Holds X R L (finish st d v k) vs ns) : ∃ st', setTmp st d v = some st' ∧ Holds X R L (k st') vs ns := by
  unfold finish at h
  cases hs : setTmp st d v with
  | none => simp only [hs] at h; exact h.elim
  | some st' => simp only [hs, forceSt_eq] at h; exact ⟨st', rfl, h⟩

theorem any_step (hC : CfgOk C R) {rec : Job → St → K → Tree} (hcode : CodeOk C R L rec) (hany : AnyOk C R L rec) : AnyOk C R L (step C rec) := by
  intro S B Γ₀ w₀ all listed held st k Γ w a D H listedR m Q hQ hB hrel h hk
  have h : Holds C.X R L (anyA C rec all listed held st k) Γ.vs Γ.ns := h
  unfold anyA at h
  cases hn : nextA all listed with
  | done =>
    simp only [hn] at h
    have hR := next_done hn
    have hD : D = [] := by
      cases D with
      | nil => rfl
      | cons p l => have := hrel.rdy p (by simp); rw [hR] at this; cases this
    subst hD
    have hready : Region.ready .any all.toArray listedR = [] := by
      rw [List.eq_nil_iff_forall_not_mem]
      intro j hj
      obtain ⟨h1, o, h2, h3⟩ := mem_ready.1 hj
      have : j ∈ readyList listed all 0 := by
        rw [mem_R]
        refine ⟨?_, o, by simpa using h2, fun e he hb => ?_⟩
        · rw [Bool.eq_false_iff]
          intro hx
          rw [(hrel.bits j).2 (.inl hx)] at h1
          cases h1
        · have h4 := h3 e he hb
          rcases (hrel.bits e.on).1 (getD_false_of h4) with h5 | ⟨b, h5⟩
          · refine getD_true_lt h5 ?_
            rcases Nat.lt_or_ge e.on listedR.size with h6 | h6
            · rw [hrel.lenR, ← hrel.len] at h6; simpa using h6
            · rw [Array.getD_eq_getD_getElem?, Array.getElem?_eq_none h6] at h4; cases h4
          · cases h5
      rw [hR] at this
      cases this
    have hfin := hk st Γ w a hrel.later hrel.mem (hrel.tmps.mono (Env.le.refl Γ) rfl rfl (fun t ⟨p, hp, _⟩ => by cases hp)) h
    cases m with
    | zero => exact ⟨hready, hfin⟩
    | succ m => exact ⟨fun _ => hfin, by rw [hready]; intro i hi; cases hi⟩
  | take i o =>
    simp only [hn] at h
    obtain ⟨hi, ho, htake, hfree, hsel⟩ := next_take hn
    have hiun := (mem_R.1 hi).1
    have hD : ∀ b, (i, b) ∉ D := by
      intro b hb
      obtain ⟨o', _, _, h1, h2, _⟩ := (hrel.pend _ hb).ex
      rw [ho] at h1
      cases h1
      exact alloc_take h2.alloc htake
    have hready := hrel.ready hi hD
    cases m with
    | zero => have := unl_set (mem_ready.1 hready).1; have := hrel.fuel; omega
    | succ m =>
      have hap : ∀ p ∈ D, ∀ ok, all[p.1]? = some ok → o.apart all.toArray ok = true := by
        intro p hp ok hok
        have hr := hrel.rdy p hp
        refine freeA_spec hfree p.1 ok hok ?_ ?_ ?_
        · rw [Nat.zero_add]; exact fun e => hD p.2 (by rw [← e]; exact hp)
        · rw [Nat.zero_add]; exact (mem_R.1 hr).1
        · exact nowait hr hok hiun
      have hfreeR : ∀ j oj, all.toArray[j]? = some oj → j ≠ i → listedR.getD j true = false → (∀ e ∈ oj.after, Region.binds .any e = true → e.on ≠ i) → o.apart all.toArray oj = true := by
        intro j oj hj hne hun hno
        refine freeA_spec hfree j oj (by simpa using hj) (by rw [Nat.zero_add]; exact hne) ?_ hno
        rw [Nat.zero_add, Bool.eq_false_iff]
        intro hx
        rw [(hrel.bits j).2 (.inl hx)] at hun
        cases hun
      have hlooks : ∀ d ∈ o.looksAt all.toArray, ¬ dslot all D d := fun d hd ⟨p, hp, ok, h1, h2⟩ => (Oper.apart_spec (apart_symm (hap p hp ok h1))).1 d h2 hd
      have hsel' : ∀ (j : Nat) (o : Oper) cs b, all.toArray[j]? = some o → o.op ≠ .select cs b := fun j o cs b hj => noSelectA_spec hsel j o cs b (by simpa using hj)
      have hQ' : ∀ (u : Value) c a w, Q (.panic c) (a.put o.dst u) w → Q (.panic c) a w := fun u c a w hq => (hQ _ _ _ hq).elim
      have hall : ∀ q ∈ H, q.2 w := fun q hq => (hrel.held q hq).1
      have fin : ∀ {st1 : St} {v : AV} {u : Value} {T : World → Prop} {held' : List Held} {st2 : St}, MRel S B C Γ st1 w → TRel (dslot all D) Γ st1 a → v.den Γ = some u → setTmp st1 o.dst v = some st2 → T w →
          ((∀ w', T w') ∨ ∃ x ∈ held', x.i = i ∧ HeldOk Γ x T) → (∀ x ∈ held, x ∈ held') → YieldsIf C.P all.toArray T o u a → Holds C.X R L (rec (.any all (setB listed i) held') st2 k) Γ.vs Γ.ns →
          wpAnyL C.P all.toArray Q (m + 1) H listedR a w := by
        intro st1 v u T held' st2 hM1 hT1 hv hset hTw hTh hsub hy hh
        have hrel' := hrel.take hi hD hM1 hT1 (fun p hp ok hok => apart_symm (hap p hp ok hok)) hv hset hTw hTh hsub
        exact wpAnyL_first (by simpa using ho) hsel' (hQ' u) m H listedR a w hfreeR hready hy hTw hall (hany S B Γ₀ w₀ all _ held' st2 k Γ w _ D _ _ m Q hQ hB hrel' hh hk)
      unfold takeA at h
      obtain ⟨st1, hM1, hT1, ⟨hw, hh⟩ | ⟨hw, hh⟩⟩ := guardA_sound hrel.mem hrel.tmps hlooks h
      · have hev : Ev Γ st1.tmps a o.op := Ev.of hT1 hlooks
        cases hop : opD C st1 o.op with
        | none => simp only [hop] at hh; exact hh.elim
        | some vs =>
          obtain ⟨v, st'⟩ := vs
          simp only [hop] at hh
          cases hlo : loadOp o.op with
          | true =>
            simp only [hlo] at hh
            cases hx : heldOf C st1 i o.op with
            | none => simp only [hx] at hh; exact hh.elim
            | some x =>
              simp only [hx, forceAV_eq] at hh
              obtain ⟨st2, hset, hh⟩ := finish_holds hh
              rw [forceBs_eq] at hh
              obtain ⟨hxi, T, u, h1, h2, h3, h4⟩ := take_load hM1 hev hlo hop hx
              exact fin hM1 hT1 h3 hset h2 (.inr ⟨x, List.mem_cons_self, hxi, h1⟩) (fun y hy => List.mem_cons_of_mem _ hy) (.inl ⟨hw, h4⟩) hh
          | false =>
            simp only [hlo, forceAV_eq] at hh
            obtain ⟨st2, hset, hh⟩ := finish_holds hh
            rw [forceBs_eq] at hh
            obtain ⟨u, h1, h2⟩ := take_pure hC.eq hev htake hlo hop
            exact fin (T := fun _ => True) hM1 hT1 h1 hset trivial (.inl fun _ => trivial) (fun y hy => hy) (.inl ⟨hw, fun w' _ => h2 w'⟩) hh
      · obtain ⟨st2, hset, hh⟩ := finish_holds hh
        rw [forceBs_eq] at hh
        exact fin (T := fun _ => True) hM1 hT1 (undef_den Γ) hset trivial (.inl fun _ => trivial) (fun y hy => hy) (.inr ⟨hw, rfl⟩) hh
  | eff i o rest =>
    simp only [hn] at h
    obtain ⟨hi, ho, heff, hrest, hmay, hsel⟩ := next_eff hn
    split at h
    case isFalse => exact h.elim
    rename_i hfresh
    refine wait_sound hi ho hrest hmay hfresh ?_ ?_ m D a w H listedR hrel
    · clear hrel H
      intro D a w H listedR m hrel hD hap
      have hlooks : ∀ d ∈ o.looksAt all.toArray, ¬ dslot all D d := fun d hd ⟨p, hp, ok, h1, h2⟩ => (Oper.apart_spec (hap p hp ok h1)).1 d h2 hd
      have ho' : all.toArray[i]? = some o := by simpa using ho
      have hwaits : ∀ x : Held, waitsOn all.toArray i x.i = false → waits x.i o = false := fun x hx => by rw [waits_eq ho]; exact hx
      unfold effA at h
      obtain ⟨st1, hM1, hT1, ⟨hw, hh⟩ | ⟨hw, hh⟩⟩ := guardA_sound hrel.mem hrel.tmps hlooks h
      · have hrel1 := hrel.withSt hM1 hT1
        unfold wpOp
        simp only [ho', hw, if_true]
        left
        refine execA_sound hC hM1 hcode (Ev.of hT1 hlooks) (N := fun u w' => (∀ p ∈ stay all.toArray i H, p.2 w') ∧ wpAnyL C.P all.toArray Q m (stay all.toArray i H) (listedR.setIfInBounds i true) (a.put o.dst u) w')
          ?_ hh (fun u w' hN => hN)
        intro v st' Γ' w' u hl hM hs1 hs2 hv hh
        obtain ⟨st2, hset, hh⟩ := finish_holds hh
        split at hh
        case isFalse => exact hh.elim
        rename_i hheld
        rw [forceBs_eq] at hh
        have hrel' := hrel1.effect hi hD ho hap hl hM hs1 hs2 hv hset (fun hM' q _ _ hq2 hq3 => by
          rcases hq3 with hq3 | ⟨x, hx, hxi, hok⟩
          · exact hq3 _
          · exact heldOk_sound hM' hheld hx (hwaits x (hxi ▸ hq2)) hok)
        exact ⟨fun q hq => (hrel'.held q hq).1, hany S B Γ₀ w₀ all _ held st2 k Γ' w' _ D _ _ m Q hQ hB hrel' hh hk⟩
      · obtain ⟨st2, hset, hh⟩ := finish_holds hh
        rw [forceBs_eq] at hh
        have hrel1 := hrel.withSt hM1 hT1
        unfold wpOp
        simp only [ho', hw]
        have hrel' := hrel1.effect hi hD ho hap (Later.refl Γ w) hM1 rfl rfl (undef_den Γ) hset (fun _ q _ hq1 _ _ => hq1)
        exact ⟨fun q hq => (hrel'.held q hq).1, hany S B Γ₀ w₀ all _ held st2 k Γ w _ D _ _ m Q hQ hB hrel' hh hk⟩
    · intro D a w H listedR m b hrel hb
      obtain ⟨o', _, _, h1, h2, _⟩ := (hrel.pend _ hb).ex
      rw [ho] at h1
      cases h1
      exact (alloc_eff h2.alloc heff).elim
  | alloc i o rest =>
    simp only [hn] at h
    obtain ⟨hi, ho, halloc, hrest, hmay, hplain, hsel⟩ := next_alloc hn
    split at h
    case isFalse => exact h.elim
    rename_i hfresh
    have hp := plainAlloc_spec hplain
    unfold allocA at h
    cases hop : opD C st o.op with
    | none => simp only [hop] at h; exact h.elim
    | some vs =>
      obtain ⟨v, st'⟩ := vs
      simp only [hop, forceAV_eq] at h
      obtain ⟨blk, hf, hnew⟩ := opD_alloc halloc hop
      obtain ⟨st2, hset, hh⟩ := finish_holds h
      rw [forceBs_eq] at hh
      have hm2 : apartAll all o rest = true := by
        simp only [mayCome, Bool.and_eq_true] at hmay
        exact hmay.1.2
      have ap3 := apartAll_spec hm2
      have adopted : ∀ D a w H listedR m b, RelAny S B C Γ₀ w₀ all listed held st Γ w a D H listedR m → (i, b) ∈ D → wpAnyL C.P all.toArray Q m H listedR a w := by
        intro D a w H listedR m b hrel hb
        obtain ⟨Γ', D', e1, e2, hrel'⟩ := hrel.adopt hB hb ho hp (fun p hpD hpi ok hok => by
          obtain ⟨o2, h1, h2⟩ := ap3 p.1 (by rw [hrest]; exact without_mem.2 ⟨hrel.rdy p hpD, hpi⟩)
          rw [hok] at h1
          cases h1
          exact h2) hf hnew hset
        exact hany S B Γ₀ w₀ all _ held st2 k Γ' w a D' H listedR m Q hQ hB hrel' (by rw [e1, e2]; exact hh) hk
      refine wait_sound hi ho hrest hmay hfresh ?_ adopted m D a w H listedR hrel
      clear hrel H
      intro D a w H listedR m hrel hD hap
      exact pend_step hrel hi hD ho hp hap hf (fun a' w' b' hrel' => adopted _ a' w' _ _ m b' hrel' List.mem_cons_self)
  | bad => simp only [hn] at h; exact h.elim

end
end Go.SX
