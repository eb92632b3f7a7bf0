/- A symbolic executor for the model's code: a region that draws its order is carried out as its tree says. Conditions: 'CfgOk'. -/
import Derived.Test.YtlfhlipdjjhldaaGreatDoorSxS
namespace Go.SX
open Go.RowKit

/-- No way out by a panic. -/
def NoPanic (Q : Exit → Act → World → Prop) : Prop := ∀ c a w, ¬ Q (.panic c) a w

/-- A region that draws its order is carried out as its tree says. -/
def AnyOk (C : Cfg) (R : Nat → List Value → List Value → Prop) (L : St → AV → List Value → List Nat → Prop) (rec : Job → St → K → Tree) : Prop :=
  ∀ (S : Nat → Prop) (B : World) (Γ₀ : Env) (w₀ : World) (all : List Oper) (listed : List Bool) (held : List Held) (st : St) (k : K) (Γ : Env) (w : World) (a : Act) (D : List (Nat × Nat)) (H : HL) (listedR : Array Bool) (m : Nat)
    (Q : Exit → Act → World → Prop), NoPanic Q → B.heap.size ≤ w₀.heap.size → RelAny S B C Γ₀ w₀ all listed held st Γ w a D H listedR m → Holds C.X R L (rec (.any all listed held) st k) Γ.vs Γ.ns →
    (∀ st' Γ' w' a', Later Γ₀ w₀ Γ' w' → MRel S B C Γ' st' w' → TRel noSlot Γ' st' a' → Holds C.X R L (k .normal st') Γ'.vs Γ'.ns → Q .normal a' w') → wpAnyL C.P all.toArray Q m H listedR a w

section
variable {S : Nat → Prop} {B : World} {C : Cfg} {Γ Γ' Γ₀ : Env} {st st' : St} {w w' w₀ : World} {a : Act} {R : Nat → List Value → List Value → Prop} {all : List Oper} {lo : Nat} {p : Nat × Nat}
  {L : St → AV → List Value → List Nat → Prop} {listed : List Bool} {held : List Held} {D : List (Nat × Nat)} {H : HL} {listedR : Array Bool} {m : Nat}

theorem wanted_plain {o : Oper} (hp : Plain all o) (y : Nat → Option Bool) : Region.wanted o y = true := by
  unfold Region.wanted; rw [hp.guard]

/-- The step by which an allocation comes ahead. -/
theorem pend_step (h : RelAny S B C Γ₀ w₀ all listed held st Γ w a D H listedR (m + 1)) {j : Nat} {o : Oper} (hj : j ∈ readyList listed all 0) (hD : ∀ b, (j, b) ∉ D) (ho : all[j]? = some o) (hp : Plain all o)
    (hap : ∀ p ∈ D, ∀ ok, all[p.1]? = some ok → ok.apart all.toArray o = true) {nh : Nat} {v : AV} {b : Blk} (hf : freshA C st.tmps nh o.op = some (v, b)) {Q : Exit → Act → World → Prop}
    (next : ∀ a' w' b', RelAny S B C Γ₀ w₀ all listed held st Γ w' a' ((j, b') :: D) (stay all.toArray j H) (listedR.setIfInBounds j true) m → wpAnyL C.P all.toArray Q m (stay all.toArray j H) (listedR.setIfInBounds j true) a' w') :
    wpOp C.P all.toArray Q j (fun a' w' => (∀ p ∈ stay all.toArray j H, p.2 w') ∧ wpAnyL C.P all.toArray Q m (stay all.toArray j H) (listedR.setIfInBounds j true) a' w') a w := by
  have he : Ev Γ st.tmps a o.op := Ev.of h.tmps (fun d hd ⟨p, hp, ok, h1, h2⟩ => (Oper.apart_spec (hap p hp ok h1)).1 d h2 hd)
  obtain ⟨arr, e, n, h1, h2, h3, mk, h4, h5⟩ := freshA_sound (a := a) h.mem.X he hf
  have hrel := h.pended hj hD ho hp hap h5
  unfold wpOp
  have ho' : all.toArray[j]? = some o := by simpa using ho
  simp only [ho', wanted_plain hp, if_true]
  left
  unfold Oper.wp
  rw [h5 w]
  exact ⟨fun q hq => (hrel.held q hq).1, next _ _ _ hrel⟩

/-- Until number 'i' comes: allocations come ahead. -/
theorem wait_sound {i : Nat} {rest : List Nat} {Q : Exit → Act → World → Prop} (hi : i ∈ readyList listed all 0) {oi : Oper} (hoi : all[i]? = some oi) (hrest : rest = without i (readyList listed all 0))
    (hmay : mayCome all listed i oi rest = true) (hfresh : allocsFresh C st.tmps all rest = true)
    (goal : ∀ D a w H listedR m, RelAny S B C Γ₀ w₀ all listed held st Γ w a D H listedR (m + 1) → (∀ b, (i, b) ∉ D) → (∀ p ∈ D, ∀ ok, all[p.1]? = some ok → ok.apart all.toArray oi = true) →
      wpOp C.P all.toArray Q i (fun a' w' => (∀ p ∈ stay all.toArray i H, p.2 w') ∧ wpAnyL C.P all.toArray Q m (stay all.toArray i H) (listedR.setIfInBounds i true) a' w') a w)
    (adopted : ∀ D a w H listedR m b, RelAny S B C Γ₀ w₀ all listed held st Γ w a D H listedR m → (i, b) ∈ D → wpAnyL C.P all.toArray Q m H listedR a w) :
    ∀ m D a w H listedR, RelAny S B C Γ₀ w₀ all listed held st Γ w a D H listedR m → wpAnyL C.P all.toArray Q m H listedR a w := by
  simp only [mayCome, Bool.and_eq_true] at hmay
  obtain ⟨⟨hm1, hm2⟩, hm3⟩ := hmay
  obtain ⟨ap1, ap2⟩ := allocsApart_spec hm1
  have ap3 := apartAll_spec hm2
  have hiun := (mem_R.1 hi).1
  have mrest : ∀ j, j ∈ rest ↔ j ∈ readyList listed all 0 ∧ j ≠ i := fun j => by rw [hrest]; exact without_mem
  have apD : ∀ {D a w H listedR m}, RelAny S B C Γ₀ w₀ all listed held st Γ w a D H listedR m → (∀ b, (i, b) ∉ D) → ∀ p ∈ D, p.1 ∈ rest := by
    intro D a w H listedR m h hD p hp
    refine (mrest p.1).2 ⟨h.rdy p hp, fun e => hD p.2 ?_⟩
    rw [← e]; exact hp
  have fresh : ∀ {l : List Nat}, allocsFresh C st.tmps all l = true → ∀ j ∈ l, ∀ o, all[j]? = some o → ∃ vb, freshA C st.tmps 0 o.op = some vb := by
    intro l
    induction l with
    | nil => intro _ j hj; cases hj
    | cons k l ih =>
      intro hl j hj o ho
      simp only [allocsFresh, Bool.and_eq_true] at hl
      rcases List.mem_cons.1 hj with rfl | hj
      · have h1 := hl.1
        rw [nth_eq, ho] at h1
        simp only at h1
        cases hf : freshA C st.tmps 0 o.op with
        | none => rw [hf] at h1; cases h1
        | some vb => exact ⟨vb, rfl⟩
      · exact ih hl.2 j hj o ho
  intro m
  induction m with
  | zero =>
    intro D a w H listedR h
    by_cases hD : ∃ b, (i, b) ∈ D
    · obtain ⟨b, hb⟩ := hD
      exact adopted D a w H listedR 0 b h hb
    · exfalso
      have hr := h.ready hi (fun b hb => hD ⟨b, hb⟩)
      have := unl_set (mem_ready.1 hr).1
      have := h.fuel
      omega
  | succ m ih =>
    intro D a w H listedR h
    by_cases hD : ∃ b, (i, b) ∈ D
    · obtain ⟨b, hb⟩ := hD
      exact adopted D a w H listedR (m + 1) b h hb
    · have hD : ∀ b, (i, b) ∉ D := fun b hb => hD ⟨b, hb⟩
      have hri := h.ready hi hD
      refine ⟨fun h0 => (by rw [h0] at hri; cases hri), fun j hj => ?_⟩
      by_cases hji : j = i
      · subst hji
        refine goal D a w H listedR m h hD (fun p hp ok hok => ?_)
        obtain ⟨o2, h1, h2⟩ := ap3 p.1 (apD h hD p hp)
        rw [hok] at h1
        cases h1
        exact h2
      · -- an allocation
        obtain ⟨hjun, oj, hoj, hall⟩ := mem_ready.1 hj
        have hoj' : all[j]? = some oj := by simpa using hoj
        have hjD : ∀ b, (j, b) ∉ D := fun b hb => by
          have := (h.bits j).2 (.inr ⟨b, hb⟩)
          rw [hjun] at this
          cases this
        -- it may come next as far as is known: else it would come behind all the rest
        have hjR : j ∈ rest := by
          by_cases hc : j ∈ rest
          · exact hc
          · exfalso
            have big : ∀ (l : List Nat) (s : Array Bool) (k : Nat), (l.foldl (fun s i => s.setIfInBounds i true) s).getD k true = true ↔ s.getD k true = true ∨ k ∈ l := by
              intro l
              induction l with
              | nil => intro s k; simp
              | cons x l ih2 =>
                intro s k
                rw [List.foldl_cons, ih2, getD_set, Bool.or_eq_true, List.mem_cons]
                constructor
                · rintro ((h1 | h1) | h1)
                  · exact .inl h1
                  · simp at h1; exact .inr (.inl h1.symm)
                  · exact .inr (.inr h1)
                · rintro (h1 | h1 | h1)
                  · exact .inl (.inl h1)
                  · exact .inl (.inr (by simp [h1]))
                  · exact .inr h1
            have bigsz : ∀ (l : List Nat) (s : Array Bool), (l.foldl (fun s i => s.setIfInBounds i true) s).size = s.size := by
              intro l
              induction l with
              | nil => intro s; rfl
              | cons x l ih2 => intro s; rw [List.foldl_cons, ih2]; simp
            have hmem : j ∈ readyList (listAll listed rest) all 0 := by
              rw [mem_R, listAll_eq]
              refine ⟨?_, oj, hoj', fun e he hb => ?_⟩
              · rw [Bool.eq_false_iff]
                intro hx
                rcases (big rest _ _).1 hx with h1 | h1
                · have := (h.bits j).2 (.inl h1)
                  rw [hjun] at this
                  cases this
                · exact hc h1
              · have h1 := hall e he hb
                have hlt : e.on < all.length := by
                  rcases Nat.lt_or_ge e.on listedR.size with h6 | h6
                  · rw [h.lenR] at h6; exact h6
                  · rw [Array.getD_eq_getD_getElem?, Array.getElem?_eq_none h6] at h1; cases h1
                refine getD_true_lt ((big rest _ _).2 ?_) (by rw [bigsz]; simpa [h.len] using hlt)
                rcases (h.bits e.on).1 (getD_false_of h1) with h2 | ⟨b, h2⟩
                · exact .inl h2
                · exact .inr (apD h hD _ h2)
            exact hji (onlyThis_spec hm3 j hmem)
        obtain ⟨o2, h1, hp⟩ := ap1 j hjR
        rw [hoj'] at h1
        cases h1
        obtain ⟨⟨v, b⟩, hf⟩ := fresh hfresh j hjR oj hoj'
        refine pend_step h ((mrest j).1 hjR).1 hjD hoj' hp (fun p hp ok hok => ?_) hf (fun a' w' b' hrel => ih _ a' w' _ _ hrel)
        have hpr := apD h hD p hp
        refine ap2 p.1 hpr j hjR (fun e => hjD p.2 ?_) ok oj hok hoj'
        rw [← e]; exact hp

/-- What an effect leaves. -/
theorem RelAny.effect (h : RelAny S B C Γ₀ w₀ all listed held st Γ w a D H listedR (m + 1)) {i : Nat} {o : Oper} (hi : i ∈ readyList listed all 0) (hD : ∀ b, (i, b) ∉ D) (_ho : all[i]? = some o)
    (hap : ∀ p ∈ D, ∀ ok, all[p.1]? = some ok → ok.apart all.toArray o = true) (hl : Later Γ w Γ' w') (hM : MRel S B C Γ' st' w') (h1 : st'.tmps = st.tmps) (h2 : st'.ntm = st.ntm) {v : AV} {u : Value} (hv : v.den Γ' = some u)
    {st'' : St} (hset : setTmp st' o.dst v = some st'') (hheld : MRel S B C Γ' st'' w' → ∀ q ∈ H, q.2 w → waitsOn all.toArray i q.1 = false → ((∀ w', q.2 w') ∨ ∃ x ∈ held, x.i = q.1 ∧ HeldOk Γ' x q.2) → q.2 w') :
    RelAny S B C Γ₀ w₀ all (setB listed i) held st'' Γ' w' (a.put o.dst u) D (stay all.toArray i H) (listedR.setIfInBounds i true) m := by
  have hr := h.ready hi hD
  have hun := (mem_ready.1 hr).1
  obtain ⟨t1, t2, t3, t4, t5, t6, t7⟩ := setTmp_sound (D' := dslot all D) (h.tmps.mono hl.le h1 h2 (fun _ ht => ht)) hset hv (fun t ht => .inr ht)
  have hM' := hM.of_mem t2 t3 t4 t5 t6
  refine ⟨hM', h.later.trans hl, t1, ?_, by simpa using h.lenR, ?_, ?_, ?_, h.nd, ?_, ?_⟩
  · have : (setB listed i).toArray.size = listed.toArray.size := by rw [setB_eq]; simp
    simpa [h.len] using this
  · intro k
    rw [setB_eq, getD_set, getD_set, Bool.or_eq_true, Bool.or_eq_true, h.bits k]
    constructor
    · rintro ((h1 | h1) | h1)
      · exact .inl (.inl h1)
      · exact .inr h1
      · exact .inl (.inr h1)
    · rintro ((h1 | h1) | h1)
      · exact .inl (.inl h1)
      · exact .inr h1
      · exact .inl (.inr h1)
  · intro p hp
    exact ((h.pend p hp).world hl).put (hap p hp) u
  · intro p hp
    have hpi : p.1 ≠ i := fun e => hD p.2 (by rw [← e]; exact hp)
    have := h.rdy p hp
    rw [mem_ready_iff] at this ⊢
    rw [setB_eq]
    exact ready_mono this hpi
  · intro q hq
    obtain ⟨hq1, hq2⟩ := mem_stay.1 hq
    obtain ⟨h3, h4⟩ := h.held q hq1
    have h5 : (∀ w', q.2 w') ∨ ∃ x ∈ held, x.i = q.1 ∧ HeldOk Γ' x q.2 := h4.imp id fun ⟨x, hx, hxi, hok⟩ => ⟨x, hx, hxi, hok.mono hl.le⟩
    exact ⟨hheld hM' q hq1 h3 hq2 h5, h5⟩
  · have := unl_set hun
    have := h.fuel
    omega

/-- What an operation that is taken first leaves. -/
theorem RelAny.take (h : RelAny S B C Γ₀ w₀ all listed held st Γ w a D H listedR (m + 1)) {i : Nat} {o : Oper} (hi : i ∈ readyList listed all 0) (hD : ∀ b, (i, b) ∉ D) (hM : MRel S B C Γ st' w) (hT : TRel (dslot all D) Γ st' a)
    (hap : ∀ p ∈ D, ∀ ok, all[p.1]? = some ok → ok.apart all.toArray o = true) {v : AV} {u : Value} (hv : v.den Γ = some u) {st'' : St} (hset : setTmp st' o.dst v = some st'')
    {T : World → Prop} {held' : List Held} (hT1 : T w) (hT2 : (∀ w', T w') ∨ ∃ x ∈ held', x.i = i ∧ HeldOk Γ x T) (hsub : ∀ x ∈ held, x ∈ held') :
    RelAny S B C Γ₀ w₀ all (setB listed i) held' st'' Γ w (a.put o.dst u) D ((i, T) :: H) (listedR.setIfInBounds i true) m := by
  have hr := h.ready hi hD
  have hun := (mem_ready.1 hr).1
  obtain ⟨t1, t2, t3, t4, t5, t6, t7⟩ := setTmp_sound (D' := dslot all D) hT hset hv (fun t ht => .inr ht)
  refine ⟨hM.of_mem t2 t3 t4 t5 t6, h.later, t1, ?_, by simpa using h.lenR, ?_, ?_, ?_, h.nd, ?_, ?_⟩
  · have : (setB listed i).toArray.size = listed.toArray.size := by rw [setB_eq]; simp
    simpa [h.len] using this
  · intro k
    rw [setB_eq, getD_set, getD_set, Bool.or_eq_true, Bool.or_eq_true, h.bits k]
    constructor
    · rintro ((h1 | h1) | h1)
      · exact .inl (.inl h1)
      · exact .inr h1
      · exact .inl (.inr h1)
    · rintro ((h1 | h1) | h1)
      · exact .inl (.inl h1)
      · exact .inr h1
      · exact .inl (.inr h1)
  · intro p hp
    exact (h.pend p hp).put (hap p hp) u
  · intro p hp
    have hpi : p.1 ≠ i := fun e => hD p.2 (by rw [← e]; exact hp)
    have := h.rdy p hp
    rw [mem_ready_iff] at this ⊢
    rw [setB_eq]
    exact ready_mono this hpi
  · intro q hq
    rcases List.mem_cons.1 hq with rfl | hq
    · exact ⟨hT1, hT2⟩
    · obtain ⟨h3, h4⟩ := h.held q hq
      exact ⟨h3, h4.imp id fun ⟨x, hx, r⟩ => ⟨x, hsub x hx, r⟩⟩
  · have := unl_set hun
    have := h.fuel
    omega

/-- An allocation that came ahead of its turn has its turn. -/
theorem RelAny.adopt (h : RelAny S B C Γ₀ w₀ all listed held st Γ w a D H listedR m) (hB : B.heap.size ≤ w₀.heap.size) {i b : Nat} {o : Oper} (hb : (i, b) ∈ D) (ho : all[i]? = some o) (hp : Plain all o)
    (hap : ∀ p ∈ D, p.1 ≠ i → ∀ ok, all[p.1]? = some ok → ok.apart all.toArray o = true) {v : AV} {blk : Blk} (hf : freshA C st.tmps st.nh o.op = some (v, blk)) (hn : newA st blk = some st') {st'' : St} (hset : setTmp st' o.dst v = some st'') :
    ∃ Γ' D', Γ'.vs = Γ.vs ∧ Γ'.ns = Γ.ns ∧ RelAny S B C Γ₀ w₀ all (setB listed i) held st'' Γ' w a D' H listedR m := by
  have hpend := h.pend (i, b) hb
  have he : Ev Γ st.tmps a o.op := Ev.of h.tmps (fun d hd ⟨p, hpD, ok, h1, h2⟩ => by
    by_cases hpi : p.1 = i
    · rw [hpi, ho] at h1
      cases h1
      exact hp.self d h2 hd
    · exact (Oper.apart_spec (hap p hpD hpi ok h1)).1 d h2 hd)
  obtain ⟨arr, e, n, h1, h2, h3, mk, h4, h5⟩ := freshA_sound (a := a) h.mem.X he hf
  obtain ⟨o', mk', obj, ho', _, hrun, hobj, hslot⟩ := hpend.ex
  rw [ho] at ho'
  cases ho'
  -- the block is the one that is named now
  have hsame : obj = .cells arr e (0, 0) ∧ mk' b = mk b := by
    have hw : ∀ w : World, mk' w.heap.size = mk w.heap.size ∧ obj = .cells arr e (0, 0) := by
      intro w
      have e1 := hrun w
      rw [h5 w] at e1
      simp only [Result.ok.injEq, Next.value.injEq] at e1
      refine ⟨e1.1.symm, ?_⟩
      have e2 : (w.alloc (.cells arr e)).heap = (w.alloc obj).heap := by rw [e1.2]
      have e3 := heap_alloc_new w obj
      rw [← e2, heap_alloc_new] at e3
      exact (Option.some.inj e3).symm
    refine ⟨(hw w).2, ?_⟩
    have := (hw { w with heap := w.heap.extract 0 b }).1
    have hsz : (w.heap.extract 0 b).size = b := by
      have := hpend.hi
      simp only at this
      simp
      omega
    simpa [hsz] using this
  obtain ⟨rfl, hmk⟩ := hsame
  obtain ⟨m1, m2, m3, m4⟩ := h.mem.adopt (blk := b) hn h1 (List.prefix_refl _) h2 h3 hobj hpend.out (Nat.le_trans hB hpend.lo)
  have hle := Env.le_addBlk Γ b
  have hden := h4 (Γ.addBlk b) b (h.mem.base _ (Nat.le_refl _)) m2
  have hD' : ∀ t, dslot all D t → o.dst = some t ∨ dslot all (D.filter (·.1 != i)) t := by
    rintro t ⟨p, hpD, ok, h6, h7⟩
    by_cases hpi : p.1 = i
    · rw [hpi, ho] at h6
      cases h6
      exact .inl h7
    · exact .inr ⟨p, by simp [hpD, hpi], ok, h6, h7⟩
  obtain ⟨t1, t2, t3, t4, t5, t6, t7⟩ := setTmp_sound (D' := dslot all (D.filter (·.1 != i))) (h.tmps.mono hle m3 m4 (fun _ ht => ht)) hset hden hD'
  have hput : a.put o.dst (mk b) = a := by
    cases hd : o.dst with
    | none => rfl
    | some d => exact put_same fun hlt => by rw [hslot d hd hlt]; exact hmk
  rw [hput] at t1
  have hiun := (mem_R.1 (h.rdy _ hb)).1
  refine ⟨Γ.addBlk b, D.filter (·.1 != i), rfl, rfl, m1.of_mem t2 t3 t4 t5 t6, ?_, t1, ?_, h.lenR, ?_, ?_, ?_, h.nd.filter _, ?_, h.fuel⟩
  · refine ⟨h.later.le.trans hle, h.later.size, h.later.keep, fun k x hk => ?_⟩
    have hk : (Γ.σ ++ [b])[k]? = some x := hk
    by_cases hlt : k < Γ.σ.length
    · rw [List.getElem?_append_left hlt] at hk; exact h.later.names k x hk
    · rw [List.getElem?_append_right (by omega)] at hk
      have : k - Γ.σ.length = 0 := by
        by_cases h0 : k - Γ.σ.length = 0
        · exact h0
        · rw [List.getElem?_eq_none (by simp; omega)] at hk; cases hk
      rw [this] at hk
      simp at hk
      exact .inr (hk ▸ hpend.lo)
  · have : (setB listed i).toArray.size = listed.toArray.size := by rw [setB_eq]; simp
    simpa [h.len] using this
  · intro k
    rw [setB_eq, getD_set, Bool.or_eq_true, h.bits k]
    constructor
    · rintro (h1 | ⟨c, h1⟩)
      · exact .inl (.inl h1)
      · by_cases hki : k = i
        · exact .inl (.inr (by simp [hki]))
        · exact .inr ⟨c, by simp [h1, hki]⟩
    · rintro ((h1 | h1) | ⟨c, h1⟩)
      · exact .inl h1
      · simp at h1; subst h1; exact .inr ⟨b, hb⟩
      · simp at h1; exact .inr ⟨c, h1.1⟩
  · intro p hpD
    obtain ⟨hpD1, hpD2⟩ := List.mem_filter.1 hpD
    have hpi : p.1 ≠ i := by simpa using hpD2
    have hold := h.pend p hpD1
    refine ⟨hold.ex, hold.lo, hold.hi, fun k hk => ?_⟩
    have hk : (Γ.σ ++ [b])[k]? = some p.2 := hk
    by_cases hlt : k < Γ.σ.length
    · rw [List.getElem?_append_left hlt] at hk; exact hold.out k hk
    · rw [List.getElem?_append_right (by omega)] at hk
      have : k - Γ.σ.length = 0 := by
        by_cases h0 : k - Γ.σ.length = 0
        · exact h0
        · rw [List.getElem?_eq_none (by simp; omega)] at hk; cases hk
      rw [this] at hk
      simp at hk
      have := h.one hpD1 hb (.inr hk.symm)
      exact hpi (by rw [this])
  · intro p hpD
    obtain ⟨hpD1, hpD2⟩ := List.mem_filter.1 hpD
    have hpi : p.1 ≠ i := by simpa using hpD2
    have := h.rdy p hpD1
    rw [mem_ready_iff] at this ⊢
    rw [setB_eq]
    exact ready_mono this hpi
  · intro q hq
    obtain ⟨h3, h4⟩ := h.held q hq
    exact ⟨h3, h4.imp id fun ⟨x, hx, hxi, hok⟩ => ⟨x, hx, hxi, hok.mono hle⟩⟩

end
end Go.SX
