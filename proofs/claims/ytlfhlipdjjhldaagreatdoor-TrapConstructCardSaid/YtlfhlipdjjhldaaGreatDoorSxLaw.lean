/- The Trap laws: the configuration is sound; what is given of the arguments holds; a law whose tree is true everywhere answers true. Conditions: none. -/
import Derived.Test.YtlfhlipdjjhldaaGreatDoorSxFacts
import Derived.Test.YtlfhlipdjjhldaaGreatDoorSxAlive
namespace Go.Proofs.YtlfhlipdjjhldaaGreatDoor
open Go Go.SX Go.RowKit
set_option maxRecDepth 1000000

/-! ### Contracts -/

theorem cfgA_ok : CfgOk cfgA R0 := base_ok (cons_ok ok30 (cons_ok ok33 (cons_ok ok60 nil_ok))) (cons_ok rfl (cons_ok rfl (cons_ok rfl nil_ok))) (cons_ok (fun _ => rfl) (cons_ok (fun _ => rfl) (cons_ok (fun _ => rfl) nil_ok))) nil_ct

theorem alive_calls (w : World) : Calls Tryz.prog 26 #[] w fun e w' => e = .returned (.bool true) ∧ Below w.heap.size w w' := by
  refine Calls.mono (runF_sound cfgA_ok (MRel.start w) (args := []) (xs := []) rfl (holds_isTrue alive_tree)) ?_
  rintro e w' ⟨u, rfl, st', v, Γ', hl, hm, hv, rfl⟩
  refine ⟨?_, Fr.below' hm.fr⟩
  unfold boolLit at hv
  rw [AV.den_one, den_s] at hv
  rw [← Option.some.inj hv.1]

/-- What the contracts hand back is any value of one cell. -/
def R1 : Nat → List Value → List Value → Prop := fun _ _ _ => True

theorem alive_ct {R : Nat → List Value → List Value → Prop} (hR : ∀ xs, R 26 xs []) : CtOk Tryz.prog R 26 Tr.alive := by
  intro Y args σ vs ns β xs w ht hx
  cases args with
  | cons a l => cases ht
  | nil =>
    cases hx
    refine ⟨⟨Tryz.f26, Tryz.func26, rfl⟩, (alive_calls w).mono ?_⟩
    rintro e w' ⟨rfl, hb⟩
    exact ⟨.bool true, [], rfl, hR [], rfl, rfl, hb⟩

theorem cons_ct {p : Nat × Con → Prop} {c : Nat × Con} {l : List (Nat × Con)} (h : p c) (hl : ∀ F ∈ l, p F) : ∀ F ∈ c :: l, p F := fun F hF => by
  rcases List.mem_cons.1 hF with rfl | hF
  · exact h
  · exact hl F hF

theorem fns_ok : ∀ F ∈ Tr.fns Tryz.prog X, FnOk Tryz.prog F :=
  cons_ok ok30 (cons_ok ok33 (cons_ok ok35 (cons_ok ok37 (cons_ok ok38 (cons_ok ok51 (cons_ok ok60 (cons_ok ok64 (cons_ok ok67 nil_ok))))))))
theorem fns_apart : ∀ F ∈ Tr.fns Tryz.prog X, Tr.ext F.f = none :=
  cons_ok (by kernel_rfl) (cons_ok (by kernel_rfl) (cons_ok (by kernel_rfl) (cons_ok (by kernel_rfl) (cons_ok (by kernel_rfl) (cons_ok (by kernel_rfl) (cons_ok (by kernel_rfl) (cons_ok (by kernel_rfl) (cons_ok (by kernel_rfl) nil_ok))))))))

theorem C3_ok : CfgOk (Tr.C3 Tryz.prog X) R1 := base_ok fns_ok fns_apart (fun _ _ _ => trivial) (cons_ct (alive_ct fun _ => trivial) nil_ct)

/-! ### What is given of the arguments -/

theorem imp_den {Y : Ext} {vs : List Value} {a d : E} {b : Bool} (ha : a.den Y vs = some (.bool b)) (hd : b = true → d.den Y vs = some (.bool true)) : (Tr.imp a d).den Y vs = some (.bool true) := by
  show iteV (a.den Y vs) (d.den Y vs) (some (.bool true)) = _
  rw [ha]
  cases b with
  | true => exact hd rfl
  | false => rfl

/-- What the pure functions are to say of the functions that the facts speak of. -/
structure YOk (Y : Ext) : Prop where
  h30 : ∀ v, Y 30 v = (Tr.f30 Tryz.prog X).val (unpackV 4 v)
  h33 : ∀ v, Y 33 v = (Tr.f33 Tryz.prog X).val (unpackV 8 v)
  h38 : ∀ v, Y 38 v = (Tr.f38 Tryz.prog X).val (unpackV 16 v)

theorem Xc_ok : YOk Xc := ⟨Xc30, Xc33, Xc38⟩

theorem mayE_den {Y : Ext} (hY : YOk Y) {us pre ws post : List Value} {i : Nat} (hu : us = pre ++ (ws ++ post)) (hi : pre.length = i) (h : HasAll Tr.vS ws) : (Tr.mayE i).den Y us = (Tr.f30 Tryz.prog X).val ws := by
  have := part_den (Y := Y) (f := 30) hu hi (len4 h)
  rw [hY.h30, ← len4 h, unpack_pack] at this
  rw [len4 h] at this
  exact this

theorem selfE_den {Y : Ext} (hY : YOk Y) {us pre ws post : List Value} {i : Nat} (hu : us = pre ++ (ws ++ post)) (hi : pre.length = i) (h : HasAll Tr.vS ws) : (Tr.selfE i).den Y us = (Tr.f33 Tryz.prog X).val (ws ++ ws) := by
  subst hu
  subst hi
  have h1 := varsE_den (Y := Y) ws pre post
  rw [len4 h] at h1
  have h2 := esDen_append h1 h1
  have h3 : (Tr.selfE pre.length).den Y (pre ++ (ws ++ post)) = Y 33 (packV (ws ++ ws)) := by
    unfold Tr.selfE
    rw [appL_eq]
    exact extE_den h2
  have h4 : (ws ++ ws).length = 8 := by rw [List.length_append, len4 h]
  rw [h3, hY.h33, ← h4, unpack_pack]

theorem fits_all1 {p : Bool × List Srt} {ps : List (Bool × List Srt)} {xs us : List Value} (h : FitsAll (p :: ps) xs us) : ∃ l m, us = l ++ m ∧ (∃ x, Fits p x l) ∧ ∃ ys, FitsAll ps ys m := by
  cases h with
  | cons h1 h2 => exact ⟨_, _, rfl, ⟨_, h1⟩, ⟨_, h2⟩⟩

theorem fits_agg {ss : List Srt} {x : Value} {l : List Value} (h : Fits (true, ss) x l) : HasAll ss l := by
  cases h; assumption

theorem hasAll_split {ss : List Srt} : ∀ {ts : List Srt} {l : List Value}, HasAll (ts ++ ss) l → ∃ a b, l = a ++ b ∧ HasAll ts a ∧ HasAll ss b := by
  intro ts
  induction ts with
  | nil => intro l h; exact ⟨[], l, rfl, .nil, h⟩
  | cons t ts ih =>
    intro l h
    cases h with
    | cons h1 h2 =>
      obtain ⟨a, b, rfl, h3, h4⟩ := ih h2
      exact ⟨_ :: a, b, rfl, .cons h1 h3, h4⟩

/-- A descriptor's cells. -/
theorem desc_parts {l : List Value} (h : HasAll Tr.dS l) : ∃ d0 v g s x y z, l = d0 :: (v ++ (g ++ (s ++ [x, y, z]))) ∧ Srt.has (.int .u8) d0 = true ∧ HasAll Tr.vS v ∧ HasAll Tr.vS g ∧ HasAll Tr.vS s ∧ Srt.bool.has x = true ∧ Srt.bool.has y = true ∧ Srt.bool.has z = true := by
  cases h with
  | cons h0 h1 =>
    obtain ⟨v, r1, e1, hv, h2⟩ := hasAll_split (ts := Tr.vS) (ss := Tr.vS ++ (Tr.vS ++ [.bool, .bool, .bool])) h1
    obtain ⟨g, r2, e2, hg, h3⟩ := hasAll_split (ts := Tr.vS) (ss := Tr.vS ++ [.bool, .bool, .bool]) h2
    obtain ⟨s, r3, e3, hs, h4⟩ := hasAll_split (ts := Tr.vS) (ss := [.bool, .bool, .bool]) h3
    cases h4 with
    | cons hx h5 =>
      cases h5 with
      | cons hy h6 =>
        cases h6 with
        | cons hz h7 =>
          cases h7
          subst e3
          subst e2
          subst e1
          exact ⟨_, v, g, s, _, _, _, rfl, h0, hv, hg, hs, hx, hy, hz⟩

theorem value_facts {Y : Ext} (hY : YOk Y) (w : World) {us pre ws post : List Value} {i : Nat} (hu : us = pre ++ (ws ++ post)) (hi : pre.length = i) (h : HasAll Tr.vS ws) (hg : ∀ v ∈ ws, Good v) : ∀ e ∈ Tr.valueFacts i, e.den Y us = some (.bool true) := by
  intro e he
  simp only [Tr.valueFacts, List.mem_cons, List.not_mem_nil, or_false] at he
  subst he
  obtain ⟨b, h1, c, h2, h3⟩ := may_self w h hg
  refine imp_den (b := b) (by rw [mayE_den hY hu hi h]; exact h1) fun hb => ?_
  rw [selfE_den hY hu hi h, h2, h3 hb]

theorem desc_facts {Y : Ext} (hY : YOk Y) (w : World) {us pre ws post : List Value} {i : Nat} (hu : us = pre ++ (ws ++ post)) (hi : pre.length = i) (h : HasAll Tr.dS ws) (hgood : ∀ v ∈ ws, Good v) : ∀ e ∈ Tr.descFacts i, e.den Y us = some (.bool true) := by
  obtain ⟨d0, v, g, s, x, y, z, rfl, h0, hv, hg, hs, hx, hy, hz⟩ := desc_parts h
  obtain ⟨n, h1, h2⟩ := check_has w h0 hv hg hs hx hy hz
  have hok : (Tr.okE i).den Y us = some (.bool (n == 0)) := by
    subst hu
    subst hi
    have := varsE_den (Y := Y) (d0 :: (v ++ (g ++ (s ++ [x, y, z])))) pre post
    rw [len16 h] at this
    have h3 : (E.ext 38 (pack (Tr.varsE pre.length 16))).den Y (pre ++ ((d0 :: (v ++ (g ++ (s ++ [x, y, z])))) ++ post)) = some (.int .i64 n) := by
      rw [extE_den this, hY.h38, ← len16 h, unpack_pack]
      exact h1
    exact den_bin.2 ⟨_, _, h3, rfl, rfl⟩
  have gv : ∀ u ∈ v, Good u := fun u hu => hgood u (by simp [hu])
  have gg : ∀ u ∈ g, Good u := fun u hu => hgood u (by simp [hu])
  have gs : ∀ u ∈ s, Good u := fun u hu => hgood u (by simp [hu])
  have ev : us = (pre ++ [d0]) ++ (v ++ ((g ++ (s ++ [x, y, z])) ++ post)) := by rw [hu]; simp
  have eg : us = (pre ++ (d0 :: v)) ++ (g ++ ((s ++ [x, y, z]) ++ post)) := by rw [hu]; simp
  have es : us = (pre ++ (d0 :: (v ++ g))) ++ (s ++ ([x, y, z] ++ post)) := by rw [hu]; simp
  have iv : (pre ++ [d0]).length = Nat.add i 1 := by simp [hi]
  have ig : (pre ++ (d0 :: v)).length = Nat.add i 5 := by simp [hi, len4 hv]
  have is : (pre ++ (d0 :: (v ++ g))).length = Nat.add i 9 := by simp [hi, len4 hv, len4 hg]
  have self : ∀ {l : List Value}, HasAll Tr.vS l → (∀ u ∈ l, Good u) → (Tr.f30 Tryz.prog X).val l = some (.bool true) → (Tr.f33 Tryz.prog X).val (l ++ l) = some (.bool true) := by
    intro l hl hgl hm
    obtain ⟨b, e1, c, e2, e3⟩ := may_self w hl hgl
    rw [hm] at e1
    cases e1
    rw [e2, e3 rfl]
  have n0 : (n == 0) = true → n = 0 := fun h => by simpa using h
  intro e he
  simp only [Tr.descFacts, List.mem_cons, List.not_mem_nil, or_false] at he
  rcases he with rfl | rfl | rfl | rfl | rfl | rfl | rfl
  · exact imp_den hok fun hb => by rw [mayE_den hY ev iv hv]; exact (h2 (n0 hb)).1
  · exact imp_den hok fun hb => by rw [selfE_den hY ev iv hv]; exact self hv gv (h2 (n0 hb)).1
  · exact imp_den hok fun hb => by rw [mayE_den hY eg ig hg]; exact (h2 (n0 hb)).2.1
  · exact imp_den hok fun hb => by rw [selfE_den hY eg ig hg]; exact self hg gg (h2 (n0 hb)).2.1
  · exact imp_den hok fun hb => by rw [mayE_den hY es is hs]; exact (h2 (n0 hb)).2.2.1
  · exact imp_den hok fun hb => by rw [selfE_den hY es is hs]; exact self hs gs (h2 (n0 hb)).2.2.1
  · refine imp_den hok fun hb => ?_
    obtain ⟨m, rfl⟩ := has_int h0
    have e0 : us[i]? = some (.int .u8 m) := by rw [hu, ← hi]; simp
    have e13 : us[Nat.add i 13]? = some x := by
      have e : us = (pre ++ (Value.int .u8 m :: (v ++ (g ++ s)))) ++ (x :: ([y, z] ++ post)) := by rw [hu]; simp
      have hlen : (pre ++ (Value.int .u8 m :: (v ++ (g ++ s)))).length = Nat.add i 13 := by simp [hi, len4 hv, len4 hg, len4 hs]
      rw [e, ← hlen]
      simp
    refine imp_den (b := m == 60) (den_bin.2 ⟨_, _, e0, rfl, rfl⟩) fun hm => ?_
    have hm : m = 60 := by simpa using hm
    have hxf := (h2 (n0 hb)).2.2.2 (by rw [hm])
    show ((E.var (Nat.add i 13)).den Y us).bind notV = _
    rw [show (E.var (Nat.add i 13)).den Y us = us[Nat.add i 13]? from rfl, e13, hxf]
    rfl

theorem facts_hold {Y : Ext} (hY : YOk Y) (w : World) : ∀ (l : List Tr.Sh) {xs us : List Value} (pre : List Value), FitsAll (Tr.psOf l) xs us → (∀ v ∈ us, Good v) → ∀ e ∈ Tr.factsFrom pre.length l, e.den Y (pre ++ us) = some (.bool true) := by
  intro l
  induction l with
  | nil => intro xs us pre _ _ e he; cases he
  | cons h l ih =>
    intro xs us pre hf hg e he
    obtain ⟨a, m, rfl, ⟨x, hx⟩, ys, hm⟩ := fits_all1 hf
    have ga : ∀ v ∈ a, Good v := fun v hv => hg v (List.mem_append_left _ hv)
    have gm : ∀ v ∈ m, Good v := fun v hv => hg v (List.mem_append_right _ hv)
    have next : ∀ e ∈ Tr.factsFrom (pre.length + a.length) l, e.den Y (pre ++ (a ++ m)) = some (.bool true) := by
      have := ih (pre ++ a) hm gm
      simpa [List.append_assoc] using this
    cases h with
    | val =>
      have ha := fits_agg hx
      simp only [Tr.factsFrom, appL_eq] at he
      rw [len4 ha] at next
      rcases List.mem_append.1 he with he | he
      · exact value_facts hY w rfl rfl ha ga e he
      · exact next e he
    | desc =>
      have ha := fits_agg hx
      simp only [Tr.factsFrom, appL_eq] at he
      rw [len16 ha] at next
      rcases List.mem_append.1 he with he | he
      · exact desc_facts hY w rfl rfl ha ga e he
      · exact next e he
    | key =>
      have ha := (fits_agg hx).length
      rw [ha] at next
      exact next e he
    | bool =>
      have ha : a.length = 1 := by cases hx; rfl
      rw [ha] at next
      exact next e he
    | slc =>
      have ha : a.length = 1 := by cases hx; rfl
      rw [ha] at next
      exact next e he

theorem trues_ok {Y : Ext} {vs : List Value} : ∀ {l : List E}, (∀ e ∈ l, e.den Y vs = some (.bool true)) → FactsOk Y vs (Tr.trues l) := by
  intro l
  induction l with
  | nil => intro _ p hp; cases hp
  | cons e l ih =>
    intro h p hp
    rcases List.mem_cons.1 hp with rfl | hp
    · exact h e List.mem_cons_self
    · exact ih (fun e he => h e (List.mem_cons_of_mem _ he)) p hp

/-- A law whose tree is true everywhere answers true, and leaves what stood as it stood. -/
theorem law_calls {C : Cfg} {R : Nat → List Value → List Value → Prop} (hC : CfgOk C R) (hX : C.X = Xc) (hP : C.P = Tryz.prog) {f : Nat} {l : List Tr.Sh} {more : List (E × Bool)} (h : Tree.isTrue (Tr.law C f l more) = true)
    (w : World) {us xs : List Value} (hx : FitsAll (Tr.psOf l) xs us) (hg : ∀ v ∈ us, Good v) (hm : FactsOk Xc us more) : Calls Tryz.prog f xs.toArray w fun e w' => e = .returned (.bool true) ∧ Below w.heap.size w w' := by
  have hx' : avsDen ⟨C.X, [], us, [], fun _ => 0⟩ (argsFrom 0 (Tr.psOf l)) = some xs := argsFrom_den (X := C.X) (σ := []) (ns := []) hx []
  have hfs : ∀ p ∈ appL more (Tr.trues (Tr.factsFrom 0 l)), p.1.den C.X us = some (.bool p.2) := by
    intro p hp
    rw [appL_eq] at hp
    rw [hX]
    rcases List.mem_append.1 hp with hp | hp
    · exact hm p hp
    · exact trues_ok (facts_hold Xc_ok w l [] hx hg) p hp
  have key := runF_sound hC (MRel.startV' w us _ hx.length _ hfs) hx' (holds_isTrue h)
  rw [hP] at key
  refine Calls.mono key ?_
  rintro e w' ⟨u, rfl, st', v, Γ', hl, hm, hv, rfl⟩
  refine ⟨?_, Fr.below' hm.fr⟩
  unfold boolLit at hv
  rw [AV.den_one, den_s] at hv
  rw [← Option.some.inj hv.1]

end Go.Proofs.YtlfhlipdjjhldaaGreatDoor
