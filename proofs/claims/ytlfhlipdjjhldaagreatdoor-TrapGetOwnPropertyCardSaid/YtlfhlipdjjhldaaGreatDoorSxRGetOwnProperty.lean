/- TrapGetOwnProperty: its runs put together. Conditions: none. -/
import Derived.Test.YtlfhlipdjjhldaaGreatDoorSxOwnB
import Derived.Test.YtlfhlipdjjhldaaGreatDoorSxG1
import Derived.Test.YtlfhlipdjjhldaaGreatDoorSxG2
import Derived.Test.YtlfhlipdjjhldaaGreatDoorSxG3
import Derived.Test.YtlfhlipdjjhldaaGreatDoorSxG4
import Derived.Test.YtlfhlipdjjhldaaGreatDoorSxG5
import Derived.Test.YtlfhlipdjjhldaaGreatDoorSxG6
import Derived.Test.YtlfhlipdjjhldaaGreatDoorSxG7
namespace Go.Proofs.YtlfhlipdjjhldaaGreatDoor
open Go Go.SX Go.RowKit
set_option maxRecDepth 1000000

theorem getOwn_none : Tree.isTrue (Tr.law (Tr.C4 Tryz.prog X) 9 [.key, .bool, .desc, .bool, .bool, .desc] [(.var 2, false)]) = true := by
  unfold Tr.law; rw [← runFZ_eq]; kernel_rfl
theorem getOwn_bad : Tree.isTrue (Tr.law (Tr.C4 Tryz.prog X) 9 [.key, .bool, .desc, .bool, .bool, .desc] [(Tr.okE 3, false)]) = true := by
  unfold Tr.law; rw [← runFZ_eq]; kernel_rfl
theorem getOwn_other : Tree.isTrue (Tr.law (Tr.C4 Tryz.prog X) 9 [.key, .bool, .desc, .bool, .bool, .desc] [(.var 20, true), (isN 21 51, false), (isN 21 60, false)]) = true := by
  unfold Tr.law; rw [← runFZ_eq]; kernel_rfl

noncomputable def ownTree (n : Nat) (now : List (E × Bool)) : Tree := runFZ (Tr.C5 Tryz.prog X) 1000000 9 (Tr.ownArgs n) (St.start .e 0 37 0 (appL now (Tr.trues (Tr.ownFacts n))))

theorem own_runs {m : Nat} (h : memNat m list28 = true) : Tree.isTrue (ownTree m [(.var 20, false)]) = true ∧ Tree.isTrue (ownTree m [(.var 20, true), (isN 21 51, true)]) = true ∧
    Tree.isTrue (ownTree m [(.var 20, true), (isN 21 51, false), (isN 21 60, true)]) = true := by
  have h := memNat_iff.1 h
  simp only [list28, List.mem_cons, List.not_mem_nil, or_false] at h
  rcases h with rfl | rfl | rfl | rfl | rfl | rfl | rfl | rfl | rfl | rfl | rfl | rfl | rfl | rfl | rfl | rfl | rfl | rfl | rfl | rfl | rfl | rfl | rfl | rfl | rfl | rfl | rfl | rfl
  · exact ⟨own_0_n, own_0_a, own_0_b⟩
  · exact ⟨own_1_n, own_1_a, own_1_b⟩
  · exact ⟨own_2_n, own_2_a, own_2_b⟩
  · exact ⟨own_3_n, own_3_a, own_3_b⟩
  · exact ⟨own_4_n, own_4_a, own_4_b⟩
  · exact ⟨own_8_n, own_8_a, own_8_b⟩
  · exact ⟨own_12_n, own_12_a, own_12_b⟩
  · exact ⟨own_16_n, own_16_a, own_16_b⟩
  · exact ⟨own_17_n, own_17_a, own_17_b⟩
  · exact ⟨own_18_n, own_18_a, own_18_b⟩
  · exact ⟨own_19_n, own_19_a, own_19_b⟩
  · exact ⟨own_20_n, own_20_a, own_20_b⟩
  · exact ⟨own_24_n, own_24_a, own_24_b⟩
  · exact ⟨own_28_n, own_28_a, own_28_b⟩
  · exact ⟨own_32_n, own_32_a, own_32_b⟩
  · exact ⟨own_33_n, own_33_a, own_33_b⟩
  · exact ⟨own_34_n, own_34_a, own_34_b⟩
  · exact ⟨own_35_n, own_35_a, own_35_b⟩
  · exact ⟨own_36_n, own_36_a, own_36_b⟩
  · exact ⟨own_40_n, own_40_a, own_40_b⟩
  · exact ⟨own_44_n, own_44_a, own_44_b⟩
  · exact ⟨own_48_n, own_48_a, own_48_b⟩
  · exact ⟨own_49_n, own_49_a, own_49_b⟩
  · exact ⟨own_50_n, own_50_a, own_50_b⟩
  · exact ⟨own_51_n, own_51_a, own_51_b⟩
  · exact ⟨own_52_n, own_52_a, own_52_b⟩
  · exact ⟨own_56_n, own_56_a, own_56_b⟩
  · exact ⟨own_60_n, own_60_a, own_60_b⟩

theorem good_nat {v : Value} (h : Srt.has (.int .u8) v = true) (hg : Good v) : ∃ m, m < 256 ∧ v = .int .u8 (Int.ofNat m) := by
  obtain ⟨n, rfl⟩ := has_int h
  obtain ⟨h1, h2⟩ := hg n rfl
  obtain ⟨m, rfl⟩ := Int.eq_ofNat_of_zero_le h1
  exact ⟨m, by omega, rfl⟩

/-- It answers true: of a descriptor that is told and may be. -/
theorem own_told (W : World) {us xs : List Value} (hx : FitsAll (Tr.psOf [.key, .bool, .desc, .bool, .bool, .desc]) xs us) (hg : ∀ v ∈ us, Good v) (htold : us[2]? = some (.bool true)) (hok : (Tr.okE 3).den Xc us = some (.bool true))
    {now : List (E × Bool)} (hnow : FactsOk X5 us now) (htree : ∀ m, memNat m list28 = true → Tree.isTrue (ownTree m now) = true) :
    Calls Tryz.prog 9 xs.toArray W fun e w' => e = .returned (.bool true) ∧ Below W.heap.size W w' := by
  cases hx with
  | cons k1 hx =>
  cases hx with
  | cons t1 hx =>
  cases hx with
  | cons d1 hx =>
  cases hx with
  | cons e1 hx =>
  cases hx with
  | cons f1 hx =>
  cases hx with
  | cons n1 hx =>
  cases hx
  cases k1 with
  | agg hk =>
  cases t1 with
  | one ht =>
  cases d1 with
  | agg hd =>
  cases e1 with
  | one he =>
  cases f1 with
  | one hf =>
  cases n1 with
  | agg hn =>
  rename_i k t d e f n
  have lk : k.length = 2 := hk.length
  obtain ⟨d0, v, g, s, x, y, z, rfl, h0, hv, hgg, hs, hxx, hyy, hzz⟩ := desc_parts hd
  have lv := len4 hv
  have lg := len4 hgg
  have ls := len4 hs
  obtain ⟨m, hm, rfl⟩ := good_nat h0 (hg _ (by simp))
  have hu : (k ++ ([t] ++ ((Value.int .u8 (Int.ofNat m) :: (v ++ (g ++ (s ++ [x, y, z])))) ++ ([e] ++ ([f] ++ (n ++ [])))))) = (k ++ [t]) ++ (Value.int .u8 (Int.ofNat m) :: (v ++ (g ++ (s ++ ([x, y, z] ++ (e :: f :: n)))))) := by simp
  have hp : (k ++ [t]).length = 3 := by simp [lk]
  have ht' : t = .bool true := by
    have := get_mid (us := k ++ ([t] ++ ((Value.int .u8 (Int.ofNat m) :: (v ++ (g ++ (s ++ [x, y, z])))) ++ ([e] ++ ([f] ++ (n ++ []))))) ) (j := 0) rfl lk (by simp)
    rw [show 2 + 0 = 2 from rfl, htold] at this
    exact (Option.some.inj this).symm
  subst ht'
  have hcheck : (Tr.f38 Tryz.prog X).val (Value.int .u8 (Int.ofNat m) :: (v ++ (g ++ (s ++ [x, y, z])))) = some (.int .i64 0) := by
    obtain ⟨i, h1, _⟩ := check_has W h0 hv hgg hs hxx hyy hzz
    have hvar := varsE_den (Y := Xc) (Value.int .u8 (Int.ofNat m) :: (v ++ (g ++ (s ++ [x, y, z])))) (k ++ [Value.bool true]) ([e] ++ ([f] ++ (n ++ [])))
    rw [len16 hd, hp] at hvar
    have h3 : (E.ext 38 (pack (Tr.varsE 3 16))).den Xc ((k ++ [Value.bool true]) ++ ((Value.int .u8 (Int.ofNat m) :: (v ++ (g ++ (s ++ [x, y, z])))) ++ ([e] ++ ([f] ++ (n ++ []))))) = some (.int .i64 i) := by
      rw [extE_den hvar, Xc38, ← len16 hd, unpack_pack]
      exact h1
    have h4 : (Tr.okE 3).den Xc ((k ++ [Value.bool true]) ++ ((Value.int .u8 (Int.ofNat m) :: (v ++ (g ++ (s ++ [x, y, z])))) ++ ([e] ++ ([f] ++ (n ++ []))))) = some (.bool (i == 0)) := den_bin.2 ⟨_, _, h3, rfl, rfl⟩
    rw [show (k ++ ([Value.bool true] ++ ((Value.int .u8 (Int.ofNat m) :: (v ++ (g ++ (s ++ [x, y, z])))) ++ ([e] ++ ([f] ++ (n ++ [])))))) = (k ++ [Value.bool true]) ++ ((Value.int .u8 (Int.ofNat m) :: (v ++ (g ++ (s ++ [x, y, z])))) ++ ([e] ++ ([f] ++ (n ++ [])))) by simp, h4] at hok
    have : i = 0 := by simpa using hok
    rw [h1, this]
  obtain ⟨hmem, hzero⟩ := own_zero hcheck rfl hm
  have hl := lacks_of hv hgg hs hzero
  have gd : ∀ u ∈ v ++ (g ++ s), Good u := fun u hu => hg u (by
    simp only [List.mem_append] at hu
    simp only [List.mem_append, List.mem_cons]
    rcases hu with hu | hu | hu <;> simp [hu])
  have hfacts := own_facts W (m := m) hu hp hv hgg hs (fun u hu => gd u (by simp [hu])) (fun u hu => gd u (by simp [hu])) (fun u hu => gd u (by simp [hu])) hl rfl hn (fun u hu => hg u (by simp [hu]))
  have hden : avsDen ⟨X5, [], k ++ ([Value.bool true] ++ ((Value.int .u8 (Int.ofNat m) :: (v ++ (g ++ (s ++ [x, y, z])))) ++ ([e] ++ ([f] ++ (n ++ []))))), []⟩ (Tr.ownArgs m) =
      some [.agg k.toArray, .bool true, .agg (Value.int .u8 (Int.ofNat m) :: (v ++ (g ++ (s ++ [x, y, z])))).toArray, e, f, .agg n.toArray] := by
    have ak : (AV.agg (varsFrom 0 Tr.kS)).den ⟨X5, [], k ++ ([Value.bool true] ++ ((Value.int .u8 (Int.ofNat m) :: (v ++ (g ++ (s ++ [x, y, z])))) ++ ([e] ++ ([f] ++ (n ++ []))))), []⟩ = some (.agg k.toArray) := by
      have := varsFrom_den (X := X5) (σ := []) (ns := []) hk [] ([Value.bool true] ++ ((Value.int .u8 (Int.ofNat m) :: (v ++ (g ++ (s ++ [x, y, z])))) ++ ([e] ++ ([f] ++ (n ++ [])))))
      simp only [List.nil_append, List.length_nil] at this
      simp only [AV.den, this, Option.map_some]
    have at' : (AV.one (.s .bool (.lit (.bool true)))).den ⟨X5, [], k ++ ([Value.bool true] ++ ((Value.int .u8 (Int.ofNat m) :: (v ++ (g ++ (s ++ [x, y, z])))) ++ ([e] ++ ([f] ++ (n ++ []))))), []⟩ = some (.bool true) := rfl
    have ad : (AV.agg (Tr.descC m 3)).den ⟨X5, [], k ++ ([Value.bool true] ++ ((Value.int .u8 (Int.ofNat m) :: (v ++ (g ++ (s ++ [x, y, z])))) ++ ([e] ++ ([f] ++ (n ++ []))))), []⟩ = some (.agg (Value.int .u8 (Int.ofNat m) :: (v ++ (g ++ (s ++ [x, y, z])))).toArray) := by
      have := descC_den (Y := X5) (post := e :: f :: n) hu hp hv hgg hs hxx hyy hzz hl
      simp only [AV.den, this, Option.map_some]
    have ae : (AV.one (.s .bool (.var 19))).den ⟨X5, [], k ++ ([Value.bool true] ++ ((Value.int .u8 (Int.ofNat m) :: (v ++ (g ++ (s ++ [x, y, z])))) ++ ([e] ++ ([f] ++ (n ++ []))))), []⟩ = some e := by
      rw [AV.den_one, den_s]
      refine ⟨?_, he⟩
      have := get_mid (us := k ++ ([Value.bool true] ++ ((Value.int .u8 (Int.ofNat m) :: (v ++ (g ++ (s ++ [x, y, z])))) ++ ([e] ++ ([f] ++ (n ++ [])))))) (pre := k ++ ([Value.bool true] ++ (Value.int .u8 (Int.ofNat m) :: (v ++ (g ++ (s ++ [x, y, z])))))) (ws := [e]) (post := [f] ++ (n ++ [])) (i := 19) (j := 0) (by simp) (by simp [lk, lv, lg, ls]) (by simp)
      exact this
    have af : (AV.one (.s .bool (.var 20))).den ⟨X5, [], k ++ ([Value.bool true] ++ ((Value.int .u8 (Int.ofNat m) :: (v ++ (g ++ (s ++ [x, y, z])))) ++ ([e] ++ ([f] ++ (n ++ []))))), []⟩ = some f := by
      rw [AV.den_one, den_s]
      refine ⟨?_, hf⟩
      have := get_mid (us := k ++ ([Value.bool true] ++ ((Value.int .u8 (Int.ofNat m) :: (v ++ (g ++ (s ++ [x, y, z])))) ++ ([e] ++ ([f] ++ (n ++ [])))))) (pre := k ++ ([Value.bool true] ++ ((Value.int .u8 (Int.ofNat m) :: (v ++ (g ++ (s ++ [x, y, z])))) ++ [e]))) (ws := [f]) (post := n ++ []) (i := 20) (j := 0) (by simp) (by simp [lk, lv, lg, ls]) (by simp)
      exact this
    have an : (AV.agg (varsFrom 21 Tr.dS)).den ⟨X5, [], k ++ ([Value.bool true] ++ ((Value.int .u8 (Int.ofNat m) :: (v ++ (g ++ (s ++ [x, y, z])))) ++ ([e] ++ ([f] ++ (n ++ []))))), []⟩ = some (.agg n.toArray) := by
      have := varsFrom_den (X := X5) (σ := []) (ns := []) hn (k ++ ([Value.bool true] ++ ((Value.int .u8 (Int.ofNat m) :: (v ++ (g ++ (s ++ [x, y, z])))) ++ ([e] ++ [f])))) []
      have hlen : (k ++ ([Value.bool true] ++ ((Value.int .u8 (Int.ofNat m) :: (v ++ (g ++ (s ++ [x, y, z])))) ++ ([e] ++ [f])))).length = 21 := by simp [lk, lv, lg, ls]
      rw [hlen] at this
      have e2 : (k ++ ([Value.bool true] ++ ((Value.int .u8 (Int.ofNat m) :: (v ++ (g ++ (s ++ [x, y, z])))) ++ ([e] ++ [f])))) ++ (n ++ []) = k ++ ([Value.bool true] ++ ((Value.int .u8 (Int.ofNat m) :: (v ++ (g ++ (s ++ [x, y, z])))) ++ ([e] ++ ([f] ++ (n ++ []))))) := by simp
      rw [e2] at this
      simp only [AV.den, this, Option.map_some]
    show avsDen _ [.agg (varsFrom 0 Tr.kS), .one (.s .bool (.lit (.bool true))), .agg (Tr.descC m 3), .one (.s .bool (.var 19)), .one (.s .bool (.var 20)), .agg (varsFrom 21 Tr.dS)] = _
    simp only [avsDen, ak, at', ad, ae, af, an, Option.bind_some, Option.map_some]
  have htr : Tree.isTrue (runF (Tr.C5 Tryz.prog X) 1000000 9 (Tr.ownArgs m) (St.start .e 0 37 0 (appL now (Tr.trues (Tr.ownFacts m))))) = true := by
    rw [← runFZ_eq]; exact htree m hmem
  have hfs : ∀ p ∈ appL now (Tr.trues (Tr.ownFacts m)), p.1.den (Tr.C5 Tryz.prog X).X (k ++ ([Value.bool true] ++ ((Value.int .u8 (Int.ofNat m) :: (v ++ (g ++ (s ++ [x, y, z])))) ++ ([e] ++ ([f] ++ (n ++ [])))))) = some (.bool p.2) := by
    intro p hp
    rw [appL_eq] at hp
    rcases List.mem_append.1 hp with hp | hp
    · exact hnow p hp
    · exact trues_ok hfacts p hp
  have hlen37 : (k ++ ([Value.bool true] ++ ((Value.int .u8 (Int.ofNat m) :: (v ++ (g ++ (s ++ [x, y, z])))) ++ ([e] ++ ([f] ++ (n ++ [])))))).length = 37 := by simp [lk, lv, lg, ls, len16 hn]
  refine Calls.mono (runF_sound C5_ok (MRel.startV' W _ 37 hlen37 _ hfs) hden (holds_isTrue htr)) ?_
  rintro r w' ⟨u, rfl, st', v', Γ', hl', hm', hv', rfl⟩
  refine ⟨?_, Fr.below' hm'.fr⟩
  unfold boolLit at hv'
  rw [AV.den_one, den_s] at hv'
  rw [← Option.some.inj hv'.1]

theorem trapGetOwnProperty_calls (W : World) {us xs : List Value} (hx : FitsAll (Tr.psOf [.key, .bool, .desc, .bool, .bool, .desc]) xs us) (hg : ∀ v ∈ us, Good v) : Calls Tryz.prog 9 xs.toArray W fun e w' => e = .returned (.bool true) ∧ Below W.heap.size W w' := by
  obtain ⟨t, ht⟩ := var_bool (Y := Xc) hx (i := 2) rfl
  cases t with
  | false => exact law_calls C4_ok rfl rfl getOwn_none W hx hg (facts1 ht facts0)
  | true =>
    obtain ⟨o, ho⟩ : ∃ o, (Tr.okE 3).den Xc us = some (.bool o) := by
      obtain ⟨a, r, rfl, ⟨x0, f0⟩, ys, hr⟩ := fits_all1 hx
      obtain ⟨b, r, rfl, ⟨x1, f1⟩, ys, hr⟩ := fits_all1 hr
      obtain ⟨c, r, rfl, ⟨x2, f2⟩, ys, hr⟩ := fits_all1 hr
      have la : a.length = 2 := (fits_agg f0).length
      have lb : b.length = 1 := by cases f1; rfl
      have hc := fits_agg f2
      obtain ⟨u, hu, hs⟩ := PFn.total ok38 W (fits1 hc)
      obtain ⟨n, rfl⟩ := has_int hs
      have hvar := varsE_den (Y := Xc) c (a ++ b) r
      rw [len16 hc, List.length_append, la, lb] at hvar
      have h3 : (E.ext 38 (pack (Tr.varsE 3 16))).den Xc ((a ++ b) ++ (c ++ r)) = some (.int .i64 n) := by
        rw [extE_den hvar, Xc38, ← len16 hc, unpack_pack]
        exact hu
      rw [List.append_assoc] at h3
      exact ⟨n == 0, den_bin.2 ⟨_, _, h3, rfl, rfl⟩⟩
    cases o with
    | false => exact law_calls C4_ok rfl rfl getOwn_bad W hx hg (facts1 ho facts0)
    | true =>
      obtain ⟨f, hf⟩ := var_bool (Y := X5) hx (i := 20) rfl
      have told : us[2]? = some (.bool true) := ht
      cases f with
      | false => exact own_told W hx hg told ho (facts1 hf facts0) fun m hm => (own_runs hm).1
      | true =>
        obtain ⟨b1, h1⟩ := var_is (Y := X5) hx 51 (i := 21) rfl
        cases b1 with
        | true => exact own_told W hx hg told ho (facts1 hf (facts1 h1 facts0)) fun m hm => (own_runs hm).2.1
        | false =>
          obtain ⟨b2, h2⟩ := var_is (Y := X5) hx 60 (i := 21) rfl
          cases b2 with
          | true => exact own_told W hx hg told ho (facts1 hf (facts1 h1 (facts1 h2 facts0))) fun m hm => (own_runs hm).2.2
          | false =>
            have hf' : (E.var 20).den Xc us = some (.bool true) := hf
            have h1' : (isN 21 51).den Xc us = some (.bool false) := by
              obtain ⟨p, q, e1, e2, e3⟩ := den_bin.1 h1
              exact den_bin.2 ⟨p, q, e1, e2, e3⟩
            have h2' : (isN 21 60).den Xc us = some (.bool false) := by
              obtain ⟨p, q, e1, e2, e3⟩ := den_bin.1 h2
              exact den_bin.2 ⟨p, q, e1, e2, e3⟩
            exact law_calls C4_ok rfl rfl getOwn_other W hx hg (facts1 hf' (facts1 h1' (facts1 h2' facts0)))

end Go.Proofs.YtlfhlipdjjhldaaGreatDoor
