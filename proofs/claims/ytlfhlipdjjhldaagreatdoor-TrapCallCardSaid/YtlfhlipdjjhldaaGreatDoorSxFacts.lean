/- What always holds of the Trap laws' arguments: a value that may be is the same as itself, and what a descriptor that may be has. Conditions: none. -/
import Derived.Test.YtlfhlipdjjhldaaGreatDoorSxChk
import Derived.Test.YtlfhlipdjjhldaaGreatDoorSxEnt
namespace Go.Proofs.YtlfhlipdjjhldaaGreatDoor
open Go Go.SX Go.RowKit
set_option maxRecDepth 1000000

theorem fnOf_val {C : Cfg} {f : Nat} {ps : List (Bool × List Srt)} {s : Srt} {e : E} (h : toE s (Tr.treeOf C f ps) = some e) (us : List Value) : (Tr.fnOf C f ps s).val us = e.den C.X us := by
  simp only [Tr.fnOf, h]

/-- The pure functions of the laws' configuration. -/
noncomputable def Xc : Ext := XF X (Tr.fns Tryz.prog X)

theorem Xc30 (v : Value) : Xc 30 v = (Tr.f30 Tryz.prog X).val (unpackV 4 v) := by kernel_rfl
theorem Xc33 (v : Value) : Xc 33 v = (Tr.f33 Tryz.prog X).val (unpackV 8 v) := by kernel_rfl
theorem Xc38 (v : Value) : Xc 38 v = (Tr.f38 Tryz.prog X).val (unpackV 16 v) := by kernel_rfl
theorem X2'30 (v : Value) : (Tr.C2' Tryz.prog X).X 30 v = (Tr.f30 Tryz.prog X).val (unpackV 4 v) := by kernel_rfl
theorem X2'64 (v : Value) : (Tr.C2' Tryz.prog X).X 64 v = (Tr.f64 Tryz.prog X).val (unpackV 4 v) := by kernel_rfl
theorem X230 (v : Value) : (Tr.C2 Tryz.prog X).X 30 v = (Tr.f30 Tryz.prog X).val (unpackV 4 v) := by kernel_rfl

theorem varsE_den {Y : Ext} : ∀ (ws pre post : List Value), esDen Y (pre ++ (ws ++ post)) (Tr.varsE pre.length ws.length) = some ws := by
  intro ws
  induction ws with
  | nil => intro pre post; rfl
  | cons v ws ih =>
    intro pre post
    refine esDen_cons.2 ⟨v, ws, ?_, ?_, rfl⟩
    · show (pre ++ (v :: ws ++ post))[pre.length]? = some v
      simp
    · have := ih (pre ++ [v]) post
      simpa [List.append_assoc] using this

theorem extE_den {Y : Ext} {f : Nat} {es : List E} {us vs : List Value} (h : esDen Y vs es = some us) : (E.ext f (pack es)).den Y vs = Y f (packV us) := by
  simp only [E.den, pack_den h, Option.bind_some]

theorem fits1 {ss : List Srt} {ws : List Value} (h : HasAll ss ws) : FitsAll [(true, ss)] [.agg ws.toArray] ws := by
  have := FitsAll.cons (p := (true, ss)) (.agg h) .nil
  simpa using this

theorem fits2 {ss : List Srt} {ws : List Value} (h : HasAll ss ws) : FitsAll [(true, ss), (true, ss)] [.agg ws.toArray, .agg ws.toArray] (ws ++ ws) := .cons (.agg h) (fits1 h)

theorem len4 {ws : List Value} (h : HasAll Tr.vS ws) : ws.length = 4 := h.length
theorem len16 {ws : List Value} (h : HasAll Tr.dS ws) : ws.length = 16 := h.length

/-- What is no float is equal to itself. -/
noncomputable def selfs : List (E × Bool) := [(.bin .eql (.var 0) (.var 0), true), (.bin .eql (.var 2) (.var 2), true), (.bin .eql (.var 3) (.var 3), true)]

theorem selfs_ok {Y : Ext} {ws : List Value} (h : HasAll Tr.vS ws) : FactsOk Y ws selfs := by
  cases h with
  | cons h0 h =>
    cases h with
    | cons h1 h =>
      cases h with
      | cons h2 h =>
        cases h with
        | cons h3 h =>
          obtain ⟨a, rfl⟩ := has_int h0
          obtain ⟨c, rfl⟩ := has_str h2
          obtain ⟨d, rfl⟩ := has_int h3
          intro p hp
          simp only [selfs, List.mem_cons, List.not_mem_nil, or_false] at hp
          rcases hp with rfl | rfl | rfl
          · refine den_bin.2 ⟨_, _, rfl, rfl, ?_⟩
            show some (Value.bool (a == a)) = _
            simp
          · refine den_bin.2 ⟨_, _, rfl, rfl, ?_⟩
            simp [binV, strV, bytesEq_beq]
          · refine den_bin.2 ⟨_, _, rfl, rfl, ?_⟩
            show some (Value.bool (d == d)) = _
            simp

/-- 'The variable i is k': so, or not so. -/
noncomputable def isK (i : Nat) (k : Nat) (b : Bool) : E × Bool := (.bin .eql (.var i) (.lit (.int .u8 (Int.ofNat k))), b)

/-- The kinds of a value, one by one; the last: none of them. -/
noncomputable def kinds (i : Nat) : Nat → List (E × Bool)
  | 0 => [isK i 0 true]
  | 1 => [isK i 1 true]
  | 2 => [isK i 2 true]
  | 3 => [isK i 3 true]
  | 4 => [isK i 4 true]
  | 5 => [isK i 5 true]
  | 6 => [isK i 6 true]
  | 7 => [isK i 7 true]
  | 8 => [isK i 8 true]
  | _ => [(.bin .lss (.lit (.int .u8 8)) (.var i), true)]

/-- Small numbers are where they may be. -/
def Good (v : Value) : Prop := ∀ n, v = .int .u8 n → 0 ≤ n ∧ n ≤ 255

theorem isK_den {Y : Ext} {vs : List Value} {i : Nat} {n : Int} (h : vs[i]? = some (.int .u8 n)) (k : Nat) : (isK i k (n == Int.ofNat k)).1.den Y vs = some (.bool (isK i k (n == Int.ofNat k)).2) :=
  den_bin.2 ⟨_, _, h, rfl, rfl⟩

theorem kinds_all {Y : Ext} {vs : List Value} {i : Nat} {n : Int} (h : vs[i]? = some (.int .u8 n)) (hn : 0 ≤ n) : ∃ c, c ≤ 9 ∧ FactsOk Y vs (kinds i c) := by
  have yes : ∀ k : Nat, n = Int.ofNat k → (isK i k true).1.den Y vs = some (.bool true) := by
    intro k e
    have := isK_den (Y := Y) h k
    rw [e] at this
    have e2 : (Int.ofNat k == Int.ofNat k) = true := by simp
    rw [e2] at this
    exact this
  have one : ∀ {p : E × Bool} {l : List (E × Bool)}, l = [p] → p.1.den Y vs = some (.bool p.2) → FactsOk Y vs l := by
    rintro p l rfl hp q hq
    rw [List.mem_singleton.1 hq]; exact hp
  by_cases h9 : n ≤ 8
  · have : n = Int.ofNat 0 ∨ n = Int.ofNat 1 ∨ n = Int.ofNat 2 ∨ n = Int.ofNat 3 ∨ n = Int.ofNat 4 ∨ n = Int.ofNat 5 ∨ n = Int.ofNat 6 ∨ n = Int.ofNat 7 ∨ n = Int.ofNat 8 := by
      simp only [Int.ofNat_eq_natCast]; omega
    rcases this with e | e | e | e | e | e | e | e | e
    · exact ⟨0, by omega, one rfl (yes 0 e)⟩
    · exact ⟨1, by omega, one rfl (yes 1 e)⟩
    · exact ⟨2, by omega, one rfl (yes 2 e)⟩
    · exact ⟨3, by omega, one rfl (yes 3 e)⟩
    · exact ⟨4, by omega, one rfl (yes 4 e)⟩
    · exact ⟨5, by omega, one rfl (yes 5 e)⟩
    · exact ⟨6, by omega, one rfl (yes 6 e)⟩
    · exact ⟨7, by omega, one rfl (yes 7 e)⟩
    · exact ⟨8, by omega, one rfl (yes 8 e)⟩
  · refine ⟨9, by omega, one rfl ?_⟩
    refine den_bin.2 ⟨_, _, rfl, h, ?_⟩
    show some (Value.bool (decide ((8 : Int) < n))) = _
    simp; omega

theorem d1_chk : (match toE .bool (Tr.treeOf (Tr.C1 Tryz.prog X) 30 [Tr.valP]) with
    | some e => match toE .bool (Tr.treeOf (Tr.C1 Tryz.prog X) 33 [Tr.valP, Tr.valP]) with
      | some e' => (List.range 10).all fun c => pathsB e (kinds 0 c ++ selfs) (fun b fs => cond b (pathsB (e'.twice 4) fs fun b _ => b) true)
      | none => false
    | none => false) = true := by kernel_rfl

/-- A value that may be is the same as itself. -/
theorem may_self (w : World) {ws : List Value} (h : HasAll Tr.vS ws) (hg : ∀ v ∈ ws, Good v) : ∃ b, (Tr.f30 Tryz.prog X).val ws = some (.bool b) ∧ ∃ c, (Tr.f33 Tryz.prog X).val (ws ++ ws) = some (.bool c) ∧ (b = true → c = true) := by
  obtain ⟨u, hu, hs⟩ := PFn.total ok30 w (fits1 h)
  obtain ⟨b, rfl⟩ := has_bool hs
  obtain ⟨u, hu', hs'⟩ := PFn.total ok33 w (fits2 h)
  obtain ⟨c, rfl⟩ := has_bool hs'
  refine ⟨b, hu, c, hu', ?_⟩
  have hc := d1_chk
  cases he : toE .bool (Tr.treeOf (Tr.C1 Tryz.prog X) 30 [Tr.valP]) with
  | none => rw [he] at hc; cases hc
  | some e =>
    cases he' : toE .bool (Tr.treeOf (Tr.C1 Tryz.prog X) 33 [Tr.valP, Tr.valP]) with
    | none => rw [he, he'] at hc; cases hc
    | some e' =>
      rw [he, he'] at hc
      have h1 : e.den (Tr.C1 Tryz.prog X).X ws = some (.bool b) := by rw [← fnOf_val he]; exact hu
      have h2 : e'.den (Tr.C1 Tryz.prog X).X (ws ++ ws) = some (.bool c) := by rw [← fnOf_val he']; exact hu'
      have h3 := twice_den h2
      rw [len4 h] at h3
      obtain ⟨n, hn, hn0⟩ : ∃ n, ws[0]? = some (.int .u8 n) ∧ 0 ≤ n := by
        cases h with
        | cons h0 _ =>
          obtain ⟨n, rfl⟩ := has_int h0
          exact ⟨n, rfl, (hg _ List.mem_cons_self n rfl).1⟩
      obtain ⟨c9, hc9, hk⟩ := kinds_all (Y := (Tr.C1 Tryz.prog X).X) hn hn0
      have hc := List.all_eq_true.1 hc c9 (List.mem_range.2 (by omega))
      obtain ⟨fs, h4, h5⟩ := pathsB_sound (fs := kinds 0 c9 ++ selfs) (fun p hp => by
        rcases List.mem_append.1 hp with hp | hp
        · exact hk p hp
        · exact selfs_ok h p hp) h1 hc
      rintro rfl
      simp only [cond_true] at h5
      obtain ⟨fs', _, h6⟩ := pathsB_sound h4 h3 h5
      exact h6

theorem d3_chk : (match toE .bool (Tr.treeOf (Tr.C2 Tryz.prog X) 64 [Tr.valP]) with
    | some e => pathsB e [] (fun b fs => cond b (match decideE fs (Tr.mayE 0) with | some x => x | none => false) true)
    | none => false) = true := by kernel_rfl

/-- What may be a getter may be. -/
theorem called_may (_w : World) {ws : List Value} (h : HasAll Tr.vS ws) (hc : (Tr.f64 Tryz.prog X).val ws = some (.bool true)) : (Tr.f30 Tryz.prog X).val ws = some (.bool true) := by
  have hk := d3_chk
  cases he : toE .bool (Tr.treeOf (Tr.C2 Tryz.prog X) 64 [Tr.valP]) with
  | none => rw [he] at hk; cases hk
  | some e =>
    rw [he] at hk
    have h1 : e.den (Tr.C2 Tryz.prog X).X ws = some (.bool true) := by rw [← fnOf_val he]; exact hc
    obtain ⟨fs, h4, h5⟩ := pathsB_sound (fs := []) (fun p hp => by cases hp) h1 hk
    simp only [cond_true] at h5
    split at h5
    · rename_i x hx
      subst h5
      have h6 := decideE_sound h4 hx
      have h7 : (Tr.mayE 0).den (Tr.C2 Tryz.prog X).X ws = (Tr.C2 Tryz.prog X).X 30 (packV ws) := by
        have := varsE_den (Y := (Tr.C2 Tryz.prog X).X) ws [] []
        rw [len4 h] at this
        simp only [List.append_nil, List.nil_append, List.length_nil] at this
        exact extE_den this
      rw [h7, X230] at h6
      have : unpackV 4 (packV ws) = ws := by rw [← len4 h]; exact unpack_pack ws
      rw [this] at h6
      exact h6
    · cases h5

noncomputable def has60 : List (E × Bool) := [(.bin .eql (.var 0) (.lit (.int .u8 60)), true)]
noncomputable def called (i : Nat) : E := .ext 64 (pack (Tr.varsE i 4))

theorem d2_chk : (match toE (.int .i64) (Tr.treeOf (Tr.C2' Tryz.prog X) 38 [Tr.descP]) with
    | some e => pathsV e [] (goalsK 0 [(Tr.mayE 1, true), (called 5, true), (called 9, true)]) && pathsV e has60 (goalsK 0 [(.var 13, false)])
    | none => false) = true := by kernel_rfl

theorem part_den {Y : Ext} {f i : Nat} {us pre ws post : List Value} (hu : us = pre ++ (ws ++ post)) (hi : pre.length = i) (hn : ws.length = 4) : (E.ext f (pack (Tr.varsE i 4))).den Y us = Y f (packV ws) := by
  subst hu
  subst hi
  have := varsE_den (Y := Y) ws pre post
  rw [hn] at this
  exact extE_den this

/-- What a descriptor that may be has. -/
theorem check_has (w : World) {d0 : Value} {v g s : List Value} {x y z : Value} (hd : Srt.has (.int .u8) d0 = true) (hv : HasAll Tr.vS v) (hg : HasAll Tr.vS g) (hs : HasAll Tr.vS s) (hx : Srt.bool.has x = true) (hy : Srt.bool.has y = true) (hz : Srt.bool.has z = true) :
    ∃ n, (Tr.f38 Tryz.prog X).val (d0 :: (v ++ (g ++ (s ++ [x, y, z])))) = some (.int .i64 n) ∧ (n = 0 → (Tr.f30 Tryz.prog X).val v = some (.bool true) ∧ (Tr.f30 Tryz.prog X).val g = some (.bool true) ∧ (Tr.f30 Tryz.prog X).val s = some (.bool true) ∧ (d0 = .int .u8 60 → x = .bool false)) := by
  have happ : ∀ {ss ts : List Srt} {l m : List Value}, HasAll ss l → HasAll ts m → HasAll (ss ++ ts) (l ++ m) := by
    intro ss ts l m h1 h2
    induction h1 with
    | nil => exact h2
    | cons h _ ih => exact .cons h ih
  have hall : HasAll Tr.dS (d0 :: (v ++ (g ++ (s ++ [x, y, z])))) := .cons hd (happ hv (happ hg (happ hs (.cons hx (.cons hy (.cons hz .nil))))))
  obtain ⟨u, hu, hsu⟩ := PFn.total ok38 w (fits1 hall)
  obtain ⟨n, rfl⟩ := has_int hsu
  refine ⟨n, hu, ?_⟩
  rintro rfl
  have hc := d2_chk
  cases he : toE (.int .i64) (Tr.treeOf (Tr.C2' Tryz.prog X) 38 [Tr.descP]) with
  | none => rw [he] at hc; cases hc
  | some e =>
    rw [he] at hc
    simp only [Bool.and_eq_true] at hc
    have h1 : e.den (Tr.C2' Tryz.prog X).X (d0 :: (v ++ (g ++ (s ++ [x, y, z])))) = some (.int .i64 0) := by rw [← fnOf_val he]; exact hu
    have h2 := entails (fs := []) (fun p hp => by cases hp) h1 hc.1
    have un : ∀ {ws : List Value}, HasAll Tr.vS ws → unpackV 4 (packV ws) = ws := fun h => by rw [← len4 h]; exact unpack_pack _
    have g1 := h2 (Tr.mayE 1, true) (by simp)
    have g2 := h2 (called 5, true) (by simp)
    have g3 := h2 (called 9, true) (by simp)
    have e1 : (Tr.mayE 1).den (Tr.C2' Tryz.prog X).X (d0 :: (v ++ (g ++ (s ++ [x, y, z])))) = _ := part_den (f := 30) (pre := [d0]) (ws := v) (post := g ++ (s ++ [x, y, z])) rfl rfl (len4 hv)
    have e2 : (called 5).den (Tr.C2' Tryz.prog X).X (d0 :: (v ++ (g ++ (s ++ [x, y, z])))) = _ := part_den (f := 64) (pre := d0 :: v) (ws := g) (post := s ++ [x, y, z]) (by simp) (by simp [len4 hv]) (len4 hg)
    have e3 : (called 9).den (Tr.C2' Tryz.prog X).X (d0 :: (v ++ (g ++ (s ++ [x, y, z])))) = _ := part_den (f := 64) (pre := d0 :: (v ++ g)) (ws := s) (post := [x, y, z]) (by simp) (by simp [len4 hv, len4 hg]) (len4 hs)
    rw [e1, X2'30, un hv] at g1
    rw [e2, X2'64, un hg] at g2
    rw [e3, X2'64, un hs] at g3
    refine ⟨g1, called_may w hg g2, called_may w hs g3, ?_⟩
    rintro rfl
    have h3 := entails (fs := has60) (fun p hp => by
      rw [List.mem_singleton.1 hp]
      exact den_bin.2 ⟨_, _, rfl, rfl, rfl⟩) h1 hc.2
    have g4 := h3 (.var 13, false) (by simp)
    have : (Value.int .u8 60 :: (v ++ (g ++ (s ++ [x, y, z]))))[13]? = some x := by
      have e1 : (Value.int .u8 60 :: (v ++ (g ++ (s ++ [x, y, z])))) = ((Value.int .u8 60 :: (v ++ (g ++ s))) ++ [x, y, z]) := by simp
      rw [e1, List.getElem?_append_right (by simp [len4 hv, len4 hg, len4 hs])]
      simp [len4 hv, len4 hg, len4 hs]
    have g4 : (Value.int .u8 60 :: (v ++ (g ++ (s ++ [x, y, z]))))[13]? = some (.bool false) := g4
    rw [this] at g4
    exact Option.some.inj g4
end Go.Proofs.YtlfhlipdjjhldaaGreatDoor
