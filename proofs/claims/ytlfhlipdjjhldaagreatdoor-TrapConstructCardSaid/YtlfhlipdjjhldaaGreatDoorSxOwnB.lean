/- TrapGetOwnProperty: what is given of the told descriptor's cells holds. Conditions: none. -/
import Derived.Test.YtlfhlipdjjhldaaGreatDoorSxOwn
namespace Go.Proofs.YtlfhlipdjjhldaaGreatDoor
open Go Go.SX Go.RowKit
set_option maxRecDepth 1000000

theorem get_mid {us pre ws post : List Value} {i j : Nat} (hu : us = pre ++ (ws ++ post)) (hi : pre.length = i) (hj : j < ws.length) : us[i + j]? = ws[j]? := by
  subst hu
  subst hi
  rw [List.getElem?_append_right (by omega)]
  rw [List.getElem?_append_left (by omega)]
  congr 1
  omega

theorem val_parts {ws : List Value} (h : HasAll Tr.vS ws) : ∃ k b c r, ws = [.int .u8 k, .float .f64 b, .string c, .int .i64 r] := by
  cases h with
  | cons h0 h =>
    cases h with
    | cons h1 h =>
      cases h with
      | cons h2 h =>
        cases h with
        | cons h3 h =>
          cases h
          obtain ⟨k, rfl⟩ := has_int h0
          obtain ⟨b, rfl⟩ := has_float h1
          obtain ⟨c, rfl⟩ := has_str h2
          obtain ⟨r, rfl⟩ := has_int h3
          exact ⟨k, b, c, r, rfl⟩

/-- What is nothing: its cells. -/
theorem zero4 {Y : Ext} {us pre ws post : List Value} {i : Nat} (hu : us = pre ++ (ws ++ post)) (hi : pre.length = i) (h : HasAll Tr.vS ws) (hz : FactsOk Y us (zg i)) :
    ∃ b, ws = [.int .u8 0, .float .f64 b, .string ⟨#[]⟩, .int .i64 0] ∧ binV .eql (.float .f64 b) (.float .f64 0) = some (.bool true) := by
  obtain ⟨k, b, c, r, rfl⟩ := val_parts h
  have g0 := get_mid (j := 0) hu hi (by simp)
  have g1 := get_mid (j := 1) hu hi (by simp)
  have g2 := get_mid (j := 2) hu hi (by simp)
  have g3 := get_mid (j := 3) hu hi (by simp)
  have z0 := hz (Tr.kindZ i, true) (by simp [zg])
  have z1 := hz (Tr.numZ (Nat.add i 1), true) (by simp [zg])
  have z2 := hz (.bin .eql (.var (Nat.add i 2)) (.lit (.string ⟨#[]⟩)), true) (by simp [zg])
  have z3 := hz (.bin .eql (.var (Nat.add i 3)) (.lit (.int .i64 0)), true) (by simp [zg])
  obtain ⟨x0, y0, e0, f0, b0⟩ := den_bin.1 z0
  obtain ⟨x1, y1, e1, f1, b1⟩ := den_bin.1 z1
  obtain ⟨x2, y2, e2, f2, b2⟩ := den_bin.1 z2
  obtain ⟨x3, y3, e3, f3, b3⟩ := den_bin.1 z3
  have e0 : us[i + 0]? = some x0 := e0
  have e1 : us[i + 1]? = some x1 := e1
  have e2 : us[i + 2]? = some x2 := e2
  have e3 : us[i + 3]? = some x3 := e3
  rw [g0] at e0
  rw [g1] at e1
  rw [g2] at e2
  rw [g3] at e3
  cases e0
  cases e1
  cases e2
  cases e3
  cases f0
  cases f1
  cases f2
  cases f3
  have k0 : k = 0 := by
    have b0 : some (Value.bool (k == 0)) = some (.bool true) := b0
    simpa using b0
  have c0 : c = ⟨#[]⟩ := by
    have b2 : some (Value.bool (bytesEq c.data.toList (⟨#[]⟩ : ByteArray).data.toList)) = some (.bool true) := b2
    exact bytesEq_eq (by simpa using b2)
  have r0 : r = 0 := by
    have b3 : some (Value.bool (r == 0)) = some (.bool true) := b3
    simpa using b3
  subst k0
  subst c0
  subst r0
  exact ⟨b, rfl, b1⟩

theorem valC_den {Y : Ext} {us pre ws post : List Value} {i : Nat} (hu : us = pre ++ (ws ++ post)) (hi : pre.length = i) (h : HasAll Tr.vS ws) (is : Bool)
    (hz : is = false → ∃ b, ws = [.int .u8 0, .float .f64 b, .string ⟨#[]⟩, .int .i64 0]) : cellsDen ⟨Y, [], us, [], fun _ => 0⟩ (Tr.valC is i) = some ws := by
  cases is with
  | true =>
    subst hu
    subst hi
    exact varsFrom_den h pre post
  | false =>
    obtain ⟨b, rfl⟩ := hz rfl
    have g1 := get_mid (j := 1) hu hi (by simp)
    have e1 : (Cell.s .float (.var (Nat.add i 1))).den ⟨Y, [], us, [], fun _ => 0⟩ = some (.float .f64 b) := den_s.2 ⟨g1, rfl⟩
    have e0 : (Cell.s (.int .u8) (.lit (.int .u8 0))).den ⟨Y, [], us, [], fun _ => 0⟩ = some (.int .u8 0) := rfl
    have e2 : (Cell.s .str (.lit (.string ⟨#[]⟩))).den ⟨Y, [], us, [], fun _ => 0⟩ = some (.string ⟨#[]⟩) := rfl
    have e3 : (Cell.s (.int .i64) (.lit (.int .i64 0))).den ⟨Y, [], us, [], fun _ => 0⟩ = some (.int .i64 0) := rfl
    show cellsDen _ [.s (.int .u8) (.lit (.int .u8 0)), .s .float (.var (Nat.add i 1)), .s .str (.lit (.string ⟨#[]⟩)), .s (.int .i64) (.lit (.int .i64 0))] = _
    simp only [cellsDen, e0, e1, e2, e3, Option.bind_some, Option.map_some]

theorem boolC_den {Y : Ext} {us : List Value} {i : Nat} {x : Value} (hx : us[i]? = some x) (hs : Srt.bool.has x = true) (is : Bool) (hz : is = false → x = .bool false) : (Tr.boolC is i).den ⟨Y, [], us, [], fun _ => 0⟩ = some x := by
  cases is with
  | true => exact den_s.2 ⟨hx, hs⟩
  | false => rw [hz rfl]; rfl

/-- What is called, as an expression. -/
theorem called_den {us pre ws post : List Value} {i : Nat} (hu : us = pre ++ (ws ++ post)) (hi : pre.length = i) (h : HasAll Tr.vS ws) : (Tr.calledE i).den X5 us = (Tr.f64 Tryz.prog X).val ws := by
  have := part_den (Y := X5) (f := 64) hu hi (len4 h)
  rw [X564, ← len4 h, unpack_pack] at this
  rw [len4 h] at this
  exact this

theorem calls_den {us pre ws post : List Value} {i : Nat} (hu : us = pre ++ (ws ++ post)) (hi : pre.length = i) (h : HasAll Tr.vS ws) : (Tr.callsE i).den X5 us = (Tr.f72 Tryz.prog X).val ws := by
  have := part_den (Y := X5) (f := 72) hu hi (len4 h)
  rw [X572, ← len4 h, unpack_pack] at this
  rw [len4 h] at this
  exact this

theorem call_facts (w : World) {us pre ws post : List Value} {i : Nat} (hu : us = pre ++ (ws ++ post)) (hi : pre.length = i) (h : HasAll Tr.vS ws) (hg : ∀ v ∈ ws, Good v) : ∀ e ∈ Tr.callFacts i, e.den X5 us = some (.bool true) := by
  obtain ⟨u, hb, hs⟩ := PFn.total ok64 w (fits1 h)
  obtain ⟨b, rfl⟩ := has_bool hs
  have hc : (Tr.calledE i).den X5 us = some (.bool b) := by rw [called_den hu hi h]; exact hb
  have may : b = true → (Tr.f30 Tryz.prog X).val ws = some (.bool true) := by
    rintro rfl; exact called_may w h hb
  intro e he
  simp only [Tr.callFacts, List.mem_cons, List.not_mem_nil, or_false] at he
  rcases he with rfl | rfl | rfl
  · exact imp_den hc fun hb => by rw [mayE_den X5_ok hu hi h]; exact may hb
  · refine imp_den hc fun hb => ?_
    obtain ⟨c, e1, d, e2, e3⟩ := may_self w h hg
    rw [may hb] at e1
    cases e1
    rw [selfE_den X5_ok hu hi h, e2, e3 rfl]
  · refine imp_den hc fun hbt => ?_
    subst hbt
    obtain ⟨c, e1, e2⟩ := called_calls w h hb
    obtain ⟨k, n, t, r, rfl⟩ := val_parts h
    have g0 := get_mid (j := 0) hu hi (by simp)
    have hk : (Tr.kindZ i).den X5 us = some (.bool (k == 0)) := den_bin.2 ⟨_, _, g0, rfl, rfl⟩
    have hn : (E.not (Tr.kindZ i)).den X5 us = some (.bool (!(k == 0))) := by
      simp only [E.den, hk, Option.bind_some, notV]
    refine imp_den hn fun hnk => ?_
    rw [calls_den hu hi h, e1]
    rcases e2 with rfl | e2
    · rfl
    · have e3 : (Tr.kindZ 0).den (Tr.C2 Tryz.prog X).X [.int .u8 k, .float .f64 n, .string t, .int .i64 r] = some (.bool (k == 0)) := den_bin.2 ⟨_, _, rfl, rfl, rfl⟩
      rw [e3] at e2
      have : (k == 0) = true := by simpa using e2
      rw [this] at hnk
      cases hnk

theorem zg_mem {n : Nat} : (Tr.hasBit n 1 = false → ∀ p ∈ zg 1, p ∈ zeroGoals n) ∧ (Tr.hasBit n 4 = false → ∀ p ∈ zg 5, p ∈ zeroGoals n) ∧ (Tr.hasBit n 8 = false → ∀ p ∈ zg 9, p ∈ zeroGoals n) ∧
    (Tr.hasBit n 2 = false → (E.var 13, false) ∈ zeroGoals n) ∧ (Tr.hasBit n 16 = false → (E.var 14, false) ∈ zeroGoals n) ∧ (Tr.hasBit n 32 = false → (E.var 15, false) ∈ zeroGoals n) := by
  unfold zeroGoals
  simp only [appL_eq]
  refine ⟨fun h p hp => ?_, fun h p hp => ?_, fun h p hp => ?_, fun h => ?_, fun h => ?_, fun h => ?_⟩ <;> simp only [h, cond_false, List.mem_append, List.mem_singleton]
  · exact .inl hp
  · exact .inr (.inl hp)
  · exact .inr (.inr (.inl hp))
  · simp
  · simp
  · simp

/-- What the cells of a descriptor are, that may be and has just 'm'. -/
structure Lacks (m : Nat) (v g s : List Value) (x y z : Value) : Prop where
  v : Tr.hasBit m 1 = false → ∃ b, v = [.int .u8 0, .float .f64 b, .string ⟨#[]⟩, .int .i64 0] ∧ binV .eql (.float .f64 b) (.float .f64 0) = some (.bool true)
  g : Tr.hasBit m 4 = false → ∃ b, g = [.int .u8 0, .float .f64 b, .string ⟨#[]⟩, .int .i64 0] ∧ binV .eql (.float .f64 b) (.float .f64 0) = some (.bool true)
  s : Tr.hasBit m 8 = false → ∃ b, s = [.int .u8 0, .float .f64 b, .string ⟨#[]⟩, .int .i64 0] ∧ binV .eql (.float .f64 b) (.float .f64 0) = some (.bool true)
  x : Tr.hasBit m 2 = false → x = .bool false
  y : Tr.hasBit m 16 = false → y = .bool false
  z : Tr.hasBit m 32 = false → z = .bool false

theorem lacks_of {m : Nat} {v g s : List Value} {x y z : Value} (hv : HasAll Tr.vS v) (hg : HasAll Tr.vS g) (hs : HasAll Tr.vS s)
    (h : FactsOk (Tr.C2' Tryz.prog X).X (.int .u8 (Int.ofNat m) :: (v ++ (g ++ (s ++ [x, y, z])))) (zeroGoals m)) : Lacks m v g s x y z := by
  obtain ⟨m1, m2, m3, m4, m5, m6⟩ := zg_mem (n := m)
  have lv := len4 hv
  have lg := len4 hg
  have ls := len4 hs
  have var : ∀ {i : Nat} {u : Value}, (.int .u8 (Int.ofNat m) :: (v ++ (g ++ (s ++ [x, y, z]))) : List Value)[i]? = some u → (E.var i, false) ∈ zeroGoals m → u = .bool false := by
    intro i u hi hm
    have := h _ hm
    have this : (.int .u8 (Int.ofNat m) :: (v ++ (g ++ (s ++ [x, y, z]))) : List Value)[i]? = some (.bool false) := this
    rw [hi] at this
    exact Option.some.inj this
  have e : (.int .u8 (Int.ofNat m) :: (v ++ (g ++ (s ++ [x, y, z]))) : List Value) = (.int .u8 (Int.ofNat m) :: (v ++ (g ++ s))) ++ [x, y, z] := by simp
  have l13 : (.int .u8 (Int.ofNat m) :: (v ++ (g ++ s)) : List Value).length = 13 := by simp [lv, lg, ls]
  have at3 : ∀ j : Nat, (.int .u8 (Int.ofNat m) :: (v ++ (g ++ (s ++ [x, y, z]))) : List Value)[13 + j]? = ([x, y, z] : List Value)[j]? := by
    intro j
    rw [e, ← l13, List.getElem?_append_right (by omega)]
    congr 1
    omega
  refine ⟨fun hb => ?_, fun hb => ?_, fun hb => ?_, fun hb => ?_, fun hb => ?_, fun hb => ?_⟩
  · exact zero4 (pre := [.int .u8 (Int.ofNat m)]) (post := g ++ (s ++ [x, y, z])) rfl rfl hv (fun p hp => h p (m1 hb p hp))
  · exact zero4 (pre := .int .u8 (Int.ofNat m) :: v) (post := s ++ [x, y, z]) (by simp) (by simp [lv]) hg (fun p hp => h p (m2 hb p hp))
  · exact zero4 (pre := .int .u8 (Int.ofNat m) :: (v ++ g)) (post := [x, y, z]) (by simp) (by simp [lv, lg]) hs (fun p hp => h p (m3 hb p hp))
  · exact var (at3 0) (m4 hb)
  · exact var (at3 1) (m5 hb)
  · exact var (at3 2) (m6 hb)

/-- What is given of the told descriptor holds. -/
theorem own_facts (w : World) {m : Nat} {us pre v g s nw : List Value} {x y z d0 : Value} (hu : us = pre ++ (d0 :: (v ++ (g ++ (s ++ ([x, y, z] ++ nw)))))) (hp : pre.length = 3) (hv : HasAll Tr.vS v) (hg : HasAll Tr.vS g) (hs : HasAll Tr.vS s)
    (gv : ∀ u ∈ v, Good u) (gg : ∀ u ∈ g, Good u) (gs : ∀ u ∈ s, Good u) (hl : Lacks m v g s x y z) {e f : Value} {n : List Value} (hn : nw = e :: f :: n) (hd : HasAll Tr.dS n) (gn : ∀ u ∈ n, Good u) :
    ∀ e ∈ Tr.ownFacts m, e.den X5 us = some (.bool true) := by
  have lv := len4 hv
  have lg := len4 hg
  have ls := len4 hs
  have uv : us = (pre ++ [d0]) ++ (v ++ (g ++ (s ++ ([x, y, z] ++ nw)))) := by rw [hu]; simp
  have ug : us = (pre ++ (d0 :: v)) ++ (g ++ (s ++ ([x, y, z] ++ nw))) := by rw [hu]; simp
  have us' : us = (pre ++ (d0 :: (v ++ g))) ++ (s ++ ([x, y, z] ++ nw)) := by rw [hu]; simp
  have un : us = (pre ++ (d0 :: (v ++ (g ++ (s ++ [x, y, z, e, f]))))) ++ (n ++ []) := by rw [hu, hn]; simp
  have iv : (pre ++ [d0]).length = 4 := by simp [hp]
  have ig : (pre ++ (d0 :: v)).length = 8 := by simp [hp, lv]
  have is : (pre ++ (d0 :: (v ++ g))).length = 12 := by simp [hp, lv, lg]
  have inn : (pre ++ (d0 :: (v ++ (g ++ (s ++ [x, y, z, e, f]))))).length = 21 := by simp [hp, lv, lg, ls]
  have num : ∀ {i : Nat} {pre ws post : List Value}, us = pre ++ (ws ++ post) → pre.length = i → (∃ b, ws = [.int .u8 0, .float .f64 b, .string ⟨#[]⟩, .int .i64 0] ∧ binV .eql (.float .f64 b) (.float .f64 0) = some (.bool true)) →
      (Tr.numZ (i + 1)).den X5 us = some (.bool true) := by
    rintro i pre ws post h1 h2 ⟨b, rfl, hb⟩
    exact den_bin.2 ⟨_, _, get_mid (j := 1) h1 h2 (by simp), rfl, hb⟩
  intro e' he
  simp only [Tr.ownFacts, appL_eq, List.mem_append] at he
  rcases he with he | he | he | he
  · cases hb : Tr.hasBit m 1 with
    | true => rw [hb] at he; exact value_facts X5_ok w uv iv hv gv e' he
    | false =>
      rw [hb] at he
      simp only [cond_false, List.mem_singleton] at he
      subst he
      exact num uv iv (hl.v hb)
  · cases hb : Tr.hasBit m 4 with
    | true => rw [hb] at he; exact call_facts w ug ig hg gg e' he
    | false =>
      rw [hb] at he
      simp only [cond_false, List.mem_singleton] at he
      subst he
      exact num ug ig (hl.g hb)
  · cases hb : Tr.hasBit m 8 with
    | true => rw [hb] at he; exact call_facts w us' is hs gs e' he
    | false =>
      rw [hb] at he
      simp only [cond_false, List.mem_singleton] at he
      subst he
      exact num us' is (hl.s hb)
  · exact desc_facts X5_ok w un inn hd gn e' he

/-- The told descriptor's cells. -/
theorem descC_den {Y : Ext} {m : Nat} {us pre v g s post : List Value} {x y z : Value} (hu : us = pre ++ (.int .u8 (Int.ofNat m) :: (v ++ (g ++ (s ++ ([x, y, z] ++ post)))))) (hp : pre.length = 3) (hv : HasAll Tr.vS v) (hg : HasAll Tr.vS g) (hs : HasAll Tr.vS s)
    (hx : Srt.bool.has x = true) (hy : Srt.bool.has y = true) (hz : Srt.bool.has z = true) (hl : Lacks m v g s x y z) :
    cellsDen ⟨Y, [], us, [], fun _ => 0⟩ (Tr.descC m 3) = some (.int .u8 (Int.ofNat m) :: (v ++ (g ++ (s ++ [x, y, z])))) := by
  have lv := len4 hv
  have lg := len4 hg
  have ls := len4 hs
  have uv : us = (pre ++ [.int .u8 (Int.ofNat m)]) ++ (v ++ (g ++ (s ++ ([x, y, z] ++ post)))) := by rw [hu]; simp
  have ug : us = (pre ++ (.int .u8 (Int.ofNat m) :: v)) ++ (g ++ (s ++ ([x, y, z] ++ post))) := by rw [hu]; simp
  have us' : us = (pre ++ (.int .u8 (Int.ofNat m) :: (v ++ g))) ++ (s ++ ([x, y, z] ++ post)) := by rw [hu]; simp
  have u3 : us = (pre ++ (.int .u8 (Int.ofNat m) :: (v ++ (g ++ s)))) ++ ([x, y, z] ++ post) := by rw [hu]; simp
  have iv : (pre ++ [Value.int .u8 (Int.ofNat m)]).length = 4 := by simp [hp]
  have ig : (pre ++ (Value.int .u8 (Int.ofNat m) :: v)).length = 8 := by simp [hp, lv]
  have is : (pre ++ (Value.int .u8 (Int.ofNat m) :: (v ++ g))).length = 12 := by simp [hp, lv, lg]
  have i3 : (pre ++ (Value.int .u8 (Int.ofNat m) :: (v ++ (g ++ s)))).length = 16 := by simp [hp, lv, lg, ls]
  have dv := valC_den (Y := Y) uv iv hv (Tr.hasBit m 1) (fun hb => by obtain ⟨b, h, _⟩ := hl.v hb; exact ⟨b, h⟩)
  have dg := valC_den (Y := Y) ug ig hg (Tr.hasBit m 4) (fun hb => by obtain ⟨b, h, _⟩ := hl.g hb; exact ⟨b, h⟩)
  have ds := valC_den (Y := Y) us' is hs (Tr.hasBit m 8) (fun hb => by obtain ⟨b, h, _⟩ := hl.s hb; exact ⟨b, h⟩)
  have dx := boolC_den (Y := Y) (i := 16) (get_mid (j := 0) u3 i3 (by simp)) hx (Tr.hasBit m 2) hl.x
  have dy := boolC_den (Y := Y) (i := 17) (get_mid (j := 1) u3 i3 (by simp)) hy (Tr.hasBit m 16) hl.y
  have dz := boolC_den (Y := Y) (i := 18) (get_mid (j := 2) u3 i3 (by simp)) hz (Tr.hasBit m 32) hl.z
  have d3 : cellsDen ⟨Y, [], us, [], fun _ => 0⟩ [Tr.boolC (Tr.hasBit m 2) 16, Tr.boolC (Tr.hasBit m 16) 17, Tr.boolC (Tr.hasBit m 32) 18] = some [x, y, z] := by
    simp only [cellsDen, dx, dy, dz, Option.bind_some, Option.map_some]
  have d0 : (Cell.s (.int .u8) (.lit (.int .u8 (Int.ofNat m)))).den ⟨Y, [], us, [], fun _ => 0⟩ = some (.int .u8 (Int.ofNat m)) := rfl
  show cellsDen _ (.s (.int .u8) (.lit (.int .u8 (Int.ofNat m))) :: appL (Tr.valC (Tr.hasBit m 1) 4) (appL (Tr.valC (Tr.hasBit m 4) 8) (appL (Tr.valC (Tr.hasBit m 8) 12) [Tr.boolC (Tr.hasBit m 2) 16, Tr.boolC (Tr.hasBit m 16) 17, Tr.boolC (Tr.hasBit m 32) 18]))) = _
  simp only [appL_eq, cellsDen, d0, Option.bind_some]
  rw [cellsDen_append dv (cellsDen_append dg (cellsDen_append ds d3))]
  rfl

end Go.Proofs.YtlfhlipdjjhldaaGreatDoor
