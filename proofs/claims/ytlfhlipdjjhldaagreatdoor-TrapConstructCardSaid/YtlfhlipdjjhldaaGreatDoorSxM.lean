/- A symbolic executor for the model's code: append; results. Conditions: none beyond those of the parts before. -/
import Derived.Test.YtlfhlipdjjhldaaGreatDoorSxL
namespace Go.SX

section
variable {S : Nat → Prop} {B : World} {C : Cfg} {Γ : Env} {st st' : St} {w w' : World} {a : Act}

/-- A slice that has grown: its block has a new name, and its room is a new number. -/
theorem MRel.grow {h : T Blk} {cells : List Cell} {esz : Nat} (hM : MRel S B C Γ st w) (hg : growA st h cells esz = some st') (hsub : ∀ id b, h.get id = some b → st.heap.get id = some b)
    {blk c : Nat} {arr : Array Value} {e : TypeId} {vs : List Value} (hv : cellsDen Γ cells = some vs) (hb : w'.heap[blk]? = some (.cells arr e (0, 0))) (hp : vs <+: arr.toList) (hs : arr.size = c * esz)
    (hold : ∀ (id : Nat) (b : Blk) (a' : Nat), h.get id = some b → Γ.σ[id]? = some a' → a' ≠ blk ∧ w'.heap[a']? = w.heap[a']?)
    (hfr : Fr S B w') (hmine : (B.heap.size ≤ blk ∨ S blk) ∧ blk < w'.heap.size) (hsize : w.heap.size ≤ w'.heap.size)
    (hkeep : ∀ k, k < w.heap.size → (∀ i : Nat, Γ.σ[i]? ≠ some k) → w'.heap[k]? = w.heap[k]?) (hname : (∃ j : Nat, Γ.σ[j]? = some blk) ∨ w.heap.size ≤ blk) :
    MRel S B C ((Γ.addN c).addBlk blk) st' w' ∧ Later Γ w ((Γ.addN c).addBlk blk) w' ∧ ((Γ.addN c).addBlk blk).σ[st.nh]? = some blk ∧ ((Γ.addN c).addBlk blk).ns[st.nn]? = some c ∧
      st'.tmps = st.tmps ∧ st'.ntm = st.ntm := by
  obtain ⟨tmps, ntm, heap, nh, nv, nn, facts⟩ := st
  simp only [growA] at hg
  split at hg
  case isFalse => cases hg
  rename_i hr
  cases hg
  have hroom := Nat.le_of_ble_eq_true hr
  have hlen : Γ.σ.length = nh := hM.lenσ
  have hlenn : Γ.ns.length = nn := hM.lenn
  have hget : ∀ id, (h.put nh (some ⟨cells, .var nn, esz⟩)).get id = if id = nh then some ⟨cells, .var nn, esz⟩ else h.get id := fun id => T.get_put h nh _ id hroom
  have hnew : ((Γ.addN c).addBlk blk).σ[nh]? = some blk := by
    show (Γ.σ ++ [blk])[nh]? = _
    rw [List.getElem?_append_right (by omega), hlen]; simp
  have hnn : ((Γ.addN c).addBlk blk).ns[nn]? = some c := by
    show (Γ.ns ++ [c])[nn]? = _
    rw [List.getElem?_append_right (by omega), hlenn]; simp
  have hcase : ∀ (i a : Nat), ((Γ.addN c).addBlk blk).σ[i]? = some a → (Γ.σ[i]? = some a ∧ i < nh) ∨ (i = nh ∧ a = blk) := by
    intro i a hi
    have hi : (Γ.σ ++ [blk])[i]? = some a := hi
    by_cases hlt : i < Γ.σ.length
    · rw [List.getElem?_append_left hlt] at hi; exact .inl ⟨hi, by omega⟩
    · rw [List.getElem?_append_right (by omega)] at hi
      right
      have : i - Γ.σ.length = 0 := by
        by_cases h0 : i - Γ.σ.length = 0
        · exact h0
        · rw [List.getElem?_eq_none (by simp; omega)] at hi; cases hi
      rw [this] at hi
      simp at hi
      exact ⟨by omega, hi.symm⟩
  have hle : Γ.le ((Γ.addN c).addBlk blk) := (Env.le_addN Γ c).trans (Env.le_addBlk _ _)
  have hbase : ∀ i, nh ≤ i → Γ.β i = 0 := hM.base
  refine ⟨⟨hM.X, ?_, hM.lenv, ?_, by show Nat.add nh 1 ≤ _; simp; omega, ?_, ?_, ?_, hfr, ?_, fun i hi => hbase i (Nat.le_of_succ_le hi)⟩, ⟨hle, hsize, hkeep, ?_⟩, hnew, hnn, rfl, rfl⟩
  · show (Γ.σ ++ [blk]).length = Nat.add nh 1
    simp [hlen]
  · show (Γ.ns ++ [c]).length = Nat.add nn 1
    simp [hlenn]
  · intro id b hb0
    have hb1 : (h.put nh (some ⟨cells, .var nn, esz⟩)).get id = some b := hb0
    clear hb0
    rw [hget] at hb1
    split at hb1
    · rename_i hid
      subst hid
      cases hb1
      refine ⟨blk, hnew, arr, e, vs, c, (0, 0), hb, cellsDen_mono hle hv, ?_, hnn, .inr ⟨rfl, hbase id (Nat.le_refl _), hs⟩⟩
      show vs <+: arr.toList.drop (Γ.β id)
      rw [hbase id (Nat.le_refl _)]; exact hp
    · obtain ⟨a', ha', hb'⟩ := hM.live id b (hsub id b hb1)
      exact ⟨a', prefix_get hle.σ ha', hb'.mono hle (hold id b a' hb1 ha').2⟩
  · intro i j x hi hj hli0 hlj0
    have hli : ((h.put nh (some ⟨cells, .var nn, esz⟩)).get i).isSome = true := hli0
    have hlj : ((h.put nh (some ⟨cells, .var nn, esz⟩)).get j).isSome = true := hlj0
    rw [hget] at hli hlj
    rcases hcase i x hi with ⟨hi', hin⟩ | ⟨hi1, hi2⟩
    · rw [if_neg (by omega)] at hli
      obtain ⟨b, hb'⟩ := Option.isSome_iff_exists.1 hli
      rcases hcase j x hj with ⟨hj', hjn⟩ | ⟨hj1, hj2⟩
      · rw [if_neg (by omega)] at hlj
        obtain ⟨b2, hb2⟩ := Option.isSome_iff_exists.1 hlj
        exact hM.inj i j x hi' hj' (by rw [hsub i b hb']; rfl) (by rw [hsub j b2 hb2]; rfl)
      · exact absurd hj2 (hold i b x hb' hi').1
    · rcases hcase j x hj with ⟨hj', hjn⟩ | ⟨hj1, hj2⟩
      · rw [if_neg (by omega)] at hlj
        obtain ⟨b2, hb2⟩ := Option.isSome_iff_exists.1 hlj
        exact absurd hi2 (hold j b2 x hb2 hj').1
      · omega
  · intro i x hi
    rcases hcase i x hi with ⟨hi, hin⟩ | ⟨_, rfl⟩
    · refine ⟨fun b hb hz => (hM.mine i x hi).1 b (hsub i b ?_) hz, Nat.lt_of_lt_of_le (hM.mine i x hi).2 hsize⟩
      have hb : (h.put nh (some ⟨cells, .var nn, esz⟩)).get i = some b := hb
      rwa [hget, if_neg (by omega)] at hb
    · exact ⟨fun _ _ _ => hmine.1, hmine.2⟩
  · intro p hp; exact E.den_mono (List.prefix_refl _) (hM.facts p hp)
  · intro i x hi
    rcases hcase i x hi with ⟨hi, _⟩ | ⟨_, rfl⟩
    · exact .inl ⟨i, hi⟩
    · exact hname

/-- What append comes to. -/
def AppOk (S : Nat → Prop) (B : World) (C : Cfg) (Γ : Env) (st : St) (w : World) (x : AV) (r : Value → World → Prop) : App → Prop
  | .same v => v = x ∧ ∀ xv, x.den Γ = some xv → r xv w
  | .inPlace v h => ∃ u w', v.den Γ = some u ∧ r u w' ∧ MRel S B C Γ (setHeap st h) w' ∧ Later Γ w Γ w'
  | .grow need esz cells h => ∀ st', growA st h cells esz = some st' → ∃ c Γ' u w', need ≤ c ∧ Γ'.vs = Γ.vs ∧ Γ'.ns = Γ.ns ++ [c] ∧ r u w' ∧ MRel S B C Γ' st' w' ∧ Later Γ w Γ' w' ∧
      (AV.one (.slice st.nh 0 need (.var st.nn))).den Γ' = some u ∧ st'.tmps = st.tmps ∧ st'.ntm = st.ntm

theorem storeA_some {h h' : T Blk} {id off : Nat} {new : List Cell} (hs : storeA h id off new = some h') : ∃ b, h.get id = some b := by
  unfold storeA at hs
  cases hb : h.get id with
  | none => rw [hb] at hs; cases hs
  | some b => exact ⟨b, rfl⟩

theorem grow_fits {bytes need old : Nat} (hby : bytes < 1048576) (h1 : old < need) (h2 : need ≤ 1048576) : Builtin.nextslicecap need old * bytes ≤ 281474976710656 := by
  refine growslice_fits h1 ?_
  have := Nat.mul_le_mul h2 (Nat.le_of_lt hby)
  omega

/-- A slice that has grown into a new block. -/
theorem grow_new {h : T Blk} {cells : List Cell} {need old esz : Nat} (hM : MRel S B C Γ st w) (hg : growA st h cells esz = some st') (hsub : ∀ id b, h.get id = some b → st.heap.get id = some b)
    {vs : List Value} (hv : cellsDen Γ cells = some vs) {z : Array Value} (hz : z.size = esz) (hl : vs.length = need * esz) {arr0 : Array Value} (ha : arr0.toList = vs) (e : TypeId) :
    MRel S B C ((Γ.addN (grownCap w need old e)).addBlk w.heap.size) st' (w.drew.alloc (.cells (arr0 ++ Builtin.zeroCells z (grownCap w need old e - need)) e)) ∧
    Later Γ w ((Γ.addN (grownCap w need old e)).addBlk w.heap.size) (w.drew.alloc (.cells (arr0 ++ Builtin.zeroCells z (grownCap w need old e - need)) e)) ∧
    (AV.one (.slice st.nh 0 need (.var st.nn))).den ((Γ.addN (grownCap w need old e)).addBlk w.heap.size) = some (.slice (some ⟨w.heap.size, 0, none⟩) need (grownCap w need old e)) ∧
    st'.tmps = st.tmps ∧ st'.ntm = st.ntm := by
  have hge := grownCap_ge w need old e
  have hsize : arr0.size = need * esz := by rw [← hl, ← ha]; simp
  obtain ⟨m1, m2, m3, m4, m5, m6⟩ := hM.grow (w' := w.drew.alloc (.cells (arr0 ++ Builtin.zeroCells z (grownCap w need old e - need)) e)) (blk := w.heap.size) (c := grownCap w need old e)
    (arr := arr0 ++ Builtin.zeroCells z (grownCap w need old e - need)) (e := e) hg hsub hv (by rw [show w.heap.size = w.drew.heap.size from rfl, heap_alloc_new])
    ⟨(Builtin.zeroCells z (grownCap w need old e - need)).toList, by simp [ha]⟩
    (by rw [Array.size_append, size_zeroCells, hz, hsize, ← Nat.add_mul]; congr 1; omega)
    (fun id b a' hb ha' => ⟨by have := (hM.mine id a' ha').2; omega, heap_alloc_old _ _ (hM.mine id a' ha').2⟩)
    (hM.fr.drew.alloc _) ⟨.inl hM.fr.size, by simp⟩ (by simp) (fun k hk _ => heap_alloc_old _ _ hk) (.inr (Nat.le_refl _))
  have hb0 : ((Γ.addN (grownCap w need old e)).addBlk w.heap.size).β st.nh = 0 := hM.base _ (Nat.le_refl _)
  exact ⟨m1, m2, by simp [AV.den_one, Cell.den, m3, N.den, m4, sliceDen, hge, hb0], m5, m6⟩

/-- What is known of an append's parts. -/
structure Appends (C : Cfg) (Γ : Env) (w : World) (t e : Nat) (infoe : TypeInfo) (zv : Value) (n : Nat) (new : List Cell) (nv : List Value) (yba : Addr) (yc : Nat) : Prop where
  ht : C.P.underlying t = some (.slice e)
  hi : C.P.info? e = some infoe
  hz : infoe.zero = some zv
  hzs : zv.cells.size = infoe.size
  hby : infoe.bytes < 1048576
  hnv : cellsDen Γ new = some nv
  hnl : nv.length = n * infoe.size
  hone : ∀ u ∈ nv, u.oneCell' = true
  hn0 : n ≠ 0
  hyc : ∀ j u, nv[j]? = some u → w.cell? (yba.add j) = some u

theorem append_nil_sound (hM : MRel S B C Γ st w) {t e n : Nat} {infoe : TypeInfo} {zv : Value} {new : List Cell} {nv : List Value} {yba : Addr} {yc : Nat} (A : Appends C Γ w t e infoe zv n new nv yba yc)
    (hm : n ≤ 1048576) {ty : TypeId} (x : AV) :
    AppOk S B C Γ st w x (fun u w' => (Builtin.append_ #[t, t] ty #[.slice none 0 0, .slice (some yba) n yc]).run C.P w = .ok u w') (.grow n infoe.size new st.heap) := by
  have hn0 := A.hn0
  intro st' hg
  have hrun := run_append_nil (P := C.P) w t ty e infoe zv A.ht A.hi A.hz yba n yc nv A.hnl A.hyc (by omega) (by omega) (by
    have := grow_fits (need := n) (old := 0) A.hby (by omega) hm
    rwa [nextslicecap_zero (by omega)] at this)
  obtain ⟨m1, m2, m3, m4, m5⟩ := grow_new (old := 0) (z := zv.cells) hM hg (fun _ _ h => h) A.hnv A.hzs A.hnl (arr0 := nv.toArray) (by simp) e
  exact ⟨grownCap w n 0 e, (Γ.addN (grownCap w n 0 e)).addBlk w.heap.size, _, _, grownCap_ge w n 0 e, rfl, rfl, hrun, m1, m2, m3, m4, m5⟩

theorem append_in_sound (hM : MRel S B C Γ st w) {t e n : Nat} {infoe : TypeInfo} {zv : Value} {new : List Cell} {nv : List Value} {yba : Addr} {yc : Nat} (A : Appends C Γ w t e infoe zv n new nv yba yc)
    {id off len c b : Nat} {h' : T Blk} (hs : storeA st.heap id (off + len * infoe.size) new = some h') (hb : Γ.σ[id]? = some b) (hroom : len + n ≤ c) {ty : TypeId} (x : AV) :
    AppOk S B C Γ st w x (fun u w' => (Builtin.append_ #[t, t] ty #[.slice (some ⟨b, Γ.β id + off, none⟩) len c, .slice (some yba) n yc]).run C.P w = .ok u w') (.inPlace (.one (.slice id off (len + n) (.lit c))) h') := by
  obtain ⟨a, arr, ee, ha, h1, h2, h3, h4⟩ := hM.store hs A.hnv
  obtain rfl : b = a := by rw [hb] at ha; exact Option.some.inj ha
  have hrun := run_append_in (P := C.P) w t ty e infoe A.ht A.hi b (Γ.β id + off) len c arr ee h1 yba n yc nv A.hnl A.hyc A.hone hroom (by rw [Nat.add_assoc] at h2 ⊢; simpa [Nat.add_assoc] using h2)
  rw [Nat.add_assoc (Γ.β id)] at hrun
  refine ⟨_, _, ?_, hrun, h3, h4⟩
  simp [AV.den_one, Cell.den, hb, N.den, sliceDen, hroom]

theorem append_out_sound (hM : MRel S B C Γ st w) {t e n : Nat} {infoe : TypeInfo} {zv : Value} {new : List Cell} {nv : List Value} {yba : Addr} {yc : Nat} (A : Appends C Γ w t e infoe zv n new nv yba yc)
    {b off len c : Nat} {old : List Cell} {ov : List Value} (ho1 : cellsDen Γ old = some ov) (ho2 : ov.length = len * infoe.size) (ho3 : ∀ j v, ov[j]? = some v → w.cell? ⟨b, off + j, none⟩ = some v)
    {h : T Blk} (hsub : ∀ id b, h.get id = some b → st.heap.get id = some b) (hroom : c < len + n) (hm : len + n ≤ 1048576) {ty : TypeId} (x : AV) :
    AppOk S B C Γ st w x (fun u w' => (Builtin.append_ #[t, t] ty #[.slice (some ⟨b, off, none⟩) len c, .slice (some yba) n yc]).run C.P w = .ok u w') (.grow (len + n) infoe.size (appL old new) h) := by
  intro st' hg
  have hrun := run_append_grow (P := C.P) w t ty e infoe zv A.ht A.hi A.hz ⟨b, off, none⟩ len c ov ho2 (fun j v hv => by rw [addr_add]; exact ho3 j v hv) yba n yc nv A.hnl A.hyc hroom (by omega) (grow_fits A.hby hroom hm)
  obtain ⟨m1, m2, m3, m4, m5⟩ := grow_new (old := c) (need := len + n) (z := zv.cells) hM hg hsub (by rw [appL_eq]; exact cellsDen_append ho1 A.hnv) A.hzs (by simp [ho2, A.hnl, Nat.add_mul]) (arr0 := ov.toArray ++ nv.toArray) (by simp) e
  exact ⟨grownCap w (len + n) c e, (Γ.addN (grownCap w (len + n) c e)).addBlk w.heap.size, _, _, grownCap_ge w (len + n) c e, rfl, rfl, hrun, m1, m2, m3, m4, m5⟩

theorem append_var_sound (hM : MRel S B C Γ st w) {t e n : Nat} {infoe : TypeInfo} {zv : Value} {new : List Cell} {nv : List Value} {yba : Addr} {yc : Nat} (A : Appends C Γ w t e infoe zv n new nv yba yc)
    {id len b c i : Nat} {blk : Blk} (hsz0 : infoe.size ≠ 0) (hblk : st.heap.get id = some blk) (htot : blk.tot = .var i) (hb : Γ.σ[id]? = some b) (hc : Γ.ns[i]? = some c) (c3 : blk.esz = infoe.size)
    (c4 : blk.cells.length = len * infoe.size) (hm : len + n ≤ 1048576) {ty : TypeId} (x : AV) :
    AppOk S B C Γ st w x (fun u w' => (Builtin.append_ #[t, t] ty #[.slice (some ⟨b, Γ.β id + 0, none⟩) len c, .slice (some yba) n yc]).run C.P w = .ok u w') (.grow (len + n) infoe.size (appL blk.cells new) (st.heap.put id none)) := by
  have hbase : ∀ i, st.nh ≤ i → Γ.β i = 0 := hM.base
  obtain ⟨a, ha, arr, ee, ov, m, fr, h1, h2, h3, h4, h5⟩ := hM.live id blk hblk
  have hez : blk.esz ≠ 0 := by rw [c3]; exact hsz0
  obtain ⟨rfl, h0, h6⟩ := h5.resolve_left hez
  clear h5
  have h5 := h6
  rw [h0] at h3 ⊢
  rw [List.drop_zero] at h3
  obtain rfl : b = a := by rw [hb] at ha; exact Option.some.inj ha
  obtain rfl : c = m := by
    rw [htot] at h4
    have h4 : Γ.ns[i]? = some m := h4
    rw [hc] at h4
    exact Option.some.inj h4
  have ho2 : ov.length = len * infoe.size := by have := cellsDen_length h2; omega
  have hidroom : id ≤ room := by
    have h6 := (List.getElem?_eq_some_iff.1 hb).1
    have h7 := hM.lenσ
    have h8 := hM.roomy
    omega
  have hsub : ∀ k y, (st.heap.put id none).get k = some y → st.heap.get k = some y ∧ k ≠ id := by
    intro k y hk
    rw [T.get_put _ _ _ _ hidroom] at hk
    split at hk
    · cases hk
    · rename_i hne; exact ⟨hk, hne⟩
  by_cases hroom : len + n ≤ c
  · intro st' hg
    have hfit : len * infoe.size + nv.length ≤ arr.size := by
      rw [h5, c3, A.hnl, ← Nat.add_mul]
      exact Nat.mul_le_mul_right _ hroom
    have hrun := run_append_in (P := C.P) w t ty e infoe A.ht A.hi b 0 len c arr ee h1 yba n yc nv A.hnl A.hyc A.hone hroom (by simpa using hfit)
    simp only [Nat.zero_add] at hrun
    have hpre : arr.toList.take (len * infoe.size) = ov := by
      obtain ⟨sl, hsl⟩ := h3
      rw [← hsl, List.take_append_of_le_length (by omega), ← ho2, List.take_length]
    have hal := hM.mine id b hb
    obtain ⟨m1, m2, m3, m4, m5, m6⟩ := hM.grow (w' := w.setRow b (arr.toList.take (len * infoe.size) ++ nv ++ arr.toList.drop (len * infoe.size + nv.length)).toArray) (blk := b) (c := c) (vs := ov ++ nv) (e := ee) hg
      (fun k y hk => (hsub k y hk).1) (by rw [appL_eq]; exact cellsDen_append h2 A.hnv) (setRow_heap w b arr _ ee (0, 0) h1) (by rw [hpre]; exact ⟨arr.toList.drop (len * infoe.size + nv.length), by simp⟩)
      (by
        have h5' : arr.size = c * infoe.size := by rw [h5, c3]
        rw [← h5']
        simp only [List.size_toArray, List.length_append, List.length_take, List.length_drop, Array.length_toList]
        omega)
      (fun k y a' hk ha' => by
        have hne : a' ≠ b := by
          rintro rfl
          exact (hsub k y hk).2 (hM.inj k id a' ha' hb (by rw [(hsub k y hk).1]; rfl) (by rw [hblk]; rfl))
        exact ⟨hne, setRow_other w b a' _ hne⟩)
      (hM.fr.setRow (hal.1 blk hblk hez) _) ⟨hal.1 blk hblk hez, by simpa using hal.2⟩ (by simp) (fun k hk hn => setRow_other w b k _ (by rintro rfl; exact hn id hb)) (.inl ⟨id, hb⟩)
    refine ⟨c, (Γ.addN c).addBlk b, _, _, hroom, rfl, rfl, hrun, m1, m2, ?_, m5, m6⟩
    have hb0 : ((Γ.addN c).addBlk b).β st.nh = 0 := hbase _ (Nat.le_refl _)
    simp [AV.den_one, Cell.den, m3, N.den, m4, sliceDen, hroom, hb0]
  · exact append_out_sound hM A (off := 0) h2 ho2 (fun j v hv => by
      rw [Nat.zero_add, cell_of_row w b j arr ee (0, 0) h1, ← Array.getElem?_toList]; exact prefix_get h3 hv) (fun k y hk => (hsub k y hk).1) (by omega) hm x

theorem appendTo_sound (hM : MRel S B C Γ st w) {t e n : Nat} {infoe : TypeInfo} {zv : Value} {new : List Cell} {nv : List Value} {yba : Addr} {yc : Nat} (A : Appends C Γ w t e infoe zv n new nv yba yc)
    (hsz0 : infoe.size ≠ 0) {x : AV} {xv : Value} {app : App} (h : appendTo st.heap infoe.size n new x = some app) (hx : x.den Γ = some xv) {ty : TypeId} :
    AppOk S B C Γ st w x (fun u w' => (Builtin.append_ #[t, t] ty #[xv, .slice (some yba) n yc]).run C.P w = .ok u w') app := by
  unfold appendTo at h
  split at h
  · -- nil
    obtain ⟨h1, rfl⟩ := den_c hx
    obtain ⟨rfl, rfl⟩ := isNil_slice h1
    split at h
    case isFalse => cases h
    rename_i hm
    cases h
    exact append_nil_sound hM A (Nat.le_of_ble_eq_true hm) _
  · -- a slice
    rename_i id off len cap
    obtain ⟨b, c, hb, hc, hle, rfl⟩ := den_slice hx
    split at h
    · rename_i c'
      obtain rfl : c' = c := Option.some.inj hc
      split at h
      · rename_i hroom
        have hroom : len + n ≤ c' := Nat.le_of_ble_eq_true hroom
        split at h
        case h_2 => cases h
        rename_i h' hs
        cases h
        exact append_in_sound hM A hs hb hroom _
      · rename_i hroom
        have hroom : c' < len + n := by
          rcases Nat.lt_or_ge c' (len + n) with h1 | h1
          · exact h1
          · exact absurd (Nat.ble_eq_true_of_le h1) hroom
        split at h
        case isFalse => cases h
        rename_i hm
        have hm : len + n ≤ 1048576 := Nat.le_of_ble_eq_true hm
        split at h
        case h_2 => cases h
        rename_i old hold
        cases h
        obtain ⟨a, ov, ha, ho1, ho2, ho3⟩ := hM.load hold
        obtain rfl : b = a := by rw [hb] at ha; exact Option.some.inj ha
        exact append_out_sound hM A ho1 ho2 ho3 (fun _ _ h => h) hroom hm _
    · -- a room that is not known
      rename_i i
      split at h
      case h_2 => cases h
      rename_i blk hblk
      split at h
      case h_2 => cases h
      rename_i jj htot
      split at h
      case isFalse => cases h
      rename_i hcond
      simp only [Bool.and_eq_true] at hcond
      obtain ⟨⟨⟨⟨c1, c2⟩, c3⟩, c4⟩, c5⟩ := hcond
      obtain rfl : off = 0 := Nat.eq_of_beq_eq_true c1
      obtain rfl : i = jj := Nat.eq_of_beq_eq_true c2
      cases h
      exact append_var_sound hM A hsz0 hblk htot hb hc (Nat.eq_of_beq_eq_true c3) (by rw [← lenL_eq]; exact Nat.eq_of_beq_eq_true c4) (Nat.le_of_ble_eq_true c5) _
  · cases h

theorem appendA_sound (hM : MRel S B C Γ st w) {t : Nat} {x y : AV} {xv yv : Value} {app : App} (h : appendA C st.heap t x y = some app) (hx : x.den Γ = some xv) (hy : y.den Γ = some yv) (ty : TypeId) :
    AppOk S B C Γ st w x (fun u w' => (Builtin.append_ #[t, t] ty #[xv, yv]).run C.P w = .ok u w') app := by
  unfold appendA at h
  cases hi : C.ti t with
  | none => simp only [hi] at h; cases h
  | some i =>
    simp only [hi] at h
    obtain ⟨info, d, ok⟩ := tiOf_ok hi
    split at h
    case h_2 => cases h
    rename_i e hk
    obtain rfl := kind_slice (hk ▸ ok.kind)
    cases hj : C.ti e with
    | none => simp only [hj] at h; cases h
    | some j =>
      simp only [hj] at h
      obtain ⟨infoe, de, oke⟩ := tiOf_ok hj
      cases hsrc : srcCells st.heap j.size y with
      | none => simp only [hsrc] at h; cases h
      | some new =>
        simp only [hsrc] at h
        cases hln : lenOfAV y with
        | none => simp only [hln] at h; cases h
        | some n =>
          simp only [hln] at h
          cases hz : j.zero with
          | none => simp only [hz] at h; cases h
          | some z =>
            simp only [hz] at h
            split at h
            case isTrue => cases h
            rename_i hcond
            simp only [Bool.or_eq_true, not_or] at hcond
            obtain ⟨⟨hc1, hc2⟩, hc3⟩ := hcond
            have hc1 : j.size ≠ 0 := by intro e0; apply hc1; rw [e0]; rfl
            have hc2 : j.bytes < 1048576 := by
              rcases Nat.lt_or_ge j.bytes 1048576 with h1 | h1
              · exact h1
              · exact absurd (Nat.ble_eq_true_of_le h1) hc2
            have hc3 : z.length = j.size := by
              cases hb : Nat.beq (lenL z) j.size with
              | true => rw [← lenL_eq]; exact Nat.eq_of_beq_eq_true hb
              | false => rw [hb] at hc3; exact absurd rfl hc3
            obtain ⟨zv, hzv, hzd⟩ := zeroOf_den (Γ := Γ) (oke.zero ▸ hz)
            obtain ⟨yb, yc, nv, rfl, hnv, hnl, hyn, hyc⟩ := srcCells_sound hM hsrc hln hy
            have hone : ∀ u ∈ nv, u.oneCell' = true := fun u hu => by rw [oneCell_eq]; exact cellsDen_oneCell hnv u hu
            rw [oke.size] at hnl
            split at h
            · -- nothing to append
              rename_i hn0
              have hn0 := Nat.eq_of_beq_eq_true hn0
              subst hn0
              unfold sameA at h
              cases hlx : lenOfAV x with
              | none => rw [hlx] at h; cases h
              | some m =>
                rw [hlx] at h
                cases h
                refine ⟨rfl, fun xv' hxv' => ?_⟩
                rw [hx] at hxv'
                cases hxv'
                have hyb : yb = none ∨ ∃ b, yb = some b := by cases yb with
                  | none => exact .inl rfl
                  | some b => exact .inr ⟨b, rfl⟩
                unfold lenOfAV at hlx
                split at hlx
                · obtain ⟨h1, rfl⟩ := den_c hx
                  obtain ⟨rfl, rfl⟩ := isNil_slice h1
                  exact run_append_none w t ty e infoe ok.under oke.info none yb 0 0 yc hyb (Nat.le_refl _)
                · obtain ⟨b, c, hb, hc, hle, rfl⟩ := den_slice hx
                  exact run_append_none w t ty e infoe ok.under oke.info _ yb _ c yc hyb hle
                · cases hlx
            · rename_i hn0
              have hn0 : n ≠ 0 := by intro e0; apply hn0; rw [e0]; rfl
              obtain ⟨yba, rfl⟩ : ∃ b, yb = some b := by
                cases yb with
                | none => exact absurd (hyn rfl) hn0
                | some b => exact ⟨b, rfl⟩
              have hyc := hyc yba rfl
              have hsz : infoe.size = j.size := oke.size.symm
              have hzs : zv.cells.size = j.size := by
                have := cellsDen_length hzd
                simp at this
                omega
              have hnl' : nv.length = n * infoe.size := by rw [hnl, hsz]
              have hby : infoe.bytes < 1048576 := by rw [← oke.bytes]; exact hc2
              rw [← hsz] at h
              exact appendTo_sound hM ⟨ok.under, oke.info, hzv, by rw [hzs, hsz], hby, hnv, hnl', hone, hn0, hyc⟩ (by rw [hsz]; exact hc1) h hx

end
end Go.SX
