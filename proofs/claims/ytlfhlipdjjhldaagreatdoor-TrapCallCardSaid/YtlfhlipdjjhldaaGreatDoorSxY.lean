/- The symbolic executor at this program: its configuration, and that it is sound there. Conditions: none. -/
import Derived.Test.YtlfhlipdjjhldaaGreatDoorSxX
import Derived.Test.YtlfhlipdjjhldaaGreatDoorChecked
namespace Go.Proofs.YtlfhlipdjjhldaaGreatDoor
open Go Go.SX Go.RowKit

noncomputable def vS : List Srt := [.int .u8, .float, .str, .int .i64]

/-- The struct types that are held against each other cell by cell. -/
noncomputable def eqT : Nat → Option (List Srt) := fun t =>
  cond (Nat.beq t 24) (some vS) (cond (Nat.beq t 32) (some [.str, .int .i64]) (cond (Nat.beq t 26) (some (.int .u8 :: (vS ++ vS ++ vS ++ [.bool, .bool, .bool]))) none))

/-- The program's pure functions without a body: a float64's bits, and back; what is before its point (not at a signalling NaN). -/
noncomputable def X : Ext := fun f v =>
  cond (Nat.beq f 125) (match v with
    | .float .f64 b => some (.int .u64 (Int.ofNat b))
    | _ => none)
  (cond (Nat.beq f 124) (match v with
    | .int .u64 n => some (.float .f64 n.toNat)
    | _ => none)
  (cond (Nat.beq f 122) (match v with
    | .float .f64 b => pureOf (Extern.MathFloor.toIntegral "math.archTrunc" .zero #[.float .f64 b])
    | _ => none) none))

noncomputable def ext : Nat → Option (Srt × Srt × Bool) := fun f =>
  cond (Nat.beq f 125) (some (Srt.float, Srt.int .u64, true)) (cond (Nat.beq f 124) (some (Srt.int .u64, Srt.float, true)) (cond (Nat.beq f 122) (some (Srt.float, Srt.float, false)) none))

noncomputable def cfg : Cfg where
  P := Tryz.prog
  X := X
  eqT := eqT
  fns := fun _ => true
  ext := ext
  con := fun _ => none

set_option maxRecDepth 1000000

theorem noSuchName : (Tryz.prog.funcs.toList.all fun fn => !(fn.name == "runtime.NumGoroutine")) = true := by kernel_rfl
theorem mixedOrders : Tryz.prog.follows .mixedOrders = true := by kernel_rfl
theorem chk24 : (eqChk Tryz.prog 5 24 vS && !Tryz.prog.eqGuardType Tryz.prog.depth 24) = true := by kernel_rfl
theorem chk32 : (eqChk Tryz.prog 5 32 [.str, .int .i64] && !Tryz.prog.eqGuardType Tryz.prog.depth 32) = true := by kernel_rfl
theorem chk26 : (eqChk Tryz.prog 5 26 (.int .u8 :: (vS ++ vS ++ vS ++ [.bool, .bool, .bool])) && !Tryz.prog.eqGuardType Tryz.prog.depth 26) = true := by kernel_rfl

theorem eq_ok {C : Cfg} (hP : C.P = Tryz.prog) (hT : C.eqT = eqT) : EqOk C := by
  refine eqOk_of fun t ss h => ?_
  rw [hT] at h
  rw [hP]
  have two : ∀ {a b : Bool}, (a && !b) = true → a = true ∧ b = false := by intro a b; cases a <;> cases b <;> simp
  unfold eqT at h
  cases h1 : Nat.beq t 24 with
  | true => rw [h1] at h; cases h; obtain rfl := Nat.eq_of_beq_eq_true h1; exact two chk24
  | false =>
    cases h2 : Nat.beq t 32 with
    | true => rw [h1, h2] at h; cases h; obtain rfl := Nat.eq_of_beq_eq_true h2; exact two chk32
    | false =>
      cases h3 : Nat.beq t 26 with
      | true => rw [h1, h2, h3] at h; cases h; obtain rfl := Nat.eq_of_beq_eq_true h3; exact two chk26
      | false => rw [h1, h2, h3] at h; cases h

theorem name_ok {f : Nat} {fn : Func} (h : Tryz.prog.funcs[f]? = some fn) : (fn.name == "runtime.NumGoroutine") = false := by
  have h1 := List.all_eq_true.1 noSuchName fn (by rw [← Array.getElem?_toList] at h; exact List.mem_of_getElem? h)
  simpa using h1

theorem find125 : Extern.find Tryz.f125 = some Extern.MathFloatBits.float64bits := by kernel_rfl
theorem find124 : Extern.find Tryz.f124 = some Extern.MathFloatBits.float64frombits := by kernel_rfl
theorem findNext125 : (match Extern.findNext Tryz.f125 with | some _ => true | none => false) = false := by kernel_rfl
theorem findNext124 : (match Extern.findNext Tryz.f124 with | some _ => true | none => false) = false := by kernel_rfl

theorem run_ext {f : Nat} {fn : Func} {e : Array Value → Sem Value} {v u : Value} (hf : Tryz.prog.funcs[f]? = some fn) (hb : fn.body.isNone = true) (hn : (match Extern.findNext fn with | some _ => true | none => false) = false)
    (he : Extern.find fn = some e) (hv : e #[v] = pure u) (w : World) : (callFunc f #[v]).run Tryz.prog w = .ok (.value u) w := by
  have h1 := name_ok hf
  simp only [beq_eq_false_iff_ne, ne_eq] at h1
  cases hx : Extern.findNext fn with
  | some y => rw [hx] at hn; cases hn
  | none =>
    cases hb' : fn.body with
    | some c => rw [hb'] at hb; cases hb
    | none => simp [callFunc, hf, h1, hb', hx, he, hv]

theorem find122 : (match Extern.find Tryz.f122 with | some _ => true | none => false) = true := by kernel_rfl
theorem found122 : Extern.find Tryz.f122 = some (Extern.MathFloor.toIntegral "math.archTrunc" .zero) := by kernel_rfl
theorem findNext122 : (match Extern.findNext Tryz.f122 with | some _ => true | none => false) = false := by kernel_rfl

theorem trunc_has {b : Nat} {u : Value} (h : pureOf (Extern.MathFloor.toIntegral "math.archTrunc" .zero #[.float .f64 b]) = some u) :
    Srt.float.has u = true ∧ Extern.MathFloor.toIntegral "math.archTrunc" .zero #[.float .f64 b] = pure u := by
  have e : Extern.MathFloor.toIntegral "math.archTrunc" .zero #[.float .f64 b] = (match FloatKind.f64.decode b with
    | .nan s t =>
      if FloatKind.f64.format.quiet t = t then pure (.float .f64 b) else do
      let kept ← choose (.extern "math.Floor,Ceil,Trunc,RoundToEven.signallingNaN kept" 2)
      pure (.float .f64 (if kept == 1 then b else FloatKind.f64.encode (.nan s (FloatKind.f64.format.quiet t))))
    | d => pure (.float .f64 (FloatKind.f64.encode (d.integral .zero)))) := rfl
  rw [e] at h ⊢
  clear e
  split at h
  · split at h
    · rename_i hq
      cases h
      exact ⟨rfl, by rw [if_pos hq]⟩
    · cases h
  · cases h
    exact ⟨rfl, rfl⟩

theorem trunc_some {b : Nat} (h : binV .eql (.float .f64 b) (.float .f64 b) = some (.bool true)) : ∃ u, pureOf (Extern.MathFloor.toIntegral "math.archTrunc" .zero #[.float .f64 b]) = some u := by
  have e : Extern.MathFloor.toIntegral "math.archTrunc" .zero #[.float .f64 b] = (match FloatKind.f64.decode b with
    | .nan s t =>
      if FloatKind.f64.format.quiet t = t then pure (.float .f64 b) else do
      let kept ← choose (.extern "math.Floor,Ceil,Trunc,RoundToEven.signallingNaN kept" 2)
      pure (.float .f64 (if kept == 1 then b else FloatKind.f64.encode (.nan s (FloatKind.f64.format.quiet t))))
    | d => pure (.float .f64 (FloatKind.f64.encode (d.integral .zero)))) := rfl
  have h1 : (FloatKind.f64.decode b).order (FloatKind.f64.decode b) = some .eq := by
    simp only [binV, Go.binOp, ne_eq, not_true_eq_false, if_false, Op.floatCmp] at h
    have h : some (Value.bool (((FloatKind.f64.decode b).order (FloatKind.f64.decode b)) == some .eq)) = some (.bool true) := h
    simpa using h
  rw [e]
  clear e
  cases hd : FloatKind.f64.decode b with
  | nan s t => rw [hd] at h1; simp [Ieee.Datum.order] at h1
  | _ => exact ⟨_, rfl⟩

theorem ext_ok {C : Cfg} (hP : C.P = Tryz.prog) (hX : C.X = X) (hE : C.ext = ext) : ∀ f s t b, C.ext f = some (s, t, b) → ∀ v, s.has v = true →
    (b = true ∨ binV .eql v v = some (.bool true) → ∃ u, C.X f v = some u) ∧ ∀ u, C.X f v = some u → t.has u = true ∧ ∀ w, (callFunc f #[v]).run C.P w = .ok (.value u) w := by
  intro f s t b h v hv
  rw [hE] at h
  rw [hX, hP]
  unfold ext at h
  cases h1 : Nat.beq f 125 with
  | true =>
    rw [h1] at h
    cases h
    obtain rfl := Nat.eq_of_beq_eq_true h1
    obtain ⟨b, rfl⟩ := has_float hv
    refine ⟨fun _ => ⟨.int .u64 (Int.ofNat b), rfl⟩, fun u hu => ?_⟩
    cases hu
    exact ⟨rfl, run_ext Tryz.func125 rfl findNext125 find125 rfl⟩
  | false =>
    cases h2 : Nat.beq f 124 with
    | true =>
      rw [h1, h2] at h
      cases h
      obtain rfl := Nat.eq_of_beq_eq_true h2
      obtain ⟨n, rfl⟩ := has_int hv
      refine ⟨fun _ => ⟨.float .f64 n.toNat, rfl⟩, fun u hu => ?_⟩
      cases hu
      exact ⟨rfl, run_ext Tryz.func124 rfl findNext124 find124 rfl⟩
    | false =>
      cases h3 : Nat.beq f 122 with
      | true =>
        rw [h1, h2, h3] at h
        cases h
        obtain rfl := Nat.eq_of_beq_eq_true h3
        obtain ⟨b, rfl⟩ := has_float hv
        refine ⟨fun h => ?_, fun u hu => ?_⟩
        · rcases h with h | h
          · cases h
          · obtain ⟨u, hu⟩ := trunc_some h
            exact ⟨u, hu⟩
        obtain ⟨e1, e2⟩ := trunc_has hu
        exact ⟨e1, run_ext Tryz.func122 rfl findNext122 found122 e2⟩
      | false => rw [h1, h2, h3] at h; cases h

/-- Nothing is taken for granted. -/
def noR : Nat → List Value → List Value → Prop := fun _ _ _ => False

theorem cfg_ok : CfgOk cfg noR where
  eq := eq_ok rfl rfl
  mixed := mixedOrders
  name := fun _ _ h _ => name_ok h
  ext := ext_ok rfl rfl rfl
  con := fun _ _ h => by cases h

theorem MRel.start {C : Cfg} (w : World) : MRel (fun _ => False) w C ⟨C.X, [], [], [], fun _ => 0⟩ (St.start .e 0 0 0 []) w :=
  ⟨rfl, rfl, rfl, rfl, Nat.zero_le _, fun id b h => by simp [St.start, T.get_e] at h, fun i j a h => by simp at h, fun i a h => by simp at h, Fr.refl _ _, fun p hp => by simp [St.start] at hp, fun _ _ => rfl⟩

theorem Fr.below {B w : World} (h : Fr (fun _ => False) B w) : Below B.heap.size B w := ⟨h.os, h.tape, h.output, h.size, fun k hk => h.block k hk (fun h => h)⟩

/-- A call without arguments whose tree is true everywhere answers true, and leaves what stood as it stood. -/
theorem calls_true {C : Cfg} {R : Nat → List Value → List Value → Prop} (hC : CfgOk C R) {n f : Nat} (h : Tree.isTrue (runF C n f [] (St.start .e 0 0 0 [])) = true) (w : World) :
    Calls C.P f #[] w fun e w' => e = .returned (.bool true) ∧ Below w.heap.size w w' := by
  refine Calls.mono (runF_sound hC (MRel.start w) (args := []) (xs := []) rfl (holds_isTrue h)) ?_
  rintro e w' ⟨u, rfl, st', v, Γ', hl, hm, hv, rfl⟩
  refine ⟨?_, Fr.below hm.fr⟩
  unfold boolLit at hv
  rw [AV.den_one, den_s] at hv
  rw [← Option.some.inj hv.1]

end Go.Proofs.YtlfhlipdjjhldaaGreatDoor
