/- The laws of the Trap round that take values: what they have in common: 'alive' by a contract; arguments as variables. Conditions: none. -/
import Derived.Test.YtlfhlipdjjhldaaGreatDoorSxY
import Derived.Test.YtlfhlipdjjhldaaGreatDoorSxArgs
namespace Go.Proofs.YtlfhlipdjjhldaaGreatDoor
open Go Go.SX Go.RowKit

set_option maxRecDepth 1000000
theorem alive_tree : Tree.isTrue (runF cfg 1000000 26 [] (St.start .e 0 0 0 [])) = true := by kernel_rfl
theorem alive_calls (w : World) : Calls Tryz.prog 26 #[] w fun e w' => e = .returned (.bool true) ∧ Below w.heap.size w w' := calls_true cfg_ok alive_tree w

noncomputable def con1 : Nat → Option Con := fun f => cond (Nat.beq f 26) (some ⟨0, fun _ => boolLit true, fun l => match l with | [] => true | _ => false⟩) none

/-- 'alive' by a contract. -/
noncomputable def cfg1 : Cfg where
  P := Tryz.prog
  X := X
  eqT := eqT
  fns := fun _ => true
  ext := ext
  con := con1

def trueR : Nat → List Value → List Value → Prop := fun _ _ _ => True

theorem cfg1_ok : CfgOk cfg1 trueR where
  eq := eq_ok rfl rfl
  mixed := mixedOrders
  name := fun _ _ h _ => name_ok h
  ext := ext_ok rfl rfl rfl
  con := by
    intro f c hc args σ vs ns xs w ht hx
    have hc : con1 f = some c := hc
    unfold con1 at hc
    cases h1 : Nat.beq f 26 with
    | false => rw [h1] at hc; cases hc
    | true =>
      rw [h1] at hc
      cases hc
      obtain rfl := Nat.eq_of_beq_eq_true h1
      cases args with
      | cons a l => cases ht
      | nil =>
        cases hx
        refine ⟨⟨Tryz.f26, Tryz.func26, rfl⟩, (alive_calls w).mono ?_⟩
        rintro e w' ⟨rfl, hb⟩
        exact ⟨.bool true, [], rfl, trivial, rfl, rfl, hb⟩

theorem MRel.startV {C : Cfg} (w : World) (vs : List Value) (n : Nat) (hn : vs.length = n) (fs : List (E × Bool)) (hf : ∀ p ∈ fs, p.1.den C.X vs = some (.bool p.2)) : MRel (fun _ => False) w C ⟨C.X, [], vs, []⟩ (St.start .e 0 n 0 fs) w :=
  ⟨rfl, rfl, hn, rfl, Nat.zero_le _, fun id b h => by simp [St.start, T.get_e] at h, fun i j a h => by simp at h, fun i a h => by simp at h, Fr.refl _ _, hf⟩

/-- A call whose tree is true everywhere, as far as some facts hold, answers true, and leaves what stood as it stood. -/
theorem calls_trueV {C : Cfg} {R : Nat → List Value → List Value → Prop} (hC : CfgOk C R) {n f m : Nat} {ps : List (Bool × List Srt)} {fs : List (E × Bool)} (h : Tree.isTrue (runF C n f (argsFrom 0 ps) (St.start .e 0 m 0 fs)) = true)
    (w : World) {vs xs : List Value} (hm : vs.length = m) (hx : FitsAll ps xs vs) (hf : ∀ p ∈ fs, p.1.den C.X vs = some (.bool p.2)) : Calls C.P f xs.toArray w fun e w' => e = .returned (.bool true) ∧ Below w.heap.size w w' := by
  have hx' : avsDen ⟨C.X, [], vs, []⟩ (argsFrom 0 ps) = some xs := argsFrom_den (X := C.X) (σ := []) (ns := []) hx []
  refine Calls.mono (runF_sound hC (MRel.startV w vs m hm fs hf) hx' (holds_isTrue h)) ?_
  rintro e w' ⟨u, rfl, st', v, Γ', hl, hm, hv, rfl⟩
  refine ⟨?_, Fr.below hm.fr⟩
  unfold boolLit at hv
  rw [AV.den_one, den_s] at hv
  rw [← Option.some.inj hv.1]

/-- 'The variable i is k': so, or not so. -/
noncomputable def isK (i : Nat) (k : Nat) (b : Bool) : E × Bool := (.bin .eql (.var i) (.lit (.int .u8 (Int.ofNat k))), b)

/-- The kinds of a value, one by one; the last: none of them. -/
noncomputable def kinds (i : Nat) : Nat → List (E × Bool)
  | 0 => [isK i 0 true]
  | 1 => [isK i 1 true]
  | 2 => [isK i 2 true]
  | 3 => [isK i 3 true]
  | 4 => [isK i 4 true]
  | 5 => [isK i 5 true]
  | 6 => [isK i 6 true]
  | 7 => [isK i 7 true]
  | 8 => [isK i 8 true]
  | _ => [isK i 0 false, isK i 1 false, isK i 2 false, isK i 3 false, isK i 4 false, isK i 5 false, isK i 6 false, isK i 7 false, isK i 8 false]

theorem isK_den {X : Ext} {vs : List Value} {i : Nat} {n : Int} (h : vs[i]? = some (.int .u8 n)) (k : Nat) : (isK i k (n == Int.ofNat k)).1.den X vs = some (.bool (isK i k (n == Int.ofNat k)).2) :=
  den_bin.2 ⟨_, _, h, rfl, rfl⟩

theorem kinds_all {X : Ext} {vs : List Value} {i : Nat} {n : Int} (h : vs[i]? = some (.int .u8 n)) : ∃ c, c ≤ 9 ∧ ∀ p ∈ kinds i c, p.1.den X vs = some (.bool p.2) := by
  have hk : ∀ (k : Nat) (b : Bool), (n == Int.ofNat k) = b → (isK i k b).1.den X vs = some (.bool (isK i k b).2) := by
    rintro k b rfl; exact isK_den h k
  have yes : ∀ k : Nat, n = Int.ofNat k → k ≤ 8 → ∃ c, c ≤ 9 ∧ ∀ p ∈ kinds i c, p.1.den X vs = some (.bool p.2) := by
    intro k e hle
    have e1 := hk k true (by rw [e]; simp)
    have : k = 0 ∨ k = 1 ∨ k = 2 ∨ k = 3 ∨ k = 4 ∨ k = 5 ∨ k = 6 ∨ k = 7 ∨ k = 8 := by omega
    rcases this with rfl | rfl | rfl | rfl | rfl | rfl | rfl | rfl | rfl
    · exact ⟨0, by omega, fun p hp => by rw [List.mem_singleton.1 hp]; exact e1⟩
    · exact ⟨1, by omega, fun p hp => by rw [List.mem_singleton.1 hp]; exact e1⟩
    · exact ⟨2, by omega, fun p hp => by rw [List.mem_singleton.1 hp]; exact e1⟩
    · exact ⟨3, by omega, fun p hp => by rw [List.mem_singleton.1 hp]; exact e1⟩
    · exact ⟨4, by omega, fun p hp => by rw [List.mem_singleton.1 hp]; exact e1⟩
    · exact ⟨5, by omega, fun p hp => by rw [List.mem_singleton.1 hp]; exact e1⟩
    · exact ⟨6, by omega, fun p hp => by rw [List.mem_singleton.1 hp]; exact e1⟩
    · exact ⟨7, by omega, fun p hp => by rw [List.mem_singleton.1 hp]; exact e1⟩
    · exact ⟨8, by omega, fun p hp => by rw [List.mem_singleton.1 hp]; exact e1⟩
  by_cases hn : ∃ k : Nat, n = Int.ofNat k ∧ k ≤ 8
  · obtain ⟨k, e, hle⟩ := hn
    exact yes k e hle
  · refine ⟨9, by omega, fun p hp => ?_⟩
    have no : ∀ k : Nat, k ≤ 8 → (n == Int.ofNat k) = false := fun k hle => by
      rw [beq_eq_false_iff_ne]
      exact fun e => hn ⟨k, e, hle⟩
    simp only [kinds, List.mem_cons, List.not_mem_nil, or_false] at hp
    rcases hp with rfl | rfl | rfl | rfl | rfl | rfl | rfl | rfl | rfl
    all_goals exact hk _ _ (no _ (by omega))

noncomputable def valP : Bool × List Srt := (true, vS)
noncomputable def boolP : Bool × List Srt := (false, [.bool])
end Go.Proofs.YtlfhlipdjjhldaaGreatDoor
