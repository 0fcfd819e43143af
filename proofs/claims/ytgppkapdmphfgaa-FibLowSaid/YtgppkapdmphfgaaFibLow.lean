/- FibLow returns true for every n, and writes nothing that was there; no conditions. -/
import Derived.Test.YtgppkapdmphfgaaRows
import Derived.Test.YtgppkapdmphfgaaTold
import Derived.WalkKit
import Derived.ProofKit
import Derived.OpenShut
namespace Go.Proofs.Ytgppkapdmphfgaa.fibLow
open Go.ChangeShapes Go.WideShapes Go.ChangeAt Go.RowKit
set_option linter.unusedVariables false      -- a walk need not use every 'w<i>' (that an integer argument fits its kind)

theorem own : ownKnob Try.prog.godebug = none := by kernel_rfl
theorem laidOut : laidOutB Try.prog = true := by kernel_rfl

/-! ### the walk -/
theorem low_at : ∀ f : Fin 21, decide (2 * most (((2 : Nat) ^ f.val : Nat) : Int) ≤ 3 * (f.val : Int) + 1) = true := by decide +kernel
theorem low (k : Int) (f : Nat) (hf : f ≤ 20) (h : k ≤ ((2 ^ f : Nat) : Int)) : 2 * most k ≤ 3 * (f : Int) + 1 := by
  have h1 := most_mono h
  have h2 := of_decide_eq_true (low_at ⟨f, by omega⟩)
  simp only at h2
  omega
theorem reach (k : Int) (h1 : 1 ≤ k) (h2 : k ≤ 1000000) : 0 ≤ most k ∧ most k ≤ 43 ∧ least (most k) ≤ k ∧ k < least (most k + 1) := by
  have a := (most_least_iff k 0 (by omega) (by omega)).2 (by rw [show least 0 = 1 from by decide]; exact h1)
  have b : most k ≤ 43 := by
    have := most_mono h2
    have e : most 1000000 = 28 := by decide +kernel
    omega
  refine ⟨a, b, (most_least_iff k (most k) a (by omega)).1 (Int.le_refl _), ?_⟩
  rcases Int.lt_or_le k (least (most k + 1)) with h | h
  · exact h
  · have := (most_least_iff k (most k + 1) (by omega) (by omega)).2 h
    omega

theorem pow_at (f : Nat) (hf : f ≤ 20) : ∃ p : Int, wrap64 ((2 : Int) ^ f) = p ∧ ((2 ^ f : Nat) : Int) = p ∧ p ≤ 1048576 ∧ (20 ≤ f → p = 1048576) := by
  refine ⟨((2 ^ f : Nat) : Int), ?_, rfl, ?_, ?_⟩
  · have h1 : 2 ^ f ≤ 2 ^ 20 := Nat.pow_le_pow_right (by omega) hf
    have e : (2 : Int) ^ f = ((2 ^ f : Nat) : Int) := by rw [Int.natCast_pow]; rfl
    rw [e]
    generalize 2 ^ f = p at *
    exact IntWalk.wrap64_in _ ⟨by omega, by omega⟩
  · have h1 : 2 ^ f ≤ 2 ^ 20 := Nat.pow_le_pow_right (by omega) hf
    omega
  · intro h
    obtain rfl : f = 20 := by omega
    rfl

theorem walk (a0 : Int) (w0 : (Lit.int .i64 a0).wf = true) (w : World) :
    Calls Try.prog 6 #[.int .i64 a0] w fun e w' => e = .returned (.bool true) ∧ Below w.heap.size w w' := by
  obtain ⟨x, x0, x1, ex⟩ := umod_ex a0 1000000 (by omega) (by omega)
  go_enter Try.func6, Try.ntmps6
  go_wp2_with fail
  go_loop [4] (fun i => ∃ f : Nat, f ≤ 20 ∧ i = .int .i64 f) (fun i => (20 - intOf i).toNat)
  case atStart => exact ⟨0, by omega, rfl⟩
  case round =>
    obtain ⟨f, hf, rfl⟩ := hrel
    obtain ⟨p, hp, hp1, hp2, hp3⟩ := pow_at f hf
    by_cases hlt : p < 1 + x
    · have hf20 : f < 20 := by
        rcases Nat.lt_or_ge f 20 with h | h
        · exact h
        · have := hp3 h; omega
      clear hp3 hp2 hp1
      go_wp2_with fail
      go_round
      case rel => exact ⟨f + 1, by omega, by go_num⟩
      case measure => simp [intOf]; omega
    · obtain ⟨r1, r2, r3, r4⟩ := reach (1 + x) (by omega) (by omega)
      have hlow := low (1 + x) f hf (by rw [hp1]; omega)
      clear hp1 hp2 hp3
      generalize hm : most (1 + x) = m at *
      go_wp2_with (first | (go_at_call 8; refine (told_any _).mono ?_; rintro e w1 ⟨rfl, hb1⟩) | (go_at_call 10; refine (least_any _ _ (by omega) (by omega)).mono ?_; rintro e w' ⟨rfl, rfl⟩) | (go_at_call 9; refine (most_any _ _ (by omega) (by omega)).mono ?_; rintro e w' ⟨rfl, rfl⟩))
      go_ret
      exact ⟨rfl, hb1⟩

/-! ### the row's step -/
set_option maxRecDepth 100000 in
theorem lifted (os : Os) (started : os.Started) (H : Type) (enc : TypeId × Value → H) :
    ReturnsInHanded {} Try.checked os 6 .any (Rows.fibLowSpec.pre6 enc Try.prog Try.f6 Rows.fibLowRow.domain false) (Rows.fibLowSpec.post enc Try.prog Try.f6 false true false false) := by
  refine returnsInHanded_of_change (C := Try.checked) own started (by kernel_rfl) Try.func6
    (ChangeSpec.witness6 (enc := enc) (C := Try.checked) false ⟨#[], #[.int .i64 0], []⟩ 8 (by kernel_rfl) (by kernel_rfl) (by kernel_rfl) (by kernel_rfl)) ?_
  intro W base args ds gs before hval0 hW hcnd _
  have hval : ∀ (j : Nat) t v, Try.f6.params[j]? = some t → args[j]? = some v → Value.okWide Try.prog W .any base t v := hval0
  have hW' := hW
  obtain ⟨p, q, hA0, hV, rfl, hfz, hnd⟩ := hW
  have hA : DataW.TrodAll enc Try.prog W 0 (fun _ => true) true Try.f6.params.toList args.toList ds p := hA0
  rw [Try.params6] at hA hval
  obtain ⟨v0, vs0, d0, ds0, p0, q0, hargs, rfl, rfl, h0, r0⟩ := trodAll_cons hA
  obtain ⟨rfl, rfl, rfl⟩ := trodAll_nil r0
  obtain rfl : args = #[v0] := by cases args; simp_all
  obtain ⟨rfl, rfl⟩ := trodVars_none hV
  obtain ⟨a0, rfl, rfl, rfl, w0⟩ := open_int Try.underlying3 (hval 0 3 v0 rfl rfl) h0
  clear hA0 hval0
  simp only [List.append_nil] at hW'
  refine (walk a0 w0 W).mono fun e W' ⟨he, hg⟩ => ?_
  subst he
  exact ⟨_, rfl, _, _, _, [], [], [], hW', trodAll_mk1 (shut_bool Try.underlying4 _), (trodAll_cons_mk (shut_int Try.underlying3 w0) trodAll_mk0), rfl, hg.frame _, fun h => by cases h⟩

theorem over : Rows.fibLowRow.holds Try.pinned (OpenSpec.ofChange Rows.fibLowSpec) :=
  OpenClaim.holds_of_wide 6 Try.f6 rfl rfl rfl rfl rfl rfl rfl ⟨rfl, rfl, rfl, rfl, rfl⟩ rfl rfl rfl rfl rfl (by kernel_rfl) Try.func6 (by kernel_rfl)
    (of_decide_eq_true (by kernel_rfl)) (by unfold Func.isWrapper; first | (rw [if_pos (by decide +kernel)]; kernel_rfl) | (rw [if_neg (by decide +kernel)]; exact ⟨rfl, rfl⟩))
    (fun os started H enc _ => lifted os started H enc)

/-- the statement -/
theorem proved : Rows.FibLowSaid :=
  over
#print axioms proved
end Go.Proofs.Ytgppkapdmphfgaa.fibLow
