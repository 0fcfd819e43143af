/- FibGrows returns true for every n, and writes nothing that was there; no conditions. -/
import Derived.Test.YtgppkapdmphfgaaRows
import Derived.Test.YtgppkapdmphfgaaTold
import Derived.WalkKit
import Derived.ProofKit
import Derived.OpenShut
namespace Go.Proofs.Ytgppkapdmphfgaa.fibGrows
open Go.ChangeShapes Go.WideShapes Go.ChangeAt Go.RowKit
set_option linter.unusedVariables false      -- a walk need not use every 'w<i>' (that an integer argument fits its kind)

theorem own : ownKnob Try.prog.godebug = none := by kernel_rfl
theorem laidOut : laidOutB Try.prog = true := by kernel_rfl

/-! ### the walk -/
theorem umod39 (a : Int) : ∃ x, 0 ≤ x ∧ x < 39 ∧ wrap64 ((IntKind.u64.wrap a).tmod 39) = x := umod_ex a 39 (by omega) (by omega)

def GrowsAt (h : Int) : Prop := least h = least (h - 1) + least (h - 2) ∧ most (least h) = h ∧ most (least h - 1) = h - 1 ∧ least h < least (h + 1)
theorem grows_at : ∀ x : Fin 39, (least (2 + (x.val : Int)) == least (2 + (x.val : Int) - 1) + least (2 + (x.val : Int) - 2) && most (least (2 + (x.val : Int))) == 2 + (x.val : Int) && most (least (2 + (x.val : Int)) - 1) == 2 + (x.val : Int) - 1 && decide (least (2 + (x.val : Int)) < least (2 + (x.val : Int) + 1))) = true := by decide +kernel
theorem grows (x : Int) (h0 : 0 ≤ x) (h1 : x < 39) : GrowsAt (2 + x) := by
  obtain ⟨n, rfl⟩ := Int.eq_ofNat_of_zero_le h0
  have := grows_at ⟨n, by omega⟩
  simp only [Bool.and_eq_true, beq_iff_eq, decide_eq_true_eq] at this
  exact ⟨this.1.1.1, this.1.1.2, this.1.2, this.2⟩

theorem walk (a0 : Int) (w0 : (Lit.int .i64 a0).wf = true) (w : World) :
    Calls Try.prog 5 #[.int .i64 a0] w fun e w' => e = .returned (.bool true) ∧ Below w.heap.size w w' := by
  obtain ⟨x, x0, x1, ex⟩ := umod39 a0
  obtain ⟨g1, g2, g3, g4⟩ := grows x x0 x1
  obtain ⟨b1, b2, _⟩ := least_bd (2 + x)
  obtain ⟨c1, c2, _⟩ := least_bd (2 + x + 1)
  obtain ⟨d1, d2, _⟩ := least_bd (2 + x - 1)
  obtain ⟨e1, e2, _⟩ := least_bd (2 + x - 2)
  rw [g1] at g2 g3 g4 b1 b2
  generalize hy : least (2 + x - 1) = y at *
  generalize hz : least (2 + x - 2) = z at *
  generalize hu : least (2 + x + 1) = u at *
  go_enter Try.func5, Try.ntmps5
  go_wp2_with (first | (go_at_call 8; refine (told_any _).mono ?_; rintro e w1 ⟨rfl, hb1⟩) | (go_at_call 10; refine (least_any _ _ (by omega) (by omega)).mono ?_; rintro e w' ⟨rfl, rfl⟩) | (go_at_call 9; refine (most_any _ _ (by omega) (by omega)).mono ?_; rintro e w' ⟨rfl, rfl⟩))
  go_ret
  exact ⟨rfl, hb1⟩

/-! ### the row's step -/
set_option maxRecDepth 100000 in
theorem lifted (os : Os) (started : os.Started) (H : Type) (enc : TypeId × Value → H) :
    ReturnsInHanded {} Try.checked os 5 .any (Rows.fibGrowsSpec.pre6 enc Try.prog Try.f5 Rows.fibGrowsRow.domain false) (Rows.fibGrowsSpec.post enc Try.prog Try.f5 false true false false) := by
  refine returnsInHanded_of_change (C := Try.checked) own started (by kernel_rfl) Try.func5
    (ChangeSpec.witness6 (enc := enc) (C := Try.checked) false ⟨#[], #[.int .i64 0], []⟩ 8 (by kernel_rfl) (by kernel_rfl) (by kernel_rfl) (by kernel_rfl)) ?_
  intro W base args ds gs before hval0 hW hcnd _
  have hval : ∀ (j : Nat) t v, Try.f5.params[j]? = some t → args[j]? = some v → Value.okWide Try.prog W .any base t v := hval0
  have hW' := hW
  obtain ⟨p, q, hA0, hV, rfl, hfz, hnd⟩ := hW
  have hA : DataW.TrodAll enc Try.prog W 0 (fun _ => true) true Try.f5.params.toList args.toList ds p := hA0
  rw [Try.params5] at hA hval
  obtain ⟨v0, vs0, d0, ds0, p0, q0, hargs, rfl, rfl, h0, r0⟩ := trodAll_cons hA
  obtain ⟨rfl, rfl, rfl⟩ := trodAll_nil r0
  obtain rfl : args = #[v0] := by cases args; simp_all
  obtain ⟨rfl, rfl⟩ := trodVars_none hV
  obtain ⟨a0, rfl, rfl, rfl, w0⟩ := open_int Try.underlying3 (hval 0 3 v0 rfl rfl) h0
  clear hA0 hval0
  simp only [List.append_nil] at hW'
  refine (walk a0 w0 W).mono fun e W' ⟨he, hg⟩ => ?_
  subst he
  exact ⟨_, rfl, _, _, _, [], [], [], hW', trodAll_mk1 (shut_bool Try.underlying4 _), (trodAll_cons_mk (shut_int Try.underlying3 w0) trodAll_mk0), rfl, hg.frame _, fun h => by cases h⟩

theorem over : Rows.fibGrowsRow.holds Try.pinned (OpenSpec.ofChange Rows.fibGrowsSpec) :=
  OpenClaim.holds_of_wide 5 Try.f5 rfl rfl rfl rfl rfl rfl rfl ⟨rfl, rfl, rfl, rfl, rfl⟩ rfl rfl rfl rfl rfl (by kernel_rfl) Try.func5 (by kernel_rfl)
    (of_decide_eq_true (by kernel_rfl)) (by unfold Func.isWrapper; first | (rw [if_pos (by decide +kernel)]; kernel_rfl) | (rw [if_neg (by decide +kernel)]; exact ⟨rfl, rfl⟩))
    (fun os started H enc _ => lifted os started H enc)

/-- the statement -/
theorem proved : Rows.FibGrowsSaid :=
  over
#print axioms proved
end Go.Proofs.Ytgppkapdmphfgaa.fibGrows
