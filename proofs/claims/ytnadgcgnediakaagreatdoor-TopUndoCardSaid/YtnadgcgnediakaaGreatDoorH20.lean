/- The walks of perm's closures. -/
import Derived.Test.YtnadgcgnediakaaGreatDoorH07
import Derived.Test.YtnadgcgnediakaaGreatDoorH19
namespace Go.Proofs.YtnadgcgnediakaaGreatDoor
open Go.ChangeShapes Go.WideShapes Go.ChangeAt Go.RowKit Go.Deep

theorem cmp_any (x y : Int) (w : World) : Calls Tryz.prog 127 #[.int .i64 x, .int .i64 y] w fun e w' => e = .returned (.int .i64 (Lib.compareInt x y)) ∧ w' = w := Any.cmp_Compare_int Tryz.lays122 x y w

theorem pat1_any (cb pb lb k r row n cap : Nat) (w : World) (h0 : w.cell? ⟨cb, 0, none⟩ = some (.pointer (some ⟨pb, 0, none⟩))) (h1 : w.cell? ⟨pb, 1, none⟩ = some (.slice (some ⟨lb, 0, none⟩) n cap)) (h2 : w.cell? ⟨lb, k * 2, none⟩ = some (.int .i64 r)) (hk : k < n) :
    Calls Tryz.prog 126 #[.int .i64 k, .int .i64 row, .pointer (some ⟨cb, 0, none⟩)] w fun e w' => e = .returned (.int .i64 (Lib.compareInt r row)) ∧ ∃ q, w' = w.drewN q := by
  have CM := cmp_any r row
  generalize Lib.compareInt r row = res at CM ⊢
  go_enter Tryz.func126, Tryz.ntmps126
  go_wp2_with (go_at_call 127; refine (CM _).mono ?_; rintro e w' ⟨rfl, rfl⟩)
  go_ret
  exact ⟨rfl, 0, rfl⟩
theorem phas1_any (cb kb pb lb k p pos n cap : Nat) (w : World) (h0 : w.cell? ⟨cb, 0, none⟩ = some (.pointer (some ⟨pb, 0, none⟩))) (h3 : w.cell? ⟨kb, 0, none⟩ = some (.int .i64 pos)) (h1 : w.cell? ⟨pb, 1, none⟩ = some (.slice (some ⟨lb, 0, none⟩) n cap)) (h2 : w.cell? ⟨lb, k * 2 + 1, none⟩ = some (.int .i64 p)) (hk : k < n) :
    Calls Tryz.prog 129 #[.int .i64 k, .pointer (some ⟨cb, 0, none⟩), .pointer (some ⟨kb, 0, none⟩)] w fun e w' => e = .returned (.bool (decide ((p : Int) = pos))) ∧ ∃ q, w' = w.drewN q := by
  go_enter Tryz.func129, Tryz.ntmps129
  go_wp2_with fail
  go_quiet (fail)
  go_wp2_with fail
  go_ret
  exact ⟨rfl, _, rfl⟩
theorem psort_any (cb pb lb j k r s n cap : Nat) (w : World) (h0 : w.cell? ⟨cb, 0, none⟩ = some (.pointer (some ⟨pb, 0, none⟩))) (h1 : w.cell? ⟨pb, 1, none⟩ = some (.slice (some ⟨lb, 0, none⟩) n cap)) (h2 : w.cell? ⟨lb, j * 2, none⟩ = some (.int .i64 r)) (h3 : w.cell? ⟨lb, k * 2, none⟩ = some (.int .i64 s)) (hj : j < n) (hk : k < n) :
    Calls Tryz.prog 149 #[.int .i64 j, .int .i64 k, .pointer (some ⟨cb, 0, none⟩)] w fun e w' => e = .returned (.int .i64 (Lib.compareInt r s)) ∧ ∃ q, w' = w.drewN q := by
  have CM := cmp_any r s
  generalize Lib.compareInt r s = res at CM ⊢
  have CM2 : ∀ W : World, Calls Tryz.prog 127 #[.int .i64 r, .int .i64 s] W fun e w' => e = .returned (.int .i64 res) ∧ ∃ n, w' = W.drewN n := fun W => (CM W).mono fun _ _ h => ⟨h.1, 0, h.2⟩
  go_enter Tryz.func149, Tryz.ntmps149
  go_wp2_with fail
  go_quiet (first | (go_at_call 127; exact Calls.quiet_of (CM2 _)))
  go_wp2_with fail
  go_ret
  exact ⟨rfl, _, rfl⟩
end Go.Proofs.YtnadgcgnediakaaGreatDoor
