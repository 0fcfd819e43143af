/- The walk of told. -/
import Derived.Test.YtgppkapdmphfgaaMays
namespace Go.Proofs.Ytgppkapdmphfgaa
open Go.ChangeShapes Go.WideShapes Go.ChangeAt Go.RowKit

theorem mays_nil (w : World) : Calls Try.prog 12 #[.slice none 0 0] w fun e w' => e = .returned (.bool true) ∧ Below w.heap.size w w' :=
  mays_any none 0 0 [] w ⟨rfl, by omega⟩ (by omega)

theorem mays_one (s : Sh) (r : Bool) (hr : s.ok = r) (w : World) (b : Nat) (hf : s.fits) (hb : b < w.heap.size)
    (h0 : w.cell? ⟨b, 0, none⟩ = some (.int .i64 s.L)) (h1 : w.cell? ⟨b, 1, none⟩ = some (.int .i64 s.H)) (h2 : w.cell? ⟨b, 2, none⟩ = some (.int .i64 s.V)) (h3 : w.cell? ⟨b, 3, none⟩ = some (.int .i64 s.N)) :
    Calls Try.prog 12 #[.slice (some ⟨b, 0, none⟩) 1 1] w fun e w' => e = .returned (.bool r) ∧ Below w.heap.size w w' := by
  rw [← hr]
  have := mays_any (some ⟨b, 0, none⟩) 1 1 [s] w ⟨rfl, fun _ => ⟨b, 0, rfl, hb, fun i x hx => by
    cases i with
    | zero => obtain rfl : s = x := by simpa using hx
              simpa [hf] using ⟨h0, h1, h2, h3⟩
    | succ i => simp at hx⟩⟩ (by omega)
  simpa using this

theorem told_any (w : World) : Calls Try.prog 8 #[] w fun e w' => e = .returned (.bool true) ∧ Below w.heap.size w w' := by
  have f0 : least 0 = 1 := by decide
  have f1 : least 1 = 2 := by decide
  have f2 : least 3 = 5 := by decide
  have f3 : least (-1) = 0 := by decide
  have f4 : least 1000 = 2147483648 := by decide +kernel
  have m0 : most 0 = -1 := by decide
  have m1 : most 1 = 0 := by decide
  have m2 : most 4 = 2 := by decide
  have m3 : most 5 = 3 := by decide
  go_enter Try.func8, Try.ntmps8
  go_wp2_with (first | (go_at_call 10; refine (least_any _ _ (by omega) (by omega)).mono ?_; rintro e w' ⟨rfl, rfl⟩) | (go_at_call 9; refine (most_any _ _ (by omega) (by omega)).mono ?_; rintro e w' ⟨rfl, rfl⟩) | fail)
  refine (mays_nil _).mono ?_
  rintro e w1 ⟨rfl, hb1⟩
  clear f0 f1 f2 f3 f4 m0 m1 m2 m3
  go_wp2_with fail
  refine (mays_one ⟨0, 0, 0, 0⟩ true (by decide +kernel) _ w1.heap.size (by simp [Sh.fits]) (by simp) (by simp) (by simp) (by simp) (by simp)).mono ?_
  rintro e w2 ⟨rfl, hb2⟩
  go_wp2_with fail
  refine (mays_one ⟨3, 0, 1, 1⟩ true (by decide +kernel) _ w2.heap.size (by simp [Sh.fits]) (by simp) (by simp) (by simp) (by simp) (by simp)).mono ?_
  rintro e w3 ⟨rfl, hb3⟩
  go_wp2_with fail
  refine (mays_one ⟨3, 1, 1, 1⟩ false (by decide +kernel) _ w3.heap.size (by simp [Sh.fits]) (by simp) (by simp) (by simp) (by simp) (by simp)).mono ?_
  rintro e w4 ⟨rfl, hb4⟩
  go_wp2_with fail
  go_ret
  have k1 := hb1.size
  have k2 := hb2.size
  have k3 := hb3.size
  simp at k2 k3
  exact ⟨rfl, hb1.trans <| ((Below.refl _ _).alloc (by omega) _).trans <| (hb2.mono (by simp; omega)).trans <| ((Below.refl _ _).alloc (by omega) _).trans <| (hb3.mono (by simp; omega)).trans <| ((Below.refl _ _).alloc (by omega) _).trans (hb4.mono (by simp; omega))⟩
end Go.Proofs.Ytgppkapdmphfgaa
