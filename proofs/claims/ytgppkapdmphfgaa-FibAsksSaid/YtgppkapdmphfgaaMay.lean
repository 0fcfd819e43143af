/- The walk of fib.may and fib.May. -/
import Derived.Test.YtgppkapdmphfgaaBase
import Derived.Deep.QuietTactic
import Derived.BigQuiet
import Derived.WalkSpells
namespace Go.Proofs.Ytgppkapdmphfgaa
open Go.ChangeShapes Go.WideShapes Go.ChangeAt Go.RowKit

theorem quiet_left {P : Program} {f : FuncId} {args : Array Value} {w : World} {n : Nat} {v : Value}
    (h : Calls P f args (w.drewN n) fun e w' => e = .returned v ∧ w.drewN n = w') : Calls P f args (w.drewN n) fun e w'' => e = .returned v ∧ ∃ m, w'' = w.drewN m :=
  h.mono fun _ _ ⟨he, hm⟩ => ⟨he, n, hm.symm⟩

def mayB (L H V N : Int) : Bool :=
  if L ≤ 0 then L == 0 && H == 0 && V == 0 && N == 0
  else decide (0 ≤ H) && decide (least H ≤ V) && decide (V - 1 ≤ foursI L) && N == wrap64 (wrap64 (2 * V) - 1)

def shapeV (L H V N : Int) : Value := .agg #[.int .i64 L, .int .i64 H, .int .i64 V, .int .i64 N]

theorem foursI_bd (n : Int) (h1 : 0 ≤ n) (h2 : n ≤ 9223372036854775807) : 0 ≤ foursI n ∧ foursI n ≤ 9223372036854775807 := by
  unfold foursI; omega

theorem least_bd (h : Int) : 0 ≤ least h ∧ least h ≤ 2147483648 ∧ (0 ≤ h → 1 ≤ least h) := by
  unfold least
  have := fibs_bd (min h.toNat 45)
  split <;> omega

theorem below_drewN {B : Nat} {a w : World} (h : Below B a w) (n : Nat) : Below B a (w.drewN n) := ⟨h.os, h.tape, h.output, h.size, h.block⟩

theorem may_any (L H V N : Int) (w : World) (l1 : -9223372036854775808 ≤ L) (l2 : L ≤ 9223372036854775807) (h1 : -9223372036854775808 ≤ H) (h2 : H ≤ 9223372036854775807)
    (v1 : -9223372036854775808 ≤ V) (v2 : V ≤ 9223372036854775807) :
    Calls Try.prog 16 #[.agg #[.int .i64 L, .int .i64 H, .int .i64 V, .int .i64 N]] w fun e w' => e = .returned (.bool (mayB L H V N)) ∧ Below w.heap.size w w' := by
  by_cases hL : L ≤ 0
  · go_enter Try.func16, Try.ntmps16
    go_wp2
    all_goals
      go_ret
      exact ⟨by simp [mayB, *], (Below.refl _ _).alloc (Nat.le_refl _) _⟩
  · have hl := least_bd H
    have hf := foursI_bd L (by omega) l2
    by_cases hH : 0 ≤ H
    · by_cases hV : least H ≤ V
      · by_cases hF : V - 1 ≤ foursI L
        · have e1 : mayB L H V N = (N == wrap64 (wrap64 (2 * V) - 1)) := by simp [mayB, *]
          rw [e1]
          have HE := Lib.hid e1
          clear e1
          go_enter Try.func16, Try.ntmps16
          go_wp2
          go_quiet ((first | (go_at_call 10; exact quiet_left (least_any _ _ (by omega) (by omega))) | (go_at_call 17; exact quiet_left (fours_any _ _ (by omega) (by omega)))))
          go_wp2
          go_ret
          exact ⟨rfl, below_drewN ((Below.refl _ _).alloc (Nat.le_refl _) _) _⟩
        · have e1 : mayB L H V N = false := by simp [mayB, *]
          have hd : decide (V - 1 ≤ foursI L) = false := by simpa using hF
          rw [e1]
          have HE := Lib.hid e1
          clear e1
          go_enter Try.func16, Try.ntmps16
          go_wp2
          go_quiet ((first | (go_at_call 10; exact quiet_left (least_any _ _ (by omega) (by omega))) | (go_at_call 17; exact quiet_left (fours_any _ _ (by omega) (by omega)))))
          go_wp2
          go_ret
          exact ⟨rfl, below_drewN ((Below.refl _ _).alloc (Nat.le_refl _) _) _⟩
      · have e1 : mayB L H V N = false := by simp [mayB, *]
        have hd : decide (least H ≤ V) = false := by simpa using hV
        rw [e1]
        have HE := Lib.hid e1
        clear e1
        go_enter Try.func16, Try.ntmps16
        go_wp2
        go_quiet ((go_at_call 10; exact quiet_left (least_any _ _ (by omega) (by omega))))
        go_wp2
        go_ret
        exact ⟨rfl, below_drewN ((Below.refl _ _).alloc (Nat.le_refl _) _) _⟩
    · have e1 : mayB L H V N = false := by simp [mayB, *]
      have hd : decide (0 ≤ H) = false := by simpa using hH
      rw [e1]
      have HE := Lib.hid e1
      clear e1
      go_enter Try.func16, Try.ntmps16
      go_wp2
      go_quiet (fail)
      go_wp2
      go_ret
      exact ⟨rfl, below_drewN ((Below.refl _ _).alloc (Nat.le_refl _) _) _⟩
end Go.Proofs.Ytgppkapdmphfgaa
