/- The walks of fib's functions. -/
import Derived.Test.YtgppkapdmphfgaaRows
import Derived.Test.YtgppkapdmphfgaaPlain
import Derived.WalkKit
import Derived.ProofKit
import Derived.OpenShut
import Derived.Outline
import Derived.Lib.Hide
namespace Go.Proofs.Ytgppkapdmphfgaa
open Go.ChangeShapes Go.WideShapes Go.ChangeAt Go.RowKit

theorem ret_int {k : IntKind} {a b : Int} (h : a = b) : Ending.returned (.int k a) = .returned (.int k b) := by rw [h]

theorem least_low (n : Int) (w : World) (h0 : 0 ≤ n) (h45 : n ≤ 45) :
    Calls Try.prog 10 #[.int .i64 n] w fun e w' => e = .returned (.int .i64 (leastN n.toNat)) ∧ w = w' := by
  go_enter Try.func10, Try.ntmps10
  go_wp2
  go_loop [3, 4, 9] (fun a b i => ∃ k : Nat, (k : Int) ≤ n ∧ i = .int .i64 k ∧ a = .int .i64 (leastN k) ∧ b = .int .i64 (leastB k)) (fun _ _ i => (n - intOf i).toNat)
  case atStart => exact ⟨0, by omega, rfl, rfl, rfl⟩
  case round =>
    obtain ⟨k, hk, rfl, rfl, rfl⟩ := hrel
    obtain ⟨b1, b2, b3, b4⟩ := fibs_bd k
    by_cases hlt : (k : Int) < n
    · by_cases hm : leastN k + leastB k ≤ 2147483648
      · go_wp2
        go_round
        case rel => exact ⟨k + 1, by omega, by go_num, by rw [leastN_succ], by rw [leastB_succ]; go_num⟩
        case measure => simp [intOf]; omega
      · go_wp2
        go_round
        case rel => exact ⟨k + 1, by omega, by go_num, by rw [leastN_succ], by rw [leastB_succ]; go_num⟩
        case measure => simp [intOf]; omega
    · go_wp2
      go_ret
      exact ⟨ret_int (by rw [show n.toNat = k from by omega]), rfl⟩

theorem least_any (n : Int) (w : World) (h1 : -9223372036854775808 ≤ n) (h2 : n ≤ 9223372036854775807) :
    Calls Try.prog 10 #[.int .i64 n] w fun e w' => e = .returned (.int .i64 (least n)) ∧ w = w' := by
  by_cases hn : n < 0
  · go_enter Try.func10, Try.ntmps10
    go_wp2
    go_ret
    exact ⟨ret_int (by simp [least, hn]), rfl⟩
  · by_cases h45 : n ≤ 45
    · refine (least_low n w (by omega) h45).mono ?_
      rintro e w' ⟨rfl, rfl⟩
      exact ⟨ret_int (by rw [least, if_neg hn, Nat.min_eq_left (by omega)]), rfl⟩
    · go_enter Try.func10, Try.ntmps10
      go_wp2
      go_loop [3, 4, 9] (fun a b i => ∃ k : Nat, k ≤ 45 ∧ i = .int .i64 k ∧ a = .int .i64 (leastN k) ∧ b = .int .i64 (leastB k)) (fun _ _ i => (45 - intOf i).toNat)
      case atStart => exact ⟨0, by omega, rfl, rfl, rfl⟩
      case round =>
        obtain ⟨k, hk, rfl, rfl, rfl⟩ := hrel
        obtain ⟨b1, b2, b3, b4⟩ := fibs_bd k
        by_cases hlt : k < 45
        · by_cases hm : leastN k + leastB k ≤ 2147483648
          · go_wp2
            go_round
            case rel => exact ⟨k + 1, by omega, by go_num, by rw [leastN_succ], by rw [leastB_succ]; go_num⟩
            case measure => simp [intOf]; omega
          · go_wp2
            go_round
            case rel => exact ⟨k + 1, by omega, by go_num, by rw [leastN_succ], by rw [leastB_succ]; go_num⟩
            case measure => simp [intOf]; omega
        · go_wp2
          go_ret
          exact ⟨ret_int (by rw [least, if_neg (by omega), show min n.toNat 45 = k from by omega]), rfl⟩

theorem least_nat (k : Nat) (w : World) (h : k ≤ 45) :
    Calls Try.prog 10 #[.int .i64 k] w fun e w' => e = .returned (.int .i64 (leastN k)) ∧ w = w' := by
  have := least_low k w (by omega) (by omega)
  simpa using this

theorem most_any (n : Int) (w : World) (_h1 : -9223372036854775808 ≤ n) (_h2 : n ≤ 9223372036854775807) :
    Calls Try.prog 9 #[.int .i64 n] w fun e w' => e = .returned (.int .i64 (most n)) ∧ w = w' := by
  go_enter Try.func9, Try.ntmps9
  go_wp2
  go_loop [3] (fun i => ∃ k : Nat, k ≤ 45 ∧ i = .int .i64 ((k : Int) - 1) ∧ mostF n (45 - k) k = mostK n) (fun i => (45 - intOf i).toNat)
  case atStart => exact ⟨0, by omega, rfl, rfl⟩
  case round =>
    obtain ⟨k, hk, rfl, hm⟩ := hrel
    have HM := Lib.hid hm
    clear hm
    obtain ⟨b1, b2, b3, b4⟩ := fibs_bd k
    by_cases hlt : k < 45
    · by_cases hc : leastN k ≤ n
      · go_wp2_with (go_at_call 10; refine (least_nat k _ (by omega)).mono ?_; rintro e w' ⟨rfl, rfl⟩)
        go_round
        case rel => exact ⟨k + 1, by omega, by go_num, by rw [← HM.out, show 45 - k = (45 - (k + 1)) + 1 from by omega, mostF, if_pos hc]⟩
        case measure => simp [intOf]; omega
      · go_wp2_with (go_at_call 10; refine (least_nat k _ (by omega)).mono ?_; rintro e w' ⟨rfl, rfl⟩)
        go_ret
        exact ⟨ret_int (by rw [most, ← HM.out, show 45 - k = (45 - (k + 1)) + 1 from by omega, mostF, if_neg (by omega)]), rfl⟩
    · go_wp2_with fail
      go_ret
      exact ⟨ret_int (by rw [most, ← HM.out, show 45 - k = 0 from by omega, mostF]), rfl⟩

/-- what stands in a shape -/
def foursI (n : Int) : Int := n / 128 * 4 + n % 128 * 4 / 128

theorem fours_any (n : Int) (w : World) (h1 : 0 ≤ n) (h2 : n ≤ 9223372036854775807) :
    Calls Try.prog 17 #[.int .i64 n] w fun e w' => e = .returned (.int .i64 (foursI n)) ∧ w = w' := by
  go_enter Try.func17, Try.ntmps17
  go_wp2
  go_ret
  exact ⟨ret_int (by rw [foursI]), rfl⟩
end Go.Proofs.Ytgppkapdmphfgaa
