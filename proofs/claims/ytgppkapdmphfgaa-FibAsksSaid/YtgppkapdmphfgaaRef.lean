/- The walks of the document's own fib: Least, Most, fours, May give what the program's give. -/
import Derived.Test.YtgppkapdmphfgaaTold
namespace Go.Proofs.Ytgppkapdmphfgaa
open Go.ChangeShapes Go.WideShapes Go.ChangeAt Go.RowKit

def fibu : Nat → Int × Int
  | 0 => (1, 2)
  | n + 1 => ((fibu n).2, (fibu n).1 + (fibu n).2)
def uA (n : Nat) : Int := (fibu n).1
def uB (n : Nat) : Int := (fibu n).2
theorem uA_succ (n : Nat) : uA (n + 1) = uB n := rfl
theorem uB_succ (n : Nat) : uB (n + 1) = uA n + uB n := rfl
theorem u_bd (n : Nat) : 1 ≤ uA n ∧ uA n ≤ uB n ∧ uB n ≤ 2 * uA n := by
  induction n with
  | zero => simp [uA, uB, fibu]
  | succ n ih => rw [uA_succ, uB_succ]; omega
theorem u_least (n : Nat) : leastN n = min (uA n) 2147483648 ∧ leastB n = min (uB n) 2147483648 := by
  induction n with
  | zero => exact ⟨by decide, by decide⟩
  | succ n ih =>
    have := u_bd n
    rw [uA_succ, uB_succ, leastN_succ, leastB_succ]
    omega
theorem leastN_45 : leastN 45 = 2147483648 := by decide +kernel
theorem u_end (h : Int) (k : Nat) (hk : (k : Int) ≤ h) (he : (k : Int) = h ∨ 2147483648 ≤ uA k) : min (uA k) 2147483648 = least h := by
  have h1 := (u_least k).1
  rw [← h1, least, if_neg (by omega)]
  have b := (fibs_bd k).2.1
  rcases Nat.lt_or_ge 45 k with h2 | h2
  · have h3 := leastN_mono (show 45 ≤ k by omega)
    rw [leastN_45] at h3
    rw [show min h.toNat 45 = 45 from by omega, leastN_45]
    omega
  · rcases he with he | he
    · rw [show min h.toNat 45 = k from by omega]
    · have h3 := leastN_mono (show k ≤ min h.toNat 45 by omega)
      have b2 := (fibs_bd (min h.toNat 45)).2.1
      omega

theorem rleast_any (n : Int) (w : World) (h1 : -9223372036854775808 ≤ n) (h2 : n ≤ 9223372036854775807) :
    Calls Try.prog 13 #[.int .i64 n] w fun e w' => e = .returned (.int .i64 (least n)) ∧ w = w' := by
  by_cases hn : n < 0
  · go_enter Try.func13, Try.ntmps13
    go_wp2
    go_ret
    exact ⟨ret_int (by simp [least, hn]), rfl⟩
  · go_enter Try.func13, Try.ntmps13
    go_wp2
    go_loop [3, 4, 5] (fun a b i => ∃ k : Nat, (k : Int) ≤ n ∧ i = .int .i64 k ∧ a = .int .i64 (uA k) ∧ b = .int .i64 (uB k) ∧ uA k ≤ 4294967296) (fun _ _ i => (n - intOf i).toNat)
    case atStart => exact ⟨0, by omega, rfl, rfl, rfl, by decide⟩
    case round =>
      obtain ⟨k, hk, rfl, rfl, rfl, hu⟩ := hrel
      obtain ⟨b1, b2, b3⟩ := u_bd k
      by_cases hlt : (k : Int) < n
      · by_cases hm : uA k < 2147483648
        · go_wp2
          go_round
          case rel => exact ⟨k + 1, by omega, by go_num, by rw [uA_succ], by rw [uB_succ], by rw [uA_succ]; omega⟩
          case measure => simp [intOf]; omega
        · have he := u_end n k hk (.inr (by omega))
          have HE := Lib.hid he
          clear he
          go_wp2
          all_goals
            go_ret
            exact ⟨ret_int (by rw [← HE.out]; omega), rfl⟩
      · have he := u_end n k hk (.inl (by omega))
        have HE := Lib.hid he
        clear he
        go_wp2
        all_goals
          go_ret
          exact ⟨ret_int (by rw [← HE.out]; omega), rfl⟩

theorem rleast_nat (k : Nat) (w : World) (h : k ≤ 45) :
    Calls Try.prog 13 #[.int .i64 k] w fun e w' => e = .returned (.int .i64 (leastN k)) ∧ w = w' := by
  have := rleast_any k w (by omega) (by omega)
  rwa [least_of_nat k h] at this

theorem rmost_any (n : Int) (w : World) (_h1 : -9223372036854775808 ≤ n) (_h2 : n ≤ 9223372036854775807) :
    Calls Try.prog 14 #[.int .i64 n] w fun e w' => e = .returned (.int .i64 (most n)) ∧ w = w' := by
  go_enter Try.func14, Try.ntmps14
  go_wp2
  go_loop [3] (fun i => ∃ k : Nat, k ≤ 45 ∧ i = .int .i64 ((k : Int) - 1) ∧ mostF n (45 - k) k = mostK n) (fun i => (45 - intOf i).toNat)
  case atStart => exact ⟨0, by omega, rfl, rfl⟩
  case round =>
    obtain ⟨k, hk, rfl, hm⟩ := hrel
    have HM := Lib.hid hm
    clear hm
    obtain ⟨b1, b2, b3, b4⟩ := fibs_bd k
    by_cases hlt : k < 45
    · by_cases hc : leastN k ≤ n
      · go_wp2_with (go_at_call 13; refine (rleast_nat k _ (by omega)).mono ?_; rintro e w' ⟨rfl, rfl⟩)
        go_round
        case rel => exact ⟨k + 1, by omega, by go_num, by rw [← HM.out, show 45 - k = (45 - (k + 1)) + 1 from by omega, mostF, if_pos hc]⟩
        case measure => simp [intOf]; omega
      · go_wp2_with (go_at_call 13; refine (rleast_nat k _ (by omega)).mono ?_; rintro e w' ⟨rfl, rfl⟩)
        go_ret
        exact ⟨ret_int (by rw [most, ← HM.out, show 45 - k = (45 - (k + 1)) + 1 from by omega, mostF, if_neg (by omega)]), rfl⟩
    · go_wp2_with fail
      go_ret
      exact ⟨ret_int (by rw [most, ← HM.out, show 45 - k = 0 from by omega, mostF]), rfl⟩

theorem rfours_any (n : Int) (w : World) (h1 : 0 ≤ n) (h2 : n ≤ 9223372036854775807) :
    Calls Try.prog 15 #[.int .i64 n] w fun e w' => e = .returned (.int .i64 (foursI n)) ∧ w = w' := by
  go_enter Try.func15, Try.ntmps15
  go_wp2
  go_ret
  exact ⟨ret_int (by rw [foursI]), rfl⟩

theorem rmay_any (L H V N : Int) (w : World) (l1 : -9223372036854775808 ≤ L) (l2 : L ≤ 9223372036854775807) (h1 : -9223372036854775808 ≤ H) (h2 : H ≤ 9223372036854775807)
    (v1 : -9223372036854775808 ≤ V) (v2 : V ≤ 9223372036854775807) :
    Calls Try.prog 11 #[.agg #[.int .i64 L, .int .i64 H, .int .i64 V, .int .i64 N]] w fun e w' => e = .returned (.bool (mayB L H V N)) ∧ Below w.heap.size w w' := by
  by_cases hL0 : L = 0
  · subst hL0
    go_enter Try.func11, Try.ntmps11
    go_wp2
    all_goals
      go_ret
      exact ⟨by simp [mayB, *], (Below.refl _ _).alloc (Nat.le_refl _) _⟩
  · by_cases hL : L ≤ 0
    · have e1 : mayB L H V N = false := by simp [mayB, *]
      have hd : decide (0 < L) = false := by simpa using hL
      have hz : (L == 0) = false := by simpa using hL0
      rw [e1]
      clear e1
      go_enter Try.func11, Try.ntmps11
      go_wp2
      go_quiet (fail)
      go_wp2
      go_ret
      exact ⟨rfl, below_drewN ((Below.refl _ _).alloc (Nat.le_refl _) _) _⟩
    · have hl := least_bd H
      have hf := foursI_bd L (by omega) l2
      have hz : (L == 0) = false := by simpa using hL0
      by_cases hH : 0 ≤ H
      · by_cases hV : least H ≤ V
        · have hV1 : 1 ≤ V := by omega
          by_cases hF : V - 1 ≤ foursI L
          · have e1 : mayB L H V N = (N == wrap64 (wrap64 (2 * V) - 1)) := by simp [mayB, *]
            rw [e1]
            clear e1
            go_enter Try.func11, Try.ntmps11
            go_wp2
            go_quiet ((first | (go_at_call 13; exact quiet_left (rleast_any _ _ (by omega) (by omega))) | (go_at_call 15; exact quiet_left (rfours_any _ _ (by omega) (by omega)))))
            go_wp2
            go_ret
            exact ⟨rfl, below_drewN ((Below.refl _ _).alloc (Nat.le_refl _) _) _⟩
          · have e1 : mayB L H V N = false := by simp [mayB, *]
            have hd : decide (V - 1 ≤ foursI L) = false := by simpa using hF
            rw [e1]
            clear e1
            go_enter Try.func11, Try.ntmps11
            go_wp2
            go_quiet ((first | (go_at_call 13; exact quiet_left (rleast_any _ _ (by omega) (by omega))) | (go_at_call 15; exact quiet_left (rfours_any _ _ (by omega) (by omega)))))
            go_wp2
            go_ret
            exact ⟨rfl, below_drewN ((Below.refl _ _).alloc (Nat.le_refl _) _) _⟩
        · have e1 : mayB L H V N = false := by simp [mayB, *]
          have hd : decide (least H ≤ V) = false := by simpa using hV
          rw [e1]
          clear e1
          go_enter Try.func11, Try.ntmps11
          go_wp2
          go_quiet ((go_at_call 13; exact quiet_left (rleast_any _ _ (by omega) (by omega))))
          go_wp2
          go_ret
          exact ⟨rfl, below_drewN ((Below.refl _ _).alloc (Nat.le_refl _) _) _⟩
      · have e1 : mayB L H V N = false := by simp [mayB, *]
        have hd : decide (0 ≤ H) = false := by simpa using hH
        rw [e1]
        clear e1
        go_enter Try.func11, Try.ntmps11
        go_wp2
        go_quiet (fail)
        go_wp2
        go_ret
        exact ⟨rfl, below_drewN ((Below.refl _ _).alloc (Nat.le_refl _) _) _⟩
end Go.Proofs.Ytgppkapdmphfgaa
