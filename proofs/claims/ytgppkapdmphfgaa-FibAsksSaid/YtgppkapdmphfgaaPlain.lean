/- The plain law of fib: how few leaves, how high; no program in sight. -/
import Derived.WalkKit
namespace Go.Proofs.Ytgppkapdmphfgaa

def fibs : Nat → Int × Int
  | 0 => (1, 2)
  | n + 1 => ((fibs n).2, min ((fibs n).1 + (fibs n).2) 2147483648)

def leastN (n : Nat) : Int := (fibs n).1
def leastB (n : Nat) : Int := (fibs n).2
def least (h : Int) : Int := if h < 0 then 0 else leastN (min h.toNat 45)

theorem fibs_bd (n : Nat) : 1 ≤ leastN n ∧ leastN n ≤ 2147483648 ∧ 2 ≤ leastB n ∧ leastB n ≤ 2147483648 := by
  induction n with
  | zero => simp [leastN, leastB, fibs]
  | succ n ih =>
    simp only [leastN, leastB, fibs] at ih ⊢
    omega

theorem leastN_succ (n : Nat) : leastN (n + 1) = leastB n := rfl
theorem leastB_succ (n : Nat) : leastB (n + 1) = min (leastN n + leastB n) 2147483648 := rfl

def mostF (n : Int) : Nat → Nat → Nat
  | 0, k => k
  | f + 1, k => if leastN k ≤ n then mostF n f (k + 1) else k
def mostK (n : Int) : Nat := mostF n 45 0
def most (n : Int) : Int := (mostK n : Int) - 1

theorem leastN_le_B (n : Nat) : leastN n ≤ leastB n := by
  induction n with
  | zero => simp [leastN, leastB, fibs]
  | succ n ih =>
    have := fibs_bd n
    rw [leastN_succ, leastB_succ]
    omega

theorem leastN_step (n : Nat) : leastN n ≤ leastN (n + 1) := leastN_le_B n

theorem leastN_mono {a b : Nat} (h : a ≤ b) : leastN a ≤ leastN b := by
  induction b with
  | zero => obtain rfl : a = 0 := by omega
            exact Int.le_refl _
  | succ b ih =>
    rcases Nat.lt_or_ge b a with h1 | h1
    · obtain rfl : a = b + 1 := by omega
      exact Int.le_refl _
    · exact Int.le_trans (ih h1) (leastN_step b)

theorem mostF_spec (n : Int) : ∀ (f k : Nat), k + f = 45 → (∀ j, j < k → leastN j ≤ n) → mostF n f k ≤ 45 ∧ (∀ j, j < mostF n f k → leastN j ≤ n) ∧ (mostF n f k < 45 → n < leastN (mostF n f k))
  | 0, k, hk, h => by simp only [mostF]; exact ⟨by omega, h, by omega⟩
  | f + 1, k, hk, h => by
    rw [mostF]
    by_cases hc : leastN k ≤ n
    · rw [if_pos hc]
      exact mostF_spec n f (k + 1) (by omega) fun j hj => by
        by_cases e : j = k
        · subst e; exact hc
        · exact h j (by omega)
    · rw [if_neg hc]
      exact ⟨by omega, h, fun _ => by omega⟩

theorem most_iff (n : Int) (k : Nat) (hk : k ≤ 44) : (k : Int) ≤ most n ↔ leastN k ≤ n := by
  obtain ⟨h1, h2, h3⟩ := mostF_spec n 45 0 rfl (fun j hj => absurd hj (by omega))
  unfold most mostK
  constructor
  · intro h; exact h2 k (by omega)
  · intro h
    rcases Nat.lt_or_ge k (mostF n 45 0) with h4 | h4
    · omega
    · have := h3 (by omega)
      have := leastN_mono h4
      omega

theorem most_bd (n : Int) : -1 ≤ most n ∧ most n ≤ 44 := by
  obtain ⟨h1, h2, h3⟩ := mostF_spec n 45 0 rfl (fun j hj => absurd hj (by omega))
  unfold most mostK
  omega

theorem most_mono {a b : Int} (h : a ≤ b) : most a ≤ most b := by
  have h1 := most_bd a
  rcases Int.lt_or_le (most a) 0 with h0 | h0
  · have := most_bd b; omega
  · have e : ((most a).toNat : Int) = most a := by omega
    have := (most_iff a (most a).toNat (by omega)).1 (by omega)
    have := (most_iff b (most a).toNat (by omega)).2 (by omega)
    omega

theorem least_of_nat (k : Nat) (h : k ≤ 45) : least k = leastN k := by
  rw [least, if_neg (by omega), show min (k : Int).toNat 45 = k from by omega]

theorem least_nn (k : Int) (h0 : 0 ≤ k) (h : k ≤ 45) : least k = leastN k.toNat := by
  rw [← least_of_nat _ (by omega), show (k.toNat : Int) = k from by omega]

theorem least_neg (k : Int) (h : k < 0) : least k = 0 := by rw [least, if_pos h]

theorem most_least_iff (n k : Int) (h0 : 0 ≤ k) (h : k ≤ 44) : k ≤ most n ↔ least k ≤ n := by
  have := most_iff n k.toNat (by omega)
  rw [least_nn k h0 (by omega), ← this]
  omega

open Go.RowKit in
theorem umod_bd (a m : Int) (h0 : 0 < m) (h1 : m ≤ 4611686018427387904) : 0 ≤ wrap64 ((IntKind.u64.wrap a).tmod m) ∧ wrap64 ((IntKind.u64.wrap a).tmod m) < m := by
  have hu : 0 ≤ IntKind.u64.wrap a := by
    rw [IntKind.wrap_u64]; omega
  rw [Int.tmod_eq_emod_of_nonneg hu]
  have h2 := Int.emod_nonneg (IntKind.u64.wrap a) (show m ≠ 0 by omega)
  have h3 := Int.emod_lt_of_pos (IntKind.u64.wrap a) h0
  unfold wrap64
  omega

open Go.RowKit in
theorem umod_ex (a m : Int) (h0 : 0 < m) (h1 : m ≤ 4611686018427387904) : ∃ x, 0 ≤ x ∧ x < m ∧ wrap64 ((IntKind.u64.wrap a).tmod m) = x := by
  obtain ⟨h, h'⟩ := umod_bd a m h0 h1
  exact ⟨_, h, h', rfl⟩

end Go.Proofs.Ytgppkapdmphfgaa
