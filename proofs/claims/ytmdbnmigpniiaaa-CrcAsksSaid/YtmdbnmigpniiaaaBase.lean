/- The walks of crc's functions: Step. -/
import Derived.Test.YtmdbnmigpniiaaaRows
import Derived.Test.YtmdbnmigpniiaaaPlain
import Derived.WalkKit
import Derived.ProofKit
import Derived.OpenShut
import Derived.Outline
import Derived.Lib.Hide
import Derived.Laws.BitsAllLaws
import Derived.Laws.Rows
namespace Go.Proofs.Ytmdbnmigpniiaaa
open Go.ChangeShapes Go.WideShapes Go.ChangeAt Go.RowKit

theorem ret_int {k : IntKind} {a b : Int} (h : a = b) : Ending.returned (.int k a) = .returned (.int k b) := by rw [h]

/-- a register as the program has it -/
def V (s : BitVec 32) : Int := (s.toNat : Int)
def W (c : BitVec 8) : Int := (c.toNat : Int)
theorem V_bd (s : BitVec 32) : 0 ≤ V s ∧ V s ≤ 4294967295 := by unfold V; have := s.isLt; omega
theorem W_bd (s : BitVec 8) : 0 ≤ W s ∧ W s ≤ 255 := by unfold W; have := s.isLt; omega
theorem V_inj {s t : BitVec 32} : V s = V t ↔ s = t := by
  unfold V
  constructor
  · intro h; exact BitVec.eq_of_toNat_eq (by omega)
  · rintro rfl; rfl
theorem V_lit (n : Nat) (h : n < 4294967296) : V (BitVec.ofNat 32 n) = (n : Int) := by
  unfold V; rw [BitVec.toNat_ofNat, Nat.mod_eq_of_lt h]
theorem V_xor (s t : BitVec 32) : bits .xor .u32 (V s) (V t) = V (s ^^^ t) := by
  unfold V; rw [u32_xor_nat _ _ s.isLt t.isLt, BitVec.toNat_xor]
theorem V_and (s t : BitVec 32) : bits .and .u32 (V s) (V t) = V (s &&& t) := by
  unfold V; rw [u32_and_nat _ _ s.isLt t.isLt, BitVec.toNat_and]
theorem V_xor1 (s : BitVec 32) : bits .xor .u32 (V s) 1 = V (s ^^^ 1#32) := V_xor s 1#32
theorem V_poly (s : BitVec 32) : bits .xor .u32 (V s) 3988292384 = V (s ^^^ Crc.poly) := V_xor s Crc.poly
theorem V_shr1 (s : BitVec 32) : V s / (2 : Int) = V (s >>> (1 : Nat)) := by
  unfold V; rw [BitVec.toNat_ushiftRight, Nat.shiftRight_eq_div_pow]; omega
theorem V_shr8 (s : BitVec 32) : V s / (256 : Int) = V (s >>> (8 : Nat)) := by
  unfold V; rw [BitVec.toNat_ushiftRight, Nat.shiftRight_eq_div_pow]; omega
theorem V_and1 (s : BitVec 32) : bits .and .u32 (V s) 1 = if s.getLsbD 0 = true then 1 else 0 := by
  have e : bits .and .u32 (V s) 1 = V (s &&& 1#32) := V_and s 1#32
  rw [e, BitVec.getLsbD, Nat.testBit_zero]
  unfold V
  rw [BitVec.toNat_and, show (1#32).toNat = 2 ^ 1 - 1 from rfl, Nat.and_two_pow_sub_one_eq_mod]
  split
  · rename_i h; have := of_decide_eq_true h; omega
  · rename_i h; simp at h; omega

theorem step_core (s : BitVec 32) (b : Bool) (w : World) :
    Calls Try.prog 10 #[.int .u32 (V s), .bool b] w fun e w' => e = .returned (.int .u32 (V (Crc.step s b))) ∧ w = w' := by
  have hx := V_xor1 s
  have hb := V_bd s
  cases b
  · have e0 : Crc.flip s false = s := by unfold Crc.flip Crc.ob; simp
    cases h : s.getLsbD 0
    · have e1 : bits .and .u32 (V s) 1 = 0 := by rw [V_and1, h]; rfl
      have e2 : V s / 2 = V (Crc.step s false) := by rw [V_shr1, Crc.step, Crc.step0, e0, if_neg (by rw [h]; decide)]
      clear e0 h hx
      go_enter Try.func10, Try.ntmps10
      go_wp2
      go_ret
      exact ⟨rfl, rfl⟩
    · have e1 : bits .and .u32 (V s) 1 = 1 := by rw [V_and1, h]; rfl
      have e2 : bits .xor .u32 (V s / 2) 3988292384 = V (Crc.step s false) := by rw [V_shr1, V_poly, Crc.step, Crc.step0, e0, if_pos h]
      clear e0 h hx
      go_enter Try.func10, Try.ntmps10
      go_wp2
      go_ret
      exact ⟨rfl, rfl⟩
  · obtain ⟨t, ht⟩ : ∃ t, Crc.flip s true = t := ⟨_, rfl⟩
    have hy : bits .xor .u32 (V s) 1 = V t := by rw [hx, ← ht]; rfl
    have hc := V_bd t
    clear hx
    cases h : t.getLsbD 0
    · have e1 : bits .and .u32 (V t) 1 = 0 := by rw [V_and1, h]; rfl
      have e2 : V t / 2 = V (Crc.step s true) := by rw [V_shr1, Crc.step, Crc.step0, ht, if_neg (by rw [h]; decide)]
      clear ht h
      go_enter Try.func10, Try.ntmps10
      go_wp2
      go_ret
      exact ⟨rfl, rfl⟩
    · have e1 : bits .and .u32 (V t) 1 = 1 := by rw [V_and1, h]; rfl
      have e2 : bits .xor .u32 (V t / 2) 3988292384 = V (Crc.step s true) := by rw [V_shr1, V_poly, Crc.step, Crc.step0, ht, if_pos h]
      clear ht h
      go_enter Try.func10, Try.ntmps10
      go_wp2
      go_ret
      exact ⟨rfl, rfl⟩
end Go.Proofs.Ytmdbnmigpniiaaa
