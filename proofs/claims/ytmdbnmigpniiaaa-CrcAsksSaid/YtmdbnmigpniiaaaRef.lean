/- The walks of the document's own Step and More; bytes as strings. -/
import Derived.Test.YtmdbnmigpniiaaaDrawn
import Derived.Laws.BytesArg
namespace Go.Proofs.Ytmdbnmigpniiaaa
open Go.ChangeShapes Go.WideShapes Go.ChangeAt Go.RowKit

theorem rstep_core (s : BitVec 32) (b : Bool) (w : World) :
    Calls Try.prog 13 #[.int .u32 (V s), .bool b] w fun e w' => e = .returned (.int .u32 (V (Crc.step s b))) ∧ w = w' := by
  have hx := V_xor1 s
  have hb := V_bd s
  cases b
  · have e0 : Crc.flip s false = s := by unfold Crc.flip Crc.ob; simp
    cases h : s.getLsbD 0
    · have e1 : bits .and .u32 (V s) 1 = 0 := by rw [V_and1, h]; rfl
      have e2 : V s / 2 = V (Crc.step s false) := by rw [V_shr1, Crc.step, Crc.step0, e0, if_neg (by rw [h]; decide)]
      clear e0 h hx
      go_enter Try.func13, Try.ntmps13
      go_wp2
      go_ret
      exact ⟨rfl, rfl⟩
    · have e1 : bits .and .u32 (V s) 1 = 1 := by rw [V_and1, h]; rfl
      have e2 : bits .xor .u32 (V s / 2) 3988292384 = V (Crc.step s false) := by rw [V_shr1, V_poly, Crc.step, Crc.step0, e0, if_pos h]
      clear e0 h hx
      go_enter Try.func13, Try.ntmps13
      go_wp2
      go_ret
      exact ⟨rfl, rfl⟩
  · obtain ⟨t, ht⟩ : ∃ t, Crc.flip s true = t := ⟨_, rfl⟩
    have hy : bits .xor .u32 (V s) 1 = V t := by rw [hx, ← ht]; rfl
    have hc := V_bd t
    clear hx
    cases h : t.getLsbD 0
    · have e1 : bits .and .u32 (V t) 1 = 0 := by rw [V_and1, h]; rfl
      have e2 : V t / 2 = V (Crc.step s true) := by rw [V_shr1, Crc.step, Crc.step0, ht, if_neg (by rw [h]; decide)]
      clear ht h
      go_enter Try.func13, Try.ntmps13
      go_wp2
      go_ret
      exact ⟨rfl, rfl⟩
    · have e1 : bits .and .u32 (V t) 1 = 1 := by rw [V_and1, h]; rfl
      have e2 : bits .xor .u32 (V t / 2) 3988292384 = V (Crc.step s true) := by rw [V_shr1, V_poly, Crc.step, Crc.step0, ht, if_pos h]
      clear ht h
      go_enter Try.func13, Try.ntmps13
      go_wp2
      go_ret
      exact ⟨rfl, rfl⟩
theorem W_shrN (s : BitVec 8) (n : Nat) : W s / (2 : Int) ^ n = ((s.toNat / 2 ^ n : Nat) : Int) := by
  unfold W; rw [Int.natCast_ediv, Int.natCast_pow]; rfl
theorem W_bit (s : BitVec 8) (n : Nat) : bits .and .u8 (W s / (2 : Int) ^ n) 1 = if s.getLsbD n = true then 1 else 0 := by
  have hs := s.isLt
  have hd : s.toNat / 2 ^ n ≤ s.toNat := Nat.div_le_self _ _
  have e : bits .and .u8 (W s / (2 : Int) ^ n) 1 = ((s.toNat / 2 ^ n &&& 1 : Nat) : Int) := by
    rw [W_shrN]
    exact u8_and_nat _ 1 (by omega) (by omega)
  rw [e, BitVec.getLsbD, Nat.testBit_eq_decide_div_mod_eq, show (1 : Nat) = 2 ^ 1 - 1 from rfl, Nat.and_two_pow_sub_one_eq_mod]
  split
  · rename_i h; have := of_decide_eq_true h; simp at this; omega
  · rename_i h; simp at h; omega
theorem bits_take (c : BitVec 8) (n : Nat) (hn : n < 8) (t : BitVec 32) : Crc.runBits t ((Crc.bbits c).take (n + 1)) = Crc.step (Crc.runBits t ((Crc.bbits c).take n)) (c.getLsbD n) := by
  have hl : n < (Crc.bbits c).length := by simp [Crc.bbits]; omega
  rw [List.take_succ_eq_append_getElem hl, Crc.runBits_append]
  simp [Crc.bbits, Crc.runBits]


/-- bytes as a string -/
def S (bs : List (BitVec 8)) : ByteArray := ⟨(bs.map fun c => UInt8.ofBitVec c).toArray⟩
theorem S_size (bs : List (BitVec 8)) : (S bs).size = bs.length := by simp [S, ByteArray.size]

theorem S_get (bs : List (BitVec 8)) (k : Nat) (c : BitVec 8) (h : k < (S bs).size) (hc : bs[k]? = some c) : (((S bs)[k]'h).toNat : Int) = W c := by
  obtain ⟨hk, rfl⟩ := List.getElem?_eq_some_iff.1 hc
  unfold W
  congr 1
  show (((bs.map fun c => UInt8.ofBitVec c).toArray)[k]'(by simpa using hk)).toNat = _
  simp

theorem rmore_any (s : BitVec 32) (bs : List (BitVec 8)) (w : World) (hl : bs.length ≤ 100000) :
    Calls Try.prog 15 #[.int .u32 (V s), .string (S bs)] w fun e w' => e = .returned (.int .u32 (V (Crc.more s bs))) ∧ w = w' := by
  have sb := V_bd s
  have hz := S_size bs
  have hsz : (S bs).size ≤ 100000 := by omega
  have HZ := Lib.hid hz
  clear hz
  go_enter Try.func15, Try.ntmps15
  go_wp2_with fail
  go_loop [0, 5] (fun t i => ∃ k : Nat, k ≤ (S bs).size ∧ i = .int .i64 k ∧ t = .int .u32 (V (Crc.run (~~~s) (bs.take k)))) (fun _ i => (S bs).size - (intOf i).toNat)
  case atStart => exact ⟨0, by omega, rfl, by rw [V_not]; rfl⟩
  case round =>
    obtain ⟨k, hk, rfl, rfl⟩ := hrel
    by_cases hlt : k < (S bs).size
    · obtain ⟨c, hck⟩ : ∃ c, bs[k]? = some c := ⟨_, List.getElem?_eq_getElem (by have := HZ.out; omega)⟩
      have HK := Lib.hid (Crc.run_take (~~~s) bs k c hck)
      have HCK := Lib.hid hck
      clear hck
      obtain ⟨t, ht⟩ : ∃ t, Crc.run (~~~s) (bs.take k) = t := ⟨_, rfl⟩
      rw [ht] at HK ⊢
      clear ht
      have hdk : decide ((k : Int) < ((S bs).size : Int)) = true := by simp; omega
      go_wp2_with fail
      go_loop [0, 6] (fun t' i => ∃ n : Nat, n ≤ 8 ∧ i = .int .i64 n ∧ t' = .int .u32 (V (Crc.runBits t ((Crc.bbits c).take n)))) (fun _ i => 8 - (intOf i).toNat)
      case atStart => exact ⟨0, by omega, rfl, rfl⟩
      case round =>
        obtain ⟨n, hn, rfl, rfl⟩ := hrel
        by_cases hlt8 : n < 8
        · have hs := Lib.hid (bits_take c n hlt8 t)
          obtain ⟨u, hu⟩ : ∃ u, Crc.runBits t ((Crc.bbits c).take n) = u := ⟨_, rfl⟩
          rw [hu] at hs ⊢
          clear hu
          obtain ⟨bt, hbt⟩ : ∃ bt, c.getLsbD n = bt := ⟨_, rfl⟩
          rw [hbt] at hs
          have e0 := S_get bs k c hlt HCK.out
          have e1 : (bits .and .u8 (W c / 2 ^ n) 1 == 1) = bt := by
            rw [W_bit, hbt]; cases bt <;> rfl
          clear hbt
          go_wp2_with (go_at_call 13; refine (rstep_core u bt _).mono ?_; rintro e w' ⟨rfl, rfl⟩)
          go_round
          case rel => exact ⟨n + 1, by omega, by go_num, by rw [hs.out]⟩
          case measure => simp [intOf]; omega
        · obtain rfl : n = 8 := by omega
          have e8 := Lib.hid (Crc.runBits_byte t c)
          have e9 := Lib.hid (show (Crc.bbits c).take 8 = Crc.bbits c from rfl)
          go_wp2_with fail
          go_round
          case rel => exact ⟨k + 1, by omega, by go_num, by rw [HK.out, e9.out, e8.out]⟩
          case measure => simp [intOf]; omega
    · obtain rfl : k = (S bs).size := by omega
      have HL := Lib.hid (show bs.take (S bs).size = bs from List.take_of_length_le (by have := HZ.out; omega))
      have e := V_not (Crc.run (~~~s) (bs.take (S bs).size))
      go_wp2_with fail
      go_ret
      exact ⟨ret_int (by rw [HL.out]; rfl), rfl⟩
end Go.Proofs.Ytmdbnmigpniiaaa
