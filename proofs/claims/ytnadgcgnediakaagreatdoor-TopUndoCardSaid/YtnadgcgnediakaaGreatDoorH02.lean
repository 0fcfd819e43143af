/- The walks within a word: OnesCount64, Count of one word, low, Rank. The walks within a word: Put, Cut, Select. -/
import Derived.Test.YtnadgcgnediakaaGreatDoorRows
import Derived.Test.YtnadgcgnediakaaGreatDoorH01
import Derived.WalkKit
import Derived.ProofKit
import Derived.OpenShut
import Derived.Outline
import Derived.Lib.Hide
import Derived.Laws.BitsAllLaws
import Derived.Laws.Rows
import Derived.Laws.Bits128
namespace Go.Proofs.YtnadgcgnediakaaGreatDoor
open Go.ChangeShapes Go.WideShapes Go.ChangeAt Go.RowKit

theorem ret_int {k : IntKind} {a b : Int} (h : a = b) : Ending.returned (.int k a) = .returned (.int k b) := by rw [h]

/-- a word as the program has it -/
def X (s : BitVec 64) : Int := (s.toNat : Int)
theorem X_bd (s : BitVec 64) : 0 ≤ X s ∧ X s ≤ 18446744073709551615 := by unfold X; have := s.isLt; omega
def pop (s : BitVec 64) : Nat := Wd.cnt s.toNat.testBit 64

theorem ones_any (s : BitVec 64) (w : World) :
    Calls Tryz.prog 234 #[.int .u64 (X s)] w fun e w' => e = .returned (.int .i64 (pop s)) ∧ w = w' := by
  obtain ⟨y1, y2, y3, h1, h2, h3, l1, l2, y4, y5, y6, h4, h5, h6, l6, h7⟩ := Wd.rounds s.toNat s.isLt
  unfold X pop
  generalize hx : s.toNat = x at *
  have lx : x < 18446744073709551616 := by rw [← hx]; exact s.isLt
  have a1 : bits .and .u64 ((x : Int) / 2) 6148914691236517205 = ((x / 2 &&& 6148914691236517205 : Nat) : Int) := u64_and_nat (x / 2) 6148914691236517205 (by omega) (by omega)
  have a2 : bits .and .u64 (x : Int) 6148914691236517205 = ((x &&& 6148914691236517205 : Nat) : Int) := u64_and_nat x 6148914691236517205 (by omega) (by omega)
  have a3 : bits .and .u64 ((y1 : Int) / 4) 3689348814741910323 = ((y1 / 4 &&& 3689348814741910323 : Nat) : Int) := u64_and_nat (y1 / 4) 3689348814741910323 (by omega) (by omega)
  have a4 : bits .and .u64 (y1 : Int) 3689348814741910323 = ((y1 &&& 3689348814741910323 : Nat) : Int) := u64_and_nat y1 3689348814741910323 (by omega) (by omega)
  have s1 : ((x / 2 &&& 6148914691236517205 : Nat) : Int) + ((x &&& 6148914691236517205 : Nat) : Int) = y1 := by rw [← h1]; omega
  have s2 : ((y1 / 4 &&& 3689348814741910323 : Nat) : Int) + ((y1 &&& 3689348814741910323 : Nat) : Int) = y2 := by rw [← h2]; omega
  have a5 : bits .and .u64 ((y2 : Int) / 16 + (y2 : Int)) 1085102592571150095 = (y3 : Int) := by
    have h := u64_and_nat (y2 / 16 + y2) 1085102592571150095 (by omega) (by omega)
    rw [h3] at h
    rw [← h]; congr 1
  have s3 : (y3 : Int) + (y3 : Int) / 256 = y4 := by omega
  have s4 : (y4 : Int) + (y4 : Int) / 65536 = y5 := by omega
  have s5 : (y5 : Int) + (y5 : Int) / 4294967296 = y6 := by omega
  have a6 : bits .and .i64 (y6 : Int) 127 = (Wd.cnt x.testBit 64 : Nat) := by
    rw [i64_and127, ← h7, show (127 : Nat) = 2 ^ 7 - 1 from rfl, Nat.and_two_pow_sub_one_eq_mod]
    omega
  have b3 : y4 < 18446744073709551616 := by omega
  have b4 : y5 < 18446744073709551616 := by omega
  clear hx h1 h2 h3 h4 h5 h6 h7
  go_enter Tryz.func234, Tryz.ntmps234
  go_wp2_with fail
  go_ret
  exact ⟨rfl, rfl⟩

/-- a word's first bits alone -/
def lo (s : BitVec 64) (k : Nat) : BitVec 64 := BitVec.ofNat 64 (s.toNat % 2 ^ k)
theorem lo_toNat (s : BitVec 64) (k : Nat) : (lo s k).toNat = s.toNat % 2 ^ k := by
  unfold lo
  rw [BitVec.toNat_ofNat, Nat.mod_eq_of_lt]
  exact Nat.lt_of_le_of_lt (Nat.mod_le _ _) s.isLt
theorem lo_big (s : BitVec 64) (k : Nat) (h : 64 ≤ k) : lo s k = s := by
  apply BitVec.eq_of_toNat_eq
  rw [lo_toNat, Nat.mod_eq_of_lt]
  exact Nat.lt_of_lt_of_le s.isLt (Nat.pow_le_pow_right (by omega) h)

theorem low_any (s : BitVec 64) (k : Int) (w : World) (hk0 : -9223372036854775808 ≤ k) (hk : k ≤ 9223372036854775807) :
    Calls Tryz.prog 236 #[.int .u64 (X s), .int .i64 k] w fun e w' => e = .returned (.int .u64 (X (lo s k.toNat))) ∧ w = w' := by
  have hb := X_bd s
  by_cases h0 : k ≤ 0
  · have e : X (lo s k.toNat) = 0 := by
      unfold X; rw [lo_toNat, show k.toNat = 0 from by omega]; omega
    have he := Lib.hid e
    clear e
    go_enter Tryz.func236, Tryz.ntmps236
    go_wp2_with fail
    go_ret
    exact ⟨ret_int (by rw [he.out]), rfl⟩
  · by_cases h64 : 64 ≤ k
    · have e := Lib.hid (lo_big s k.toNat (by omega))
      go_enter Tryz.func236, Tryz.ntmps236
      go_wp2_with fail
      go_ret
      exact ⟨ret_int (by rw [e.out]), rfl⟩
    · obtain ⟨n, rfl⟩ := Int.eq_ofNat_of_zero_le (show 0 ≤ k by omega)
      have hn : n < 64 := by omega
      have hp : 2 ^ n < 18446744073709551616 := Nat.pow_lt_pow_right (a := 2) (by omega) hn
      have hq : 0 < 2 ^ n := Nat.pow_pos (by omega)
      have e2 : ((2 : Int) ^ n) = ((2 ^ n : Nat) : Int) := by rw [Int.natCast_pow]; rfl
      have w1 : IntKind.u64.wrap ((2 : Int) ^ n) = (2 : Int) ^ n := by
        rw [IntKind.wrap_u64]; omega
      have w2 : IntKind.u64.wrap ((2 : Int) ^ n - 1) = ((2 ^ n - 1 : Nat) : Int) := by
        rw [IntKind.wrap_u64]; omega
      clear e2
      have w3 : bits .and .u64 (X s) ((2 ^ n - 1 : Nat) : Int) = X (lo s n) := by
        unfold X
        rw [u64_and_nat _ _ s.isLt (by omega), Nat.and_two_pow_sub_one_eq_mod, lo_toNat]
      clear hp hq
      go_enter Tryz.func236, Tryz.ntmps236
      go_wp2_with fail
      go_ret
      exact ⟨rfl, rfl⟩

/-- ones of some words -/
def pops (ws : List (BitVec 64)) : Nat := (ws.map pop).sum
theorem pops_take (ws : List (BitVec 64)) (k : Nat) (s : BitVec 64) (h : ws[k]? = some s) : pops (ws.take (k + 1)) = pops (ws.take k) + pop s := by
  obtain ⟨hk, rfl⟩ := List.getElem?_eq_some_iff.1 h
  unfold pops
  rw [List.take_succ_eq_append_getElem hk]
  simp only [List.map_append, List.sum_append, List.map_cons, List.map_nil, List.sum_cons, List.sum_nil, Nat.add_zero]
theorem pop_le (s : BitVec 64) : pop s ≤ 64 := Wd.cnt_le _ _
theorem pops_le : ∀ ws : List (BitVec 64), pops ws ≤ 64 * ws.length
  | [] => by simp [pops]
  | s :: ws => by
    have := pops_le ws
    have := pop_le s
    simp only [pops, List.map_cons, List.sum_cons, List.length_cons] at *
    omega

theorem count_any (b off cap : Nat) (ws : List (BitVec 64)) (w : World) (hl : ws.length ≤ 100) (hc : ∀ i s, ws[i]? = some s → w.cell? ⟨b, off + i, none⟩ = some (.int .u64 (X s))) :
    Calls Tryz.prog 220 #[.slice (some ⟨b, off, none⟩) ws.length cap] w fun e w' => e = .returned (.int .i64 (pops ws)) ∧ w = w' := by
  have Hc := Lib.hid hc
  clear hc
  go_enter Tryz.func220, Tryz.ntmps220
  go_wp2_with fail
  go_loop [3, 8] (fun t i => ∃ k : Nat, k ≤ ws.length ∧ i = .int .i64 k ∧ t = .int .i64 (pops (ws.take k))) (fun _ i => ws.length - (intOf i).toNat)
  case atStart => exact ⟨0, by omega, rfl, rfl⟩
  case round =>
    obtain ⟨k, hk, rfl, rfl⟩ := hrel
    have hb := pops_le (ws.take k)
    have hm : (ws.take k).length ≤ 100 := by simp; omega
    by_cases hlt : k < ws.length
    · obtain ⟨s, hs⟩ : ∃ s, ws[k]? = some s := ⟨_, List.getElem?_eq_getElem hlt⟩
      have hcell := Hc.out k s hs
      have hp := pop_le s
      have e := Lib.hid (pops_take ws k s hs)
      clear hs
      go_wp2_with (go_at_call 234; refine (ones_any s _).mono ?_; rintro e w' ⟨rfl, rfl⟩)
      go_round
      case rel => exact ⟨k + 1, by omega, by go_num, by rw [e.out]; go_num⟩
      case measure => simp [intOf]; omega
    · obtain rfl : k = ws.length := by omega
      go_wp2_with fail
      go_ret
      exact ⟨rfl, rfl⟩

theorem pops_one (s : BitVec 64) : pops [s] = pop s := by simp [pops]
theorem count_one (b cap : Nat) (s : BitVec 64) (w : World) (hc : w.cell? ⟨b, 0, none⟩ = some (.int .u64 (X s))) :
    Calls Tryz.prog 220 #[.slice (some ⟨b, 0, none⟩) 1 cap] w fun e w' => e = .returned (.int .i64 (pop s)) ∧ w = w' := by
  have h := count_any b 0 cap [s] w (by simp) (by
    intro i t hi
    cases i with
    | zero => simp at hi; subst hi; exact hc
    | succ i => simp at hi)
  rw [pops_one] at h
  exact h

/-- Rank: a new block is laid -/
theorem rank_any (s : BitVec 64) (k : Int) (w : World) (hk0 : -9223372036854775808 ≤ k) (hk : k ≤ 9223372036854775807) :
    Calls Tryz.prog 225 #[.int .u64 (X s), .int .i64 k] w fun e w' => e = .returned (.int .i64 (pop (lo s k.toNat))) ∧ Below w.heap.size w w' := by
  go_enter Tryz.func225, Tryz.ntmps225
  go_wp2_with (go_at_call 236; refine (low_any s k _ hk0 hk).mono ?_; rintro e w' ⟨rfl, rfl⟩)
  refine (count_one _ _ (lo s k.toNat) _ (by simp)).mono ?_
  rintro e w' ⟨rfl, rfl⟩
  go_wp2_with fail
  go_ret
  exact ⟨rfl, (Below.refl _ _).alloc (Nat.le_refl _) _⟩
end Go.Proofs.YtnadgcgnediakaaGreatDoor
namespace Go.Proofs.YtnadgcgnediakaaGreatDoor
open Go.ChangeShapes Go.WideShapes Go.ChangeAt Go.RowKit

theorem X_or (s t : BitVec 64) : bits .or .u64 (X s) (X t) = X (s ||| t) := by
  unfold X; rw [u64_or_nat _ _ s.isLt t.isLt, BitVec.toNat_or]
theorem X_and (s t : BitVec 64) : bits .and .u64 (X s) (X t) = X (s &&& t) := by
  unfold X; rw [u64_and_nat _ _ s.isLt t.isLt, BitVec.toNat_and]
theorem X_andNot (s t : BitVec 64) : bits .andNot .u64 (X s) (X t) = X (s &&& ~~~t) := by
  unfold X
  rw [u64_andNot_nat _ _ s.isLt t.isLt, BitVec.toNat_and, BitVec.toNat_not]
theorem X_shl1 (s : BitVec 64) : IntKind.u64.wrap (X s * 2) = X (s <<< (1 : Nat)) := by
  unfold X
  rw [IntKind.wrap_u64, BitVec.toNat_shiftLeft, Nat.shiftLeft_eq]
  omega
theorem X_shr1 (s : BitVec 64) : X s / 2 = X (s >>> (1 : Nat)) := by
  unfold X; rw [BitVec.toNat_ushiftRight, Nat.shiftRight_eq_div_pow]; omega
theorem X_shl (n : Nat) (h : n < 64) : (2 : Int) ^ n = X (1#64 <<< n) := by
  have hp : 2 ^ n < 18446744073709551616 := Nat.pow_lt_pow_right (a := 2) (by omega) h
  unfold X
  rw [BitVec.toNat_shiftLeft, Nat.shiftLeft_eq, show (1#64).toNat = 1 from rfl, Nat.one_mul, Nat.mod_eq_of_lt (by omega), Int.natCast_pow]; rfl
theorem X_wrap (s : BitVec 64) : IntKind.u64.wrap (X s) = X s := by
  rw [IntKind.wrap_u64]; have := X_bd s; omega
theorem X_top (s : BitVec 64) : (X s / 9223372036854775808 == 1) = s.getLsbD 63 := by
  have := s.isLt
  unfold X
  rw [BitVec.getLsbD, Nat.testBit_eq_decide_div_mod_eq, Bool.eq_iff_iff, beq_iff_eq, decide_eq_true_eq]
  omega

/-- a bit is let in: the highest falls out -/
def putw (s : BitVec 64) (k : Nat) (b : Bool) : BitVec 64 := (lo s k ||| (if b = true then 1#64 <<< k else 0#64)) ||| ((s &&& ~~~(lo s k)) <<< (1 : Nat))

theorem ret_two {k : IntKind} {a b : Int} {x y : Bool} (h : a = b) (g : x = y) : Ending.returned (.tuple #[.int k a, .bool x]) = .returned (.tuple #[.int k b, .bool y]) := by rw [h, g]

theorem put_any (s : BitVec 64) (k : Nat) (b : Bool) (w : World) (hk : k < 64) :
    Calls Tryz.prog 246 #[.int .u64 (X s), .int .i64 k, .bool b] w fun e w' => e = .returned (.tuple #[.int .u64 (X (putw s k b)), .bool (s.getLsbD 63)]) ∧ w = w' := by
  have ht := X_top s
  have hp := X_shl k hk
  cases b
  · have hv := Lib.hid (show bits .or .u64 (bits .or .u64 (X (lo s k)) 0) (IntKind.u64.wrap (bits .andNot .u64 (X s) (X (lo s k)) * 2)) = X (putw s k false) from by
      rw [show (0 : Int) = X 0#64 from rfl, X_or, X_andNot, X_shl1, X_or]; rfl)
    go_enter Tryz.func246, Tryz.ntmps246
    go_wp2_with (go_at_call 236; refine (low_any s k _ (by omega) (by omega)).mono ?_; rintro e w' ⟨rfl, rfl⟩)
    go_ret2
    exact ⟨ret_two hv.out rfl, rfl⟩
  · have hv := Lib.hid (show bits .or .u64 (bits .or .u64 (X (lo s k)) (IntKind.u64.wrap (X (1#64 <<< k)))) (IntKind.u64.wrap (bits .andNot .u64 (X s) (X (lo s k)) * 2)) = X (putw s k true) from by
      rw [X_wrap, X_or, X_andNot, X_shl1, X_or]; rfl)
    go_enter Tryz.func246, Tryz.ntmps246
    go_wp2_with (go_at_call 236; refine (low_any s k _ (by omega) (by omega)).mono ?_; rintro e w' ⟨rfl, rfl⟩)
    go_ret2
    exact ⟨ret_two hv.out rfl, rfl⟩

/-- a bit is let out: another one is the highest then -/
def cutw (s : BitVec 64) (k : Nat) (b : Bool) : BitVec 64 := (lo s k ||| ((s >>> (1 : Nat)) &&& ~~~(lo (s >>> (1 : Nat)) k))) ||| (if b = true then 9223372036854775808#64 else 0#64)
theorem X_bit (s : BitVec 64) (k : Nat) : (bits .and .u64 (X s / 2 ^ k) 1 == 1) = s.getLsbD k := by
  have hs := s.isLt
  have hd : s.toNat / 2 ^ k ≤ s.toNat := Nat.div_le_self _ _
  have e0 : X s / (2 : Int) ^ k = ((s.toNat / 2 ^ k : Nat) : Int) := by unfold X; rw [Int.natCast_ediv, Int.natCast_pow]; rfl
  have e1 := u64_and_nat (s.toNat / 2 ^ k) 1 (by omega) (by omega)
  rw [e0, show (1 : Int) = ((1 : Nat) : Int) from rfl, e1, BitVec.getLsbD, Nat.testBit_eq_decide_div_mod_eq, show s.toNat / 2 ^ k &&& 1 = s.toNat / 2 ^ k % 2 from Nat.and_two_pow_sub_one_eq_mod _ 1, Bool.eq_iff_iff, beq_iff_eq, decide_eq_true_eq]
  omega

theorem cut_any (s : BitVec 64) (k : Nat) (b : Bool) (w : World) (hk : k < 64) :
    Calls Tryz.prog 237 #[.int .u64 (X s), .int .i64 k, .bool b] w fun e w' => e = .returned (.tuple #[.int .u64 (X (cutw s k b)), .bool (s.getLsbD k)]) ∧ w = w' := by
  have ht := X_bit s k
  have hr := X_shr1 s
  have hv : ∀ t, bits .or .u64 (bits .or .u64 (X (lo s k)) (bits .andNot .u64 (X (s >>> (1 : Nat))) (X (lo (s >>> (1 : Nat)) k)))) (X t) = X ((lo s k ||| ((s >>> (1 : Nat)) &&& ~~~(lo (s >>> (1 : Nat)) k))) ||| t) := by
    intro t
    rw [X_andNot, X_or, X_or]
  have Hv := Lib.hid hv
  clear hv
  cases b
  · go_enter Tryz.func237, Tryz.ntmps237
    go_wp2_with fail
    refine (low_any s k _ (by omega) (by omega)).mono ?_; rintro e w' ⟨rfl, rfl⟩
    go_wp2_with fail
    refine (low_any (s >>> (1 : Nat)) k _ (by omega) (by omega)).mono ?_; rintro e w' ⟨rfl, rfl⟩
    go_wp2_with fail
    go_ret2
    exact ⟨ret_two (Hv.out 0#64) rfl, rfl⟩
  · go_enter Tryz.func237, Tryz.ntmps237
    go_wp2_with fail
    refine (low_any s k _ (by omega) (by omega)).mono ?_; rintro e w' ⟨rfl, rfl⟩
    go_wp2_with fail
    refine (low_any (s >>> (1 : Nat)) k _ (by omega) (by omega)).mono ?_; rintro e w' ⟨rfl, rfl⟩
    go_wp2_with fail
    go_ret2
    exact ⟨ret_two (Hv.out 9223372036854775808#64) rfl, rfl⟩
end Go.Proofs.YtnadgcgnediakaaGreatDoor
