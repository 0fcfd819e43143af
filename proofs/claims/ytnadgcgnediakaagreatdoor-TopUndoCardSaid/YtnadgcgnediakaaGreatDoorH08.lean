/- The walks of block: Insert, Delete. The walk of block.Delete. block.Insert and block.Delete: a bit is let in, let out. -/
import Derived.Test.YtnadgcgnediakaaGreatDoorH06
import Derived.Deep.RegionWith
import Derived.BigRegion
namespace Go.Proofs.YtnadgcgnediakaaGreatDoor
open Go.ChangeShapes Go.WideShapes Go.ChangeAt Go.RowKit

theorem lo_bit (s : BitVec 64) (k i : Nat) : (lo s k).getLsbD i = (decide (i < k) && s.getLsbD i) := by
  rw [BitVec.getLsbD, lo_toNat, Nat.testBit_mod_two_pow]; rfl
theorem putw_bit (s : BitVec 64) (k : Nat) (b : Bool) (i : Nat) (hk : k < 64) (hi : i < 64) : (putw s k b).getLsbD i = if i < k then s.getLsbD i else if i = k then b else s.getLsbD (i - 1) := by
  unfold putw
  have h1 : (if b = true then 1#64 <<< k else 0#64).getLsbD i = (b && decide (i = k)) := by
    cases b
    · simp
    · rw [if_pos rfl, BitVec.getLsbD_shiftLeft]
      by_cases h : i < k
      · simp [h]; omega
      · simp [h, hi]
        omega
  rw [BitVec.getLsbD_or, BitVec.getLsbD_or, h1, BitVec.getLsbD_shiftLeft, BitVec.getLsbD_and, BitVec.getLsbD_not, lo_bit, lo_bit]
  by_cases h : i < k
  · have h3 : ¬ i = k := by omega
    by_cases h0 : i = 0
    · subst h0; simp [h, h3]
    · have h2 : i - 1 < k := by omega
      simp [h, h3, h2]
      cases s.getLsbD (i - 1) <;> simp
  · by_cases h3 : i = k
    · subst h3
      by_cases h0 : i = 0
      · subst h0; simp
      · have h2 : i - 1 < i := by omega
        simp [h2]
        cases s.getLsbD (i - 1) <;> simp
    · have h2 : ¬ i - 1 < k := by omega
      have h4 : ¬ i < 1 := by omega
      have h5 : i - 1 < 64 := by omega
      simp [h, h3, h2, h4, h5, hi]
theorem cutw_bit (s : BitVec 64) (k : Nat) (b : Bool) (i : Nat) (hk : k < 64) (hi : i < 64) : (cutw s k b).getLsbD i = if i < k then s.getLsbD i else if i = 63 then b else s.getLsbD (i + 1) := by
  unfold cutw
  have h1 : (if b = true then 9223372036854775808#64 else 0#64).getLsbD i = (b && decide (i = 63)) := by
    cases b
    · simp
    · rw [if_pos rfl, show (9223372036854775808#64) = 1#64 <<< (63 : Nat) from by decide, BitVec.getLsbD_shiftLeft]
      by_cases h : i = 63
      · subst h; decide
      · have : i < 63 := by omega
        simp [this, h]
  rw [BitVec.getLsbD_or, BitVec.getLsbD_or, h1, BitVec.getLsbD_and, BitVec.getLsbD_not, lo_bit, lo_bit, BitVec.getLsbD_ushiftRight, Nat.add_comm 1 i]
  by_cases h : i < k
  · have h3 : ¬ i = 63 := by omega
    simp [h, h3]
    cases s.getLsbD (i + 1) <;> simp
  · by_cases h3 : i = 63
    · subst h3
      simp [h]
    · simp [h, h3, hi]
theorem getD_insertIdx {α : Type} (l : List α) (k : Nat) (b d : α) (i : Nat) (hk : k ≤ l.length) : (l.insertIdx k b).getD i d = if i < k then l.getD i d else if i = k then b else l.getD (i - 1) d := by
  rw [List.getD_eq_getElem?_getD, List.getElem?_insertIdx]
  split
  · rw [List.getD_eq_getElem?_getD]
  · split
    · rename_i h; rw [if_pos (by omega)]; rfl
    · rw [List.getD_eq_getElem?_getD]
theorem getD_eraseIdx {α : Type} (l : List α) (k : Nat) (d : α) (i : Nat) : (l.eraseIdx k).getD i d = if i < k then l.getD i d else l.getD (i + 1) d := by
  rw [List.getD_eq_getElem?_getD, List.getElem?_eraseIdx]
  split
  · rw [List.getD_eq_getElem?_getD]
  · rw [List.getD_eq_getElem?_getD]

theorem put_c (s : BitVec 64) (k : Nat) (b c : Bool) (z : BitVec 64) (w : World) (hk : k < 64) (hc : s.getLsbD 63 = c) (hz : putw s k b = z) :
    Calls Tryz.prog 246 #[.int .u64 (X s), .int .i64 k, .bool b] w fun e w' => e = .returned (.tuple #[.int .u64 (X z), .bool c]) ∧ w = w' := by
  subst hc; subst hz; exact put_any s k b w hk
theorem ins_lo (g : Nat) (l : List Bool) (w0 w1 z0 z1 : BitVec 64) (k : Nat) (b c d : Bool) (w : World) (h : IsBlock w g l w0 w1) (hk : k ≤ l.length) (hl : l.length < 128) (h64 : k < 64)
    (hc : w0.getLsbD 63 = c) (hd : w1.getLsbD 63 = d) (hz0 : putw w0 k b = z0) (hz1 : putw w1 0 c = z1) :
    Calls Tryz.prog 233 #[.pointer (some ⟨g, 0, none⟩), .int .i64 k, .bool b] w fun e w' => e = .returned (.int .i64 0) ∧ w' = (((w.setCell ⟨g, 1, none⟩ (.int .u64 (X z0))).setCell ⟨g, 2, none⟩ (.int .u64 (X z1))).setCell ⟨g, 0, none⟩ (.int .i64 (l.length + 1 : Nat))).drewN 2 := by
  have hn := h.n
  have h0 := h.c0
  have h1 := h.c1
  have f0 := h.f0
  have f1 := h.f1
  have f2 := h.f2
  have q1 : (k : Int).tdiv 64 = 0 := by rw [Int.tdiv_eq_ediv_of_nonneg (by omega)]; omega
  have q2 : (k : Int).tmod 64 = k := by rw [Int.tmod_eq_emod_of_nonneg (by omega)]; omega
  have e1 : (l.length == 128) = false := by simp; omega
  have p0 := fun wx => put_c w0 k b c z0 wx h64 hc hz0
  have p1 := fun wx => put_c w1 0 c d z1 wx (by omega) hd hz1
  have P0 := Lib.hid p0
  have P1 := Lib.hid p1
  clear h hc hd hz0 hz1 p0 p1
  go_enter Tryz.func233, Tryz.ntmps233
  go_wp2_with fail
  refine wp_loop_rounds 3 ?_
  rw [rounds_succ]
  go_wp2_with fail
  go_region_with (first | (go_at_call 246; refine (P0.out _).mono ?_; rintro e w' ⟨rfl, rfl⟩))
  go_wp2_with fail
  rw [rounds_succ]
  go_wp2_with fail
  go_region_with (first | (go_at_call 246; refine (P1.out _).mono ?_; rintro e w' ⟨rfl, rfl⟩))
  go_wp2_with fail
  rw [rounds_succ]
  go_wp2_with fail
  go_ret
  exact ⟨rfl, by rw [Int.natCast_succ]; rfl⟩
theorem ins_hi (g : Nat) (l : List Bool) (w0 w1 z1 : BitVec 64) (k m : Nat) (b d : Bool) (w : World) (h : IsBlock w g l w0 w1) (hk : k ≤ l.length) (hl : l.length < 128) (h64 : k = 64 + m)
    (hd : w1.getLsbD 63 = d) (hz1 : putw w1 m b = z1) :
    Calls Tryz.prog 233 #[.pointer (some ⟨g, 0, none⟩), .int .i64 k, .bool b] w fun e w' => e = .returned (.int .i64 0) ∧ w' = ((w.setCell ⟨g, 2, none⟩ (.int .u64 (X z1))).setCell ⟨g, 0, none⟩ (.int .i64 (l.length + 1 : Nat))).drewN 1 := by
  have hn := h.n
  have h0 := h.c0
  have h1 := h.c1
  have f0 := h.f0
  have f1 := h.f1
  have f2 := h.f2
  have q1 : (k : Int).tdiv 64 = 1 := by rw [Int.tdiv_eq_ediv_of_nonneg (by omega)]; omega
  have q2 : (k : Int).tmod 64 = m := by rw [Int.tmod_eq_emod_of_nonneg (by omega)]; omega
  have e1 : (l.length == 128) = false := by simp; omega
  have p1 := fun wx => put_c w1 m b d z1 wx (by omega) hd hz1
  have P1 := Lib.hid p1
  have h65 : 64 ≤ k := by omega
  clear h hd hz1 p1 h64
  go_enter Tryz.func233, Tryz.ntmps233
  go_wp2_with fail
  refine wp_loop_rounds 3 ?_
  rw [rounds_succ]
  go_wp2_with fail
  go_region_with (first | (go_at_call 246; refine (P1.out _).mono ?_; rintro e w' ⟨rfl, rfl⟩))
  go_wp2_with fail
  rw [rounds_succ]
  go_wp2_with fail
  go_ret
  exact ⟨rfl, by rw [Int.natCast_succ]; rfl⟩
end Go.Proofs.YtnadgcgnediakaaGreatDoor
namespace Go.Proofs.YtnadgcgnediakaaGreatDoor
open Go.ChangeShapes Go.WideShapes Go.ChangeAt Go.RowKit

theorem cut_c (s : BitVec 64) (k : Nat) (b c : Bool) (z : BitVec 64) (w : World) (hk : k < 64) (hc : s.getLsbD k = c) (hz : cutw s k b = z) :
    Calls Tryz.prog 237 #[.int .u64 (X s), .int .i64 k, .bool b] w fun e w' => e = .returned (.tuple #[.int .u64 (X z), .bool c]) ∧ w = w' := by
  subst hc; subst hz; exact cut_any s k b w hk
set_option maxHeartbeats 1000000 in
theorem del_lo (g : Nat) (l : List Bool) (w0 w1 z0 z1 : BitVec 64) (k : Nat) (c d : Bool) (w : World) (h : IsBlock w g l w0 w1) (hk : k < l.length) (h64 : k < 64)
    (hc : w1.getLsbD 0 = c) (hd : w0.getLsbD k = d) (hz0 : cutw w0 k c = z0) (hz1 : cutw w1 0 false = z1) :
    Calls Tryz.prog 226 #[.pointer (some ⟨g, 0, none⟩), .int .i64 k] w fun e w' => e = .returned (.tuple #[.bool d, .int .i64 0]) ∧ w' = (((w.setCell ⟨g, 2, none⟩ (.int .u64 (X z1))).setCell ⟨g, 1, none⟩ (.int .u64 (X z0))).setCell ⟨g, 0, none⟩ (.int .i64 (l.length - 1 : Nat))).drewN 2 := by
  have hn := h.n
  have h0 := h.c0
  have h1 := h.c1
  have f0 := h.f0
  have f1 := h.f1
  have f2 := h.f2
  have hlen := h.len
  have q1 : (k : Int).tdiv 64 = 0 := by rw [Int.tdiv_eq_ediv_of_nonneg (by omega)]; omega
  have q2 : (k : Int).tmod 64 = k := by rw [Int.tmod_eq_emod_of_nonneg (by omega)]; omega
  have e1 : (l.length : Int) - 1 = (l.length - 1 : Nat) := by omega
  have hh := bhas_any g l w0 w1 k w h
  rw [if_pos (by omega)] at hh
  have HH := Lib.hid hh
  have p0 := fun wx => cut_c w0 k c d z0 wx h64 hd hz0
  have p1 := fun wx => cut_c w1 0 false c z1 wx (by omega) hc hz1
  have P0 := Lib.hid p0
  have P1 := Lib.hid p1
  clear h hc hd hz0 hz1 p0 p1 hh
  have e2 := Lib.hid e1
  clear e1
  go_enter Tryz.func226, Tryz.ntmps226
  go_wp2_with fail
  refine HH.out.mono ?_
  rintro e w' ⟨rfl, rfl⟩
  go_wp2_with fail
  refine wp_loop_rounds 3 ?_
  rw [rounds_succ]
  go_wp2_with fail
  go_region_with (first | (go_at_call 237; refine (P1.out _).mono ?_; rintro e w' ⟨rfl, rfl⟩))
  go_wp2_with fail
  rw [rounds_succ]
  go_wp2_with fail
  go_region_with (first | (go_at_call 237; refine (P0.out _).mono ?_; rintro e w' ⟨rfl, rfl⟩))
  go_wp2_with fail
  go_ret2
  exact ⟨rfl, by rw [← e2.out]; rfl⟩
set_option maxHeartbeats 1000000 in
theorem del_hi (g : Nat) (l : List Bool) (w0 w1 z1 : BitVec 64) (k m : Nat) (d : Bool) (w : World) (h : IsBlock w g l w0 w1) (hk : k < l.length) (h64 : k = 64 + m)
    (hd : w1.getLsbD m = d) (hz1 : cutw w1 m false = z1) :
    Calls Tryz.prog 226 #[.pointer (some ⟨g, 0, none⟩), .int .i64 k] w fun e w' => e = .returned (.tuple #[.bool d, .int .i64 0]) ∧ w' = ((w.setCell ⟨g, 2, none⟩ (.int .u64 (X z1))).setCell ⟨g, 0, none⟩ (.int .i64 (l.length - 1 : Nat))).drewN 1 := by
  have hn := h.n
  have h0 := h.c0
  have h1 := h.c1
  have f0 := h.f0
  have f1 := h.f1
  have f2 := h.f2
  have hlen := h.len
  have q1 : (k : Int).tdiv 64 = 1 := by rw [Int.tdiv_eq_ediv_of_nonneg (by omega)]; omega
  have q2 : (k : Int).tmod 64 = m := by rw [Int.tmod_eq_emod_of_nonneg (by omega)]; omega
  have e1 : (l.length : Int) - 1 = (l.length - 1 : Nat) := by omega
  have hh := bhas_any g l w0 w1 k w h
  rw [if_pos (by omega)] at hh
  have HH := Lib.hid hh
  have p1 := fun wx => cut_c w1 m false d z1 wx (by omega) hd hz1
  have P1 := Lib.hid p1
  have h65 : 64 ≤ k := by omega
  clear h hd hz1 p1 h64 hh
  have e2 := Lib.hid e1
  clear e1
  go_enter Tryz.func226, Tryz.ntmps226
  go_wp2_with fail
  refine HH.out.mono ?_
  rintro e w' ⟨rfl, rfl⟩
  go_wp2_with fail
  refine wp_loop_rounds 3 ?_
  rw [rounds_succ]
  go_wp2_with fail
  go_region_with (first | (go_at_call 237; refine (P1.out _).mono ?_; rintro e w' ⟨rfl, rfl⟩))
  go_wp2_with fail
  go_ret2
  exact ⟨rfl, by rw [← e2.out]; rfl⟩
end Go.Proofs.YtnadgcgnediakaaGreatDoor
namespace Go.Proofs.YtnadgcgnediakaaGreatDoor
open Go.ChangeShapes Go.WideShapes Go.ChangeAt Go.RowKit

theorem binsert_any (g : Nat) (l : List Bool) (k : Nat) (b : Bool) (w : World) (h : IsBlk w g l) (hk : k ≤ l.length) (hl : l.length < 128) :
    Calls Tryz.prog 233 #[.pointer (some ⟨g, 0, none⟩), .int .i64 k, .bool b] w fun e w' => e = .returned (.int .i64 0) ∧ Only g w w' ∧ IsBlk w' g (l.insertIdx k b) := by
  obtain ⟨w0, w1, hb, hh⟩ := h.cells
  have hlen : (l.insertIdx k b).length = l.length + 1 := List.length_insertIdx_of_le_length hk b
  by_cases h64 : k < 64
  · refine (ins_lo g l w0 w1 _ _ k b _ _ w hb hk hl h64 rfl rfl rfl rfl).mono ?_
    rintro e w' ⟨rfl, rfl⟩
    refine ⟨rfl, (((((Only.refl g w).set 1 _).set 2 _).set 0 _).drewN 2), putw w0 k b, putw w1 0 (w0.getLsbD 63), ?_, by omega, ?_, ?_⟩
    · rw [heap_drewN]
      have := Joins.block_setCell (i := 0) (Joins.block_setCell (i := 2) (Joins.block_setCell (i := 1) hh (.int .u64 (X (putw w0 k b)))) (.int .u64 (X (putw w1 0 (w0.getLsbD 63))))) (.int .i64 (l.length + 1 : Nat))
      rw [this, hlen]
      rfl
    · intro i hi
      rw [putw_bit _ _ _ _ h64 hi, getD_insertIdx _ _ _ _ _ hk]
      split
      · exact hb.b0 i hi
      · split
        · rfl
        · exact hb.b0 (i - 1) (by omega)
    · intro i hi
      have e2 : (l.insertIdx k b).getD (64 + i) false = l.getD (64 + i - 1) false := by
        rw [getD_insertIdx _ _ _ _ _ hk, if_neg (by omega), if_neg (by omega)]
      rw [putw_bit _ _ _ _ (by omega) hi, if_neg (by omega), e2]
      split
      · rename_i h0
        subst h0
        exact hb.b0 63 (by omega)
      · rw [hb.b1 (i - 1) (by omega)]
        congr 1; omega
  · refine (ins_hi g l w0 w1 _ k (k - 64) b _ w hb hk hl (by omega) rfl rfl).mono ?_
    rintro e w' ⟨rfl, rfl⟩
    refine ⟨rfl, (((Only.refl g w).set 2 _).set 0 _).drewN 1, w0, putw w1 (k - 64) b, ?_, by omega, ?_, ?_⟩
    · rw [heap_drewN]
      have := Joins.block_setCell (i := 0) (Joins.block_setCell (i := 2) hh (.int .u64 (X (putw w1 (k - 64) b)))) (.int .i64 (l.length + 1 : Nat))
      rw [this, hlen]
      rfl
    · intro i hi
      rw [getD_insertIdx _ _ _ _ _ hk, if_pos (by omega)]
      exact hb.b0 i hi
    · intro i hi
      have e2 : (l.insertIdx k b).getD (64 + i) false = if i < k - 64 then l.getD (64 + i) false else if i = k - 64 then b else l.getD (64 + i - 1) false := by
        rw [getD_insertIdx _ _ _ _ _ hk]
        by_cases h1 : i < k - 64
        · rw [if_pos h1, if_pos (by omega)]
        · rw [if_neg h1, if_neg (show ¬ 64 + i < k by omega)]
          by_cases h2 : i = k - 64
          · rw [if_pos h2, if_pos (show 64 + i = k by omega)]
          · rw [if_neg h2, if_neg (show ¬ 64 + i = k by omega)]
      rw [putw_bit _ _ _ _ (by omega) hi, e2]
      by_cases h1 : i < k - 64
      · rw [if_pos h1, if_pos h1]; exact hb.b1 i hi
      · rw [if_neg h1, if_neg h1]
        by_cases h2 : i = k - 64
        · rw [if_pos h2, if_pos h2]
        · rw [if_neg h2, if_neg h2, hb.b1 (i - 1) (by omega)]
          congr 1; omega

theorem bdelete_any (g : Nat) (l : List Bool) (k : Nat) (w : World) (h : IsBlk w g l) (hk : k < l.length) :
    Calls Tryz.prog 226 #[.pointer (some ⟨g, 0, none⟩), .int .i64 k] w fun e w' => e = .returned (.tuple #[.bool (l.getD k false), .int .i64 0]) ∧ Only g w w' ∧ IsBlk w' g (l.eraseIdx k) := by
  obtain ⟨w0, w1, hb, hh⟩ := h.cells
  have hlen : (l.eraseIdx k).length = l.length - 1 := List.length_eraseIdx_of_lt hk
  have hl := hb.len
  by_cases h64 : k < 64
  · refine (del_lo g l w0 w1 _ _ k _ _ w hb hk h64 rfl (hb.b0 k h64) rfl rfl).mono ?_
    rintro e w' ⟨rfl, rfl⟩
    refine ⟨rfl, (((((Only.refl g w).set 2 _).set 1 _).set 0 _).drewN 2), cutw w0 k (w1.getLsbD 0), cutw w1 0 false, ?_, by omega, ?_, ?_⟩
    · rw [heap_drewN]
      have := Joins.block_setCell (i := 0) (Joins.block_setCell (i := 1) (Joins.block_setCell (i := 2) hh (.int .u64 (X (cutw w1 0 false)))) (.int .u64 (X (cutw w0 k (w1.getLsbD 0))))) (.int .i64 (l.length - 1 : Nat))
      rw [this, hlen]
      rfl
    · intro i hi
      rw [cutw_bit _ _ _ _ h64 hi, getD_eraseIdx]
      split
      · exact hb.b0 i hi
      · split
        · rename_i h0
          subst h0
          exact hb.b1 0 (by omega)
        · exact hb.b0 (i + 1) (by omega)
    · intro i hi
      have e2 : (l.eraseIdx k).getD (64 + i) false = l.getD (64 + i + 1) false := by
        rw [getD_eraseIdx, if_neg (by omega)]
      rw [cutw_bit _ _ _ _ (by omega) hi, if_neg (by omega), e2]
      split
      · rename_i h0
        subst h0
        rw [List.getD_eq_getElem?_getD, List.getElem?_eq_none (by omega)]; rfl
      · rw [hb.b1 (i + 1) (by omega)]
        congr 1
  · refine (del_hi g l w0 w1 _ k (k - 64) _ w hb hk (by omega) rfl rfl).mono ?_
    rintro e w' ⟨rfl, rfl⟩
    refine ⟨by rw [hb.b1 (k - 64) (by omega), show 64 + (k - 64) = k from by omega], (((Only.refl g w).set 2 _).set 0 _).drewN 1, w0, cutw w1 (k - 64) false, ?_, by omega, ?_, ?_⟩
    · rw [heap_drewN]
      have := Joins.block_setCell (i := 0) (Joins.block_setCell (i := 2) hh (.int .u64 (X (cutw w1 (k - 64) false)))) (.int .i64 (l.length - 1 : Nat))
      rw [this, hlen]
      rfl
    · intro i hi
      rw [getD_eraseIdx, if_pos (by omega)]
      exact hb.b0 i hi
    · intro i hi
      have e2 : (l.eraseIdx k).getD (64 + i) false = if i < k - 64 then l.getD (64 + i) false else l.getD (64 + i + 1) false := by
        rw [getD_eraseIdx]
        by_cases h1 : i < k - 64
        · rw [if_pos h1, if_pos (by omega)]
        · rw [if_neg h1, if_neg (show ¬ 64 + i < k by omega)]
      rw [cutw_bit _ _ _ _ (by omega) hi, e2]
      by_cases h1 : i < k - 64
      · rw [if_pos h1, if_pos h1]; exact hb.b1 i hi
      · rw [if_neg h1, if_neg h1]
        split
        · rename_i h0
          subst h0
          rw [List.getD_eq_getElem?_getD, List.getElem?_eq_none (by omega)]; rfl
        · rw [hb.b1 (i + 1) (by omega)]
          congr 1
end Go.Proofs.YtnadgcgnediakaaGreatDoor
