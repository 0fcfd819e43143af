/- The walk of Select within a word. The walks of block: Len, Ones, has, Get, Rank. The walk of block.Rank. -/
import Derived.Test.YtnadgcgnediakaaGreatDoorH02
import Derived.Test.YtnadgcgnediakaaGreatDoorH04
namespace Go.Proofs.YtnadgcgnediakaaGreatDoor
open Go.ChangeShapes Go.WideShapes Go.ChangeAt Go.RowKit

/-- the table of math/bits lies as its initialiser lays it -/
abbrev Tab (w : World) : Prop := TabAt 0 Lib.deBruijn64tab w
theorem tz_any (s : BitVec 64) (w : World) (hT : Tab w) :
    Calls Tryz.prog 235 #[.int .u64 (X s)] w fun e w' => e = .returned (.int .i64 (Lib.ctz 64 s.toNat)) ∧ w' = w :=
  Any7.bits_TrailingZeros64 Tryz.lays29 s.toNat s.isLt w (fun _ => hT)
/-- without its lowest one -/
def less1 (s : BitVec 64) : BitVec 64 := s &&& (s - 1#64)
def lessN : Nat → BitVec 64 → BitVec 64
  | 0, s => s
  | n + 1, s => less1 (lessN n s)
theorem X_dec (s : BitVec 64) : IntKind.u64.wrap (X s - 1) = X (s - 1#64) := by
  have := s.isLt
  unfold X
  rw [IntKind.wrap_u64, BitVec.toNat_sub]
  simp only [BitVec.reduceToNat]
  omega
theorem X_less1 (s : BitVec 64) : bits .and .u64 (X s) (IntKind.u64.wrap (X s - 1)) = X (less1 s) := by
  rw [X_dec, X_and]; rfl

/-- which of a word's ones has j ahead -/
def selw (s : BitVec 64) (j : Int) : Int := if 0 ≤ j ∧ j < pop s then Lib.ctz 64 (lessN j.toNat s).toNat else -1

theorem Tab.lt {w : World} (h : Tab w) : 0 < w.heap.size := by
  have h0 := h 0 (by decide)
  refine Nat.lt_of_not_le fun hs => ?_
  have hz : w.heap.size = 0 := by omega
  simp [World.cell?, hz] at h0
theorem Tab.below {w w' : World} (h : Tab w) (hb : Below w.heap.size w w') : Tab w' := fun j hj => by
  have hlt := h.lt
  rw [hb.cell (p := ⟨0, j, none⟩) hlt]
  exact h j hj

theorem sel_any (s : BitVec 64) (j : Int) (w : World) (hT : Tab w) (hj0 : -9223372036854775808 ≤ j) (hj : j ≤ 9223372036854775807) :
    Calls Tryz.prog 221 #[.int .u64 (X s), .int .i64 j] w fun e w' => e = .returned (.int .i64 (selw s j)) ∧ Below w.heap.size w w' := by
  by_cases h0 : j < 0
  · have e := Lib.hid (show selw s j = -1 from by rw [selw, if_neg (by omega)])
    go_enter Tryz.func221, Tryz.ntmps221
    go_wp2_with fail
    go_ret
    exact ⟨ret_int (by rw [e.out]), Below.refl _ _⟩
  · by_cases hp : (pop s : Int) ≤ j
    · have e := Lib.hid (show selw s j = -1 from by rw [selw, if_neg (by omega)])
      go_enter Tryz.func221, Tryz.ntmps221
      go_wp2_with fail
      refine (count_one _ _ s _ (by simp)).mono ?_
      rintro e w' ⟨rfl, rfl⟩
      go_wp2_with fail
      go_ret
      exact ⟨ret_int (by rw [e.out]), (Below.refl _ _).alloc (Nat.le_refl _) _⟩
    · obtain ⟨n, rfl⟩ := Int.eq_ofNat_of_zero_le (show 0 ≤ j by omega)
      have e := Lib.hid (show selw s n = Lib.ctz 64 (lessN n s).toNat from by rw [selw, if_pos (by omega)]; rfl)
      have hb : Below w.heap.size w (w.alloc (Obj.cells #[.int .u64 (X s)] 94)) := (Below.refl _ _).alloc (Nat.le_refl _) _
      have hT2 := hT.below hb
      go_enter Tryz.func221, Tryz.ntmps221
      go_wp2_with fail
      refine (count_one _ _ s _ (by simp)).mono ?_
      rintro e w' ⟨rfl, rfl⟩
      go_wp2_with fail
      go_loop [0, 15] (fun t i => ∃ k : Nat, k ≤ n ∧ i = .int .i64 k ∧ t = .int .u64 (X (lessN k s))) (fun _ i => n - (intOf i).toNat)
      case atStart => exact ⟨0, by omega, rfl, rfl⟩
      case round =>
        obtain ⟨k, hk, rfl, rfl⟩ := hrel
        by_cases hlt : k < n
        · have hx := X_less1 (lessN k s)
          go_wp2_with fail
          go_round
          case rel => exact ⟨k + 1, by omega, by go_num, rfl⟩
          case measure => simp [intOf]; omega
        · obtain rfl : k = n := by omega
          go_wp2_with (go_at_call 235; refine (tz_any _ _ hT2).mono ?_; rintro e w' ⟨rfl, rfl⟩)
          go_ret
          exact ⟨ret_int (by rw [e.out]), hb⟩
end Go.Proofs.YtnadgcgnediakaaGreatDoor
namespace Go.Proofs.YtnadgcgnediakaaGreatDoor
open Go.ChangeShapes Go.WideShapes Go.ChangeAt Go.RowKit

/-- a block of bits lies at g -/
structure IsBlock (w : World) (g : Nat) (l : List Bool) (w0 w1 : BitVec 64) : Prop where
  len : l.length ≤ 128
  n : w.cell? ⟨g, 0, none⟩ = some (.int .i64 l.length)
  c0 : w.cell? ⟨g, 1, none⟩ = some (.int .u64 (X w0))
  c1 : w.cell? ⟨g, 2, none⟩ = some (.int .u64 (X w1))
  f0 : w.frozen? ⟨g, 0, none⟩ = false
  f1 : w.frozen? ⟨g, 1, none⟩ = false
  f2 : w.frozen? ⟨g, 2, none⟩ = false
  b0 : ∀ i, i < 64 → w0.getLsbD i = l.getD i false
  b1 : ∀ i, i < 64 → w1.getLsbD i = l.getD (64 + i) false

theorem blen_any (g : Nat) (l : List Bool) (w0 w1 : BitVec 64) (w : World) (h : IsBlock w g l w0 w1) :
    Calls Tryz.prog 231 #[.pointer (some ⟨g, 0, none⟩)] w fun e w' => e = .returned (.int .i64 l.length) ∧ w = w' := by
  have hn := h.n
  go_enter Tryz.func231, Tryz.ntmps231
  go_wp2_with fail
  go_ret
  exact ⟨rfl, rfl⟩
theorem bones_any (g : Nat) (l : List Bool) (w0 w1 : BitVec 64) (w : World) (h : IsBlock w g l w0 w1) :
    Calls Tryz.prog 238 #[.pointer (some ⟨g, 0, none⟩)] w fun e w' => e = .returned (.int .i64 (pop w0 + pop w1 : Nat)) ∧ w = w' := by
  go_enter Tryz.func238, Tryz.ntmps238
  go_wp2_with fail
  refine (count_any g 1 2 [w0, w1] _ (by simp) ?_).mono ?_
  · intro i s hi
    match i with
    | 0 => simp at hi; subst hi; exact h.c0
    | 1 => simp at hi; subst hi; exact h.c1
    | i + 2 => simp at hi
  rintro e w' ⟨rfl, rfl⟩
  go_wp2_with fail
  go_ret
  exact ⟨by simp [pops], rfl⟩
theorem bhas_any (g : Nat) (l : List Bool) (w0 w1 : BitVec 64) (k : Int) (w : World) (h : IsBlock w g l w0 w1) :
    Calls Tryz.prog 213 #[.pointer (some ⟨g, 0, none⟩), .int .i64 k] w fun e w' => e = .returned (.int .i64 (if 0 ≤ k ∧ k < l.length then 0 else 2)) ∧ w = w' := by
  have hn := h.n
  by_cases hk : 0 ≤ k ∧ k < l.length
  · have e := Lib.hid (if_pos hk : (if 0 ≤ k ∧ k < l.length then (0 : Int) else 2) = 0)
    obtain ⟨k0, k1⟩ := hk
    go_enter Tryz.func213, Tryz.ntmps213
    go_wp2_with fail
    go_ret
    exact ⟨rfl, rfl⟩
  · have e := Lib.hid (if_neg hk : (if 0 ≤ k ∧ k < l.length then (0 : Int) else 2) = 2)
    by_cases k0 : k < 0
    · clear hk
      go_enter Tryz.func213, Tryz.ntmps213
      go_wp2_with fail
      go_ret
      exact ⟨rfl, rfl⟩
    · have k1 : l.length ≤ k := by omega
      clear hk
      go_enter Tryz.func213, Tryz.ntmps213
      go_wp2_with fail
      go_ret
      exact ⟨rfl, rfl⟩

theorem bget_any (g : Nat) (l : List Bool) (w0 w1 : BitVec 64) (k : Nat) (w : World) (h : IsBlock w g l w0 w1) (hk : k < l.length) :
    Calls Tryz.prog 189 #[.pointer (some ⟨g, 0, none⟩), .int .i64 k] w fun e w' => e = .returned (.tuple #[.bool (l.getD k false), .int .i64 0]) ∧ w = w' := by
  have hl := h.len
  have h0 := h.c0
  have h1 := h.c1
  by_cases k64 : k < 64
  · have q1 : (k : Int).tdiv 64 = 0 := by rw [Int.tdiv_eq_ediv_of_nonneg (by omega)]; omega
    have q2 : (k : Int).tmod 64 = k := by rw [Int.tmod_eq_emod_of_nonneg (by omega)]; omega
    have hb := X_bit w0 k
    rw [h.b0 k k64] at hb
    go_enter Tryz.func189, Tryz.ntmps189
    go_wp2_with (go_at_call 213; refine (bhas_any g l w0 w1 k _ h).mono ?_; rw [if_pos (by omega)]; rintro e w' ⟨rfl, rfl⟩)
    go_ret2
    exact ⟨by simp [hk], rfl⟩
  · obtain ⟨m, rfl⟩ : ∃ m, k = 64 + m := ⟨k - 64, by omega⟩
    have q1 : ((64 + m : Nat) : Int).tdiv 64 = 1 := by rw [Int.tdiv_eq_ediv_of_nonneg (by omega)]; omega
    have q2 : ((64 + m : Nat) : Int).tmod 64 = m := by rw [Int.tmod_eq_emod_of_nonneg (by omega)]; omega
    have hb := X_bit w1 m
    rw [h.b1 m (by omega)] at hb
    have q1 : ∀ k : Nat, 64 + m = k → (k : Int).tdiv 64 = 1 := fun k e => by rw [← e]; exact q1
    have q2 : ∀ k : Nat, 64 + m = k → (k : Int).tmod 64 = m := fun k e => by rw [← e]; exact q2
    have hm : m < 64 := by omega
    obtain ⟨k, ek⟩ : ∃ k, 64 + m = k := ⟨_, rfl⟩
    have q1 := q1 k ek
    have q2 := q2 k ek
    rw [ek] at hk hb k64 ⊢
    clear ek
    go_enter Tryz.func189, Tryz.ntmps189
    go_wp2_with (go_at_call 213; refine (bhas_any g l w0 w1 k _ h).mono ?_; rw [if_pos (by omega)]; rintro e w' ⟨rfl, rfl⟩)
    go_ret2
    exact ⟨by simp [hk], rfl⟩
theorem bhas_out (g : Nat) (l : List Bool) (w0 w1 : BitVec 64) (k : Int) (w : World) (h : IsBlock w g l w0 w1) (hk : ¬ (0 ≤ k ∧ k < l.length)) :
    Calls Tryz.prog 213 #[.pointer (some ⟨g, 0, none⟩), .int .i64 k] w fun e w' => e = .returned (.int .i64 2) ∧ w = w' := by
  have r := bhas_any g l w0 w1 k w h
  rw [if_neg hk] at r
  exact r
theorem bget_out (g : Nat) (l : List Bool) (w0 w1 : BitVec 64) (k : Int) (w : World) (h : IsBlock w g l w0 w1) (hk : ¬ (0 ≤ k ∧ k < l.length)) :
    Calls Tryz.prog 189 #[.pointer (some ⟨g, 0, none⟩), .int .i64 k] w fun e w' => e = .returned (.tuple #[.bool false, .int .i64 2]) ∧ w = w' := by
  have e := bhas_out g l w0 w1 k w h hk
  have e := Lib.hid e
  clear hk
  go_enter Tryz.func189, Tryz.ntmps189
  go_wp2_with fail
  refine e.out.mono ?_
  rintro e w' ⟨rfl, rfl⟩
  go_wp2_with fail
  go_ret2
  exact ⟨rfl, rfl⟩
end Go.Proofs.YtnadgcgnediakaaGreatDoor
namespace Go.Proofs.YtnadgcgnediakaaGreatDoor
open Go.ChangeShapes Go.WideShapes Go.ChangeAt Go.RowKit

theorem cnt_below (f : Nat → Bool) (k : Nat) : ∀ n, Wd.cnt (fun i => decide (i < k) && f i) n = Wd.cnt f (min k n)
  | 0 => by simp [Wd.cnt]
  | n + 1 => by
    rw [Wd.cnt, cnt_below f k n]
    by_cases h : n < k
    · rw [decide_eq_true h, Bool.true_and, show min k (n + 1) = min k n + 1 from by omega, Wd.cnt, show min k n = n from by omega]
    · rw [decide_eq_false h, Bool.false_and, show min k (n + 1) = min k n from by omega]; rfl
theorem pop_lo (s : BitVec 64) (k : Nat) : pop (lo s k) = Wd.cnt s.getLsbD (min k 64) := by
  rw [← cnt_below]
  unfold pop
  apply Wd.cnt_congr
  intro i _
  rw [lo_toNat, Nat.testBit_mod_two_pow]
  rfl

/-- how many of the first k bits are true -/
def rankL (l : List Bool) (k : Nat) : Nat := Wd.cnt (fun i => l.getD i false) k
theorem rank_two {w : World} {g : Nat} {l : List Bool} {w0 w1 : BitVec 64} (h : IsBlock w g l w0 w1) (k : Nat) (hk : k ≤ 128) :
    pop (lo w0 k) + pop (lo w1 (k - 64)) = rankL l k := by
  rw [pop_lo, pop_lo]
  unfold rankL
  by_cases h64 : k ≤ 64
  · rw [show min k 64 = k from by omega, show min (k - 64) 64 = 0 from by omega]
    rw [Wd.cnt_congr k (fun i hi => h.b0 i (by omega))]
    rfl
  · rw [show min k 64 = 64 from by omega, show min (k - 64) 64 = k - 64 from by omega]
    rw [Wd.cnt_congr 64 (fun i hi => h.b0 i hi), Wd.cnt_congr (k - 64) (fun i hi => h.b1 i (by omega))]
    conv => rhs; rw [show k = 64 + (k - 64) from by omega, Wd.cnt_add]

theorem cell_lt {w : World} {g k : Nat} {v : Value} (h : w.cell? ⟨g, k, none⟩ = some v) : g < w.heap.size := by
  refine Nat.lt_of_not_le fun hs => ?_
  simp [World.cell?, Array.getElem?_eq_none hs] at h

theorem idx0 (a b : BitVec 64) (w : World) : (Instr.index 220 (.agg #[.int .u64 (X a), .int .u64 (X b)]) (.int .i64 0)).run Tryz.prog w = .ok (.int .u64 (X a)) w := by
  simp [Instr.index, run_underlying Tryz.underlying220, asIntOf, go_sem]
theorem idx1 (a b : BitVec 64) (w : World) : (Instr.index 220 (.agg #[.int .u64 (X a), .int .u64 (X b)]) (.int .i64 1)).run Tryz.prog w = .ok (.int .u64 (X b)) w := by
  simp [Instr.index, run_underlying Tryz.underlying220, asIntOf, go_sem]
set_option maxRecDepth 20000 in
theorem brank_any (g : Nat) (l : List Bool) (w0 w1 : BitVec 64) (k : Nat) (w : World) (h : IsBlock w g l w0 w1) (hk : k ≤ l.length) :
    Calls Tryz.prog 214 #[.pointer (some ⟨g, 0, none⟩), .int .i64 k] w fun e w' => e = .returned (.int .i64 (rankL l k)) ∧ Below w.heap.size w w' := by
  have hl := h.len
  have hn := h.n
  have h0 := h.c0
  have h1 := h.c1
  have e := Lib.hid (rank_two h k (by omega))
  go_enter Tryz.func214, Tryz.ntmps214
  go_wp2_with fail
  go_loopw [5, 14] (fun t i wr => ((i = .int .i64 0 ∧ t = .int .i64 0) ∨ (i = .int .i64 1 ∧ t = .int .i64 (pop (lo w0 k))) ∨ (i = .int .i64 2 ∧ t = .int .i64 (rankL l k))) ∧ Below w.heap.size w wr) (fun _ i _ => (2 - intOf i).toNat)
  case atStart => exact ⟨.inl ⟨rfl, rfl⟩, Below.refl _ _⟩
  case round =>
    obtain ⟨hj, hb⟩ := hrel
    have hs := hb.size
    have hlt : g < w.heap.size := cell_lt hn
    have hn' := (hb.cell (p := ⟨g, 0, none⟩) hlt).trans hn
    have hb0 := Lib.hid hb
    clear hb hlt hn h0 h1 h
    rcases hj with ⟨rfl, rfl⟩ | ⟨rfl, rfl⟩ | ⟨rfl, rfl⟩
    · have i0 := idx0 w0 w1
      have m1 : min (k : Int) (l.length : Int) = k := by omega
      have m2 : max (k : Int) 0 = k := by omega
      go_wp2_with fail
      refine (rank_any w0 k _ (by omega) (by omega)).mono ?_
      rintro e w' ⟨rfl, hb2⟩
      have hb3 := Lib.hid (hb0.out.trans (hb2.mono hs))
      clear hb2
      have hp := pop_le (lo w0 k)
      go_wp2_with fail
      go_roundw
      case rel => exact ⟨.inr (.inl ⟨rfl, rfl⟩), hb3.out⟩
      case measure => simp [intOf]
    · have i1 := idx1 w0 w1
      have m1 : min (k : Int) (l.length : Int) = k := by omega
      have m2 : max (k : Int) 0 = k := by omega
      have hp := pop_le (lo w0 k)
      have e2 : ((k : Int) - 64).toNat = k - 64 := by omega
      go_wp2_with fail
      refine (rank_any w1 (k - 64) _ (by omega) (by omega)).mono ?_
      rintro e w' ⟨rfl, hb2⟩
      have hb3 := Lib.hid (hb0.out.trans (hb2.mono hs))
      clear hb2
      have hp2 := pop_le (lo w1 (k - 64))
      go_wp2_with fail
      go_roundw
      case rel => exact ⟨.inr (.inr ⟨rfl, by rw [← e.out]; first | rfl | (simp; done) | (simp; go_num)⟩), hb3.out⟩
      case measure => simp [intOf]
    · go_wp2_with fail
      go_ret
      exact ⟨rfl, hb0.out⟩
end Go.Proofs.YtnadgcgnediakaaGreatDoor
