/- block.Select: the place of a bit with so many like it ahead. The walks of tree.Select, Shape, Live. The walk of tree.Shape at a leaf. The wave's shelves in memory; the closures' walks; look, rank. The walk of wave.rank. The walks of the wave's other closures: Get, Insert, Delete. Plain law of the wave: the bits of a level's symbols with a path, under looks and edits; no program in sight. The wave in memory. -/
import Derived.Test.YtnadgcgnediakaaGreatDoorH10
import Derived.Test.YtnadgcgnediakaaGreatDoorH06
namespace Go.Proofs.YtnadgcgnediakaaGreatDoor
open Go.ChangeShapes Go.WideShapes Go.ChangeAt Go.RowKit Go.Deep

theorem nat_low (p m i : Nat) : (2 ^ p * (2 * m + 1)).testBit i = (decide (p ≤ i) && (2 * m + 1).testBit (i - p)) := by
  rw [Nat.testBit_two_pow_mul]
theorem nat_low_pred (p m i : Nat) : (2 ^ p * (2 * m + 1) - 1).testBit i = if i < p then true else (2 * m).testBit (i - p) := by
  have h : 2 ^ p * (2 * m + 1) - 1 = 2 ^ p * (2 * m) + (2 ^ p - 1) := by
    have := Nat.two_pow_pos p
    rw [Nat.mul_add, Nat.mul_one]
    omega
  rw [h, Nat.testBit_two_pow_mul_add _ (by have := Nat.two_pow_pos p; omega)]
  split
  · rename_i h1
    rw [Nat.testBit_two_pow_sub_one]; simp [h1]
  · rfl
theorem odd_bit (m i : Nat) : (2 * m + 1).testBit i = if i = 0 then true else (2 * m).testBit i := by
  cases i with
  | zero => simp
  | succ i =>
    rw [if_neg (by omega), Nat.testBit_succ, Nat.testBit_succ]
    congr 1
    omega

theorem ctz_lt (s : BitVec 64) (h : s ≠ 0#64) : Lib.ctz 64 s.toNat < 64 ∧ s.getLsbD (Lib.ctz 64 s.toNat) = true ∧ (∀ i, i < Lib.ctz 64 s.toNat → s.getLsbD i = false) ∧
    ∀ i, (less1 s).getLsbD i = (s.getLsbD i && decide (i ≠ Lib.ctz 64 s.toNat)) := by
  have h0 : s.toNat ≠ 0 := fun e => h (BitVec.eq_of_toNat_eq e)
  obtain ⟨m, hm, hlt⟩ := Lib.ctzFrom_spec 64 s.toNat (by omega) s.isLt
  have e : Lib.ctz 64 s.toNat = Lib.ctzFrom 64 s.toNat := by unfold Lib.ctz; rw [if_neg h0]
  rw [e]
  generalize Lib.ctzFrom 64 s.toNat = p at hm hlt
  have hb : ∀ i, s.getLsbD i = (decide (p ≤ i) && (2 * m + 1).testBit (i - p)) := fun i => by
    rw [BitVec.getLsbD, hm, nat_low]
  have hs : (s - 1#64).toNat = s.toNat - 1 := by
    rw [BitVec.toNat_sub]
    have := s.isLt
    simp only [BitVec.reduceToNat]
    omega
  have hp : ∀ i, (s - 1#64).getLsbD i = if i < p then true else (2 * m).testBit (i - p) := fun i => by
    rw [BitVec.getLsbD, hs, hm, nat_low_pred]
  refine ⟨hlt, ?_, ?_, ?_⟩
  · rw [hb]; simp
  · intro i hi
    rw [hb, decide_eq_false (by omega)]; rfl
  · intro i
    unfold less1
    rw [BitVec.getLsbD_and, hb, hp]
    by_cases h1 : i < p
    · rw [if_pos h1, decide_eq_false (by omega)]; rfl
    · rw [if_neg h1, decide_eq_true (by omega), odd_bit]
      by_cases h2 : i = p
      · subst h2; simp
      · rw [if_neg (by omega), decide_eq_true h2]
        simp

theorem cnt_mono (f : Nat → Bool) {a b : Nat} (h : a ≤ b) : Wd.cnt f a ≤ Wd.cnt f b := by
  rw [show b = a + (b - a) from by omega, Wd.cnt_add]; omega
theorem lessN_bit (s : BitVec 64) : ∀ j, j ≤ pop s → ∀ i, i < 64 → (lessN j s).getLsbD i = (s.getLsbD i && decide (j ≤ Wd.cnt s.getLsbD i))
  | 0, _, i, _ => by simp [lessN]
  | j + 1, hj, i, hi => by
    have ih := lessN_bit s j (by omega)
    have hne : lessN j s ≠ 0#64 := by
      intro e
      have hz : ∀ i, i < 64 → (s.getLsbD i && decide (j ≤ Wd.cnt s.getLsbD i)) = false := fun i hi => by rw [← ih i hi, e]; simp
      have : ∀ k, k ≤ 64 → Wd.cnt s.getLsbD k ≤ j := by
        intro k
        induction k with
        | zero => intro _; simp [Wd.cnt]
        | succ k ihk =>
          intro hk
          rw [Wd.cnt]
          have h1 := ihk (by omega)
          have h2 := hz k (by omega)
          cases hs : s.getLsbD k
          · simpa using h1
          · rw [hs] at h2
            simp at h2
            simp
            omega
      have := this 64 (Nat.le_refl _)
      have hj2 : j + 1 ≤ Wd.cnt s.getLsbD 64 := hj
      omega
    obtain ⟨plt, pb, pm, pl⟩ := ctz_lt _ hne
    show (less1 (lessN j s)).getLsbD i = _
    rw [pl i, ih i hi]
    generalize Lib.ctz 64 (lessN j s).toNat = p at plt pb pm
    rw [ih p plt] at pb
    simp only [Bool.and_eq_true, decide_eq_true_eq] at pb
    have hcp : Wd.cnt s.getLsbD p = j := by
      refine Nat.le_antisymm ?_ pb.2
      refine Nat.le_of_not_lt fun hgt => ?_
      -- below p no bit with j ahead: so the count stays at most j
      have : ∀ k, k ≤ p → Wd.cnt s.getLsbD k ≤ j := by
        intro k
        induction k with
        | zero => intro _; simp [Wd.cnt]
        | succ k ihk =>
          intro hk
          rw [Wd.cnt]
          have h1 := ihk (by omega)
          have h2 := pm k (by omega)
          rw [ih k (by omega)] at h2
          cases hs : s.getLsbD k
          · simpa using h1
          · rw [hs] at h2
            simp at h2
            simp
            omega
      have := this p (Nat.le_refl _)
      omega
    cases hs : s.getLsbD i
    · simp
    · simp only [Bool.true_and]
      by_cases hip : i = p
      · subst hip
        rw [hcp]; simp
      · rw [decide_eq_true hip, Bool.and_true, Bool.eq_iff_iff, decide_eq_true_eq, decide_eq_true_eq]
        constructor
        · intro h
          by_cases hlt : i < p
          · have h2 := pm i hlt
            rw [ih i hi, hs] at h2
            simp at h2
            omega
          · have := cnt_mono s.getLsbD (show p + 1 ≤ i by omega)
            rw [Wd.cnt, pb.1] at this
            simp at this
            omega
        · intro h; omega

theorem selw_spec (s : BitVec 64) (j : Nat) (h : j < pop s) : ∃ p : Nat, p < 64 ∧ selw s j = (p : Int) ∧ s.getLsbD p = true ∧ Wd.cnt s.getLsbD p = j := by
  have hne : lessN j s ≠ 0#64 := by
    intro e
    have hz : ∀ i, i < 64 → (s.getLsbD i && decide (j ≤ Wd.cnt s.getLsbD i)) = false := fun i hi => by rw [← lessN_bit s j (by omega) i hi, e]; simp
    have : ∀ k, k ≤ 64 → Wd.cnt s.getLsbD k ≤ j := by
      intro k
      induction k with
      | zero => intro _; simp [Wd.cnt]
      | succ k ihk =>
        intro hk
        rw [Wd.cnt]
        have h1 := ihk (by omega)
        have h2 := hz k (by omega)
        cases hs : s.getLsbD k
        · simpa using h1
        · rw [hs] at h2
          simp at h2
          simp
          omega
    have := this 64 (Nat.le_refl _)
    have h2 : j < Wd.cnt s.getLsbD 64 := h
    omega
  obtain ⟨plt, pb, pm, _⟩ := ctz_lt _ hne
  refine ⟨_, plt, by unfold selw; rw [if_pos (by omega)]; simp, ?_, ?_⟩
  · rw [lessN_bit s j (by omega) _ plt] at pb
    simp only [Bool.and_eq_true] at pb
    exact pb.1
  · rw [lessN_bit s j (by omega) _ plt] at pb
    simp only [Bool.and_eq_true, decide_eq_true_eq] at pb
    refine Nat.le_antisymm ?_ pb.2
    have : ∀ k, k ≤ Lib.ctz 64 (lessN j s).toNat → Wd.cnt s.getLsbD k ≤ j := by
      intro k
      induction k with
      | zero => intro _; simp [Wd.cnt]
      | succ k ihk =>
        intro hk
        rw [Wd.cnt]
        have h1 := ihk (by omega)
        have h2 := pm k (by omega)
        rw [lessN_bit s j (by omega) k (by omega)] at h2
        cases hs : s.getLsbD k
        · simpa using h1
        · rw [hs] at h2
          simp at h2
          simp
          omega
    exact this _ (Nat.le_refl _)

theorem X_not (s : BitVec 64) : bits .xor .u64 IntKind.u64.max (X s) = X (~~~s) := by
  have h1 : (IntKind.u64.max : Int) = ((2 ^ 64 - 1 : Nat) : Int) := by decide
  have h2 : (2 ^ 64 - 1 : Nat) < 18446744073709551616 := by decide
  unfold X
  rw [h1, u64_xor_nat _ _ h2 s.isLt, BitVec.toNat_not]
  have h3 : (BitVec.allOnes 64 ^^^ s) = ~~~s := BitVec.allOnes_xor
  have h4 := congrArg BitVec.toNat h3
  rw [BitVec.toNat_xor, BitVec.toNat_allOnes, BitVec.toNat_not] at h4
  rw [h4]

/-- how many of the first are like b -/
def likeC (l : List Bool) (b : Bool) (k : Nat) : Nat := Wd.cnt (fun i => l.getD i false == b) k
theorem likeC_like (l : List Bool) (b : Bool) (k : Nat) : likeC l b k = likeL l k b := by
  unfold likeC likeL
  cases b
  · have := Wd.cnt_not (fun i => l.getD i false) k
    have e : Wd.cnt (fun i => l.getD i false == false) k = Wd.cnt (fun i => !(l.getD i false)) k := Wd.cnt_congr _ (fun i _ => by cases l.getD i false <;> rfl)
    unfold rankL
    rw [e]
    simp only [Bool.false_eq_true, if_false]
    omega
  · simp only [if_true]
    exact Wd.cnt_congr _ (fun i _ => by cases l.getD i false <;> rfl)

def flip_ (s : BitVec 64) (b : Bool) : BitVec 64 := if b then s else ~~~s
theorem flip_bit (s : BitVec 64) (b : Bool) (i : Nat) (hi : i < 64) : (flip_ s b).getLsbD i = (s.getLsbD i == b) := by
  unfold flip_
  cases b
  · simp only [Bool.false_eq_true, if_false, BitVec.getLsbD_not, hi, decide_true, Bool.true_and]
    cases s.getLsbD i <;> rfl
  · simp only [if_true]
    cases s.getLsbD i <;> rfl

theorem bsel_lo (g : Nat) (l : List Bool) (w0 w1 s0 : BitVec 64) (j p : Nat) (b : Bool) (w : World) (hT : Tab w) (h : IsBlock w g l w0 w1) (hs : flip_ w0 b = s0) (hj : j < pop s0) (hp : selw s0 j = p) (hpl : p < l.length) (h64 : p < 64) :
    Calls Tryz.prog 200 #[.pointer (some ⟨g, 0, none⟩), .int .i64 j, .bool b] w fun e w' => e = .returned (.int .i64 p) ∧ Below w.heap.size w w' := by
  have hn := h.n
  have h0 := h.c0
  have h1 := h.c1
  have hlen := h.len
  have i0 := idx0 w0 w1
  have hlt : g < w.heap.size := cell_lt hn
  have hpop := pop_le s0
  have hw1 : Below w.heap.size w (w.alloc (.cells #[.int .u64 (X s0)] 94)) := Joins.below_alloc1 w _
  have sl := sel_any s0 j (w.alloc (.cells #[.int .u64 (X s0)] 94)) (hT.below hw1) (by omega) (by omega)
  rw [hp] at sl
  have SL := Lib.hid sl
  have HW := Lib.hid hw1
  have c1 := fun wx hx => count_one w.heap.size 1 s0 wx hx
  have C1 := Lib.hid c1
  clear sl hw1 h hT hp c1
  cases b
  · have hx := X_not w0
    have hs' : ~~~w0 = s0 := hs
    rw [hs'] at hx
    clear hs hs'
    go_enter Tryz.func200, Tryz.ntmps200
    go_wp2_with fail
    refine wp_loop_rounds 2 ?_
    rw [rounds_succ]
    go_wp2_with fail
    refine (C1.out _ (World.cell?_alloc_new w _ _ 0)).mono ?_
    rintro e w' ⟨rfl, rfl⟩
    go_wp2_with fail
    refine SL.out.mono ?_
    rintro e w2 ⟨rfl, bl⟩
    have n2 : w2.cell? ⟨g, 0, none⟩ = some (.int .i64 l.length) := ((HW.out.trans (bl.mono (by simp))).cell (p := ⟨g, 0, none⟩) hlt).trans hn
    have BL := Lib.hid (HW.out.trans (bl.mono (by simp)))
    clear bl
    go_wp2_with fail
    go_ret
    exact ⟨rfl, BL.out⟩
  · have hs' : w0 = s0 := hs
    rw [hs'] at h0 i0
    clear hs hs'
    go_enter Tryz.func200, Tryz.ntmps200
    go_wp2_with fail
    refine wp_loop_rounds 2 ?_
    rw [rounds_succ]
    go_wp2_with fail
    refine (C1.out _ (World.cell?_alloc_new w _ _ 0)).mono ?_
    rintro e w' ⟨rfl, rfl⟩
    go_wp2_with fail
    refine SL.out.mono ?_
    rintro e w2 ⟨rfl, bl⟩
    have n2 : w2.cell? ⟨g, 0, none⟩ = some (.int .i64 l.length) := ((HW.out.trans (bl.mono (by simp))).cell (p := ⟨g, 0, none⟩) hlt).trans hn
    have BL := Lib.hid (HW.out.trans (bl.mono (by simp)))
    clear bl
    go_wp2_with fail
    go_ret
    exact ⟨rfl, BL.out⟩
theorem bsel_hi (g : Nat) (l : List Bool) (w0 w1 s0 s1 : BitVec 64) (j p : Nat) (b : Bool) (w : World) (hT : Tab w) (h : IsBlock w g l w0 w1) (hs : flip_ w0 b = s0) (hs1 : flip_ w1 b = s1) (hj : pop s0 ≤ j) (hj1 : j - pop s0 < pop s1) (hp : selw s1 (j - pop s0 : Nat) = p) (hpl : 64 + p < l.length) (h64 : p < 64) :
    Calls Tryz.prog 200 #[.pointer (some ⟨g, 0, none⟩), .int .i64 j, .bool b] w fun e w' => e = .returned (.int .i64 (64 + p : Nat)) ∧ Below w.heap.size w w' := by
  have hn := h.n
  have h0 := h.c0
  have h1 := h.c1
  have hlen := h.len
  have i0 := idx0 w0 w1
  have i1 := idx1 w0 w1
  have hlt : g < w.heap.size := cell_lt hn
  have hpop := pop_le s0
  have hpop1 := pop_le s1
  have ej : (j : Int) - (pop s0 : Nat) = (j - pop s0 : Nat) := by omega
  have hw1 : Below w.heap.size w ((w.alloc (.cells #[.int .u64 (X s0)] 94)).alloc (.cells #[.int .u64 (X s1)] 94)) := Joins.below_alloc2 w _ _
  have sl := sel_any s1 (j - pop s0 : Nat) ((w.alloc (.cells #[.int .u64 (X s0)] 94)).alloc (.cells #[.int .u64 (X s1)] 94)) (hT.below hw1) (by omega) (by omega)
  rw [hp] at sl
  have SL := Lib.hid sl
  have HW := Lib.hid hw1
  have c1 := fun wx hx => count_one w.heap.size 1 s0 wx hx
  have c2 := fun wx hx => count_one (w.heap.size + 1) 1 s1 wx hx
  have C1 := Lib.hid c1
  have C2 := Lib.hid c2
  have nc : ((w.alloc (.cells #[.int .u64 (X s0)] 94)).alloc (.cells #[.int .u64 (X s1)] 94)).cell? ⟨w.heap.size + 1, 0, none⟩ = some (.int .u64 (X s1)) := by
    have := World.cell?_alloc_new (w.alloc (.cells #[.int .u64 (X s0)] 94)) #[.int .u64 (X s1)] 94 0
    rw [World.size_alloc] at this
    exact this
  have NC := Lib.hid nc
  clear sl hw1 h hT hp c1 c2 nc
  generalize j - pop s0 = m at ej SL hj1
  cases b
  · have hx := X_not w0
    have hx1 := X_not w1
    have hs' : ~~~w0 = s0 := hs
    have hs1' : ~~~w1 = s1 := hs1
    rw [hs'] at hx
    rw [hs1'] at hx1
    clear hs hs' hs1 hs1'
    go_enter Tryz.func200, Tryz.ntmps200
    go_wp2_with fail
    refine wp_loop_rounds 2 ?_
    rw [rounds_succ]
    go_wp2_with fail
    refine (C1.out _ (World.cell?_alloc_new w _ _ 0)).mono ?_
    rintro e w' ⟨rfl, rfl⟩
    go_wp2_with fail
    rw [rounds_succ]
    go_wp2_with fail
    refine (C2.out _ NC.out).mono ?_
    rintro e w' ⟨rfl, rfl⟩
    go_wp2_with fail
    refine SL.out.mono ?_
    rintro e w2 ⟨rfl, bl⟩
    have n2 : w2.cell? ⟨g, 0, none⟩ = some (.int .i64 l.length) := ((HW.out.trans (bl.mono (by simp; omega))).cell (p := ⟨g, 0, none⟩) hlt).trans hn
    have BL := Lib.hid (HW.out.trans (bl.mono (by simp; omega)))
    clear bl
    go_wp2_with fail
    go_ret
    exact ⟨by rw [Int.natCast_add]; rfl, BL.out⟩
  · have hs' : w0 = s0 := hs
    have hs1' : w1 = s1 := hs1
    rw [hs'] at h0 i0 i1
    rw [hs1'] at h1 i0 i1
    clear hs hs' hs1 hs1'
    go_enter Tryz.func200, Tryz.ntmps200
    go_wp2_with fail
    refine wp_loop_rounds 2 ?_
    rw [rounds_succ]
    go_wp2_with fail
    refine (C1.out _ (World.cell?_alloc_new w _ _ 0)).mono ?_
    rintro e w' ⟨rfl, rfl⟩
    go_wp2_with fail
    rw [rounds_succ]
    go_wp2_with fail
    refine (C2.out _ NC.out).mono ?_
    rintro e w' ⟨rfl, rfl⟩
    go_wp2_with fail
    refine SL.out.mono ?_
    rintro e w2 ⟨rfl, bl⟩
    have n2 : w2.cell? ⟨g, 0, none⟩ = some (.int .i64 l.length) := ((HW.out.trans (bl.mono (by simp; omega))).cell (p := ⟨g, 0, none⟩) hlt).trans hn
    have BL := Lib.hid (HW.out.trans (bl.mono (by simp; omega)))
    clear bl
    go_wp2_with fail
    go_ret
    exact ⟨by rw [Int.natCast_add]; rfl, BL.out⟩

theorem bsel_is (g : Nat) (l : List Bool) (j : Nat) (b : Bool) (w : World) (hT : Tab w) (h : IsBlk w g l) (hj : j < likeC l b l.length) :
    ∃ k, k < l.length ∧ l.getD k false = b ∧ likeC l b k = j ∧ Calls Tryz.prog 200 #[.pointer (some ⟨g, 0, none⟩), .int .i64 j, .bool b] w fun e w' => e = .returned (.int .i64 k) ∧ Below w.heap.size w w' := by
  obtain ⟨w0, w1, hb, _⟩ := h.cells
  have hlen := hb.len
  have f0 : ∀ i, i < 64 → (flip_ w0 b).getLsbD i = (l.getD i false == b) := fun i hi => by rw [flip_bit _ _ _ hi, hb.b0 i hi]
  have f1 : ∀ i, i < 64 → (flip_ w1 b).getLsbD i = (l.getD (64 + i) false == b) := fun i hi => by rw [flip_bit _ _ _ hi, hb.b1 i hi]
  have p0 : ∀ k, k ≤ 64 → Wd.cnt (flip_ w0 b).getLsbD k = likeC l b k := fun k hk => Wd.cnt_congr k (fun i hi => f0 i (by omega))
  have p1 : ∀ k, k ≤ 64 → Wd.cnt (flip_ w1 b).getLsbD k + likeC l b 64 = likeC l b (64 + k) := fun k hk => by
    unfold likeC
    rw [Wd.cnt_add, Nat.add_comm]
    congr 1
    exact Wd.cnt_congr k (fun i hi => f1 i (by omega))
  have q0 : pop (flip_ w0 b) = likeC l b 64 := p0 64 (Nat.le_refl _)
  have mono : ∀ {x y : Nat}, x ≤ y → likeC l b x ≤ likeC l b y := fun h => cnt_mono _ h
  by_cases hlo : j < pop (flip_ w0 b)
  · obtain ⟨p, hp64, hsel, hbit, hcnt⟩ := selw_spec _ j hlo
    rw [p0 p (by omega)] at hcnt
    rw [f0 p hp64] at hbit
    have hpl : p < l.length := by
      refine Nat.lt_of_not_le fun hge => ?_
      have := mono hge
      omega
    exact ⟨p, hpl, by simpa using hbit, hcnt, bsel_lo g l w0 w1 _ j p b w hT hb rfl hlo hsel hpl hp64⟩
  · have hhi : j - pop (flip_ w0 b) < pop (flip_ w1 b) := by
      have h1 := p1 64 (Nat.le_refl _)
      have h2 := mono (show l.length ≤ 64 + 64 by omega)
      have h3 : Wd.cnt (flip_ w1 b).getLsbD 64 = pop (flip_ w1 b) := rfl
      omega
    obtain ⟨p, hp64, hsel, hbit, hcnt⟩ := selw_spec _ _ hhi
    have h1 := p1 p (by omega)
    rw [f1 p hp64] at hbit
    have hpl : 64 + p < l.length := by
      refine Nat.lt_of_not_le fun hge => ?_
      have := mono hge
      omega
    exact ⟨64 + p, hpl, by simpa using hbit, by omega, bsel_hi g l w0 w1 _ _ j p b w hT hb rfl rfl (by omega) hhi hsel hpl hp64⟩
end Go.Proofs.YtnadgcgnediakaaGreatDoor
namespace Go.Proofs.YtnadgcgnediakaaGreatDoor
open Go.ChangeShapes Go.WideShapes Go.ChangeAt Go.RowKit Go.Deep

theorem Tab.upd {w w1 : World} {o o1 : Nat → Nat} {c : Nat → Prop} (h : Tab w) (u : Upd o c w w1 o1) (h0 : ¬ c (o 0)) : Tab w1 := fun j hj => by
  have hlt := h.lt
  rw [World.cell?_of_block (a := ⟨0, j, none⟩) (u.same 0 hlt h0)]
  exact h j hj

theorem tsel_leaf (o : Nat → Nat) (c tb : Nat) (l : List Bool) (ab nb bb kb lc kc : Nat) (fv : Value) (vis : Int) (j : Nat) (b : Bool) (w : World) (hT : Tab w) (h0 : ¬ tr c (o 0)) (h : Leaf w o c tb l ab nb bb kb lc kc fv vis) (hj : j < likeC l b l.length) :
    ∃ k, k < l.length ∧ l.getD k false = b ∧ likeC l b k = j ∧ Calls Tryz.prog 155 #[.pointer (some ⟨tb, 0, none⟩), .int .i64 j, .bool b] w fun e w' => e = .returned (.int .i64 k) ∧ Upd o (tr c) w w' (ext o w.heap.size c) ∧ Leaf w' (ext o w.heap.size c) c tb l ab nb bb kb lc kc fv 1 := by
  have hlen := h.b.len
  have hol := onesL_le l
  have he : (if b = true then ((onesL l : Nat) : Int) else (l.length : Int) - (onesL l : Nat)) = (likeC l b l.length : Nat) := by
    rw [likeC_like]
    unfold likeL onesL at *
    split <;> omega
  have hle : likeC l b l.length ≤ l.length := Wd.cnt_le _ _
  have hT1 : Tab ((w.setCell ⟨tb, 3, none⟩ (.int .i64 0))) := hT.upd ((Upd.refl o (tr c) w).set _ (.inr (.inl h.ot))) h0
  -- where the block's own Select goes
  obtain ⟨k, hk1, hk2, hk3, _⟩ := bsel_is bb l j b w hT h.b hj
  refine ⟨k, hk1, hk2, hk3, ?_⟩
  have bs : ∀ wx, Tab wx → IsBlk wx bb l → Calls Tryz.prog 200 #[.pointer (some ⟨bb, 0, none⟩), .int .i64 j, .bool b] wx fun e w' => e = .returned (.int .i64 k) ∧ Below wx.heap.size wx w' := by
    intro wx tx bx
    obtain ⟨k', h1, h2, h3, hc⟩ := bsel_is bb l j b wx tx bx hj
    have : k' = k := by
      refine Classical.byContradiction fun hne => ?_
      rcases Nat.lt_or_gt_of_ne hne with hlt | hlt
      · have := cnt_mono (fun i => l.getD i false == b) (show k' + 1 ≤ k by omega)
        rw [Wd.cnt, h2] at this
        simp only [beq_self_eq_true, Bool.toNat_true] at this
        unfold likeC at h3 hk3
        omega
      · have := cnt_mono (fun i => l.getD i false == b) (show k + 1 ≤ k' by omega)
        rw [Wd.cnt, hk2] at this
        simp only [beq_self_eq_true, Bool.toNat_true] at this
        unfold likeC at h3 hk3
        omega
    rw [← this]
    exact hc
  have BS := Lib.hid bs
  have OT := Lib.hid h.ot
  have H := Lib.hid (h.visit 0)
  have HT := Lib.hid hT1
  have H0 := Lib.hid h0
  have HK := Lib.hid hk2
  have HK3 := Lib.hid hk3
  have HE := Lib.hid he
  obtain ⟨⟨t0, t1, t2, t3⟩, _, ft, _⟩ := h.cells
  have f3 := ft 3
  have TL := Lib.hid (tlen_leaf o c tb l ab nb bb kb lc kc fv 0 _ (h.visit 0))
  clear h ft bs hk2 hk3 he h0 hT1 hT
  go_enter Tryz.func155, Tryz.ntmps155
  go_wp2_with fail
  refine TL.out.mono ?_
  rintro e w2 ⟨rfl, n, hw⟩
  have h2 : Leaf w2 o c tb l ab nb bb kb lc kc fv 0 := by rw [hw]; exact H.out.upd (fun _ _ => rfl) (fun _ _ => rfl)
  have u2 : Upd o (tr c) w w2 o := by rw [hw]; exact ((Upd.refl o _ w).set _ (.inr (.inl OT.out))).drewN n
  have T2 : Tab w2 := by rw [hw]; exact fun j hj => HT.out j hj
  have s2 : w2.heap.size = w.heap.size := by rw [hw]; exact World.size_setCell _ _ _
  have HS2 := Lib.hid s2
  have TO := Lib.hid (tones_leaf o c tb l ab nb bb kb lc kc fv 0 _ h2)
  have H2 := Lib.hid h2
  have U2 := Lib.hid u2
  have HT2 := Lib.hid T2
  clear hw h2 u2 T2 s2 t0 t1 t2 t3 f3 TL H HT
  go_wp2_with fail
  refine TO.out.mono ?_
  rintro e w3 ⟨rfl, n3, hw⟩
  have h3 : Leaf w3 o c tb l ab nb bb kb lc kc fv 0 := by rw [hw]; exact H2.out.upd (fun _ _ => rfl) (fun _ _ => rfl)
  have u3 : Upd o (tr c) w w3 (ext o w.heap.size c) := by rw [hw]; exact (U2.out.drewN n3).reown (fun b hb => ext_old hb)
  have T3 : Tab w3 := by rw [hw]; exact fun j hj => HT2.out j hj
  have hsz : w3.heap.size = w.heap.size := by rw [hw]; exact HS2.out
  obtain ⟨⟨t0, t1, t2, t3⟩, hn, ft, fn, nt, bt, bn, tlt, nlt, blt⟩ := h3.cells
  have n0 := hn 0 _ rfl
  have n1 := hn 1 _ rfl
  have n2 := hn 2 _ rfl
  have n3 := hn 3 _ rfl
  have n4 := hn 4 _ rfl
  have n5 := hn 5 _ rfl
  have n6 := hn 6 _ rfl
  have n7 := hn 7 _ rfl
  have f3 := ft 3
  have HV := Lib.hid (h3.visit 1)
  have U3 := Lib.hid u3
  have HT3 := Lib.hid T3
  have HSZ := Lib.hid hsz
  clear hn ft fn h3 u3 T3 hw TO H2 U2 HT2 hsz
  go_wp2_with fail
  refine (like_any (l.length : Int) (onesL l : Nat) b _ (by omega)).mono ?_
  rintro e w' ⟨rfl, rfl⟩
  rw [HE.out]
  go_wp2_with fail
  refine wp_loop_rounds 1 ?_
  rw [rounds_succ]
  go_wp2_with fail
  refine (like_any 0 0 b _ (by omega)).mono ?_
  rintro e w' ⟨rfl, rfl⟩
  have z0 : (if b = true then (0 : Int) else 0 - 0) = 0 := by cases b <;> rfl
  rw [z0]
  go_wp2_with fail
  have hb := (HV.out.upd (w1 := (w3.setCell ⟨tb, 3, none⟩ (.int .i64 1)).alloc (.cells #[.int .i64 (-1), .int .i64 (-1), .int .i64 0, .int .i64 l.length, .int .i64 (onesL l), .int .i64 0, .int .i64 0, .pointer (some ⟨bb, 0, none⟩)] 200)) (o1 := ext o w.heap.size c)
    (fun b hb => Below.heap_alloc _ _ _ hb) (fun b hb => ext_old (by rw [World.size_setCell, HSZ.out] at hb; exact hb)))
  have hu := (U3.out.set (.int .i64 1) (a := ⟨tb, 3, none⟩) (.inr (.inl OT.out))).alloc (.cells #[.int .i64 (-1), .int .i64 (-1), .int .i64 0, .int .i64 l.length, .int .i64 (onesL l), .int .i64 0, .int .i64 0, .pointer (some ⟨bb, 0, none⟩)] 200)
  have HB := Lib.hid hb
  have HU := Lib.hid hu
  clear hb hu
  refine (BS.out _ (HT3.out.upd (o := o) (((Upd.refl o (tr c) w3).set _ (.inr (.inl OT.out))).alloc _) H0.out) HB.out.b).mono ?_
  rintro e w4 ⟨rfl, b4⟩
  have B4 := Lib.hid b4
  clear b4
  go_wp2_with fail
  go_ret
  exact ⟨rfl, HU.out.belowN (B4.out.mono HU.out.size), HB.out.upd (fun b hb => B4.out.block b hb) (fun b hb => rfl)⟩
theorem tsel_any (o : Nat → Nat) (c tb : Nat) (l : List Bool) (j : Nat) (b : Bool) (w : World) (hT : Tab w) (h0 : ¬ tr c (o 0)) (h : IsTree w o c tb l) (hj : j < likeC l b l.length) :
    ∃ k, k < l.length ∧ l.getD k false = b ∧ likeC l b k = j ∧ Calls Tryz.prog 155 #[.pointer (some ⟨tb, 0, none⟩), .int .i64 j, .bool b] w fun e w' => e = .returned (.int .i64 k) ∧ ∃ o', Upd o (tr c) w w' o' ∧ IsTree w' o' c tb l := by
  rcases h with ⟨h1, ab, nb, bb, kb, lc, kc, fv, vis, h⟩ | ⟨rfl, _⟩
  · obtain ⟨k, h2, h3, h4, hc⟩ := tsel_leaf o c tb l ab nb bb kb lc kc fv vis j b w hT h0 h hj
    refine ⟨k, h2, h3, h4, hc.mono ?_⟩
    rintro e w' ⟨rfl, u, hl⟩
    exact ⟨rfl, _, u, .inl ⟨h1, _, _, _, _, _, _, _, _, hl⟩⟩
  · simp [likeC, Wd.cnt] at hj

theorem tlive_leaf (o : Nat → Nat) (c tb : Nat) (l : List Bool) (ab nb bb kb lc kc : Nat) (fv : Value) (vis : Int) (w : World) (h : Leaf w o c tb l ab nb bb kb lc kc fv vis) :
    Calls Tryz.prog 175 #[.pointer (some ⟨tb, 0, none⟩)] w fun e w' => e = .returned (.int .i64 1) ∧ ∃ n, w' = w.drewN n := by
  obtain ⟨⟨t0, t1, t2, t3⟩, _, ft, _⟩ := h.cells
  obtain ⟨fa, fc, rfl⟩ := own_shape h.f.1
  have al := alive_any ab (some ⟨kb, 0, none⟩) fa 1 kc 0 fc w h.a (by omega) (by omega)
  have AL := Lib.hid al
  clear h ft al
  go_enter Tryz.func175, Tryz.ntmps175
  go_wp2_with fail
  refine AL.out.mono ?_
  rintro e w' ⟨rfl, n, rfl⟩
  go_wp2_with fail
  go_ret
  exact ⟨rfl, _, rfl⟩
end Go.Proofs.YtnadgcgnediakaaGreatDoor
namespace Go.Proofs.YtnadgcgnediakaaGreatDoor
open Go.ChangeShapes Go.WideShapes Go.ChangeAt Go.RowKit Go.Deep

theorem shape_row {g : Nat} {wx : World} (n : Int) (h : wx.heap[g]? = some (.cells #[.int .i64 0, .int .i64 0, .int .i64 0, .int .i64 0] 46 (0, 0))) :
    ((((wx.setCell ⟨g, 0, none⟩ (.int .i64 n)).setCell ⟨g, 1, none⟩ (.int .i64 0)).setCell ⟨g, 2, none⟩ (.int .i64 1)).setCell ⟨g, 3, none⟩ (.int .i64 1)).heap[g]? = some (.cells #[.int .i64 n, .int .i64 0, .int .i64 1, .int .i64 1] 46 (0, 0)) :=
  Joins.block_setCell (i := 3) (Joins.block_setCell (i := 2) (Joins.block_setCell (i := 1) (Joins.block_setCell (i := 0) h (.int .i64 n)) (.int .i64 0)) (.int .i64 1)) (.int .i64 1)
theorem shape_below {g : Nat} {w wx : World} (n : Int) (h : Below g w wx) :
    Below g w ((((wx.setCell ⟨g, 0, none⟩ (.int .i64 n)).setCell ⟨g, 1, none⟩ (.int .i64 0)).setCell ⟨g, 2, none⟩ (.int .i64 1)).setCell ⟨g, 3, none⟩ (.int .i64 1)) :=
  (((h.setCell (p := ⟨g, 0, none⟩) (Nat.le_refl _) _).setCell (p := ⟨g, 1, none⟩) (Nat.le_refl _) _).setCell (p := ⟨g, 2, none⟩) (Nat.le_refl _) _).setCell (p := ⟨g, 3, none⟩) (Nat.le_refl _) _
set_option maxHeartbeats 4000000 in
theorem tshape_leaf (o : Nat → Nat) (c tb : Nat) (l : List Bool) (ab nb bb kb lc kc : Nat) (fv : Value) (vis : Int) (w : World) (h : Leaf w o c tb l ab nb bb kb lc kc fv vis) :
    Calls Tryz.prog 121 #[.pointer (some ⟨tb, 0, none⟩)] w fun e w' => e = .returned (.agg #[.int .i64 l.length, .int .i64 0, .int .i64 1, .int .i64 1]) ∧ Below w.heap.size w w' := by
  have h1 : Leaf (w.alloc (.cells #[.int .i64 0, .int .i64 0, .int .i64 0, .int .i64 0] 46)) o c tb l ab nb bb kb lc kc fv vis := by
    refine h.keep (d := fun _ => False) ((Upd.refl o _ w).alloc _) (by simp) (by simp)
  have tl := tlive_leaf o c tb l ab nb bb kb lc kc fv vis _ h1
  obtain ⟨⟨t0, t1, t2, t3⟩, _⟩ := h.cells
  have TL := Lib.hid tl
  have H1 := Lib.hid h1
  have tlt : tb < w.heap.size := lt_of_block h.t
  clear h h1 tl
  go_enter Tryz.func121, Tryz.ntmps121
  go_wp2_with fail
  refine TL.out.mono ?_
  rintro e w2 ⟨rfl, n, hw⟩
  have h2 : Leaf w2 o c tb l ab nb bb kb lc kc fv vis := by rw [hw]; exact H1.out.upd (fun _ _ => rfl) (fun _ _ => rfl)
  have r2 : w2.heap[w.heap.size]? = some (.cells #[.int .i64 0, .int .i64 0, .int .i64 0, .int .i64 0] 46 (0, 0)) := by rw [hw]; exact heap_alloc_new w _
  have bl : Below w.heap.size w w2 := by rw [hw]; exact ⟨rfl, rfl, rfl, by show w.heap.size ≤ (w.alloc _).heap.size; rw [World.size_alloc]; omega, fun k hk => Below.heap_alloc w _ k hk⟩
  have h2d : Leaf w2.drew o c tb l ab nb bb kb lc kc fv vis := h2.upd (fun _ _ => rfl) (fun _ _ => rfl)
  have tl2 := tlen_leaf o c tb l ab nb bb kb lc kc fv vis _ h2d
  have TL2 := Lib.hid tl2
  obtain ⟨⟨s0, s1, s2, s3⟩, hn, _⟩ := h2.cells
  have n2 := hn 2 _ rfl
  have x0 : w2.cell? ⟨w.heap.size, 0, none⟩ = some (.int .i64 0) := by rw [Joins.cell_of_block r2]; rfl
  have x1 : w2.cell? ⟨w.heap.size, 1, none⟩ = some (.int .i64 0) := by rw [Joins.cell_of_block r2]; rfl
  have x2 : w2.cell? ⟨w.heap.size, 2, none⟩ = some (.int .i64 0) := by rw [Joins.cell_of_block r2]; rfl
  have x3 : w2.cell? ⟨w.heap.size, 3, none⟩ = some (.int .i64 0) := by rw [Joins.cell_of_block r2]; rfl
  have f0 := Joins.unfrozen_of_block r2 0
  have f1 := Joins.unfrozen_of_block r2 1
  have f2 := Joins.unfrozen_of_block r2 2
  have f3 := Joins.unfrozen_of_block r2 3
  have wr : IntKind.i64.wrap 2 = 2 := by decide
  have wr1 : IntKind.i64.wrap 1 = 1 := by decide
  have R2D := Lib.hid (fun m => (show (w2.drewN m).heap[w.heap.size]? = _ from r2))
  have BLD := Lib.hid (fun m => (show Below w.heap.size w (w2.drewN m) from ⟨bl.os, bl.tape, bl.output, bl.size, bl.block⟩))
  have BL := Lib.hid bl
  clear hn h2 h2d tl2 hw r2 bl t0 t1 t2 t3
  go_wp2_with fail
  go_region_with (first | (go_at_call 120; refine TL2.out.mono ?_; rintro e w3 ⟨rfl, n3, rfl⟩))
  all_goals go_wp2_with fail
  all_goals try simp only [Exit.inBlock, Exit.then]
  all_goals
    refine bodyPost_ret (results_cell_row rfl _ _ w.heap.size 46 #[.int .i64 l.length, .int .i64 0, .int .i64 1, .int .i64 1] (0, 0) _ rfl (shape_row l.length (R2D.out _)) Tryz.underlying46 rfl (by kernel_rfl)) rfl ?_
    exact ⟨rfl, shape_below l.length (BLD.out _)⟩
end Go.Proofs.YtnadgcgnediakaaGreatDoor
namespace Go.Proofs.YtnadgcgnediakaaGreatDoor
open Go.ChangeShapes Go.WideShapes Go.ChangeAt Go.RowKit Go.Deep

/-- a shelf by value -/
def shelfV (tb lv p : Nat) : Value := .agg #[.pointer (some ⟨tb, 0, none⟩), .int .i64 lv, .int .i64 p]
/-- what a closure over a variable may touch: a tree's blocks, the variable -/
def cl (c x : Nat) : Prop := tr c x ∨ x = 5
theorem ext_keep {w w1 : World} {o : Nat → Nat} {c tb d : Nat} {l : List Bool} (h : IsTree w o c tb l) (hs : ∀ b, b < w.heap.size → w1.heap[b]? = w.heap[b]?) : IsTree w1 (ext o w.heap.size d) c tb l := by
  rcases h with ⟨h1, _, _, _, _, _, _, _, _, h⟩ | ⟨h1, ⟨ab, vis, h⟩ | ⟨ab, nb, kb, fb, lc, kc, fc, x, vis, h⟩⟩
  · exact .inl ⟨h1, _, _, _, _, _, _, _, _, h.upd hs (fun b hb => ext_old hb)⟩
  · exact .inr ⟨h1, .inl ⟨ab, vis, ⟨(hs _ (lt_of_block h.t)).trans h.t, (hs _ (lt_of_block h.a)).trans h.a, (ext_old (lt_of_block h.t)).trans h.ot, (ext_old (lt_of_block h.a)).trans h.oa⟩⟩⟩
  · refine .inr ⟨h1, .inr ⟨ab, nb, kb, fb, lc, kc, fc, x, vis, ⟨(hs _ (lt_of_block h.t)).trans h.t, (hs _ (lt_of_block h.a)).trans h.a, ?_, ?_, ?_, (ext_old (lt_of_block h.t)).trans h.ot, (ext_old (lt_of_block h.a)).trans h.oa⟩⟩⟩
    · exact ⟨owns_same h.n.1 fun k hk => hs k (ownBlock_lt h.n.1 hk), fun k hk => (ext_old (ownBlock_lt h.n.1 hk)).trans (h.n.2 k hk)⟩
    · exact ⟨owns_same h.k.1 fun k hk => hs k (ownBlock_lt h.k.1 hk), fun k hk => (ext_old (ownBlock_lt h.k.1 hk)).trans (h.k.2 k hk)⟩
    · exact ⟨owns_same h.f.1 fun k hk => hs k (ownBlock_lt h.f.1 hk), fun k hk => (ext_old (ownBlock_lt h.f.1 hk)).trans (h.f.2 k hk)⟩

theorem rank1_any (o : Nat → Nat) (c tb lv p kb bb nb k : Nat) (b : Bool) (l : List Bool) (x : Int) (w : World) (h : IsTree w o c tb l) (hk : k ≤ l.length) (hc : 10 ≤ c)
    (ck : w.cell? ⟨kb, 0, none⟩ = some (.int .i64 k)) (cb : w.cell? ⟨bb, 0, none⟩ = some (.bool b)) (hn : w.heap[nb]? = some (.cells #[.int .i64 x] 3 (0, 0))) (on : o nb = 5) :
    Calls Tryz.prog 190 #[shelfV tb lv p, .pointer (some ⟨kb, 0, none⟩), .pointer (some ⟨bb, 0, none⟩), .pointer (some ⟨nb, 0, none⟩)] w fun e w' => e = .returned (.tuple #[]) ∧
      ∃ o', Upd o (cl c) w w' o' ∧ IsTree w' o' c tb l ∧ w'.heap[nb]? = some (.cells #[.int .i64 (likeL l k b)] 3 (0, 0)) := by
  have h1 : IsTree (w.alloc (.cells #[.pointer (some ⟨tb, 0, none⟩), .int .i64 lv, .int .i64 p] 155)) (ext o w.heap.size 0) c tb l := ext_keep h (fun b hb => Below.heap_alloc _ _ _ hb)
  have kl : kb < w.heap.size := cell_lt ck
  have bl : bb < w.heap.size := cell_lt cb
  have nl : nb < w.heap.size := lt_of_block hn
  have n1 := (Below.heap_alloc w (.cells #[.pointer (some ⟨tb, 0, none⟩), .int .i64 lv, .int .i64 p] 155) nb nl).trans hn
  have tk := trank_any (ext o w.heap.size 0) c tb l k b _ h1 hk
  have TK := Lib.hid tk
  have ON := Lib.hid ((ext_old (c := 0) nl).trans on)
  have N1 := Lib.hid n1
  have HN := Lib.hid hn
  have U0 := Lib.hid ((Upd.start o (cl c) w 0).alloc (.cells #[.pointer (some ⟨tb, 0, none⟩), .int .i64 lv, .int .i64 p] 155))
  have ONN := Lib.hid on
  clear h h1 tk n1 hn on
  unfold shelfV
  go_enter Tryz.func190, Tryz.ntmps190
  go_wp2_with fail
  refine TK.out.mono ?_
  rintro e w2 ⟨rfl, o2, u2, t2⟩
  have n2 := (u2.heap N1.out (by rw [ON.out]; unfold tr; omega)).1
  have c2 : w2.cell? ⟨nb, 0, none⟩ = some (.int .i64 x) := by rw [Joins.cell_of_block n2]; rfl
  have f2 := Joins.unfrozen_of_block n2 0
  have U2 := Lib.hid (U0.out.trans u2 (fun _ h => .inl h))
  have T2 := Lib.hid t2
  have N2 := Lib.hid n2
  have on2 : o2 nb = 5 := (u2.own nb (lt_of_block N1.out)).trans ON.out
  have ON2 := Lib.hid on2
  have h5 : ¬ tr c 5 := by unfold tr; omega
  clear u2 t2 n2 ck cb on2
  go_wp2_with fail
  go_end0
  refine ⟨rfl, o2, U2.out.set _ (.inr (.inr ONN.out)), T2.out.keep (d := fun x => x = 5) ((Upd.refl o2 _ w2).set _ (.inr ON2.out)) (by omega) (by omega), Joins.block_setCell N2.out _⟩

/-- the wave's own block: nine shelves, how many symbols, visits -/
def WaveTop (w : World) (wb : Nat) (sh : Nat → Value) (n : Nat) (vis : Int) : Prop :=
  w.heap[wb]? = some (.cells #[sh 0, sh 1, sh 2, sh 3, sh 4, sh 5, sh 6, sh 7, sh 8, .int .i64 n, .int .i64 vis] 152 (0, 0))
theorem WaveTop.visit {w : World} {wb n : Nat} {sh : Nat → Value} {vis : Int} (h : WaveTop w wb sh n vis) (v : Int) : WaveTop (w.setCell ⟨wb, 10, none⟩ (.int .i64 v)) wb sh n v := Joins.block_setCell h _
theorem WaveTop.c10 {w : World} {wb n : Nat} {sh : Nat → Value} {vis : Int} (h : WaveTop w wb sh n vis) : w.cell? ⟨wb, 10, none⟩ = some (.int .i64 vis) := by rw [Joins.cell_of_block h]; rfl
theorem WaveTop.c9 {w : World} {wb n : Nat} {sh : Nat → Value} {vis : Int} (h : WaveTop w wb sh n vis) : w.cell? ⟨wb, 9, none⟩ = some (.int .i64 n) := by rw [Joins.cell_of_block h]; rfl
theorem WaveTop.f {w : World} {wb n : Nat} {sh : Nat → Value} {vis : Int} (h : WaveTop w wb sh n vis) (i : Nat) : w.frozen? ⟨wb, i, none⟩ = false := Joins.unfrozen_of_block h i
/-- what look may touch -/
def lk (c x : Nat) : Prop := cl c x ∨ x = 1

set_option maxHeartbeats 1000000 in
theorem look_any (f : FuncId) (caps : Array Value) (o : Nat → Nat) (c tb lv p wb n : Nat) (sh : Nat → Value) (vis : Int) (l : List Bool) (Q : World → (Nat → Nat) → Prop) (w : World) (hc : 10 ≤ c)
    (hf : ∀ (args : Array Value) (wx : World), (callFunc f args).run Tryz.prog wx = .ok (.enter f args) wx)
    (hw : WaveTop w wb sh n vis) (ow : o wb = 1)
    (hcl : Calls Tryz.prog f (#[shelfV tb lv p] ++ caps) (w.alloc (.cells #[.pointer (some ⟨tb, 0, none⟩), .int .i64 lv, .int .i64 p] 155)) fun e w' => e = .returned (.tuple #[]) ∧
      ∃ o', Upd (ext o w.heap.size 0) (cl c) (w.alloc (.cells #[.pointer (some ⟨tb, 0, none⟩), .int .i64 lv, .int .i64 p] 155)) w' o' ∧ IsTree w' o' c tb l ∧ Q w' o')
    (hQ : ∀ w' o' v, Q w' o' → o' wb = 1 → Q (w'.setCell ⟨wb, 10, none⟩ v).drew o') :
    Calls Tryz.prog 133 #[.pointer (some ⟨wb, 0, none⟩), shelfV tb lv p, .func (.func f) #[] caps] w fun e w' => e = .returned (.tuple #[]) ∧
      ∃ o' vis', Upd o (lk c) w w' o' ∧ IsTree w' o' c tb l ∧ WaveTop w' wb sh n vis' ∧ o' wb = 1 ∧ Q w' o' := by
  have CL := Lib.hid hcl
  have wl := lt_of_block hw
  have h1 : WaveTop (w.alloc (.cells #[.pointer (some ⟨tb, 0, none⟩), .int .i64 lv, .int .i64 p] 155)) wb sh n vis := (Below.heap_alloc _ _ _ wl).trans hw
  have H1 := Lib.hid h1
  have x1 : (w.alloc (.cells #[.pointer (some ⟨tb, 0, none⟩), .int .i64 lv, .int .i64 p] 155)).heap[w.heap.size]? = some (.cells #[.pointer (some ⟨tb, 0, none⟩), .int .i64 lv, .int .i64 p] 155 (0, 0)) := heap_alloc_new w _
  have X1 := Lib.hid x1
  have OW := Lib.hid ((ext_old (c := 0) wl).trans ow)
  have U1 := Lib.hid ((Upd.start o (lk c) w 0).alloc (.cells #[.pointer (some ⟨tb, 0, none⟩), .int .i64 lv, .int .i64 p] 155))
  have HQ := Lib.hid hQ
  have OWW := Lib.hid ow
  clear hcl h1 x1 ow hQ hw
  unfold shelfV
  go_enter Tryz.func133, Tryz.ntmps133
  go_wp2_with fail
  refine CL.out.mono ?_
  rintro e w2 ⟨rfl, o2, u2, t2, q2⟩
  have n5 : ¬ cl c 1 := by unfold cl tr; omega
  have n0 : ¬ cl c 0 := by unfold cl tr; omega
  have w2h := u2.heap H1.out (by rw [OW.out]; exact n5)
  have x2 := (u2.heap X1.out (by rw [ext_new (Nat.le_refl _)]; exact n0)).1
  obtain ⟨tv, htv⟩ := t2.vis
  have W2 : WaveTop w2 wb sh n vis := w2h.1
  have ow2 : o2 wb = 1 := w2h.2.trans OW.out
  have c10 := W2.c10
  have f10 := W2.f 10
  have xt : w2.cell? ⟨w.heap.size, 0, none⟩ = some (.pointer (some ⟨tb, 0, none⟩)) := by rw [Joins.cell_of_block x2]; rfl
  have vs := fun wx hx => visits_any tb tv wx hx
  have VS := Lib.hid vs
  have HTV := Lib.hid htv
  have Q2 := Lib.hid q2
  have T2 := Lib.hid t2
  have WT2 := Lib.hid W2
  have OW2 := Lib.hid ow2
  have U2 := Lib.hid (U1.out.trans u2 (fun _ h => .inl h))
  clear u2 t2 q2 w2h x2 W2 ow2 vs n5 n0
  go_wp2_with fail
  go_region_with (first | (go_at_call 187; refine (VS.out w2.drew HTV.out).mono ?_; rintro e w' ⟨rfl, rfl⟩))
  all_goals go_wp2_with fail
  all_goals (first | go_end0 | refine bodyPost_end (results_none rfl _ _ _) rfl ?_)
  all_goals
    refine ⟨rfl, o2, _, (U2.out.set _ (.inr (.inr OWW.out))).drew, T2.out.keep (d := fun x => x = 1) (((Upd.refl o2 _ w2).set _ (.inr OW2.out)).drew) (by omega) (by omega), WT2.out.visit _, OW2.out, HQ.out _ _ _ Q2.out OW2.out⟩
end Go.Proofs.YtnadgcgnediakaaGreatDoor
namespace Go.Proofs.YtnadgcgnediakaaGreatDoor
open Go.ChangeShapes Go.WideShapes Go.ChangeAt Go.RowKit Go.Deep

/-- what a call on the wave may touch -/
def wv (c x : Nat) : Prop := tr c x ∨ x = 1
/-- new blocks: nobody's, but one: a variable's -/
def ownV (o : Nat → Nat) (n v : Nat) : Nat → Nat := fun b => if b < n then o b else if b = v then 5 else 0
theorem run_enter {f : FuncId} {fn : Func} (hf : Tryz.prog.funcs[f]? = some fn) (hname : (fn.name == "runtime.NumGoroutine") = false) (hb : fn.body.isNone = false) (args : Array Value) (wx : World) :
    (callFunc f args).run Tryz.prog wx = .ok (.enter f args) wx := by
  have h1 : fn.name ≠ "runtime.NumGoroutine" := by simpa using hname
  have h2 : fn.body ≠ none := by intro e; rw [e] at hb; simp at hb
  simp [callFunc, hf, h1, h2, go_sem]
theorem enter190 (args : Array Value) (wx : World) : (callFunc 190 args).run Tryz.prog wx = .ok (.enter 190 args) wx := run_enter Tryz.func190 (by kernel_rfl) (by kernel_rfl) args wx
/-- nobody owns by 5 but a call's own variable -/
def No5 (o : Nat → Nat) : Prop := ∀ b, o b ≠ 5
def clean (o : Nat → Nat) : Nat → Nat := fun b => if o b = 5 then 0 else o b
theorem clean_no5 (o : Nat → Nat) : No5 (clean o) := by
  intro b
  unfold clean
  split
  · omega
  · assumption
theorem clean_ne {o : Nat → Nat} {b c : Nat} (h : o b = c) (hc : c ≠ 5) : clean o b = c := by unfold clean; rw [h, if_neg hc]
theorem Owned.clean {w : World} {o : Nat → Nat} {c : Nat} {e : TypeId} {size : Nat} {v : Value} {n : Nat} {xs : List Value} (h : Owned w o c e size v n xs) (hc : c ≠ 5) : Owned w (clean o) c e size v n xs := ⟨h.1, fun k hk => clean_ne (h.2 k hk) hc⟩
theorem IsTree.clean {w : World} {o : Nat → Nat} {c tb : Nat} {l : List Bool} (h : IsTree w o c tb l) (hc : 10 ≤ c) : IsTree w (clean o) c tb l := by
  have h5 : c ≠ 5 := by omega
  have h6 : c + 1 ≠ 5 := by omega
  rcases h with ⟨h1, ab, nb, bb, kb, lc, kc, fv, vis, h⟩ | ⟨h1, ⟨ab, vis, h⟩ | ⟨ab, nb, kb, fb, lc, kc, fc, x, vis, h⟩⟩
  · exact .inl ⟨h1, ab, nb, bb, kb, lc, kc, fv, vis, ⟨h.t, h.a, h.n.clean h5, h.k.clean h6, h.f.clean h6, h.b, clean_ne h.ot h5, clean_ne h.oa h6, clean_ne h.ob h5⟩⟩
  · exact .inr ⟨h1, .inl ⟨ab, vis, ⟨h.t, h.a, clean_ne h.ot h5, clean_ne h.oa h6⟩⟩⟩
  · exact .inr ⟨h1, .inr ⟨ab, nb, kb, fb, lc, kc, fc, x, vis, ⟨h.t, h.a, h.n.clean h5, h.k.clean h6, h.f.clean h6, clean_ne h.ot h5, clean_ne h.oa h6⟩⟩⟩
theorem Upd.clean {o o1 : Nat → Nat} {c : Nat → Prop} {w w1 : World} (h : Upd o c w w1 o1) (h5 : No5 o) : Upd o c w w1 (clean o1) := h.reown fun b hb => clean_ne (h.own b hb) (h5 b)

def rb3 (w : World) (tb lv p k : Nat) (b : Bool) : World := (((w.alloc (.cells #[.pointer (some ⟨tb, 0, none⟩), .int .i64 lv, .int .i64 p] 155)).alloc (.cells #[.int .i64 k] 3)).alloc (.cells #[.bool b] 4)).alloc (.cells #[.int .i64 0] 3)
theorem wrank_any (o : Nat → Nat) (c tb lv p wb n k : Nat) (b : Bool) (sh : Nat → Value) (vis : Int) (l : List Bool) (w : World) (hc : 10 ≤ c)
    (h5 : No5 o) (hw : WaveTop w wb sh n vis) (ow : o wb = 1) (h : IsTree w o c tb l) (hk : k ≤ l.length) :
    Calls Tryz.prog 136 #[.pointer (some ⟨wb, 0, none⟩), shelfV tb lv p, .int .i64 k, .bool b] w fun e w' => e = .returned (.int .i64 (likeL l k b)) ∧
      ∃ o' vis', No5 o' ∧ Upd o (wv c) w w' o' ∧ IsTree w' o' c tb l ∧ WaveTop w' wb sh n vis' := by
  have wl := lt_of_block hw
  have sz : (rb3 w tb lv p k b).heap.size = w.heap.size + 4 := by simp [rb3]
  have hs : ∀ x, x < w.heap.size → (rb3 w tb lv p k b).heap[x]? = w.heap[x]? := fun x hx => by
    unfold rb3
    rw [Below.heap_alloc _ _ _ (by simp; omega), Below.heap_alloc _ _ _ (by simp; omega), Below.heap_alloc _ _ _ (by simp; omega), Below.heap_alloc _ _ _ hx]
  have U4 : Upd o (fun _ => False) w (rb3 w tb lv p k b) (ownV o w.heap.size (w.heap.size + 3)) := by
    refine ((((((Upd.refl o _ w).alloc _).alloc _).alloc _).alloc _).reown fun x hx => ?_)
    unfold ownV; rw [if_pos hx]
  have hw4 : WaveTop (rb3 w tb lv p k b) wb sh n vis := (hs wb wl).trans hw
  have ow4 : ownV o w.heap.size (w.heap.size + 3) wb = 1 := (U4.own wb wl).trans ow
  have h4 := h.keep U4 (by simp) (by simp)
  have ck : (rb3 w tb lv p k b).cell? ⟨w.heap.size + 1, 0, none⟩ = some (.int .i64 k) := by
    have := World.cell?_alloc_new (w.alloc (.cells #[.pointer (some ⟨tb, 0, none⟩), .int .i64 lv, .int .i64 p] 155)) #[.int .i64 k] 3 0
    rw [World.size_alloc] at this
    unfold rb3
    rw [World.cell?_alloc_lt _ _ _ (by simp), World.cell?_alloc_lt _ _ _ (by simp)]
    exact this
  have cb : (rb3 w tb lv p k b).cell? ⟨w.heap.size + 2, 0, none⟩ = some (.bool b) := by
    have := World.cell?_alloc_new ((w.alloc (.cells #[.pointer (some ⟨tb, 0, none⟩), .int .i64 lv, .int .i64 p] 155)).alloc (.cells #[.int .i64 k] 3)) #[.bool b] 4 0
    rw [World.size_alloc, World.size_alloc] at this
    unfold rb3
    rw [World.cell?_alloc_lt _ _ _ (by simp)]
    exact this
  have hn : (rb3 w tb lv p k b).heap[w.heap.size + 3]? = some (.cells #[.int .i64 0] 3 (0, 0)) := by
    have := heap_alloc_new (((w.alloc (.cells #[.pointer (some ⟨tb, 0, none⟩), .int .i64 lv, .int .i64 p] 155)).alloc (.cells #[.int .i64 k] 3)).alloc (.cells #[.bool b] 4)) (.cells #[.int .i64 0] 3)
    rw [World.size_alloc, World.size_alloc, World.size_alloc] at this
    exact this
  have on : ownV o w.heap.size (w.heap.size + 3) (w.heap.size + 3) = 5 := by unfold ownV; rw [if_neg (by omega), if_pos rfl]
  -- the closure, at the world in which look has boxed its shelf
  have hcl := rank1_any (ext (ownV o w.heap.size (w.heap.size + 3)) (rb3 w tb lv p k b).heap.size 0) c tb lv p (w.heap.size + 1) (w.heap.size + 2) (w.heap.size + 3) k b l 0
    ((rb3 w tb lv p k b).alloc (.cells #[.pointer (some ⟨tb, 0, none⟩), .int .i64 lv, .int .i64 p] 155)) (ext_keep h4 (fun b hb => Below.heap_alloc _ _ _ hb)) hk hc
    ((World.cell?_alloc_lt _ _ _ (by simp [sz])).trans ck) ((World.cell?_alloc_lt _ _ _ (by simp [sz])).trans cb) ((Below.heap_alloc _ _ _ (by rw [sz]; omega)).trans hn) ((ext_old (by rw [sz]; omega)).trans on)
  have lk := look_any 190 #[.pointer (some ⟨w.heap.size + 1, 0, none⟩), .pointer (some ⟨w.heap.size + 2, 0, none⟩), .pointer (some ⟨w.heap.size + 3, 0, none⟩)] _ c tb lv p wb n sh vis l
    (fun w' _ => w'.heap[w.heap.size + 3]? = some (.cells #[.int .i64 (likeL l k b)] 3 (0, 0))) _ hc enter190 hw4 ow4 hcl
    (fun w' o' v hq how => by
      rw [heap_drew, Below.heap_setCell _ _ _ _ (show w.heap.size + 3 ≠ wb by omega)]
      exact hq)
  have LK := Lib.hid lk
  have UU := Lib.hid U4
  have SZ := Lib.hid sz
  unfold shelfV at lk
  clear hs hw4 ow4 h4 ck cb hn on hcl lk U4 sz hw ow h
  unfold shelfV
  go_enter Tryz.func136, Tryz.ntmps136
  go_wp2_with fail
  refine LK.out.mono ?_
  rintro e w2 ⟨rfl, o2, vis2, u2, t2, q2, how2, hr2⟩
  have r2 : w2.cell? ⟨w.heap.size + 3, 0, none⟩ = some (.int .i64 (likeL l k b)) := by rw [Joins.cell_of_block hr2]; rfl
  have U2 := Lib.hid u2
  have T2 := Lib.hid t2
  have Q2 := Lib.hid q2
  clear u2 t2 q2 hr2 how2
  go_wp2_with fail
  go_ret
  refine ⟨rfl, clean o2, vis2, clean_no5 _, Upd.clean (((UU.out.mono (d := wv c) (by simp)).trans' (d := lk c) U2.out ?_)) h5, T2.out.clean hc, Q2.out⟩
  intro b _ hl
  rcases hl with (h | h) | h
  · exact .inl h
  · exact absurd h (h5 b)
  · exact .inr h
end Go.Proofs.YtnadgcgnediakaaGreatDoor
namespace Go.Proofs.YtnadgcgnediakaaGreatDoor
open Go.ChangeShapes Go.WideShapes Go.ChangeAt Go.RowKit Go.Deep

theorem get1_any (o : Nat → Nat) (c tb lv p kb vb k : Nat) (l : List Bool) (x : Bool) (w : World) (h : IsTree w o c tb l) (hk : k < l.length) (hc : 10 ≤ c)
    (ck : w.cell? ⟨kb, 0, none⟩ = some (.int .i64 k)) (hn : w.heap[vb]? = some (.cells #[.bool x] 4 (0, 0))) (on : o vb = 5) :
    Calls Tryz.prog 134 #[shelfV tb lv p, .pointer (some ⟨kb, 0, none⟩), .pointer (some ⟨vb, 0, none⟩)] w fun e w' => e = .returned (.tuple #[]) ∧
      ∃ o', Upd o (cl c) w w' o' ∧ IsTree w' o' c tb l ∧ w'.heap[vb]? = some (.cells #[.bool (l.getD k false)] 4 (0, 0)) ∧ o' vb = 5 := by
  obtain ⟨bit, hbit⟩ : ∃ bit, l.getD k false = bit := ⟨_, rfl⟩
  have h1 : IsTree (w.alloc (.cells #[.pointer (some ⟨tb, 0, none⟩), .int .i64 lv, .int .i64 p] 155)) (ext o w.heap.size 0) c tb l := ext_keep h (fun b hb => Below.heap_alloc _ _ _ hb)
  have kl : kb < w.heap.size := cell_lt ck
  have nl : vb < w.heap.size := lt_of_block hn
  have n1 := (Below.heap_alloc w (.cells #[.pointer (some ⟨tb, 0, none⟩), .int .i64 lv, .int .i64 p] 155) vb nl).trans hn
  have tk := tget_any (ext o w.heap.size 0) c tb l k _ h1 hk
  rw [hbit] at tk ⊢
  have TK := Lib.hid tk
  have ON := Lib.hid ((ext_old (c := 0) nl).trans on)
  have N1 := Lib.hid n1
  have U0 := Lib.hid ((Upd.start o (cl c) w 0).alloc (.cells #[.pointer (some ⟨tb, 0, none⟩), .int .i64 lv, .int .i64 p] 155))
  have ONN := Lib.hid on
  clear h h1 tk n1 hn on hbit
  unfold shelfV
  go_enter Tryz.func134, Tryz.ntmps134
  go_wp2_with fail
  refine TK.out.mono ?_
  rintro e w2 ⟨rfl, o2, u2, t2⟩
  have n2 := (u2.heap N1.out (by rw [ON.out]; unfold tr; omega)).1
  have c2 : w2.cell? ⟨vb, 0, none⟩ = some (.bool x) := by rw [Joins.cell_of_block n2]; rfl
  have f2 := Joins.unfrozen_of_block n2 0
  have U2 := Lib.hid (U0.out.trans u2 (fun _ h => .inl h))
  have T2 := Lib.hid t2
  have N2 := Lib.hid n2
  have on2 : o2 vb = 5 := (u2.own vb (lt_of_block N1.out)).trans ON.out
  have ON2 := Lib.hid on2
  clear u2 t2 n2 ck on2
  go_wp2_with fail
  go_end0
  exact ⟨rfl, o2, U2.out.set _ (.inr (.inr ONN.out)), T2.out.keep (d := fun x => x = 5) ((Upd.refl o2 _ w2).set _ (.inr ON2.out)) (by omega) (by omega), Joins.block_setCell N2.out _, ON2.out⟩
theorem del1_any (o : Nat → Nat) (c tb lv p kb vb k : Nat) (l : List Bool) (x : Bool) (w : World) (h : IsTree w o c tb l) (hk : k < l.length) (hc : 10 ≤ c)
    (ck : w.cell? ⟨kb, 0, none⟩ = some (.int .i64 k)) (hn : w.heap[vb]? = some (.cells #[.bool x] 4 (0, 0))) (on : o vb = 5) :
    Calls Tryz.prog 192 #[shelfV tb lv p, .pointer (some ⟨kb, 0, none⟩), .pointer (some ⟨vb, 0, none⟩)] w fun e w' => e = .returned (.tuple #[]) ∧
      ∃ o', Upd o (cl c) w w' o' ∧ IsTree w' o' c tb (l.eraseIdx k) ∧ w'.heap[vb]? = some (.cells #[.bool (l.getD k false)] 4 (0, 0)) ∧ o' vb = 5 := by
  obtain ⟨bit, hbit⟩ : ∃ bit, l.getD k false = bit := ⟨_, rfl⟩
  have h1 : IsTree (w.alloc (.cells #[.pointer (some ⟨tb, 0, none⟩), .int .i64 lv, .int .i64 p] 155)) (ext o w.heap.size 0) c tb l := ext_keep h (fun b hb => Below.heap_alloc _ _ _ hb)
  have kl : kb < w.heap.size := cell_lt ck
  have nl : vb < w.heap.size := lt_of_block hn
  have n1 := (Below.heap_alloc w (.cells #[.pointer (some ⟨tb, 0, none⟩), .int .i64 lv, .int .i64 p] 155) vb nl).trans hn
  have tk := tdel_any (ext o w.heap.size 0) c tb l k _ h1 (by omega) hk
  rw [hbit] at tk ⊢
  have TK := Lib.hid tk
  have ON := Lib.hid ((ext_old (c := 0) nl).trans on)
  have N1 := Lib.hid n1
  have U0 := Lib.hid ((Upd.start o (cl c) w 0).alloc (.cells #[.pointer (some ⟨tb, 0, none⟩), .int .i64 lv, .int .i64 p] 155))
  have ONN := Lib.hid on
  clear h h1 tk n1 hn on hbit
  unfold shelfV
  go_enter Tryz.func192, Tryz.ntmps192
  go_wp2_with fail
  refine TK.out.mono ?_
  rintro e w2 ⟨rfl, o2, u2, t2⟩
  have n2 := (u2.heap N1.out (by rw [ON.out]; unfold tr; omega)).1
  have c2 : w2.cell? ⟨vb, 0, none⟩ = some (.bool x) := by rw [Joins.cell_of_block n2]; rfl
  have f2 := Joins.unfrozen_of_block n2 0
  have U2 := Lib.hid (U0.out.trans u2 (fun _ h => .inl h))
  have T2 := Lib.hid t2
  have N2 := Lib.hid n2
  have on2 : o2 vb = 5 := (u2.own vb (lt_of_block N1.out)).trans ON.out
  have ON2 := Lib.hid on2
  clear u2 t2 n2 ck on2
  go_wp2_with fail
  go_end0
  exact ⟨rfl, o2, U2.out.set _ (.inr (.inr ONN.out)), T2.out.keep (d := fun x => x = 5) ((Upd.refl o2 _ w2).set _ (.inr ON2.out)) (by omega) (by omega), Joins.block_setCell N2.out _, ON2.out⟩
theorem ins1_any (o : Nat → Nat) (c tb lv p kb bb k : Nat) (b : Bool) (l : List Bool) (w : World) (h : IsTree w o c tb l) (hk : k ≤ l.length) (hl : l.length < 128) (hc : 10 ≤ c)
    (ck : w.cell? ⟨kb, 0, none⟩ = some (.int .i64 k)) (cb : w.cell? ⟨bb, 0, none⟩ = some (.bool b)) :
    Calls Tryz.prog 196 #[shelfV tb lv p, .pointer (some ⟨kb, 0, none⟩), .pointer (some ⟨bb, 0, none⟩)] w fun e w' => e = .returned (.tuple #[]) ∧
      ∃ o', Upd o (cl c) w w' o' ∧ IsTree w' o' c tb (l.insertIdx k b) := by
  have h1 : IsTree (w.alloc (.cells #[.pointer (some ⟨tb, 0, none⟩), .int .i64 lv, .int .i64 p] 155)) (ext o w.heap.size 0) c tb l := ext_keep h (fun b hb => Below.heap_alloc _ _ _ hb)
  have kl : kb < w.heap.size := cell_lt ck
  have bl : bb < w.heap.size := cell_lt cb
  have tk := tins_any (ext o w.heap.size 0) c tb l k b _ h1 (by omega) hk hl
  have TK := Lib.hid tk
  have U0 := Lib.hid ((Upd.start o (cl c) w 0).alloc (.cells #[.pointer (some ⟨tb, 0, none⟩), .int .i64 lv, .int .i64 p] 155))
  clear h h1 tk
  unfold shelfV
  go_enter Tryz.func196, Tryz.ntmps196
  go_wp2_with fail
  refine TK.out.mono ?_
  rintro e w2 ⟨rfl, o2, u2, t2⟩
  have U2 := Lib.hid (U0.out.trans u2 (fun _ h => .inl h))
  have T2 := Lib.hid t2
  clear u2 t2 ck cb
  go_wp2_with fail
  go_end0
  exact ⟨rfl, o2, U2.out, T2.out⟩
theorem enter134 (args : Array Value) (wx : World) : (callFunc 134 args).run Tryz.prog wx = .ok (.enter 134 args) wx := run_enter Tryz.func134 (by kernel_rfl) (by kernel_rfl) args wx
theorem enter192 (args : Array Value) (wx : World) : (callFunc 192 args).run Tryz.prog wx = .ok (.enter 192 args) wx := run_enter Tryz.func192 (by kernel_rfl) (by kernel_rfl) args wx
theorem enter196 (args : Array Value) (wx : World) : (callFunc 196 args).run Tryz.prog wx = .ok (.enter 196 args) wx := run_enter Tryz.func196 (by kernel_rfl) (by kernel_rfl) args wx
theorem enter154 (args : Array Value) (wx : World) : (callFunc 154 args).run Tryz.prog wx = .ok (.enter 154 args) wx := run_enter Tryz.func154 (by kernel_rfl) (by kernel_rfl) args wx

/-- the path behind a bit -/
theorem snext_any (tb lv p : Nat) (b : Bool) (hp : p < 1000) (w : World) : Calls Tryz.prog 137 #[shelfV tb lv p, .bool b] w fun e w' => e = .returned (.int .i64 (2 * p + b.toNat : Nat)) ∧ w' = w.alloc (.cells #[.pointer (some ⟨tb, 0, none⟩), .int .i64 lv, .int .i64 p] 155) := by
  unfold shelfV
  cases b
  · go_enter Tryz.func137, Tryz.ntmps137
    go_wp2_with fail
    go_ret
    exact ⟨ret_int (by simp), rfl⟩
  · go_enter Tryz.func137, Tryz.ntmps137
    go_wp2_with fail
    go_ret
    exact ⟨ret_int (by simp), rfl⟩
end Go.Proofs.YtnadgcgnediakaaGreatDoor
namespace Go.Proofs.YtnadgcgnediakaaGreatDoor

def bitsOf (L : List Nat) (lv p : Nat) : List Bool := (L.filter (fun s => pathN s lv == p)).map (bitN · lv)
/-- where the k-th symbol stands among those with s's path -/
def posN (L : List Nat) (k s lv : Nat) : Nat := ((L.take k).filter (fun x => pathN x lv == pathN s lv)).length

theorem path_zero (s : Nat) (h : s < 257) : pathN s 0 = 0 := by unfold pathN; exact Nat.div_eq_of_lt (by omega)
theorem path_nine (s : Nat) : pathN s 9 = s := by unfold pathN; simp
theorem path_succ (s lv : Nat) (h : lv < 9) : pathN s (lv + 1) = 2 * pathN s lv + (bitN s lv).toNat := by
  unfold pathN bitN
  have e : 9 - lv = (9 - (lv + 1)) + 1 := by omega
  have e2 : 8 - lv = 9 - (lv + 1) := by omega
  rw [e, e2, Nat.pow_succ, ← Nat.div_div_eq_div_mul]
  generalize s / 2 ^ (9 - (lv + 1)) = q
  have : (q % 2 == 1).toNat = q % 2 := by
    have := Nat.mod_lt q (show 0 < 2 by omega)
    have h2 : q % 2 = 0 ∨ q % 2 = 1 := by omega
    rcases h2 with h2 | h2 <;> rw [h2] <;> rfl
  rw [this]
  omega
theorem path_iff (x s lv : Nat) (h : lv < 9) : pathN x (lv + 1) = pathN s (lv + 1) ↔ pathN x lv = pathN s lv ∧ bitN x lv = bitN s lv := by
  rw [path_succ _ _ h, path_succ _ _ h]
  constructor
  · intro e
    have h1 := Bool.toNat_le (bitN x lv)
    have h2 := Bool.toNat_le (bitN s lv)
    refine ⟨by omega, ?_⟩
    have : (bitN x lv).toNat = (bitN s lv).toNat := by omega
    revert this
    cases bitN x lv <;> cases bitN s lv <;> simp
  · rintro ⟨e1, e2⟩
    rw [e1, e2]
theorem path_lt (s lv : Nat) (h : s < 257) (hl : lv ≤ 9) : pathN s lv < 2 ^ lv := by
  unfold pathN
  rw [Nat.div_lt_iff_lt_mul (Nat.two_pow_pos _), ← Nat.pow_add, show lv + (9 - lv) = 9 from by omega]
  omega

theorem rank_take (l : List Bool) : ∀ k, rankL l k = ((l.take k).filter id).length
  | 0 => by simp [rankL, Wd.cnt]
  | k + 1 => by
    have ih := rank_take l k
    unfold rankL at ih ⊢
    rw [Wd.cnt, ih, List.take_add_one]
    cases h : l[k]? with
    | none => simp [List.getD_eq_getElem?_getD, h]
    | some b => cases b <;> simp [List.getD_eq_getElem?_getD, h]
theorem like_take (l : List Bool) (k : Nat) (b : Bool) (hk : k ≤ l.length) : likeL l k b = ((l.take k).filter (· == b)).length := by
  unfold likeL
  have hlen : (l.take k).length = k := by rw [List.length_take]; omega
  rw [rank_take]
  generalize l.take k = m at hlen
  subst hlen
  clear hk
  cases b
  · simp only [Bool.false_eq_true, if_false]
    induction m with
    | nil => rfl
    | cons x m ih =>
      have h1 := List.length_filter_le id m
      cases x
      · simp only [List.filter_cons, id, Bool.false_eq_true, if_false, beq_self_eq_true, if_true, List.length_cons]
        omega
      · simp only [List.filter_cons, id, if_true, List.length_cons, show (true == false) = false from rfl, Bool.false_eq_true, if_false]
        omega
  · simp only [if_true]
    congr 1
    exact List.filter_congr (fun x _ => by cases x <;> rfl)

theorem ins_split {α : Type} (x : α) : ∀ (k : Nat) (l : List α), k ≤ l.length → l.insertIdx k x = l.take k ++ x :: l.drop k
  | 0, l, _ => by simp
  | k + 1, [], h => by simp at h
  | k + 1, y :: l, h => by
    rw [List.insertIdx_succ_cons, ins_split x k l (by simpa using h)]
    rfl
theorem split_at {α : Type} (l : List α) (k : Nat) (d : α) (h : k < l.length) : l = l.take k ++ l.getD k d :: l.drop (k + 1) := by
  conv => lhs; rw [← List.take_append_drop k l]
  congr 1
  rw [List.drop_eq_getElem_cons h]
  congr 1
  rw [List.getD_eq_getElem?_getD, List.getElem?_eq_getElem h]; rfl
theorem erase_split {α : Type} (l : List α) (k : Nat) (_h : k < l.length) : l.eraseIdx k = l.take k ++ l.drop (k + 1) := by
  exact List.eraseIdx_eq_take_drop_succ l k

section
variable {L : List Nat} {k s lv : Nat}
theorem pos_zero (hL : ∀ x ∈ L, x < 257) (hs : s < 257) (hk : k ≤ L.length) : posN L k s 0 = k := by
  unfold posN
  rw [List.filter_eq_self.2, List.length_take]
  · omega
  · intro x hx
    rw [path_zero x (hL x (List.mem_of_mem_take hx)), path_zero s hs]; rfl
theorem take_pos (L : List Nat) (k s lv : Nat) : (bitsOf L lv (pathN s lv)).take (posN L k s lv) = ((L.take k).filter (fun x => pathN x lv == pathN s lv)).map (bitN · lv) := by
  unfold bitsOf posN
  conv => lhs; rw [← List.take_append_drop k L, List.filter_append, List.map_append]
  rw [List.take_append_of_le_length (by rw [List.length_map, List.take_append_drop]; exact Nat.le_refl _), List.take_of_length_le (by rw [List.length_map, List.take_append_drop]; exact Nat.le_refl _)]
theorem pos_le (L : List Nat) (k s lv : Nat) : posN L k s lv ≤ (bitsOf L lv (pathN s lv)).length := by
  have := congrArg List.length (take_pos L k s lv)
  rw [List.length_map] at this
  have h2 : posN L k s lv = ((L.take k).filter (fun x => pathN x lv == pathN s lv)).length := rfl
  rw [← h2, List.length_take] at this
  omega
/-- the rank at a level is the place at the next -/
theorem pos_succ (h : lv < 9) : likeL (bitsOf L lv (pathN s lv)) (posN L k s lv) (bitN s lv) = posN L k s (lv + 1) := by
  rw [like_take _ _ _ (pos_le L k s lv), take_pos]
  unfold posN
  rw [List.filter_map, List.length_map, List.filter_filter]
  congr 1
  refine List.filter_congr fun x _ => ?_
  rw [Bool.eq_iff_iff]
  simp only [Function.comp, Bool.and_eq_true, beq_iff_eq]
  rw [path_iff x s lv h]
  exact ⟨fun ⟨a, b⟩ => ⟨b, a⟩, fun ⟨a, b⟩ => ⟨b, a⟩⟩
/-- how many of the first are s -/
theorem pos_nine (L : List Nat) (k s : Nat) : posN L k s 9 = ((L.take k).filter (· == s)).length := by
  unfold posN
  congr 1
  exact List.filter_congr (fun x _ => by rw [path_nine, path_nine])
theorem bits_at (hk : k < L.length) (hs : L.getD k 0 = s) : posN L k s lv < (bitsOf L lv (pathN s lv)).length ∧ (bitsOf L lv (pathN s lv)).getD (posN L k s lv) false = bitN s lv := by
  have e := split_at L k 0 hk
  rw [hs] at e
  have hb : bitsOf L lv (pathN s lv) = ((L.take k).filter (fun x => pathN x lv == pathN s lv)).map (bitN · lv) ++ bitN s lv :: ((L.drop (k + 1)).filter (fun x => pathN x lv == pathN s lv)).map (bitN · lv) := by
    unfold bitsOf
    conv => lhs; rw [e, List.filter_append, List.filter_cons, beq_self_eq_true, if_pos rfl, List.map_append, List.map_cons]
  have hl : posN L k s lv = (((L.take k).filter (fun x => pathN x lv == pathN s lv)).map (bitN · lv)).length := by rw [List.length_map]; rfl
  rw [hb, hl]
  refine ⟨by rw [List.length_append, List.length_cons]; omega, ?_⟩
  rw [List.getD_eq_getElem?_getD, List.getElem?_append_right (Nat.le_refl _), Nat.sub_self]
  rfl
theorem bits_len (L : List Nat) (lv p : Nat) : (bitsOf L lv p).length ≤ L.length := by
  unfold bitsOf
  rw [List.length_map]
  exact List.length_filter_le _ _
theorem ins_mid {α : Type} (A B : List α) (b : α) : (A ++ B).insertIdx A.length b = A ++ b :: B := by
  rw [ins_split b A.length (A ++ B) (by simp)]
  simp
theorem bits_ins (hk : k ≤ L.length) : bitsOf (L.insertIdx k s) lv (pathN s lv) = (bitsOf L lv (pathN s lv)).insertIdx (posN L k s lv) (bitN s lv) := by
  have hb : bitsOf L lv (pathN s lv) = ((L.take k).filter (fun x => pathN x lv == pathN s lv)).map (bitN · lv) ++ ((L.drop k).filter (fun x => pathN x lv == pathN s lv)).map (bitN · lv) := by
    unfold bitsOf
    conv => lhs; rw [← List.take_append_drop k L, List.filter_append, List.map_append]
  have hl : posN L k s lv = (((L.take k).filter (fun x => pathN x lv == pathN s lv)).map (bitN · lv)).length := by rw [List.length_map]; rfl
  rw [hb, hl, ins_mid, ins_split s k L hk]
  unfold bitsOf
  rw [List.filter_append, List.filter_cons, beq_self_eq_true, if_pos rfl, List.map_append, List.map_cons]
theorem bits_ins_other {p : Nat} (hk : k ≤ L.length) (hp : p ≠ pathN s lv) : bitsOf (L.insertIdx k s) lv p = bitsOf L lv p := by
  rw [ins_split s k L hk]
  unfold bitsOf
  have : (pathN s lv == p) = false := by simp; exact fun e => hp e.symm
  rw [List.filter_append, List.filter_cons, this, if_neg (by simp)]
  conv => rhs; rw [← List.take_append_drop k L, List.filter_append]
theorem bits_del (hk : k < L.length) (hs : L.getD k 0 = s) : bitsOf (L.eraseIdx k) lv (pathN s lv) = (bitsOf L lv (pathN s lv)).eraseIdx (posN L k s lv) := by
  have e := split_at L k 0 hk
  rw [hs] at e
  have hb : bitsOf L lv (pathN s lv) = ((L.take k).filter (fun x => pathN x lv == pathN s lv)).map (bitN · lv) ++ bitN s lv :: ((L.drop (k + 1)).filter (fun x => pathN x lv == pathN s lv)).map (bitN · lv) := by
    unfold bitsOf
    conv => lhs; rw [e, List.filter_append, List.filter_cons, beq_self_eq_true, if_pos rfl, List.map_append, List.map_cons]
  have hl : posN L k s lv = (((L.take k).filter (fun x => pathN x lv == pathN s lv)).map (bitN · lv)).length := by rw [List.length_map]; rfl
  rw [hb, hl, erase_split L k hk]
  unfold bitsOf
  rw [List.filter_append, List.map_append, List.eraseIdx_append_of_length_le (Nat.le_refl _), Nat.sub_self]
  rfl
theorem bits_del_other {p : Nat} (hk : k < L.length) (hs : L.getD k 0 = s) (hp : p ≠ pathN s lv) : bitsOf (L.eraseIdx k) lv p = bitsOf L lv p := by
  have e := split_at L k 0 hk
  rw [hs] at e
  have h2 : (pathN s lv == p) = false := by simp; exact fun e => hp e.symm
  rw [erase_split L k hk]
  unfold bitsOf
  rw [List.filter_append]
  conv => rhs; rw [e, List.filter_append, List.filter_cons, h2, if_neg (by simp)]
end
/-- the owners' number of a shelf's tree -/
def code (lv p : Nat) : Nat := 10 + 2 * (2 ^ lv + p)
theorem code_ge (lv p : Nat) : 10 ≤ code lv p := by unfold code; omega
theorem code_inj {lv p lv' p' : Nat} (hp : p < 2 ^ lv) (hp' : p' < 2 ^ lv') (h : code lv p = code lv' p' ∨ code lv p = code lv' p' + 1 ∨ code lv p + 1 = code lv' p' ∨ code lv p + 1 = code lv' p' + 1) : lv = lv' ∧ p = p' := by
  unfold code at h
  have e : 2 ^ lv + p = 2 ^ lv' + p' := by omega
  have : lv = lv' := by
    rcases Nat.lt_trichotomy lv lv' with hlt | he | hgt
    · have := Nat.pow_le_pow_right (n := 2) (by omega) (show lv + 1 ≤ lv' by omega)
      rw [Nat.pow_succ] at this
      omega
    · exact he
    · have := Nat.pow_le_pow_right (n := 2) (by omega) (show lv' + 1 ≤ lv by omega)
      rw [Nat.pow_succ] at this
      omega
  subst this
  exact ⟨rfl, by omega⟩
end Go.Proofs.YtnadgcgnediakaaGreatDoor
namespace Go.Proofs.YtnadgcgnediakaaGreatDoor
open Go.ChangeShapes Go.WideShapes Go.ChangeAt Go.RowKit Go.Deep

def shV (S sc : Nat → Nat) : Nat → Value := fun lv => .slice (some ⟨S lv, 0, none⟩) (2 ^ lv) (sc lv)
/-- shelves: of each level and path a tree of these bits -/
structure IsSh (w : World) (o : Nat → Nat) (wb n : Nat) (S sc : Nat → Nat) (tb : Nat → Nat → Nat) (B : Nat → Nat → List Bool) (vis : Int) : Prop where
  top : WaveTop w wb (shV S sc) n vis
  own : o wb = 1
  row : ∀ lv, lv < 9 → ∀ p, p < 2 ^ lv → w.cell? ⟨S lv, p * 3, none⟩ = some (.pointer (some ⟨tb lv p, 0, none⟩)) ∧ w.cell? ⟨S lv, p * 3 + 1, none⟩ = some (.int .i64 lv) ∧ w.cell? ⟨S lv, p * 3 + 2, none⟩ = some (.int .i64 p)
  so : ∀ lv, lv < 9 → o (S lv) = 2
  tree : ∀ lv, lv < 9 → ∀ p, p < 2 ^ lv → IsTree w o (code lv p) (tb lv p) (B lv p)
/-- what a call on the wave may touch -/
def gv (x : Nat) : Prop := x = 1 ∨ 10 ≤ x
theorem gv_wv {lv p x : Nat} (h : wv (code lv p) x) : gv x := by
  have := code_ge lv p
  unfold wv tr at h
  unfold gv
  omega
section
variable {w w' : World} {o o' : Nat → Nat} {wb n : Nat} {S sc : Nat → Nat} {tb : Nat → Nat → Nat} {B : Nat → Nat → List Bool} {vis vis' : Int}
theorem IsSh.S_lt (h : IsSh w o wb n S sc tb B vis) {lv : Nat} (hl : lv < 9) : S lv < w.heap.size := cell_lt (h.row lv hl 0 (Nat.two_pow_pos _)).1
/-- whatever else is touched -/
theorem IsSh.keep (h : IsSh w o wb n S sc tb B vis) {d : Nat → Prop} (u : Upd o d w w' o') (h1 : ¬ d 1) (h2 : ¬ d 2) (h10 : ∀ x, 10 ≤ x → ¬ d x) : IsSh w' o' wb n S sc tb B vis := by
  refine ⟨(u.heap h.top (by rw [h.own]; exact h1)).1, (u.heap h.top (by rw [h.own]; exact h1)).2.trans h.own, fun lv hl p hp => ?_, fun lv hl => (u.own _ (h.S_lt hl)).trans (h.so lv hl), fun lv hl p hp => (h.tree lv hl p hp).keep u (h10 _ (code_ge _ _)) (h10 _ (Nat.le_succ_of_le (code_ge _ _)))⟩
  have e : ∀ i, w'.cell? ⟨S lv, i, none⟩ = w.cell? ⟨S lv, i, none⟩ := fun i => World.cell?_of_block (a := ⟨S lv, i, none⟩) (u.same (S lv) (h.S_lt hl) (by rw [h.so lv hl]; exact h2))
  rw [e, e, e]
  exact h.row lv hl p hp
/-- one tree has been edited -/
theorem IsSh.upd (h : IsSh w o wb n S sc tb B vis) {lv p : Nat} {l : List Bool} (u : Upd o (wv (code lv p)) w w' o') (hl : lv < 9) (hp : p < 2 ^ lv) (t : IsTree w' o' (code lv p) (tb lv p) l) (top : WaveTop w' wb (shV S sc) n vis') :
    IsSh w' o' wb n S sc tb (fun a b => if a = lv ∧ b = p then l else B a b) vis' := by
  have h2 : ¬ wv (code lv p) 2 := by have := code_ge lv p; unfold wv tr; omega
  refine ⟨top, (u.own wb (lt_of_block h.top)).trans h.own, fun a ha b hb => ?_, fun a ha => (u.own _ (h.S_lt ha)).trans (h.so a ha), fun a ha b hb => ?_⟩
  · have e : ∀ i, w'.cell? ⟨S a, i, none⟩ = w.cell? ⟨S a, i, none⟩ := fun i => World.cell?_of_block (a := ⟨S a, i, none⟩) (u.same (S a) (h.S_lt ha) (by rw [h.so a ha]; exact h2))
    rw [e, e, e]
    exact h.row a ha b hb
  · by_cases he : a = lv ∧ b = p
    · obtain ⟨rfl, rfl⟩ := he
      simp only [and_self, if_true]
      exact t
    · rw [if_neg he]
      refine (h.tree a ha b hb).keep u ?_ ?_
      · intro hx
        have := code_ge a b
        unfold wv tr at hx
        exact he (code_inj hb hp (by omega))
      · intro hx
        have := code_ge a b
        unfold wv tr at hx
        exact he (code_inj hb hp (by omega))
theorem IsSh.bits (h : IsSh w o wb n S sc tb B vis) {B' : Nat → Nat → List Bool} (hB : ∀ lv, lv < 9 → ∀ p, p < 2 ^ lv → B lv p = B' lv p) : IsSh w o wb n S sc tb B' vis :=
  ⟨h.top, h.own, h.row, h.so, fun lv hl p hp => by rw [← hB lv hl p hp]; exact h.tree lv hl p hp⟩
theorem IsSh.clean (h : IsSh w o wb n S sc tb B vis) : IsSh w (clean o) wb n S sc tb B vis :=
  ⟨h.top, clean_ne h.own (by omega), h.row, fun lv hl => clean_ne (h.so lv hl) (by omega), fun lv hl p hp => (h.tree lv hl p hp).clean (code_ge _ _)⟩
theorem IsSh.visit (h : IsSh w o wb n S sc tb B vis) (v : Int) : IsSh (w.setCell ⟨wb, 10, none⟩ (.int .i64 v)) o wb n S sc tb B v := by
  have u : Upd o (· = 1) w (w.setCell ⟨wb, 10, none⟩ (.int .i64 v)) o := (Upd.refl o _ w).set _ (.inr h.own)
  refine ⟨h.top.visit v, h.own, fun lv hl p hp => ?_, h.so, fun lv hl p hp => (h.tree lv hl p hp).keep u (by have := code_ge lv p; omega) (by have := code_ge lv p; omega)⟩
  have e : ∀ i, (w.setCell ⟨wb, 10, none⟩ (.int .i64 v)).cell? ⟨S lv, i, none⟩ = w.cell? ⟨S lv, i, none⟩ := fun i => World.cell?_of_block (a := ⟨S lv, i, none⟩) (u.same (S lv) (h.S_lt hl) (by rw [h.so lv hl]; omega))
  rw [e, e, e]
  exact h.row lv hl p hp
end
/-- a wave of these symbols -/
structure IsWave (w : World) (o : Nat → Nat) (wb : Nat) (S sc : Nat → Nat) (tb : Nat → Nat → Nat) (L : List Nat) (vis : Int) : Prop where
  sh : IsSh w o wb L.length S sc tb (bitsOf L) vis
  sym : ∀ x ∈ L, x < 257
theorem idx9 (f : Nat → Value) (i : Nat) (hi : i < 9) (w : World) : (Instr.index 150 (.agg #[f 0, f 1, f 2, f 3, f 4, f 5, f 6, f 7, f 8]) (.int .i64 i)).run Tryz.prog w = .ok (f i) w := by
  refine nine (P := fun i => (Instr.index 150 (.agg #[f 0, f 1, f 2, f 3, f 4, f 5, f 6, f 7, f 8]) (.int .i64 (i : Nat))).run Tryz.prog w = .ok (f i) w) i hi ?_ ?_ ?_ ?_ ?_ ?_ ?_ ?_ ?_ <;> simp [Instr.index, run_underlying Tryz.underlying150, asIntOf, go_sem]
end Go.Proofs.YtnadgcgnediakaaGreatDoor
