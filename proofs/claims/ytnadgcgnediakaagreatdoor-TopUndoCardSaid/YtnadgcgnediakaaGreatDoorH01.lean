/- Plain law of words of 64 bits: how many ones (the sum that bits.OnesCount64 makes); no program in sight. Plain law of arrangements of a text's suffixes (rows and places); no program in sight. Plain law of one round of the reordering: a place that stands wrong is put where it belongs. Plain law of the start of an insertion: one more place, one more row. Plain law: the transform (the letter ahead of each row) and what the program counts in it. Plain law: which places are sampled; that filling about an edit leaves no place too far from one. -/
namespace Go.Proofs.YtnadgcgnediakaaGreatDoor.Wd

/-- how many of the first k are true -/
def cnt (f : Nat → Bool) : Nat → Nat
  | 0 => 0
  | k + 1 => cnt f k + (f k).toNat

theorem cnt_congr {f g : Nat → Bool} : ∀ k, (∀ i, i < k → f i = g i) → cnt f k = cnt g k
  | 0, _ => rfl
  | k + 1, h => by
    rw [cnt, cnt, cnt_congr k (fun i hi => h i (by omega)), h k (by omega)]

theorem cnt_add (f : Nat → Bool) (a : Nat) : ∀ b, cnt f (a + b) = cnt f a + cnt (fun i => f (a + i)) b
  | 0 => rfl
  | b + 1 => by
    show cnt f (a + b) + (f (a + b)).toNat = _
    rw [cnt_add f a b, cnt, Nat.add_assoc]

theorem cnt_le (f : Nat → Bool) : ∀ k, cnt f k ≤ k
  | 0 => Nat.le_refl _
  | k + 1 => by
    have := cnt_le f k
    rw [cnt]
    cases f k <;> simp <;> omega

/-- a number of bytes, the lowest first -/
def ofB : List Nat → Nat
  | [] => 0
  | c :: cs => c + 256 * ofB cs

def b1 (c : Nat) : Nat := ((c >>> 1) &&& 85) + (c &&& 85)
def b2 (c : Nat) : Nat := ((c >>> 2) &&& 51) + (c &&& 51)
def b3 (c : Nat) : Nat := (c / 16 + c) % 16

theorem testBit_join (c y j : Nat) (hc : c < 256) : (c + 256 * y).testBit j = if j < 8 then c.testBit j else y.testBit (j - 8) := by
  rw [show c + 256 * y = 2 ^ 8 * y + c from by omega, Nat.testBit_two_pow_mul_add y hc j]

theorem and_shift (n m : Nat) (hm : m < 256) (hn : n < 8) (hz : ∀ j, 8 - n ≤ j → j < 8 → m.testBit j = false) (c y M : Nat) (hc : c < 256) :
    ((c + 256 * y) >>> n) &&& (m + 256 * M) = ((c >>> n) &&& m) + 256 * ((y >>> n) &&& M) := by
  have hlt : (c >>> n) &&& m < 256 := Nat.lt_of_le_of_lt Nat.and_le_right hm
  apply Nat.eq_of_testBit_eq
  intro j
  rw [Nat.testBit_and, Nat.testBit_shiftRight, testBit_join c y _ hc, testBit_join m M j hm, testBit_join _ _ j hlt]
  by_cases h8 : j < 8
  · rw [if_pos h8, if_pos h8, Nat.testBit_and, Nat.testBit_shiftRight]
    by_cases h : n + j < 8
    · rw [if_pos h]
    · rw [hz j (by omega) h8, Bool.and_false, Bool.and_false]
  · rw [if_neg h8, if_neg h8, if_neg (by omega), Nat.testBit_and, Nat.testBit_shiftRight]
    congr 2
    omega

theorem and_join (m : Nat) (hm : m < 256) (c y M : Nat) (hc : c < 256) :
    (c + 256 * y) &&& (m + 256 * M) = (c &&& m) + 256 * (y &&& M) := by
  have h := and_shift 0 m hm (by omega) (fun j h1 h2 => by omega) c y M hc
  simpa using h

theorem stage1 : ∀ cs : List Nat, (∀ c ∈ cs, c < 256) →
    ((ofB cs >>> 1) &&& ofB (cs.map fun _ => 85)) + (ofB cs &&& ofB (cs.map fun _ => 85)) = ofB (cs.map b1)
  | [], _ => rfl
  | c :: cs, h => by
    have hc := h c (List.mem_cons_self ..)
    have ih := stage1 cs (fun x hx => h x (List.mem_cons_of_mem _ hx))
    simp only [ofB, List.map_cons]
    rw [and_shift 1 85 (by omega) (by omega) (by intro j h1 h2; rw [show j = 7 from by omega]; decide) c _ _ hc, and_join 85 (by omega) c _ _ hc, ← ih, b1]
    omega

theorem stage2 : ∀ cs : List Nat, (∀ c ∈ cs, c < 256) →
    ((ofB cs >>> 2) &&& ofB (cs.map fun _ => 51)) + (ofB cs &&& ofB (cs.map fun _ => 51)) = ofB (cs.map b2)
  | [], _ => rfl
  | c :: cs, h => by
    have hc := h c (List.mem_cons_self ..)
    have ih := stage2 cs (fun x hx => h x (List.mem_cons_of_mem _ hx))
    simp only [ofB, List.map_cons]
    rw [and_shift 2 51 (by omega) (by omega) (by
      intro j h1 h2
      have h : j = 6 ∨ j = 7 := by omega
      cases h with
      | inl h => rw [h]; decide
      | inr h => rw [h]; decide) c _ _ hc, and_join 51 (by omega) c _ _ hc, ← ih, b2]
    omega

theorem stage3 : ∀ cs : List Nat, (∀ c ∈ cs, c ≤ 68 ∧ c % 16 ≤ 4) →
    ((ofB cs / 16) + ofB cs) &&& ofB (cs.map fun _ => 15) = ofB (cs.map b3)
  | [], _ => rfl
  | c :: cs, h => by
    obtain ⟨hc, hm⟩ := h c (List.mem_cons_self ..)
    have ih := stage3 cs (fun x hx => h x (List.mem_cons_of_mem _ hx))
    have h16 : ofB cs % 16 ≤ 4 := by
      cases cs with
      | nil => simp [ofB]
      | cons d ds =>
        have := (h d (List.mem_cons_of_mem _ (List.mem_cons_self ..))).2
        simp only [ofB]; omega
    simp only [ofB, List.map_cons]
    have e : (c + 256 * ofB cs) / 16 + (c + 256 * ofB cs) = (c / 16 + c + 16 * (ofB cs % 16)) + 256 * (ofB cs / 16 + ofB cs) := by omega
    rw [e, and_join 15 (by omega) _ _ _ (by omega), ih, b3]
    congr 1
    rw [show (15 : Nat) = 2 ^ 4 - 1 from rfl, Nat.and_two_pow_sub_one_eq_mod]
    omega

/-- how many bits of a byte are 1 -/
def pop8 (c : Nat) : Nat := cnt c.testBit 8

theorem b123 : ∀ c : Fin 256, b3 (b2 (b1 c.val)) = pop8 c.val ∧ b1 c.val < 256 ∧ b2 (b1 c.val) ≤ 68 ∧ b2 (b1 c.val) % 16 ≤ 4 := by decide +kernel

theorem stages (cs : List Nat) (h : ∀ c ∈ cs, c < 256) :
    (let x := ofB cs
     let x1 := ((x >>> 1) &&& ofB (cs.map fun _ => 85)) + (x &&& ofB (cs.map fun _ => 85))
     let x2 := ((x1 >>> 2) &&& ofB (cs.map fun _ => 51)) + (x1 &&& ofB (cs.map fun _ => 51))
     ((x2 / 16) + x2) &&& ofB (cs.map fun _ => 15)) = ofB (cs.map pop8) := by
  dsimp only
  rw [stage1 cs h]
  have h1 : ∀ c ∈ cs.map b1, c < 256 := by
    intro c hc
    obtain ⟨d, hd, rfl⟩ := List.mem_map.1 hc
    exact (b123 ⟨d, h d hd⟩).2.1
  have s2 := stage2 (cs.map b1) h1
  rw [List.map_map, List.map_map] at s2
  simp only [Function.comp_def] at s2
  rw [s2]
  have h2 : ∀ c ∈ cs.map (fun x => b2 (b1 x)), c ≤ 68 ∧ c % 16 ≤ 4 := by
    intro c hc
    obtain ⟨d, hd, rfl⟩ := List.mem_map.1 hc
    exact (b123 ⟨d, h d hd⟩).2.2
  have s3 := stage3 _ h2
  rw [List.map_map, List.map_map] at s3
  simp only [Function.comp_def] at s3
  rw [s3]
  congr 1
  apply List.map_congr_left
  intro c hc
  exact (b123 ⟨c, h c hc⟩).1

/-- the eight bytes of a word -/
def bytes8 (x : Nat) : List Nat := [x % 256, x / 256 % 256, x / 65536 % 256, x / 16777216 % 256, x / 4294967296 % 256, x / 1099511627776 % 256, x / 281474976710656 % 256, x / 72057594037927936 % 256]
theorem ofB_bytes8 (x : Nat) (h : x < 18446744073709551616) : ofB (bytes8 x) = x := by
  simp only [ofB, bytes8]
  omega
theorem pop8_le (c : Nat) : pop8 c ≤ 8 := cnt_le _ 8

theorem cnt_bytes8 (x : Nat) : cnt x.testBit 64 = pop8 (x % 256) + pop8 (x / 256 % 256) + pop8 (x / 65536 % 256) + pop8 (x / 16777216 % 256) + pop8 (x / 4294967296 % 256) + pop8 (x / 1099511627776 % 256) + pop8 (x / 281474976710656 % 256) + pop8 (x / 72057594037927936 % 256) := by
  have h : ∀ k, cnt (fun i => x.testBit (8 * k + i)) 8 = pop8 (x / 2 ^ (8 * k) % 256) := by
    intro k
    unfold pop8
    apply cnt_congr
    intro i hi
    rw [show (256 : Nat) = 2 ^ 8 from rfl, Nat.testBit_mod_two_pow, decide_eq_true hi, Bool.true_and, Nat.testBit_div_two_pow]
    congr 1
    omega
  have s : ∀ k, cnt x.testBit (8 * k + 8) = cnt x.testBit (8 * k) + pop8 (x / 2 ^ (8 * k) % 256) := by
    intro k
    rw [cnt_add, h]
  have s0 := s 0
  have s1 := s 1
  have s2 := s 2
  have s3 := s 3
  have s4 := s 4
  have s5 := s 5
  have s6 := s 6
  have s7 := s 7
  simp only [Nat.mul_zero, Nat.zero_add, Nat.mul_one, Nat.reduceMul, Nat.reduceAdd, Nat.reducePow, Nat.div_one] at s0 s1 s2 s3 s4 s5 s6 s7
  have z : cnt x.testBit 0 = 0 := rfl
  omega

/-- the sum that OnesCount64 makes of a word, the last three rounds -/
theorem fold_sum (a b c d e f g h : Nat) (ha : a ≤ 8) (hb : b ≤ 8) (hc : c ≤ 8) (hd : d ≤ 8) (he : e ≤ 8) (hf : f ≤ 8) (hg : g ≤ 8) (hh : h ≤ 8) (x x1 x2 x3 : Nat)
    (hx : x = ofB [a, b, c, d, e, f, g, h]) (h1 : x1 = x + x / 256) (h2 : x2 = x1 + x1 / 65536) (h3 : x3 = x2 + x2 / 4294967296) :
    x3 % 128 = a + b + c + d + e + f + g + h ∧ x3 < 9223372036854775808 := by
  simp only [ofB] at hx
  obtain ⟨q1, hq1⟩ : ∃ q, q = b + 256 * (c + 256 * (d + 256 * (e + 256 * (f + 256 * (g + 256 * h))))) := ⟨_, rfl⟩
  have d1 : x / 256 = q1 := by omega
  have e1 : x1 = (a + b) + 256 * ((b + c) + 256 * ((c + d) + 256 * ((d + e) + 256 * ((e + f) + 256 * ((f + g) + 256 * ((g + h) + 256 * h)))))) := by
    rw [h1, d1, hx, hq1]; clear h2 h3 hx d1 hq1 h1; omega
  clear d1 hq1 h1 hx
  obtain ⟨q2, hq2⟩ : ∃ q, q = (c + d) + 256 * ((d + e) + 256 * ((e + f) + 256 * ((f + g) + 256 * ((g + h) + 256 * h)))) := ⟨_, rfl⟩
  have d2 : x1 / 65536 = q2 := by
    rw [e1, ← hq2]; clear h2 h3 e1; omega
  have e2 : x2 = (a + b + c + d) + 256 * ((b + c + d + e) + 256 * ((c + d + e + f) + 256 * ((d + e + f + g) + 256 * ((e + f + g + h) + 256 * ((f + g + h) + 256 * ((g + h) + 256 * h)))))) := by
    rw [h2, d2, e1, hq2]; clear h2 h3 e1 d2 hq2; omega
  clear d2 hq2 h2 e1
  obtain ⟨q3, hq3⟩ : ∃ q, q = (e + f + g + h) + 256 * ((f + g + h) + 256 * ((g + h) + 256 * h)) := ⟨_, rfl⟩
  have d3 : x2 / 4294967296 = q3 := by
    rw [e2, ← hq3]; clear h3 e2; omega
  have e3 : x3 = (a + b + c + d + (e + f + g + h)) + 256 * ((b + c + d + e + (f + g + h)) + 256 * ((c + d + e + f + (g + h)) + 256 * ((d + e + f + g + h) + 256 * ((e + f + g + h) + 256 * ((f + g + h) + 256 * ((g + h) + 256 * h)))))) := by
    rw [h3, d3, e2, hq3]; clear h3 e2 d3 hq3; omega
  clear d3 hq3 h3 e2
  obtain ⟨q, hq⟩ : ∃ q, q = (b + c + d + e + (f + g + h)) + 256 * ((c + d + e + f + (g + h)) + 256 * ((d + e + f + g + h) + 256 * ((e + f + g + h) + 256 * ((f + g + h) + 256 * ((g + h) + 256 * h))))) := ⟨_, rfl⟩
  rw [← hq] at e3
  constructor
  · clear hq; omega
  · omega
/-- the three rounds of masks, and their bounds -/
theorem rounds (x : Nat) (hx : x < 18446744073709551616) :
    ∃ y1 y2 y3 : Nat, ((x / 2) &&& 6148914691236517205) + (x &&& 6148914691236517205) = y1 ∧ ((y1 / 4) &&& 3689348814741910323) + (y1 &&& 3689348814741910323) = y2 ∧
      (y2 / 16 + y2) &&& 1085102592571150095 = y3 ∧ y1 < 18446744073709551616 ∧ y2 / 16 + y2 < 18446744073709551616 ∧
      ∃ y4 y5 y6 : Nat, y3 + y3 / 256 = y4 ∧ y4 + y4 / 65536 = y5 ∧ y5 + y5 / 4294967296 = y6 ∧ y6 < 9223372036854775808 ∧ y6 &&& 127 = cnt x.testBit 64 := by
  have hb : ∀ c ∈ bytes8 x, c < 256 := by
    intro c hc
    simp only [bytes8, List.mem_cons, List.not_mem_nil, or_false] at hc
    omega
  have st1 := stage1 (bytes8 x) hb
  have h1 : ∀ c ∈ (bytes8 x).map b1, c < 256 := by
    intro c hc
    obtain ⟨d, hd, rfl⟩ := List.mem_map.1 hc
    exact (b123 ⟨d, hb d hd⟩).2.1
  have st2 := stage2 ((bytes8 x).map b1) h1
  have h2 : ∀ c ∈ ((bytes8 x).map b1).map b2, c ≤ 68 ∧ c % 16 ≤ 4 := by
    intro c hc
    obtain ⟨e, he, rfl⟩ := List.mem_map.1 hc
    obtain ⟨d, hd, rfl⟩ := List.mem_map.1 he
    exact (b123 ⟨d, hb d hd⟩).2.2
  have st3 := stage3 (((bytes8 x).map b1).map b2) h2
  have e3 : (((bytes8 x).map b1).map b2).map b3 = (bytes8 x).map pop8 := by
    rw [List.map_map, List.map_map]
    apply List.map_congr_left
    intro c hc
    exact (b123 ⟨c, hb c hc⟩).1
  rw [e3] at st3
  have m1 : ofB ((bytes8 x).map fun _ => 85) = 6148914691236517205 := by simp only [bytes8, List.map_cons, List.map_nil, ofB, Nat.mul_zero, Nat.add_zero, Nat.reduceMul, Nat.reduceAdd]
  have m2 : ofB (((bytes8 x).map b1).map fun _ => 51) = 3689348814741910323 := by simp only [bytes8, List.map_cons, List.map_nil, ofB, Nat.mul_zero, Nat.add_zero, Nat.reduceMul, Nat.reduceAdd]
  have m3 : ofB ((((bytes8 x).map b1).map b2).map fun _ => 15) = 1085102592571150095 := by simp only [bytes8, List.map_cons, List.map_nil, ofB, Nat.mul_zero, Nat.add_zero, Nat.reduceMul, Nat.reduceAdd]
  rw [m1, ofB_bytes8 x hx, Nat.shiftRight_eq_div_pow] at st1
  rw [m2, Nat.shiftRight_eq_div_pow] at st2
  rw [m3] at st3
  have l1 : ofB ((bytes8 x).map b1) < 18446744073709551616 := by
    have g := fun c hc => h1 c hc
    simp only [bytes8, List.map_cons, List.map_nil, List.mem_cons, List.not_mem_nil, or_false, forall_eq_or_imp, forall_eq] at g
    simp only [bytes8, List.map_cons, List.map_nil, ofB]
    omega
  have l2 : ofB (((bytes8 x).map b1).map b2) / 16 + ofB (((bytes8 x).map b1).map b2) < 18446744073709551616 := by
    have g := fun c hc => (h2 c hc).1
    simp only [bytes8, List.map_cons, List.map_nil, List.mem_cons, List.not_mem_nil, or_false, forall_eq_or_imp, forall_eq] at g
    simp only [bytes8, List.map_cons, List.map_nil, ofB]
    omega
  refine ⟨_, _, _, st1, st2, st3, l1, l2, _, _, _, rfl, rfl, rfl, ?_⟩
  have f := fold_sum (pop8 (x % 256)) (pop8 (x / 256 % 256)) (pop8 (x / 65536 % 256)) (pop8 (x / 16777216 % 256)) (pop8 (x / 4294967296 % 256)) (pop8 (x / 1099511627776 % 256)) (pop8 (x / 281474976710656 % 256)) (pop8 (x / 72057594037927936 % 256))
    (pop8_le _) (pop8_le _) (pop8_le _) (pop8_le _) (pop8_le _) (pop8_le _) (pop8_le _) (pop8_le _) _ _ _ _ rfl rfl rfl rfl
  rw [cnt_bytes8 x, show (127 : Nat) = 2 ^ 7 - 1 from rfl, Nat.and_two_pow_sub_one_eq_mod]
  exact ⟨f.2, f.1⟩
end Go.Proofs.YtnadgcgnediakaaGreatDoor.Wd
namespace Go.Proofs.YtnadgcgnediakaaGreatDoor.Wd

theorem cnt_zero (f : Nat → Bool) : ∀ k, (∀ i, i < k → f i = false) → cnt f k = 0
  | 0, _ => rfl
  | k + 1, h => by
    rw [cnt, cnt_zero f k (fun i hi => h i (by omega)), h k (by omega)]; rfl

theorem cnt_erase (f : Nat → Bool) (a : Nat) : ∀ k, a < k → f a = true → cnt f k = cnt (fun i => f i && decide (i ≠ a)) k + 1
  | 0, h, _ => by omega
  | k + 1, h, hf => by
    rw [cnt, cnt]
    by_cases hk : a = k
    · subst hk
      rw [cnt_congr a (g := fun i => f i && decide (i ≠ a)) (fun i hi => by simp; omega)]
      simp [hf]
    · rw [cnt_erase f a k (by omega) hf]
      have : decide (k ≠ a) = true := by simp; omega
      rw [this, Bool.and_true]
      omega

theorem cnt_inj_le (k : Nat) (g : Nat → Nat) : ∀ (m : Nat) (f : Nat → Bool), (∀ i, i < m → g i < k) → (∀ i j, i < m → j < m → g i = g j → i = j) → cnt (fun i => f (g i)) m ≤ cnt f k
  | 0, _, _, _ => Nat.zero_le _
  | m + 1, f, hb, hi => by
    rw [cnt]
    cases hf : f (g m)
    · have := cnt_inj_le k g m f (fun i h => hb i (by omega)) (fun i j h1 h2 => hi i j (by omega) (by omega))
      simpa using this
    · have e := cnt_erase f (g m) k (hb m (by omega)) hf
      have := cnt_inj_le k g m (fun i => f i && decide (i ≠ g m)) (fun i h => hb i (by omega)) (fun i j h1 h2 => hi i j (by omega) (by omega))
      have e2 : cnt (fun i => f (g i) && decide (g i ≠ g m)) m = cnt (fun i => f (g i)) m := by
        apply cnt_congr
        intro i h
        have : g i ≠ g m := fun e => by have := hi i m (by omega) (by omega) e; omega
        simp [this]
      rw [e2] at this
      simp only [Bool.toNat_true]
      omega

theorem cnt_not (f : Nat → Bool) : ∀ k, cnt (fun i => !f i) k + cnt f k = k
  | 0 => rfl
  | k + 1 => by
    have := cnt_not f k
    rw [cnt, cnt]
    cases f k <;> simp <;> omega

/-- counting through a bijection -/
theorem cnt_bij (m : Nat) (g : Nat → Nat) (f : Nat → Bool) (hb : ∀ i, i < m → g i < m) (hi : ∀ i j, i < m → j < m → g i = g j → i = j) : cnt (fun i => f (g i)) m = cnt f m := by
  have h1 := cnt_inj_le m g m f hb hi
  have h2 := cnt_inj_le m g m (fun i => !f i) hb hi
  have h3 := cnt_not f m
  have h4 := cnt_not (fun i => f (g i)) m
  omega

/-- every row is some place's -/
theorem surj (m : Nat) (g : Nat → Nat) (hb : ∀ i, i < m → g i < m) (hi : ∀ i j, i < m → j < m → g i = g j → i = j) (r : Nat) (hr : r < m) : ∃ i, i < m ∧ g i = r := by
  refine Classical.byContradiction fun hn => ?_
  have h := cnt_bij m g (fun i => decide (i = r)) hb hi
  rw [cnt_zero _ m (fun i him => by simp; intro e; exact hn ⟨i, him, e⟩)] at h
  have e := cnt_erase (fun i => decide (i = r)) r m hr (by simp)
  omega

theorem cnt_all (f : Nat → Bool) : ∀ k, (∀ i, i < k → f i = true) → cnt f k = k
  | 0, _ => rfl
  | k + 1, h => by
    rw [cnt, cnt_all f k (fun i hi => h i (by omega)), h k (by omega)]; rfl

/-- what is closed downwards is a first stretch -/
theorem seg (f : Nat → Bool) : ∀ m, (∀ r r', r' < r → r < m → f r = true → f r' = true) → ∀ r, r < m → (f r = true ↔ r < cnt f m)
  | 0, _, r, h => by omega
  | m + 1, hd, r, hr => by
    cases hf : f m
    · have ih := seg f m (fun r r' h1 h2 => hd r r' h1 (by omega))
      have e : cnt f (m + 1) = cnt f m := by rw [cnt, hf]; rfl
      rw [e]
      by_cases h : r = m
      · subst h
        have := cnt_le f r
        rw [hf]
        constructor
        · intro h; cases h
        · intro h; omega
      · exact ih r (by omega)
    · have e := cnt_all f (m + 1) (fun i hi => by
        by_cases h : i = m
        · rw [h]; exact hf
        · exact hd m i (by omega) (by omega) hf)
      rw [e]
      constructor
      · intro _; exact hr
      · intro _
        by_cases h : r = m
        · rw [h]; exact hf
        · exact hd m r (by omega) (by omega) hf
end Go.Proofs.YtnadgcgnediakaaGreatDoor.Wd
namespace Go.Proofs.YtnadgcgnediakaaGreatDoor.Wd

def outr (r gone : Nat) : Nat := if gone < r then r - 1 else r
def inr (r came : Nat) : Nat := if came ≤ r then r + 1 else r

/-- rows of the places 0 .. n -/
structure Rows (n : Nat) (ix : Nat → Nat) : Prop where
  lt : ∀ p, p ≤ n → ix p ≤ n
  inj : ∀ p q, p ≤ n → q ≤ n → ix p = ix q → p = q

def nx (n p : Nat) : Nat := if p = n then 0 else p + 1
/-- is p's key the lesser one? -/
def kl (n : Nat) (s ix : Nat → Nat) (p q : Nat) : Prop := s p < s q ∨ (s p = s q ∧ ix (nx n p) < ix (nx n q))
instance (n : Nat) (s ix : Nat → Nat) (p q : Nat) : Decidable (kl n s ix p q) := by unfold kl; infer_instance

theorem nx_le {n p : Nat} (h : p ≤ n) : nx n p ≤ n := by unfold nx; split <;> omega
theorem nx_inj {n p q : Nat} (_ : p ≤ n) (_ : q ≤ n) (h : nx n p = nx n q) : p = q := by
  unfold nx at h
  split at h <;> split at h <;> omega
theorem kl_trans {n : Nat} {s ix : Nat → Nat} {p q r : Nat} (h : kl n s ix p q) (g : kl n s ix q r) : kl n s ix p r := by
  unfold kl at *; omega
theorem kl_irrefl (n : Nat) (s ix : Nat → Nat) (p : Nat) : ¬ kl n s ix p p := by unfold kl; omega
theorem kl_total {n : Nat} {s ix : Nat → Nat} (h : Rows n ix) {p q : Nat} (hp : p ≤ n) (hq : q ≤ n) (hne : p ≠ q) : kl n s ix p q ∨ kl n s ix q p := by
  unfold kl
  have : ix (nx n p) ≠ ix (nx n q) := fun e => hne (nx_inj hp hq (h.inj _ _ (nx_le hp) (nx_le hq) e))
  omega

/-- in order but for one place -/
def But (n : Nat) (s ix : Nat → Nat) (e : Nat) : Prop := ∀ p q, p ≤ n → q ≤ n → p ≠ e → q ≠ e → (ix p < ix q ↔ kl n s ix p q)

/-- the others -/
def oth (e i : Nat) : Nat := if i < e then i else i + 1
theorem oth_ne (e i : Nat) : oth e i ≠ e := by unfold oth; split <;> omega
theorem oth_le {e i n : Nat} (h : i < n) : oth e i ≤ n := by unfold oth; split <;> omega
theorem oth_inj {e i j : Nat} (h : oth e i = oth e j) : i = j := by
  unfold oth at h; split at h <;> split at h <;> omega
theorem oth_ex {e q n : Nat} (hq : q ≤ n) (hne : q ≠ e) (he : e ≤ n) : ∃ i, i < n ∧ oth e i = q := by
  by_cases h : q < e
  · exact ⟨q, by omega, by unfold oth; rw [if_pos h]⟩
  · exact ⟨q - 1, by omega, by unfold oth; rw [if_neg (by omega)]; omega⟩

theorem cnt_skip (f : Nat → Bool) (e n : Nat) (he : e ≤ n) (hf : f e = false) : cnt (fun i => f (oth e i)) n = cnt f (n + 1) := by
  have h1 : cnt f (n + 1) = cnt f e + cnt (fun i => f (e + i)) (n + 1 - e) := by
    rw [← cnt_add]; congr 1; omega
  have h2 : cnt (fun i => f (oth e i)) n = cnt (fun i => f (oth e i)) e + cnt (fun i => f (oth e (e + i))) (n - e) := by
    rw [← cnt_add]; congr 1; omega
  have h3 : cnt (fun i => f (e + i)) (n + 1 - e) = cnt (fun i => f (e + i)) 1 + cnt (fun i => f (e + (1 + i))) (n - e) := by
    rw [← cnt_add]; congr 1; omega
  rw [h1, h2, h3]
  have h4 : cnt (fun i => f (oth e i)) e = cnt f e := cnt_congr e (fun i hi => by unfold oth; rw [if_pos hi])
  have h5 : cnt (fun i => f (oth e (e + i))) (n - e) = cnt (fun i => f (e + (1 + i))) (n - e) := cnt_congr _ (fun i hi => by
    unfold oth; rw [if_neg (by omega)]; congr 1; omega)
  rw [h4, h5]
  simp [cnt, hf]

/-- Claim 1: where the place belongs -/
theorem belongs {n : Nat} {s ix : Nat → Nat} {e : Nat} (hr : Rows n ix) (he : e ≤ n) (hb : But n s ix e) (q : Nat) (hq : q ≤ n) (hne : q ≠ e) :
    outr (ix q) (ix e) < cnt (fun p => decide (kl n s ix p e)) (n + 1) ↔ kl n s ix q e := by
  let g : Nat → Nat := fun i => outr (ix (oth e i)) (ix e)
  have hix : ∀ i, i < n → ix (oth e i) ≠ ix e := fun i hi h => oth_ne e i (hr.inj _ _ (oth_le hi) he h)
  have gb : ∀ i, i < n → g i < n := by
    intro i hi
    have h1 := hr.lt _ (oth_le (e := e) hi)
    have h2 := hr.lt e he
    have h3 := hix i hi
    show outr _ _ < n
    unfold outr
    split <;> omega
  have gi : ∀ i j, i < n → j < n → g i = g j → i = j := by
    intro i j hi hj h
    have h1 := hix i hi
    have h2 := hix j hj
    refine oth_inj (e := e) (hr.inj _ _ (oth_le hi) (oth_le hj) ?_)
    have h : outr (ix (oth e i)) (ix e) = outr (ix (oth e j)) (ix e) := h
    unfold outr at h
    split at h <;> split at h <;> omega
  let D : Nat → Bool := fun r => decide (∃ q, q ≤ n ∧ q ≠ e ∧ outr (ix q) (ix e) = r ∧ kl n s ix q e)
  have hD : ∀ i, i < n → (D (g i) = true ↔ kl n s ix (oth e i) e) := by
    intro i hi
    show decide _ = true ↔ _
    rw [decide_eq_true_eq]
    constructor
    · rintro ⟨q', h1, h2, h3, h4⟩
      obtain ⟨j, hj, rfl⟩ := oth_ex h1 h2 he
      have := gi j i hj hi h3
      subst this
      exact h4
    · intro h
      exact ⟨_, oth_le hi, oth_ne e i, rfl, h⟩
  have hdown : ∀ r r', r' < r → r < n → D r = true → D r' = true := by
    intro r r' h1 h2 h3
    obtain ⟨i, hi, hgi⟩ := surj n g gb gi r h2
    obtain ⟨j, hj, hgj⟩ := surj n g gb gi r' (by omega)
    rw [← hgi] at h3
    rw [← hgj]
    refine (hD j hj).2 ?_
    have h4 := (hD i hi).1 h3
    refine kl_trans ((hb _ _ (oth_le hj) (oth_le hi) (oth_ne e j) (oth_ne e i)).1 ?_) h4
    have h5 := hix i hi
    have h6 := hix j hj
    have h7 : outr (ix (oth e j)) (ix e) < outr (ix (oth e i)) (ix e) := by
      show g j < g i
      omega
    unfold outr at h7
    split at h7 <;> split at h7 <;> omega
  obtain ⟨i, hi, rfl⟩ := oth_ex hq hne he
  have hs := seg D n hdown (g i) (gb i hi)
  rw [hD i hi] at hs
  have hc : cnt D n = cnt (fun p => decide (kl n s ix p e)) (n + 1) := by
    rw [← cnt_skip (fun p => decide (kl n s ix p e)) e n he (decide_eq_false (kl_irrefl n s ix e)), ← cnt_bij n g D gb gi]
    apply cnt_congr
    intro i hi
    rw [Bool.eq_iff_iff, hD i hi, decide_eq_true_eq]
  rw [← hc]
  exact hs.symm

/-- the arrangement behind the move of e to row t -/
def moved (ix : Nat → Nat) (e t q : Nat) : Nat := if q = e then t else inr (outr (ix q) (ix e)) t

theorem moved_rows {n : Nat} {ix : Nat → Nat} {e t : Nat} (hr : Rows n ix) (he : e ≤ n) (ht : t ≤ n) : Rows n (moved ix e t) := by
  constructor
  · intro p hp
    unfold moved
    split
    · exact ht
    · rename_i h
      have h1 := hr.lt p hp
      have h2 := hr.lt e he
      have h3 : ix p ≠ ix e := fun x => h (hr.inj _ _ hp he x)
      unfold inr outr
      split <;> split <;> omega
  · intro p q hp hq h
    unfold moved at h
    have f : ∀ p, p ≤ n → p ≠ e → ix p ≠ ix e := fun p hp h x => h (hr.inj _ _ hp he x)
    split at h <;> split at h
    · omega
    · rename_i h1 h2
      unfold inr at h; split at h <;> omega
    · rename_i h1 h2
      unfold inr at h; split at h <;> omega
    · rename_i h1 h2
      have g1 := f p hp h1
      have g2 := f q hq h2
      refine hr.inj _ _ hp hq ?_
      unfold inr outr at h
      repeat' split at h
      all_goals omega

theorem moved_lt {n : Nat} {ix : Nat → Nat} {e t p q : Nat} (hr : Rows n ix) (he : e ≤ n) (hp : p ≤ n) (hq : q ≤ n) (h1 : p ≠ e) (h2 : q ≠ e) : moved ix e t p < moved ix e t q ↔ ix p < ix q := by
  have g1 : ix p ≠ ix e := fun x => h1 (hr.inj _ _ hp he x)
  have g2 : ix q ≠ ix e := fun x => h2 (hr.inj _ _ hq he x)
  unfold moved
  rw [if_neg h1, if_neg h2]
  unfold inr outr
  repeat' split
  all_goals omega

/-- Claim 2: behind the move only the place ahead may stand wrong -/
theorem moved_but {n : Nat} {s ix : Nat → Nat} {e e1 t : Nat} (hr : Rows n ix) (he : e ≤ n) (he1 : e1 ≤ n) (hnx : nx n e1 = e) (hne : e1 ≠ e) (hb : But n s ix e)
    (ht : t = cnt (fun p => decide (kl n s ix p e)) (n + 1)) : But n s (moved ix e t) e1 := by
  have hbel := fun q => belongs hr he hb q
  intro p q hp hq hp1 hq1
  have hnp : nx n p ≠ e := fun h => hp1 (nx_inj hp he1 (h.trans hnx.symm))
  have hnq : nx n q ≠ e := fun h => hq1 (nx_inj hq he1 (h.trans hnx.symm))
  have hk : kl n s (moved ix e t) p q ↔ kl n s ix p q := by
    unfold kl
    rw [moved_lt hr he (nx_le hp) (nx_le hq) hnp hnq]
  rw [hk]
  have hm : ∀ x, x ≠ e → (t < moved ix e t x ↔ ¬ outr (ix x) (ix e) < t) := by
    intro x hx
    unfold moved
    rw [if_neg hx]
    unfold inr
    split <;> omega
  have hm2 : ∀ x, x ≠ e → (moved ix e t x < t ↔ outr (ix x) (ix e) < t) := by
    intro x hx
    unfold moved
    rw [if_neg hx]
    unfold inr
    split <;> omega
  by_cases h1 : p = e
  · subst h1
    by_cases h2 : q = p
    · subst h2
      exact ⟨fun h => by omega, fun h => absurd h (kl_irrefl _ _ _ _)⟩
    · have hb1 := hbel q hq h2
      rw [← ht] at hb1
      have e1 : moved ix p t p = t := by unfold moved; rw [if_pos rfl]
      rw [e1, hm q h2, hb1]
      constructor
      · intro h
        rcases kl_total (s := s) hr hp hq (fun x => h2 x.symm) with g | g
        · exact g
        · exact absurd g h
      · intro h g
        exact kl_irrefl _ _ _ _ (kl_trans h g)
  · by_cases h2 : q = e
    · subst h2
      have hb1 := hbel p hp h1
      rw [← ht] at hb1
      have e1 : moved ix q t q = t := by unfold moved; rw [if_pos rfl]
      rw [e1, hm2 p h1, hb1]
    · rw [moved_lt hr he hp hq h1 h2]
      exact hb p q hp hq h1 h2

/-- rows stand by first letters -/
def Fst (n : Nat) (s ix : Nat → Nat) : Prop := ∀ p q, p ≤ n → q ≤ n → s p < s q → ix p < ix q

theorem moved_fst {n : Nat} {s ix : Nat → Nat} {e t : Nat} (hr : Rows n ix) (he : e ≤ n) (hb : But n s ix e) (hf : Fst n s ix)
    (ht : t = cnt (fun p => decide (kl n s ix p e)) (n + 1)) : Fst n s (moved ix e t) := by
  intro p q hp hq h
  by_cases h1 : p = e
  · subst h1
    have h2 : q ≠ p := fun x => by subst x; omega
    have g := belongs hr he hb q hq h2
    have hk : ¬ kl n s ix q p := by unfold kl; omega
    rw [← ht] at g
    have g2 : ¬ outr (ix q) (ix p) < t := fun x => hk (g.1 x)
    unfold moved
    rw [if_pos rfl, if_neg h2]
    unfold inr
    split <;> omega
  · by_cases h2 : q = e
    · subst h2
      have g := belongs hr he hb p hp h1
      have hk : kl n s ix p q := .inl h
      rw [← ht] at g
      have := g.2 hk
      unfold moved
      rw [if_neg h1, if_pos rfl]
      unfold inr
      split <;> omega
    · rw [moved_lt hr he hp hq h1 h2]
      exact hf p q hp hq h

/-- in order -/
def Cons (n : Nat) (s ix : Nat → Nat) : Prop := ∀ p q, p ≤ n → q ≤ n → (ix p < ix q ↔ kl n s ix p q)

theorem moved_still {ix : Nat → Nat} {n e q : Nat} (hr : Rows n ix) (he : e ≤ n) (hq : q ≤ n) : moved ix e (ix e) q = ix q := by
  unfold moved
  split
  · rename_i h; rw [h]
  · rename_i h
    have : ix q ≠ ix e := fun x => h (hr.inj _ _ hq he x)
    unfold inr outr
    repeat' split
    all_goals omega

/-- Claim 3: a place that stands where it belongs: all is in order -/
theorem still_cons {n : Nat} {s ix : Nat → Nat} {e : Nat} (hr : Rows n ix) (he : e ≤ n) (hb : But n s ix e)
    (ht : ix e = cnt (fun p => decide (kl n s ix p e)) (n + 1)) : Cons n s ix := by
  have hm : ∀ q, q ≤ n → q ≠ e → (ix q < ix e ↔ kl n s ix q e) := by
    intro q hq hne
    have g := belongs hr he hb q hq hne
    rw [← ht] at g
    rw [← g]
    have : ix q ≠ ix e := fun x => hne (hr.inj _ _ hq he x)
    unfold outr
    split <;> omega
  intro p q hp hq
  by_cases h1 : p = e
  · subst h1
    by_cases h2 : q = p
    · subst h2
      exact ⟨fun h => by omega, fun h => absurd h (kl_irrefl _ _ _ _)⟩
    · have g := hm q hq h2
      have hne : ix q ≠ ix p := fun x => h2 (hr.inj _ _ hq he x)
      constructor
      · intro h
        rcases kl_total (s := s) hr hp hq (fun x => h2 x.symm) with k | k
        · exact k
        · have := g.2 k; omega
      · intro h
        have : ¬ ix q < ix p := fun x => kl_irrefl _ _ _ _ (kl_trans h (g.1 x))
        omega
  · by_cases h2 : q = e
    · subst h2
      exact hm p hp h1
    · exact hb p q hp hq h1 h2

theorem last_cons {n : Nat} {s ix : Nat → Nat} (hb : But n s ix n) (hf : Fst n s ix) (h0 : s n = 0) (hs : ∀ p, p < n → 0 < s p) : Cons n s ix := by
  intro p q hp hq
  by_cases h1 : p = n
  · subst h1
    by_cases h2 : q = p
    · subst h2
      exact ⟨fun h => by omega, fun h => absurd h (kl_irrefl _ _ _ _)⟩
    · have := hs q (by omega)
      have hl : s p < s q := by omega
      exact ⟨fun _ => .inl hl, fun _ => hf p q hp hq hl⟩
  · by_cases h2 : q = n
    · subst h2
      have := hs p (by omega)
      have hl : s q < s p := by omega
      have := hf q p hq hp hl
      constructor
      · intro h; omega
      · intro h; unfold kl at h; omega
    · exact hb p q hp hq h1 h2

theorem cnt_split (f : Nat → Bool) (e n : Nat) (he : e ≤ n) : cnt f (n + 1) = cnt (fun i => f (oth e i)) n + (f e).toNat := by
  have h1 : cnt f (n + 1) = cnt f e + cnt (fun i => f (e + i)) (n + 1 - e) := by
    rw [← cnt_add]; congr 1; omega
  have h2 : cnt (fun i => f (oth e i)) n = cnt (fun i => f (oth e i)) e + cnt (fun i => f (oth e (e + i))) (n - e) := by
    rw [← cnt_add]; congr 1; omega
  have h3 : cnt (fun i => f (e + i)) (n + 1 - e) = cnt (fun i => f (e + i)) 1 + cnt (fun i => f (e + (1 + i))) (n - e) := by
    rw [← cnt_add]; congr 1; omega
  rw [h1, h2, h3]
  have h4 : cnt (fun i => f (oth e i)) e = cnt f e := cnt_congr e (fun i hi => by unfold oth; rw [if_pos hi])
  have h5 : cnt (fun i => f (oth e (e + i))) (n - e) = cnt (fun i => f (e + (1 + i))) (n - e) := cnt_congr _ (fun i hi => by
    unfold oth; rw [if_neg (by omega)]; congr 1; omega)
  rw [h4, h5]
  simp [cnt]
  omega

theorem cnt_lt (b : Nat) : ∀ n, cnt (fun r => decide (r < b)) n = min b n
  | 0 => by simp [cnt]
  | n + 1 => by
    rw [cnt, cnt_lt b n]
    by_cases h : n < b
    · rw [decide_eq_true h]; simp only [Bool.toNat_true]; omega
    · rw [decide_eq_false h]; simp only [Bool.toNat_false]; omega

/-- Claim 5: to which row the row of the place that stands wrong leads -/
theorem leads {n : Nat} {s ix : Nat → Nat} {e e1 : Nat} (hr : Rows n ix) (he : e ≤ n) (he1 : e1 ≤ n) (hne : e1 ≠ e) (hb : But n s ix e) :
    cnt (fun p => decide (kl n s ix p e1)) (n + 1) = outr (ix e1) (ix e) + (decide (kl n s ix e e1)).toNat := by
  rw [cnt_split _ e n he]
  congr 1
  have hix : ∀ i, i < n → ix (oth e i) ≠ ix e := fun i hi h => oth_ne e i (hr.inj _ _ (oth_le hi) he h)
  have hb1 : outr (ix e1) (ix e) < n := by
    have h1 := hr.lt e1 he1
    have h2 := hr.lt e he
    have h3 : ix e1 ≠ ix e := fun x => hne (hr.inj _ _ he1 he x)
    unfold outr
    split <;> omega
  have gb : ∀ i, i < n → outr (ix (oth e i)) (ix e) < n := by
    intro i hi
    have h1 := hr.lt _ (oth_le (e := e) hi)
    have h2 := hr.lt e he
    have h3 := hix i hi
    unfold outr
    split <;> omega
  have gi : ∀ i j, i < n → j < n → outr (ix (oth e i)) (ix e) = outr (ix (oth e j)) (ix e) → i = j := by
    intro i j hi hj h
    have h1 := hix i hi
    have h2 := hix j hj
    refine oth_inj (e := e) (hr.inj _ _ (oth_le hi) (oth_le hj) ?_)
    unfold outr at h
    split at h <;> split at h <;> omega
  have hc := cnt_bij n (fun i => outr (ix (oth e i)) (ix e)) (fun r => decide (r < outr (ix e1) (ix e))) gb gi
  rw [cnt_lt, Nat.min_eq_left (by omega)] at hc
  rw [← hc]
  apply cnt_congr
  intro i hi
  have h1 := hb (oth e i) e1 (oth_le hi) he1 (oth_ne e i) hne
  have h2 := hix i hi
  have h3 : ix e1 ≠ ix e := fun x => hne (hr.inj _ _ he1 he x)
  rw [Bool.eq_iff_iff, decide_eq_true_eq, decide_eq_true_eq, ← h1]
  unfold outr
  split <;> split <;> omega

/-- the program's own correction -/
def besideN (next cur a : Nat) : Nat := inr (if cur < a then next - 1 else next) a
theorem next_row {n : Nat} {s ix : Nat → Nat} {e e1 : Nat} (hr : Rows n ix) (he : e ≤ n) (he1 : e1 ≤ n) (hne : e1 ≠ e) (hnx : nx n e1 = e) (hb : But n s ix e) (hf : Fst n s ix) :
    (if s e = s e1 then besideN (cnt (fun p => decide (kl n s ix p e1)) (n + 1)) (ix (nx n e)) (ix e) else cnt (fun p => decide (kl n s ix p e1)) (n + 1)) = ix e1 := by
  rw [leads hr he he1 hne hb]
  have h3 : ix e1 ≠ ix e := fun x => hne (hr.inj _ _ he1 he x)
  have hk : kl n s ix e e1 ↔ s e < s e1 ∨ (s e = s e1 ∧ ix (nx n e) < ix e) := by unfold kl; rw [hnx]
  have f1 := hf e e1 he he1
  have f2 := hf e1 e he1 he
  by_cases hs : s e = s e1
  · rw [if_pos hs]
    unfold besideN
    by_cases hc : ix (nx n e) < ix e
    · rw [if_pos hc, decide_eq_true (hk.2 (.inr ⟨hs, hc⟩))]
      simp only [Bool.toNat_true, Nat.add_sub_cancel]
      unfold inr outr
      repeat' split
      all_goals omega
    · rw [if_neg hc, decide_eq_false (by rw [hk]; omega)]
      simp only [Bool.toNat_false, Nat.add_zero]
      unfold inr outr
      repeat' split
      all_goals omega
  · rw [if_neg hs]
    by_cases hl : s e < s e1
    · rw [decide_eq_true (hk.2 (.inl hl))]
      have := f1 hl
      unfold outr
      simp only [Bool.toNat_true]
      split <;> omega
    · rw [decide_eq_false (by rw [hk]; omega)]
      have := f2 (by omega)
      unfold outr
      simp only [Bool.toNat_false]
      split <;> omega
end Go.Proofs.YtnadgcgnediakaaGreatDoor.Wd
namespace Go.Proofs.YtnadgcgnediakaaGreatDoor.Wd

def sIn (s : Nat → Nat) (at_ b p : Nat) : Nat := if p < at_ then s p else if p = at_ then b else s (p - 1)
def ixIn (ix : Nat → Nat) (at_ row p : Nat) : Nat := if p < at_ then inr (ix p) row else if p = at_ then row else inr (ix (p - 1)) row
/-- the new row: how many keys are less than (b, k) -/
def rowIn (n : Nat) (s ix : Nat → Nat) (b k : Nat) : Nat := cnt (fun q => decide (s q < b ∨ (s q = b ∧ ix (nx n q) < k))) (n + 1)

theorem rowIn_iff {n : Nat} {s ix : Nat → Nat} {b k : Nat} (hr : Rows n ix) (hc : Cons n s ix) (q : Nat) (hq : q ≤ n) :
    ix q < rowIn n s ix b k ↔ (s q < b ∨ (s q = b ∧ ix (nx n q) < k)) := by
  let P : Nat → Prop := fun q => s q < b ∨ (s q = b ∧ ix (nx n q) < k)
  let D : Nat → Bool := fun r => decide (∃ q, q ≤ n ∧ ix q = r ∧ P q)
  have hb : ∀ i, i < n + 1 → ix i < n + 1 := fun i hi => by have := hr.lt i (by omega); omega
  have hi : ∀ i j, i < n + 1 → j < n + 1 → ix i = ix j → i = j := fun i j h1 h2 => hr.inj i j (by omega) (by omega)
  have hD : ∀ q, q ≤ n → (D (ix q) = true ↔ P q) := by
    intro q hq
    show decide _ = true ↔ _
    rw [decide_eq_true_eq]
    constructor
    · rintro ⟨q', h1, h2, h3⟩
      have := hr.inj _ _ h1 hq h2
      subst this
      exact h3
    · intro h
      exact ⟨q, hq, rfl, h⟩
  have hdown : ∀ r r', r' < r → r < n + 1 → D r = true → D r' = true := by
    intro r r' h1 h2 h3
    obtain ⟨i, hi1, rfl⟩ := surj (n + 1) ix hb hi r h2
    obtain ⟨j, hj1, rfl⟩ := surj (n + 1) ix hb hi r' (by omega)
    refine (hD j (by omega)).2 ?_
    have h4 := (hD i (by omega)).1 h3
    have h5 := (hc j i (by omega) (by omega)).1 h1
    show s j < b ∨ (s j = b ∧ ix (nx n j) < k)
    have h4 : s i < b ∨ (s i = b ∧ ix (nx n i) < k) := h4
    unfold kl at h5
    omega
  have hs := seg D (n + 1) hdown (ix q) (hb q (by omega))
  rw [hD q hq] at hs
  have e : cnt D (n + 1) = rowIn n s ix b k := by
    unfold rowIn
    rw [← cnt_bij (n + 1) ix D hb hi]
    apply cnt_congr
    intro i hi
    rw [Bool.eq_iff_iff, hD i (by omega), decide_eq_true_eq]
  rw [← e]
  exact hs.symm

theorem inr_lt (a b r : Nat) : inr a r < inr b r ↔ a < b := by
  unfold inr; split <;> split <;> omega
theorem inr_eq {a b r : Nat} (h : inr a r = inr b r) : a = b := by
  unfold inr at h; split at h <;> split at h <;> omega
theorem inr_ne (a r : Nat) : inr a r ≠ r := by
  unfold inr; split <;> omega
theorem inr_le {a n r : Nat} (h : a ≤ n) : inr a r ≤ n + 1 := by
  unfold inr; split <;> omega

/-- the old place of a place -/
def old (at_ p : Nat) : Nat := if p < at_ then p else p - 1
theorem ixIn_old {ix : Nat → Nat} {at_ row p : Nat} (h : p ≠ at_) : ixIn ix at_ row p = inr (ix (old at_ p)) row := by
  unfold ixIn old
  rw [if_neg h]
  split <;> rfl
theorem ixIn_at (ix : Nat → Nat) (at_ row : Nat) : ixIn ix at_ row at_ = row := by
  unfold ixIn; rw [if_neg (by omega), if_pos rfl]
theorem sIn_old {s : Nat → Nat} {at_ b p : Nat} (h : p ≠ at_) : sIn s at_ b p = s (old at_ p) := by
  unfold sIn old
  rw [if_neg h]
  split <;> rfl
theorem sIn_at (s : Nat → Nat) (at_ b : Nat) : sIn s at_ b at_ = b := by
  unfold sIn; rw [if_neg (by omega), if_pos rfl]
theorem old_le {n at_ p : Nat} (hp : p ≤ n + 1) (ha : at_ ≤ n) (_ : p ≠ at_) : old at_ p ≤ n := by
  unfold old; split <;> omega
theorem old_inj {at_ p q : Nat} (hp : p ≠ at_) (hq : q ≠ at_) (h : old at_ p = old at_ q) : p = q := by
  unfold old at h; split at h <;> split at h <;> omega

theorem in_rows {n : Nat} {ix : Nat → Nat} {at_ row : Nat} (hr : Rows n ix) (ha : at_ ≤ n) (hrow : row ≤ n + 1) : Rows (n + 1) (ixIn ix at_ row) := by
  constructor
  · intro p hp
    by_cases h : p = at_
    · rw [h, ixIn_at]; exact hrow
    · rw [ixIn_old h]; exact inr_le (hr.lt _ (old_le hp ha h))
  · intro p q hp hq h
    by_cases h1 : p = at_ <;> by_cases h2 : q = at_
    · omega
    · rw [h1, ixIn_at, ixIn_old h2] at h
      exact absurd h.symm (inr_ne _ _)
    · rw [h2, ixIn_at, ixIn_old h1] at h
      exact absurd h (inr_ne _ _)
    · rw [ixIn_old h1, ixIn_old h2] at h
      exact old_inj h1 h2 (hr.inj _ _ (old_le hp ha h1) (old_le hq ha h2) (inr_eq h))

theorem old_nx {n at_ p : Nat} (hp : p ≤ n + 1) (ha : at_ ≤ n) (h1 : p ≠ at_) (h2 : nx (n + 1) p ≠ at_) : old at_ (nx (n + 1) p) = nx n (old at_ p) := by
  unfold nx at h2 ⊢
  unfold old
  repeat' split
  all_goals first | omega | (split at h2 <;> omega)

theorem row_in_lt (a r : Nat) : r < inr a r ↔ ¬ a < r := by unfold inr; split <;> omega
theorem in_row_lt (a r : Nat) : inr a r < r ↔ a < r := by unfold inr; split <;> omega

theorem nx_at {n at_ : Nat} (ha : at_ ≤ n) : nx (n + 1) at_ = at_ + 1 := by unfold nx; rw [if_neg (by omega)]
theorem old_succ (at_ : Nat) : old at_ (at_ + 1) = at_ := by unfold old; rw [if_neg (by omega)]; omega

/-- what is let in stands right; only the place ahead may stand wrong -/
theorem in_but {n : Nat} {s ix : Nat → Nat} {at_ b e1 : Nat} (hr : Rows n ix) (hc : Cons n s ix) (ha : at_ ≤ n) (he1 : e1 ≤ n + 1) (hnx : nx (n + 1) e1 = at_) :
    But (n + 1) (sIn s at_ b) (ixIn ix at_ (rowIn n s ix b (ix at_))) e1 := by
  have hn : ∀ p, p ≤ n + 1 → p ≠ e1 → nx (n + 1) p ≠ at_ := fun p hp hne h => hne (nx_inj hp he1 (h.trans hnx.symm))
  have key : ∀ q, q ≤ n + 1 → q ≠ e1 → q ≠ at_ → ixIn ix at_ (rowIn n s ix b (ix at_)) (nx (n + 1) q) = inr (ix (nx n (old at_ q))) (rowIn n s ix b (ix at_)) := by
    intro q hq h1 h2
    rw [ixIn_old (hn q hq h1), old_nx hq ha h2 (hn q hq h1)]
  have kat : ixIn ix at_ (rowIn n s ix b (ix at_)) (nx (n + 1) at_) = inr (ix at_) (rowIn n s ix b (ix at_)) := by
    rw [nx_at ha, ixIn_old (by omega), old_succ]
  have kne : ∀ q, q ≤ n + 1 → q ≠ e1 → q ≠ at_ → ix (nx n (old at_ q)) ≠ ix at_ := by
    intro q hq h1 h2 h
    have h3 := hr.inj _ _ (nx_le (old_le hq ha h2)) ha h
    rw [← old_nx hq ha h2 (hn q hq h1)] at h3
    have h4 : nx (n + 1) q = at_ + 1 := by
      have := hn q hq h1
      unfold old at h3
      split at h3 <;> omega
    rw [← nx_at ha] at h4
    exact h2 (nx_inj hq (by omega) h4)
  intro p q hp hq hp1 hq1
  unfold kl
  by_cases h1 : p = at_
  · subst h1
    by_cases h2 : q = p
    · subst h2
      constructor
      · intro h; omega
      · intro h; omega
    · rw [kat, key q hq hq1 h2, ixIn_at, ixIn_old h2, sIn_at, sIn_old h2, row_in_lt, rowIn_iff hr hc _ (old_le hq ha h2), inr_lt]
      have := kne q hq hq1 h2
      omega
  · by_cases h2 : q = at_
    · subst h2
      rw [kat, key p hp hp1 h1, ixIn_at, ixIn_old h1, sIn_at, sIn_old h1, in_row_lt, rowIn_iff hr hc _ (old_le hp ha h1), inr_lt]
    · rw [key p hp hp1 h1, key q hq hq1 h2, ixIn_old h1, ixIn_old h2, sIn_old h1, sIn_old h2, inr_lt, inr_lt]
      exact hc _ _ (old_le hp ha h1) (old_le hq ha h2)

theorem in_fst {n : Nat} {s ix : Nat → Nat} {at_ b k : Nat} (hr : Rows n ix) (hc : Cons n s ix) (ha : at_ ≤ n) :
    Fst (n + 1) (sIn s at_ b) (ixIn ix at_ (rowIn n s ix b k)) := by
  intro p q hp hq h
  by_cases h1 : p = at_
  · subst h1
    by_cases h2 : q = p
    · subst h2; omega
    · rw [sIn_at, sIn_old h2] at h
      rw [ixIn_at, ixIn_old h2, row_in_lt, rowIn_iff hr hc _ (old_le hq ha h2)]
      omega
  · by_cases h2 : q = at_
    · subst h2
      rw [sIn_at, sIn_old h1] at h
      rw [ixIn_at, ixIn_old h1, in_row_lt, rowIn_iff hr hc _ (old_le hp ha h1)]
      omega
    · rw [sIn_old h1, sIn_old h2] at h
      rw [ixIn_old h1, ixIn_old h2, inr_lt]
      exact (hc _ _ (old_le hp ha h1) (old_le hq ha h2)).2 (.inl h)
theorem rowIn_le (n : Nat) (s ix : Nat → Nat) (b k : Nat) : rowIn n s ix b k ≤ n + 1 := by
  unfold rowIn
  exact cnt_le _ _
end Go.Proofs.YtnadgcgnediakaaGreatDoor.Wd
namespace Go.Proofs.YtnadgcgnediakaaGreatDoor.Wd

/-- the letters ahead of the rows -/
def IsL (n : Nat) (s ix L : Nat → Nat) : Prop := ∀ p, p ≤ n → L (ix (nx n p)) = s p

theorem cnt_or (f g : Nat → Bool) (k : Nat) (h : ∀ i, i < k → f i = true → g i = false) : cnt (fun i => f i || g i) k = cnt f k + cnt g k := by
  induction k with
  | zero => rfl
  | succ k ih =>
    rw [cnt, cnt, cnt, ih (fun i hi => h i (by omega))]
    have := h k (by omega)
    cases hf : f k
    · simp; omega
    · rw [this hf]; simp; omega
theorem cnt_min (f : Nat → Bool) (k : Nat) : ∀ n, k ≤ n → cnt (fun i => decide (i < k) && f i) n = cnt f k := by
  intro n hk
  induction n with
  | zero => obtain rfl : k = 0 := by omega
            rfl
  | succ n ih =>
    by_cases h : k ≤ n
    · rw [cnt, ih h, decide_eq_false (by omega)]; rfl
    · obtain rfl : k = n + 1 := by omega
      exact cnt_congr _ (fun i hi => by rw [decide_eq_true hi]; rfl)

/-- what the program counts: lesser letters, and equal ones among the first rows -/
theorem counts {n : Nat} {s ix L : Nat → Nat} (hr : Rows n ix) (hL : IsL n s ix L) (b k : Nat) (hk : k ≤ n + 1) :
    cnt (fun q => decide (s q < b)) (n + 1) + cnt (fun r => decide (L r = b)) k = rowIn n s ix b k := by
  have hb : ∀ i, i < n + 1 → ix (nx n i) < n + 1 := fun i hi => by have := hr.lt _ (nx_le (n := n) (p := i) (by omega)); omega
  have hi : ∀ i j, i < n + 1 → j < n + 1 → ix (nx n i) = ix (nx n j) → i = j := fun i j h1 h2 h => nx_inj (n := n) (by omega) (by omega) (hr.inj _ _ (nx_le (by omega)) (nx_le (by omega)) h)
  rw [← cnt_min _ k (n + 1) hk, ← cnt_bij (n + 1) (fun q => ix (nx n q)) (fun r => decide (r < k) && decide (L r = b)) hb hi]
  unfold rowIn
  rw [← cnt_or]
  · apply cnt_congr
    intro q hq
    rw [hL q (by omega), Bool.eq_iff_iff]
    simp only [Bool.or_eq_true, Bool.and_eq_true, decide_eq_true_eq]
    omega
  · intro q hq h
    rw [hL q (by omega)]
    simp only [decide_eq_true_eq] at h
    simp only [Bool.and_eq_false_iff, decide_eq_false_iff_not]
    omega

theorem kl_rowIn (n : Nat) (s ix : Nat → Nat) (e : Nat) : cnt (fun p => decide (kl n s ix p e)) (n + 1) = rowIn n s ix (s e) (ix (nx n e)) := rfl

/-- where all is in order a row leads to the row of the place ahead -/
theorem cons_lf {n : Nat} {s ix : Nat → Nat} (hr : Rows n ix) (hc : Cons n s ix) (e : Nat) (he : e ≤ n) : rowIn n s ix (s e) (ix (nx n e)) = ix e := by
  have hb : ∀ i, i < n + 1 → ix i < n + 1 := fun i hi => by have := hr.lt i (by omega); omega
  have hi : ∀ i j, i < n + 1 → j < n + 1 → ix i = ix j → i = j := fun i j h1 h2 => hr.inj i j (by omega) (by omega)
  have h := cnt_bij (n + 1) ix (fun r => decide (r < ix e)) hb hi
  rw [cnt_lt, Nat.min_eq_left (by have := hr.lt e he; omega)] at h
  rw [← kl_rowIn, ← h]
  apply cnt_congr
  intro q hq
  rw [Bool.eq_iff_iff, decide_eq_true_eq, decide_eq_true_eq]
  exact (hc q e (by omega) he).symm

/-- the transform behind an insertion -/
theorem in_isL {n : Nat} {s ix L L2 : Nat → Nat} {at_ b row : Nat} (hr : Rows n ix) (hL : IsL n s ix L) (ha : at_ ≤ n)
    (h1 : L2 row = L (ix at_)) (h2 : ∀ r, r ≤ n → L2 (inr r row) = if r = ix at_ then b else L r) : IsL (n + 1) (sIn s at_ b) (ixIn ix at_ row) L2 := by
  intro p hp
  by_cases h : nx (n + 1) p = at_
  · rw [h, ixIn_at, h1]
    by_cases h0 : at_ = 0
    · have hp2 : p = n + 1 := by unfold nx at h; split at h <;> omega
      have := hL n (Nat.le_refl _)
      rw [show nx n n = at_ from by unfold nx; rw [if_pos rfl, h0]] at this
      rw [this, hp2, sIn_old (by omega)]
      congr 1
      unfold old; rw [if_neg (by omega)]; omega
    · have hp2 : p = at_ - 1 := by unfold nx at h; split at h <;> omega
      have := hL (at_ - 1) (by omega)
      rw [show nx n (at_ - 1) = at_ from by unfold nx; rw [if_neg (by omega)]; omega] at this
      rw [this, hp2, sIn_old (by omega)]
      congr 1
      unfold old; rw [if_pos (by omega)]
  · rw [ixIn_old h, h2 _ (hr.lt _ (old_le (nx_le hp) ha h))]
    by_cases hpa : p = at_
    · subst hpa
      rw [nx_at ha, old_succ, if_pos rfl, sIn_at]
    · rw [old_nx hp ha hpa h, if_neg, hL _ (old_le hp ha hpa), sIn_old hpa]
      intro e
      have h3 := hr.inj _ _ (nx_le (old_le hp ha hpa)) ha e
      rw [← old_nx hp ha hpa h] at h3
      have h4 : nx (n + 1) p = at_ + 1 := by
        unfold old at h3
        split at h3 <;> omega
      rw [← nx_at ha] at h4
      exact hpa (nx_inj hp (by omega) h4)

/-- the transform behind a move -/
theorem moved_isL {n : Nat} {s ix L L2 : Nat → Nat} {e t : Nat} (hr : Rows n ix) (he : e ≤ n) (hL : IsL n s ix L)
    (h1 : L2 t = L (ix e)) (h2 : ∀ r, r ≤ n → r ≠ ix e → L2 (inr (outr r (ix e)) t) = L r) : IsL n s (moved ix e t) L2 := by
  intro p hp
  unfold moved
  split
  · rename_i h
    rw [h1, ← h]
    exact hL p hp
  · rename_i h
    rw [h2 _ (hr.lt _ (nx_le hp)) (fun x => h (hr.inj _ _ (nx_le hp) he x))]
    exact hL p hp

/-- the reference's order -/
def lessR (n : Nat) (s : Nat → Nat) : Nat → Nat → Nat → Bool
  | 0, a, b => decide (b < a)
  | f + 1, a, b => if a < n ∧ b < n then (if s a ≠ s b then decide (s a < s b) else lessR n s f (a + 1) (b + 1)) else decide (b < a)
theorem less_rows {n : Nat} {s ix : Nat → Nat} (_ : Rows n ix) (hc : Cons n s ix) (h0 : s n = 0) (hs : ∀ p, p < n → 0 < s p) :
    ∀ f a b, a ≤ n → b ≤ n → n ≤ f + max a b → (lessR n s f a b = true ↔ ix a < ix b) := by
  have last : ∀ a b, a ≤ n → b ≤ n → ¬ (a < n ∧ b < n) → (b < a ↔ ix a < ix b) := by
    intro a b ha hb h
    rw [hc a b ha hb]
    unfold kl
    by_cases h1 : a = n
    · subst h1
      by_cases h2 : b = a
      · subst h2; omega
      · have := hs b (by omega); omega
    · obtain rfl : b = n := by omega
      have := hs a (by omega)
      omega
  intro f
  induction f with
  | zero =>
    intro a b ha hb h
    unfold lessR
    rw [decide_eq_true_eq]
    exact last a b ha hb (by omega)
  | succ f ih =>
    intro a b ha hb h
    unfold lessR
    split
    · rename_i hl
      split
      · rename_i hne
        rw [decide_eq_true_eq, hc a b ha hb]
        unfold kl
        omega
      · rename_i he
        rw [ih (a + 1) (b + 1) (by omega) (by omega) (by omega), hc a b ha hb]
        unfold kl
        have e1 : nx n a = a + 1 := by unfold nx; rw [if_neg (by omega)]
        have e2 : nx n b = b + 1 := by unfold nx; rw [if_neg (by omega)]
        rw [e1, e2]
        omega
    · rename_i hl
      rw [decide_eq_true_eq]
      exact last a b ha hb hl
end Go.Proofs.YtnadgcgnediakaaGreatDoor.Wd
namespace Go.Proofs.YtnadgcgnediakaaGreatDoor.Wd

/-- the next sample behind x, or the end, is near -/
def Gap (S : Nat → Bool) (N r x : Nat) : Prop := ∃ y, x < y ∧ y ≤ x + r ∧ ((S y = true ∧ y ≤ N) ∨ y = N + 1)
structure Cov (S : Nat → Bool) (N r : Nat) : Prop where
  z : S 0 = true
  g : ∀ x, x ≤ N → S x = true → Gap S N r x
/-- so is each place near one -/
theorem Cov.near {S : Nat → Bool} {N r : Nat} (h : Cov S N r) (hr : 1 ≤ r) : ∀ k, k ≤ N → ∃ x, x ≤ k ∧ S x = true ∧ k < x + r := by
  intro k
  induction k with
  | zero => exact fun _ => ⟨0, Nat.le_refl _, h.z, by omega⟩
  | succ k ih =>
    intro hk
    obtain ⟨x, h1, h2, h3⟩ := ih (by omega)
    by_cases h4 : k + 1 < x + r
    · exact ⟨x, by omega, h2, h4⟩
    · obtain ⟨y, g1, g2, g3⟩ := h.g x (by omega) h2
      rcases g3 with ⟨g3, g4⟩ | g3
      · exact ⟨y, by omega, g3, by omega⟩
      · omega
theorem Gap.more {S S' : Nat → Bool} {N r x : Nat} (h : Gap S N r x) (hs : ∀ y, S y = true → S' y = true) : Gap S' N r x := by
  obtain ⟨y, h1, h2, h3⟩ := h
  exact ⟨y, h1, h2, h3.imp (fun h => ⟨hs _ h.1, h.2⟩) id⟩
theorem Gap.wide {S : Nat → Bool} {N r r' x : Nat} (h : Gap S N r x) (hr : r ≤ r') : Gap S N r' x := by
  obtain ⟨y, h1, h2, h3⟩ := h
  exact ⟨y, h1, by omega, h3⟩
/-- what is answered when the next sample is asked for -/
def IsNext (S : Nat → Bool) (N pos : Nat) (v : Int) : Prop :=
  (∃ y, pos ≤ y ∧ y ≤ N ∧ S y = true ∧ v = (y : Nat) ∧ ∀ z, pos ≤ z → z < y → S z = false) ∨ ((∀ z, pos ≤ z → z ≤ N → S z = false) ∧ v = -1)
def addS (S : Nat → Bool) (x : Nat) : Nat → Bool := fun y => if y = x then true else S y
theorem addS_mono {S : Nat → Bool} {x y : Nat} (h : S y = true) : addS S x y = true := by
  unfold addS
  split
  · rfl
  · exact h
theorem addS_new (S : Nat → Bool) (x : Nat) : addS S x x = true := by unfold addS; rw [if_pos rfl]
theorem addS_or {S : Nat → Bool} {x y : Nat} (h : addS S x y = true) : y = x ∨ S y = true := by
  unfold addS at h
  split at h
  · exact .inl ‹_›
  · exact .inr h

/-- while it is filled -/
structure Fill (S : Nat → Bool) (N r at_ q : Nat) : Prop where
  z : S 0 = true
  near : ∀ x, x ≤ N → S x = true → (x < q ∨ at_ ≤ x) → Gap S N r x
  far : ∀ x, x ≤ N → S x = true → Gap S N (2 * r) x
  q : (q ≤ N ∧ S q = true) ∨ q = N + 1
theorem Fill.done {S : Nat → Bool} {N r at_ q : Nat} (h : Fill S N r at_ q) (hq : N < q ∨ at_ + r < q) : Cov S N r :=
  ⟨h.z, fun x hx hs => h.near x hx hs (by omega)⟩
/-- a step where the next one is near -/
theorem Fill.skip {S : Nat → Bool} {N r at_ q y : Nat} (h : Fill S N r at_ q) (hq : q ≤ N) (hy : q < y) (hy2 : y ≤ q + r) (hs : (y ≤ N ∧ S y = true) ∨ y = N + 1) (hn : ∀ z, q + 1 ≤ z → z < y → S z = false) : Fill S N r at_ y := by
  refine ⟨h.z, fun x hx hsx hc => ?_, h.far, hs⟩
  by_cases h1 : x < q ∨ at_ ≤ x
  · exact h.near x hx hsx h1
  · by_cases h2 : x = q
    · subst h2
      exact ⟨y, hy, hy2, by rcases hs with hs | hs; exact .inl ⟨hs.2, hs.1⟩; exact .inr hs⟩
    · have := hn x (by omega) (by omega)
      rw [this] at hsx
      simp at hsx
/-- a step where it is too far -/
theorem Fill.add {S : Nat → Bool} {N r at_ q y : Nat} (h : Fill S N r at_ q) (hr : 1 ≤ r) (hq : q ≤ N) (hy : q + r < y) (hs : (y ≤ N ∧ S y = true) ∨ y = N + 1) (hn : ∀ z, q + 1 ≤ z → z < y → S z = false) : q + r ≤ N ∧ S (q + r) = false ∧ Fill (addS S (q + r)) N r at_ (q + r) := by
  have hqs : S q = true := by
    rcases h.q with h | h
    · exact h.2
    · omega
  have hyf : y ≤ q + 2 * r := by
    obtain ⟨u, g1, g2, g3⟩ := h.far q hq hqs
    rcases Nat.lt_or_ge u y with hlt | hge
    · have := hn u (by omega) hlt
      rcases g3 with ⟨g3, _⟩ | g3
      · rw [this] at g3
        simp at g3
      · omega
    · omega
  have hnew : Gap (addS S (q + r)) N r (q + r) := ⟨y, hy, by omega, by rcases hs with hs | hs; exact .inl ⟨addS_mono hs.2, hs.1⟩; exact .inr hs⟩
  refine ⟨by omega, hn _ (by omega) hy, ⟨addS_mono h.z, fun x hx hsx hc => ?_, fun x hx hsx => ?_, .inl ⟨by omega, addS_new _ _⟩⟩⟩
  · by_cases he : x = q + r
    · subst he
      exact hnew
    · have hsx2 : S x = true := (addS_or hsx).resolve_left he
      by_cases h1 : x < q ∨ at_ ≤ x
      · exact (h.near x hx hsx2 h1).more (fun _ => addS_mono)
      · by_cases h2 : x = q
        · subst h2
          exact ⟨x + r, by omega, Nat.le_refl _, .inl ⟨addS_new _ _, by omega⟩⟩
        · have := hn x (by omega) (by omega)
          rw [this] at hsx2
          simp at hsx2
  · rcases addS_or hsx with rfl | hsx2
    · exact hnew.wide (by omega)
    · exact (h.far x hx hsx2).more (fun _ => addS_mono)

/-- what holds behind an edit, ahead of filling -/
structure Edited (S : Nat → Bool) (N r at_ : Nat) : Prop where
  z : S 0 = true
  far : ∀ x, x ≤ N → S x = true → Gap S N (2 * r) x
  near : ∀ x, x ≤ N → S x = true → (x + 2 * r < at_ ∨ at_ ≤ x) → Gap S N r x
/-- the first sample that is looked at -/
theorem Edited.first {S : Nat → Bool} {N r at_ : Nat} {v : Int} (h : Edited S N r at_) (hr : 1 ≤ r) (ha : at_ ≤ N) (hv : IsNext S N (at_ - 2 * r) v) : ∃ q : Nat, v = q ∧ Fill S N r at_ q := by
  rcases hv with ⟨q, h1, h2, h3, h4, h5⟩ | ⟨h1, h2⟩
  · refine ⟨q, h4, ⟨h.z, fun x hx hs hc => ?_, h.far, .inl ⟨h2, h3⟩⟩⟩
    by_cases h6 : x + 2 * r < at_ ∨ at_ ≤ x
    · exact h.near x hx hs h6
    · have := h5 x (by omega) (by omega)
      rw [this] at hs
      simp at hs
  · exfalso
    have hc : Cov S N (2 * r) := ⟨h.z, h.far⟩
    obtain ⟨x, g1, g2, g3⟩ := hc.near (by omega) at_ ha
    have := h1 x (by omega) (by omega)
    rw [this] at g2
    simp at g2

/-- the samples behind a letter came in -/
def inS (S : Nat → Bool) (at_ : Nat) : Nat → Bool := fun p => if p < at_ then S p else if p = at_ then false else S (p - 1)
def zeroS (S : Nat → Bool) : Nat → Bool := if S 0 = true then S else addS S 0
theorem in_edited {S : Nat → Bool} {N r at_ : Nat} (h : Cov S N r) (hr : 1 ≤ r) (ha : at_ ≤ N) : Edited (zeroS (inS S at_)) (N + 1) r at_ := by
  have lo : ∀ x, x < at_ → inS S at_ x = S x := fun x hx => by unfold inS; rw [if_pos hx]
  have mid : inS S at_ at_ = false := by unfold inS; rw [if_neg (by omega), if_pos rfl]
  have hi : ∀ x, at_ < x → inS S at_ x = S (x - 1) := fun x hx => by unfold inS; rw [if_neg (by omega), if_neg (by omega)]
  have zm : ∀ x, inS S at_ x = true → zeroS (inS S at_) x = true := fun x hx => by
    unfold zeroS
    split
    · exact hx
    · exact addS_mono hx
  have zo : ∀ x, zeroS (inS S at_) x = true → inS S at_ x = true ∨ (x = 0 ∧ at_ = 0) := fun x hx => by
    unfold zeroS at hx
    split at hx
    · exact .inl hx
    · rename_i h0
      rcases addS_or hx with rfl | hx
      · refine .inr ⟨rfl, ?_⟩
        rcases Nat.eq_zero_or_pos at_ with h1 | h1
        · exact h1
        · rw [lo 0 h1] at h0
          exact absurd h.z h0
      · exact .inl hx
  -- behind the edit
  have up : ∀ x, at_ < x → x ≤ N + 1 → inS S at_ x = true → Gap (zeroS (inS S at_)) (N + 1) r x := by
    intro x hx hN hs
    rw [hi x hx] at hs
    obtain ⟨y, g1, g2, g3⟩ := h.g (x - 1) (by omega) hs
    refine ⟨y + 1, by omega, by omega, ?_⟩
    rcases g3 with ⟨g3, g4⟩ | g3
    · exact .inl ⟨zm _ (by rw [hi _ (by omega)]; exact g3), by omega⟩
    · exact .inr (by omega)
  have zz : at_ = 0 → Gap (zeroS (inS S at_)) (N + 1) r 0 := by
    intro h0
    exact ⟨1, by omega, by omega, .inl ⟨zm _ (by rw [hi 1 (by omega)]; exact h.z), by omega⟩⟩
  have dn : ∀ x, x < at_ → inS S at_ x = true → ∃ y, x < y ∧ y ≤ x + r ∧ ((S y = true ∧ y ≤ N) ∨ y = N + 1) := fun x hx hs => by
    rw [lo x hx] at hs
    exact h.g x (by omega) hs
  refine ⟨?_, fun x hx hs => ?_, fun x hx hs hc => ?_⟩
  · unfold zeroS
    split
    · assumption
    · exact addS_new _ _
  · rcases zo x hs with hs | ⟨rfl, h0⟩
    · rcases Nat.lt_trichotomy x at_ with hlt | rfl | hlt
      · obtain ⟨y, g1, g2, g3⟩ := dn x hlt hs
        by_cases hy : y < at_
        · rcases g3 with ⟨g3, g4⟩ | g3
          · exact ⟨y, g1, by omega, .inl ⟨zm _ (by rw [lo _ hy]; exact g3), by omega⟩⟩
          · omega
        · refine ⟨y + 1, by omega, by omega, ?_⟩
          rcases g3 with ⟨g3, g4⟩ | g3
          · exact .inl ⟨zm _ (by rw [hi _ (by omega)]; exact g3), by omega⟩
          · exact .inr (by omega)
      · rw [mid] at hs
        simp at hs
      · exact (up x hlt hx hs).wide (by omega)
    · exact (zz h0).wide (by omega)
  · rcases zo x hs with hs | ⟨rfl, h0⟩
    · rcases Nat.lt_trichotomy x at_ with hlt | rfl | hlt
      · obtain ⟨y, g1, g2, g3⟩ := dn x hlt hs
        rcases g3 with ⟨g3, g4⟩ | g3
        · exact ⟨y, g1, by omega, .inl ⟨zm _ (by rw [lo _ (by omega)]; exact g3), by omega⟩⟩
        · omega
      · rw [mid] at hs
        simp at hs
      · exact up x hlt hx hs
    · exact zz h0

/-- the samples behind a letter went out -/
def outS (S : Nat → Bool) (at_ : Nat) : Nat → Bool := fun p => if p < at_ then S p else S (p + 1)
theorem out_edited {S : Nat → Bool} {N r at_ : Nat} (h : Cov S (N + 1) r) (hr : 1 ≤ r) (ha : at_ ≤ N) : Edited (zeroS (outS S at_)) N r at_ := by
  have lo : ∀ x, x < at_ → outS S at_ x = S x := fun x hx => by unfold outS; rw [if_pos hx]
  have hi : ∀ x, at_ ≤ x → outS S at_ x = S (x + 1) := fun x hx => by unfold outS; rw [if_neg (by omega)]
  have zm : ∀ x, outS S at_ x = true → zeroS (outS S at_) x = true := fun x hx => by
    unfold zeroS
    split
    · exact hx
    · exact addS_mono hx
  have zo : ∀ x, zeroS (outS S at_) x = true → outS S at_ x = true ∨ (x = 0 ∧ at_ = 0 ∧ outS S at_ 0 ≠ true) := fun x hx => by
    unfold zeroS at hx
    split at hx
    · exact .inl hx
    · rename_i h0
      rcases addS_or hx with rfl | hx
      · refine .inr ⟨rfl, ?_, h0⟩
        rcases Nat.eq_zero_or_pos at_ with h1 | h1
        · exact h1
        · rw [lo 0 h1] at h0
          exact absurd h.z h0
      · exact .inl hx
  have up : ∀ x, at_ ≤ x → x ≤ N → outS S at_ x = true → Gap (zeroS (outS S at_)) N r x := by
    intro x hx hN hs
    rw [hi x hx] at hs
    obtain ⟨y, g1, g2, g3⟩ := h.g (x + 1) (by omega) hs
    refine ⟨y - 1, by omega, by omega, ?_⟩
    rcases g3 with ⟨g3, g4⟩ | g3
    · exact .inl ⟨zm _ (by rw [hi _ (by omega), show y - 1 + 1 = y from by omega]; exact g3), by omega⟩
    · exact .inr (by omega)
  have zz : at_ = 0 → outS S at_ 0 ≠ true → Gap (zeroS (outS S at_)) N r 0 := by
    intro h0 hn
    obtain ⟨y, g1, g2, g3⟩ := h.g 0 (by omega) h.z
    refine ⟨y - 1, ?_, by omega, ?_⟩
    · rcases g3 with ⟨g3, g4⟩ | g3
      · rcases Nat.lt_or_ge 1 y with h1 | h1
        · omega
        · obtain rfl : y = 1 := by omega
          rw [hi 0 (by omega)] at hn
          exact absurd g3 hn
      · omega
    · rcases g3 with ⟨g3, g4⟩ | g3
      · exact .inl ⟨zm _ (by rw [hi _ (by omega), show y - 1 + 1 = y from by omega]; exact g3), by omega⟩
      · exact .inr (by omega)
  have dn : ∀ x, x < at_ → outS S at_ x = true → ∃ y, x < y ∧ y ≤ x + r ∧ ((S y = true ∧ y ≤ N + 1) ∨ y = N + 1 + 1) := fun x hx hs => by
    rw [lo x hx] at hs
    exact h.g x (by omega) hs
  refine ⟨?_, fun x hx hs => ?_, fun x hx hs hc => ?_⟩
  · unfold zeroS
    split
    · assumption
    · exact addS_new _ _
  · rcases zo x hs with hs | ⟨rfl, h0, hn⟩
    · rcases Nat.lt_or_ge x at_ with hlt | hge
      · obtain ⟨y, g1, g2, g3⟩ := dn x hlt hs
        rcases Nat.lt_trichotomy y at_ with hy | rfl | hy
        · rcases g3 with ⟨g3, g4⟩ | g3
          · exact ⟨y, g1, by omega, .inl ⟨zm _ (by rw [lo _ hy]; exact g3), by omega⟩⟩
          · omega
        · rcases g3 with ⟨g3, g4⟩ | g3
          · obtain ⟨u, k1, k2, k3⟩ := h.g y g4 g3
            refine ⟨u - 1, by omega, by omega, ?_⟩
            rcases k3 with ⟨k3, k4⟩ | k3
            · exact .inl ⟨zm _ (by rw [hi _ (by omega), show u - 1 + 1 = u from by omega]; exact k3), by omega⟩
            · exact .inr (by omega)
          · omega
        · refine ⟨y - 1, by omega, by omega, ?_⟩
          rcases g3 with ⟨g3, g4⟩ | g3
          · exact .inl ⟨zm _ (by rw [hi _ (by omega), show y - 1 + 1 = y from by omega]; exact g3), by omega⟩
          · exact .inr (by omega)
      · exact (up x hge hx hs).wide (by omega)
    · exact (zz h0 hn).wide (by omega)
  · rcases zo x hs with hs | ⟨rfl, h0, hn⟩
    · rcases Nat.lt_or_ge x at_ with hlt | hge
      · obtain ⟨y, g1, g2, g3⟩ := dn x hlt hs
        rcases g3 with ⟨g3, g4⟩ | g3
        · exact ⟨y, g1, by omega, .inl ⟨zm _ (by rw [lo _ (by omega)]; exact g3), by omega⟩⟩
        · omega
      · exact up x hge hx hs
    · exact zz h0 hn
end Go.Proofs.YtnadgcgnediakaaGreatDoor.Wd
