/- The plain law of crc: a linear register of 32 bits; no program in sight. -/
namespace Go.Proofs.Ytmdbnmigpniiaaa.Crc

def poly : BitVec 32 := 0xEDB88320#32
def step0 (s : BitVec 32) : BitVec 32 := if s.getLsbD 0 = true then (s >>> 1) ^^^ poly else s >>> 1
def ob (b : Bool) : BitVec 32 := if b = true then 1#32 else 0#32
def flip (s : BitVec 32) (b : Bool) : BitVec 32 := s ^^^ ob b
def step (s : BitVec 32) (b : Bool) : BitVec 32 := step0 (flip s b)
def stepN : Nat → BitVec 32 → BitVec 32
  | 0, s => s
  | n + 1, s => stepN n (step0 s)
def tbl (i : Nat) : BitVec 32 := stepN 8 (BitVec.ofNat 32 i)
def upd (s : BitVec 32) (c : BitVec 8) : BitVec 32 := tbl (s.setWidth 8 ^^^ c).toNat ^^^ (s >>> 8)
def run (s : BitVec 32) (bs : List (BitVec 8)) : BitVec 32 := bs.foldl upd s
def more (s : BitVec 32) (bs : List (BitVec 8)) : BitVec 32 := ~~~(run (~~~s) bs)
def ofs (parts : List (List (BitVec 8))) : BitVec 32 := parts.foldl more 0#32

theorem xor_shuffle {n : Nat} (a b c d : BitVec n) : (a ^^^ b) ^^^ (c ^^^ d) = (a ^^^ c) ^^^ (b ^^^ d) := by
  apply BitVec.eq_of_getLsbD_eq
  intro i _
  simp only [BitVec.getLsbD_xor]
  cases a.getLsbD i <;> cases b.getLsbD i <;> cases c.getLsbD i <;> cases d.getLsbD i <;> rfl

theorem step0_xor (s t : BitVec 32) : step0 (s ^^^ t) = step0 s ^^^ step0 t := by
  unfold step0
  rw [BitVec.getLsbD_xor, BitVec.ushiftRight_xor_distrib]
  cases hs : s.getLsbD 0 <;> cases ht : t.getLsbD 0
  · rw [if_neg (by decide), if_neg (by decide), if_neg (by decide)]
  · rw [if_pos (by decide), if_neg (by decide), if_pos (by decide), BitVec.xor_assoc]
  · rw [if_pos (by decide), if_pos (by decide), if_neg (by decide), BitVec.xor_assoc, BitVec.xor_assoc, BitVec.xor_comm poly]
  · rw [if_neg (by decide), if_pos (by decide), if_pos (by decide), xor_shuffle, BitVec.xor_self, BitVec.xor_zero]

theorem stepN_xor (n : Nat) : ∀ s t, stepN n (s ^^^ t) = stepN n s ^^^ stepN n t := by
  induction n with
  | zero => intros; rfl
  | succ n ih => intro s t; simp only [stepN]; rw [step0_xor, ih]

theorem step0_zero : step0 0#32 = 0#32 := by decide
theorem stepN_zero (n : Nat) : stepN n 0#32 = 0#32 := by
  induction n with
  | zero => rfl
  | succ n ih => simp only [stepN, step0_zero]; exact ih

theorem stepN_add (m n : Nat) (s : BitVec 32) : stepN (m + n) s = stepN n (stepN m s) := by
  induction m generalizing s with
  | zero => simp [stepN]
  | succ m ih => rw [show m + 1 + n = (m + n) + 1 from by omega]; simp only [stepN]; exact ih _

theorem stepN_succ' (n : Nat) (s : BitVec 32) : stepN (n + 1) s = step0 (stepN n s) := by
  rw [stepN_add n 1]; rfl

/-- a register whose lowest bit is nought only moves -/
theorem step0_even (x : BitVec 32) (h : x.getLsbD 0 = false) : step0 x = x >>> 1 := by
  rw [step0, if_neg (by rw [h]; decide)]

theorem step0_shl (x : BitVec 32) (h : x.getLsbD 31 = false) : step0 (x <<< 1) = x := by
  rw [step0_even _ (by rw [BitVec.getLsbD_shiftLeft]; rfl)]
  apply BitVec.eq_of_getLsbD_eq
  intro i hi
  rw [BitVec.getLsbD_ushiftRight, BitVec.getLsbD_shiftLeft]
  rcases Nat.lt_or_ge i 31 with h1 | h1
  · simp [show 1 + i < 32 by omega, show ¬ 1 + i < 1 by omega, show 1 + i - 1 = i by omega]
  · obtain rfl : i = 31 := by omega
    rw [h]
    rfl

/-- step0 loses nothing -/
theorem step0_inj0 (s : BitVec 32) (h : step0 s = 0#32) : s = 0#32 := by
  have hb : s.getLsbD 0 = false := by
    cases hs : s.getLsbD 0 with
    | false => rfl
    | true =>
      have h31 : (step0 s).getLsbD 31 = true := by
        rw [step0, if_pos hs, BitVec.getLsbD_xor, BitVec.getLsbD_ushiftRight, BitVec.getLsbD_of_ge s (1 + 31) (by omega)]
        decide
      rw [h] at h31
      exact absurd h31 (by decide)
  rw [step0_even s hb] at h
  apply BitVec.eq_of_getLsbD_eq
  intro i hi
  rcases Nat.eq_zero_or_pos i with h0 | h0
  · subst h0; rw [hb]; rfl
  · have := congrArg (fun x => BitVec.getLsbD x (i - 1)) h
    simp only [BitVec.getLsbD_ushiftRight, show 1 + (i - 1) = i by omega] at this
    rw [this]
    simp

theorem stepN_inj0 (n : Nat) (s : BitVec 32) (h : stepN n s = 0#32) : s = 0#32 := by
  induction n generalizing s with
  | zero => exact h
  | succ n ih => exact step0_inj0 s (ih _ h)

/-! ### bits -/
def runBits (s : BitVec 32) (l : List Bool) : BitVec 32 := l.foldl step s

theorem step_false (t : BitVec 32) : step t false = step0 t := by
  rw [step, flip, show ob false = 0#32 from rfl, BitVec.xor_zero]

theorem ob_xor (a b : Bool) : ob (a ^^ b) = ob a ^^^ ob b := by cases a <;> cases b <;> decide

theorem step_xor (s t : BitVec 32) (a b : Bool) : step (s ^^^ t) (a ^^ b) = step s a ^^^ step t b := by
  rw [step, step, step, ← step0_xor, flip, flip, flip, ob_xor, xor_shuffle]

theorem runBits_zeros (s : BitVec 32) (n : Nat) : runBits s (List.replicate n false) = stepN n s := by
  induction n generalizing s with
  | zero => rfl
  | succ n ih =>
    rw [List.replicate_succ]
    show runBits (step s false) (List.replicate n false) = stepN n (step0 s)
    rw [ih, step, flip, show ob false = 0#32 from rfl, BitVec.xor_zero]

theorem runBits_append (s : BitVec 32) (a b : List Bool) : runBits s (a ++ b) = runBits (runBits s a) b := List.foldl_append

def wbits (n : Nat) (c : BitVec 32) : List Bool := (List.range n).map c.getLsbD
def bbits (c : BitVec 8) : List Bool := (List.range 8).map c.getLsbD

theorem wbits_succ (n : Nat) (c : BitVec 32) : wbits (n + 1) c = c.getLsbD 0 :: wbits n (c >>> 1) := by
  unfold wbits
  rw [List.range_succ_eq_map, List.map_cons, List.map_map]
  congr 1
  apply List.map_congr_left
  intro i _
  rw [Function.comp_apply, BitVec.getLsbD_ushiftRight, Nat.add_comm]

theorem split_low (c : BitVec 32) : c = ob (c.getLsbD 0) ^^^ ((c >>> 1) <<< 1) := by
  apply BitVec.eq_of_getLsbD_eq
  intro i hi
  rw [BitVec.getLsbD_xor, BitVec.getLsbD_shiftLeft, BitVec.getLsbD_ushiftRight]
  rcases Nat.eq_zero_or_pos i with h0 | h0
  · subst h0
    cases c.getLsbD 0 <;> rfl
  · have e : (ob (c.getLsbD 0)).getLsbD i = false := by
      unfold ob
      split
      · rw [BitVec.getLsbD_one]; simp; omega
      · simp
    rw [e]
    simp only [hi, show ¬ i < 1 by omega, show 1 + (i - 1) = i by omega]
    simp

theorem runBits_word (n : Nat) : ∀ (s c : BitVec 32), n ≤ 32 → (∀ i, n ≤ i → c.getLsbD i = false) → runBits s (wbits n c) = stepN n (s ^^^ c) := by
  induction n with
  | zero =>
    intro s c _ h
    have : c = 0#32 := BitVec.eq_of_getLsbD_eq fun i _ => by rw [h i (by omega)]; simp
    rw [this, BitVec.xor_zero]
    rfl
  | succ n ih =>
    intro s c hn h
    rw [wbits_succ]
    show runBits (step s (c.getLsbD 0)) (wbits n (c >>> 1)) = stepN n (step0 (s ^^^ c))
    rw [ih _ _ (by omega) (fun i hi => by rw [BitVec.getLsbD_ushiftRight]; exact h _ (by omega))]
    congr 1
    conv => rhs; rw [split_low c, ← BitVec.xor_assoc, step0_xor]
    rw [step0_shl _ (by rw [BitVec.getLsbD_ushiftRight]; exact BitVec.getLsbD_of_ge _ _ (by omega))]
    rfl

theorem stepN_shl (n : Nat) (h : BitVec 32) (hh : ∀ i, 32 - n ≤ i → h.getLsbD i = false) (hn : n ≤ 32) : stepN n (h <<< n) = h := by
  induction n with
  | zero => simp [stepN]
  | succ n ih =>
    have e : h <<< (n + 1) = (h <<< n) <<< 1 := by rw [BitVec.shiftLeft_add]
    simp only [stepN]
    rw [e, step0_shl _ (by rw [BitVec.getLsbD_shiftLeft]; simp only [show ¬ 31 < n by omega]; rw [hh (31 - n) (by omega)]; simp)]
    exact ih (fun i hi => hh i (by omega)) (by omega)

theorem upd_eq (s : BitVec 32) (c : BitVec 8) : upd s c = stepN 8 (s ^^^ c.setWidth 32) := by
  have e : s ^^^ c.setWidth 32 = (s.setWidth 8 ^^^ c).setWidth 32 ^^^ ((s >>> 8) <<< 8) := by
    apply BitVec.eq_of_getLsbD_eq
    intro i hi
    simp only [BitVec.getLsbD_xor, BitVec.getLsbD_shiftLeft, BitVec.getLsbD_ushiftRight, BitVec.getLsbD_setWidth, hi]
    by_cases h : i < 8
    · simp [h]
    · simp [h, show 8 + (i - 8) = i by omega, Bool.xor_comm]
  rw [e, stepN_xor, stepN_shl 8 _ (fun i hi => by rw [BitVec.getLsbD_ushiftRight]; exact BitVec.getLsbD_of_ge _ _ (by omega)) (by omega), upd, tbl, BitVec.ofNat_toNat]

theorem bbits_eq (c : BitVec 8) : bbits c = wbits 8 (c.setWidth 32) := by
  unfold bbits wbits
  apply List.map_congr_left
  intro i hi
  have := List.mem_range.1 hi
  rw [BitVec.getLsbD_setWidth]
  simp [show i < 32 by omega]

theorem runBits_byte (s : BitVec 32) (c : BitVec 8) : runBits s (bbits c) = upd s c := by
  rw [bbits_eq, runBits_word 8 _ _ (by omega) (fun i hi => by rw [BitVec.getLsbD_setWidth, BitVec.getLsbD_of_ge c i hi]; simp), upd_eq]

theorem run_bits (s : BitVec 32) (bs : List (BitVec 8)) : run s bs = runBits s (bs.flatMap bbits) := by
  induction bs generalizing s with
  | nil => rfl
  | cons c bs ih =>
    rw [List.flatMap_cons, runBits_append, runBits_byte]
    exact ih _

theorem run_append (s : BitVec 32) (a b : List (BitVec 8)) : run s (a ++ b) = run (run s a) b := List.foldl_append

theorem upd_xor (s t : BitVec 32) (c d : BitVec 8) : upd (s ^^^ t) (c ^^^ d) = upd s c ^^^ upd t d := by
  rw [upd_eq, upd_eq, upd_eq, ← stepN_xor, xor_shuffle]
  congr 2

theorem run_xor : ∀ (a b : List (BitVec 8)) (s t : BitVec 32), a.length = b.length → run (s ^^^ t) (List.zipWith (· ^^^ ·) a b) = run s a ^^^ run t b
  | [], [], _, _, _ => rfl
  | c :: a, d :: b, s, t, h => by
    show run (upd (s ^^^ t) (c ^^^ d)) (List.zipWith (· ^^^ ·) a b) = run (upd s c) a ^^^ run (upd t d) b
    rw [upd_xor]
    exact run_xor a b _ _ (by simpa using h)
  | [], _ :: _, _, _, h => by simp at h
  | _ :: _, [], _, _, h => by simp at h

theorem more_append (s : BitVec 32) (a b : List (BitVec 8)) : more (more s a) b = more s (a ++ b) := by
  unfold more
  rw [BitVec.not_not, run_append]

/-! ### the laws -/
theorem more_diff (s : BitVec 32) (x a : List (BitVec 8)) (h : x.length = a.length) : more s x ^^^ more s a = run 0#32 (List.zipWith (· ^^^ ·) x a) := by
  have := run_xor x a (~~~s) (~~~s) h
  rw [BitVec.xor_self] at this
  rw [this, more, more]
  apply BitVec.eq_of_getLsbD_eq
  intro i hi
  simp only [BitVec.getLsbD_xor, BitVec.getLsbD_not, hi, decide_true, Bool.true_and]
  cases (run (~~~s) x).getLsbD i <;> cases (run (~~~s) a).getLsbD i <;> rfl

theorem more_threes (a b c : List (BitVec 8)) (h1 : a.length = b.length) (h2 : a.length = c.length) :
    more 0#32 (List.zipWith (· ^^^ ·) (List.zipWith (· ^^^ ·) a b) c) = more 0#32 a ^^^ more 0#32 b ^^^ more 0#32 c := by
  have e : ~~~0#32 = (~~~0#32 ^^^ ~~~0#32) ^^^ ~~~0#32 := by decide
  unfold more
  conv => lhs; rw [e]
  rw [run_xor _ _ _ _ (by rw [List.length_zipWith]; omega), run_xor _ _ _ _ h1]
  generalize run (~~~0#32) a = p
  generalize run (~~~0#32) b = q
  generalize run (~~~0#32) c = r
  apply BitVec.eq_of_getLsbD_eq
  intro i hi
  simp only [BitVec.getLsbD_xor, BitVec.getLsbD_not, hi, decide_true, Bool.true_and]
  cases p.getLsbD i <;> cases q.getLsbD i <;> cases r.getLsbD i <;> rfl

def le4 (s : BitVec 32) : List (BitVec 8) := [s.setWidth 8, (s >>> 8).setWidth 8, (s >>> 16).setWidth 8, (s >>> 24).setWidth 8]
theorem bbits_part (s : BitVec 32) (k : Nat) : bbits ((s >>> k).setWidth 8) = (List.range 8).map fun i => s.getLsbD (k + i) := by
  unfold bbits
  apply List.map_congr_left
  intro i hi
  have := List.mem_range.1 hi
  rw [BitVec.getLsbD_setWidth, BitVec.getLsbD_ushiftRight]
  simp [this]
theorem le4_bits (s : BitVec 32) : (le4 s).flatMap bbits = wbits 32 s := by
  have e0 := bbits_part s 0
  rw [show s >>> 0 = s from by simp] at e0
  simp only [le4, List.flatMap_cons, List.flatMap_nil, e0, bbits_part]
  rfl
theorem run_le4 (t s : BitVec 32) : run t (le4 s) = stepN 32 (t ^^^ s) := by
  rw [run_bits, le4_bits, runBits_word 32 _ _ (by omega) (fun i hi => BitVec.getLsbD_of_ge _ _ hi)]
theorem more_ends (s : BitVec 32) : more s (le4 s) = 0x2144DF1C#32 := by
  rw [more, run_le4, show ~~~s ^^^ s = BitVec.allOnes 32 from by
    apply BitVec.eq_of_getLsbD_eq
    intro i hi
    simp only [BitVec.getLsbD_xor, BitVec.getLsbD_not, BitVec.getLsbD_allOnes, hi, decide_true, Bool.true_and]
    cases s.getLsbD i <;> rfl]
  decide +kernel

theorem run_zero (n : Nat) : run 0#32 (List.replicate n 0#8) = 0#32 := by
  induction n with
  | zero => rfl
  | succ n ih =>
    rw [List.replicate_succ]
    show run (upd 0#32 0#8) _ = _
    rw [show upd 0#32 0#8 = 0#32 from by decide +kernel]
    exact ih
theorem run_zeros (s : BitVec 32) (n : Nat) : run s (List.replicate n 0#8) = stepN (8 * n) s := by
  induction n generalizing s with
  | zero => rfl
  | succ n ih =>
    rw [List.replicate_succ, show 8 * (n + 1) = 8 + 8 * n from by omega, stepN_add]
    show run (upd s 0#8) _ = _
    rw [ih, upd_eq, show (0#8).setWidth 32 = 0#32 from rfl, BitVec.xor_zero]

/-- the sum of zeros, then a byte -/
theorem more_zeros (k : Nat) (c : BitVec 8) : more 0#32 (List.replicate k 0#8 ++ [c]) = ~~~(runBits (stepN (8 * k) (~~~0#32)) (bbits c)) := by
  rw [more, run_append, run_zeros, runBits_byte]
  rfl

/-- one byte turned -/
theorem diff_set (a : List (BitVec 8)) (k : Nat) (t : BitVec 8) (h : k < a.length) : List.zipWith (· ^^^ ·) (a.set k (a[k] ^^^ t)) a = (List.replicate a.length 0#8).set k t := by
  apply List.ext_getElem
  · simp
  · intro i h1 h2
    simp only [List.getElem_zipWith, List.getElem_set, List.getElem_replicate]
    split
    · rename_i e; subst e
      rw [BitVec.xor_comm, ← BitVec.xor_assoc, BitVec.xor_self, BitVec.zero_xor]
    · rw [BitVec.xor_self]
theorem run_single (n k : Nat) (t : BitVec 8) (h : k < n) : run 0#32 ((List.replicate n 0#8).set k t) = stepN (8 * (n - k - 1)) (stepN 8 (t.setWidth 32)) := by
  have e : (List.replicate n 0#8).set k t = List.replicate k 0#8 ++ (t :: List.replicate (n - k - 1) 0#8) := by
    apply List.ext_getElem
    · simp; omega
    · intro i h1 h2
      rw [List.getElem_set, List.getElem_append]
      split
      · rename_i e; subst e
        simp
      · split
        · simp
        · rename_i e1 e2
          have h3 : ¬ i < k := by simpa using e2
          simp only [List.getElem_cons, List.length_replicate, List.getElem_replicate]
          rw [dif_neg (by omega)]
  rw [e, run_append, run_zero]
  show run (upd 0#32 t) _ = _
  rw [run_zeros, upd_eq, BitVec.zero_xor]
theorem single_zero (n k : Nat) (t : BitVec 8) : stepN (8 * (n - k - 1)) (stepN 8 (t.setWidth 32)) = 0#32 ↔ t = 0#8 := by
  constructor
  · intro h
    have := stepN_inj0 8 _ (stepN_inj0 _ _ h)
    apply BitVec.eq_of_getLsbD_eq
    intro i hi
    have h2 := congrArg (fun x => BitVec.getLsbD x i) this
    simp only [BitVec.getLsbD_setWidth] at h2
    have h3 : t.getLsbD i = false := by simpa [show i < 32 by omega] using h2
    rw [h3]
    simp
  · rintro rfl
    rw [show (0#8).setWidth 32 = 0#32 from rfl, stepN_zero, stepN_zero]

/-! ### bursts -/
theorem flat_bits : ∀ (d : List (BitVec 8)) (f : Nat → Bool), (∀ q r (h : q < d.length), r < 8 → (d[q]).getLsbD r = f (8 * q + r)) → d.flatMap bbits = (List.range (8 * d.length)).map f
  | [], f, _ => rfl
  | c :: d, f, h => by
    rw [List.flatMap_cons, List.length_cons, show 8 * (d.length + 1) = 8 + 8 * d.length from by omega, List.range_add, List.map_append, List.map_map]
    congr 1
    · unfold bbits
      apply List.map_congr_left
      intro i hi
      have := h 0 i (by simp) (List.mem_range.1 hi)
      simpa using this
    · apply flat_bits d (f ∘ fun x => 8 + x)
      intro q r hq hr
      have := h (q + 1) r (by simpa using hq) hr
      rw [List.getElem_cons_succ] at this
      rw [this, Function.comp_apply]
      congr 1
      omega

def burstBit (k : Nat) (p : BitVec 32) (j : Nat) : Bool := decide (k ≤ j) && p.getLsbD (j - k)
theorem burst_list (n k : Nat) (p : BitVec 32) (h : k + 32 ≤ n) : (List.range n).map (burstBit k p) = List.replicate k false ++ (wbits 32 p ++ List.replicate (n - k - 32) false) := by
  apply List.ext_getElem
  · simp [wbits]; omega
  · intro i h1 h2
    rw [List.getElem_map, List.getElem_range, List.getElem_append]
    split
    · rename_i h3
      have h3 : i < k := by simpa using h3
      rw [List.getElem_replicate, burstBit, decide_eq_false (by omega), Bool.false_and]
    · rename_i h3
      have h3 : ¬ i < k := by simpa using h3
      rw [List.getElem_append, burstBit, decide_eq_true (by omega), Bool.true_and]
      split
      · simp [wbits]
      · rename_i h4
        have h4 : ¬ i - k < 32 := by simpa [wbits] using h4
        rw [List.getElem_replicate, BitVec.getLsbD_of_ge _ _ (by omega)]
theorem run_burst (d : List (BitVec 8)) (k : Nat) (p : BitVec 32) (hk : k + 32 ≤ 8 * d.length) (h : ∀ q r (hq : q < d.length), r < 8 → (d[q]).getLsbD r = burstBit k p (8 * q + r)) :
    run 0#32 d = 0#32 ↔ p = 0#32 := by
  rw [run_bits, flat_bits d _ h, burst_list _ k p hk, runBits_append, runBits_zeros, stepN_zero, runBits_append, runBits_word 32 _ _ (by omega) (fun i hi => BitVec.getLsbD_of_ge _ _ hi), runBits_zeros, BitVec.zero_xor]
  constructor
  · intro h
    exact stepN_inj0 _ _ (stepN_inj0 _ _ h)
  · rintro rfl
    rw [stepN_zero, stepN_zero]
/-- where a burst is laid: the sum turns just where the pattern is not nought -/
theorem more_burst (b c : List (BitVec 8)) (k : Nat) (p : BitVec 32) (hl : c.length = b.length) (hk : k + 32 ≤ 8 * b.length)
    (h : ∀ q r (hq : q < b.length), r < 8 → (c[q]'(by omega)).getLsbD r = ((b[q]).getLsbD r ^^ burstBit k p (8 * q + r))) : more 0#32 c = more 0#32 b ↔ p = 0#32 := by
  have hd := more_diff 0#32 c b hl
  rw [← run_burst (List.zipWith (· ^^^ ·) c b) k p (by rw [List.length_zipWith]; omega) (by
    intro q r hq hr
    rw [List.length_zipWith] at hq
    rw [List.getElem_zipWith, BitVec.getLsbD_xor, h q r (by omega) hr]
    cases (b[q]'(by omega)).getLsbD r <;> cases burstBit k p (8 * q + r) <;> rfl), ← hd]
  constructor
  · intro h; rw [h, BitVec.xor_self]
  · intro h
    have := congrArg (· ^^^ more 0#32 b) h
    simpa [BitVec.xor_assoc] using this

end Go.Proofs.Ytmdbnmigpniiaaa.Crc
