/- Who owns which block of memory; what a call leaves as it was. The walks of sym: Of, Is, Byte, Bit, Path. append onto a row that is owned: the new row is the old one or the newest block. -/
import Derived.Test.YtnadgcgnediakaaGreatDoorH05
import Derived.Lib.SmallJoins
import Derived.OneCell
import Derived.RegionTactic
namespace Go.Proofs.YtnadgcgnediakaaGreatDoor
open Go.ChangeShapes Go.WideShapes Go.ChangeAt Go.RowKit

/-- behind a call: blocks whose owners are not among c are as they were; owners stay -/
structure Upd (o : Nat → Nat) (c : Nat → Prop) (w w' : World) (o' : Nat → Nat) : Prop where
  os : w'.os = w.os
  tape : w'.tape = w.tape
  output : w'.output = w.output
  size : w.heap.size ≤ w'.heap.size
  own : ∀ b, b < w.heap.size → o' b = o b
  same : ∀ b, b < w.heap.size → ¬ c (o b) → w'.heap[b]? = w.heap[b]?

/-- new blocks' owner -/
def ext (o : Nat → Nat) (n c : Nat) : Nat → Nat := fun b => if b < n then o b else c
theorem ext_old {o : Nat → Nat} {n c b : Nat} (h : b < n) : ext o n c b = o b := by unfold ext; rw [if_pos h]
theorem ext_new {o : Nat → Nat} {n c b : Nat} (h : n ≤ b) : ext o n c b = c := by unfold ext; rw [if_neg (by omega)]

theorem Upd.start (o : Nat → Nat) (c : Nat → Prop) (w : World) (d : Nat) : Upd o c w w (ext o w.heap.size d) :=
  ⟨rfl, rfl, rfl, Nat.le_refl _, fun _ h => ext_old h, fun _ _ _ => rfl⟩
theorem Upd.refl (o : Nat → Nat) (c : Nat → Prop) (w : World) : Upd o c w w o :=
  ⟨rfl, rfl, rfl, Nat.le_refl _, fun _ _ => rfl, fun _ _ _ => rfl⟩
section
variable {o o1 o2 : Nat → Nat} {c d : Nat → Prop} {w w1 w2 : World}
theorem Upd.trans (h : Upd o c w w1 o1) (g : Upd o1 d w1 w2 o2) (hd : ∀ x, d x → c x) : Upd o c w w2 o2 :=
  ⟨g.os.trans h.os, g.tape.trans h.tape, g.output.trans h.output, Nat.le_trans h.size g.size, fun b hb => (g.own b (Nat.lt_of_lt_of_le hb h.size)).trans (h.own b hb),
   fun b hb hc => (g.same b (Nat.lt_of_lt_of_le hb h.size) (by rw [h.own b hb]; exact fun x => hc (hd _ x))).trans (h.same b hb hc)⟩
/-- a callee that touches new blocks besides -/
theorem Upd.trans' (h : Upd o c w w1 o1) (g : Upd o1 d w1 w2 o2) (hd : ∀ b, b < w.heap.size → d (o b) → c (o b)) : Upd o c w w2 o2 :=
  ⟨g.os.trans h.os, g.tape.trans h.tape, g.output.trans h.output, Nat.le_trans h.size g.size, fun b hb => (g.own b (Nat.lt_of_lt_of_le hb h.size)).trans (h.own b hb),
   fun b hb hc => (g.same b (Nat.lt_of_lt_of_le hb h.size) (by rw [h.own b hb]; exact fun x => hc (hd b hb x))).trans (h.same b hb hc)⟩
theorem Upd.ext (h : Upd o c w w1 o1) (e : Nat) : Upd o c w w1 (ext o1 w1.heap.size e) :=
  ⟨h.os, h.tape, h.output, h.size, fun b hb => (ext_old (Nat.lt_of_lt_of_le hb h.size)).trans (h.own b hb), h.same⟩
theorem Upd.mono (h : Upd o c w w1 o1) (hd : ∀ x, c x → d x) : Upd o d w w1 o1 := ⟨h.os, h.tape, h.output, h.size, h.own, fun b hb hc => h.same b hb (fun x => hc (hd _ x))⟩
theorem Upd.alloc (h : Upd o c w w1 o1) (x : Obj) : Upd o c w (w1.alloc x) o1 :=
  ⟨h.os, h.tape, h.output, Nat.le_trans h.size (by simp), h.own, fun b hb hc => (Below.heap_alloc _ _ _ (Nat.lt_of_lt_of_le hb h.size)).trans (h.same b hb hc)⟩
theorem Upd.drew (h : Upd o c w w1 o1) : Upd o c w w1.drew o1 := ⟨h.os, h.tape, h.output, h.size, h.own, h.same⟩
theorem Upd.drewN (h : Upd o c w w1 o1) (n : Nat) : Upd o c w (w1.drewN n) o1 := ⟨h.os, h.tape, h.output, h.size, h.own, h.same⟩
theorem Upd.set (h : Upd o c w w1 o1) {a : Addr} (v : Value) (ha : w.heap.size ≤ a.block ∨ c (o a.block)) : Upd o c w (w1.setCell a v) o1 :=
  ⟨h.os, h.tape, h.output, by rw [World.size_setCell]; exact h.size, h.own, fun b hb hc => (Below.heap_setCell _ _ _ _ (by
    rintro rfl
    rcases ha with ha | ha
    · omega
    · exact hc ha)).trans (h.same b hb hc)⟩
theorem Upd.grown (h : Upd o c w w1 o1) {row : Option Nat} (g : w1.grownBy w2 row) (hr : ∀ k, row = some k → w.heap.size ≤ k ∨ c (o k)) : Upd o c w w2 o1 :=
  ⟨g.os.trans h.os, g.tape.trans h.tape, g.output.trans h.output, Nat.le_trans h.size g.size, h.own, fun b hb hc => (g.block b (Nat.lt_of_lt_of_le hb h.size) (by
    intro e
    rcases hr b e.symm with hx | hx
    · omega
    · exact hc hx)).trans (h.same b hb hc)⟩
theorem Upd.belowN (h : Upd o c w w1 o1) (hw : Below w.heap.size w1 w2) : Upd o c w w2 o1 :=
  ⟨hw.os.trans h.os, hw.tape.trans h.tape, hw.output.trans h.output, Nat.le_trans h.size hw.size, h.own, fun b hb hc => (hw.block b hb).trans (h.same b hb hc)⟩
theorem Upd.below (h : Upd o c w w1 o1) {B : Nat} (hB : B ≤ w.heap.size) (hc : ∀ b, b < B → ¬ c (o b)) : Below B w w1 :=
  ⟨h.os, h.tape, h.output, h.size, fun k hk => h.same k (by omega) (hc k hk)⟩
/-- a block that is not touched -/
theorem Upd.heap (h : Upd o c w w1 o1) {b : Nat} {x : Obj} (hb : w.heap[b]? = some x) (hc : ¬ c (o b)) : w1.heap[b]? = some x ∧ o1 b = o b :=
  ⟨(h.same b (lt_of_block hb) hc).trans hb, h.own b (lt_of_block hb)⟩
end

/-- a slice that owns its row -/
def Owned (w : World) (o : Nat → Nat) (c : Nat) (e : TypeId) (size : Nat) (v : Value) (n : Nat) (xs : List Value) : Prop := w.ownsRow 0 e size v n xs ∧ ∀ k, v.ownBlock = some k → o k = c
theorem ownBlock_lt {w : World} {e : TypeId} {size : Nat} {v : Value} {n : Nat} {xs : List Value} (h : w.ownsRow 0 e size v n xs) {k : Nat} (hk : v.ownBlock = some k) : k < w.heap.size := (h.lt k hk).2
theorem owns_same {w w1 : World} {e : TypeId} {size : Nat} {v : Value} {n : Nat} {xs : List Value} (h : w.ownsRow 0 e size v n xs) (hs : ∀ k, v.ownBlock = some k → w1.heap[k]? = w.heap[k]?) : w1.ownsRow 0 e size v n xs := by
  refine ⟨h.1, ?_⟩
  rcases h.2 with hn | ⟨g, cap, cur, rfl, hb, hgg, rest⟩
  · exact .inl hn
  · exact .inr ⟨g, cap, cur, rfl, hb, (hs g rfl).trans hgg, rest⟩
theorem Owned.keep {w w1 : World} {o o1 : Nat → Nat} {d : Nat → Prop} {c : Nat} {e : TypeId} {size : Nat} {v : Value} {n : Nat} {xs : List Value} (h : Owned w o c e size v n xs) (hu : Upd o d w w1 o1) (hc : ¬ d c) : Owned w1 o1 c e size v n xs :=
  ⟨owns_same h.1 fun k hk => hu.same k (ownBlock_lt h.1 hk) (by rw [h.2 k hk]; exact hc), fun k hk => (hu.own k (ownBlock_lt h.1 hk)).trans (h.2 k hk)⟩

theorem own_form {w : World} {base size n : Nat} {e : TypeId} {v : Value} {xs : List Value} (h : w.ownsRow base e size v n xs) (hn : 0 < n) : ∃ g cap, v = .slice (some ⟨g, 0, none⟩) n cap ∧ base ≤ g ∧ g < w.heap.size := by
  rcases h.2 with ⟨_, h0⟩ | ⟨g, cap, _, hv, hb, hg, _⟩
  · omega
  · exact ⟨g, cap, hv, hb, lt_of_block hg⟩
theorem new_one (w : World) (c : Value) (t : TypeId) : ∀ (j : Nat) (u : Value), [c][j]? = some u → (w.alloc (.cells #[c] t)).cell? ((⟨w.heap.size, 0, none⟩ : Addr).add j) = some u := by
  intro j u hu
  match j, hu with
  | 0, hu =>
    simp only [List.getElem?_cons_zero, Option.some.injEq] at hu
    subst hu
    rw [show (⟨w.heap.size, 0, none⟩ : Addr).add 0 = ⟨w.heap.size, 0, none⟩ from by simp [Addr.add], World.cell?_alloc_new]
    rfl
  | j + 1, hu => simp at hu
theorem one_bool (b : Bool) : ∀ u ∈ [Value.bool b], u.oneCell' = true := by intro u hu; simp at hu; subst hu; rfl
theorem one_int (k : IntKind) (b : Int) : ∀ u ∈ [Value.int k b], u.oneCell' = true := by intro u hu; simp at hu; subst hu; rfl
theorem alloc_lt {w : World} {x : Obj} {n : Nat} (h : n ≤ w.heap.size) : n ≤ (w.alloc x).heap.size := by rw [World.size_alloc]; omega
/-- what is owned shows its row's head -/
theorem owns_row {w : World} {base size n cap g : Nat} {e : TypeId} {xs : List Value} (h : w.ownsRow base e size (.slice (some ⟨g, 0, none⟩) n cap) n xs) :
    ∃ cur, w.heap[g]? = some (.cells cur e (0, 0)) ∧ n ≤ cap ∧ cap ≤ maxLen ∧ cur.size = cap * size ∧ cur.toList.take (n * size) = xs := by
  rcases h.2 with ⟨h0, _⟩ | ⟨g', cap', cur, hv, _, r⟩
  · cases h0
  · cases hv
    exact ⟨cur, r⟩
theorem owns_cell {w : World} {base size n cap g : Nat} {e : TypeId} {xs : List Value} (h : w.ownsRow base e size (.slice (some ⟨g, 0, none⟩) n cap) n xs) (j : Nat) (u : Value) (hu : xs[j]? = some u) : w.cell? ⟨g, j, none⟩ = some u := by
  have := h.cells (g := g) rfl j u hu
  rwa [show (⟨g, 0, none⟩ : Addr).add j = ⟨g, j, none⟩ from by unfold Addr.add; split <;> simp_all] at this
theorem owns_free {w : World} {base size n cap g : Nat} {e : TypeId} {xs : List Value} (h : w.ownsRow base e size (.slice (some ⟨g, 0, none⟩) n cap) n xs) (j : Nat) : w.frozen? ⟨g, j, none⟩ = false := by
  obtain ⟨cur, hc, _⟩ := owns_row h
  exact Joins.unfrozen_of_block hc j
theorem owns_set {w : World} {base size n cap g : Nat} {e : TypeId} {xs : List Value} (h : w.ownsRow base e size (.slice (some ⟨g, 0, none⟩) n cap) n xs) (j : Nat) (u : Value) :
    (w.setCell ⟨g, j, none⟩ u).ownsRow base e size (.slice (some ⟨g, 0, none⟩) n cap) n (xs.set j u) := by
  refine ⟨by rw [List.length_set]; exact h.1, ?_⟩
  rcases h.2 with ⟨h0, _⟩ | ⟨g', cap', cur, hv, hb, hc, h1, h2, h3, h4⟩
  · cases h0
  · cases hv
    refine .inr ⟨g, cap, _, rfl, hb, Joins.block_setCell hc u, h1, h2, by simpa using h3, ?_⟩
    rw [← h4]
    simp [List.take_set]
theorem owns_other {w : World} {base size n : Nat} {e : TypeId} {v : Value} {xs : List Value} (h : w.ownsRow base e size v n xs) {a : Addr} (ha : v.ownBlock ≠ some a.block) (u : Value) : (w.setCell a u).ownsRow base e size v n xs := ownsRow_setCell_other h ha u
theorem owns_base {w : World} {b b' size n : Nat} {e : TypeId} {v : Value} {xs : List Value} (h : w.ownsRow b e size v n xs) (hb : b' ≤ b) : w.ownsRow b' e size v n xs := Joins.ownsRow_le h hb
/-- a row of one type is no block of another -/
theorem owns_ne {w : World} {base size n : Nat} {e t : TypeId} {v : Value} {xs : List Value} {b : Nat} {cs : Array Value} (h : w.ownsRow base e size v n xs) (hb : w.heap[b]? = some (.cells cs t (0, 0))) (hne : e ≠ t) : v.ownBlock ≠ some b := by
  rcases h.2 with ⟨rfl, _⟩ | ⟨g, cap, cur, rfl, _, hc, _⟩
  · simp [Value.ownBlock]
  · intro he
    simp [Value.ownBlock] at he
    subst he
    rw [hc] at hb
    simp at hb
    exact hne hb.2

/-- a block of bits lies at g -/
def IsBlk (w : World) (g : Nat) (l : List Bool) : Prop := ∃ w0 w1 : BitVec 64, w.heap[g]? = some (.cells #[.int .i64 l.length, .int .u64 (X w0), .int .u64 (X w1)] 222 (0, 0)) ∧ l.length ≤ 128 ∧
  (∀ i, i < 64 → w0.getLsbD i = l.getD i false) ∧ (∀ i, i < 64 → w1.getLsbD i = l.getD (64 + i) false)
theorem IsBlk.cells {w : World} {g : Nat} {l : List Bool} (h : IsBlk w g l) : ∃ w0 w1, IsBlock w g l w0 w1 ∧ w.heap[g]? = some (.cells #[.int .i64 l.length, .int .u64 (X w0), .int .u64 (X w1)] 222 (0, 0)) := by
  obtain ⟨w0, w1, h1, h2, h3, h4⟩ := h
  exact ⟨w0, w1, ⟨h2, by rw [Joins.cell_of_block h1]; rfl, by rw [Joins.cell_of_block h1]; rfl, by rw [Joins.cell_of_block h1]; rfl, Joins.unfrozen_of_block h1 _, Joins.unfrozen_of_block h1 _, Joins.unfrozen_of_block h1 _, h3, h4⟩, h1⟩
theorem IsBlk.same {w w1 : World} {g : Nat} {l : List Bool} (h : IsBlk w g l) (hs : w1.heap[g]? = w.heap[g]?) : IsBlk w1 g l := by
  obtain ⟨w0, w1, h1, h2⟩ := h
  exact ⟨w0, w1, hs.trans h1, h2⟩
theorem IsBlk.lt {w : World} {g : Nat} {l : List Bool} (h : IsBlk w g l) : g < w.heap.size := by
  obtain ⟨w0, w1, h1, _⟩ := h
  exact lt_of_block h1

/-- one block alone may have changed -/
structure Only (g : Nat) (w w' : World) : Prop where
  os : w'.os = w.os
  tape : w'.tape = w.tape
  output : w'.output = w.output
  size : w'.heap.size = w.heap.size
  same : ∀ b, b ≠ g → w'.heap[b]? = w.heap[b]?
theorem Only.refl (g : Nat) (w : World) : Only g w w := ⟨rfl, rfl, rfl, rfl, fun _ _ => rfl⟩
theorem Only.set {g : Nat} {w w1 : World} (h : Only g w w1) (i : Nat) (v : Value) : Only g w (w1.setCell ⟨g, i, none⟩ v) :=
  ⟨h.os, h.tape, h.output, by rw [World.size_setCell]; exact h.size, fun b hb => (Below.heap_setCell _ _ _ _ hb).trans (h.same b hb)⟩
theorem Only.drew {g : Nat} {w w1 : World} (h : Only g w w1) : Only g w w1.drew := ⟨h.os, h.tape, h.output, h.size, h.same⟩
theorem Only.drewN {g : Nat} {w w1 : World} (h : Only g w w1) (n : Nat) : Only g w (w1.drewN n) := ⟨h.os, h.tape, h.output, h.size, h.same⟩
theorem Only.trans {g : Nat} {w w1 w2 : World} (h : Only g w w1) (k : Only g w1 w2) : Only g w w2 :=
  ⟨k.os.trans h.os, k.tape.trans h.tape, k.output.trans h.output, k.size.trans h.size, fun b hb => (k.same b hb).trans (h.same b hb)⟩
theorem Upd.only {o o1 : Nat → Nat} {c : Nat → Prop} {w w1 w2 : World} (h : Upd o c w w1 o1) {g : Nat} (k : Only g w1 w2) (hg : w.heap.size ≤ g ∨ c (o g)) : Upd o c w w2 o1 :=
  ⟨k.os.trans h.os, k.tape.trans h.tape, k.output.trans h.output, by rw [k.size]; exact h.size, h.own, fun b hb hc => (k.same b (by
    rintro rfl
    rcases hg with hg | hg
    · omega
    · exact hc hg)).trans (h.same b hb hc)⟩
theorem heap_drewN (w : World) (n : Nat) : (w.drewN n).heap = w.heap := rfl
theorem heap_drew (w : World) : w.drew.heap = w.heap := rfl
end Go.Proofs.YtnadgcgnediakaaGreatDoor
namespace Go.Proofs.YtnadgcgnediakaaGreatDoor
open Go.ChangeShapes Go.WideShapes Go.ChangeAt Go.RowKit

/-- a symbol's path, its bit of a level -/
def pathN (s lv : Nat) : Nat := s / 2 ^ (9 - lv)
def bitN (s lv : Nat) : Bool := s / 2 ^ (8 - lv) % 2 == 1

theorem sis_any (s : Int) (w : World) : Calls Tryz.prog 99 #[.int .i64 s] w fun e w' => e = .returned (.bool (decide (0 ≤ s ∧ s < 257))) ∧ w = w' := by
  by_cases h : 0 ≤ s
  · by_cases h2 : s < 257
    · have e := Lib.hid (decide_eq_true (p := 0 ≤ s ∧ s < 257) ⟨h, h2⟩)
      go_enter Tryz.func99, Tryz.ntmps99
      go_wp2_with fail
      go_ret
      exact ⟨by simp [h, h2], rfl⟩
    · have e := Lib.hid (decide_eq_false (p := 0 ≤ s ∧ s < 257) (by omega))
      have h3 : 257 ≤ s := by omega
      clear h2
      go_enter Tryz.func99, Tryz.ntmps99
      go_wp2_with fail
      go_ret
      exact ⟨by simp; try omega, rfl⟩
  · have e := Lib.hid (decide_eq_false (p := 0 ≤ s ∧ s < 257) (by omega))
    have h3 : s < 0 := by omega
    clear h
    go_enter Tryz.func99, Tryz.ntmps99
    go_wp2_with fail
    go_ret
    exact ⟨by simp; try omega, rfl⟩

theorem sof_any (b : Nat) (hb : b < 256) (w : World) : Calls Tryz.prog 88 #[.int .u8 b] w fun e w' => e = .returned (.int .i64 (b + 1 : Nat)) ∧ w = w' := by
  go_enter Tryz.func88, Tryz.ntmps88
  go_wp2_with fail
  go_ret
  exact ⟨by rw [Int.natCast_succ]; rfl, rfl⟩

theorem sis_sym (s : Nat) (h : s < 257) (w : World) : Calls Tryz.prog 99 #[.int .i64 s] w fun e w' => e = .returned (.bool true) ∧ w = w' := by
  have := sis_any s w
  rwa [decide_eq_true (p := 0 ≤ (s : Int) ∧ (s : Int) < 257) (by omega)] at this
theorem nine {P : Nat → Prop} (lv : Nat) (h : lv < 9) (h0 : P 0) (h1 : P 1) (h2 : P 2) (h3 : P 3) (h4 : P 4) (h5 : P 5) (h6 : P 6) (h7 : P 7) (h8 : P 8) : P lv := by
  have : lv = 0 ∨ lv = 1 ∨ lv = 2 ∨ lv = 3 ∨ lv = 4 ∨ lv = 5 ∨ lv = 6 ∨ lv = 7 ∨ lv = 8 := by omega
  rcases this with rfl | rfl | rfl | rfl | rfl | rfl | rfl | rfl | rfl <;> assumption

theorem i64_and1 (n : Int) : bits .and .i64 n 1 = n % 2 := by
  have h1 : (BitVec.ofInt 64 1).toNat = 2 ^ 1 - 1 := by decide
  have key : (BitVec.ofInt 64 n &&& BitVec.ofInt 64 1).toNat = (n % ((2 ^ 64 : Nat) : Int)).toNat % 2 ^ 1 := by
    rw [BitVec.toNat_and, BitVec.toNat_ofInt, h1, Nat.and_two_pow_sub_one_eq_mod]
  show IntKind.i64.wrap ((BitVec.ofInt 64 n &&& BitVec.ofInt 64 1).toNat : Nat) = n % 2
  rw [key, IntKind.wrap_i64]
  omega
theorem bit_and (s d : Nat) : (bits .and .i64 ((s : Int) / (d : Nat)) 1 == 1) = (s / d % 2 == 1) := by
  rw [i64_and1, Bool.eq_iff_iff, beq_iff_eq, beq_iff_eq]
  have : (s : Int) / (d : Nat) = ((s / d : Nat) : Int) := (Int.natCast_ediv s d).symm
  rw [this]
  omega
theorem spath_0 (s : Nat) (hs : s < 257) (w : World) : Calls Tryz.prog 153 #[.int .i64 s, .int .i64 0] w fun e w' => e = .returned (.int .i64 (pathN s 0)) ∧ w = w' := by
  have si := fun wx => sis_sym s hs wx
  have SI := Lib.hid si
  clear si
  go_enter Tryz.func153, Tryz.ntmps153
  go_wp2_with (go_at_call 99; refine (SI.out _).mono ?_; rintro e w' ⟨rfl, rfl⟩)
  go_ret
  exact ⟨ret_int (by unfold pathN; simp; try omega), rfl⟩
theorem spath_1 (s : Nat) (hs : s < 257) (w : World) : Calls Tryz.prog 153 #[.int .i64 s, .int .i64 1] w fun e w' => e = .returned (.int .i64 (pathN s 1)) ∧ w = w' := by
  have si := fun wx => sis_sym s hs wx
  have SI := Lib.hid si
  clear si
  go_enter Tryz.func153, Tryz.ntmps153
  go_wp2_with (go_at_call 99; refine (SI.out _).mono ?_; rintro e w' ⟨rfl, rfl⟩)
  go_ret
  exact ⟨ret_int (by unfold pathN; simp; try omega), rfl⟩
theorem spath_2 (s : Nat) (hs : s < 257) (w : World) : Calls Tryz.prog 153 #[.int .i64 s, .int .i64 2] w fun e w' => e = .returned (.int .i64 (pathN s 2)) ∧ w = w' := by
  have si := fun wx => sis_sym s hs wx
  have SI := Lib.hid si
  clear si
  go_enter Tryz.func153, Tryz.ntmps153
  go_wp2_with (go_at_call 99; refine (SI.out _).mono ?_; rintro e w' ⟨rfl, rfl⟩)
  go_ret
  exact ⟨ret_int (by unfold pathN; simp; try omega), rfl⟩
theorem spath_3 (s : Nat) (hs : s < 257) (w : World) : Calls Tryz.prog 153 #[.int .i64 s, .int .i64 3] w fun e w' => e = .returned (.int .i64 (pathN s 3)) ∧ w = w' := by
  have si := fun wx => sis_sym s hs wx
  have SI := Lib.hid si
  clear si
  go_enter Tryz.func153, Tryz.ntmps153
  go_wp2_with (go_at_call 99; refine (SI.out _).mono ?_; rintro e w' ⟨rfl, rfl⟩)
  go_ret
  exact ⟨ret_int (by unfold pathN; simp; try omega), rfl⟩
theorem spath_4 (s : Nat) (hs : s < 257) (w : World) : Calls Tryz.prog 153 #[.int .i64 s, .int .i64 4] w fun e w' => e = .returned (.int .i64 (pathN s 4)) ∧ w = w' := by
  have si := fun wx => sis_sym s hs wx
  have SI := Lib.hid si
  clear si
  go_enter Tryz.func153, Tryz.ntmps153
  go_wp2_with (go_at_call 99; refine (SI.out _).mono ?_; rintro e w' ⟨rfl, rfl⟩)
  go_ret
  exact ⟨ret_int (by unfold pathN; simp; try omega), rfl⟩
theorem spath_5 (s : Nat) (hs : s < 257) (w : World) : Calls Tryz.prog 153 #[.int .i64 s, .int .i64 5] w fun e w' => e = .returned (.int .i64 (pathN s 5)) ∧ w = w' := by
  have si := fun wx => sis_sym s hs wx
  have SI := Lib.hid si
  clear si
  go_enter Tryz.func153, Tryz.ntmps153
  go_wp2_with (go_at_call 99; refine (SI.out _).mono ?_; rintro e w' ⟨rfl, rfl⟩)
  go_ret
  exact ⟨ret_int (by unfold pathN; simp; try omega), rfl⟩
theorem spath_6 (s : Nat) (hs : s < 257) (w : World) : Calls Tryz.prog 153 #[.int .i64 s, .int .i64 6] w fun e w' => e = .returned (.int .i64 (pathN s 6)) ∧ w = w' := by
  have si := fun wx => sis_sym s hs wx
  have SI := Lib.hid si
  clear si
  go_enter Tryz.func153, Tryz.ntmps153
  go_wp2_with (go_at_call 99; refine (SI.out _).mono ?_; rintro e w' ⟨rfl, rfl⟩)
  go_ret
  exact ⟨ret_int (by unfold pathN; simp; try omega), rfl⟩
theorem spath_7 (s : Nat) (hs : s < 257) (w : World) : Calls Tryz.prog 153 #[.int .i64 s, .int .i64 7] w fun e w' => e = .returned (.int .i64 (pathN s 7)) ∧ w = w' := by
  have si := fun wx => sis_sym s hs wx
  have SI := Lib.hid si
  clear si
  go_enter Tryz.func153, Tryz.ntmps153
  go_wp2_with (go_at_call 99; refine (SI.out _).mono ?_; rintro e w' ⟨rfl, rfl⟩)
  go_ret
  exact ⟨ret_int (by unfold pathN; simp; try omega), rfl⟩
theorem spath_8 (s : Nat) (hs : s < 257) (w : World) : Calls Tryz.prog 153 #[.int .i64 s, .int .i64 8] w fun e w' => e = .returned (.int .i64 (pathN s 8)) ∧ w = w' := by
  have si := fun wx => sis_sym s hs wx
  have SI := Lib.hid si
  clear si
  go_enter Tryz.func153, Tryz.ntmps153
  go_wp2_with (go_at_call 99; refine (SI.out _).mono ?_; rintro e w' ⟨rfl, rfl⟩)
  go_ret
  exact ⟨ret_int (by unfold pathN; simp; try omega), rfl⟩
theorem spath_any (s lv : Nat) (hs : s < 257) (hl : lv < 9) (w : World) : Calls Tryz.prog 153 #[.int .i64 s, .int .i64 lv] w fun e w' => e = .returned (.int .i64 (pathN s lv)) ∧ w = w' :=
  nine (P := fun lv => Calls Tryz.prog 153 #[.int .i64 s, .int .i64 (lv : Nat)] w fun e w' => e = .returned (.int .i64 (pathN s lv)) ∧ w = w') lv hl (spath_0 s hs w) (spath_1 s hs w) (spath_2 s hs w) (spath_3 s hs w) (spath_4 s hs w) (spath_5 s hs w) (spath_6 s hs w) (spath_7 s hs w) (spath_8 s hs w)
theorem sbit_0 (s : Nat) (hs : s < 257) (w : World) : Calls Tryz.prog 156 #[.int .i64 s, .int .i64 0] w fun e w' => e = .returned (.bool (bitN s 0)) ∧ w = w' := by
  have si := fun wx => sis_sym s hs wx
  have SI := Lib.hid si
  have hb : (bits .and .i64 ((s : Int) / 256) 1 == 1) = (s / 256 % 2 == 1) := bit_and s 256
  clear si
  go_enter Tryz.func156, Tryz.ntmps156
  go_wp2_with (go_at_call 99; refine (SI.out _).mono ?_; rintro e w' ⟨rfl, rfl⟩)
  go_ret
  exact ⟨by unfold bitN; simp, rfl⟩
theorem sbit_1 (s : Nat) (hs : s < 257) (w : World) : Calls Tryz.prog 156 #[.int .i64 s, .int .i64 1] w fun e w' => e = .returned (.bool (bitN s 1)) ∧ w = w' := by
  have si := fun wx => sis_sym s hs wx
  have SI := Lib.hid si
  have hb : (bits .and .i64 ((s : Int) / 128) 1 == 1) = (s / 128 % 2 == 1) := bit_and s 128
  clear si
  go_enter Tryz.func156, Tryz.ntmps156
  go_wp2_with (go_at_call 99; refine (SI.out _).mono ?_; rintro e w' ⟨rfl, rfl⟩)
  go_ret
  exact ⟨by unfold bitN; simp, rfl⟩
theorem sbit_2 (s : Nat) (hs : s < 257) (w : World) : Calls Tryz.prog 156 #[.int .i64 s, .int .i64 2] w fun e w' => e = .returned (.bool (bitN s 2)) ∧ w = w' := by
  have si := fun wx => sis_sym s hs wx
  have SI := Lib.hid si
  have hb : (bits .and .i64 ((s : Int) / 64) 1 == 1) = (s / 64 % 2 == 1) := bit_and s 64
  clear si
  go_enter Tryz.func156, Tryz.ntmps156
  go_wp2_with (go_at_call 99; refine (SI.out _).mono ?_; rintro e w' ⟨rfl, rfl⟩)
  go_ret
  exact ⟨by unfold bitN; simp, rfl⟩
theorem sbit_3 (s : Nat) (hs : s < 257) (w : World) : Calls Tryz.prog 156 #[.int .i64 s, .int .i64 3] w fun e w' => e = .returned (.bool (bitN s 3)) ∧ w = w' := by
  have si := fun wx => sis_sym s hs wx
  have SI := Lib.hid si
  have hb : (bits .and .i64 ((s : Int) / 32) 1 == 1) = (s / 32 % 2 == 1) := bit_and s 32
  clear si
  go_enter Tryz.func156, Tryz.ntmps156
  go_wp2_with (go_at_call 99; refine (SI.out _).mono ?_; rintro e w' ⟨rfl, rfl⟩)
  go_ret
  exact ⟨by unfold bitN; simp, rfl⟩
theorem sbit_4 (s : Nat) (hs : s < 257) (w : World) : Calls Tryz.prog 156 #[.int .i64 s, .int .i64 4] w fun e w' => e = .returned (.bool (bitN s 4)) ∧ w = w' := by
  have si := fun wx => sis_sym s hs wx
  have SI := Lib.hid si
  have hb : (bits .and .i64 ((s : Int) / 16) 1 == 1) = (s / 16 % 2 == 1) := bit_and s 16
  clear si
  go_enter Tryz.func156, Tryz.ntmps156
  go_wp2_with (go_at_call 99; refine (SI.out _).mono ?_; rintro e w' ⟨rfl, rfl⟩)
  go_ret
  exact ⟨by unfold bitN; simp, rfl⟩
theorem sbit_5 (s : Nat) (hs : s < 257) (w : World) : Calls Tryz.prog 156 #[.int .i64 s, .int .i64 5] w fun e w' => e = .returned (.bool (bitN s 5)) ∧ w = w' := by
  have si := fun wx => sis_sym s hs wx
  have SI := Lib.hid si
  have hb : (bits .and .i64 ((s : Int) / 8) 1 == 1) = (s / 8 % 2 == 1) := bit_and s 8
  clear si
  go_enter Tryz.func156, Tryz.ntmps156
  go_wp2_with (go_at_call 99; refine (SI.out _).mono ?_; rintro e w' ⟨rfl, rfl⟩)
  go_ret
  exact ⟨by unfold bitN; simp, rfl⟩
theorem sbit_6 (s : Nat) (hs : s < 257) (w : World) : Calls Tryz.prog 156 #[.int .i64 s, .int .i64 6] w fun e w' => e = .returned (.bool (bitN s 6)) ∧ w = w' := by
  have si := fun wx => sis_sym s hs wx
  have SI := Lib.hid si
  have hb : (bits .and .i64 ((s : Int) / 4) 1 == 1) = (s / 4 % 2 == 1) := bit_and s 4
  clear si
  go_enter Tryz.func156, Tryz.ntmps156
  go_wp2_with (go_at_call 99; refine (SI.out _).mono ?_; rintro e w' ⟨rfl, rfl⟩)
  go_ret
  exact ⟨by unfold bitN; simp, rfl⟩
theorem sbit_7 (s : Nat) (hs : s < 257) (w : World) : Calls Tryz.prog 156 #[.int .i64 s, .int .i64 7] w fun e w' => e = .returned (.bool (bitN s 7)) ∧ w = w' := by
  have si := fun wx => sis_sym s hs wx
  have SI := Lib.hid si
  have hb : (bits .and .i64 ((s : Int) / 2) 1 == 1) = (s / 2 % 2 == 1) := bit_and s 2
  clear si
  go_enter Tryz.func156, Tryz.ntmps156
  go_wp2_with (go_at_call 99; refine (SI.out _).mono ?_; rintro e w' ⟨rfl, rfl⟩)
  go_ret
  exact ⟨by unfold bitN; simp, rfl⟩
theorem sbit_8 (s : Nat) (hs : s < 257) (w : World) : Calls Tryz.prog 156 #[.int .i64 s, .int .i64 8] w fun e w' => e = .returned (.bool (bitN s 8)) ∧ w = w' := by
  have si := fun wx => sis_sym s hs wx
  have SI := Lib.hid si
  have hb : (bits .and .i64 (s : Int) 1 == 1) = (s % 2 == 1) := by have := bit_and s 1; simpa using this
  clear si
  go_enter Tryz.func156, Tryz.ntmps156
  go_wp2_with (go_at_call 99; refine (SI.out _).mono ?_; rintro e w' ⟨rfl, rfl⟩)
  go_ret
  exact ⟨by unfold bitN; simp, rfl⟩
theorem sbit_any (s lv : Nat) (hs : s < 257) (hl : lv < 9) (w : World) : Calls Tryz.prog 156 #[.int .i64 s, .int .i64 lv] w fun e w' => e = .returned (.bool (bitN s lv)) ∧ w = w' :=
  nine (P := fun lv => Calls Tryz.prog 156 #[.int .i64 s, .int .i64 (lv : Nat)] w fun e w' => e = .returned (.bool (bitN s lv)) ∧ w = w') lv hl (sbit_0 s hs w) (sbit_1 s hs w) (sbit_2 s hs w) (sbit_3 s hs w) (sbit_4 s hs w) (sbit_5 s hs w) (sbit_6 s hs w) (sbit_7 s hs w) (sbit_8 s hs w)
end Go.Proofs.YtnadgcgnediakaaGreatDoor
namespace Go.Proofs.YtnadgcgnediakaaGreatDoor
open Go.ChangeShapes Go.WideShapes Go.ChangeAt Go.RowKit

section
variable {P : Program} (w : World)
theorem run_append_where (base : Nat) (t ty e : TypeId) (i : TypeInfo) (z : Value) (size bytes : Nat) (ht : P.underlying t = some (.slice e)) (hi : P.info? e = some i) (hz : i.zero = some z)
    (hsize : i.size = size) (hby : i.bytes = bytes) (hzs : z.cells.size = size) (hsz : 0 < size)
    (v : Value) (n : Nat) (xs : List Value) (hown : w.ownsRow base e size v n xs)
    (a : Addr) (m c : Nat) (news : List Value) (hl : news.length = m * size) (hnews : ∀ j u, news[j]? = some u → w.cell? (a.add j) = some u) (h1 : ∀ u ∈ news, u.oneCell' = true)
    (h63 : n + m ≤ maxLen) (hbytes : (n + m) * bytes ≤ 140737488355328) (hbase : base ≤ w.heap.size) :
    ∃ v' w', (Builtin.append_ #[t, t] ty #[v, .slice (some a) m c]).run P w = .ok v' w' ∧ w'.ownsRow base e size v' (n + m) (xs ++ news) ∧ w.grownBy w' v.ownBlock ∧
      (∀ k, v'.ownBlock = some k → v.ownBlock = some k ∨ w.heap.size ≤ k) := by
  have hr0 := run_append_own (P := P) w base t ty e i z size bytes ht hi hz hsize hby hzs hsz v n xs hown a m c news hl hnews h1 h63 hbytes hbase
  rcases hown.2 with ⟨rfl, rfl⟩ | ⟨g, cap, cur, rfl, hbg, hg, hnc, hcm, hcs, htake⟩
  · have hr := run_append_own (P := P) w w.heap.size t ty e i z size bytes ht hi hz hsize hby hzs hsz (.slice none 0 0) 0 xs ⟨hown.1, .inl ⟨rfl, rfl⟩⟩ a m c news hl hnews h1 h63 hbytes (Nat.le_refl _)
    obtain ⟨v', w', h2, h3, h4, _⟩ := hr
    exact ⟨v', w', h2, Joins.ownsRow_le h3 hbase, h4, fun k hk => .inr (h3.lt k hk).1⟩
  · obtain ⟨v', w', h2, h3, h4, _⟩ := hr0
    refine ⟨v', w', h2, h3, h4, fun k hk => ?_⟩
    by_cases hroom : n + m ≤ cap
    · subst hsize
      have hfit : n * i.size + news.length ≤ cur.size := by rw [hl, hcs, ← Nat.add_mul]; exact Nat.mul_le_mul_right _ hroom
      have hr := run_append_room (P := P) w t ty e i ht hi g n cap cur hg a m c news hl hnews h1 hroom hfit
      rw [hr] at h2
      cases h2
      exact .inl hk
    · subst hsize
      subst hby
      have hlen : (xs ++ news).length = (n + m) * i.size := by rw [List.length_append, hown.1, hl, Nat.add_mul]
      have hsmall : n + m ≤ 9223372036854775807 := by simp only [maxLen] at h63; omega
      have holds : ∀ j u, xs[j]? = some u → w.cell? ((⟨g, 0, none⟩ : Addr).add j) = some u := hown.cells (g := g) rfl
      have hr := run_append_grow (P := P) w t ty e i z ht hi hz ⟨g, 0, none⟩ n cap xs hown.1 holds a m c news hl hnews (by omega) (by omega) (growslice_fits (by omega) hbytes)
      rw [hr] at h2
      cases h2
      simp [Value.ownBlock] at hk
      exact .inr (by omega)

theorem wpList_append_where {ops : Array Oper} {rest : List Oper} {o : Oper} {a : Act} {Q : Exit → Act → World → Prop} (hw : Region.wanted o (yielded ops a.tmps) = true) (s x : Operand) (t : TypeId)
    (ho : o.op = .call { callee := .builtin .append, args := #[s, x], argTypes := #[t, t] })
    (e : TypeId) (i : TypeInfo) (z : Value) (size bytes : Nat) (ht : P.underlying t = some (.slice e)) (hi : P.info? e = some i) (hz : i.zero = some z)
    (hsize : i.size = size) (hby : i.bytes = bytes) (hzs : z.cells.size = size) (hsz : 0 < size)
    (v : Value) (n : Nat) (xs : List Value) (hs : a.eval s = v) (hown : w.ownsRow 0 e size v n xs)
    (ad : Addr) (m c : Nat) (news : List Value) (hx : a.eval x = .slice (some ad) m c) (hl : news.length = m * size) (hnews : ∀ j u, news[j]? = some u → w.cell? (ad.add j) = some u) (h1 : ∀ u ∈ news, u.oneCell' = true)
    (h63 : n + m ≤ maxLen) (hbytes : (n + m) * bytes ≤ 140737488355328)
    (h : ∀ v' w', w'.ownsRow 0 e size v' (n + m) (xs ++ news) → w.grownBy w' v.ownBlock → (∀ k, v'.ownBlock = some k → v.ownBlock = some k ∨ w.heap.size ≤ k) → wpList P ops Q rest (a.put o.dst v') w') : wpList P ops Q (o :: rest) a w :=
  wpList_step fun _ hK => by
    rw [if_pos hw]
    obtain ⟨v', w', hr, h2, h3, h4⟩ := run_append_where (P := P) w 0 t o.type e i z size bytes ht hi hz hsize hby hzs hsz v n xs hown ad m c news hl hnews h1 h63 hbytes (Nat.zero_le _)
    unfold Oper.wp execOp
    simp only [ho, resolve, invoke, builtin, Sem.run_bind, Sem.run_pure, Result.andThen_ok, List.map_toArray, List.map_cons, List.map_nil, hs, hx, hr]
    exact hK _ _ (h v' w' h2 h3 h4)
end
end Go.Proofs.YtnadgcgnediakaaGreatDoor
