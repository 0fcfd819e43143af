/- A tree of at most one leaf in memory; the walks that only look: Len, Ones, has, Visits, like. The walks of tree.has, Get, Rank. The walk of tree.fix at a leaf. The walk of tree.Rank. -/
import Derived.Test.YtnadgcgnediakaaGreatDoorH07
import Derived.Test.YtnadgcgnediakaaGreatDoorH08
import Derived.Test.YtnadgcgnediakaaGreatDoorH01
namespace Go.Proofs.YtnadgcgnediakaaGreatDoor
open Go.ChangeShapes Go.WideShapes Go.ChangeAt Go.RowKit Go.Deep

/-- how many are true -/
def onesL (l : List Bool) : Nat := rankL l l.length
def nodeOf (l : List Bool) (bb : Nat) : List Value := [.int .i64 (-1), .int .i64 (-1), .int .i64 0, .int .i64 l.length, .int .i64 (onesL l), .int .i64 0, .int .i64 0, .pointer (some ⟨bb, 0, none⟩)]

/-- the owners of a tree's blocks: the tree, its arena -/
def tr (c x : Nat) : Prop := x = c ∨ x = c + 1

/-- one leaf -/
structure Leaf (w : World) (o : Nat → Nat) (c tb : Nat) (l : List Bool) (ab nb bb kb lc kc : Nat) (fv : Value) (vis : Int) : Prop where
  t : w.heap[tb]? = some (.cells #[.pointer (some ⟨ab, 0, none⟩), .slice (some ⟨nb, 0, none⟩) 1 lc, .int .i64 0, .int .i64 vis] 197 (0, 0))
  a : ArenaIs w ab (.slice (some ⟨kb, 0, none⟩) 1 kc) fv
  n : Owned w o c 200 8 (.slice (some ⟨nb, 0, none⟩) 1 lc) 1 (nodeOf l bb)
  k : Owned w o (c + 1) 4 1 (.slice (some ⟨kb, 0, none⟩) 1 kc) 1 [.bool true]
  f : Owned w o (c + 1) 3 1 fv 0 []
  b : IsBlk w bb l
  ot : o tb = c
  oa : o ab = c + 1
  ob : o bb = c

/-- no leaf: there never was one -/
structure Never (w : World) (o : Nat → Nat) (c tb ab : Nat) (vis : Int) : Prop where
  t : w.heap[tb]? = some (.cells #[.pointer (some ⟨ab, 0, none⟩), .slice none 0 0, .int .i64 (-1), .int .i64 vis] 197 (0, 0))
  a : ArenaIs w ab (.slice none 0 0) (.slice none 0 0)
  ot : o tb = c
  oa : o ab = c + 1

/-- no leaf: it was given back -/
structure Gone (w : World) (o : Nat → Nat) (c tb ab nb kb fb lc kc fc : Nat) (x : List Value) (vis : Int) : Prop where
  t : w.heap[tb]? = some (.cells #[.pointer (some ⟨ab, 0, none⟩), .slice (some ⟨nb, 0, none⟩) 1 lc, .int .i64 (-1), .int .i64 vis] 197 (0, 0))
  a : ArenaIs w ab (.slice (some ⟨kb, 0, none⟩) 1 kc) (.slice (some ⟨fb, 0, none⟩) 1 fc)
  n : Owned w o c 200 8 (.slice (some ⟨nb, 0, none⟩) 1 lc) 1 x
  k : Owned w o (c + 1) 4 1 (.slice (some ⟨kb, 0, none⟩) 1 kc) 1 [.bool false]
  f : Owned w o (c + 1) 3 1 (.slice (some ⟨fb, 0, none⟩) 1 fc) 1 [.int .i64 0]
  ot : o tb = c
  oa : o ab = c + 1

/-- a tree of these bits -/
def IsTree (w : World) (o : Nat → Nat) (c tb : Nat) (l : List Bool) : Prop :=
  (l ≠ [] ∧ ∃ ab nb bb kb lc kc fv vis, Leaf w o c tb l ab nb bb kb lc kc fv vis) ∨
  (l = [] ∧ ((∃ ab vis, Never w o c tb ab vis) ∨ ∃ ab nb kb fb lc kc fc x vis, Gone w o c tb ab nb kb fb lc kc fc x vis))

section
variable {w w1 : World} {o o1 : Nat → Nat} {d : Nat → Prop} {c tb : Nat} {l : List Bool}
theorem Leaf.keep {ab nb bb kb lc kc : Nat} {fv : Value} {vis : Int} (h : Leaf w o c tb l ab nb bb kb lc kc fv vis) (u : Upd o d w w1 o1) (hd : ¬ d c) (hd1 : ¬ d (c + 1)) : Leaf w1 o1 c tb l ab nb bb kb lc kc fv vis :=
  ⟨(u.heap h.t (by rw [h.ot]; exact hd)).1, (u.heap h.a (by rw [h.oa]; exact hd1)).1, h.n.keep u hd, h.k.keep u hd1, h.f.keep u hd1, h.b.same (u.same bb h.b.lt (by rw [h.ob]; exact hd)),
   (u.heap h.t (by rw [h.ot]; exact hd)).2.trans h.ot, (u.heap h.a (by rw [h.oa]; exact hd1)).2.trans h.oa, (u.own bb h.b.lt).trans h.ob⟩
theorem Never.keep {ab : Nat} {vis : Int} (h : Never w o c tb ab vis) (u : Upd o d w w1 o1) (hd : ¬ d c) (hd1 : ¬ d (c + 1)) : Never w1 o1 c tb ab vis :=
  ⟨(u.heap h.t (by rw [h.ot]; exact hd)).1, (u.heap h.a (by rw [h.oa]; exact hd1)).1, (u.heap h.t (by rw [h.ot]; exact hd)).2.trans h.ot, (u.heap h.a (by rw [h.oa]; exact hd1)).2.trans h.oa⟩
theorem Gone.keep {ab nb kb fb lc kc fc : Nat} {x : List Value} {vis : Int} (h : Gone w o c tb ab nb kb fb lc kc fc x vis) (u : Upd o d w w1 o1) (hd : ¬ d c) (hd1 : ¬ d (c + 1)) : Gone w1 o1 c tb ab nb kb fb lc kc fc x vis :=
  ⟨(u.heap h.t (by rw [h.ot]; exact hd)).1, (u.heap h.a (by rw [h.oa]; exact hd1)).1, h.n.keep u hd, h.k.keep u hd1, h.f.keep u hd1, (u.heap h.t (by rw [h.ot]; exact hd)).2.trans h.ot, (u.heap h.a (by rw [h.oa]; exact hd1)).2.trans h.oa⟩
theorem IsTree.keep (h : IsTree w o c tb l) (u : Upd o d w w1 o1) (hd : ¬ d c) (hd1 : ¬ d (c + 1)) : IsTree w1 o1 c tb l := by
  rcases h with ⟨h1, _, _, _, _, _, _, _, _, h⟩ | ⟨h1, ⟨_, _, h⟩ | ⟨_, _, _, _, _, _, _, _, _, h⟩⟩
  · exact .inl ⟨h1, _, _, _, _, _, _, _, _, h.keep u hd hd1⟩
  · exact .inr ⟨h1, .inl ⟨_, _, h.keep u hd hd1⟩⟩
  · exact .inr ⟨h1, .inr ⟨_, _, _, _, _, _, _, _, _, h.keep u hd hd1⟩⟩
/-- what a walk reads of a leaf -/
theorem Leaf.cells {ab nb bb kb lc kc : Nat} {fv : Value} {vis : Int} (h : Leaf w o c tb l ab nb bb kb lc kc fv vis) :
    (w.cell? ⟨tb, 0, none⟩ = some (.pointer (some ⟨ab, 0, none⟩)) ∧ w.cell? ⟨tb, 1, none⟩ = some (.slice (some ⟨nb, 0, none⟩) 1 lc) ∧ w.cell? ⟨tb, 2, none⟩ = some (.int .i64 0) ∧ w.cell? ⟨tb, 3, none⟩ = some (.int .i64 vis)) ∧
    (∀ j u, (nodeOf l bb)[j]? = some u → w.cell? ⟨nb, j, none⟩ = some u) ∧ (∀ j, w.frozen? ⟨tb, j, none⟩ = false) ∧ (∀ j, w.frozen? ⟨nb, j, none⟩ = false) ∧ nb ≠ tb ∧ bb ≠ tb ∧ bb ≠ nb ∧ tb < w.heap.size ∧ nb < w.heap.size ∧ bb < w.heap.size := by
  refine ⟨⟨by rw [Joins.cell_of_block h.t]; rfl, by rw [Joins.cell_of_block h.t]; rfl, by rw [Joins.cell_of_block h.t]; rfl, by rw [Joins.cell_of_block h.t]; rfl⟩, fun j u hu => owns_cell h.n.1 j u hu, Joins.unfrozen_of_block h.t, owns_free h.n.1, ?_, ?_, ?_, lt_of_block h.t, ownBlock_lt h.n.1 rfl, h.b.lt⟩
  · have := owns_ne h.n.1 h.t (by decide); simpa [Value.ownBlock] using this
  · obtain ⟨_, _, hb, _⟩ := h.b
    rintro rfl
    rw [h.t] at hb
    simp at hb
  · obtain ⟨_, _, hb, _⟩ := h.b
    have := owns_ne h.n.1 hb (by decide)
    intro e
    exact this (by rw [e]; rfl)
end

/-- a leaf's root: any number of looks -/
theorem tlen_leaf (o : Nat → Nat) (c tb : Nat) (l : List Bool) (ab nb bb kb lc kc : Nat) (fv : Value) (vis : Int) (w : World) (h : Leaf w o c tb l ab nb bb kb lc kc fv vis) :
    Calls Tryz.prog 120 #[.pointer (some ⟨tb, 0, none⟩)] w fun e w' => e = .returned (.int .i64 l.length) ∧ ∃ n, w' = w.drewN n := by
  obtain ⟨⟨t0, t1, t2, t3⟩, hn, _⟩ := h.cells
  have n3 := hn 3 _ rfl
  clear hn h
  go_enter Tryz.func120, Tryz.ntmps120
  go_wp2_with fail
  go_quiet (fail)
  go_wp2_with fail
  go_ret
  exact ⟨rfl, _, rfl⟩
theorem tones_leaf (o : Nat → Nat) (c tb : Nat) (l : List Bool) (ab nb bb kb lc kc : Nat) (fv : Value) (vis : Int) (w : World) (h : Leaf w o c tb l ab nb bb kb lc kc fv vis) :
    Calls Tryz.prog 199 #[.pointer (some ⟨tb, 0, none⟩)] w fun e w' => e = .returned (.int .i64 (onesL l)) ∧ ∃ n, w' = w.drewN n := by
  obtain ⟨⟨t0, t1, t2, t3⟩, hn, _⟩ := h.cells
  have n4 := hn 4 _ rfl
  clear hn h
  go_enter Tryz.func199, Tryz.ntmps199
  go_wp2_with fail
  go_quiet (fail)
  go_wp2_with fail
  go_ret
  exact ⟨rfl, _, rfl⟩
theorem tlen_none (tb : Nat) (w : World) (h : w.cell? ⟨tb, 2, none⟩ = some (.int .i64 (-1))) :
    Calls Tryz.prog 120 #[.pointer (some ⟨tb, 0, none⟩)] w fun e w' => e = .returned (.int .i64 0) ∧ ∃ n, w' = w.drewN n := by
  go_enter Tryz.func120, Tryz.ntmps120
  go_wp2_with fail
  go_ret
  exact ⟨rfl, 0, rfl⟩
theorem tones_none (tb : Nat) (w : World) (h : w.cell? ⟨tb, 2, none⟩ = some (.int .i64 (-1))) :
    Calls Tryz.prog 199 #[.pointer (some ⟨tb, 0, none⟩)] w fun e w' => e = .returned (.int .i64 0) ∧ ∃ n, w' = w.drewN n := by
  go_enter Tryz.func199, Tryz.ntmps199
  go_wp2_with fail
  go_ret
  exact ⟨rfl, 0, rfl⟩
/-- how many bits there are -/
theorem tlen_any (o : Nat → Nat) (c tb : Nat) (l : List Bool) (w : World) (h : IsTree w o c tb l) :
    Calls Tryz.prog 120 #[.pointer (some ⟨tb, 0, none⟩)] w fun e w' => e = .returned (.int .i64 l.length) ∧ ∃ n, w' = w.drewN n := by
  rcases h with ⟨h1, _, _, _, _, _, _, _, _, h⟩ | ⟨rfl, ⟨_, _, h⟩ | ⟨_, _, _, _, _, _, _, _, _, h⟩⟩
  · exact tlen_leaf _ _ _ _ _ _ _ _ _ _ _ _ _ h
  · exact tlen_none _ _ (by rw [Joins.cell_of_block h.t]; rfl)
  · exact tlen_none _ _ (by rw [Joins.cell_of_block h.t]; rfl)
theorem tones_any (o : Nat → Nat) (c tb : Nat) (l : List Bool) (w : World) (h : IsTree w o c tb l) :
    Calls Tryz.prog 199 #[.pointer (some ⟨tb, 0, none⟩)] w fun e w' => e = .returned (.int .i64 (onesL l)) ∧ ∃ n, w' = w.drewN n := by
  rcases h with ⟨h1, _, _, _, _, _, _, _, _, h⟩ | ⟨rfl, ⟨_, _, h⟩ | ⟨_, _, _, _, _, _, _, _, _, h⟩⟩
  · exact tones_leaf _ _ _ _ _ _ _ _ _ _ _ _ _ h
  · exact tones_none _ _ (by rw [Joins.cell_of_block h.t]; rfl)
  · exact tones_none _ _ (by rw [Joins.cell_of_block h.t]; rfl)

theorem like_any (n k : Int) (b : Bool) (w : World) (hn : 0 ≤ k ∧ k ≤ n ∧ n < 1000) : Calls Tryz.prog 198 #[.int .i64 n, .int .i64 k, .bool b] w fun e w' => e = .returned (.int .i64 (if b then k else n - k)) ∧ w = w' := by
  obtain ⟨h1, h2, h3⟩ := hn
  cases b
  · go_enter Tryz.func198, Tryz.ntmps198
    go_wp2_with fail
    go_ret
    exact ⟨rfl, rfl⟩
  · go_enter Tryz.func198, Tryz.ntmps198
    go_wp2_with fail
    go_ret
    exact ⟨rfl, rfl⟩
theorem visits_any (tb : Nat) (vis : Int) (w : World) (h : w.cell? ⟨tb, 3, none⟩ = some (.int .i64 vis)) :
    Calls Tryz.prog 187 #[.pointer (some ⟨tb, 0, none⟩)] w fun e w' => e = .returned (.int .i64 vis) ∧ w = w' := by
  go_enter Tryz.func187, Tryz.ntmps187
  go_wp2_with fail
  go_ret
  exact ⟨rfl, rfl⟩
theorem IsTree.vis {w : World} {o : Nat → Nat} {c tb : Nat} {l : List Bool} (h : IsTree w o c tb l) : ∃ v, w.cell? ⟨tb, 3, none⟩ = some (.int .i64 v) := by
  rcases h with ⟨h1, _, _, _, _, _, _, _, _, h⟩ | ⟨rfl, ⟨_, _, h⟩ | ⟨_, _, _, _, _, _, _, _, _, h⟩⟩ <;> exact ⟨_, by rw [Joins.cell_of_block h.t]; rfl⟩
theorem IsTree.ot {w : World} {o : Nat → Nat} {c tb : Nat} {l : List Bool} (h : IsTree w o c tb l) : o tb = c := by
  rcases h with ⟨h1, _, _, _, _, _, _, _, _, h⟩ | ⟨rfl, ⟨_, _, h⟩ | ⟨_, _, _, _, _, _, _, _, _, h⟩⟩ <;> exact h.ot
theorem IsTree.lt {w : World} {o : Nat → Nat} {c tb : Nat} {l : List Bool} (h : IsTree w o c tb l) : tb < w.heap.size := by
  rcases h with ⟨h1, _, _, _, _, _, _, _, _, h⟩ | ⟨rfl, ⟨_, _, h⟩ | ⟨_, _, _, _, _, _, _, _, _, h⟩⟩ <;> exact lt_of_block h.t
end Go.Proofs.YtnadgcgnediakaaGreatDoor
namespace Go.Proofs.YtnadgcgnediakaaGreatDoor
open Go.ChangeShapes Go.WideShapes Go.ChangeAt Go.RowKit Go.Deep

section
variable {w : World} {o : Nat → Nat} {c tb : Nat} {l : List Bool} {ab nb bb kb lc kc : Nat} {fv : Value} {vis : Int}
/-- another count of visits -/
theorem Leaf.visit (h : Leaf w o c tb l ab nb bb kb lc kc fv vis) (v : Int) : Leaf (w.setCell ⟨tb, 3, none⟩ (.int .i64 v)) o c tb l ab nb bb kb lc kc fv v := by
  obtain ⟨_, _, _, _, nt, bt, bn, _⟩ := h.cells
  have at' : ab ≠ tb := by
    rintro rfl
    have h1 := h.a
    unfold ArenaIs at h1
    rw [h.t] at h1
    simp at h1
  refine ⟨Joins.block_setCell h.t _, (Below.heap_setCell _ _ _ _ at').trans h.a, ⟨owns_other h.n.1 (owns_ne h.n.1 h.t (by decide)) _, h.n.2⟩, ⟨owns_other h.k.1 (owns_ne h.k.1 h.t (by decide)) _, h.k.2⟩, ⟨owns_other h.f.1 (owns_ne h.f.1 h.t (by decide)) _, h.f.2⟩, h.b.same (Below.heap_setCell _ _ _ _ bt), h.ot, h.oa, h.ob⟩
theorem Leaf.upd {w1 : World} {o1 : Nat → Nat} (h : Leaf w o c tb l ab nb bb kb lc kc fv vis) (hs : ∀ b, b < w.heap.size → w1.heap[b]? = w.heap[b]?) (ho : ∀ b, b < w.heap.size → o1 b = o b) : Leaf w1 o1 c tb l ab nb bb kb lc kc fv vis :=
  ⟨(hs _ (lt_of_block h.t)).trans h.t, (hs _ (lt_of_block h.a)).trans h.a, ⟨owns_same h.n.1 fun k hk => hs k (ownBlock_lt h.n.1 hk), fun k hk => (ho k (ownBlock_lt h.n.1 hk)).trans (h.n.2 k hk)⟩,
   ⟨owns_same h.k.1 fun k hk => hs k (ownBlock_lt h.k.1 hk), fun k hk => (ho k (ownBlock_lt h.k.1 hk)).trans (h.k.2 k hk)⟩,
   ⟨owns_same h.f.1 fun k hk => hs k (ownBlock_lt h.f.1 hk), fun k hk => (ho k (ownBlock_lt h.f.1 hk)).trans (h.f.2 k hk)⟩, h.b.same (hs _ h.b.lt), (ho _ (lt_of_block h.t)).trans h.ot, (ho _ (lt_of_block h.a)).trans h.oa, (ho _ h.b.lt).trans h.ob⟩
end

theorem bget_is (g : Nat) (l : List Bool) (k : Nat) (w : World) (h : IsBlk w g l) (hk : k < l.length) :
    Calls Tryz.prog 189 #[.pointer (some ⟨g, 0, none⟩), .int .i64 k] w fun e w' => e = .returned (.tuple #[.bool (l.getD k false), .int .i64 0]) ∧ w = w' := by
  obtain ⟨w0, w1, hb, _⟩ := h.cells
  exact bget_any g l w0 w1 k w hb hk
theorem thas_any (o : Nat → Nat) (c tb : Nat) (l : List Bool) (ab nb bb kb lc kc : Nat) (fv : Value) (vis : Int) (k : Nat) (w : World) (h : Leaf w o c tb l ab nb bb kb lc kc fv vis) (hk : k < l.length) :
    Calls Tryz.prog 188 #[.pointer (some ⟨tb, 0, none⟩), .int .i64 k] w fun e w' => e = .returned (.int .i64 0) ∧ Leaf w' o c tb l ab nb bb kb lc kc fv 0 ∧ Only tb w w' := by
  obtain ⟨⟨t0, t1, t2, t3⟩, _, ft, _⟩ := h.cells
  have f3 := ft 3
  have tl := tlen_leaf o c tb l ab nb bb kb lc kc fv 0 _ (h.visit 0)
  have TL := Lib.hid tl
  have HV := Lib.hid (h.visit 0)
  clear h ft tl t0 t1 t2
  go_enter Tryz.func188, Tryz.ntmps188
  go_wp2_with (go_at_call 120; refine TL.out.mono ?_; rintro e w' ⟨rfl, n, rfl⟩)
  go_ret
  exact ⟨rfl, HV.out.upd (fun _ _ => rfl) (fun _ _ => rfl), ((Only.refl tb w).set 3 _).drewN n⟩

theorem tget_any (o : Nat → Nat) (c tb : Nat) (l : List Bool) (k : Nat) (w : World) (h : IsTree w o c tb l) (hk : k < l.length) :
    Calls Tryz.prog 135 #[.pointer (some ⟨tb, 0, none⟩), .int .i64 k] w fun e w' => e = .returned (.tuple #[.bool (l.getD k false), .int .i64 0]) ∧ ∃ o', Upd o (tr c) w w' o' ∧ IsTree w' o' c tb l := by
  rcases h with ⟨h1, ab, nb, bb, kb, lc, kc, fv, vis, h⟩ | ⟨rfl, _⟩
  · have th := thas_any o c tb l ab nb bb kb lc kc fv vis k w h hk
    have TH := Lib.hid th
    have ot := h.ot
    have HK := Lib.hid hk
    clear th h
    go_enter Tryz.func135, Tryz.ntmps135
    go_wp2_with fail
    refine TH.out.mono ?_
    rintro e w2 ⟨rfl, h, ho⟩
    obtain ⟨⟨t0, t1, t2, t3⟩, hn, ft, fn, nt, bt, bn, tlt, nlt, blt⟩ := h.cells
    have n0 := hn 0 _ rfl
    have n1 := hn 1 _ rfl
    have n2 := hn 2 _ rfl
    have n3 := hn 3 _ rfl
    have n4 := hn 4 _ rfl
    have n5 := hn 5 _ rfl
    have n6 := hn 6 _ rfl
    have n7 := hn 7 _ rfl
    have f3 := ft 3
    have HV := Lib.hid (h.visit 1)
    have HO := Lib.hid ho
    have HT := Lib.hid ot
    clear hn ft fn h ho ot
    go_wp2_with fail
    refine wp_loop_rounds 1 ?_
    rw [rounds_succ]
    go_wp2_with fail
    have hb := (HV.out.upd (w1 := (w2.setCell ⟨tb, 3, none⟩ (.int .i64 1)).alloc (.cells #[.int .i64 (-1), .int .i64 (-1), .int .i64 0, .int .i64 l.length, .int .i64 (onesL l), .int .i64 0, .int .i64 0, .pointer (some ⟨bb, 0, none⟩)] 200)) (o1 := ext o w.heap.size c)
      (fun b hb => Below.heap_alloc _ _ _ hb) (fun b hb => ext_old (by rw [World.size_setCell, HO.out.size] at hb; exact hb)))
    have HB := Lib.hid hb
    clear hb
    refine (bget_is bb l k _ HB.out.b HK.out).mono ?_
    rintro e w' ⟨rfl, rfl⟩
    go_wp2_with fail
    go_ret2
    exact ⟨by simp [HK.out], _, ((((Upd.start o _ w c).only HO.out (.inr (.inl HT.out))).set _ (.inr (.inl HT.out))).alloc _), .inl ⟨h1, _, _, _, _, _, _, _, _, HB.out⟩⟩
  · simp at hk
end Go.Proofs.YtnadgcgnediakaaGreatDoor
namespace Go.Proofs.YtnadgcgnediakaaGreatDoor
open Go.ChangeShapes Go.WideShapes Go.ChangeAt Go.RowKit Go.Deep

theorem lo_all (s : BitVec 64) (k : Nat) (h : 64 ≤ k) : lo s k = s := by
  apply BitVec.eq_of_getLsbD_eq
  intro i hi
  rw [lo_bit, decide_eq_true (by omega), Bool.true_and]
theorem rankL_le (l : List Bool) (k : Nat) (h : l.length ≤ k) : rankL l k = onesL l := by
  unfold onesL rankL
  rw [show k = l.length + (k - l.length) from by omega, Wd.cnt_add]
  rw [Wd.cnt_zero _ (k - l.length) (fun i hi => by simp)]
  rfl
theorem ones_two {w : World} {g : Nat} {l : List Bool} {w0 w1 : BitVec 64} (h : IsBlock w g l w0 w1) : pop w0 + pop w1 = onesL l := by
  have := rank_two h 128 (Nat.le_refl _)
  rw [lo_all _ _ (by omega), lo_all _ _ (by omega), rankL_le _ _ h.len] at this
  exact this
theorem onesL_le (l : List Bool) : onesL l ≤ l.length := Wd.cnt_le _ _

theorem bones_is (g : Nat) (l : List Bool) (w : World) (h : IsBlk w g l) :
    Calls Tryz.prog 238 #[.pointer (some ⟨g, 0, none⟩)] w fun e w' => e = .returned (.int .i64 (onesL l)) ∧ w = w' := by
  obtain ⟨w0, w1, hb, _⟩ := h.cells
  have := bones_any g l w0 w1 w hb
  rwa [ones_two hb] at this
theorem blen_is (g : Nat) (l : List Bool) (w : World) (h : IsBlk w g l) :
    Calls Tryz.prog 231 #[.pointer (some ⟨g, 0, none⟩)] w fun e w' => e = .returned (.int .i64 l.length) ∧ w = w' := by
  obtain ⟨w0, w1, hb, _⟩ := h.cells
  exact blen_any g l w0 w1 w hb

set_option maxHeartbeats 8000000 in
theorem fix_any (tb nb bb lc : Nat) (l : List Bool) (v3 v4 : Value) (w : World) (h1 : w.cell? ⟨tb, 1, none⟩ = some (.slice (some ⟨nb, 0, none⟩) 1 lc))
    (h3 : w.cell? ⟨nb, 3, none⟩ = some v3) (h4 : w.cell? ⟨nb, 4, none⟩ = some v4) (h7 : w.cell? ⟨nb, 7, none⟩ = some (.pointer (some ⟨bb, 0, none⟩)))
    (f : ∀ j, w.frozen? ⟨nb, j, none⟩ = false) (hb : IsBlk w bb l) (hne : bb ≠ nb) :
    Calls Tryz.prog 227 #[.pointer (some ⟨tb, 0, none⟩), .int .i64 0] w fun e w' => e = .returned (.tuple #[]) ∧ w' = ((w.setCell ⟨nb, 3, none⟩ (.int .i64 l.length)).setCell ⟨nb, 4, none⟩ (.int .i64 (onesL l))).drew := by
  have f3 := f 3
  have f4 := f 4
  have hb1 : ∀ x, IsBlk (w.setCell ⟨nb, 3, none⟩ x).drew bb l := fun x => hb.same (Below.heap_setCell _ _ _ _ hne)
  have HB := Lib.hid hb
  have HB1 := Lib.hid hb1
  clear hb f hb1
  go_enter Tryz.func227, Tryz.ntmps227
  go_wp2_with fail
  go_region_with (first | (go_at_call 231; refine (blen_is bb l w.drew HB.out).mono ?_; rintro e w' ⟨rfl, rfl⟩) | (go_at_call 238; refine (bones_is bb l w.drew HB.out).mono ?_; rintro e w' ⟨rfl, rfl⟩))
  all_goals go_wp2_with fail
  all_goals (first | go_end0 | refine bodyPost_ret (results_none rfl _ _ _) rfl ?_)
  all_goals exact ⟨rfl, rfl⟩
end Go.Proofs.YtnadgcgnediakaaGreatDoor
namespace Go.Proofs.YtnadgcgnediakaaGreatDoor
open Go.ChangeShapes Go.WideShapes Go.ChangeAt Go.RowKit Go.Deep

/-- how many of the first are like b -/
def likeL (l : List Bool) (k : Nat) (b : Bool) : Nat := if b then rankL l k else k - rankL l k
theorem rankL_k (l : List Bool) (k : Nat) : rankL l k ≤ k := Wd.cnt_le _ _
theorem Below.only_new {w w1 : World} {o : Nat → Nat} {c : Nat → Prop} {o1 : Nat → Nat} {w0 : World} (u : Upd o c w0 w o1) (h : Below w.heap.size w w1) : Upd o c w0 w1 o1 := u.belowN (h.mono u.size)
theorem brank_is (g : Nat) (l : List Bool) (k : Nat) (w : World) (h : IsBlk w g l) (hk : k ≤ l.length) :
    Calls Tryz.prog 214 #[.pointer (some ⟨g, 0, none⟩), .int .i64 k] w fun e w' => e = .returned (.int .i64 (rankL l k)) ∧ Below w.heap.size w w' := by
  obtain ⟨w0, w1, hb, _⟩ := h.cells
  exact brank_any g l w0 w1 k w hb hk

theorem Never.visit {w : World} {o : Nat → Nat} {c tb ab : Nat} {vis : Int} (h : Never w o c tb ab vis) (v : Int) : Never (w.setCell ⟨tb, 3, none⟩ (.int .i64 v)) o c tb ab v := by
  have at' : ab ≠ tb := by
    rintro rfl
    have h1 := h.a
    unfold ArenaIs at h1
    rw [h.t] at h1
    simp at h1
  exact ⟨Joins.block_setCell h.t _, (Below.heap_setCell _ _ _ _ at').trans h.a, h.ot, h.oa⟩
theorem Gone.visit {w : World} {o : Nat → Nat} {c tb ab nb kb fb lc kc fc : Nat} {x : List Value} {vis : Int} (h : Gone w o c tb ab nb kb fb lc kc fc x vis) (v : Int) : Gone (w.setCell ⟨tb, 3, none⟩ (.int .i64 v)) o c tb ab nb kb fb lc kc fc x v := by
  have at' : ab ≠ tb := by
    rintro rfl
    have h1 := h.a
    unfold ArenaIs at h1
    rw [h.t] at h1
    simp at h1
  exact ⟨Joins.block_setCell h.t _, (Below.heap_setCell _ _ _ _ at').trans h.a, ⟨owns_other h.n.1 (owns_ne h.n.1 h.t (by decide)) _, h.n.2⟩, ⟨owns_other h.k.1 (owns_ne h.k.1 h.t (by decide)) _, h.k.2⟩, ⟨owns_other h.f.1 (owns_ne h.f.1 h.t (by decide)) _, h.f.2⟩, h.ot, h.oa⟩

theorem IsBlk.len {w : World} {g : Nat} {l : List Bool} (h : IsBlk w g l) : l.length ≤ 128 := by
  obtain ⟨_, _, _, h, _⟩ := h
  exact h
theorem trank_zero (tb len : Nat) (vis : Int) (b : Bool) (w : World) (h3 : w.cell? ⟨tb, 3, none⟩ = some (.int .i64 vis)) (f3 : w.frozen? ⟨tb, 3, none⟩ = false)
    (tl : Calls Tryz.prog 120 #[.pointer (some ⟨tb, 0, none⟩)] (w.setCell ⟨tb, 3, none⟩ (.int .i64 0)) fun e w' => e = .returned (.int .i64 len) ∧ ∃ n, w' = (w.setCell ⟨tb, 3, none⟩ (.int .i64 0)).drewN n) :
    Calls Tryz.prog 191 #[.pointer (some ⟨tb, 0, none⟩), .int .i64 0, .bool b] w fun e w' => e = .returned (.int .i64 0) ∧ ∃ n, w' = (w.setCell ⟨tb, 3, none⟩ (.int .i64 0)).drewN n := by
  have TL := Lib.hid tl
  have m2 : min (0 : Int) len = 0 := by omega
  clear tl
  go_enter Tryz.func191, Tryz.ntmps191
  go_wp2_with (go_at_call 120; refine TL.out.mono ?_; rintro e w' ⟨rfl, n, rfl⟩)
  go_ret
  exact ⟨rfl, _, rfl⟩

theorem trank_leaf (o : Nat → Nat) (c tb : Nat) (l : List Bool) (ab nb bb kb lc kc : Nat) (fv : Value) (vis : Int) (k : Nat) (b : Bool) (w : World) (h : Leaf w o c tb l ab nb bb kb lc kc fv vis) (hk : k ≤ l.length) (h0 : 0 < k) :
    Calls Tryz.prog 191 #[.pointer (some ⟨tb, 0, none⟩), .int .i64 k, .bool b] w fun e w' => e = .returned (.int .i64 (likeL l k b)) ∧ Upd o (tr c) w w' (ext o w.heap.size c) ∧ Leaf w' (ext o w.heap.size c) c tb l ab nb bb kb lc kc fv 1 := by
  obtain ⟨⟨t0, t1, t2, t3⟩, hn, ft, fn, nt, bt, bn, tlt, nlt, blt⟩ := h.cells
  have f3 := ft 3
  have tl := tlen_leaf o c tb l ab nb bb kb lc kc fv 0 _ (h.visit 0)
  have TL := Lib.hid tl
  have ot := h.ot
  have HT := Lib.hid ot
  have HV := Lib.hid (h.visit 0)
  have m1 : max (k : Int) 0 = k := by omega
  have m2 : min (k : Int) l.length = k := by omega
  have m3 : ((k : Int) == 0) = false := by simp; omega
  have hl := h.b.len
  clear h tl ot hn ft fn
  go_enter Tryz.func191, Tryz.ntmps191
  go_wp2_with fail
  refine TL.out.mono ?_
  rintro e w2 ⟨rfl, n, hw⟩
  have h : Leaf w2 o c tb l ab nb bb kb lc kc fv 0 := by rw [hw]; exact HV.out.upd (fun _ _ => rfl) (fun _ _ => rfl)
  have ho : Only tb w w2 := by rw [hw]; exact ((Only.refl tb w).set 3 _).drewN n
  clear hw t0 t1 t2 t3 f3 nt bt bn tlt nlt blt TL HV
  obtain ⟨⟨t0, t1, t2, t3⟩, hn, ft, fn, nt, bt, bn, tlt, nlt, blt⟩ := h.cells
  have n0 := hn 0 _ rfl
  have n1 := hn 1 _ rfl
  have n2 := hn 2 _ rfl
  have n3 := hn 3 _ rfl
  have n4 := hn 4 _ rfl
  have n5 := hn 5 _ rfl
  have n6 := hn 6 _ rfl
  have n7 := hn 7 _ rfl
  have f3 := ft 3
  have HV := Lib.hid (h.visit 1)
  have HO := Lib.hid ho
  clear hn ft fn h ho
  go_wp2_with fail
  refine wp_loop_rounds 1 ?_
  rw [rounds_succ]
  go_wp2_with fail
  have hb := (HV.out.upd (w1 := (w2.setCell ⟨tb, 3, none⟩ (.int .i64 1)).alloc (.cells #[.int .i64 (-1), .int .i64 (-1), .int .i64 0, .int .i64 l.length, .int .i64 (onesL l), .int .i64 0, .int .i64 0, .pointer (some ⟨bb, 0, none⟩)] 200)) (o1 := ext o w.heap.size c)
    (fun b hb => Below.heap_alloc _ _ _ hb) (fun b hb => ext_old (by rw [World.size_setCell, HO.out.size] at hb; exact hb)))
  have HB := Lib.hid hb
  clear hb
  refine (brank_is bb l k _ HB.out.b hk).mono ?_
  rintro e w3 ⟨rfl, hb3⟩
  have H3 := Lib.hid hb3
  clear hb3
  have hr := rankL_k l k
  go_wp2_with fail
  refine (like_any (k : Int) (rankL l k : Nat) b _ (by omega)).mono ?_
  rintro e w' ⟨rfl, rfl⟩
  have hi : (0 : Int) ≤ (if b = true then ((rankL l k : Nat) : Int) else (k : Int) - (rankL l k : Nat)) ∧ (if b = true then ((rankL l k : Nat) : Int) else (k : Int) - (rankL l k : Nat)) < 1000 := by
    split <;> omega
  have he : ((likeL l k b : Nat) : Int) = (if b = true then ((rankL l k : Nat) : Int) else (k : Int) - (rankL l k : Nat)) := by
    unfold likeL
    split <;> omega
  rw [← he] at hi ⊢
  have HE := Lib.hid he
  clear he
  go_wp2_with fail
  go_ret
  exact ⟨rfl, Below.only_new ((((Upd.start o _ w c).only HO.out (.inr (.inl HT.out))).set _ (.inr (.inl HT.out))).alloc _) H3.out, HB.out.upd (fun b hb => H3.out.block b hb) (fun b hb => rfl)⟩

theorem trank_any (o : Nat → Nat) (c tb : Nat) (l : List Bool) (k : Nat) (b : Bool) (w : World) (h : IsTree w o c tb l) (hk : k ≤ l.length) :
    Calls Tryz.prog 191 #[.pointer (some ⟨tb, 0, none⟩), .int .i64 k, .bool b] w fun e w' => e = .returned (.int .i64 (likeL l k b)) ∧ ∃ o', Upd o (tr c) w w' o' ∧ IsTree w' o' c tb l := by
  have zero : ∀ (len : Nat) (vis : Int) (_ : w.cell? ⟨tb, 3, none⟩ = some (.int .i64 vis)) (_ : w.frozen? ⟨tb, 3, none⟩ = false)
      (_ : Calls Tryz.prog 120 #[.pointer (some ⟨tb, 0, none⟩)] (w.setCell ⟨tb, 3, none⟩ (.int .i64 0)) fun e w' => e = .returned (.int .i64 len) ∧ ∃ n, w' = (w.setCell ⟨tb, 3, none⟩ (.int .i64 0)).drewN n)
      (_ : ∀ n, IsTree ((w.setCell ⟨tb, 3, none⟩ (.int .i64 0)).drewN n) o c tb l),
      Calls Tryz.prog 191 #[.pointer (some ⟨tb, 0, none⟩), .int .i64 (0 : Nat), .bool b] w fun e w' => e = .returned (.int .i64 (likeL l 0 b)) ∧ ∃ o', Upd o (tr c) w w' o' ∧ IsTree w' o' c tb l := by
    intro len vis h3 f3 tl ht
    refine (trank_zero tb len vis b w h3 f3 tl).mono ?_
    rintro e w' ⟨rfl, n, rfl⟩
    refine ⟨?_, o, ((Upd.refl o _ w).set _ (.inr (.inl h.ot))).drewN n, ht n⟩
    have : likeL l 0 b = 0 := by unfold likeL rankL; cases b <;> rfl
    rw [this]; rfl
  rcases h with ⟨h1, ab, nb, bb, kb, lc, kc, fv, vis, h⟩ | ⟨rfl, ⟨ab, vis, h⟩ | ⟨ab, nb, kb, fb, lc, kc, fc, x, vis, h⟩⟩
  · by_cases h0 : k = 0
    · subst h0
      obtain ⟨⟨t0, t1, t2, t3⟩, _, ft, _⟩ := h.cells
      exact zero l.length vis t3 (ft 3) (tlen_leaf _ _ _ _ _ _ _ _ _ _ _ _ _ (h.visit 0)) fun n => .inl ⟨h1, _, _, _, _, _, _, _, _, (h.visit 0).upd (fun _ _ => rfl) (fun _ _ => rfl)⟩
    · refine (trank_leaf o c tb l ab nb bb kb lc kc fv vis k b w h hk (by omega)).mono ?_
      rintro e w' ⟨rfl, hu, hl⟩
      exact ⟨rfl, _, hu, .inl ⟨h1, _, _, _, _, _, _, _, _, hl⟩⟩
  · obtain rfl : k = 0 := by simpa using hk
    exact zero 0 vis (by rw [Joins.cell_of_block h.t]; rfl) (Joins.unfrozen_of_block h.t 3) (tlen_none _ _ (by rw [Joins.cell_of_block (h.visit 0).t]; rfl)) fun n => .inr ⟨rfl, .inl ⟨_, _, (h.visit 0).keep ((Upd.refl o (fun _ => False) _).drewN n) (by simp) (by simp)⟩⟩
  · obtain rfl : k = 0 := by simpa using hk
    exact zero 0 vis (by rw [Joins.cell_of_block h.t]; rfl) (Joins.unfrozen_of_block h.t 3) (tlen_none _ _ (by rw [Joins.cell_of_block (h.visit 0).t]; rfl)) fun n => .inr ⟨rfl, .inr ⟨_, _, _, _, _, _, _, _, _, (h.visit 0).keep ((Upd.refl o (fun _ => False) _).drewN n) (by simp) (by simp)⟩⟩
end Go.Proofs.YtnadgcgnediakaaGreatDoor
