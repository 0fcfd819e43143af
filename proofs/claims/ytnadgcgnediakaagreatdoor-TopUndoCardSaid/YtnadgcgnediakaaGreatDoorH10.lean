/- The walks of tree.node and tree.leaf: the first leaf; a leaf again. The walk of tree.node where a leaf was given back. The walks of block.New at one bit, tree.leaf. The walk of tree.Insert. The walk of tree.Delete. The walk of tree.New: of no bit, of one bit. -/
import Derived.Test.YtnadgcgnediakaaGreatDoorH09
import Derived.Deep.AppendLies
import Derived.Deep.RegionLaw
namespace Go.Proofs.YtnadgcgnediakaaGreatDoor
open Go.ChangeShapes Go.WideShapes Go.ChangeAt Go.RowKit Go.Deep

theorem info200 : (Tryz.prog.info? 200).map (fun i => (i.zero, i.size, i.bytes)) = some (some (.agg #[.int .i64 0, .int .i64 0, .int .i64 0, .int .i64 0, .int .i64 0, .int .i64 0, .int .i64 0, .pointer none]), 8, 64) := by kernel_rfl
def node0 (bb : Nat) : Array Value := #[.int .i64 (-1), .int .i64 (-1), .int .i64 0, .int .i64 0, .int .i64 0, .int .i64 0, .int .i64 0, .pointer (some ⟨bb, 0, none⟩)]
theorem node0_one (bb : Nat) : ∀ u ∈ (node0 bb).toList, u.oneCell' = true := by
  intro u hu
  simp [node0] at hu
  rcases hu with rfl | rfl | rfl <;> rfl
theorem ext_ext (o : Nat → Nat) (n m c d : Nat) : ∀ b, n ≤ b → b < m → ext (ext o n d) m c b = d := by
  intro b h1 h2
  rw [ext_old h2, ext_new h1]
theorem node_set (l : List Bool) (bb : Nat) : ((node0 bb).toList.set 3 (.int .i64 l.length)).set 4 (.int .i64 (onesL l)) = nodeOf l bb := rfl

theorem grown_heap {W w2 w3 : World} {row : Option Nat} (hg : W.grownBy w3 row) (hW : ∀ b, b < w2.heap.size → W.heap[b]? = w2.heap[b]?) (hs : w2.heap.size ≤ W.heap.size) {b : Nat} {x : Obj} (h : w2.heap[b]? = some x) (hne : some b ≠ row) : w3.heap[b]? = some x :=
  (hg.block b (Nat.lt_of_lt_of_le (lt_of_block h) hs) hne).trans ((hW b (lt_of_block h)).trans h)
theorem Upd.grown2 {o o1 : Nat → Nat} {c : Nat → Prop} {w w2 W w3 : World} (h : Upd o c w w2 o1) {row : Option Nat} (hg : W.grownBy w3 row) (hB : Below w2.heap.size w2 W) (hr : ∀ k, row = some k → w.heap.size ≤ k ∨ c (o k)) : Upd o c w w3 o1 :=
  (h.belowN (hB.mono h.size)).grown hg hr

/-- a leaf whose root is not told yet -/
structure Fixed (w : World) (o : Nat → Nat) (c tb : Nat) (l : List Bool) (ab nb bb lc : Nat) (tv fv : Value) (vis : Int) : Prop where
  t : w.heap[tb]? = some (.cells #[.pointer (some ⟨ab, 0, none⟩), .slice (some ⟨nb, 0, none⟩) 1 lc, .int .i64 (-1), .int .i64 vis] 197 (0, 0))
  a : ArenaIs w ab tv fv
  n : Owned w o c 200 8 (.slice (some ⟨nb, 0, none⟩) 1 lc) 1 (nodeOf l bb)
  k : Owned w o (c + 1) 4 1 tv 1 [.bool true]
  f : Owned w o (c + 1) 3 1 fv 0 []
  b : IsBlk w bb l
  ot : o tb = c
  oa : o ab = c + 1
  ob : o bb = c
theorem Fixed.root {w : World} {o : Nat → Nat} {c tb : Nat} {l : List Bool} {ab nb bb lc : Nat} {tv fv : Value} {vis : Int} (h : Fixed w o c tb l ab nb bb lc tv fv vis) :
    ∃ kb kc, Leaf (w.setCell ⟨tb, 2, none⟩ (.int .i64 0)) o c tb l ab nb bb kb lc kc fv vis := by
  have at' : ab ≠ tb := by
    rintro rfl
    have h1 := h.a
    unfold ArenaIs at h1
    rw [h.t] at h1
    simp at h1
  have bt : bb ≠ tb := by
    obtain ⟨_, _, hb, _⟩ := h.b
    rintro rfl
    rw [h.t] at hb
    simp at hb
  obtain ⟨kb, kc, hv, _, _⟩ := own_form h.k.1 (by omega)
  have ha := h.a
  have hk := h.k
  rw [hv] at ha hk
  exact ⟨kb, kc, Joins.block_setCell h.t _, (Below.heap_setCell _ _ _ _ at').trans ha, ⟨owns_other h.n.1 (owns_ne h.n.1 h.t (by decide)) _, h.n.2⟩, ⟨owns_other hk.1 (owns_ne hk.1 h.t (by decide)) _, hk.2⟩,
    ⟨owns_other h.f.1 (owns_ne h.f.1 h.t (by decide)) _, h.f.2⟩, h.b.same (Below.heap_setCell _ _ _ _ bt), h.ot, h.oa, h.ob⟩
/-- what a new node leaves -/
structure Fresh (w2 w4 : World) (o2 : Nat → Nat) (c tb ab bb g cap : Nat) (l : List Bool) (tv fv : Value) (vis : Int) : Prop where
  t : w4.heap[tb]? = some (.cells #[.pointer (some ⟨ab, 0, none⟩), .slice (some ⟨g, 0, none⟩) 1 cap, .int .i64 (-1), .int .i64 vis] 197 (0, 0))
  a : ArenaIs w4 ab tv fv
  n : w4.ownsRow 0 200 8 (.slice (some ⟨g, 0, none⟩) 1 cap) 1 (node0 bb).toList
  k : Owned w4 (ext o2 w2.heap.size c) (c + 1) 4 1 tv 1 [.bool true]
  f : Owned w4 (ext o2 w2.heap.size c) (c + 1) 3 1 fv 0 []
  b : IsBlk w4 bb l
  ot : ext o2 w2.heap.size c tb = c
  oa : ext o2 w2.heap.size c ab = c + 1
  ob : ext o2 w2.heap.size c bb = c
  og : ext o2 w2.heap.size c g = c

theorem Fresh.cells {w2 w4 : World} {o2 : Nat → Nat} {c tb ab bb g cap : Nat} {l : List Bool} {tv fv : Value} {vis : Int} (h : Fresh w2 w4 o2 c tb ab bb g cap l tv fv vis) :
    w4.cell? ⟨tb, 1, none⟩ = some (.slice (some ⟨g, 0, none⟩) 1 cap) ∧ w4.cell? ⟨g, 3, none⟩ = some (.int .i64 0) ∧ w4.cell? ⟨g, 4, none⟩ = some (.int .i64 0) ∧ w4.cell? ⟨g, 7, none⟩ = some (.pointer (some ⟨bb, 0, none⟩)) ∧
    (∀ j, w4.frozen? ⟨g, j, none⟩ = false) ∧ bb ≠ g ∧ g ≠ tb := by
  refine ⟨by rw [Joins.cell_of_block h.t]; rfl, owns_cell h.n 3 _ rfl, owns_cell h.n 4 _ rfl, owns_cell h.n 7 _ rfl, owns_free h.n, ?_, ?_⟩
  · obtain ⟨_, _, hb, _⟩ := h.b
    have := owns_ne h.n hb (by decide)
    intro e
    exact this (by rw [e]; rfl)
  · have := owns_ne h.n h.t (by decide); simpa [Value.ownBlock] using this

theorem fresh_of {w2 w3 : World} {o2 : Nat → Nat} {c tb ab bb g cap : Nat} {l : List Bool} {tv fv : Value} {vis : Int} (v1 : Value)
    (t2 : w2.heap[tb]? = some (.cells #[.pointer (some ⟨ab, 0, none⟩), v1, .int .i64 (-1), .int .i64 vis] 197 (0, 0))) (a2 : ArenaIs w2 ab tv fv) (k2 : Owned w2 o2 (c + 1) 4 1 tv 1 [.bool true]) (f2 : Owned w2 o2 (c + 1) 3 1 fv 0 [])
    (b2 : IsBlk w2 bb l) (ot : o2 tb = c) (oa : o2 ab = c + 1) (ob : o2 bb = c)
    (hs : ∀ (b : Nat) (x : Obj), w2.heap[b]? = some x → w3.heap[b]? = some x) (hown : w3.ownsRow 0 200 8 (.slice (some ⟨g, 0, none⟩) 1 cap) 1 (node0 bb).toList) (hg : w2.heap.size ≤ g) :
    Fresh w2 (w3.setCell ⟨tb, 1, none⟩ (.slice (some ⟨g, 0, none⟩) 1 cap)) o2 c tb ab bb g cap l tv fv vis := by
  have hsame : ∀ b, b < w2.heap.size → w3.heap[b]? = w2.heap[b]? := fun b hb => by
    rw [Array.getElem?_eq_getElem hb]; exact hs b _ (Array.getElem?_eq_getElem hb)
  have at' : ab ≠ tb := by
    rintro rfl
    unfold ArenaIs at a2
    rw [t2] at a2
    simp at a2
  have bt : bb ≠ tb := by
    obtain ⟨_, _, hb, _⟩ := b2
    rintro rfl
    rw [t2] at hb
    simp at hb
  have tlt := lt_of_block t2
  have k3 : w3.ownsRow 0 4 1 tv 1 [.bool true] := owns_same k2.1 fun k hk => hsame k (ownBlock_lt k2.1 hk)
  have f3 : w3.ownsRow 0 3 1 fv 0 [] := owns_same f2.1 fun k hk => hsame k (ownBlock_lt f2.1 hk)
  refine ⟨Joins.block_setCell (hs _ _ t2) _, (Below.heap_setCell _ _ _ _ at').trans (hs _ _ a2), owns_other hown (by simp [Value.ownBlock]; omega) _,
    ⟨owns_other k3 (owns_ne k2.1 t2 (by decide)) _, fun k hk => (ext_old (ownBlock_lt k2.1 hk)).trans (k2.2 k hk)⟩,
    ⟨owns_other f3 (owns_ne f2.1 t2 (by decide)) _, fun k hk => (ext_old (ownBlock_lt f2.1 hk)).trans (f2.2 k hk)⟩,
    b2.same ((Below.heap_setCell _ _ _ _ bt).trans (hsame bb b2.lt)), (ext_old tlt).trans ot, (ext_old (lt_of_block a2)).trans oa, (ext_old b2.lt).trans ob, ext_new hg⟩

/-- .. and behind fix and the root's store -/
theorem Fresh.leaf {w2 w4 : World} {o2 : Nat → Nat} {c tb ab bb g cap : Nat} {l : List Bool} {tv fv : Value} {vis : Int} (h : Fresh w2 w4 o2 c tb ab bb g cap l tv fv vis) :
    Fixed ((w4.setCell ⟨g, 3, none⟩ (.int .i64 l.length)).setCell ⟨g, 4, none⟩ (.int .i64 (onesL l))).drew (ext o2 w2.heap.size c) c tb l ab g bb cap tv fv vis := by
  have hg := h.cells.2.2.2.2.2
  have n4 := owns_set (owns_set h.n 3 (.int .i64 l.length)) 4 (.int .i64 (onesL l))
  rw [node_set] at n4
  have ab' : ∀ (x : Nat) (cs : Array Value) (t : TypeId), w4.heap[x]? = some (Obj.cells cs t (0, 0)) → t ≠ 200 → ∀ j v j2 v2, ((w4.setCell ⟨g, j, none⟩ v).setCell ⟨g, j2, none⟩ v2).heap[x]? = some (Obj.cells cs t (0, 0)) := by
    intro x cs t hx ht j v j2 v2
    have hne : x ≠ g := by
      have := owns_ne h.n hx (fun e => ht e.symm)
      intro e
      exact this (by rw [e]; rfl)
    rw [Below.heap_setCell _ _ _ _ hne, Below.heap_setCell _ _ _ _ hne, hx]
  have row : ∀ (v : Value) (n : Nat) (xs : List Value) (e : TypeId), w4.ownsRow 0 e 1 v n xs → e ≠ 200 → ∀ j u j2 u2, ((w4.setCell ⟨g, j, none⟩ u).setCell ⟨g, j2, none⟩ u2).ownsRow 0 e 1 v n xs := by
    intro v n xs e hv he j u j2 u2
    refine owns_same hv fun k hk => ?_
    rcases hv.2 with ⟨rfl, _⟩ | ⟨q, cp, cur, rfl, _, hc, _⟩
    · simp [Value.ownBlock] at hk
    · simp [Value.ownBlock] at hk
      subst hk
      rw [hc]
      exact ab' _ _ _ hc he _ _ _ _
  exact ⟨ab' _ _ _ h.t (by decide) _ _ _ _, ab' _ _ _ h.a (by decide) _ _ _ _, ⟨n4, fun k hk => by
    simp [Value.ownBlock] at hk
    subst hk
    exact h.og⟩, ⟨row _ _ _ _ h.k.1 (by decide) _ _ _ _, h.k.2⟩, ⟨row _ _ _ _ h.f.1 (by decide) _ _ _ _, h.f.2⟩, h.b.same (by
      show ((w4.setCell _ _).setCell _ _).heap[bb]? = _
      rw [Below.heap_setCell _ _ _ _ hg.1, Below.heap_setCell _ _ _ _ hg.1]), h.ot, h.oa, h.ob⟩

theorem Upd.reown {o o1 o2 : Nat → Nat} {c : Nat → Prop} {w w1 : World} (h : Upd o c w w1 o1) (ho : ∀ b, b < w.heap.size → o2 b = o b) : Upd o c w w1 o2 := ⟨h.os, h.tape, h.output, h.size, ho, h.same⟩
theorem node_first (o : Nat → Nat) (c tb ab bb : Nat) (vis : Int) (l : List Bool) (w : World) (h : Never w o c tb ab vis) (hb : IsBlk w bb l) (ob : o bb = c) (hc : c ≠ 0) :
    Calls Tryz.prog 230 #[.pointer (some ⟨tb, 0, none⟩), .agg (node0 bb)] w fun e w' => e = .returned (.int .i64 0) ∧ ∃ o', Upd o (tr c) w w' o' ∧
      ∃ nb lc tv, Fixed w' o' c tb l ab nb bb lc tv (.slice none 0 0) vis := by
  have tlt : tb < w.heap.size := lt_of_block h.t
  have u1 : Upd o (tr c) w (w.alloc (.cells (node0 bb) 200)) (ext o w.heap.size 0) := (Upd.start o _ w 0).alloc _
  have v1 : Upd o (fun _ => False) w (w.alloc (.cells (node0 bb) 200)) (ext o w.heap.size 0) := (Upd.start o (fun _ => False) w 0).alloc _
  have h1 : Never (w.alloc (.cells (node0 bb) 200)) (ext o w.heap.size 0) c tb ab vis := h.keep v1 (by simp) (by simp)
  have b1 : IsBlk (w.alloc (.cells (node0 bb) 200)) bb l := hb.same (Below.heap_alloc _ _ _ hb.lt)
  have ob1 : ext o w.heap.size 0 bb = c := (ext_old hb.lt).trans ob
  have x1 : (w.alloc (.cells (node0 bb) 200)).heap[w.heap.size]? = some (.cells (node0 bb) 200 (0, 0)) := heap_alloc_new w _
  have tk := take_first (ext o w.heap.size 0) (c + 1) ab (w.alloc (.cells (node0 bb) 200)) h1.a h1.oa
  have t0 : (w.alloc (.cells (node0 bb) 200)).cell? ⟨tb, 0, none⟩ = some (.pointer (some ⟨ab, 0, none⟩)) := by rw [Joins.cell_of_block h1.t]; rfl
  have OT := Lib.hid h.ot
  have U1 := Lib.hid u1
  have H1 := Lib.hid h1
  have X1 := Lib.hid x1
  have TK := Lib.hid tk
  have B1 := Lib.hid b1
  have OB := Lib.hid ob1
  have NE := Lib.hid hc
  have en : Value.agg (node0 bb) = .agg #[.int .i64 (-1), .int .i64 (-1), .int .i64 0, .int .i64 0, .int .i64 0, .int .i64 0, .int .i64 0, .pointer (some ⟨bb, 0, none⟩)] := rfl
  rw [en]
  unfold node0 at t0
  clear h u1 v1 h1 x1 tk hb ob hc en b1 ob1
  obtain ⟨i0, hi, hz0, hz1, hz2⟩ := info_parts info200
  go_enter Tryz.func230, Tryz.ntmps230
  go_wp2_with fail
  refine TK.out.mono ?_
  rintro e w2 ⟨rfl, u2, tv, a2, k2⟩
  generalize ext (ext o w.heap.size 0) (w.alloc (.cells (node0 bb) 200)).heap.size (c + 1) = o2 at u2 k2
  have T2 : w2.heap[tb]? = _ := (u2.heap H1.out.t (by rw [H1.out.ot]; omega)).1
  have X2 : w2.heap[w.heap.size]? = _ := (u2.heap X1.out (by rw [ext_new (Nat.le_refl _)]; omega)).1
  have B2 : IsBlk w2 bb l := B1.out.same (u2.same bb B1.out.lt (by rw [OB.out]; omega))
  have N2 : ∀ W : World, W.heap[w2.heap.size]? = some (.cells (node0 bb) 200 (0, 0)) → ∀ j u, (node0 bb).toList[j]? = some u → W.cell? ((⟨w2.heap.size, 0, none⟩ : Addr).add j) = some u := fun W hW => World.news_of_block hW
  have u3 := U1.out.trans u2 (fun _ hx => .inr hx)
  have o2t := (u2.heap H1.out.t (by rw [H1.out.ot]; omega)).2.trans H1.out.ot
  have o2a := (u2.own ab (lt_of_block H1.out.a)).trans H1.out.oa
  have o2b := (u2.own bb B1.out.lt).trans OB.out
  have t20 : w2.cell? ⟨tb, 0, none⟩ = some (.pointer (some ⟨ab, 0, none⟩)) := by rw [Joins.cell_of_block T2]; rfl
  have t21 : w2.cell? ⟨tb, 1, none⟩ = some (.slice none 0 0) := by rw [Joins.cell_of_block T2]; rfl
  have x0 : w2.cell? ⟨w.heap.size, 0, none⟩ = some (.int .i64 (-1)) := by rw [Joins.cell_of_block X2]; rfl
  have x1 : w2.cell? ⟨w.heap.size, 1, none⟩ = some (.int .i64 (-1)) := by rw [Joins.cell_of_block X2]; rfl
  have x2 : w2.cell? ⟨w.heap.size, 2, none⟩ = some (.int .i64 0) := by rw [Joins.cell_of_block X2]; rfl
  have x3 : w2.cell? ⟨w.heap.size, 3, none⟩ = some (.int .i64 0) := by rw [Joins.cell_of_block X2]; rfl
  have x4 : w2.cell? ⟨w.heap.size, 4, none⟩ = some (.int .i64 0) := by rw [Joins.cell_of_block X2]; rfl
  have x5 : w2.cell? ⟨w.heap.size, 5, none⟩ = some (.int .i64 0) := by rw [Joins.cell_of_block X2]; rfl
  have x6 : w2.cell? ⟨w.heap.size, 6, none⟩ = some (.int .i64 0) := by rw [Joins.cell_of_block X2]; rfl
  have x7 : w2.cell? ⟨w.heap.size, 7, none⟩ = some (.pointer (some ⟨bb, 0, none⟩)) := by rw [Joins.cell_of_block X2]; rfl
  have tlt2 : tb < w2.heap.size := lt_of_block T2
  have xlt2 : w.heap.size < w2.heap.size := lt_of_block X2
  have A2 := Lib.hid a2
  have K2 := Lib.hid k2
  have U3 := Lib.hid u3
  have HN := Lib.hid N2
  have HT2 := Lib.hid T2
  have HB2 := Lib.hid B2
  have O2T := Lib.hid o2t
  have O2A := Lib.hid o2a
  have O2B := Lib.hid o2b
  clear a2 k2 u2 u3 N2 T2 X2 B2 t0 o2t o2a o2b tlt
  go_wp2_with fail
  go_region_law (refine step_append_lies _ rfl (.tmp 26) (.tmp 28) 195 rfl 0 200 i0 _ 8 64 Tryz.underlying195 hi hz0 hz1 hz2 rfl (by decide) (.slice none 0 0) 0 [] (by simp [Act.eval]) (World.ownsRow_nil _ _ _ _) ⟨w2.heap.size, 0, none⟩ 1 1 (node0 bb).toList (by simp [Act.eval]) rfl (HN.out _ (heap_alloc_new w2 _)) (node0_one bb) (by decide) (by decide) (by decide) (Nat.zero_le _) _ rfl ?_; intro g cap w3 hown hgrow hat hlt; have T3 := grown_heap (w2 := w2) hgrow (fun b hb => Below.heap_alloc w2 _ b hb) (by simp) HT2.out (by simp [Value.ownBlock]); have t31 : w3.cell? ⟨tb, 1, none⟩ = some (.slice none 0 0) := (by rw [Joins.cell_of_block T3]; rfl); have f31 := Joins.unfrozen_of_block T3 1; have HOW := Lib.hid hown; have HG := Lib.hid hgrow; have HAT := Lib.hid hat; have HT3 := Lib.hid T3; clear hown hgrow hat T3)
  all_goals
    have hg2 : w2.heap.size ≤ g := by
      rcases HAT.out with x | x
      · simp [Value.ownBlock] at x
      · rw [x]; simp
    have FR := fresh_of (c := c) (g := g) (cap := cap) (w3 := w3) _ HT2.out A2.out K2.out ⟨World.ownsRow_nil _ _ _ _, fun k hk => by simp [Value.ownBlock] at hk⟩ HB2.out O2T.out O2A.out O2B.out (fun b x hx => grown_heap (w2 := w2) HG.out (fun b hb => Below.heap_alloc w2 _ b hb) (by simp) hx (by simp [Value.ownBlock])) HOW.out hg2
    have U5 : Upd o (tr c) w (w3.setCell ⟨tb, 1, none⟩ (.slice (some ⟨g, 0, none⟩) 1 cap)) (ext o2 w2.heap.size c) := ((U3.out.grown2 HG.out (Joins.below_alloc1 w2 _).drew (by simp [Value.ownBlock])).set _ (.inr (.inl OT.out))).reown (fun b hb => (ext_old (Nat.lt_of_lt_of_le hb U3.out.size)).trans (U3.out.own b hb))
    have HFR := Lib.hid FR
    have HU5 := Lib.hid U5
    obtain ⟨y1, y2, y3, y4, y5, y6, y7⟩ := FR.cells
    have fx := fix_any tb g bb cap l _ _ _ y1 y2 y3 y4 y5 FR.b y6
    have FX := Lib.hid fx
    clear FR U5 y1 y2 y3 y4 y5 fx HOW HG HAT HT3
    go_wp2_with (go_at_call 227; refine FX.out.mono ?_; rintro e w' ⟨rfl, rfl⟩)
    go_ret
    exact ⟨rfl, ext o2 w2.heap.size c, ((HU5.out.set _ (.inl (Nat.le_trans U3.out.size hg2))).set _ (.inl (Nat.le_trans U3.out.size hg2))).drew, _, _, _, HFR.out.leaf⟩
end Go.Proofs.YtnadgcgnediakaaGreatDoor
namespace Go.Proofs.YtnadgcgnediakaaGreatDoor
open Go.ChangeShapes Go.WideShapes Go.ChangeAt Go.RowKit Go.Deep

theorem eight {α : Type} (x : List α) (h : x.length = 8) (a b c d e f g k : α) : (((((((x.set 0 a).set 1 b).set 2 c).set 3 d).set 4 e).set 5 f).set 6 g).set 7 k = [a, b, c, d, e, f, g, k] :=
  match x, h with
  | [_, _, _, _, _, _, _, _], _ => rfl
theorem set_eight (w2 : World) (nb bb lc : Nat) (x : List Value) (h : w2.ownsRow 0 200 8 (.slice (some ⟨nb, 0, none⟩) 1 lc) 1 x) :
    Only nb w2 ((((((((w2.setCell ⟨nb, 0, none⟩ (.int .i64 (-1))).setCell ⟨nb, 1, none⟩ (.int .i64 (-1))).setCell ⟨nb, 2, none⟩ (.int .i64 0)).setCell ⟨nb, 3, none⟩ (.int .i64 0)).setCell ⟨nb, 4, none⟩ (.int .i64 0)).setCell ⟨nb, 5, none⟩ (.int .i64 0)).setCell ⟨nb, 6, none⟩ (.int .i64 0)).setCell ⟨nb, 7, none⟩ (.pointer (some ⟨bb, 0, none⟩))).drew ∧ (((((((((w2.setCell ⟨nb, 0, none⟩ (.int .i64 (-1))).setCell ⟨nb, 1, none⟩ (.int .i64 (-1))).setCell ⟨nb, 2, none⟩ (.int .i64 0)).setCell ⟨nb, 3, none⟩ (.int .i64 0)).setCell ⟨nb, 4, none⟩ (.int .i64 0)).setCell ⟨nb, 5, none⟩ (.int .i64 0)).setCell ⟨nb, 6, none⟩ (.int .i64 0)).setCell ⟨nb, 7, none⟩ (.pointer (some ⟨bb, 0, none⟩))).drew).ownsRow 0 200 8 (.slice (some ⟨nb, 0, none⟩) 1 lc) 1 (node0 bb).toList := by
  have hx : x.length = 8 := by have := h.1; omega
  have N0 := h
  have O0 := Only.refl nb w2
  have N1 := owns_set N0 0 (.int .i64 (-1))
  have O1 := O0.set 0 (.int .i64 (-1))
  clear N0 O0
  generalize w2.setCell ⟨nb, 0, none⟩ (.int .i64 (-1)) = v1 at N1 O1 ⊢
  have N2 := owns_set N1 1 (.int .i64 (-1))
  have O2 := O1.set 1 (.int .i64 (-1))
  clear N1 O1
  generalize v1.setCell ⟨nb, 1, none⟩ (.int .i64 (-1)) = v2 at N2 O2 ⊢
  have N3 := owns_set N2 2 (.int .i64 0)
  have O3 := O2.set 2 (.int .i64 0)
  clear N2 O2
  generalize v2.setCell ⟨nb, 2, none⟩ (.int .i64 0) = v3 at N3 O3 ⊢
  have N4 := owns_set N3 3 (.int .i64 0)
  have O4 := O3.set 3 (.int .i64 0)
  clear N3 O3
  generalize v3.setCell ⟨nb, 3, none⟩ (.int .i64 0) = v4 at N4 O4 ⊢
  have N5 := owns_set N4 4 (.int .i64 0)
  have O5 := O4.set 4 (.int .i64 0)
  clear N4 O4
  generalize v4.setCell ⟨nb, 4, none⟩ (.int .i64 0) = v5 at N5 O5 ⊢
  have N6 := owns_set N5 5 (.int .i64 0)
  have O6 := O5.set 5 (.int .i64 0)
  clear N5 O5
  generalize v5.setCell ⟨nb, 5, none⟩ (.int .i64 0) = v6 at N6 O6 ⊢
  have N7 := owns_set N6 6 (.int .i64 0)
  have O7 := O6.set 6 (.int .i64 0)
  clear N6 O6
  generalize v6.setCell ⟨nb, 6, none⟩ (.int .i64 0) = v7 at N7 O7 ⊢
  have N8 := owns_set N7 7 (.pointer (some ⟨bb, 0, none⟩))
  have O8 := O7.set 7 (.pointer (some ⟨bb, 0, none⟩))
  clear N7 O7
  generalize v7.setCell ⟨nb, 7, none⟩ (.pointer (some ⟨bb, 0, none⟩)) = v8 at N8 O8 ⊢
  rw [eight x hx] at N8
  exact ⟨O8.drew, owns_same N8 fun k _ => by rw [heap_drew]⟩
theorem fresh_again {w2 w4 : World} {o2 : Nat → Nat} {c tb ab bb nb kb kc fb fc lc : Nat} {l : List Bool} {x : List Value} {vis : Int} (ON : Only nb w2 w4) (N9 : w4.ownsRow 0 200 8 (.slice (some ⟨nb, 0, none⟩) 1 lc) 1 (node0 bb).toList)
    (n2 : w2.ownsRow 0 200 8 (.slice (some ⟨nb, 0, none⟩) 1 lc) 1 x) (onb : o2 nb = c)
    (t2 : w2.heap[tb]? = some (.cells #[.pointer (some ⟨ab, 0, none⟩), .slice (some ⟨nb, 0, none⟩) 1 lc, .int .i64 (-1), .int .i64 vis] 197 (0, 0))) (a2 : ArenaIs w2 ab (.slice (some ⟨kb, 0, none⟩) 1 kc) (.slice (some ⟨fb, 0, none⟩) 0 fc))
    (k2 : Owned w2 o2 (c + 1) 4 1 (.slice (some ⟨kb, 0, none⟩) 1 kc) 1 [.bool true]) (f2 : Owned w2 o2 (c + 1) 3 1 (.slice (some ⟨fb, 0, none⟩) 0 fc) 0 [])
    (b2 : IsBlk w2 bb l) (ot : o2 tb = c) (oa : o2 ab = c + 1) (ob : o2 bb = c) :
    Fresh w2 w4 o2 c tb ab bb nb lc l (.slice (some ⟨kb, 0, none⟩) 1 kc) (.slice (some ⟨fb, 0, none⟩) 0 fc) vis := by
  have nlt : nb < w2.heap.size := ownBlock_lt n2 rfl
  have ne : ∀ (b : Nat) (cs : Array Value) (t : TypeId), w2.heap[b]? = some (Obj.cells cs t (0, 0)) → t ≠ 200 → b ≠ nb := by
    intro b cs t hb ht e
    exact owns_ne n2 hb (fun e => ht e.symm) (by rw [e]; rfl)
  have far : ∀ (v : Value) (n : Nat) (xs : List Value) (e : TypeId), w2.ownsRow 0 e 1 v n xs → e ≠ 200 → w4.ownsRow 0 e 1 v n xs := by
    intro v n xs e hv he
    refine owns_same hv fun k hk => ON.same k ?_
    rintro rfl
    obtain ⟨cur, hc, _⟩ := owns_row n2
    exact owns_ne hv hc he hk
  refine ⟨(ON.same tb (ne _ _ _ t2 (by decide))).trans t2, (ON.same ab (ne _ _ _ a2 (by decide))).trans a2, N9, ⟨far _ _ _ _ k2.1 (by decide), fun k hk => (ext_old (ownBlock_lt k2.1 hk)).trans (k2.2 k hk)⟩, ⟨far _ _ _ _ f2.1 (by decide), fun k hk => (ext_old (ownBlock_lt f2.1 hk)).trans (f2.2 k hk)⟩, b2.same (ON.same bb ?_),
      (ext_old (lt_of_block t2)).trans ot, (ext_old (lt_of_block a2)).trans oa, (ext_old b2.lt).trans ob, (ext_old nlt).trans onb⟩
  obtain ⟨_, _, hb, _⟩ := b2
  exact ne _ _ _ hb (by decide)

set_option maxHeartbeats 1000000 in
theorem node_again (o : Nat → Nat) (c tb ab nb kb fb lc kc fc bb : Nat) (x : List Value) (vis : Int) (l : List Bool) (w : World) (h : Gone w o c tb ab nb kb fb lc kc fc x vis) (hb : IsBlk w bb l) (ob : o bb = c) (hc : c ≠ 0) :
    Calls Tryz.prog 230 #[.pointer (some ⟨tb, 0, none⟩), .agg (node0 bb)] w fun e w' => e = .returned (.int .i64 0) ∧ ∃ o', Upd o (tr c) w w' o' ∧
      Fixed w' o' c tb l ab nb bb lc (.slice (some ⟨kb, 0, none⟩) 1 kc) (.slice (some ⟨fb, 0, none⟩) 0 fc) vis := by
  have tlt : tb < w.heap.size := lt_of_block h.t
  have u1 : Upd o (tr c) w (w.alloc (.cells (node0 bb) 200)) (ext o w.heap.size 0) := (Upd.start o _ w 0).alloc _
  have v1 : Upd o (fun _ => False) w (w.alloc (.cells (node0 bb) 200)) (ext o w.heap.size 0) := (Upd.start o (fun _ => False) w 0).alloc _
  have h1 : Gone (w.alloc (.cells (node0 bb) 200)) (ext o w.heap.size 0) c tb ab nb kb fb lc kc fc x vis := h.keep v1 (by simp) (by simp)
  have b1 : IsBlk (w.alloc (.cells (node0 bb) 200)) bb l := hb.same (Below.heap_alloc _ _ _ hb.lt)
  have ob1 : ext o w.heap.size 0 bb = c := (ext_old hb.lt).trans ob
  have x1 : (w.alloc (.cells (node0 bb) 200)).heap[w.heap.size]? = some (.cells (node0 bb) 200 (0, 0)) := heap_alloc_new w _
  have tk := take_again (ext o w.heap.size 0) (c + 1) ab kb kc fb fc (w.alloc (.cells (node0 bb) 200)) h1.a h1.oa h1.k h1.f
  have t0 : (w.alloc (.cells (node0 bb) 200)).cell? ⟨tb, 0, none⟩ = some (.pointer (some ⟨ab, 0, none⟩)) := by rw [Joins.cell_of_block h1.t]; rfl
  have OT := Lib.hid h.ot
  have HNB := Lib.hid (h.n.2 nb rfl)
  have U1 := Lib.hid u1
  have H1 := Lib.hid h1
  have X1 := Lib.hid x1
  have TK := Lib.hid tk
  have B1 := Lib.hid b1
  have OB := Lib.hid ob1
  have NE := Lib.hid hc
  have en : Value.agg (node0 bb) = .agg #[.int .i64 (-1), .int .i64 (-1), .int .i64 0, .int .i64 0, .int .i64 0, .int .i64 0, .int .i64 0, .pointer (some ⟨bb, 0, none⟩)] := rfl
  rw [en]
  unfold node0 at t0
  clear h u1 v1 h1 x1 tk hb ob hc en b1 ob1
  go_enter Tryz.func230, Tryz.ntmps230
  go_wp2_with fail
  refine TK.out.mono ?_
  rintro e w2 ⟨rfl, u2, a2, k2, f2⟩
  generalize ext (ext o w.heap.size 0) (w.alloc (.cells (node0 bb) 200)).heap.size (c + 1) = o2 at u2 k2 f2
  have T2 : w2.heap[tb]? = _ := (u2.heap H1.out.t (by rw [H1.out.ot]; omega)).1
  have X2 : w2.heap[w.heap.size]? = _ := (u2.heap X1.out (by rw [ext_new (Nat.le_refl _)]; omega)).1
  have B2 : IsBlk w2 bb l := B1.out.same (u2.same bb B1.out.lt (by rw [OB.out]; omega))
  have N2 : ∀ W : World, W.heap[w2.heap.size]? = some (.cells (node0 bb) 200 (0, 0)) → ∀ j u, (node0 bb).toList[j]? = some u → W.cell? ((⟨w2.heap.size, 0, none⟩ : Addr).add j) = some u := fun W hW => World.news_of_block hW
  have u3 := U1.out.trans u2 (fun _ hx => .inr hx)
  have o2t := (u2.heap H1.out.t (by rw [H1.out.ot]; omega)).2.trans H1.out.ot
  have o2a := (u2.own ab (lt_of_block H1.out.a)).trans H1.out.oa
  have o2b := (u2.own bb B1.out.lt).trans OB.out
  have t20 : w2.cell? ⟨tb, 0, none⟩ = some (.pointer (some ⟨ab, 0, none⟩)) := by rw [Joins.cell_of_block T2]; rfl
  have t21 : w2.cell? ⟨tb, 1, none⟩ = some (.slice (some ⟨nb, 0, none⟩) 1 lc) := by rw [Joins.cell_of_block T2]; rfl
  have x0 : w2.cell? ⟨w.heap.size, 0, none⟩ = some (.int .i64 (-1)) := by rw [Joins.cell_of_block X2]; rfl
  have x1 : w2.cell? ⟨w.heap.size, 1, none⟩ = some (.int .i64 (-1)) := by rw [Joins.cell_of_block X2]; rfl
  have x2 : w2.cell? ⟨w.heap.size, 2, none⟩ = some (.int .i64 0) := by rw [Joins.cell_of_block X2]; rfl
  have x3 : w2.cell? ⟨w.heap.size, 3, none⟩ = some (.int .i64 0) := by rw [Joins.cell_of_block X2]; rfl
  have x4 : w2.cell? ⟨w.heap.size, 4, none⟩ = some (.int .i64 0) := by rw [Joins.cell_of_block X2]; rfl
  have x5 : w2.cell? ⟨w.heap.size, 5, none⟩ = some (.int .i64 0) := by rw [Joins.cell_of_block X2]; rfl
  have x6 : w2.cell? ⟨w.heap.size, 6, none⟩ = some (.int .i64 0) := by rw [Joins.cell_of_block X2]; rfl
  have x7 : w2.cell? ⟨w.heap.size, 7, none⟩ = some (.pointer (some ⟨bb, 0, none⟩)) := by rw [Joins.cell_of_block X2]; rfl
  have tlt2 : tb < w2.heap.size := lt_of_block T2
  have xlt2 : w.heap.size < w2.heap.size := lt_of_block X2
  have n2 : w2.ownsRow 0 200 8 (.slice (some ⟨nb, 0, none⟩) 1 lc) 1 x := owns_same H1.out.n.1 fun k hk => u2.same k (ownBlock_lt H1.out.n.1 hk) (by rw [H1.out.n.2 k hk]; omega)
  obtain ⟨cur, hcur, hc1, hc2, hc3, hc4⟩ := owns_row n2
  obtain ⟨x8, hx8⟩ : ∃ x8 : Nat → Value, ∀ j, j < 8 → w2.cell? ⟨nb, j, none⟩ = some (x8 j) := by
    refine ⟨fun j => cur.getD j undef, fun j hj => ?_⟩
    rw [Joins.cell_of_block hcur]
    show cur[j]? = some (cur.getD j undef)
    rw [Array.getD_eq_getD_getElem?, Array.getElem?_eq_getElem (by omega)]
    rfl
  have z0 := hx8 0 (by omega)
  have z1 := hx8 1 (by omega)
  have z2 := hx8 2 (by omega)
  have z3 := hx8 3 (by omega)
  have z4 := hx8 4 (by omega)
  have z5 := hx8 5 (by omega)
  have z6 := hx8 6 (by omega)
  have z7 := hx8 7 (by omega)
  have fz0 := Joins.unfrozen_of_block hcur 0
  have fz1 := Joins.unfrozen_of_block hcur 1
  have fz2 := Joins.unfrozen_of_block hcur 2
  have fz3 := Joins.unfrozen_of_block hcur 3
  have fz4 := Joins.unfrozen_of_block hcur 4
  have fz5 := Joins.unfrozen_of_block hcur 5
  have fz6 := Joins.unfrozen_of_block hcur 6
  have fz7 := Joins.unfrozen_of_block hcur 7
  have ONB := Lib.hid ((u2.own nb (ownBlock_lt H1.out.n.1 rfl)).trans (H1.out.n.2 nb rfl))
  have HC := Lib.hid hcur
  have HCS := Lib.hid hc3
  have NR := Lib.hid n2
  have A2 := Lib.hid a2
  clear hcur hc1 hc2 hc3 hc4 n2 hx8
  have K2 := Lib.hid k2
  have F2 := Lib.hid f2
  have U3 := Lib.hid u3
  have HN := Lib.hid N2
  have HT2 := Lib.hid T2
  have HB2 := Lib.hid B2
  have O2T := Lib.hid o2t
  have O2A := Lib.hid o2a
  have O2B := Lib.hid o2b
  clear a2 k2 f2 u2 u3 N2 T2 X2 B2 t0 o2t o2a o2b tlt
  go_wp2_with fail
  go_region
  obtain ⟨ON, N9⟩ := set_eight w2 nb bb lc x NR.out
  clear z0 z1 z2 z3 z4 z5 z6 z7 fz0 fz1 fz2 fz3 fz4 fz5 fz6 fz7 x0 x1 x2 x3 x4 x5 x6 x7 t20 t21
  generalize ((((((((w2.setCell ⟨nb, 0, none⟩ (.int .i64 (-1))).setCell ⟨nb, 1, none⟩ (.int .i64 (-1))).setCell ⟨nb, 2, none⟩ (.int .i64 0)).setCell ⟨nb, 3, none⟩ (.int .i64 0)).setCell ⟨nb, 4, none⟩ (.int .i64 0)).setCell ⟨nb, 5, none⟩ (.int .i64 0)).setCell ⟨nb, 6, none⟩ (.int .i64 0)).setCell ⟨nb, 7, none⟩ (.pointer (some ⟨bb, 0, none⟩))).drew = w4 at ON N9 ⊢
  have FR := fresh_again ON N9 NR.out ONB.out HT2.out A2.out K2.out F2.out HB2.out O2T.out O2A.out O2B.out
  have hnb : w.heap.size ≤ nb ∨ tr c (o nb) := .inr (.inl HNB.out)
  have U5 : Upd o (tr c) w w4 (ext o2 w2.heap.size c) := (U3.out.only ON hnb).reown (fun b hb => (ext_old (Nat.lt_of_lt_of_le hb U3.out.size)).trans (U3.out.own b hb))
  have HFR := Lib.hid FR
  have HU5 := Lib.hid U5
  obtain ⟨y1, y2, y3, y4, y5, y6, y7⟩ := FR.cells
  have fx := fix_any tb nb bb lc l _ _ _ y1 y2 y3 y4 y5 FR.b y6
  have FX := Lib.hid fx
  clear FR U5 y1 y2 y3 y4 y5 fx N9 ON
  go_wp2_with (go_at_call 227; refine FX.out.mono ?_; rintro e w' ⟨rfl, rfl⟩)
  go_ret
  exact ⟨rfl, ext o2 w2.heap.size c, ((HU5.out.set _ hnb).set _ hnb).drew, HFR.out.leaf⟩
end Go.Proofs.YtnadgcgnediakaaGreatDoor
namespace Go.Proofs.YtnadgcgnediakaaGreatDoor
open Go.ChangeShapes Go.WideShapes Go.ChangeAt Go.RowKit Go.Deep

theorem blk_one (w : World) (b : Bool) (x : Int) (h : x = X (if b = true then 1#64 else 0#64)) : IsBlk (w.alloc (.cells #[.int .i64 1, .int .u64 x, .int .u64 0] 222)) w.heap.size [b] := by
  subst h
  refine ⟨if b = true then 1#64 else 0#64, 0#64, heap_alloc_new w _, by simp, fun i hi => ?_, fun i hi => ?_⟩
  · match i with
    | 0 => cases b <;> rfl
    | i + 1 =>
      have : ([b] : List Bool).getD (i + 1) false = false := by simp
      rw [this]
      cases b
      · simp
      · rw [if_pos rfl, BitVec.getLsbD_one]; simp
  · have : ([b] : List Bool).getD (64 + i) false = false := by rw [List.getD_eq_getElem?_getD, List.getElem?_eq_none (by simp; omega)]; rfl
    rw [this]
    simp

theorem bnew_one (lb cap : Nat) (b : Bool) (w : World) (h : w.cell? ⟨lb, 0, none⟩ = some (.bool b)) :
    Calls Tryz.prog 217 #[.slice (some ⟨lb, 0, none⟩) 1 cap] w fun e w' => e = .returned (.tuple #[.pointer (some ⟨w.heap.size, 0, none⟩), .int .i64 0]) ∧ IsBlk w' w.heap.size [b] ∧ Below w.heap.size w w' := by
  have hlt : lb < w.heap.size := cell_lt h
  cases b
  · go_enter Tryz.func217, Tryz.ntmps217
    go_wp2_with fail
    refine wp_loop_rounds 2 ?_
    rw [rounds_succ]
    go_wp2_with fail
    rw [rounds_succ]
    go_wp2_with fail
    go_ret2
    exact ⟨rfl, blk_one w false 0 rfl, Joins.below_alloc1 w _⟩
  · go_enter Tryz.func217, Tryz.ntmps217
    go_wp2_with fail
    refine wp_loop_rounds 2 ?_
    rw [rounds_succ]
    go_wp2_with fail
    go_region
    all_goals go_wp2_with fail
    all_goals rw [rounds_succ]
    all_goals go_wp2_with fail
    all_goals go_ret2
    all_goals exact ⟨rfl, (blk_one w true 1 rfl).same rfl, (Joins.below_alloc1 w _).drew⟩

theorem leaf_first (o : Nat → Nat) (c tb ab bb : Nat) (vis : Int) (l : List Bool) (w : World) (h : Never w o c tb ab vis) (hb : IsBlk w bb l) (ob : o bb = c) (hc : c ≠ 0) :
    Calls Tryz.prog 218 #[.pointer (some ⟨tb, 0, none⟩), .pointer (some ⟨bb, 0, none⟩)] w fun e w' => e = .returned (.int .i64 0) ∧ ∃ o', Upd o (tr c) w w' o' ∧
      ∃ nb lc tv, Fixed w' o' c tb l ab nb bb lc tv (.slice none 0 0) vis := by
  have nd := node_first o c tb ab bb vis l w h hb ob hc
  unfold node0 at nd
  have ND := Lib.hid nd
  clear nd h hb ob hc
  go_enter Tryz.func218, Tryz.ntmps218
  go_wp2_with fail
  refine ND.out.mono ?_
  rintro e w2 ⟨rfl, r⟩
  have R := Lib.hid r
  clear r
  go_wp2_with fail
  go_ret
  exact ⟨rfl, R.out⟩
theorem leaf_again (o : Nat → Nat) (c tb ab nb kb fb lc kc fc bb : Nat) (x : List Value) (vis : Int) (l : List Bool) (w : World) (h : Gone w o c tb ab nb kb fb lc kc fc x vis) (hb : IsBlk w bb l) (ob : o bb = c) (hc : c ≠ 0) :
    Calls Tryz.prog 218 #[.pointer (some ⟨tb, 0, none⟩), .pointer (some ⟨bb, 0, none⟩)] w fun e w' => e = .returned (.int .i64 0) ∧ ∃ o', Upd o (tr c) w w' o' ∧
      Fixed w' o' c tb l ab nb bb lc (.slice (some ⟨kb, 0, none⟩) 1 kc) (.slice (some ⟨fb, 0, none⟩) 0 fc) vis := by
  have nd := node_again o c tb ab nb kb fb lc kc fc bb x vis l w h hb ob hc
  unfold node0 at nd
  have ND := Lib.hid nd
  clear nd h hb ob hc
  go_enter Tryz.func218, Tryz.ntmps218
  go_wp2_with fail
  refine ND.out.mono ?_
  rintro e w2 ⟨rfl, r⟩
  have R := Lib.hid r
  clear r
  go_wp2_with fail
  go_ret
  exact ⟨rfl, R.out⟩
/-- a new leaf's root, whichever tree without a leaf -/
theorem leaf_any (o : Nat → Nat) (c tb bb : Nat) (l : List Bool) (w : World) (h : IsTree w o c tb []) (hb : IsBlk w bb l) (ob : o bb = c) (hc : c ≠ 0) :
    Calls Tryz.prog 218 #[.pointer (some ⟨tb, 0, none⟩), .pointer (some ⟨bb, 0, none⟩)] w fun e w' => e = .returned (.int .i64 0) ∧ ∃ o', Upd o (tr c) w w' o' ∧
      ∃ ab nb lc tv fv vis, Fixed w' o' c tb l ab nb bb lc tv fv vis := by
  rcases h with ⟨h1, _⟩ | ⟨_, ⟨ab, vis, h⟩ | ⟨ab, nb, kb, fb, lc, kc, fc, x, vis, h⟩⟩
  · exact absurd rfl h1
  · refine (leaf_first o c tb ab bb vis l w h hb ob hc).mono ?_
    rintro e w' ⟨rfl, o', u, nb, lc, tv, f⟩
    exact ⟨rfl, o', u, _, _, _, _, _, _, f⟩
  · refine (leaf_again o c tb ab nb kb fb lc kc fc bb x vis l w h hb ob hc).mono ?_
    rintro e w' ⟨rfl, o', u, f⟩
    exact ⟨rfl, o', u, _, _, _, _, _, _, f⟩
end Go.Proofs.YtnadgcgnediakaaGreatDoor
namespace Go.Proofs.YtnadgcgnediakaaGreatDoor
open Go.ChangeShapes Go.WideShapes Go.ChangeAt Go.RowKit Go.Deep

section
variable {w w3 : World} {o : Nat → Nat} {c tb : Nat} {l l' : List Bool} {ab nb bb kb lc kc : Nat} {fv : Value} {vis : Int}
/-- the leaf's bits have been edited: what fix asks -/
theorem Leaf.asks (h : Leaf w o c tb l ab nb bb kb lc kc fv vis) (on : Only bb w w3) : w3.cell? ⟨tb, 1, none⟩ = some (.slice (some ⟨nb, 0, none⟩) 1 lc) ∧ w3.cell? ⟨nb, 3, none⟩ = some (.int .i64 l.length) ∧
    w3.cell? ⟨nb, 4, none⟩ = some (.int .i64 (onesL l)) ∧ w3.cell? ⟨nb, 7, none⟩ = some (.pointer (some ⟨bb, 0, none⟩)) ∧ (∀ j, w3.frozen? ⟨nb, j, none⟩ = false) ∧ bb ≠ nb := by
  obtain ⟨⟨t0, t1, t2, t3⟩, hn, ft, fn, nt, bt, bn, tlt, nlt, blt⟩ := h.cells
  have et : ∀ j, w3.cell? ⟨tb, j, none⟩ = w.cell? ⟨tb, j, none⟩ := fun j => World.cell?_of_block (on.same tb bt.symm)
  have en : ∀ j, w3.cell? ⟨nb, j, none⟩ = w.cell? ⟨nb, j, none⟩ := fun j => World.cell?_of_block (on.same nb bn.symm)
  exact ⟨(et 1).trans t1, (en 3).trans (hn 3 _ rfl), (en 4).trans (hn 4 _ rfl), (en 7).trans (hn 7 _ rfl), fun j => (World.frozen?_of_block (on.same nb bn.symm)).trans (fn j), bn⟩
theorem Leaf.edit (h : Leaf w o c tb l ab nb bb kb lc kc fv vis) (on : Only bb w w3) (bk : IsBlk w3 bb l') :
    Leaf ((w3.setCell ⟨nb, 3, none⟩ (.int .i64 l'.length)).setCell ⟨nb, 4, none⟩ (.int .i64 (onesL l'))).drew o c tb l' ab nb bb kb lc kc fv vis := by
  obtain ⟨_, hn, ft, fn, nt, bt, bn, tlt, nlt, blt⟩ := h.cells
  have nebb : ∀ (v : Value) (n size : Nat) (xs : List Value) (e : TypeId), w.ownsRow 0 e size v n xs → e ≠ 222 → v.ownBlock ≠ some bb := by
    intro v n size xs e hv he
    obtain ⟨_, _, hb, _⟩ := h.b
    exact owns_ne hv hb he
  have r3 : ∀ (v : Value) (n size : Nat) (xs : List Value) (e : TypeId), w.ownsRow 0 e size v n xs → e ≠ 222 → w3.ownsRow 0 e size v n xs := by
    intro v n size xs e hv he
    refine owns_same hv fun k hk => on.same k ?_
    rintro rfl
    exact nebb v n size xs e hv he hk
  obtain ⟨cn, hcn, _⟩ := owns_row (r3 _ _ _ _ _ h.n.1 (by decide))
  have r4 : ∀ (v : Value) (n : Nat) (xs : List Value) (e : TypeId), w3.ownsRow 0 e 1 v n xs → e ≠ 200 → ∀ a b, ((w3.setCell ⟨nb, 3, none⟩ a).setCell ⟨nb, 4, none⟩ b).ownsRow 0 e 1 v n xs := by
    intro v n xs e hv he a b
    have := owns_ne hv hcn he
    exact owns_other (owns_other hv this _) this _
  have n4 := owns_set (owns_set (r3 _ _ _ _ _ h.n.1 (by decide)) 3 (.int .i64 l'.length)) 4 (.int .i64 (onesL l'))
  have an : ab ≠ nb := by
    intro e
    have := owns_ne h.n.1 h.a (by decide)
    exact this (by rw [e]; rfl)
  have abb : ab ≠ bb := by
    obtain ⟨_, _, hb, _⟩ := h.b
    rintro rfl
    have h1 := h.a
    unfold ArenaIs at h1
    rw [h1] at hb
    simp at hb
  refine ⟨?_, ?_, ⟨owns_same n4 fun k _ => by rw [heap_drew], h.n.2⟩, ⟨owns_same (r4 _ _ _ _ (r3 _ _ _ _ _ h.k.1 (by decide)) (by decide) _ _) fun k _ => by rw [heap_drew], h.k.2⟩,
    ⟨owns_same (r4 _ _ _ _ (r3 _ _ _ _ _ h.f.1 (by decide)) (by decide) _ _) fun k _ => by rw [heap_drew], h.f.2⟩, bk.same ?_, h.ot, h.oa, h.ob⟩
  · rw [heap_drew, Below.heap_setCell _ _ _ _ nt.symm, Below.heap_setCell _ _ _ _ nt.symm]
    exact (on.same tb bt.symm).trans h.t
  · unfold ArenaIs
    rw [heap_drew, Below.heap_setCell _ _ _ _ an, Below.heap_setCell _ _ _ _ an]
    exact (on.same ab abb).trans h.a
  · rw [heap_drew, Below.heap_setCell _ _ _ _ bn, Below.heap_setCell _ _ _ _ bn]
/-- the root is stored as it was -/
theorem Leaf.rooted (h : Leaf w o c tb l ab nb bb kb lc kc fv vis) : Leaf (w.setCell ⟨tb, 2, none⟩ (.int .i64 0)) o c tb l ab nb bb kb lc kc fv vis := by
  obtain ⟨_, _, _, _, nt, bt, bn, _⟩ := h.cells
  have at' : ab ≠ tb := by
    rintro rfl
    have h1 := h.a
    unfold ArenaIs at h1
    rw [h.t] at h1
    simp at h1
  exact ⟨Joins.block_setCell h.t _, (Below.heap_setCell _ _ _ _ at').trans h.a, ⟨owns_other h.n.1 (owns_ne h.n.1 h.t (by decide)) _, h.n.2⟩, ⟨owns_other h.k.1 (owns_ne h.k.1 h.t (by decide)) _, h.k.2⟩, ⟨owns_other h.f.1 (owns_ne h.f.1 h.t (by decide)) _, h.f.2⟩, h.b.same (Below.heap_setCell _ _ _ _ bt), h.ot, h.oa, h.ob⟩
end

theorem ins_leaf (o : Nat → Nat) (c tb : Nat) (l : List Bool) (ab nb bb kb lc kc : Nat) (fv : Value) (k : Nat) (b : Bool) (w : World) (h : Leaf w o c tb l ab nb bb kb lc kc fv 0) (hk : k ≤ l.length) (hl : l.length < 128) :
    Calls Tryz.prog 219 #[.pointer (some ⟨tb, 0, none⟩), .int .i64 0, .int .i64 k, .bool b] w fun e w' => e = .returned (.int .i64 0) ∧ Upd o (tr c) w w' (ext o w.heap.size c) ∧
      Leaf w' (ext o w.heap.size c) c tb (l.insertIdx k b) ab nb bb kb lc kc fv 1 := by
  obtain ⟨⟨t0, t1, t2, t3⟩, hn, ft, fn, nt, bt, bn, tlt, nlt, blt⟩ := h.cells
  have n0 := hn 0 _ rfl
  have n1 := hn 1 _ rfl
  have n2 := hn 2 _ rfl
  have n3 := hn 3 _ rfl
  have n4 := hn 4 _ rfl
  have n5 := hn 5 _ rfl
  have n6 := hn 6 _ rfl
  have n7 := hn 7 _ rfl
  have f3 := ft 3
  have e128 : (l.length == 128) = false := by simp; omega
  have HV := Lib.hid (h.visit 1)
  have OT := Lib.hid h.ot
  have OB := Lib.hid h.ob
  have ON := Lib.hid (h.n.2 nb rfl)
  clear hn ft fn h
  go_enter Tryz.func219, Tryz.ntmps219
  go_wp2_with fail
  have hb := (HV.out.upd (w1 := (w.setCell ⟨tb, 3, none⟩ (.int .i64 1)).alloc (.cells #[.int .i64 (-1), .int .i64 (-1), .int .i64 0, .int .i64 l.length, .int .i64 (onesL l), .int .i64 0, .int .i64 0, .pointer (some ⟨bb, 0, none⟩)] 200)) (o1 := ext o w.heap.size c)
    (fun b hb => Below.heap_alloc _ _ _ hb) (fun b hb => ext_old (by rw [World.size_setCell] at hb; exact hb)))
  have hu : Upd o (tr c) w ((w.setCell ⟨tb, 3, none⟩ (.int .i64 1)).alloc (.cells #[.int .i64 (-1), .int .i64 (-1), .int .i64 0, .int .i64 l.length, .int .i64 (onesL l), .int .i64 0, .int .i64 0, .pointer (some ⟨bb, 0, none⟩)] 200)) (ext o w.heap.size c) :=
    ((Upd.start o _ w c).set _ (.inr (.inl OT.out))).alloc _
  have HB := Lib.hid hb
  have HU := Lib.hid hu
  clear hb hu
  refine (blen_is bb l _ HB.out.b).mono ?_
  rintro e w' ⟨rfl, rfl⟩
  go_wp2_with fail
  refine (binsert_any bb l k b _ HB.out.b hk hl).mono ?_
  rintro e w3 ⟨rfl, on, bk⟩
  obtain ⟨y1, y3, y4, y7, yf, ybn⟩ := HB.out.asks on
  have fx := fix_any tb nb bb lc (l.insertIdx k b) _ _ _ y1 y3 y4 y7 yf bk ybn
  have FX := Lib.hid fx
  have ED := Lib.hid (HB.out.edit on bk)
  have U3 := Lib.hid (HU.out.only on (.inr (.inl OB.out)))
  clear y1 y3 y4 y7 yf ybn on bk fx
  go_wp2_with fail
  refine FX.out.mono ?_
  rintro e w' ⟨rfl, rfl⟩
  go_wp2_with fail
  go_ret
  exact ⟨rfl, ((U3.out.set _ (.inr (.inl ON.out))).set _ (.inr (.inl ON.out))).drew, ED.out⟩

theorem Fixed.visited {w : World} {o : Nat → Nat} {c tb : Nat} {l : List Bool} {ab nb bb lc : Nat} {tv fv : Value} {vis : Int} (h : Fixed w o c tb l ab nb bb lc tv fv vis) :
    w.cell? ⟨tb, 2, none⟩ = some (.int .i64 (-1)) ∧ w.cell? ⟨tb, 3, none⟩ = some (.int .i64 vis) ∧ (∀ j, w.frozen? ⟨tb, j, none⟩ = false) :=
  ⟨by rw [Joins.cell_of_block h.t]; rfl, by rw [Joins.cell_of_block h.t]; rfl, Joins.unfrozen_of_block h.t⟩

/-- a bit is let in where there is a leaf -/
theorem tins_leaf (o : Nat → Nat) (c tb : Nat) (l : List Bool) (ab nb bb kb lc kc : Nat) (fv : Value) (vis : Int) (k : Nat) (b : Bool) (w : World) (h : Leaf w o c tb l ab nb bb kb lc kc fv vis) (hk : k ≤ l.length) (hl : l.length < 128) :
    Calls Tryz.prog 197 #[.pointer (some ⟨tb, 0, none⟩), .int .i64 k, .bool b] w fun e w' => e = .returned (.int .i64 0) ∧ ∃ o', Upd o (tr c) w w' o' ∧ Leaf w' o' c tb (l.insertIdx k b) ab nb bb kb lc kc fv 1 := by
  obtain ⟨⟨t0, t1, t2, t3⟩, _, ft, _⟩ := h.cells
  have f3 := ft 3
  have f2 := ft 2
  have tl := tlen_leaf o c tb l ab nb bb kb lc kc fv vis w h
  have TL := Lib.hid tl
  have H := Lib.hid h
  have OT := Lib.hid h.ot
  clear h tl ft
  go_enter Tryz.func197, Tryz.ntmps197
  go_wp2_with fail
  refine TL.out.mono ?_
  rintro e w2 ⟨rfl, n, hw⟩
  have h2 : Leaf w2 o c tb l ab nb bb kb lc kc fv vis := by rw [hw]; exact H.out.upd (fun _ _ => rfl) (fun _ _ => rfl)
  have u2 : Upd o (tr c) w w2 o := by rw [hw]; exact (Upd.refl o _ w).drewN n
  have hv := h2.visit 0
  obtain ⟨⟨s0, s1, s2, s3⟩, _, fs, _⟩ := h2.cells
  have g3 := fs 3
  have g2 := fs 2
  have r2 := hv.cells.1.2.2.1
  have il := ins_leaf o c tb l ab nb bb kb lc kc fv k b _ hv hk hl
  have IL := Lib.hid il
  have U2 := Lib.hid (u2.set (.int .i64 0) (a := ⟨tb, 3, none⟩) (.inr (.inl OT.out)))
  clear hw h2 u2 hv fs t0 t1 t2 t3 f2 f3 il
  go_wp2_with fail
  refine IL.out.mono ?_
  rintro e w3 ⟨rfl, u3, h3⟩
  have h4 : Leaf (w3.setCell ⟨tb, 2, none⟩ (.int .i64 0)) _ c tb (l.insertIdx k b) ab nb bb kb lc kc fv 1 := h3.rooted
  obtain ⟨⟨s0, s1, s2, s3⟩, _, fs, _⟩ := h3.cells
  have q2 := fs 2
  have H4 := Lib.hid h4
  have U3 := Lib.hid (U2.out.trans u3 (fun _ h => h))
  clear h3 h4 u3 fs r2 g2 g3
  go_wp2_with fail
  go_ret
  exact ⟨rfl, _, U3.out.set _ (.inr (.inl OT.out)), H4.out⟩
/-- .. and where there is none -/
theorem tins_none (o : Nat → Nat) (c tb : Nat) (vis : Int) (b : Bool) (w : World) (h : IsTree w o c tb []) (hc : c ≠ 0) (h2 : w.cell? ⟨tb, 2, none⟩ = some (.int .i64 (-1))) (h3 : w.cell? ⟨tb, 3, none⟩ = some (.int .i64 vis)) (hf : ∀ j, w.frozen? ⟨tb, j, none⟩ = false)
    (hz : IsTree (w.setCell ⟨tb, 3, none⟩ (.int .i64 0)) o c tb []) :
    Calls Tryz.prog 197 #[.pointer (some ⟨tb, 0, none⟩), .int .i64 0, .bool b] w fun e w' => e = .returned (.int .i64 0) ∧ ∃ o', Upd o (tr c) w w' o' ∧ IsTree w' o' c tb [b] := by
  have tl := tlen_none tb w h2
  have f3 := hf 3
  have f2 := hf 2
  have TL := Lib.hid tl
  have OT := Lib.hid h.ot
  have HZ := Lib.hid hz
  have HC := Lib.hid hc
  clear tl hf h hz hc
  go_enter Tryz.func197, Tryz.ntmps197
  go_wp2_with fail
  refine TL.out.mono ?_
  rintro e w2 ⟨rfl, n, hw⟩
  have h22 : w2.cell? ⟨tb, 2, none⟩ = some (.int .i64 (-1)) := by rw [hw]; exact h2
  have h23 : w2.cell? ⟨tb, 3, none⟩ = some (.int .i64 vis) := by rw [hw]; exact h3
  have g3 : w2.frozen? ⟨tb, 3, none⟩ = false := by rw [hw]; exact f3
  have g2 : w2.frozen? ⟨tb, 2, none⟩ = false := by rw [hw]; exact f2
  have hs : w2.heap.size = w.heap.size := by rw [hw]; rfl
  have z2 : IsTree (w2.setCell ⟨tb, 3, none⟩ (.int .i64 0)) o c tb [] := HZ.out.keep (d := fun _ => False) (by rw [hw]; exact ⟨rfl, rfl, rfl, Nat.le_refl _, fun _ _ => rfl, fun _ _ _ => rfl⟩) (by simp) (by simp)
  have u2 : Upd o (tr c) w w2 (ext o w.heap.size c) := by rw [hw]; exact (Upd.start o _ w c).drewN n
  have Z2 := Lib.hid z2
  have U2 := Lib.hid u2
  have HS := Lib.hid hs
  have tlt : tb < w2.heap.size := cell_lt h22
  clear hw h2 h3 f3 f2 hs z2 u2
  go_wp2_with fail
  have nc : ((w2.setCell ⟨tb, 3, none⟩ (.int .i64 0)).alloc (.cells #[.bool b] 4)).cell? ⟨w2.heap.size, 0, none⟩ = some (.bool b) := by
    have := World.cell?_alloc_new (w2.setCell ⟨tb, 3, none⟩ (.int .i64 0)) #[.bool b] 4 0
    rw [World.size_setCell] at this
    exact this
  have U3 : Upd o (tr c) w ((w2.setCell ⟨tb, 3, none⟩ (.int .i64 0)).alloc (.cells #[.bool b] 4)) (ext o w.heap.size c) := (U2.out.set _ (.inr (.inl OT.out))).alloc _
  have Z3 : IsTree ((w2.setCell ⟨tb, 3, none⟩ (.int .i64 0)).alloc (.cells #[.bool b] 4)) (ext o w.heap.size c) c tb [] := Z2.out.keep (d := fun _ => False) (((Upd.refl o _ _).alloc _).reown (fun b hb => ext_old (by rw [World.size_setCell, HS.out] at hb; exact hb))) (by simp) (by simp)
  refine (bnew_one w2.heap.size 1 b _ nc).mono ?_
  rintro e w3 ⟨rfl, bk, bl⟩
  have Z4 : IsTree w3 (ext o w.heap.size c) c tb [] := Z3.keep (d := fun _ => False) ((Upd.refl _ _ _).belowN bl) (by simp) (by simp)
  have U4 := U3.belowN (bl.mono U3.size)
  have hsz : ((w2.setCell ⟨tb, 3, none⟩ (.int .i64 0)).alloc (.cells #[.bool b] 4)).heap.size = w2.heap.size + 1 := by simp
  rw [hsz] at bk ⊢
  have lf := leaf_any (ext o w.heap.size c) c tb (w2.heap.size + 1) [b] w3 Z4 bk (ext_new (by have := HS.out; omega)) HC.out
  have LF := Lib.hid lf
  have U5 := Lib.hid U4
  clear Z3 Z4 U3 U4 nc bk bl lf hsz
  go_wp2_with fail
  refine LF.out.mono ?_
  rintro e w4 ⟨rfl, o4, u4, ab, nb, lc, tv, fv, vis4, fx⟩
  obtain ⟨kb, kc, rt⟩ := fx.root
  obtain ⟨y2, y3, yf⟩ := fx.visited
  have yf2 := yf 2
  have yf3 := yf 3
  have RV := Lib.hid (rt.visit (wrap64 (vis4 + 1)))
  have U6 := Lib.hid (((U5.out.trans u4 (fun _ h => h)).set (.int .i64 0) (a := ⟨tb, 2, none⟩) (.inr (.inl OT.out))).set (.int .i64 (wrap64 (vis4 + 1))) (a := ⟨tb, 3, none⟩) (.inr (.inl OT.out)))
  clear fx yf rt u4 h22 h23 g3 g2
  go_wp2_with fail
  go_ret
  exact ⟨rfl, o4, U6.out, .inl ⟨by simp, _, _, _, _, _, _, _, _, RV.out⟩⟩

/-- a bit is let in -/
theorem tins_any (o : Nat → Nat) (c tb : Nat) (l : List Bool) (k : Nat) (b : Bool) (w : World) (h : IsTree w o c tb l) (hc : c ≠ 0) (hk : k ≤ l.length) (hl : l.length < 128) :
    Calls Tryz.prog 197 #[.pointer (some ⟨tb, 0, none⟩), .int .i64 k, .bool b] w fun e w' => e = .returned (.int .i64 0) ∧ ∃ o', Upd o (tr c) w w' o' ∧ IsTree w' o' c tb (l.insertIdx k b) := by
  rcases h with ⟨h1, ab, nb, bb, kb, lc, kc, fv, vis, h⟩ | ⟨rfl, ⟨ab, vis, h⟩ | ⟨ab, nb, kb, fb, lc, kc, fc, x, vis, h⟩⟩
  · refine (tins_leaf o c tb l ab nb bb kb lc kc fv vis k b w h hk hl).mono ?_
    rintro e w' ⟨rfl, o', u, hh⟩
    refine ⟨rfl, o', u, .inl ⟨?_, _, _, _, _, _, _, _, _, hh⟩⟩
    intro e
    have := congrArg List.length e
    rw [List.length_insertIdx_of_le_length hk] at this
    simp at this
  · obtain rfl : k = 0 := by simpa using hk
    exact tins_none o c tb vis b w (.inr ⟨rfl, .inl ⟨_, _, h⟩⟩) hc (by rw [Joins.cell_of_block h.t]; rfl) (by rw [Joins.cell_of_block h.t]; rfl) (Joins.unfrozen_of_block h.t) (.inr ⟨rfl, .inl ⟨_, _, h.visit 0⟩⟩)
  · obtain rfl : k = 0 := by simpa using hk
    exact tins_none o c tb vis b w (.inr ⟨rfl, .inr ⟨_, _, _, _, _, _, _, _, _, h⟩⟩) hc (by rw [Joins.cell_of_block h.t]; rfl) (by rw [Joins.cell_of_block h.t]; rfl) (Joins.unfrozen_of_block h.t) (.inr ⟨rfl, .inr ⟨_, _, _, _, _, _, _, _, _, h.visit 0⟩⟩)
end Go.Proofs.YtnadgcgnediakaaGreatDoor
namespace Go.Proofs.YtnadgcgnediakaaGreatDoor
open Go.ChangeShapes Go.WideShapes Go.ChangeAt Go.RowKit Go.Deep

theorem drop_leaf (o : Nat → Nat) (c tb : Nat) (l : List Bool) (ab nb bb kb lc kc : Nat) (fv : Value) (k : Nat) (b : Bool) (w : World) (h : Leaf w o c tb l ab nb bb kb lc kc fv 0) (hk : k < l.length) (hbit : l.getD k false = b) :
    Calls Tryz.prog 215 #[.pointer (some ⟨tb, 0, none⟩), .int .i64 0, .int .i64 k] w fun e w' => e = .returned (.tuple #[.int .i64 0, .bool b]) ∧ Upd o (tr c) w w' (ext o w.heap.size c) ∧
      Leaf w' (ext o w.heap.size c) c tb (l.eraseIdx k) ab nb bb kb lc kc fv 1 := by
  obtain ⟨⟨t0, t1, t2, t3⟩, hn, ft, fn, nt, bt, bn, tlt, nlt, blt⟩ := h.cells
  have n0 := hn 0 _ rfl
  have n1 := hn 1 _ rfl
  have n2 := hn 2 _ rfl
  have n3 := hn 3 _ rfl
  have n4 := hn 4 _ rfl
  have n5 := hn 5 _ rfl
  have n6 := hn 6 _ rfl
  have n7 := hn 7 _ rfl
  have f3 := ft 3
  have HV := Lib.hid (h.visit 1)
  have OT := Lib.hid h.ot
  have OB := Lib.hid h.ob
  have ON := Lib.hid (h.n.2 nb rfl)
  have HK := Lib.hid hk
  have HBT := Lib.hid hbit
  clear hn ft fn h hk hbit
  go_enter Tryz.func215, Tryz.ntmps215
  go_wp2_with fail
  have hb := (HV.out.upd (w1 := (w.setCell ⟨tb, 3, none⟩ (.int .i64 1)).alloc (.cells #[.int .i64 (-1), .int .i64 (-1), .int .i64 0, .int .i64 l.length, .int .i64 (onesL l), .int .i64 0, .int .i64 0, .pointer (some ⟨bb, 0, none⟩)] 200)) (o1 := ext o w.heap.size c)
    (fun b hb => Below.heap_alloc _ _ _ hb) (fun b hb => ext_old (by rw [World.size_setCell] at hb; exact hb)))
  have hu : Upd o (tr c) w ((w.setCell ⟨tb, 3, none⟩ (.int .i64 1)).alloc (.cells #[.int .i64 (-1), .int .i64 (-1), .int .i64 0, .int .i64 l.length, .int .i64 (onesL l), .int .i64 0, .int .i64 0, .pointer (some ⟨bb, 0, none⟩)] 200)) (ext o w.heap.size c) :=
    ((Upd.start o _ w c).set _ (.inr (.inl OT.out))).alloc _
  have HB := Lib.hid hb
  have HU := Lib.hid hu
  clear hb hu
  have dl := bdelete_any bb l k _ HB.out.b HK.out
  rw [HBT.out] at dl
  refine dl.mono ?_
  rintro e w3 ⟨rfl, on, bk⟩
  obtain ⟨y1, y3, y4, y7, yf, ybn⟩ := HB.out.asks on
  have fx := fix_any tb nb bb lc (l.eraseIdx k) _ _ _ y1 y3 y4 y7 yf bk ybn
  have FX := Lib.hid fx
  have ED := Lib.hid (HB.out.edit on bk)
  have U3 := Lib.hid (HU.out.only on (.inr (.inl OB.out)))
  clear y1 y3 y4 y7 yf ybn on bk fx dl
  go_wp2_with fail
  refine FX.out.mono ?_
  rintro e w' ⟨rfl, rfl⟩
  go_wp2_with fail
  go_ret2
  exact ⟨rfl, ((U3.out.set _ (.inr (.inl ON.out))).set _ (.inr (.inl ON.out))).drew, ED.out⟩

/-- the last bit has gone: the leaf is given back -/
theorem Leaf.gone {w w2 : World} {o o2 : Nat → Nat} {c tb : Nat} {l : List Bool} {ab nb bb kb lc kc : Nat} {fv : Value} {vis : Int} {fb fc : Nat} (h : Leaf w o c tb l ab nb bb kb lc kc fv vis) (u : Upd o (· = c + 1) w w2 o2)
    (a2 : ArenaIs w2 ab (.slice (some ⟨kb, 0, none⟩) 1 kc) (.slice (some ⟨fb, 0, none⟩) 1 fc)) (k2 : Owned w2 o2 (c + 1) 4 1 (.slice (some ⟨kb, 0, none⟩) 1 kc) 1 [.bool false]) (f2 : Owned w2 o2 (c + 1) 3 1 (.slice (some ⟨fb, 0, none⟩) 1 fc) 1 [.int .i64 0]) :
    Gone (w2.setCell ⟨tb, 2, none⟩ (.int .i64 (-1))) o2 c tb ab nb kb fb lc kc fc (nodeOf l bb) vis := by
  have t2 := u.heap h.t (by rw [h.ot]; omega)
  have n2 := h.n.keep u (by omega)
  have at' : ab ≠ tb := by
    rintro rfl
    have h1 := h.a
    unfold ArenaIs at h1
    rw [h.t] at h1
    simp at h1
  exact ⟨Joins.block_setCell t2.1 _, (Below.heap_setCell _ _ _ _ at').trans a2, ⟨owns_other n2.1 (owns_ne n2.1 t2.1 (by decide)) _, n2.2⟩, ⟨owns_other k2.1 (owns_ne k2.1 t2.1 (by decide)) _, k2.2⟩, ⟨owns_other f2.1 (owns_ne f2.1 t2.1 (by decide)) _, f2.2⟩,
    t2.2.trans h.ot, (u.own ab (lt_of_block h.a)).trans h.oa⟩

theorem tdel_any (o : Nat → Nat) (c tb : Nat) (l : List Bool) (k : Nat) (w : World) (h : IsTree w o c tb l) (hc : c ≠ 0) (hk : k < l.length) :
    Calls Tryz.prog 193 #[.pointer (some ⟨tb, 0, none⟩), .int .i64 k] w fun e w' => e = .returned (.tuple #[.bool (l.getD k false), .int .i64 0]) ∧ ∃ o', Upd o (tr c) w w' o' ∧ IsTree w' o' c tb (l.eraseIdx k) := by
  obtain ⟨b, hbit⟩ : ∃ b, l.getD k false = b := ⟨_, rfl⟩
  rw [hbit]
  rcases h with ⟨h1, ab, nb, bb, kb, lc, kc, fv, vis, h⟩ | ⟨rfl, _⟩
  · have th := thas_any o c tb l ab nb bb kb lc kc fv vis k w h hk
    have TH := Lib.hid th
    have OT := Lib.hid h.ot
    have HK := Lib.hid hk
    have HB := Lib.hid hbit
    have NC := Lib.hid hc
    clear th h hk hbit hc
    by_cases hone : l.length = 1
    · have HONE := Lib.hid hone
      clear hone
      go_enter Tryz.func193, Tryz.ntmps193
      go_wp2_with fail
      refine TH.out.mono ?_
      rintro e w2 ⟨rfl, h2, on⟩
      obtain ⟨⟨t0, t1, t2, t3⟩, _, ft, _⟩ := h2.cells
      have f2 := ft 2
      have dr := drop_leaf o c tb l ab nb bb kb lc kc fv k b w2 h2 HK.out HB.out
      have DR := Lib.hid dr
      have U2 := Lib.hid (((Upd.refl o (tr c) w).only on (.inr (.inl OT.out))))
      clear h2 on ft dr
      go_wp2_with fail
      refine DR.out.mono ?_
      rintro e w3 ⟨rfl, u3, h3⟩
      have h4 := h3.rooted
      have hz : (l.eraseIdx k).length = 0 := by rw [List.length_eraseIdx_of_lt HK.out, HONE.out]
      obtain ⟨⟨s0, s1, s2, s3⟩, _, fs, _⟩ := h3.cells
      have g2 := fs 2
      obtain ⟨⟨r0, r1, r2, r3⟩, rn, fr, _⟩ := h4.cells
      have rn3 := rn 3 _ rfl
      have gr2 := fr 2
      rw [hz] at rn3
      have H4 := Lib.hid h4
      have U4 := Lib.hid ((U2.out.trans u3 (fun _ h => h)).set (.int .i64 0) (a := ⟨tb, 2, none⟩) (.inr (.inl OT.out)))
      have lt4 := lt_of_block h4.t
      have hs4 : (w3.setCell ⟨tb, 2, none⟩ (.int .i64 0)).heap.size = w3.heap.size := World.size_setCell _ _ _
      have LT4 := Lib.hid lt4
      have HS4 := Lib.hid hs4
      have HZ := Lib.hid hz
      clear h3 h4 u3 fs rn fr hz lt4 hs4
      go_wp2_with fail
      have L1 : Leaf ((w3.setCell ⟨tb, 2, none⟩ (.int .i64 0)).alloc (.cells #[.int .i64 0] 3)) (ext (ext o w2.heap.size c) w3.heap.size 0) c tb (l.eraseIdx k) ab nb bb kb lc kc fv 1 :=
        H4.out.upd (fun b hb => Below.heap_alloc _ _ _ hb) (fun b hb => ext_old (by rw [HS4.out] at hb; exact hb))
      have hl1 : ((w3.setCell ⟨tb, 2, none⟩ (.int .i64 0)).alloc (.cells #[.int .i64 0] 3)).heap[w3.heap.size]? = some (.cells #[.int .i64 0] 3 (0, 0)) := by
        have := heap_alloc_new (w3.setCell ⟨tb, 2, none⟩ (.int .i64 0)) (.cells #[.int .i64 0] 3)
        rw [HS4.out] at this
        exact this
      have u41 : Upd o (tr c) w ((w3.setCell ⟨tb, 2, none⟩ (.int .i64 0)).alloc (.cells #[.int .i64 0] 3)) (ext (ext o w2.heap.size c) w3.heap.size 0) :=
        (U4.out.alloc _).reown (fun b hb => (ext_old (by have := U4.out.size; rw [HS4.out] at this; omega)).trans (U4.out.own b hb))
      have fr := free_any _ (c + 1) ab kb kc w3.heap.size fv _ L1.a L1.oa L1.k L1.f hl1
      refine fr.mono ?_
      rintro e w5 ⟨rfl, u5, fb, fc, a5, k5, f5⟩
      have t5 := (u5.heap L1.t (by rw [L1.ot]; omega)).1
      have gn := L1.gone u5 a5 k5 f5
      have q2 : w5.cell? ⟨tb, 2, none⟩ = some (.int .i64 0) := by rw [Joins.cell_of_block t5]; rfl
      have qf2 : w5.frozen? ⟨tb, 2, none⟩ = false := Joins.unfrozen_of_block t5 2
      have GN := Lib.hid gn
      have U6 := Lib.hid ((u41.trans u5 (fun _ h => .inr h)).set (.int .i64 (-1)) (a := ⟨tb, 2, none⟩) (.inr (.inl OT.out)))
      clear L1 hl1 u41 fr u5 a5 k5 f5 t5 gn s0 s1 s2 s3 g2 r0 r1 r2 r3 rn3 gr2 t0 t1 t2 t3 f2
      go_wp2_with fail
      go_ret2
      refine ⟨rfl, _, U6.out, ?_⟩
      have : l.eraseIdx k = [] := List.eq_nil_of_length_eq_zero HZ.out
      rw [this]
      exact .inr ⟨rfl, .inr ⟨_, _, _, _, _, _, _, _, _, GN.out⟩⟩
    · have HONE := Lib.hid hone
      clear hone
      go_enter Tryz.func193, Tryz.ntmps193
      go_wp2_with fail
      refine TH.out.mono ?_
      rintro e w2 ⟨rfl, h2, on⟩
      obtain ⟨⟨t0, t1, t2, t3⟩, _, ft, _⟩ := h2.cells
      have f2 := ft 2
      have dr := drop_leaf o c tb l ab nb bb kb lc kc fv k b w2 h2 HK.out HB.out
      have DR := Lib.hid dr
      have U2 := Lib.hid (((Upd.refl o (tr c) w).only on (.inr (.inl OT.out))))
      clear h2 on ft dr
      go_wp2_with fail
      refine DR.out.mono ?_
      rintro e w3 ⟨rfl, u3, h3⟩
      have h4 := h3.rooted
      have hz : (l.eraseIdx k).length = l.length - 1 := by rw [List.length_eraseIdx_of_lt HK.out]
      obtain ⟨⟨s0, s1, s2, s3⟩, _, fs, _⟩ := h3.cells
      have g2 := fs 2
      obtain ⟨⟨r0, r1, r2, r3⟩, rn, fr, _⟩ := h4.cells
      have rn3 := rn 3 _ rfl
      have gr2 := fr 2
      have hne : (((l.eraseIdx k).length : Int) == 0) = false := by
        have h1 := HONE.out
        have h2 := HK.out
        have hq : ((l.eraseIdx k).length : Int) ≠ 0 := by rw [hz]; omega
        exact beq_eq_false_iff_ne.2 hq
      have H4 := Lib.hid h4
      have U4 := Lib.hid ((U2.out.trans u3 (fun _ h => h)).set (.int .i64 0) (a := ⟨tb, 2, none⟩) (.inr (.inl OT.out)))
      have HZ := Lib.hid hz
      clear h3 h4 u3 fs rn fr hz
      go_wp2_with fail
      go_ret2
      refine ⟨rfl, _, U4.out, .inl ⟨?_, _, _, _, _, _, _, _, _, H4.out⟩⟩
      intro e
      have h5 := congrArg List.length e
      have := HZ.out
      have := HONE.out
      have := HK.out
      simp only [List.length_nil] at h5
      omega
  · simp at hk
end Go.Proofs.YtnadgcgnediakaaGreatDoor
namespace Go.Proofs.YtnadgcgnediakaaGreatDoor
open Go.ChangeShapes Go.WideShapes Go.ChangeAt Go.RowKit Go.Deep

def arena0 : Obj := .cells #[.slice none 0 0, .slice none 0 0, .int .i64 268435456] 162
def tree0 (w : World) : World := (w.alloc arena0).alloc (.cells #[.pointer (some ⟨w.heap.size, 0, none⟩), .slice none 0 0, .int .i64 (-1), .int .i64 0] 197)
/-- the new tree's owners -/
def own0 (o : Nat → Nat) (n c : Nat) : Nat → Nat := fun b => if b < n then o b else if b = n then c + 1 else c
theorem tree0_never (o : Nat → Nat) (c : Nat) (w : World) : Never (tree0 w) (own0 o w.heap.size c) c (w.heap.size + 1) w.heap.size 0 := by
  refine ⟨?_, ?_, ?_, ?_⟩
  · have := heap_alloc_new (w.alloc arena0) (.cells #[.pointer (some ⟨w.heap.size, 0, none⟩), .slice none 0 0, .int .i64 (-1), .int .i64 0] 197)
    rw [World.size_alloc] at this
    exact this
  · exact (Below.heap_alloc _ _ _ (by rw [World.size_alloc]; omega)).trans (heap_alloc_new w arena0)
  · unfold own0; rw [if_neg (by omega), if_neg (by omega)]
  · unfold own0; rw [if_neg (by omega), if_pos rfl]
theorem tree0_upd (o : Nat → Nat) (d : Nat → Prop) (c : Nat) (w : World) : Upd o d w (tree0 w) (own0 o w.heap.size c) :=
  (((Upd.refl o d w).alloc arena0).alloc _).reown fun b hb => by unfold own0; rw [if_pos hb]

theorem tnew_none (c : Nat) (o : Nat → Nat) (w : World) :
    Calls Tryz.prog 176 #[.slice none 0 0] w fun e w' => ∃ tb o', e = .returned (.pointer (some ⟨tb, 0, none⟩)) ∧ w.heap.size ≤ tb ∧ Upd o (tr c) w w' o' ∧ IsTree w' o' c tb [] := by
  have an := anew_any w
  have AN := Lib.hid an
  have T0 := Lib.hid (tree0_never o c w)
  have U0 := Lib.hid (tree0_upd o (tr c) c w)
  clear an
  go_enter Tryz.func176, Tryz.ntmps176
  go_wp2_with fail
  refine AN.out.mono ?_
  rintro e w' ⟨rfl, rfl⟩
  go_wp2_with fail
  go_ret
  exact ⟨_, _, rfl, by simp, U0.out, .inr ⟨rfl, .inl ⟨_, _, T0.out⟩⟩⟩

theorem cut_both101 (b len cap : Nat) (w : World) (h : 1 ≤ cap) : (Instr.slice 101 (.slice (some ⟨b, 0, none⟩) len cap) (some (.int .i64 0)) (some (.int .i64 1)) none).run Tryz.prog w = .ok (.slice (some ⟨b, 0, none⟩) 1 cap) w := by
  have hs : (sizeOf (Tryz.prog.elem 101)).run Tryz.prog w = .ok 1 w := by
    have hi : (Tryz.prog.info? (Tryz.prog.elem 101)).map (·.size) = some 1 := by kernel_rfl
    obtain ⟨i, hi1, hi2⟩ := Option.map_eq_some_iff.1 hi
    simp [sizeOf, typeInfo, hi1, hi2]
  have := run_slice_lh (P := Tryz.prog) w 101 (some ⟨b, 0, none⟩) len cap (by kernel_rfl) .i64 .i64 0 1 (by omega) (by omega) (by omega)
  rw [this, hs]
  simp [Result.andThen, sliced, Addr.add]

theorem build_one (o : Nat → Nat) (c tb lb cap : Nat) (b : Bool) (w : World) (h : IsTree w o c tb []) (hc : c ≠ 0) (hcap : 1 ≤ cap) (hb : w.cell? ⟨lb, 0, none⟩ = some (.bool b)) :
    Calls Tryz.prog 208 #[.pointer (some ⟨tb, 0, none⟩), .slice (some ⟨lb, 0, none⟩) 1 cap, .int .i64 0, .int .i64 1, .int .i64 1] w fun e w' => e = .returned (.int .i64 0) ∧ ∃ o', Upd o (tr c) w w' o' ∧
      ∃ ab nb bb lc tv fv vis, Fixed w' o' c tb [b] ab nb bb lc tv fv vis := by
  have h0 : ¬ cap = 0 := by omega
  have wr0 : IntKind.i64.wrap 0 = 0 := by decide
  have wr1 : IntKind.i64.wrap 1 = 1 := by decide
  have bn := bnew_one lb cap b w.drew hb
  have BN := Lib.hid bn
  have H := Lib.hid h
  have HC := Lib.hid hc
  clear h hc bn hb
  go_enter Tryz.func208, Tryz.ntmps208
  go_wp2_with fail
  go_region_with (first | (go_at_call 217; refine BN.out.mono ?_; rintro e w2 ⟨rfl, bk, bl⟩; have BK := Lib.hid bk; have BL := Lib.hid bl; clear bk bl))
  all_goals
    have bk : IsBlk w2 w.heap.size [b] := BK.out
    have bl : Below w.heap.size w w2 := ⟨BL.out.os, BL.out.tape, BL.out.output, BL.out.size, BL.out.block⟩
    have u1 : Upd o (tr c) w w2 (ext o w.heap.size c) := (Upd.start o _ w c).belowN bl
    have t1 : IsTree w2 (ext o w.heap.size c) c tb [] := H.out.keep (d := fun _ => False) ((Upd.start o _ w c).belowN bl) (by simp) (by simp)
    have lf := leaf_any (ext o w.heap.size c) c tb w.heap.size [b] w2 t1 bk (ext_new (Nat.le_refl _)) HC.out
    have LF := Lib.hid lf
    have U1 := Lib.hid u1
    clear bk bl u1 t1 lf
    go_wp2_with fail
    refine LF.out.mono ?_
    rintro e w4 ⟨rfl, o4, u4, r⟩
    have U4 := Lib.hid (U1.out.trans u4 (fun _ h => h))
    have R := Lib.hid r
    clear u4 r
    go_wp2_with fail
    go_ret
    obtain ⟨ab, nb, lc, tv, fv, vis, f⟩ := R.out
    exact ⟨rfl, o4, U4.out, ab, nb, _, lc, tv, fv, vis, f⟩

/-- a tree of no bit or of one: of whichever slice -/
theorem tnew_one (c : Nat) (o : Nat → Nat) (lb cap : Nat) (b : Bool) (w : World) (hc : c ≠ 0) (hcap : 1 ≤ cap) (hb : w.cell? ⟨lb, 0, none⟩ = some (.bool b)) :
    Calls Tryz.prog 176 #[.slice (some ⟨lb, 0, none⟩) 1 cap] w fun e w' => ∃ tb o', e = .returned (.pointer (some ⟨tb, 0, none⟩)) ∧ w.heap.size ≤ tb ∧ Upd o (tr c) w w' o' ∧ IsTree w' o' c tb [b] := by
  have an := anew_any w
  have AN := Lib.hid an
  have t0 := tree0_never o c w
  have u0 := tree0_upd o (fun _ => False) c w
  have blt : lb < w.heap.size := cell_lt hb
  have hb0 : (tree0 w).cell? ⟨lb, 0, none⟩ = some (.bool b) := by
    rw [World.cell?_of_block (w := w) (u0.same lb blt (by simp))]; exact hb
  have bd := build_one (own0 o w.heap.size c) c (w.heap.size + 1) lb cap b (tree0 w) (.inr ⟨rfl, .inl ⟨_, _, t0⟩⟩) hc hcap hb0
  have BD := Lib.hid bd
  have U0 := Lib.hid u0
  clear an bd t0 u0 hb0 hb
  go_enter Tryz.func176, Tryz.ntmps176
  go_wp2_with fail
  refine AN.out.mono ?_
  rintro e w' ⟨rfl, rfl⟩
  go_wp2_with fail
  refine BD.out.mono ?_
  rintro e w4 ⟨rfl, o4, u4, ab, nb, bb, lc, tv, fv, vis4, fx⟩
  obtain ⟨kb, kc, rt⟩ := fx.root
  obtain ⟨y2, y3, yf⟩ := fx.visited
  have yf2 := yf 2
  have RT := Lib.hid rt
  have ot : own0 o w.heap.size c (w.heap.size + 1) = c := by unfold own0; rw [if_neg (by omega), if_neg (by omega)]
  have u5 : Upd (own0 o w.heap.size c) (tr c) (tree0 w) (w4.setCell ⟨w.heap.size + 1, 2, none⟩ (.int .i64 0)) o4 := u4.set _ (.inr (.inl ot))
  have U5 := Lib.hid ((U0.out.mono (d := tr c) (by simp)).trans u5 (fun _ h => h))
  clear fx yf rt u4 u5 ot
  go_wp2_with fail
  go_ret
  exact ⟨_, o4, rfl, by simp, U5.out, .inl ⟨by simp, _, _, _, _, _, _, _, _, RT.out⟩⟩
end Go.Proofs.YtnadgcgnediakaaGreatDoor
