/- What makes an empty text: sorted.Rows. What makes an empty text: sorted.Last. -/
import Derived.Test.YtnadgcgnediakaaGreatDoorH25
import Derived.Test.YtnadgcgnediakaaGreatDoorH03
import Derived.Deep.CutRange
import Derived.BigRegion
import Derived.BigQuiet
import Derived.Laws.EntriesVeiled
namespace Go.Proofs.YtnadgcgnediakaaGreatDoor
open Go.ChangeShapes Go.WideShapes Go.ChangeAt Go.RowKit Go.Deep

/-- growth; new variables that hold slices may be set -/
structure Rv (B : Nat) (x y : World) : Prop where
  os : y.os = x.os
  tape : y.tape = x.tape
  output : y.output = x.output
  size : x.heap.size ≤ y.heap.size
  keep : ∀ (b : Nat), b < x.heap.size → (b < B ∨ ∀ v, x.heap[b]? ≠ some (Obj.cells #[v] 28 (0, 0))) → y.heap[b]? = x.heap[b]?
  var : ∀ (b : Nat) (a : Option Addr) (n c : Nat), x.heap[b]? = some (Obj.cells #[.slice a n c] 28 (0, 0)) → ∃ (a' : Option Addr) (n' c' : Nat), y.heap[b]? = some (Obj.cells #[.slice a' n' c'] 28 (0, 0))
theorem Rv.refl (B : Nat) (x : World) : Rv B x x := ⟨rfl, rfl, rfl, Nat.le_refl _, fun _ _ _ => rfl, fun _ a n c h => ⟨a, n, c, h⟩⟩
theorem Rv.trans {B : Nat} (x y z : World) (h : Rv B x y) (k : Rv B y z) : Rv B x z := by
  refine ⟨k.os.trans h.os, k.tape.trans h.tape, k.output.trans h.output, Nat.le_trans h.size k.size, fun b hb hc => ?_, fun b a n c hx => ?_⟩
  · have e := h.keep b hb hc
    rw [← e]
    refine k.keep b (Nat.lt_of_lt_of_le hb h.size) ?_
    rcases hc with hc | hc
    · exact .inl hc
    · exact .inr fun v => by rw [e]; exact hc v
  · obtain ⟨a1, n1, c1, h1⟩ := h.var b a n c hx
    exact k.var b a1 n1 c1 h1
theorem Rv.below {B : Nat} {x y : World} (h : Below x.heap.size x y) : Rv B x y :=
  ⟨h.os, h.tape, h.output, h.size, fun b hb _ => h.block b hb, fun b a n c hx => ⟨a, n, c, (h.block b (lt_of_block hx)).trans hx⟩⟩
theorem Rv.set {B : Nat} {x : World} {q : Nat} {a : Option Addr} {n c : Nat} (hq : B ≤ q) (hx : x.heap[q]? = some (.cells #[.slice a n c] 28 (0, 0))) (a' : Option Addr) (n' c' : Nat) : Rv B x (x.setCell ⟨q, 0, none⟩ (.slice a' n' c')) := by
  refine ⟨rfl, rfl, rfl, by rw [World.size_setCell]; exact Nat.le_refl _, fun b hb hc => ?_, fun b a1 n1 c1 h1 => ?_⟩
  · refine Below.heap_setCell _ _ _ _ ?_
    show b ≠ q
    rintro rfl
    rcases hc with hc | hc
    · omega
    · exact hc _ hx
  · by_cases e : b = q
    · subst e
      exact ⟨a', n', c', Joins.block_setCell (i := 0) hx _⟩
    · exact ⟨a1, n1, c1, (Below.heap_setCell _ _ _ _ e).trans h1⟩
/-- a new row of one zero -/
def Zr (B : Nat) (v : Value) (w : World) : Prop := ∃ g, v = .slice (some ⟨g, 0, none⟩) 1 1 ∧ B ≤ g ∧ w.heap[g]? = some (.cells #[.int .i64 0] 3 (0, 0))
theorem Zr.grow {B : Nat} {v : Value} {x y : World} (h : Zr B v x) (r : Rv B x y) : Zr B v y := by
  obtain ⟨g, e, hb, hx⟩ := h
  exact ⟨g, e, hb, (r.keep g (lt_of_block hx) (.inr fun v e => by rw [hx] at e; simp at e)).trans hx⟩
/-- a new variable that holds a slice -/
def Vr (B : Nat) (v : Value) (w : World) : Prop := ∃ q a n c, v = .pointer (some ⟨q, 0, none⟩) ∧ B ≤ q ∧ w.heap[q]? = some (.cells #[.slice a n c] 28 (0, 0))
theorem Vr.grow {B : Nat} {v : Value} {x y : World} (h : Vr B v x) (r : Rv B x y) : Vr B v y := by
  obtain ⟨q, a, n, c, e, hb, hx⟩ := h
  obtain ⟨a', n', c', hy⟩ := r.var q a n c hx
  exact ⟨q, a', n', c', e, hb, hy⟩
theorem Zr.new {B : Nat} {w : World} (h : B ≤ w.heap.size) : Zr B (.slice (some ⟨w.heap.size, 0, none⟩) 1 1) (w.alloc (.cells #[.int .i64 0] 3)) := ⟨_, rfl, h, heap_alloc_new _ _⟩
theorem Vr.new {B : Nat} {w : World} (h : B ≤ w.heap.size) : Vr B (.pointer (some ⟨w.heap.size, 0, none⟩)) (w.alloc (.cells #[.slice none 0 0] 28)) := ⟨_, _, _, _, rfl, h, heap_alloc_new _ _⟩
def RClaim (B lg lc : Nat) : Nat → Value → World → Prop
  | 0, v, _ => v = .int .i64 1
  | 1, v, w => Zr B v w
  | 2, v, _ => v = .slice (some ⟨lg, 0, none⟩) 1 lc
  | 3, v, _ => ∃ k c, v = .slice (some ⟨k, 0, none⟩) 1 c
  | 4, v, _ => v = .int .i64 1
  | 5, v, w => Zr B v w
  | 6, v, w => Vr B v w
  | 7, v, w => Zr B v w
  | 9, v, w => Zr B v w
  | _, _, _ => True
theorem RClaim.grow {B lg lc : Nat} : ∀ (j : Nat) (v : Value) (x y : World), Rv B x y → RClaim B lg lc j v x → RClaim B lg lc j v y
  | 0, _, _, _, _, h => h
  | 1, _, _, _, r, h => Zr.grow h r
  | 2, _, _, _, _, h => h
  | 3, _, _, _, _, h => h
  | 4, _, _, _, _, h => h
  | 5, _, _, _, r, h => Zr.grow h r
  | 6, _, _, _, r, h => Vr.grow h r
  | 7, _, _, _, r, h => Zr.grow h r
  | 8, _, _, _, _, _ => trivial
  | 9, _, _, _, r, h => Zr.grow h r
  | _ + 10, _, _, _, _, _ => trivial
/-- what stands behind Rows' makes: the rows, the variable of the ranks, the next -/
theorem setCell_zero {w : World} {r : Nat} (h : w.heap[r]? = some (.cells #[.int .i64 0] 3 (0, 0))) : w.setCell ⟨r, 0, none⟩ (.int .i64 0) = w := by
  have e : (w.setCell ⟨r, 0, none⟩ (.int .i64 0)).heap = w.heap := by
    apply Array.ext_getElem?
    intro i
    by_cases hi : i = r
    · subst hi
      rw [h]
      exact Joins.block_setCell (i := 0) h _
    · exact Below.heap_setCell _ _ _ _ hi
  have e2 : w.setCell ⟨r, 0, none⟩ (.int .i64 0) = { w with heap := (w.setCell ⟨r, 0, none⟩ (.int .i64 0)).heap } := rfl
  rw [e2, e]
def Made (B : Nat) (W : World) (s5 s6 s7 : Value) (wc : World) : Prop := Rv B W wc ∧ Zr B s5 wc ∧ Vr B s6 wc ∧ Zr B s7 wc
set_option maxRecDepth 20000 in
set_option maxHeartbeats 4000000 in
theorem srows_none (w : World) : Calls Tryz.prog 36 #[.slice none 0 0] w fun e w' => ∃ g c, e = .returned (.slice (some ⟨g, 0, none⟩) 1 c) ∧ Below w.heap.size w w' ∧ w'.ownsRow w.heap.size 3 1 (.slice (some ⟨g, 0, none⟩) 1 c) 1 [.int .i64 0] := by
  have SA := Lib.hid (sall_none w.heap.size 1 (w.alloc (.cells #[.slice none 0 0] 22)) (by rw [Joins.cell_of_block (heap_alloc_new w _)]; rfl))
  have hmk : ∀ W : World, (Instr.makeSlice 28 (.int .i64 1) (.int .i64 1)).run Tryz.prog W = .ok (.slice (some ⟨W.heap.size, 0, none⟩) 1 1) (W.alloc (.cells #[.int .i64 0] 3)) := fun W => by have := run_make_row' (P := Tryz.prog) 28 3 (.int .i64 0) 8 Tryz.underlying28 info3 rfl .i64 .i64 1 (by omega) (by omega) W; rw [show madeCells #[Value.int .i64 0] 1 = #[.int .i64 0] from by kernel_rfl] at this; simpa using this
  go_enter Tryz.func36, Tryz.ntmps36
  go_wp2_with fail
  refine SA.out.mono ?_
  rintro e w2 ⟨lg, lc, rfl, b2, o2⟩
  have B2 := Lib.hid ((Joins.below_alloc1 w (.cells #[.slice none 0 0] 22)).trans (b2.mono (by simp)))
  have LC := Lib.hid (owns_cell o2 0 _ rfl)
  have LL := Lib.hid (o2.lt lg rfl)
  clear b2 o2 SA
  obtain ⟨W, hW⟩ : ∃ W, W = w2.alloc (.cells #[.int .i64 1] 3) := ⟨_, rfl⟩
  have ht : W.heap[w2.heap.size]? = some (.cells #[.int .i64 1] 3 (0, 0)) := by rw [hW]; exact heap_alloc_new w2 _
  have hlgW : lg < W.heap.size := by have := LL.out.2; rw [hW, World.size_alloc]; omega
  have hlc : W.cell? ⟨lg, 0, none⟩ = some (.int .i64 0) := by rw [hW, World.cell?_of_block (w := w2) (Below.heap_alloc _ _ _ LL.out.2)]; exact LC.out
  have CL := Lib.hid (fun wx (hb : wx.heap[lg]? = W.heap[lg]?) => clone_one lg lc wx (by rw [World.cell?_of_block (w := W) hb]; exact hlc))
  have t0 : W.cell? ⟨w2.heap.size, 0, none⟩ = some (.int .i64 1) := by rw [Joins.cell_of_block ht]; rfl
  have T0 := Lib.hid (And.intro ht (lt_of_block ht))
  have LGW := Lib.hid hlgW
  have HW := Lib.hid hW
  clear hW hlc
  go_upto_region 3 with fail
  rw [← HW.out]
  go_cut [5, 6, 7] from 18 to 23 (fun s5 s6 s7 wc => Made W.heap.size W s5 s6 s7 wc)
  case first =>
    refine Open.wp_region_planned (T := RClaim W.heap.size lg lc) (R := Rv W.heap.size)
      [some 18, some 19, some 20, some 21, some 22, some 23, some 6, some 5, none, some 7]
      [⟨[], none⟩, ⟨[(0, some 18)], none⟩, ⟨[], none⟩, ⟨[(2, some 20)], none⟩, ⟨[], none⟩, ⟨[(4, some 22)], none⟩, ⟨[], none⟩, ⟨[(1, some 19)], none⟩, ⟨[(6, some 6), (3, some 21)], none⟩, ⟨[(5, some 23)], none⟩]
      (by kernel_rfl) (Rv.refl _ _) Rv.trans RClaim.grow ?_ (by kernel_rfl) (by kernel_rfl) (by kernel_rfl) ?_ ?_
    · intro j o v x ho hd h
      rcases j with _ | _ | _ | _ | _ | _ | _ | _ | _ | _ | j
      all_goals first
        | exact trivial
        | (simp at ho; subst ho; simp at hd)
    · refine ⟨?_, ?_, ?_, ?_, ?_, ?_, ?_, ?_, ?_, ?_, trivial⟩
      all_goals
        intro u w1 hg hd K hK
        simp only [Open.DepsS, RClaim, Open.uAt, and_true] at hd
        simp only [RClaim, Open.fillL, Act.put, List.setIfInBounds_toArray, List.set_cons_zero, List.set_cons_succ] at hK
        simp only [Open.fillL, List.setIfInBounds_toArray, List.set_cons_zero, List.set_cons_succ]
        have c1 : w1.cell? ⟨w2.heap.size, 0, none⟩ = some (.int .i64 1) := by rw [World.cell?_of_block (w := W.drew) (hg.keep _ T0.out.2 (.inl T0.out.2))]; exact t0
        have hsz : W.heap.size ≤ w1.heap.size := hg.size
        try simp only [hd] at hK
        try simp only [hd]
        first
          | (go_simp; first | (with_reducible exact hK _ _ rfl (Rv.refl _ _)) | (with_reducible exact hK _ _ (Zr.new hsz) (Rv.below (Joins.below_alloc1 _ _))) | (with_reducible exact hK _ _ (Vr.new hsz) (Rv.below (Joins.below_alloc1 _ _))) | (with_reducible exact hK _ _ hd (Rv.refl _ _)))
          | (go_simp; refine (CL.out w1 ((hg.keep lg (show lg < W.heap.size from LGW.out) (.inl LGW.out)).trans rfl)).mono ?_; rintro e w3 ⟨k, c', rfl, hb3, _⟩; exact hK _ _ ⟨k, c', rfl⟩ (Rv.below hb3))
          | skip
      obtain ⟨⟨q, a, n, c, e6, hq, hx⟩, k, c', e21⟩ := hd
      have x0 : w1.cell? ⟨q, 0, none⟩ = some (.slice a n c) := by rw [Joins.cell_of_block hx]; rfl
      have f0 := Joins.unfrozen_of_block hx 0
      simp only [e6, e21] at hK ⊢
      go_simp
      exact hK undef _ trivial (Rv.set hq hx _ _ _)
    · intro u w1 hg hd
      simp only [Open.AllS, RClaim, Open.uAt, and_true] at hd
      simp only [Open.fillL, List.setIfInBounds_toArray, List.set_cons_zero, List.set_cons_succ]
      obtain ⟨e18, h19, e20, h21, e22, h23, h6, h5, h8, h7⟩ := hd
      go_wp2_with fail
      go_meet
      exact ⟨⟨hg.os, hg.tape, hg.output, hg.size, hg.keep, hg.var⟩, h5, h6, h7⟩
  case rest =>
    obtain ⟨rv, ⟨r, rfl, hr, br⟩, ⟨q, a, n, c, rfl, hq, bq⟩, ⟨nx, rfl, hn, bn⟩⟩ := hcut
    have bt : wc.heap[w2.heap.size]? = some (.cells #[.int .i64 1] 3 (0, 0)) := (rv.keep _ T0.out.2 (.inl T0.out.2)).trans T0.out.1
    have BW := Lib.hid (show Below W.heap.size W wc from ⟨rv.os, rv.tape, rv.output, rv.size, fun k hk => rv.keep k hk (.inl hk)⟩)
    have r0 : wc.cell? ⟨r, 0, none⟩ = some (.int .i64 0) := by rw [Joins.cell_of_block br]; rfl
    have r1 := Joins.unfrozen_of_block br 0
    have n0 : wc.cell? ⟨nx, 0, none⟩ = some (.int .i64 0) := by rw [Joins.cell_of_block bn]; rfl
    have n1 := Joins.unfrozen_of_block bn 0
    have q0 : wc.cell? ⟨q, 0, none⟩ = some (.slice a n c) := by rw [Joins.cell_of_block bq]; rfl
    have q1 := Joins.unfrozen_of_block bq 0
    have tt : wc.cell? ⟨w2.heap.size, 0, none⟩ = some (.int .i64 1) := by rw [Joins.cell_of_block bt]; rfl
    have SR := Lib.hid (setCell_zero br)
    have SN := Lib.hid (setCell_zero bn)
    have BQ := Lib.hid bq
    have BT := Lib.hid bt
    have BR := Lib.hid br
    have BN := Lib.hid bn
    have yb := heap_alloc2_new wc (.cells #[.int .i64 1] 3) (.cells #[.nilFunc] 68)
    have y0 : ((wc.alloc (.cells #[.int .i64 1] 3)).alloc (.cells #[.nilFunc] 68)).cell? ⟨wc.heap.size + 1, 0, none⟩ = some .nilFunc := by rw [Joins.cell_of_block yb]; rfl
    have y1 := Joins.unfrozen_of_block yb 0
    clear rv br bq bn bt t0 CL yb
    go_wp2_with fail
    refine wp_loop_rounds 2 ?_
    rw [rounds_succ]
    go_wp2_with fail
    rw [SR.out, rounds_succ]
    go_wp2_with fail
    refine wp_loop_rounds 1 ?_
    rw [rounds_succ]
    go_wp2_with fail
    refine (sortf_one _ _ _ _).mono ?_
    rintro e w4 ⟨rfl, h4⟩
    have b4 : Below wc.heap.size wc w4 := by rw [h4]; exact Joins.below_alloc2 wc _ _
    clear h4 y0 y1 r0 r1 n0 n1 q0 q1 tt
    have br := (b4.block r (lt_of_block BR.out)).trans BR.out
    have bn := (b4.block nx (lt_of_block BN.out)).trans BN.out
    have bq := (b4.block q (lt_of_block BQ.out)).trans BQ.out
    have bt := (b4.block _ (lt_of_block BT.out)).trans BT.out
    have r0 : w4.cell? ⟨r, 0, none⟩ = some (.int .i64 0) := by rw [Joins.cell_of_block br]; rfl
    have n0 : w4.cell? ⟨nx, 0, none⟩ = some (.int .i64 0) := by rw [Joins.cell_of_block bn]; rfl
    have n1 := Joins.unfrozen_of_block bn 0
    have q0 : w4.cell? ⟨q, 0, none⟩ = some (.slice a n c) := by rw [Joins.cell_of_block bq]; rfl
    have q1 := Joins.unfrozen_of_block bq 0
    have tt : w4.cell? ⟨w2.heap.size, 0, none⟩ = some (.int .i64 1) := by rw [Joins.cell_of_block bt]; rfl
    have S4 := Lib.hid (setCell_zero bn)
    have B4 := Lib.hid b4
    have X := Lib.hid (And.intro br (And.intro bn (And.intro bq bt)))
    clear b4 br bn bq bt
    go_wp2_with fail
    rw [S4.out]
    refine wp_loop_rounds 1 ?_
    rw [rounds_succ]
    go_wp2_with fail
    obtain ⟨w5, hw5⟩ : ∃ w5, w5 = w4.setCell ⟨q, 0, none⟩ (.slice (some ⟨nx, 0, none⟩) 1 1) := ⟨_, rfl⟩
    rw [← hw5]
    obtain ⟨br, bn, bq, bt⟩ := X.out
    have e5 : ∀ (b : Nat) (x : Value), w4.heap[b]? = some (.cells #[x] 3 (0, 0)) → w5.heap[b]? = some (.cells #[x] 3 (0, 0)) := by
      intro b x hb
      rw [hw5, Below.heap_setCell _ _ _ _ (show b ≠ q from ?_)]
      · exact hb
      · rintro rfl
        rw [bq] at hb
        simp at hb
    have b5 : Below wc.heap.size wc w4 := B4.out
    have cr := e5 r _ br
    have cn := e5 nx _ bn
    have ct := e5 _ _ bt
    have cq : w5.heap[q]? = some (.cells #[.slice (some ⟨nx, 0, none⟩) 1 1] 28 (0, 0)) := by rw [hw5]; exact Joins.block_setCell (i := 0) bq _
    have z0 : w5.cell? ⟨r, 0, none⟩ = some (.int .i64 0) := by rw [Joins.cell_of_block cr]; rfl
    have z1 : w5.cell? ⟨nx, 0, none⟩ = some (.int .i64 0) := by rw [Joins.cell_of_block cn]; rfl
    have z2 : w5.cell? ⟨q, 0, none⟩ = some (.slice (some ⟨nx, 0, none⟩) 1 1) := by rw [Joins.cell_of_block cq]; rfl
    have z3 : w5.cell? ⟨w2.heap.size, 0, none⟩ = some (.int .i64 1) := by rw [Joins.cell_of_block ct]; rfl
    have FIN : Below w.heap.size w w5 ∧ w5.ownsRow w.heap.size 3 1 (.slice (some ⟨r, 0, none⟩) 1 1) 1 [.int .i64 0] := by
      have bW : Below w.heap.size w W := by rw [HW.out]; exact B2.out.alloc B2.out.size _
      have hws : w.heap.size ≤ W.heap.size := bW.size
      have bwc : Below w.heap.size w wc := bW.trans (BW.out.mono hws)
      have b44 : Below w.heap.size w w4 := bwc.trans (b5.mono bwc.size)
      refine ⟨by rw [hw5]; exact b44.setCell (p := ⟨q, 0, none⟩) (Nat.le_trans hws hq) _, rfl, .inr ⟨r, 1, _, rfl, Nat.le_trans hws hr, cr, Nat.le_refl _, by unfold maxLen; omega, rfl, rfl⟩⟩
    have F := Lib.hid FIN
    clear FIN hw5 br bn bq bt e5 b5 cr cn ct cq r0 n0 n1 q0 q1 tt
    go_quiet (fail)
    go_wp2_with fail
    go_ret
    exact ⟨r, 1, rfl, ⟨F.out.1.os, F.out.1.tape, F.out.1.output, F.out.1.size, F.out.1.block⟩, F.out.2⟩
end Go.Proofs.YtnadgcgnediakaaGreatDoor
namespace Go.Proofs.YtnadgcgnediakaaGreatDoor
open Go.ChangeShapes Go.WideShapes Go.ChangeAt Go.RowKit Go.Deep

set_option maxRecDepth 20000 in
set_option maxHeartbeats 2000000 in
theorem slast_none (w : World) : Calls Tryz.prog 66 #[.slice none 0 0] w fun e w' => ∃ g c, e = .returned (.slice (some ⟨g, 0, none⟩) 1 c) ∧ Below w.heap.size w w' ∧ w'.ownsRow w.heap.size 3 1 (.slice (some ⟨g, 0, none⟩) 1 c) 1 [.int .i64 0] := by
  have SA := Lib.hid (sall_none w.heap.size 1 (w.alloc (.cells #[.slice none 0 0] 22)) (by rw [Joins.cell_of_block (heap_alloc_new w _)]; rfl))
  obtain ⟨i0, hi, hz0, hz1, hz2⟩ := info_parts info3
  have hmk : ∀ W : World, (Instr.makeSlice 28 (.int .i64 0) (.int .i64 1)).run Tryz.prog W = .ok (.slice (some ⟨W.heap.size, 0, none⟩) 0 1) (W.alloc (.cells #[.int .i64 0] 3)) := fun W => by
    have := run_make (P := Tryz.prog) W 28 3 i0 (.int .i64 0) Tryz.underlying28 hi hz0 .i64 .i64 0 1 (by decide) (by decide) (by rw [hz2]; decide) (by decide)
    rw [hz1, show madeCells (Value.int .i64 0).cells ((1 : Int).toNat * 1) = #[.int .i64 0] from by kernel_rfl] at this
    exact this
  go_enter Tryz.func66, Tryz.ntmps66
  go_wp2_with fail
  refine SA.out.mono ?_
  rintro e w2 ⟨lg, lc, rfl, b2, o2⟩
  have B2 := Lib.hid ((Joins.below_alloc1 w (.cells #[.slice none 0 0] 22)).trans (b2.mono (by simp)))
  have LC := Lib.hid (owns_cell o2 0 _ rfl)
  have LL := Lib.hid (o2.lt lg rfl)
  clear b2 o2 SA
  obtain ⟨W, hW⟩ : ∃ W, W = w2.alloc (.cells #[.int .i64 0] 3) := ⟨_, rfl⟩
  have bW := Lib.hid (show Below w.heap.size w W from by rw [hW]; exact B2.out.alloc B2.out.size _)
  have oW := Lib.hid (show W.ownsRow w.heap.size 3 1 (.slice (some ⟨w2.heap.size, 0, none⟩) 0 1) 0 [] from ⟨rfl, .inr ⟨w2.heap.size, 1, _, rfl, B2.out.size, by rw [hW]; exact heap_alloc_new w2 _, by omega, by unfold maxLen; omega, rfl, rfl⟩⟩)
  have lW := Lib.hid (show W.cell? ⟨lg, 0, none⟩ = some (.int .i64 0) ∧ lg < W.heap.size from ⟨by rw [hW, World.cell?_of_block (w := w2) (Below.heap_alloc _ _ _ LL.out.2)]; exact LC.out, by rw [hW, World.size_alloc]; have := LL.out.2; omega⟩)
  have HW := Lib.hid hW
  clear hW
  go_wp2_with fail
  rw [← HW.out]
  refine (srows_none W).mono ?_
  rintro e w3 ⟨rg, rc, rfl, b3, o3⟩
  have r0 := owns_cell o3 0 _ rfl
  have l0 : w3.cell? ⟨lg, 0, none⟩ = some (.int .i64 0) := by rw [World.cell?_of_block (w := W) (b3.block _ lW.out.2)]; exact lW.out.1
  have O3 := Lib.hid (owns_same' oW.out b3.block)
  have B3 := Lib.hid (bW.out.trans (b3.mono bW.out.size))
  clear b3 o3
  go_wp2_with fail
  refine wp_loop_rounds 2 ?_
  rw [rounds_succ]
  go_wp2_with (first | (at_builtin; go_loud (refine wpList_append_own _ rfl _ _ 28 rfl w.heap.size 3 i0 (.int .i64 0) 1 8 Tryz.underlying28 hi hz0 hz1 hz2 rfl (by decide) _ 0 _ rfl (own_alloc O3.out _) ⟨w3.heap.size, 0, none⟩ 1 1 [.int .i64 0] rfl rfl (new_one w3 (.int .i64 0) 3) (one_int .i64 0) (by unfold maxLen; omega) (by omega) (alloc_lt B3.out.size) ?_)) | fail)
  intro v1 w4 hown hgr _
  obtain ⟨g, c', rfl, h1, h2⟩ := own_form hown (by omega)
  have B4 := Lib.hid ((B3.out.alloc B3.out.size _).grown hgr (alloc_lt B3.out.size) (fun k hk => (O3.out.lt k hk).1))
  have O4 := Lib.hid hown
  clear hown hgr
  go_wp2_with fail
  rw [rounds_succ]
  go_wp2_with fail
  go_ret
  exact ⟨g, c', rfl, B4.out, O4.out⟩
end Go.Proofs.YtnadgcgnediakaaGreatDoor
