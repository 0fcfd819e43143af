/- The walk of store.Do: a count. The walk of store.Do: a search. The walk of store.Do: a piece. -/
import Derived.Test.YtnadgcgnediakaaGreatDoorH33
import Derived.Deep.RegionHeld3
namespace Go.Proofs.YtnadgcgnediakaaGreatDoor
open Go.ChangeShapes Go.WideShapes Go.ChangeAt Go.RowKit Go.Deep

section
variable {o : Nat → Nat} {w : World} {A : At} {lb pb rate N sb most : Nat} {s ix : Nat → Nat} {S : Nat → Bool} {L : List Nat} {C : Nat → Nat} {all : Nat}
set_option maxHeartbeats 1000000 in
theorem sdo_count (h : IsLive w o A lb pb rate N ix S L C all) (hs : w.heap[sb]? = some (stC lb most)) (os : o sb = 3) (ar : Arr N s ix L C all) (hN : N ≤ 110) (a k : Int) (dv : Value) (n : Nat) (z : Nat → Fin 256) (hd : BySl w dv (byV z n)) (hn : n < 1000) :
    Calls Tryz.prog 7 #[.pointer (some ⟨sb, 0, none⟩), stepV 6 a k dv] w fun e w' => e = .returned (resV 0 ((narN L C N (came n z n)).2 - (narN L C N (came n z n)).1 : Nat) (.slice none 0 0) (.slice none 0 0)) ∧ RdL o w A lb pb rate N ix S L C all w' := by
  have tw := TwoB.mk' o w (stepC 6 a k dv)
  obtain ⟨W, hW⟩ : ∃ W, W = (w.alloc (stepC 6 a k dv)).alloc resC := ⟨_, rfl⟩
  rw [← hW] at tw
  have hs1 := tw.u.heap hs (by simp)
  have hb2 : BySl W dv (byV z n) := hd.same tw.u.size (fun b hb => tw.u.same b hb (by simp))
  have k1 := h.keep tw.u (ext_no5 h.n5 _ (by omega)) (by simp)
  have K1 := Lib.hid k1
  have r1 := RdL.refl k1
  have TW := Lib.hid tw
  obtain ⟨W2, hW2⟩ : ∃ W2, W2 = (W.alloc (.cells #[dv] 22)).drew := ⟨_, rfl⟩
  have u2 : Upd o (fun _ => False) w W2 (ext o w.heap.size 6) := by rw [hW2]; exact (tw.u.alloc _).drew
  have k2 : IsLive W2 (ext o w.heap.size 6) A lb pb rate N ix S L C all := h.keep u2 (ext_no5 h.n5 _ (by omega)) (by simp)
  have q2 : W2.cell? ⟨W.heap.size, 0, none⟩ = some dv := by rw [hW2, Joins.cell_of_block (show (W.alloc (.cells #[dv] 22)).drew.heap[W.heap.size]? = _ from heap_alloc_new W (.cells #[dv] 22))]; rfl
  have r2 : W2.heap[w.heap.size + 1]? = some resC := by rw [hW2]; exact (Below.heap_alloc W _ _ (by rw [tw.sz]; omega)).trans tw.rs
  have FC := Lib.hid (fcount_any k2 ar (by omega) W.heap.size 1 n dv z q2 (hd.same u2.size (fun b hb => u2.same b hb (by simp))) hn)
  have U2 := Lib.hid u2
  have z2 := stC_0 (u2.heap hs (by simp)).1
  have y2 : W2.cell? ⟨w.heap.size, 3, none⟩ = some dv := by rw [hW2]; exact (World.cell?_of_block (w := W) (show (W.alloc (.cells #[dv] 22)).heap[w.heap.size]? = _ from Below.heap_alloc W _ w.heap.size (by rw [tw.sz]; omega))).trans (by have := tw.st; unfold stepC at this; rw [Joins.cell_of_block this]; rfl)
  have F1 := Lib.hid (show SS sb lb w.heap.size dv (W.alloc (.cells #[dv] 22)) from by rw [hW2] at z2 y2; exact ⟨z2, y2⟩)
  have hsl : sb < w.heap.size := lt_of_block hs
  have OS := Lib.hid os
  have R2 := Lib.hid (show W2.heap[w.heap.size + 1]? = some resC ∧ w.heap.size + 1 < W2.heap.size from ⟨r2, lt_of_block r2⟩)
  rw [hW2] at FC R2 U2
  clear u2 k2 q2 r2 hW2
  have st := tw.st
  have hr := tw.rs
  unfold stepC at st
  have s0 := stC_0 hs1.1
  have s1 := stC_1 hs1.1
  have c0 : W.cell? ⟨w.heap.size, 0, none⟩ = some (.int .i64 6) := by rw [Joins.cell_of_block st]; rfl
  have c1 : W.cell? ⟨w.heap.size, 1, none⟩ = some (.int .i64 a) := by rw [Joins.cell_of_block st]; rfl
  have c2 : W.cell? ⟨w.heap.size, 2, none⟩ = some (.int .i64 k) := by rw [Joins.cell_of_block st]; rfl
  have c3 : W.cell? ⟨w.heap.size, 3, none⟩ = some dv := by rw [Joins.cell_of_block st]; rfl
  obtain ⟨da, dn, dc, rfl⟩ : ∃ da dn dc, dv = .slice da dn dc := by
    rcases hd.2 with ⟨e, e2⟩ | ⟨b, off, c, e, _⟩ | ⟨ad, c, e, _⟩
    · exact ⟨_, _, _, e⟩
    · exact ⟨_, _, _, e⟩
    · exact ⟨_, _, _, e⟩
  unfold stepC resC at hW
  have z0 := s0
  rw [hW] at z0
  have HW := Lib.hid hW
  have hsz : (w.alloc (.cells #[.int .i64 6, .int .i64 a, .int .i64 k, .slice da dn dc] 33)).heap.size = w.heap.size + 1 := by simp
  obtain ⟨⟨x0, x1, x2, x3⟩, ⟨f0, f1, f2, f3⟩⟩ := resC_cells hr
  have R := Lib.hid hr
  clear h hs ar hd tw hs1 hb2 k1 r1 st hr hW
  unfold stepV resV
  go_enter Tryz.func7, Tryz.ntmps7
  go_wp2_with fail
  rw [← HW.out]
  clear HW z0 
  have F0 := Lib.hid (show SS sb lb w.heap.size (.slice da dn dc) W from ⟨s0, c3⟩)
  clear s0 s1 c0 c1 c2 c3 x0 x1 x2 x3 f0 f1 f2 f3
  go_region_held3 (fun wz => wz.cell? ⟨sb, 0, none⟩ = some (.pointer (some ⟨lb, 0, none⟩)) ∧ wz.cell? ⟨w.heap.size, 3, none⟩ = some (.slice da dn dc)) (first | exact F0.out | exact F1.out | exact F3.out | exact F3.out.set (by omega) (by omega) _ _ _ _) (first | (go_at_call 17; refine FC.out.mono ?_; rintro e w3 ⟨rfl, o3, u3, k3⟩; have r3 := (u3.heap R2.out.1 (by rw [ext_new (by omega)]; unfold gl; omega)).1; have R3 := Lib.hid r3; have F3 := Lib.hid (F1.out.heap (u3.same _ (by have := U2.out.size; omega) (by rw [ext_old hsl, OS.out]; unfold gl; omega)) (u3.same _ (by have := U2.out.size; have := R2.out.2; omega) (by rw [ext_new (by omega)]; unfold gl; omega))); have U3 := Lib.hid u3; have K3 := Lib.hid k3; obtain ⟨⟨x0, x1, x2, x3⟩, ⟨f0, f1, f2, f3⟩⟩ := resC_cells r3; clear r3 u3 k3))
  all_goals go_wp2_with fail
  all_goals try simp only [Exit.inBlock, Exit.then]
  all_goals
    refine bodyPost_ret (results_cell_row rfl _ _ (w.heap.size + 1) 30 #[.int .i64 0, .int .i64 ((narN L C N (came n z n)).2 - (narN L C N (came n z n)).1 : Nat), .slice none 0 0, .slice none 0 0] (0, 0) _ rfl (set4_heap R3.out _ _ _ _) Tryz.underlying30 rfl (by kernel_rfl)) rfl ?_
    exact ⟨rfl, RdL.res ((U2.out.mono (by simp)).trans U3.out (fun _ h => h)) K3.out (by omega) ((U3.out.own _ R2.out.2).trans (ext_new (by omega))) _ _ _ _⟩
end
end Go.Proofs.YtnadgcgnediakaaGreatDoor
namespace Go.Proofs.YtnadgcgnediakaaGreatDoor
open Go.ChangeShapes Go.WideShapes Go.ChangeAt Go.RowKit Go.Deep

section
variable {o : Nat → Nat} {w : World} {A : At} {lb pb rate N sb most : Nat} {s ix : Nat → Nat} {S : Nat → Bool} {L : List Nat} {C : Nat → Nat} {all : Nat}
set_option maxHeartbeats 1000000 in
theorem sdo_loc (h : IsLive w o A lb pb rate N ix S L C all) (hs : w.heap[sb]? = some (stC lb most)) (os : o sb = 3) (ar : Arr N s ix L C all) (hN : N ≤ 110) (a k : Int) (dv : Value) (n : Nat) (z : Nat → Fin 256) (hd : BySl w dv (byV z n)) (hn : n < 1000) (hc : Wd.Cons N s ix) (hS : S 0 = true) (pl : Nat → Nat) (hpl : ∀ r, r ≤ N → pl r ≤ N ∧ ix (pl r) = r) :
    Calls Tryz.prog 7 #[.pointer (some ⟨sb, 0, none⟩), stepV 7 a k dv] w fun e w' => ∃ v, e = .returned (resV 0 ((narN L C N (came n z n)).2 - (narN L C N (came n z n)).1 : Nat) (.slice none 0 0) v) ∧
      StV o w A lb pb rate N ix S L C all 3 1 v ((narN L C N (came n z n)).2 - (narN L C N (came n z n)).1) (intsI ((placesZ pl (narN L C N (came n z n)).1 ((narN L C N (came n z n)).2 - (narN L C N (came n z n)).1)).mergeSort fun x y => decide (x ≤ y))) w' := by
  have tw := TwoB.mk' o w (stepC 7 a k dv)
  obtain ⟨W, hW⟩ : ∃ W, W = (w.alloc (stepC 7 a k dv)).alloc resC := ⟨_, rfl⟩
  rw [← hW] at tw
  have hs1 := tw.u.heap hs (by simp)
  have hb2 : BySl W dv (byV z n) := hd.same tw.u.size (fun b hb => tw.u.same b hb (by simp))
  have k1 := h.keep tw.u (ext_no5 h.n5 _ (by omega)) (by simp)
  have K1 := Lib.hid k1
  have r1 := RdL.refl k1
  have TW := Lib.hid tw
  obtain ⟨W2, hW2⟩ : ∃ W2, W2 = (W.alloc (.cells #[dv] 22)).drew := ⟨_, rfl⟩
  have u2 : Upd o (fun _ => False) w W2 (ext o w.heap.size 6) := by rw [hW2]; exact (tw.u.alloc _).drew
  have k2 : IsLive W2 (ext o w.heap.size 6) A lb pb rate N ix S L C all := h.keep u2 (ext_no5 h.n5 _ (by omega)) (by simp)
  have q2 : W2.cell? ⟨W.heap.size, 0, none⟩ = some dv := by rw [hW2, Joins.cell_of_block (show (W.alloc (.cells #[dv] 22)).drew.heap[W.heap.size]? = _ from heap_alloc_new W (.cells #[dv] 22))]; rfl
  have r2 : W2.heap[w.heap.size + 1]? = some resC := by rw [hW2]; exact (Below.heap_alloc W _ _ (by rw [tw.sz]; omega)).trans tw.rs
  have FC := Lib.hid (where_any k2 ar hc hS (by omega) pl hpl W.heap.size 1 n dv z q2 (hd.same u2.size (fun b hb => u2.same b hb (by simp))) hn)
  have U2 := Lib.hid u2
  have z2 := stC_0 (u2.heap hs (by simp)).1
  have y2 : W2.cell? ⟨w.heap.size, 3, none⟩ = some dv := by rw [hW2]; exact (World.cell?_of_block (w := W) (show (W.alloc (.cells #[dv] 22)).heap[w.heap.size]? = _ from Below.heap_alloc W _ w.heap.size (by rw [tw.sz]; omega))).trans (by have := tw.st; unfold stepC at this; rw [Joins.cell_of_block this]; rfl)
  have F1 := Lib.hid (show SS sb lb w.heap.size dv (W.alloc (.cells #[dv] 22)) from by rw [hW2] at z2 y2; exact ⟨z2, y2⟩)
  have hsl : sb < w.heap.size := lt_of_block hs
  have OS := Lib.hid os
  have R2 := Lib.hid (show W2.heap[w.heap.size + 1]? = some resC ∧ w.heap.size + 1 < W2.heap.size from ⟨r2, lt_of_block r2⟩)
  have W2R := Lib.hid (show w.heap.size + 1 < W2.heap.size from lt_of_block r2)
  rw [hW2] at FC R2 U2 W2R
  generalize (narN L C N (came n z n)).2 - (narN L C N (came n z n)).1 = M at FC ⊢
  generalize intsI ((placesZ pl (narN L C N (came n z n)).1 M).mergeSort fun x y => decide (x ≤ y)) = X at FC ⊢
  clear u2 k2 q2 r2 hW2
  have st := tw.st
  have hr := tw.rs
  unfold stepC at st
  have s0 := stC_0 hs1.1
  have s1 := stC_1 hs1.1
  have c0 : W.cell? ⟨w.heap.size, 0, none⟩ = some (.int .i64 7) := by rw [Joins.cell_of_block st]; rfl
  have c1 : W.cell? ⟨w.heap.size, 1, none⟩ = some (.int .i64 a) := by rw [Joins.cell_of_block st]; rfl
  have c2 : W.cell? ⟨w.heap.size, 2, none⟩ = some (.int .i64 k) := by rw [Joins.cell_of_block st]; rfl
  have c3 : W.cell? ⟨w.heap.size, 3, none⟩ = some dv := by rw [Joins.cell_of_block st]; rfl
  obtain ⟨da, dn, dc, rfl⟩ : ∃ da dn dc, dv = .slice da dn dc := by
    rcases hd.2 with ⟨e, e2⟩ | ⟨b, off, c, e, _⟩ | ⟨ad, c, e, _⟩
    · exact ⟨_, _, _, e⟩
    · exact ⟨_, _, _, e⟩
    · exact ⟨_, _, _, e⟩
  unfold stepC resC at hW
  have z0 := s0
  rw [hW] at z0
  have HW := Lib.hid hW
  have hsz : (w.alloc (.cells #[.int .i64 7, .int .i64 a, .int .i64 k, .slice da dn dc] 33)).heap.size = w.heap.size + 1 := by simp
  obtain ⟨⟨x0, x1, x2, x3⟩, ⟨f0, f1, f2, f3⟩⟩ := resC_cells hr
  have R := Lib.hid hr
  clear h hs ar hd tw hs1 hb2 k1 r1 st hr hW
  unfold stepV resV
  go_enter Tryz.func7, Tryz.ntmps7
  go_wp2_with fail
  rw [← HW.out]
  clear HW z0 
  have F0 := Lib.hid (show SS sb lb w.heap.size (.slice da dn dc) W from ⟨s0, c3⟩)
  clear s0 s1 c0 c1 c2 c3 x0 x1 x2 x3 f0 f1 f2 f3
  go_region_held3 (fun wz => wz.cell? ⟨sb, 0, none⟩ = some (.pointer (some ⟨lb, 0, none⟩)) ∧ wz.cell? ⟨w.heap.size, 3, none⟩ = some (.slice da dn dc)) (first | exact F0.out | exact F1.out | exact F3.out) (first | (go_at_call 18; refine FC.out.mono ?_; rintro e w3 ⟨v, rfl, o3, u3, k3, v3, g3⟩; obtain ⟨va, vc, rfl⟩ := own_shape v3.1; have V3 := Lib.hid v3; have V4 := Lib.hid g3; clear v3 g3; have r3 := (u3.heap R2.out.1 (by rw [ext_new (by omega)]; unfold gl; omega)).1; have R3 := Lib.hid r3; have F3 := Lib.hid (F1.out.heap (u3.same _ (by have := U2.out.size; omega) (by rw [ext_old hsl, OS.out]; unfold gl; omega)) (u3.same _ (by have := U2.out.size; have := R2.out.2; omega) (by rw [ext_new (by omega)]; unfold gl; omega))); have U3 := Lib.hid u3; have K3 := Lib.hid k3; obtain ⟨⟨x0, x1, x2, x3⟩, ⟨f0, f1, f2, f3⟩⟩ := resC_cells r3; clear r3 u3 k3))
  all_goals go_wp2_with fail
  all_goals try simp only [Exit.inBlock, Exit.then]
  all_goals
    refine bodyPost_ret (results_cell_row rfl _ _ (w.heap.size + 1) 30 #[.int .i64 0, .int .i64 M, .slice none 0 0, .slice va M vc] (0, 0) _ rfl (set4_heap R3.out _ _ _ _) Tryz.underlying30 rfl (by kernel_rfl)) rfl ?_
    exact ⟨_, rfl, StV.res ((U2.out.mono (by simp)).trans U3.out (fun _ h => h)) K3.out V3.out V4.out (by omega) W2R.out ((U3.out.own _ R2.out.2).trans (ext_new (by omega))) _ _ _ _⟩
end
end Go.Proofs.YtnadgcgnediakaaGreatDoor
namespace Go.Proofs.YtnadgcgnediakaaGreatDoor
open Go.ChangeShapes Go.WideShapes Go.ChangeAt Go.RowKit Go.Deep

/-- what Take's statement reads -/
def S5 (sb lb g : Nat) (a k : Int) (wz : World) : Prop := wz.cell? ⟨sb, 0, none⟩ = some (.pointer (some ⟨lb, 0, none⟩)) ∧ wz.cell? ⟨g, 1, none⟩ = some (.int .i64 a) ∧ wz.cell? ⟨g, 2, none⟩ = some (.int .i64 k)
theorem S5.heap {sb lb g : Nat} {a k : Int} {wz wx : World} (h : S5 sb lb g a k wz) (h1 : wx.heap[sb]? = wz.heap[sb]?) (h2 : wx.heap[g]? = wz.heap[g]?) : S5 sb lb g a k wx :=
  ⟨by rw [World.cell?_of_block (w := wz) h1]; exact h.1, by rw [World.cell?_of_block (w := wz) h2]; exact h.2.1, by rw [World.cell?_of_block (w := wz) h2]; exact h.2.2⟩
section
variable {o : Nat → Nat} {w : World} {A : At} {lb pb rate N sb most : Nat} {s ix : Nat → Nat} {S : Nat → Bool} {L : List Nat} {C : Nat → Nat} {all : Nat}
set_option maxHeartbeats 1000000 in
theorem sdo_take (h : IsLive w o A lb pb rate N ix S L C all) (hs : w.heap[sb]? = some (stC lb most)) (os : o sb = 3) (ar : Arr N s ix L C all) (hN : N ≤ 110) (hc : Wd.Cons N s ix) (a k : Nat) (hak : a + k ≤ N) (dv : Value) (n : Nat) (z : Nat → Fin 256) (hd : BySl w dv (byV z n)) :
    Calls Tryz.prog 7 #[.pointer (some ⟨sb, 0, none⟩), stepV 5 a k dv] w fun e w' => ∃ v, e = .returned (resV 0 0 v (.slice none 0 0)) ∧ StV o w A lb pb rate N ix S L C all 5 1 v k (pieceV s a k) w' := by
  have tw := TwoB.mk' o w (stepC 5 a k dv)
  obtain ⟨W, hW⟩ : ∃ W, W = (w.alloc (stepC 5 a k dv)).alloc resC := ⟨_, rfl⟩
  rw [← hW] at tw
  have hs1 := tw.u.heap hs (by simp)
  have hb2 : BySl W dv (byV z n) := hd.same tw.u.size (fun b hb => tw.u.same b hb (by simp))
  have k1 := h.keep tw.u (ext_no5 h.n5 _ (by omega)) (by simp)
  have K1 := Lib.hid k1
  have r1 := RdL.refl k1
  have TW := Lib.hid tw
  have u2 : Upd o (fun _ => False) w W.drew (ext o w.heap.size 6) := tw.u.drew
  have k2 : IsLive W.drew (ext o w.heap.size 6) A lb pb rate N ix S L C all := h.keep u2 (ext_no5 h.n5 _ (by omega)) (by simp)
  have FC := Lib.hid (ltake_any (RdL.refl k2) ar hc (by omega) a k hak)
  have U2 := Lib.hid u2
  have R2 := Lib.hid (show W.drew.heap[w.heap.size + 1]? = some resC ∧ w.heap.size + 1 < W.drew.heap.size from ⟨tw.rs, lt_of_block tw.rs⟩)
  have W2R := Lib.hid (show w.heap.size + 1 < W.drew.heap.size from lt_of_block tw.rs)
  have hsl : sb < w.heap.size := lt_of_block hs
  have OS := Lib.hid os
  generalize pieceV s a k = X at FC ⊢
  clear u2 k2
  have st := tw.st
  have hr := tw.rs
  unfold stepC at st
  have s0 := stC_0 hs1.1
  have s1 := stC_1 hs1.1
  have c0 : W.cell? ⟨w.heap.size, 0, none⟩ = some (.int .i64 5) := by rw [Joins.cell_of_block st]; rfl
  have c1 : W.cell? ⟨w.heap.size, 1, none⟩ = some (.int .i64 a) := by rw [Joins.cell_of_block st]; rfl
  have c2 : W.cell? ⟨w.heap.size, 2, none⟩ = some (.int .i64 k) := by rw [Joins.cell_of_block st]; rfl
  have c3 : W.cell? ⟨w.heap.size, 3, none⟩ = some dv := by rw [Joins.cell_of_block st]; rfl
  obtain ⟨da, dn, dc, rfl⟩ : ∃ da dn dc, dv = .slice da dn dc := by
    rcases hd.2 with ⟨e, e2⟩ | ⟨b, off, c, e, _⟩ | ⟨ad, c, e, _⟩
    · exact ⟨_, _, _, e⟩
    · exact ⟨_, _, _, e⟩
    · exact ⟨_, _, _, e⟩
  unfold stepC resC at hW
  have z0 := s0
  rw [hW] at z0
  have HW := Lib.hid hW
  have hsz : (w.alloc (.cells #[.int .i64 5, .int .i64 a, .int .i64 k, .slice da dn dc] 33)).heap.size = w.heap.size + 1 := by simp
  obtain ⟨⟨x0, x1, x2, x3⟩, ⟨f0, f1, f2, f3⟩⟩ := resC_cells hr
  have R := Lib.hid hr
  clear h hs ar hd tw hs1 hb2 k1 r1 st hr hW
  unfold stepV resV
  go_enter Tryz.func7, Tryz.ntmps7
  go_wp2_with fail
  rw [← HW.out]
  clear HW z0 
  have F0 := Lib.hid (show S5 sb lb w.heap.size a k W from ⟨s0, c1, c2⟩)
  clear s0 s1 c0 c1 c2 c3 x0 x1 x2 x3 f0 f1 f2 f3
  go_region_held3 (fun wz => wz.cell? ⟨sb, 0, none⟩ = some (.pointer (some ⟨lb, 0, none⟩)) ∧ wz.cell? ⟨w.heap.size, 1, none⟩ = some (.int .i64 a) ∧ wz.cell? ⟨w.heap.size, 2, none⟩ = some (.int .i64 k)) (first | exact F0.out | exact F3.out) (first | (go_at_call 16; refine FC.out.mono ?_; rintro e w3 ⟨v, rfl, o3, u3, k3, v3, g3⟩; obtain ⟨va, vc, rfl⟩ := own_shape v3.1; have V3 := Lib.hid v3; have V4 := Lib.hid g3; clear v3 g3; have r3 := (u3.heap R2.out.1 (by rw [ext_new (by omega)]; unfold gl; omega)).1; have R3 := Lib.hid r3; have F3 := Lib.hid (F0.out.heap (u3.same _ (by have := U2.out.size; omega) (by rw [ext_old hsl, OS.out]; unfold gl; omega)) (u3.same _ (by have := U2.out.size; have := R2.out.2; omega) (by rw [ext_new (by omega)]; unfold gl; omega))); have U3 := Lib.hid u3; have K3 := Lib.hid k3; obtain ⟨⟨x0, x1, x2, x3⟩, ⟨f0, f1, f2, f3⟩⟩ := resC_cells r3; clear r3 u3 k3))
  all_goals go_wp2_with fail
  all_goals try simp only [Exit.inBlock, Exit.then]
  all_goals
    refine bodyPost_ret (results_cell_row rfl _ _ (w.heap.size + 1) 30 #[.int .i64 0, .int .i64 0, .slice va k vc, .slice none 0 0] (0, 0) _ rfl (set4_heap R3.out _ _ _ _) Tryz.underlying30 rfl (by kernel_rfl)) rfl ?_
    exact ⟨_, rfl, StV.res ((U2.out.mono (by simp)).trans U3.out (fun _ h => h)) K3.out V3.out V4.out (by omega) W2R.out ((U3.out.own _ R2.out.2).trans (ext_new (by omega))) _ _ _ _⟩
set_option maxHeartbeats 1000000 in
theorem sdo_bad (h : IsLive w o A lb pb rate N ix S L C all) (hs : w.heap[sb]? = some (stC lb most)) (os : o sb = 3) (ar : Arr N s ix L C all) (hN : N ≤ 110) (a k : Int) (hak : ¬ (0 ≤ a ∧ 0 ≤ k ∧ a ≤ N ∧ k ≤ N - a)) (dv : Value) (n : Nat) (z : Nat → Fin 256) (hd : BySl w dv (byV z n)) :
    Calls Tryz.prog 7 #[.pointer (some ⟨sb, 0, none⟩), stepV 5 a k dv] w fun e w' => e = .returned (resV 2 0 (.slice none 0 0) (.slice none 0 0)) ∧ RdL o w A lb pb rate N ix S L C all w' := by
  have tw := TwoB.mk' o w (stepC 5 a k dv)
  obtain ⟨W, hW⟩ : ∃ W, W = (w.alloc (stepC 5 a k dv)).alloc resC := ⟨_, rfl⟩
  rw [← hW] at tw
  have hs1 := tw.u.heap hs (by simp)
  have hb2 : BySl W dv (byV z n) := hd.same tw.u.size (fun b hb => tw.u.same b hb (by simp))
  have k1 := h.keep tw.u (ext_no5 h.n5 _ (by omega)) (by simp)
  have K1 := Lib.hid k1
  have r1 := RdL.refl k1
  have TW := Lib.hid tw
  have u2 : Upd o (fun _ => False) w W.drew (ext o w.heap.size 6) := tw.u.drew
  have k2 : IsLive W.drew (ext o w.heap.size 6) A lb pb rate N ix S L C all := h.keep u2 (ext_no5 h.n5 _ (by omega)) (by simp)
  have FC := Lib.hid (ltake_bad (RdL.refl k2) ar (by omega) a k hak)
  have U2 := Lib.hid u2
  have R2 := Lib.hid (show W.drew.heap[w.heap.size + 1]? = some resC ∧ w.heap.size + 1 < W.drew.heap.size from ⟨tw.rs, lt_of_block tw.rs⟩)
  have W2R := Lib.hid (show w.heap.size + 1 < W.drew.heap.size from lt_of_block tw.rs)
  have hsl : sb < w.heap.size := lt_of_block hs
  have OS := Lib.hid os
  have K2 := Lib.hid k2
  clear u2 k2
  have st := tw.st
  have hr := tw.rs
  unfold stepC at st
  have s0 := stC_0 hs1.1
  have s1 := stC_1 hs1.1
  have c0 : W.cell? ⟨w.heap.size, 0, none⟩ = some (.int .i64 5) := by rw [Joins.cell_of_block st]; rfl
  have c1 : W.cell? ⟨w.heap.size, 1, none⟩ = some (.int .i64 a) := by rw [Joins.cell_of_block st]; rfl
  have c2 : W.cell? ⟨w.heap.size, 2, none⟩ = some (.int .i64 k) := by rw [Joins.cell_of_block st]; rfl
  have c3 : W.cell? ⟨w.heap.size, 3, none⟩ = some dv := by rw [Joins.cell_of_block st]; rfl
  obtain ⟨da, dn, dc, rfl⟩ : ∃ da dn dc, dv = .slice da dn dc := by
    rcases hd.2 with ⟨e, e2⟩ | ⟨b, off, c, e, _⟩ | ⟨ad, c, e, _⟩
    · exact ⟨_, _, _, e⟩
    · exact ⟨_, _, _, e⟩
    · exact ⟨_, _, _, e⟩
  unfold stepC resC at hW
  have z0 := s0
  rw [hW] at z0
  have HW := Lib.hid hW
  have hsz : (w.alloc (.cells #[.int .i64 5, .int .i64 a, .int .i64 k, .slice da dn dc] 33)).heap.size = w.heap.size + 1 := by simp
  obtain ⟨⟨x0, x1, x2, x3⟩, ⟨f0, f1, f2, f3⟩⟩ := resC_cells hr
  have R := Lib.hid hr
  clear h hs ar hd tw hs1 hb2 k1 r1 st hr hW
  unfold stepV resV
  go_enter Tryz.func7, Tryz.ntmps7
  go_wp2_with fail
  rw [← HW.out]
  clear HW z0 
  have F0 := Lib.hid (show S5 sb lb w.heap.size a k W from ⟨s0, c1, c2⟩)
  clear s0 s1 c0 c1 c2 c3 x0 x1 x2 x3 f0 f1 f2 f3
  go_region_held3 (fun wz => wz.cell? ⟨sb, 0, none⟩ = some (.pointer (some ⟨lb, 0, none⟩)) ∧ wz.cell? ⟨w.heap.size, 1, none⟩ = some (.int .i64 a) ∧ wz.cell? ⟨w.heap.size, 2, none⟩ = some (.int .i64 k)) (first | exact F0.out) (first | (go_at_call 16; refine FC.out.mono ?_; rintro e w3 ⟨rfl, rfl⟩; have r3 := TW.out.rs; have R3 := Lib.hid (R2.out.1); obtain ⟨⟨x0, x1, x2, x3⟩, ⟨f0, f1, f2, f3⟩⟩ := resC_cells r3; clear r3))
  all_goals go_wp2_with fail
  all_goals try simp only [Exit.inBlock, Exit.then]
  all_goals
    refine bodyPost_ret (results_cell_row rfl _ _ (w.heap.size + 1) 30 #[.int .i64 2, .int .i64 0, .slice none 0 0, .slice none 0 0] (0, 0) _ rfl (set4_heap R3.out _ _ _ _) Tryz.underlying30 rfl (by kernel_rfl)) rfl ?_
    exact ⟨rfl, RdL.res (U2.out.mono (by simp)) K2.out (by omega) (ext_new (by omega)) _ _ _ _⟩
end
end Go.Proofs.YtnadgcgnediakaaGreatDoor
