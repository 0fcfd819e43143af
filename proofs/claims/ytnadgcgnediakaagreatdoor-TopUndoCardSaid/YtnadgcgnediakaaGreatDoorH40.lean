/- The walks of store.edit and store.Do where a block is taken out. -/
import Derived.Test.YtnadgcgnediakaaGreatDoorH33
import Derived.Test.YtnadgcgnediakaaGreatDoorH26
namespace Go.Proofs.YtnadgcgnediakaaGreatDoor
open Go.ChangeShapes Go.WideShapes Go.ChangeAt Go.RowKit Go.Deep

/-- letters with some taken out at a place -/
def sOutM (s : Nat → Nat) (a : Nat) : Nat → Nat → Nat
  | 0 => s
  | j + 1 => Wd.sOut (sOutM s a j) a
section
variable {o : Nat → Nat} {w : World} {A : At} {lb pb rate N sb most : Nat} {s ix : Nat → Nat} {S : Nat → Bool} {L : List Nat} {C : Nat → Nat} {all : Nat}
theorem Grows.delete {wr : World} (h : Grows o w A lb pb rate (N + 1) s (all + 1) wr) (hN : N ≤ 110) (hr1 : 1 ≤ rate) (hr2 : rate ≤ 64) (a : Nat) (ha : a ≤ N) :
    Calls Tryz.prog 39 #[.pointer (some ⟨lb, 0, none⟩), .int .i64 a] wr fun e w' => e = .returned (.int .i64 0) ∧ Grows o w A lb pb rate N (Wd.sOut s a) all w' := by
  obtain ⟨ix, S, L, C, h1, h2, h3, h4⟩ := h
  exact (ldelete_any h4 h1 h2 h3 hN hr1 hr2 a ha).mono fun e w' ⟨q, ix', S', L', C', r⟩ => ⟨q, ix', S', L', C', r⟩
set_option maxHeartbeats 2000000 in
theorem sedit_del (n : Nat) (h : IsLive w o A lb pb rate (N + n) ix S L C (all + n)) (hs : w.heap[sb]? = some (stC lb most)) (os : o sb = 3) (ar : Arr (N + n) s ix L C (all + n)) (hc : Wd.Cons (N + n) s ix) (hcov : Wd.Cov S (N + n) rate) (hN : N + n ≤ 110) (hr1 : 1 ≤ rate) (hr2 : rate ≤ 64) (a : Nat) (ha : a ≤ N) (dc : Nat) (da : Option Addr) :
    Calls Tryz.prog 14 #[.pointer (some ⟨sb, 0, none⟩), .agg #[.int .i64 2, .int .i64 a, .int .i64 n, .slice da 0 dc]] w fun e w' => e = .returned (.int .i64 0) ∧ Grows o w A lb pb rate N (sOutM s a n) all w' := by
  obtain ⟨W, hW⟩ : ∃ W, W = w.alloc (.cells #[.int .i64 2, .int .i64 a, .int .i64 n, .slice da 0 dc] 33) := ⟨_, rfl⟩
  have u1 : Upd o gl w W (ext o w.heap.size 6) := by rw [hW]; exact (Upd.start o gl w 6).alloc _
  have u1' : Upd o (fun _ => False) w W (ext o w.heap.size 6) := by rw [hW]; exact (Upd.start o (fun _ => False) w 6).alloc _
  have k1 := h.keep u1' (ext_no5 h.n5 _ (by omega)) (by simp)
  have hbx : W.heap[w.heap.size]? = some (.cells #[.int .i64 2, .int .i64 a, .int .i64 n, .slice da 0 dc] 33 (0, 0)) := by rw [hW]; exact heap_alloc_new w _
  have hs1 := u1'.heap hs (by simp)
  have G0 : Grows (ext o w.heap.size 6) W A lb pb rate (N + n) (sOutM s a 0) (all + n) W := ⟨ix, S, L, C, ar, hc, hcov, RdL.refl k1⟩
  have HAS := Lib.hid (shas_any (RdL.refl k1) hs1.1 ar.len (by omega) a n)
  have hq : hasQ (N + n) a n = true := by unfold hasQ; simp; omega
  rw [hq] at HAS
  have U1 := Lib.hid u1
  have BX := Lib.hid (And.intro hbx (show ext o w.heap.size 6 w.heap.size = 6 from ext_new (Nat.le_refl _)))
  have ST := Lib.hid (And.intro hs1.1 (hs1.2.trans os))
  have G := Lib.hid G0
  have HW := Lib.hid hW
  have c0 : W.cell? ⟨w.heap.size, 0, none⟩ = some (.int .i64 2) := by rw [Joins.cell_of_block hbx]; rfl
  have c1 : W.cell? ⟨w.heap.size, 1, none⟩ = some (.int .i64 a) := by rw [Joins.cell_of_block hbx]; rfl
  have c2 : W.cell? ⟨w.heap.size, 2, none⟩ = some (.int .i64 n) := by rw [Joins.cell_of_block hbx]; rfl
  have c3 : W.cell? ⟨w.heap.size, 3, none⟩ = some (.slice da 0 dc) := by rw [Joins.cell_of_block hbx]; rfl
  clear h hs os ar hc hcov u1 u1' k1 hbx hs1 G0 hq
  go_enter Tryz.func14, Tryz.ntmps14
  go_wp2_with fail
  rw [← HW.out]
  clear HW hW
  refine HAS.out.mono ?_
  rintro e w' ⟨rfl, rfl⟩
  go_wp2_with fail
  go_quiet (fail)
  go_wp2_with fail
  go_loopg [52] n (fun gg s52 wr => ∃ j : Nat, j + gg = n ∧ s52 = .int .i64 j ∧ Aside (Grows (ext o w.heap.size 6) W A lb pb rate (N + gg) (sOutM s a j) (all + gg) wr))
  case atStart => exact ⟨0, by omega, rfl, (G.out.drewN nq : Grows _ _ _ _ _ _ _ _ _ _)⟩
  case round =>
    obtain ⟨j, hj, rfl, g⟩ := hrel
    clear c0 c1 c2 c3
    by_cases hjn : j < n
    · have hjz : decide ((j : Int) < (n : Int)) = true := decide_eq_true (by omega)
      obtain ⟨i, hi⟩ : ∃ i, gk = i + 1 := ⟨gk - 1, by omega⟩
      have g1 : Grows (ext o w.heap.size 6) W A lb pb rate (N + i + 1) (sOutM s a j) (all + i + 1) wr := by
        have := g.out
        rw [hi] at this
        exact this
      obtain ⟨o2, u2, _⟩ := g1.upd
      have hbx := (u2.heap BX.out.1 (by rw [BX.out.2]; unfold gl; omega)).1
      have hst := (u2.heap ST.out.1 (by rw [ST.out.2]; unfold gl; omega)).1
      have c1 : wr.cell? ⟨w.heap.size, 1, none⟩ = some (.int .i64 a) := by rw [Joins.cell_of_block hbx]; rfl
      have s0 := stC_0 hst
      have LI := Lib.hid ((g1.drewN 1).delete (by omega) hr1 hr2 a (by omega))
      clear g g1 u2 hbx hst
      go_wp2_with fail
      go_region_with (first | (go_at_call 39; refine LI.out.mono ?_; rintro e w3 ⟨rfl, g3⟩; have G3 := Lib.hid g3; clear g3))
      all_goals go_wp2_with fail
      all_goals go_roundg i
      all_goals first
        | omega
        | exact ⟨j + 1, by omega, by go_num, G3.out⟩
    · have hjz : decide ((j : Int) < (n : Int)) = false := decide_eq_false (by omega)
      obtain rfl : j = n := by omega
      obtain rfl : gk = 0 := by omega
      go_wp2_with fail
      go_ret
      exact ⟨rfl, g.out.from U1.out⟩
set_option maxHeartbeats 2000000 in
theorem sdo_del (n : Nat) (h : IsLive w o A lb pb rate (N + n) ix S L C (all + n)) (hs : w.heap[sb]? = some (stC lb most)) (os : o sb = 3) (ar : Arr (N + n) s ix L C (all + n)) (hc : Wd.Cons (N + n) s ix) (hcov : Wd.Cov S (N + n) rate) (hN : N + n ≤ 110) (hr1 : 1 ≤ rate) (hr2 : rate ≤ 64) (a : Nat) (ha : a ≤ N) (dc : Nat) (da : Option Addr) :
    Calls Tryz.prog 7 #[.pointer (some ⟨sb, 0, none⟩), stepV 2 a n (.slice da 0 dc)] w fun e w' => e = .returned (resV 0 0 (.slice none 0 0) (.slice none 0 0)) ∧ Grows o w A lb pb rate N (sOutM s a n) all w' := by
  have tw := TwoB.mk' o w (stepC 2 a n (.slice da 0 dc))
  obtain ⟨W, hW⟩ : ∃ W, W = (w.alloc (stepC 2 a n (.slice da 0 dc))).alloc resC := ⟨_, rfl⟩
  rw [← hW] at tw
  have hs1 := tw.u.heap hs (by simp)
  have SE := Lib.hid (sedit_del n (h.keep tw.u (ext_no5 h.n5 _ (by omega)) (by simp)) hs1.1 (hs1.2.trans os) ar hc hcov hN hr1 hr2 a ha dc da)
  have TW := Lib.hid tw
  have st := tw.st
  unfold stepC at st
  have c0 : W.cell? ⟨w.heap.size, 0, none⟩ = some (.int .i64 2) := by rw [Joins.cell_of_block st]; rfl
  have c1 : W.cell? ⟨w.heap.size, 1, none⟩ = some (.int .i64 a) := by rw [Joins.cell_of_block st]; rfl
  have c2 : W.cell? ⟨w.heap.size, 2, none⟩ = some (.int .i64 n) := by rw [Joins.cell_of_block st]; rfl
  have c3 : W.cell? ⟨w.heap.size, 3, none⟩ = some (.slice da 0 dc) := by rw [Joins.cell_of_block st]; rfl
  unfold stepC resC at hW
  have HW := Lib.hid hW
  have hsz : (w.alloc (.cells #[.int .i64 2, .int .i64 a, .int .i64 n, .slice da 0 dc] 33)).heap.size = w.heap.size + 1 := by simp
  clear h hs os ar hc hcov tw hs1 st hW
  unfold stepV resV
  go_enter Tryz.func7, Tryz.ntmps7
  go_wp2_with fail
  rw [← HW.out]
  clear HW
  refine SE.out.mono ?_
  rintro e w2 ⟨rfl, g⟩
  obtain ⟨o2, u2, _⟩ := g.upd
  have hr := (u2.heap TW.out.rs (by rw [ext_new (by omega)]; unfold gl; omega)).1
  have G := Lib.hid g
  have R := Lib.hid hr
  obtain ⟨⟨x0, x1, x2, x3⟩, ⟨f0, f1, f2, f3⟩⟩ := resC_cells hr
  clear g u2 hr SE c0 c1 c2 c3
  go_wp2_with fail
  try simp only [Exit.inBlock, Exit.then]
  refine bodyPost_ret (results_cell_row rfl _ _ (w.heap.size + 1) 30 #[.int .i64 0, .int .i64 0, .slice none 0 0, .slice none 0 0] (0, 0) _ rfl (set4_heap R.out _ _ _ _) Tryz.underlying30 rfl (by kernel_rfl)) rfl ?_
  exact ⟨rfl, G.out.res (TW.out.u.mono (by simp)) (by omega) (by rw [TW.out.sz]; omega) (ext_new (by omega)) _ _ _ _⟩
end
end Go.Proofs.YtnadgcgnediakaaGreatDoor
