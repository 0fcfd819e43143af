/- The reference's walk: Sum. -/
import Derived.Test.YtnadgcgnediakaaGreatDoorH23
import Derived.Test.YtnadgcgnediakaaGreatDoorH33
import Derived.StillTailTactics
namespace Go.Proofs.YtnadgcgnediakaaGreatDoor
open Go.ChangeShapes Go.WideShapes Go.ChangeAt Go.RowKit Go.Deep

def sumL (ls : List Nat) (i : Nat) : Nat := (ls.take i).sum
theorem sumL_succ (ls : List Nat) (i : Nat) (h : i < ls.length) : sumL ls (i + 1) = sumL ls i + ls[i] := by
  unfold sumL
  rw [List.take_add_one, List.getElem?_eq_getElem h, List.sum_append]
  simp
theorem sumL_le (ls : List Nat) (hn : ∀ n ∈ ls, n < 128) : ∀ i, i ≤ ls.length → sumL ls i ≤ 128 * i
  | 0, _ => by simp [sumL]
  | i + 1, h => by
    rw [sumL_succ ls i (by omega)]
    have := sumL_le ls hn i (by omega)
    have := hn ls[i] (List.getElem_mem _)
    omega
set_option maxRecDepth 20000 in
set_option maxHeartbeats 4000000 in
theorem sum_any (B sb sc : Nat) (ls : List Nat) (m : Nat) (w : World) (h : w.ownsRow B 46 4 (.slice (some ⟨sb, 0, none⟩) m sc) m (shC ls)) (hm : ls.length = m) (hm2 : m < 1000) (hn : ∀ n ∈ ls, n < 128) :
    Calls Tryz.prog 28 #[.slice (some ⟨sb, 0, none⟩) m sc] w fun e w' => e = .returned (.agg #[.int .i64 (sumL ls m), .int .i64 0, .int .i64 m, .int .i64 m]) ∧ Below w.heap.size w w' := by
  have sbl : sb < w.heap.size := (h.lt sb rfl).2
  have CE := Lib.hid (fun j u (hu : (shC ls)[j]? = some u) => owns_cell h j u hu)
  have G := Lib.hid (shC_get ls)
  have HM := Lib.hid hm
  have SL := Lib.hid (fun i (hi : i ≤ m) => sumL_le ls hn i (by omega))
  have SS := Lib.hid (sumL_succ ls)
  clear h hm hn
  go_enter Tryz.func28, Tryz.ntmps28
  go_wp2_with fail
  go_loopg [4] m (fun gg s4 wr => ∃ i : Nat, i + gg = m ∧ s4 = .int .i64 i ∧ Aside (Below w.heap.size w wr) ∧ Aside (wr.heap[w.heap.size]? = some (.cells #[.int .i64 0, .int .i64 0, .int .i64 0, .int .i64 0] 46 (0, 0))) ∧ Aside (wr.heap[w.heap.size + 1]? = some (.cells #[.int .i64 (sumL ls i), .int .i64 0, .int .i64 i, .int .i64 i] 46 (0, 0))))
  case atStart =>
    refine ⟨0, by omega, rfl, ?_, ?_, ?_⟩
    · exact (Joins.below_alloc2 w _ _ : Below w.heap.size w _)
    · exact (show _ = some _ from (Below.heap_alloc (w.alloc _) _ w.heap.size (by simp)).trans (heap_alloc_new w _))
    · exact (show _ = some _ from heap_alloc2_new w _ _)
  case round =>
    obtain ⟨i, hi, rfl, hb, h0, h1⟩ := hrel
    have BB := Lib.hid hb.out
    have R0 := Lib.hid h0.out
    have R1 := Lib.hid h1.out
    have H1 := h1.out
    have H0 := h0.out
    clear hb h0 h1
    by_cases him : i < m
    · have hiz : decide ((i : Int) < (m : Int)) = true := decide_eq_true (by omega)
      obtain ⟨g0, g1, g2, g3⟩ := G.out i (by rw [HM.out]; exact him)
      have hsu := SS.out i (by rw [HM.out]; exact him)
      have hs1 := SL.out (i + 1) (by omega)
      have hs0 := SL.out i (by omega)
      have S1 := Lib.hid hsu
      have hbn : ls[i]'(by rw [HM.out]; exact him) ≤ 128000 := by omega
      obtain ⟨n, hne⟩ : ∃ n, n = ls[i]'(by rw [HM.out]; exact him) := ⟨_, rfl⟩
      rw [← hne] at g0 hsu hbn
      have rd : ∀ j u, (shC ls)[j]? = some u → wr.cell? ⟨sb, j, none⟩ = some u := fun j u hu => by rw [World.cell?_of_block (w := w) (BB.out.block _ sbl)]; exact CE.out j u hu
      have c0 := rd _ _ g0
      have c1 := rd _ _ g1
      have c2 := rd _ _ g2
      have c3 := rd _ _ g3
      have x0 : wr.cell? ⟨w.heap.size + 1, 0, none⟩ = some (.int .i64 (sumL ls i : Nat)) := by rw [Joins.cell_of_block H1]; rfl
      have x1 : wr.cell? ⟨w.heap.size + 1, 1, none⟩ = some (.int .i64 0) := by rw [Joins.cell_of_block H1]; rfl
      have x2 : wr.cell? ⟨w.heap.size + 1, 2, none⟩ = some (.int .i64 i) := by rw [Joins.cell_of_block H1]; rfl
      have x3 : wr.cell? ⟨w.heap.size + 1, 3, none⟩ = some (.int .i64 i) := by rw [Joins.cell_of_block H1]; rfl
      have f0 := Joins.unfrozen_of_block H1 0
      have f1 := Joins.unfrozen_of_block H1 1
      have f2 := Joins.unfrozen_of_block H1 2
      have f3 := Joins.unfrozen_of_block H1 3
      have HSU := Lib.hid hsu
      obtain ⟨T, hT⟩ : ∃ T, T = sumL ls i := ⟨_, rfl⟩
      have HT := Lib.hid hT
      rw [← hT] at x0 hs0
      clear rd g0 g1 g2 g3 hne H0 H1 hsu hT hs1
      have e2 : IntKind.i64.wrap ((T : Int) + n) = T + n := by rw [IntKind.wrap_i64]; omega
      have mx : max (0 : Int) 0 = 0 := by decide
      go_wp2_with fail
      go_still_tail 33, (by kernel_rfl)
      go_wp2_with fail
      go_roundg (gk - 1)
      case measure => omega
      case rel =>
        refine ⟨i + 1, by omega, by go_num, ?_, ?_, ?_⟩
        · exact ((((BB.out.drew.setCell (p := ⟨w.heap.size + 1, 0, none⟩) (Nat.le_succ _) _).setCell (p := ⟨w.heap.size + 1, 1, none⟩) (Nat.le_succ _) _).setCell (p := ⟨w.heap.size + 1, 2, none⟩) (Nat.le_succ _) _).setCell (p := ⟨w.heap.size + 1, 3, none⟩) (Nat.le_succ _) _ : Below w.heap.size w _)
        · exact (show _ = some _ from (set4_ne (wz := wr.drew) (show w.heap.size ≠ w.heap.size + 1 by omega) _ _ _ _).trans R0.out)
        · have hv : ((sumL ls (i + 1) : Nat) : Int) = (T : Int) + n := by
            have := HSU.out
            have := HT.out
            omega
          rw [hv, show ((i + 1 : Nat) : Int) = (i : Int) + 1 by omega]
          exact (show _ = some _ from set4_heap (w := wr.drew) R1.out _ _ _ _)
    · have hiz : decide ((i : Int) < (m : Int)) = false := decide_eq_false (by omega)
      obtain rfl : i = m := by omega
      have x0 : wr.cell? ⟨w.heap.size + 1, 0, none⟩ = some (.int .i64 (sumL ls i : Nat)) := by rw [Joins.cell_of_block H1]; rfl
      have x1 : wr.cell? ⟨w.heap.size + 1, 1, none⟩ = some (.int .i64 0) := by rw [Joins.cell_of_block H1]; rfl
      have x2 : wr.cell? ⟨w.heap.size + 1, 2, none⟩ = some (.int .i64 i) := by rw [Joins.cell_of_block H1]; rfl
      have x3 : wr.cell? ⟨w.heap.size + 1, 3, none⟩ = some (.int .i64 i) := by rw [Joins.cell_of_block H1]; rfl
      have y0 : wr.cell? ⟨w.heap.size, 0, none⟩ = some (.int .i64 0) := by rw [Joins.cell_of_block H0]; rfl
      have y1 : wr.cell? ⟨w.heap.size, 1, none⟩ = some (.int .i64 0) := by rw [Joins.cell_of_block H0]; rfl
      have y2 : wr.cell? ⟨w.heap.size, 2, none⟩ = some (.int .i64 0) := by rw [Joins.cell_of_block H0]; rfl
      have y3 : wr.cell? ⟨w.heap.size, 3, none⟩ = some (.int .i64 0) := by rw [Joins.cell_of_block H0]; rfl
      have f0 := Joins.unfrozen_of_block H0 0
      have f1 := Joins.unfrozen_of_block H0 1
      have f2 := Joins.unfrozen_of_block H0 2
      have f3 := Joins.unfrozen_of_block H0 3
      clear H0 H1
      go_wp2_with fail
      try simp only [Exit.inBlock, Exit.then]
      refine bodyPost_ret (results_cell_row rfl _ _ w.heap.size 46 #[.int .i64 (sumL ls i : Nat), .int .i64 0, .int .i64 i, .int .i64 i] (0, 0) _ rfl (set4_heap R0.out _ _ _ _) Tryz.underlying46 rfl (by kernel_rfl)) rfl ?_
      exact ⟨rfl, (((BB.out.setCell (p := ⟨w.heap.size, 0, none⟩) (Nat.le_refl _) _).setCell (p := ⟨w.heap.size, 1, none⟩) (Nat.le_refl _) _).setCell (p := ⟨w.heap.size, 2, none⟩) (Nat.le_refl _) _).setCell (p := ⟨w.heap.size, 3, none⟩) (Nat.le_refl _) _⟩
end Go.Proofs.YtnadgcgnediakaaGreatDoor
