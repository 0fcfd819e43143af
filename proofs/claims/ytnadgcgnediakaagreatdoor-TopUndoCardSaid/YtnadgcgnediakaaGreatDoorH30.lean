/- What makes an empty text: wave.New. -/
import Derived.Test.YtnadgcgnediakaaGreatDoorH15
import Derived.Test.YtnadgcgnediakaaGreatDoorH23
import Derived.Deep.LoopGhost
import Derived.Deep.OwnRows
import Derived.BigRegion
import Derived.Deep.CutRange
import Derived.Deep.CutBlock
namespace Go.Proofs.YtnadgcgnediakaaGreatDoor
open Go.ChangeShapes Go.WideShapes Go.ChangeAt Go.RowKit Go.Deep

theorem info101 : (Tryz.prog.info? 101).map (fun i => (i.zero, i.size, i.bytes)) = some (some (.slice none 0 0), 1, 24) := by kernel_rfl
theorem info155 : (Tryz.prog.info? 155).map (fun i => (i.zero, i.size, i.bytes)) = some (some (.agg #[.pointer none, .int .i64 0, .int .i64 0]), 3, 24) := by kernel_rfl
theorem shl_two (lv : Nat) (h : lv < 9) : wrap64 (2 ^ lv) = ((2 ^ lv : Nat) : Int) := by
  have h2 : (2 : Nat) ^ lv ≤ 2 ^ 8 := Nat.pow_le_pow_right (by omega) (by omega)
  have h3 : ((2 ^ lv : Nat) : Int) = (2 : Int) ^ lv := by simp
  rw [← h3]
  generalize 2 ^ lv = x at h2
  unfold wrap64
  omega
theorem ext_no5' {o : Nat → Nat} (h : No5 o) (n : Nat) {c : Nat} (hc : c ≠ 5) : No5 (ext o n c) := by
  intro b
  unfold ext
  split
  · exact h b
  · exact hc
theorem made_get (z : Value) (M p : Nat) (h : p < M) : (madeCells #[z] M)[p]? = some z := by
  rw [← Array.getElem?_toList, toList_madeCells_one, List.getElem?_replicate, if_pos h]
theorem cell_made {wx : World} {r M : Nat} {z : Value} {ty : TypeId} (h : wx.heap[r]? = some (.cells (madeCells #[z] M) ty (0, 0))) (hM : 0 < M) : wx.cell? ⟨r, 0, none⟩ = some z := by
  rw [Joins.cell_of_block h]
  exact made_get _ _ _ hM
theorem bits_made {w0 wr : World} {o0 o1 : Nat → Nat} {wb lv M : Nat} {f : Nat → Value} {S sc : Nat → Nat} {tb : Nat → Nat → Nat} (mk : Mk w0 wr o0 o1 wb lv 0 f S sc tb) (hM : 0 < M) {w3 : World} {g cap : Nat}
    (hown : w3.ownsRow 0 4 1 (.slice (some ⟨g, 0, none⟩) 1 cap) 1 [.bool false]) (hgr : (((wr.alloc (.cells (madeCells #[.slice none 0 0] M) 101)).drew).alloc (.cells #[.bool false] 4)).grownBy w3 none) (hg : g = wr.heap.size + 2) :
    ∃ o2, Mk w0 (w3.setCell ⟨wr.heap.size, 0, none⟩ (.slice (some ⟨g, 0, none⟩) 1 cap)) o0 o2 wb lv 0 f S sc tb ∧ BitsRow (w3.setCell ⟨wr.heap.size, 0, none⟩ (.slice (some ⟨g, 0, none⟩) 1 cap)) o2 wr.heap.size M := by
  have u : Upd o1 (fun _ => False) wr (w3.setCell ⟨wr.heap.size, 0, none⟩ (.slice (some ⟨g, 0, none⟩) 1 cap)) (ext o1 wr.heap.size 0) :=
    (((((Upd.start o1 _ wr 0).alloc _).drew).alloc _).grown hgr (by simp)).set _ (.inl (Nat.le_refl _))
  refine ⟨_, mk.keep u (ext_no5' mk.n5 _ (show (0 : Nat) ≠ 5 by omega)) (by simp) (by simp) (by simp) (by simp), ?_⟩
  have hr3 : w3.heap[wr.heap.size]? = some (.cells (madeCells #[.slice none 0 0] M) 101 (0, 0)) := by
    rw [hgr.block _ (by simp [World.size_alloc, heap_drew]; omega) (by simp), Below.heap_alloc _ _ _ (by rw [heap_drew, World.size_alloc]; omega), heap_drew]
    exact heap_alloc_new wr _
  have hr5 := Joins.block_setCell (i := 0) hr3 (.slice (some ⟨g, 0, none⟩) 1 cap)
  refine ⟨g, cap, fun p hp => ?_, ?_, ?_, ext_new (Nat.le_refl _), ext_new (by omega)⟩
  · rw [Joins.cell_of_block hr5]
    show ((madeCells #[.slice none 0 0] M).setIfInBounds 0 _)[p]? = _
    by_cases e : p = 0
    · subst e
      rw [if_pos rfl, Array.getElem?_setIfInBounds_self_of_lt (by rw [size_madeCells]; exact hM)]
    · rw [if_neg e, Array.getElem?_setIfInBounds_ne (by omega), made_get _ _ _ hp]
  · obtain ⟨_, _, h, _⟩ := owns_row hown
    exact h
  · have := owns_cell hown 0 (.bool false) rfl
    rw [World.cell?_of_block (w := w3) (a := ⟨g, 0, none⟩) (Below.heap_setCell _ _ _ _ (show g ≠ wr.heap.size by omega))]
    exact this
set_option maxRecDepth 20000 in
set_option maxHeartbeats 2000000 in
theorem wnew_zero (o : Nat → Nat) (lb c : Nat) (w : World) (h5 : No5 o) (hlo : ∀ b, b < w.heap.size → o b = 0) (hl : w.cell? ⟨lb, 0, none⟩ = some (.int .i64 0)) :
    Calls Tryz.prog 122 #[.slice (some ⟨lb, 0, none⟩) 1 c] w fun e w' => ∃ wb S sc tb o', e = .returned (.tuple #[.pointer (some ⟨wb, 0, none⟩), .int .i64 0]) ∧ Upd o (fun _ => False) w w' o' ∧ No5 o' ∧ w.heap.size ≤ wb ∧ IsWave w' o' wb S sc tb [0] 0 := by
  have SI := Lib.hid (sis_sym 0 (by omega))
  obtain ⟨i4, hi, hz0, hz1, hz2⟩ := info_parts info4
  have HI4 := Lib.hid (And.intro hi (And.intro hz0 (And.intro hz1 hz2)))
  clear hi hz0 hz1 hz2
  obtain ⟨i155, hi, hz0, hz1, hz2⟩ := info_parts info155
  have HI5 := Lib.hid (And.intro hi (And.intro hz0 (And.intro hz1 hz2)))
  clear hi hz0 hz1 hz2
  have hll := cell_lt hl
  go_enter Tryz.func122, Tryz.ntmps122
  go_wp2_with fail
  refine wp_loop_rounds 2 ?_
  rw [rounds_succ]
  go_wp2_with (go_at_call 99; refine (SI.out _).mono ?_; rintro e w' ⟨rfl, rfl⟩)
  rw [rounds_succ]
  go_wp2_with fail
  have M0 : Mk w (w.alloc (.cells #[.slice none 0 0, .slice none 0 0, .slice none 0 0, .slice none 0 0, .slice none 0 0, .slice none 0 0, .slice none 0 0, .slice none 0 0, .slice none 0 0, .int .i64 1, .int .i64 0] 152)) o (ext o w.heap.size 1) w.heap.size 0 0 (fun _ => .slice none 0 0) (fun _ => 0) (fun _ => 0) (fun _ _ => 0) :=
    ⟨(Upd.start o _ w 1).alloc _, hlo, ext_no5' h5 _ (show (1 : Nat) ≠ 5 by omega), Nat.le_refl _, heap_alloc_new w _, ext_new (Nat.le_refl _), fun l hl => absurd hl (Nat.not_lt_zero _), fun _ _ => rfl, fun l hl => absurd hl (Nat.not_lt_zero _), fun l hl => absurd hl (Nat.not_lt_zero _), fun l q _ _ h => by omega, ⟨World.ownsRow_nil _ _ _ _, by simp [Value.ownBlock]⟩, fun l hl => absurd hl (Nat.not_lt_zero _)⟩
  have M00 := Lib.hid (show ∃ o' f S sc tb, Mk w _ o o' w.heap.size 0 0 f S sc tb from ⟨_, _, _, _, _, M0⟩)
  clear M0
  go_loopg [28] 9 (fun gg s28 wr => ∃ lv : Nat, lv + gg = 9 ∧ s28 = .int .i64 lv ∧ Aside (∃ o' f S sc tb, Mk w wr o o' w.heap.size lv 0 f S sc tb))
  case atStart => exact ⟨0, by omega, rfl, M00.out⟩
  case round =>
    obtain ⟨lv, hlv, rfl, hm⟩ := hrel
    by_cases hl9 : lv < 9
    · have hlz : decide ((lv : Int) < 9) = true := decide_eq_true (by omega)
      obtain ⟨M, hM⟩ : ∃ M, M = 2 ^ lv := ⟨_, rfl⟩
      have hMle : M ≤ 256 := by rw [hM]; exact Nat.pow_le_pow_right (by omega) (show lv ≤ 8 by omega)
      have hM0 : 0 < M := by rw [hM]; exact Nat.two_pow_pos _
      have hsh := shl_two lv hl9
      rw [← hM] at hsh
      have hmk := run_make_row' (P := Tryz.prog) 201 101 (.slice none 0 0) 24 Tryz.underlying201 info101 rfl .i64 .i64 M (by omega) (by omega)
      have SP := Lib.hid (spath_any 0 lv (by omega) hl9)
      rw [show pathN 0 lv = 0 by unfold pathN; simp] at SP
      have SB := Lib.hid (sbit_any 0 lv (by omega) hl9)
      rw [show bitN 0 lv = false by unfold bitN; simp] at SB
      have HM := Lib.hid hM
      obtain ⟨o1, f, S, sc, tb, mk⟩ := hm.out
      have MK := Lib.hid mk
      have hlr : wr.cell? ⟨lb, 0, none⟩ = some (.int .i64 0) := by rw [World.cell?_of_block (w := w) (mk.u.same lb hll (by simp))]; exact hl
      have hlz2 : lb < wr.heap.size := cell_lt hlr
      clear hM mk hm
      go_wp2_with fail
      obtain ⟨V, hV⟩ : ∃ V, V = wr := ⟨_, rfl⟩
      subst hV
      rw [hsh]
      clear hsh
      go_loopg [37] 1 (fun gg s37 wr => ∃ i : Nat, i + gg = 1 ∧ s37 = .int .i64 i ∧ Aside ((i = 0 ∧ wr = V.alloc (.cells (madeCells #[.slice none 0 0] M) 101)) ∨ (i = 1 ∧ ∃ o2, Mk w wr o o2 w.heap.size lv 0 f S sc tb ∧ BitsRow wr o2 V.heap.size M)))
      case atStart => exact ⟨0, by omega, rfl, .inl ⟨rfl, rfl⟩⟩
      case round =>
      obtain ⟨i, hi, rfl, hr⟩ := hrel
      by_cases hi1 : i < 1
      · have hiz : decide ((i : Int) < 1) = true := decide_eq_true (by omega)
        rcases hr.out with ⟨rfl, rfl⟩ | ⟨rfl, _⟩
        rotate_left
        · omega
        clear hr
        go_wp2_with (go_at_call 153; refine (SP.out _).mono ?_; rintro e w' ⟨rfl, rfl⟩)
        obtain ⟨W, hW⟩ : ∃ W, W = V.alloc (.cells (madeCells #[.slice none 0 0] M) 101) := ⟨_, rfl⟩
        rw [← hW]
        have hr := heap_alloc_new V (.cells (madeCells #[.slice none 0 0] M) 101)
        rw [← hW] at hr
        have r0 : W.cell? ⟨V.heap.size, 0, none⟩ = some (.slice none 0 0) := by
          rw [Joins.cell_of_block hr]
          exact made_get _ _ _ hM0
        have f0 := Joins.unfrozen_of_block hr 0
        have W1 := Lib.hid (show V.heap.size < W.heap.size from lt_of_block hr)
        have HR := Lib.hid hr
        have BM := Lib.hid (fun (w3 : World) (g cap : Nat) (hown : w3.ownsRow 0 4 1 (.slice (some ⟨g, 0, none⟩) 1 cap) 1 [.bool false]) (hgr : (W.drew.alloc (.cells #[.bool false] 4)).grownBy w3 none) (hg : (Value.slice none 0 0).ownBlock = some g ∨ g = (W.drew.alloc (.cells #[.bool false] 4)).heap.size) =>
          show (∃ o2, Mk w (w3.setCell ⟨V.heap.size, 0, none⟩ (.slice (some ⟨g, 0, none⟩) 1 cap)) o o2 w.heap.size lv 0 f S sc tb ∧ BitsRow (w3.setCell ⟨V.heap.size, 0, none⟩ (.slice (some ⟨g, 0, none⟩) 1 cap)) o2 V.heap.size M) ∧ w3.cell? ⟨V.heap.size, 0, none⟩ = some (.slice none 0 0) ∧ w3.frozen? ⟨V.heap.size, 0, none⟩ = false from by
            have hr3 : w3.heap[V.heap.size]? = some (.cells (madeCells #[.slice none 0 0] M) 101 (0, 0)) := by
              rw [hgr.block _ (by have := W1.out; rw [World.size_alloc, heap_drew]; omega) (by simp), Below.heap_alloc _ _ _ (show V.heap.size < W.drew.heap.size from W1.out)]; exact HR.out
            refine ⟨bits_made MK.out hM0 hown (by rw [← hW]; exact hgr) ?_, cell_made hr3 hM0, Joins.unfrozen_of_block hr3 0⟩
            rcases hg with e | e
            · simp [Value.ownBlock] at e
            · rw [e, World.size_alloc, heap_drew, hW, World.size_alloc])
        have HW := Lib.hid (show W.heap.size = V.heap.size + 1 by rw [hW, World.size_alloc])
        have w1 := W1.out
        clear hW hr
        go_region_law (first | (refine step_append_lies _ rfl (.tmp 49) (.tmp 53) 101 rfl 0 4 i4 _ 1 1 Tryz.underlying101 HI4.out.1 HI4.out.2.1 HI4.out.2.2.1 HI4.out.2.2.2 rfl (by decide) (.slice none 0 0) 0 [] (by simp [Act.eval]) (World.ownsRow_nil _ _ _ _) ⟨W.heap.size, 0, none⟩ 1 1 [.bool false] (by simp [Act.eval]) rfl (new_one W.drew (.bool false) 4) (one_bool _) (by decide) (by decide) (by decide) (Nat.zero_le _) _ rfl ?_; intro g cap w3 hown hgrow hat _; obtain ⟨b3, r3, f3⟩ := BM.out w3 g cap hown hgrow hat; have B3 := Lib.hid b3; clear b3 hown hgrow hat) | (go_simp; go_at_call 156; refine (SB.out _).mono ?_; rintro e w' ⟨rfl, rfl⟩))
        all_goals go_wp2_with fail
        all_goals go_roundg 0
        all_goals first
          | omega
          | exact ⟨1, by omega, by go_num, .inr ⟨rfl, B3.out⟩⟩
      · obtain rfl : i = 1 := by omega
        have hr2 : ∃ o2, Mk w wr o o2 w.heap.size lv 0 f S sc tb ∧ BitsRow wr o2 V.heap.size M := by
          rcases hr.out with ⟨e, _⟩ | ⟨_, h⟩
          · omega
          · exact h
        obtain ⟨o2, mk2, br2⟩ := hr2
        have MK2 := Lib.hid mk2
        have BR2 := Lib.hid br2
        clear mk2 br2 hlr MK hlz2 hr
        go_wp2_with fail
        go_loopg [59] M (fun gg s59 wr => ∃ p : Nat, p + gg = M ∧ s59 = .int .i64 p ∧ Aside (∃ o' f S sc tb, Mk w wr o o' w.heap.size lv p f S sc tb ∧ BitsRow wr o' V.heap.size M))
        case atStart => exact ⟨0, by omega, rfl, o2, f, S, sc, tb, MK2.out, BR2.out⟩
        case round =>
          obtain ⟨p, hp, rfl, hm4⟩ := hrel
          obtain ⟨o3, f3, S3, sc3, tb3, mk3, br3⟩ := hm4.out
          clear MK2 BR2 hm4
          by_cases hpm : p < M
          · have hpz : decide ((p : Int) < (M : Int)) = true := decide_eq_true (by omega)
            have hp2 : p < 2 ^ lv := by rw [← HM.out]; exact hpm
            obtain ⟨bv, hb, hsl⟩ := br3.at lv p hpm
            obtain ⟨va, vc, hf⟩ := own_shape mk3.cur.1
            have ct := mk3.top.cs lv hl9
            have ft := Joins.unfrozen_of_block mk3.top lv
            have hwb := lt_of_block mk3.top
            rw [hf] at ct
            have ST := Lib.hid (fun (w2 w4 : World) (t g cap : Nat) (o1 : Nat → Nat) b2 h0 ht hown hgr hat => mk3.stepB (w2 := w2) (w4 := w4) (t := t) (g := g) (cap := cap) (o1 := o1) br3 hM0 hl9 hp2 hf b2 h0 ht hown hgr hat)
            have TN := Lib.hid (tnew_sl (code lv p) (code_ge _ _) wr.drew bv (bitsOf [0] lv p) hsl)
            have CK := Lib.hid (show ∀ w2, Below wr.heap.size wr w2 → w2.cell? ⟨w.heap.size, lv, none⟩ = some (.slice va p vc) ∧ w.heap.size < w2.heap.size ∧ w2.ownsRow 0 155 3 (.slice va p vc) p (shCells lv (tb3 lv) p) from fun w2 b2 => ⟨by rw [World.cell?_of_block (w := wr) (b2.block _ hwb)]; exact ct, by have := b2.size; omega, owns_same (by rw [← hf]; exact mk3.cur.1) fun k hk => b2.block k (ownBlock_lt (by rw [← hf]; exact mk3.cur.1 : wr.ownsRow 0 155 3 (.slice va p vc) p (shCells lv (tb3 lv) p)) hk)⟩)
            have hl9i : (lv : Int) < 9 := by omega
            clear mk3 br3 hsl hf hp2
            go_wp2_with fail
            go_region_law (first | (refine step_append_lies _ rfl (.tmp 71) (.tmp 77) 149 rfl 0 155 i155 _ 3 24 Tryz.underlying149 HI5.out.1 HI5.out.2.1 HI5.out.2.2.1 HI5.out.2.2.2 rfl (by decide) (.slice va p vc) p (shCells lv (tb3 lv) p) (by simp [Act.eval]) (own_alloc OW.out _) ⟨w2.heap.size, 0, none⟩ 1 1 [.pointer (some ⟨t, 0, none⟩), .int .i64 lv, .int .i64 p] (by simp [Act.eval]) rfl (NW.out) (three_one _ _ _ rfl rfl rfl) (by decide) (by unfold maxLen; omega) (by omega) (Nat.zero_le _) _ rfl ?_; intro g cap w4 hown hgrow hat _; obtain ⟨b4, r4, f4⟩ := ST2.out w4 g cap hown hgrow hat; have B4 := Lib.hid b4; clear b4 hown hgrow hat) | (go_simp; go_at_call 176; refine TN.out.mono ?_; rintro e w2 ⟨t, o1, rfl, _, b2, h0, tr⟩; have ST2 := Lib.hid (fun (w4 : World) (g cap : Nat) hown hgr hat => ST.out w2 w4 t g cap o1 ⟨b2.os, b2.tape, b2.output, b2.size, b2.block⟩ h0 tr hown hgr hat); obtain ⟨ct2, hw2, ow⟩ := CK.out w2 ⟨b2.os, b2.tape, b2.output, b2.size, b2.block⟩; have OW := Lib.hid ow; have NW := Lib.hid (World.news_of_block (heap_alloc_new w2 (.cells #[.pointer (some ⟨t, 0, none⟩), .int .i64 lv, .int .i64 p] 155))); clear b2 h0 tr ow))
            all_goals go_wp2_with fail
            all_goals go_roundg (gk - 1)
            all_goals first
              | omega
              | (obtain ⟨o5, f5, S5, sc5, tb5, m5, b5⟩ := B4.out; exact ⟨p + 1, by omega, by go_num, o5, f5, S5, sc5, tb5, m5, b5⟩)
          · obtain rfl : p = M := by omega
            have HN := Lib.hid (show ∃ o' f S sc tb, Mk w wr o o' w.heap.size (lv + 1) 0 f S sc tb from by
              rw [HM.out] at mk3
              obtain ⟨S', sc', k⟩ := mk3.next hl9
              exact ⟨_, _, _, _, _, k⟩)
            clear mk3 br3
            go_wp2_with fail
            go_roundg (8 - lv)
            case measure => omega
            case rel => exact ⟨lv + 1, by omega, by go_num, HN.out⟩
    · have : lv = 9 := by omega
      subst this
      obtain ⟨o1, f, S, sc, tb, mk⟩ := hm.out
      have MK := Lib.hid mk
      clear mk hm
      go_wp2_with fail
      go_ret2
      exact ⟨_, S, sc, tb, o1, rfl, MK.out.u, MK.out.n5, Nat.le_refl _, MK.out.wave⟩
end Go.Proofs.YtnadgcgnediakaaGreatDoor
