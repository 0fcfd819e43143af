/- The walk of wave.All, Len. The walks of walk: Len, is, Below, Back, Put, Cut, Change, Count, All. The walks of walk.Back, All. The walks of live's small functions: in, out, beside. Plain law: a transform as a list, with its counts; what edits make of it. -/
import Derived.Test.YtnadgcgnediakaaGreatDoorG12
import Derived.Deep.OwnRows
import Derived.Test.YtnadgcgnediakaaGreatDoorG13
import Derived.Test.YtnadgcgnediakaaGreatDoorG01
namespace Go.Proofs.YtnadgcgnediakaaGreatDoor
open Go.ChangeShapes Go.WideShapes Go.ChangeAt Go.RowKit Go.Deep

theorem wlen_any (o : Nat → Nat) (wb : Nat) (S sc : Nat → Nat) (tb : Nat → Nat → Nat) (L : List Nat) (vis : Int) (w : World) (h : IsWave w o wb S sc tb L vis) :
    Calls Tryz.prog 95 #[.pointer (some ⟨wb, 0, none⟩)] w fun e w' => e = .returned (.int .i64 L.length) ∧ w = w' := by
  have c9 := h.sh.top.c9
  clear h
  go_enter Tryz.func95, Tryz.ntmps95
  go_wp2_with fail
  go_ret
  exact ⟨rfl, rfl⟩
def intsV (L : List Nat) : List Value := L.map fun (x : Nat) => Value.int .i64 (x : Int)
theorem ints_of (L : List Nat) (cur : Array Value) (hs : cur.size = L.length) (h : ∀ j, j < L.length → cur[j]? = some (.int .i64 (L.getD j 0 : Nat))) : cur = (intsV L).toArray := by
  apply Array.ext'
  apply List.ext_getElem?
  intro j
  show cur.toList[j]? = (intsV L)[j]?
  unfold intsV
  rw [List.getElem?_map]
  by_cases hj : j < L.length
  · have := h j hj
    rw [List.getElem?_eq_getElem hj]
    rw [List.getD_eq_getElem?_getD, List.getElem?_eq_getElem hj] at this
    simpa using this
  · have h1 : cur.toList.length ≤ j := by rw [Array.length_toList]; omega
    rw [List.getElem?_eq_none h1, List.getElem?_eq_none (show L.length ≤ j by omega)]
    rfl

set_option maxHeartbeats 1000000 in
theorem wall_any (o : Nat → Nat) (wb : Nat) (S sc : Nat → Nat) (tb : Nat → Nat → Nat) (L : List Nat) (vis : Int) (w : World) (h : IsWave w o wb S sc tb L vis) (h5 : No5 o) (hL : L.length < 1000) (h0 : 0 < L.length) :
    Calls Tryz.prog 173 #[.pointer (some ⟨wb, 0, none⟩)] w fun e w' => ∃ g o' vis', e = .returned (.slice (some ⟨g, 0, none⟩) L.length L.length) ∧ No5 o' ∧ Upd o gv w w' o' ∧ IsWave w' o' wb S sc tb L vis' ∧
      w.heap.size ≤ g ∧ w'.heap[g]? = some (.cells (intsV L).toArray 3 (0, 0)) := by
  have c9 := h.sh.top.c9
  have c10 := h.sh.top.c10
  have hmk := run_make_row' (P := Tryz.prog) 28 3 (.int .i64 0) 8 Tryz.underlying28 info3 rfl .i64 .i64 L.length (by omega) (by omega)
  have H := Lib.hid h
  have H5 := Lib.hid h5
  have OWB := Lib.hid h.sh.own
  clear h h5
  go_enter Tryz.func173, Tryz.ntmps173
  go_wp2_with fail
  have l0 : w.heap.size < (w.alloc (.cells (madeCells #[Value.int .i64 0] L.length) 3)).heap.size := by simp
  go_loopg [19] L.length (fun g i wr => ∃ m : Nat, m + g = L.length ∧ i = .int .i64 m ∧ ∃ (o_r : Nat → Nat) (vr : Int) (cur : Array Value), No5 o_r ∧ Upd o gv w wr o_r ∧ IsWave wr o_r wb S sc tb L vr ∧
      wr.heap[w.heap.size]? = some (.cells cur 3 (0, 0)) ∧ cur.size = L.length ∧ (∀ j, j < m → cur[j]? = some (.int .i64 (L.getD j 0 : Nat))) ∧ o_r w.heap.size = 7)
  case atStart =>
    refine ⟨0, by omega, rfl, own1 o w.heap.size 7, vis, _, own1_no5 H5.out (by omega), ((Upd.refl o gv w).alloc _).reown (fun b hb => own1_old hb), ⟨H.out.sh.keep (d := fun _ => False) (((Upd.refl o _ w).alloc _).reown (fun b hb => own1_old hb)) (by simp) (by simp) (by simp), H.out.sym⟩, heap_alloc_new w _, size_madeCells _ _, fun j hj => by omega, own1_new _ _ _⟩
  case round =>
    obtain ⟨m, hm, rfl, o_r, vr, cur, hr5, hru, hrw, hrc, hrs, hrj, hro⟩ := hrel
    have HRW := Lib.hid hrw
    have HRU := Lib.hid hru
    have HRC := Lib.hid hrc
    have HRS := Lib.hid hrs
    have HRJ := Lib.hid hrj
    have HRO := Lib.hid hro
    have HR5 := Lib.hid hr5
    by_cases hml : m < L.length
    · have wg := wget_any o_r wb m (L.getD m 0) S sc tb L vr wr hrw hr5 hml rfl
      obtain ⟨s, hs⟩ : ∃ s, L.getD m 0 = s := ⟨_, rfl⟩
      rw [hs] at wg
      have WG := Lib.hid wg
      have HSS := Lib.hid hs
      clear hru hrw hrc hrs hrj hro hr5 wg c9 c10 hmk hs
      go_wp2_with fail
      refine WG.out.mono ?_
      rintro e w2 ⟨rfl, o2, v2, h52, u2, wv2⟩
      have hc2 := u2.heap HRC.out (by rw [HRO.out]; unfold gv; omega)
      obtain ⟨x, hx⟩ : ∃ x, w2.cell? ⟨w.heap.size, m, none⟩ = some x := by
        refine ⟨cur.getD m undef, ?_⟩
        rw [Joins.cell_of_block hc2.1, Array.getD_eq_getD_getElem?, Array.getElem?_eq_getElem (by rw [HRS.out]; exact hml)]
        rfl
      have fx := Joins.unfrozen_of_block hc2.1 m
      have HC2 := Lib.hid hc2.1
      have HO2 := Lib.hid (hc2.2.trans HRO.out)
      have U2 := Lib.hid (HRU.out.trans u2 (fun _ h => h))
      have W2 := Lib.hid wv2
      have H52 := Lib.hid h52
      clear hc2 u2 wv2 h52 WG
      go_wp2_with fail
      go_roundg (gk - 1)
      case measure => omega
      case rel =>
        refine ⟨m + 1, by omega, by go_num, o2, v2, _, H52.out, U2.out.set (a := ⟨w.heap.size, m, none⟩) _ (.inl (Nat.le_refl _)), ⟨W2.out.sh.keep (d := fun x => x = 7) ((Upd.refl o2 _ w2).set (a := ⟨w.heap.size, m, none⟩) _ (.inr HO2.out)) (by omega) (by omega) (by omega), W2.out.sym⟩, Joins.block_setCell (i := m) HC2.out (.int .i64 s), by simpa using HRS.out, ?_, HO2.out⟩
        intro j hj
        by_cases hjm : j = m
        · subst hjm
          rw [Array.getElem?_setIfInBounds_self_of_lt (by rw [HRS.out]; exact hml), HSS.out]
        · rw [Array.getElem?_setIfInBounds_ne (by omega)]
          exact HRJ.out j (by omega)
    · have hme : m = L.length := by omega
      have c10r := hrw.sh.top.c10
      have f10r := hrw.sh.top.f 10
      clear hru hrw hrc hrs hrj hro hr5 c9 c10 hmk
      go_wp2_with fail
      go_ret
      have hne : w.heap.size ≠ wb := by
        have := HRW.out.sh.own
        have := HRO.out
        rintro e
        rw [e] at this
        omega
      refine ⟨w.heap.size, o_r, vis, rfl, HR5.out, HRU.out.set _ (.inr (.inl OWB.out)), ⟨HRW.out.sh.visit vis, HRW.out.sym⟩, Nat.le_refl _, ?_⟩
      rw [Below.heap_setCell _ _ _ _ hne, HRC.out, ints_of L cur HRS.out (fun j hj => HRJ.out j (by omega))]
end Go.Proofs.YtnadgcgnediakaaGreatDoor
namespace Go.Proofs.YtnadgcgnediakaaGreatDoor
open Go.ChangeShapes Go.WideShapes Go.ChangeAt Go.RowKit Go.Deep

/-- where a walk's parts lie -/
structure At where
  wk : Nat
  wb : Nat
  ty : Nat
  S : Nat → Nat
  sc : Nat → Nat
  tb : Nat → Nat → Nat
/-- a transform with its tally -/
structure IsWalk (w : World) (o : Nat → Nat) (A : At) (L : List Nat) (C : Nat → Nat) (all : Nat) : Prop where
  k : w.heap[A.wk]? = some (.cells #[.pointer (some ⟨A.wb, 0, none⟩), .pointer (some ⟨A.ty, 0, none⟩)] 106 (0, 0))
  ok : o A.wk = 3
  wave : ∃ vis, IsWave w o A.wb A.S A.sc A.tb L vis
  tally : IsTally w A.ty C all
  ot : o A.ty = 4
  n5 : No5 o
/-- what a call on the walk may touch -/
def gk (x : Nat) : Prop := gv x ∨ x = 4
section
variable {w w' : World} {o o' : Nat → Nat} {A : At} {L L' : List Nat} {C : Nat → Nat} {all : Nat}
theorem IsWalk.c0 (h : IsWalk w o A L C all) : w.cell? ⟨A.wk, 0, none⟩ = some (.pointer (some ⟨A.wb, 0, none⟩)) := by rw [Joins.cell_of_block h.k]; rfl
theorem IsWalk.c1 (h : IsWalk w o A L C all) : w.cell? ⟨A.wk, 1, none⟩ = some (.pointer (some ⟨A.ty, 0, none⟩)) := by rw [Joins.cell_of_block h.k]; rfl
/-- behind a call on the wave -/
theorem IsWalk.waved (h : IsWalk w o A L C all) (u : Upd o gv w w' o') (n5 : No5 o') {vis : Int} (wv : IsWave w' o' A.wb A.S A.sc A.tb L' vis) : IsWalk w' o' A L' C all := by
  have k := u.heap h.k (by rw [h.ok]; unfold gv; omega)
  have ht := u.same A.ty h.tally.lt (by rw [h.ot]; unfold gv; omega)
  exact ⟨k.1, k.2.trans h.ok, ⟨_, wv⟩, h.tally.same ht, (u.own _ h.tally.lt).trans h.ot, n5⟩
/-- whatever else is touched -/
theorem IsWalk.keep (h : IsWalk w o A L C all) {d : Nat → Prop} (u : Upd o d w w' o') (n5 : No5 o') (h4 : ∀ x, x ≤ 4 → 0 < x → ¬ d x) (h10 : ∀ x, 10 ≤ x → ¬ d x) : IsWalk w' o' A L C all := by
  obtain ⟨vis, wv⟩ := h.wave
  have k := u.heap h.k (by rw [h.ok]; exact h4 3 (by omega) (by omega))
  have ht := u.same A.ty h.tally.lt (by rw [h.ot]; exact h4 4 (by omega) (by omega))
  exact ⟨k.1, k.2.trans h.ok, ⟨_, ⟨wv.sh.keep u (h4 1 (by omega) (by omega)) (h4 2 (by omega) (by omega)) h10, wv.sym⟩⟩, h.tally.same ht, (u.own _ h.tally.lt).trans h.ot, n5⟩
end

theorem klen_any (o : Nat → Nat) (A : At) (L : List Nat) (C : Nat → Nat) (all : Nat) (w : World) (h : IsWalk w o A L C all) :
    Calls Tryz.prog 42 #[.pointer (some ⟨A.wk, 0, none⟩)] w fun e w' => e = .returned (.int .i64 L.length) ∧ w = w' := by
  have c0 := h.c0
  obtain ⟨vis, wv⟩ := h.wave
  have WL := Lib.hid (wlen_any o A.wb A.S A.sc A.tb L vis w wv)
  clear h wv
  go_enter Tryz.func42, Tryz.ntmps42
  go_wp2_with (go_at_call 95; refine WL.out.mono ?_; rintro e w' ⟨rfl, rfl⟩)
  go_ret
  exact ⟨rfl, rfl⟩
theorem kis_in (o : Nat → Nat) (A : At) (L : List Nat) (C : Nat → Nat) (all row : Nat) (w : World) (h : IsWalk w o A L C all) (hr : row < L.length) :
    Calls Tryz.prog 100 #[.pointer (some ⟨A.wk, 0, none⟩), .int .i64 row] w fun e w' => e = .returned (.bool true) ∧ w = w' := by
  have KL := Lib.hid (klen_any o A L C all w h)
  clear h
  go_enter Tryz.func100, Tryz.ntmps100
  go_wp2_with (go_at_call 42; refine KL.out.mono ?_; rintro e w' ⟨rfl, rfl⟩)
  go_ret
  exact ⟨by simp, rfl⟩
theorem kbelow_any (o : Nat → Nat) (A : At) (L : List Nat) (C : Nat → Nat) (all s : Nat) (w : World) (h : IsWalk w o A L C all) (hs : s ≤ 257) (hC : ∀ i, C i < 1000) :
    Calls Tryz.prog 103 #[.pointer (some ⟨A.wk, 0, none⟩), .int .i64 s] w fun e w' => e = .returned (.int .i64 (sumC C s)) ∧ w = w' := by
  have c1 := h.c1
  have TB := Lib.hid (tbelow_any A.ty s C all w h.tally hs hC)
  clear h
  go_enter Tryz.func103, Tryz.ntmps103
  go_wp2_with (go_at_call 157; refine TB.out.mono ?_; rintro e w' ⟨rfl, rfl⟩)
  go_ret
  exact ⟨rfl, rfl⟩
theorem kput_any (o : Nat → Nat) (A : At) (L : List Nat) (C : Nat → Nat) (all row s : Nat) (w : World) (h : IsWalk w o A L C all) (hr : row ≤ L.length) (hL : L.length < 128) (hs : s < 257) :
    Calls Tryz.prog 90 #[.pointer (some ⟨A.wk, 0, none⟩), .int .i64 row, .int .i64 s] w fun e w' => e = .returned (.tuple #[]) ∧ ∃ o', Upd o gv w w' o' ∧ IsWalk w' o' A (L.insertIdx row s) C all := by
  have c0 := h.c0
  obtain ⟨vis, wv⟩ := h.wave
  have WI := Lib.hid (wins_any o A.wb row s A.S A.sc A.tb L vis w wv h.n5 hr hL hs)
  have H := Lib.hid h
  clear h wv
  go_enter Tryz.func90, Tryz.ntmps90
  go_wp2_with fail
  refine WI.out.mono ?_
  rintro e w2 ⟨rfl, o2, v2, h52, u2, wv2⟩
  have R := Lib.hid (H.out.waved u2 h52 wv2)
  have U := Lib.hid u2
  clear u2 wv2 h52
  go_wp2_with fail
  go_end0
  exact ⟨rfl, o2, U.out, R.out⟩
theorem kcut_any (o : Nat → Nat) (A : At) (L : List Nat) (C : Nat → Nat) (all row s : Nat) (w : World) (h : IsWalk w o A L C all) (hr : row < L.length) (hL : L.length < 1000) (hs : L.getD row 0 = s) :
    Calls Tryz.prog 81 #[.pointer (some ⟨A.wk, 0, none⟩), .int .i64 row] w fun e w' => e = .returned (.int .i64 s) ∧ ∃ o', Upd o gv w w' o' ∧ IsWalk w' o' A (L.eraseIdx row) C all := by
  have c0 := h.c0
  obtain ⟨vis, wv⟩ := h.wave
  have WD := Lib.hid (wdel_any o A.wb row s A.S A.sc A.tb L vis w wv h.n5 hr hL hs)
  have H := Lib.hid h
  clear h wv hs
  go_enter Tryz.func81, Tryz.ntmps81
  go_wp2_with fail
  refine WD.out.mono ?_
  rintro e w2 ⟨rfl, o2, v2, h52, u2, wv2⟩
  have R := Lib.hid (H.out.waved u2 h52 wv2)
  have U := Lib.hid u2
  clear u2 wv2 h52
  go_wp2_with fail
  go_ret
  exact ⟨rfl, o2, U.out, R.out⟩
theorem kchange_any (o : Nat → Nat) (A : At) (L : List Nat) (C : Nat → Nat) (all row s : Nat) (w : World) (h : IsWalk w o A L C all) (hr : row < L.length) (hL : L.length < 128) (hs : s < 257) :
    Calls Tryz.prog 80 #[.pointer (some ⟨A.wk, 0, none⟩), .int .i64 row, .int .i64 s] w fun e w' => e = .returned (.tuple #[]) ∧ ∃ o', Upd o gv w w' o' ∧ IsWalk w' o' A ((L.eraseIdx row).insertIdx row s) C all := by
  have KC := Lib.hid (kcut_any o A L C all row _ w h hr (by omega) rfl)
  have hle : (L.eraseIdx row).length = L.length - 1 := List.length_eraseIdx_of_lt hr
  clear h
  go_enter Tryz.func80, Tryz.ntmps80
  go_wp2_with fail
  refine KC.out.mono ?_
  rintro e w2 ⟨rfl, o2, u2, h2⟩
  have KP := Lib.hid (kput_any o2 A (L.eraseIdx row) C all row s w2 h2 (by omega) (by omega) hs)
  have U2 := Lib.hid u2
  clear u2 h2
  go_wp2_with fail
  refine KP.out.mono ?_
  rintro e w3 ⟨rfl, o3, u3, h3⟩
  have U3 := Lib.hid (U2.out.trans u3 (fun _ h => h))
  have H3 := Lib.hid h3
  clear u3 h3
  go_wp2_with fail
  go_end0
  exact ⟨rfl, o3, U3.out, H3.out⟩
theorem kcount_any (o : Nat → Nat) (A : At) (L : List Nat) (C : Nat → Nat) (all s : Nat) (w : World) (h : IsWalk w o A L C all) (hs : s < 257) (hC : C s < 1000) (ha : all < 1000) :
    Calls Tryz.prog 82 #[.pointer (some ⟨A.wk, 0, none⟩), .int .i64 s, .int .i64 1] w fun e w' => e = .returned (.tuple #[]) ∧ Upd o (· = 4) w w' o ∧ IsWalk w' o A L (fun i => if i = s then C s + 1 else C i) (all + 1) := by
  have c1 := h.c1
  have TA := Lib.hid (tadd_any A.ty s C all w h.tally hs hC ha)
  have H := Lib.hid h
  clear h
  go_enter Tryz.func82, Tryz.ntmps82
  go_wp2_with fail
  refine TA.out.mono ?_
  rintro e w2 ⟨rfl, on, t2⟩
  have u2 : Upd o (· = 4) w w2 o := (Upd.refl o _ w).only on (.inr H.out.ot)
  have U2 := Lib.hid u2
  have T2 := Lib.hid t2
  clear on t2 u2
  go_wp2_with fail
  go_end0
  refine ⟨rfl, U2.out, ?_⟩
  obtain ⟨vis, wv⟩ := H.out.wave
  have k := U2.out.heap H.out.k (by rw [H.out.ok]; omega)
  exact ⟨k.1, H.out.ok, ⟨vis, ⟨wv.sh.keep U2.out (by omega) (by omega) (by omega), wv.sym⟩⟩, T2.out, H.out.ot, H.out.n5⟩
end Go.Proofs.YtnadgcgnediakaaGreatDoor
namespace Go.Proofs.YtnadgcgnediakaaGreatDoor
open Go.ChangeShapes Go.WideShapes Go.ChangeAt Go.RowKit Go.Deep

theorem sumC_le (C : Nat → Nat) (hC : ∀ i, C i < 1000) : ∀ k, sumC C k ≤ 1000 * k
  | 0 => by simp [sumC]
  | k + 1 => by have := hC k; have := sumC_le C hC k; simp only [sumC]; omega
theorem posN_le (L : List Nat) (k s lv : Nat) : posN L k s lv ≤ k := by
  unfold posN
  exact Nat.le_trans (List.length_filter_le _ _) (by rw [List.length_take]; omega)

/-- the row to which a row's symbol leads -/
def backN (L : List Nat) (C : Nat → Nat) (row : Nat) : Nat := sumC C (L.getD row 0) + posN L row (L.getD row 0) 9
set_option maxHeartbeats 1000000 in
theorem kback_any (o : Nat → Nat) (A : At) (L : List Nat) (C : Nat → Nat) (all row : Nat) (w : World) (h : IsWalk w o A L C all) (hr : row < L.length) (hL : L.length < 1000) (hC : ∀ i, C i < 1000) :
    Calls Tryz.prog 98 #[.pointer (some ⟨A.wk, 0, none⟩), .int .i64 row] w fun e w' => e = .returned (.int .i64 (backN L C row)) ∧ ∃ o', Upd o gv w w' o' ∧ IsWalk w' o' A L C all := by
  obtain ⟨s, hs⟩ : ∃ s, L.getD row 0 = s := ⟨_, rfl⟩
  have c0 := h.c0
  obtain ⟨vis, wv⟩ := h.wave
  have hsb : s < 257 := wv.sym s (by rw [← hs, List.getD_eq_getElem?_getD, List.getElem?_eq_getElem hr]; exact List.getElem_mem hr)
  have KI := Lib.hid (kis_in o A L C all row w h hr)
  have WG := Lib.hid (wget_any o A.wb row s A.S A.sc A.tb L vis w wv h.n5 hr hs)
  have H := Lib.hid h
  have hb1 := sumC_le C hC s
  have hb2 := posN_le L row s 9
  have ev : ((backN L C row : Nat) : Int) = (sumC C s : Nat) + (posN L row s 9 : Nat) := by unfold backN; rw [hs]; omega
  have EV := Lib.hid ev
  have HC := Lib.hid hC
  clear h wv hs ev hC
  go_enter Tryz.func98, Tryz.ntmps98
  go_wp2_with fail
  refine KI.out.mono ?_
  rintro e w' ⟨rfl, rfl⟩
  go_wp2_with fail
  refine WG.out.mono ?_
  rintro e w2 ⟨rfl, o2, v2, h52, u2, wv2⟩
  have h2 := H.out.waved u2 h52 wv2
  have d0 := h2.c0
  have h2d : IsWalk w2.drew o2 A L C all := h2.keep (d := fun _ => False) ((Upd.refl o2 _ w2).drew) h52 (by simp) (by simp)
  obtain ⟨v3, wv3⟩ := h2d.wave
  have KB0 := Lib.hid (kbelow_any o2 A L C all s w2.drew h2d (by omega) HC.out)
  have WR := Lib.hid (wcount_any o2 A.wb row s A.S A.sc A.tb L v3 w2.drew wv3 h52 (Nat.le_of_lt hr) hL hsb)
  have U2 := Lib.hid u2
  have H2 := Lib.hid h2d
  clear u2 h52 wv2 h2 h2d wv3 KI WG c0
  go_wp2_with fail
  go_region_held3 (fun wz => wz.cell? ⟨A.wk, 0, none⟩ = some (.pointer (some ⟨A.wb, 0, none⟩))) (first | exact d0 | exact d4) (first | (go_at_call 103; refine KB0.out.mono ?_; rintro e w' ⟨rfl, rfl⟩) | (go_at_call 103; refine KB4.out.mono ?_; rintro e w' ⟨rfl, rfl⟩) | (go_at_call 152; refine WR.out.mono ?_; rintro e w4 ⟨rfl, o4, v4, h54, u4, wv4⟩; have h4 := H2.out.waved u4 h54 wv4; have d4 := h4.c0; have KB4 := Lib.hid (kbelow_any o4 A L C all s w4 h4 (by omega) HC.out); have H4 := Lib.hid h4; have U4 := Lib.hid u4; clear u4 wv4 h54 h4))
  all_goals go_wp2_with fail
  all_goals go_ret
  all_goals
    have ew : IntKind.i64.wrap ((sumC C s : Nat) + (posN L row s 9 : Nat) : Int) = (backN L C row : Nat) := by
      rw [EV.out, IntKind.wrap_i64]
      omega
    refine ⟨?_, o4, U2.out.drew.trans U4.out (fun _ h => h), H4.out⟩
    show Ending.returned (.int .i64 (IntKind.i64.wrap ((sumC C s : Nat) + (posN L row s 9 : Nat) : Int))) = _
    rw [ew]
theorem kall_any (o : Nat → Nat) (A : At) (L : List Nat) (C : Nat → Nat) (all : Nat) (w : World) (h : IsWalk w o A L C all) (hL : L.length < 1000) (h0 : 0 < L.length) :
    Calls Tryz.prog 116 #[.pointer (some ⟨A.wk, 0, none⟩)] w fun e w' => ∃ g o', e = .returned (.slice (some ⟨g, 0, none⟩) L.length L.length) ∧ Upd o gv w w' o' ∧ IsWalk w' o' A L C all ∧ w.heap.size ≤ g ∧ w'.heap[g]? = some (.cells (intsV L).toArray 3 (0, 0)) := by
  have c0 := h.c0
  obtain ⟨vis, wv⟩ := h.wave
  have WA := Lib.hid (wall_any o A.wb A.S A.sc A.tb L vis w wv h.n5 hL h0)
  have H := Lib.hid h
  clear h wv
  go_enter Tryz.func116, Tryz.ntmps116
  go_wp2_with fail
  refine WA.out.mono ?_
  rintro e w2 ⟨g, o2, v2, rfl, h52, u2, wv2, hg, hr⟩
  have R := Lib.hid (H.out.waved u2 h52 wv2)
  have U := Lib.hid u2
  have HR := Lib.hid hr
  clear u2 h52 wv2 hr
  go_wp2_with fail
  go_ret
  exact ⟨g, o2, rfl, U.out, R.out, hg, HR.out⟩
end Go.Proofs.YtnadgcgnediakaaGreatDoor
namespace Go.Proofs.YtnadgcgnediakaaGreatDoor
open Go.ChangeShapes Go.WideShapes Go.ChangeAt Go.RowKit Go.Deep

theorem lin_any (r c : Nat) (hr : r < 1000) (w : World) : Calls Tryz.prog 92 #[.int .i64 r, .int .i64 c] w fun e w' => e = .returned (.int .i64 (Wd.inr r c)) ∧ w = w' := by
  by_cases h : c ≤ r
  · have e : Wd.inr r c = r + 1 := by unfold Wd.inr; rw [if_pos h]
    rw [e]
    go_enter Tryz.func92, Tryz.ntmps92
    go_wp2_with fail
    go_ret
    exact ⟨ret_int (by simp), rfl⟩
  · have e : Wd.inr r c = r := by unfold Wd.inr; rw [if_neg h]
    rw [e]
    go_enter Tryz.func92, Tryz.ntmps92
    go_wp2_with fail
    go_ret
    exact ⟨rfl, rfl⟩
theorem lin_none (c : Nat) (w : World) : Calls Tryz.prog 92 #[.int .i64 (-1), .int .i64 c] w fun e w' => e = .returned (.int .i64 (-1)) ∧ w = w' := by
  go_enter Tryz.func92, Tryz.ntmps92
  go_wp2_with fail
  go_ret
  exact ⟨rfl, rfl⟩
theorem lout_any (r g : Nat) (hr : r < 1000) (w : World) : Calls Tryz.prog 86 #[.int .i64 r, .int .i64 g] w fun e w' => e = .returned (.int .i64 (Wd.outr r g)) ∧ w = w' := by
  by_cases h : g < r
  · have e : ((Wd.outr r g : Nat) : Int) = (r : Int) - 1 := by unfold Wd.outr; rw [if_pos h]; omega
    have E := Lib.hid e
    clear e
    go_enter Tryz.func86, Tryz.ntmps86
    go_wp2_with fail
    go_ret
    exact ⟨ret_int (by rw [E.out]), rfl⟩
  · have e : Wd.outr r g = r := by unfold Wd.outr; rw [if_neg h]
    rw [e]
    go_enter Tryz.func86, Tryz.ntmps86
    go_wp2_with fail
    go_ret
    exact ⟨rfl, rfl⟩
theorem lbeside_any (n c a : Nat) (hn : n < 1000) (h1 : c < a → 0 < n) (w : World) : Calls Tryz.prog 145 #[.int .i64 n, .int .i64 c, .int .i64 a] w fun e w' => e = .returned (.int .i64 (Wd.besideN n c a)) ∧ w = w' := by
  by_cases h : c < a
  · have hp := h1 h
    have en : (n : Int) - 1 = (n - 1 : Nat) := by omega
    by_cases h2 : a ≤ n - 1
    · have e : ((Wd.besideN n c a : Nat) : Int) = ((n - 1 : Nat) : Int) + 1 := by unfold Wd.besideN Wd.inr; rw [if_pos h, if_pos h2]; omega
      have E := Lib.hid e
      have EN := Lib.hid en
      clear e en h1
      have h3 : (a : Int) ≤ (n : Int) - 1 := by omega
      go_enter Tryz.func145, Tryz.ntmps145
      go_wp2_with fail
      go_ret
      exact ⟨ret_int (by rw [E.out]; omega), rfl⟩
    · have e : ((Wd.besideN n c a : Nat) : Int) = (n : Int) - 1 := by unfold Wd.besideN Wd.inr; rw [if_pos h, if_neg h2]; omega
      have E := Lib.hid e
      clear e en h1
      have h3 : (n : Int) - 1 < (a : Int) := by omega
      go_enter Tryz.func145, Tryz.ntmps145
      go_wp2_with fail
      go_ret
      exact ⟨ret_int (by rw [E.out]), rfl⟩
  · clear h1
    by_cases h2 : a ≤ n
    · have e : ((Wd.besideN n c a : Nat) : Int) = (n : Int) + 1 := by unfold Wd.besideN Wd.inr; rw [if_neg h, if_pos h2]; omega
      have E := Lib.hid e
      clear e
      go_enter Tryz.func145, Tryz.ntmps145
      go_wp2_with fail
      go_ret
      exact ⟨ret_int (by rw [E.out]), rfl⟩
    · have e : ((Wd.besideN n c a : Nat) : Int) = (n : Int) := by unfold Wd.besideN Wd.inr; rw [if_neg h, if_neg h2]
      have E := Lib.hid e
      clear e
      go_enter Tryz.func145, Tryz.ntmps145
      go_wp2_with fail
      go_ret
      exact ⟨ret_int (by rw [E.out]), rfl⟩
end Go.Proofs.YtnadgcgnediakaaGreatDoor
namespace Go.Proofs.YtnadgcgnediakaaGreatDoor
open Wd

structure Arr (N : Nat) (s ix : Nat → Nat) (L : List Nat) (C : Nat → Nat) (all : Nat) : Prop where
  rows : Wd.Rows N ix
  len : L.length = N + 1
  isL : IsL N s ix (fun r => L.getD r 0)
  cC : ∀ i, C i = cnt (fun q => decide (s q = i)) (N + 1)
  al : all = N + 1
  sb : ∀ p, p ≤ N → s p < 257
  s0 : s N = 0
  sp : ∀ p, p < N → 0 < s p

theorem getD_ins (l : List Nat) (c x j : Nat) (hc : c ≤ l.length) : (l.insertIdx c x).getD j 0 = if j < c then l.getD j 0 else if j = c then x else l.getD (j - 1) 0 := by
  rw [List.getD_eq_getElem?_getD, List.getElem?_insertIdx]
  split
  · rw [List.getD_eq_getElem?_getD]
  · split
    · rw [if_pos (by omega)]
      rfl
    · rw [List.getD_eq_getElem?_getD]
theorem getD_erase (l : List Nat) (a j : Nat) : (l.eraseIdx a).getD j 0 = if j < a then l.getD j 0 else l.getD (j + 1) 0 := by
  rw [List.getD_eq_getElem?_getD, List.getElem?_eraseIdx]
  split <;> rw [List.getD_eq_getElem?_getD]
theorem sumC_cnt (C s : Nat → Nat) (N : Nat) (hC : ∀ i, C i = cnt (fun q => decide (s q = i)) (N + 1)) : ∀ b, sumC C b = cnt (fun q => decide (s q < b)) (N + 1)
  | 0 => by
    rw [cnt_zero _ _ (fun i _ => by simp)]
    rfl
  | b + 1 => by
    rw [sumC, sumC_cnt C s N hC b, hC b, ← cnt_or]
    · apply cnt_congr
      intro i _
      rw [Bool.eq_iff_iff]
      simp only [Bool.or_eq_true, decide_eq_true_eq]
      omega
    · intro i _ h
      simp only [decide_eq_true_eq] at h
      simp only [decide_eq_false_iff_not]
      omega
theorem posN_cnt (L : List Nat) (b : Nat) : ∀ k, k ≤ L.length → posN L k b 9 = cnt (fun r => decide (L.getD r 0 = b)) k
  | 0, _ => by rw [pos_nine]; simp [cnt]
  | k + 1, h => by
    have ih := posN_cnt L b k (by omega)
    rw [pos_nine] at ih ⊢
    rw [cnt, ← ih, List.take_add_one, List.getElem?_eq_getElem (by omega), List.filter_append, List.length_append]
    congr 1
    rw [List.getD_eq_getElem?_getD, List.getElem?_eq_getElem (by omega)]
    simp only [Option.toList_some, Option.getD_some, List.filter_cons, List.filter_nil]
    by_cases e : L[k] = b
    · simp [e]
    · have : (L[k] == b) = false := by simp [e]
      simp [e]
section
variable {N : Nat} {s ix : Nat → Nat} {L : List Nat} {C : Nat → Nat} {all : Nat}
theorem Arr.c_lt (h : Arr N s ix L C all) (hN : N < 900) (i : Nat) : C i < 1000 := by
  rw [h.cC i]
  have := cnt_le (fun q => decide (s q = i)) (N + 1)
  omega
theorem Arr.l_lt (h : Arr N s ix L C all) (r : Nat) (hr : r ≤ N) : L.getD r 0 < 257 := by
  obtain ⟨p, hp, rfl⟩ : ∃ p, p ≤ N ∧ ix (nx N p) = r := by
    have hb : ∀ i, i < N + 1 → ix (nx N i) < N + 1 := fun i hi => by have := h.rows.lt _ (nx_le (n := N) (p := i) (by omega)); omega
    have hi : ∀ i j, i < N + 1 → j < N + 1 → ix (nx N i) = ix (nx N j) → i = j := fun i j h1 h2 h3 => nx_inj (n := N) (by omega) (by omega) (h.rows.inj _ _ (nx_le (by omega)) (nx_le (by omega)) h3)
    obtain ⟨p, h1, h2⟩ := surj (N + 1) (fun p => ix (nx N p)) hb hi r (by omega)
    exact ⟨p, by omega, h2⟩
  have := h.isL p hp
  simp only at this
  rw [this]
  exact h.sb p hp
/-- where a row leads to -/
theorem Arr.back (h : Arr N s ix L C all) (e : Nat) (he : e ≤ N) : backN L C (ix (nx N e)) = cnt (fun p => decide (kl N s ix p e)) (N + 1) := by
  have h1 := h.isL e he
  simp only at h1
  have h2 := h.rows.lt _ (nx_le he)
  unfold backN
  rw [h1, sumC_cnt C s N h.cC, posN_cnt L _ _ (by rw [h.len]; omega), counts h.rows h.isL _ _ (by omega)]
  exact (kl_rowIn N s ix e).symm
theorem Arr.back_cons (h : Arr N s ix L C all) (hc : Cons N s ix) (e : Nat) (he : e ≤ N) : backN L C (ix (nx N e)) = ix e := by
  rw [h.back e he, kl_rowIn]
  exact cons_lf h.rows hc e he
/-- the end's row -/
theorem Arr.last (h : Arr N s ix L C all) (hc : Cons N s ix) : ix N = 0 := by
  have h1 := cons_lf h.rows hc N (Nat.le_refl _)
  rw [← h1, h.s0]
  unfold rowIn
  apply cnt_zero
  intro q hq
  simp only [decide_eq_false_iff_not]
  rintro (h2 | ⟨h2, h3⟩)
  · omega
  · by_cases e : q = N
    · subst e
      omega
    · have := h.sp q (by omega)
      omega
theorem cnt_in (f : Nat → Bool) (s : Nat → Nat) (at_ b N : Nat) (ha : at_ ≤ N) : cnt (fun q => f (sIn s at_ b q)) (N + 2) = cnt (fun q => f (s q)) (N + 1) + (f b).toNat := by
  rw [cnt_split (fun q => f (sIn s at_ b q)) at_ (N + 1) (by omega), sIn_at]
  congr 1
  apply cnt_congr
  intro i _
  rw [sIn_old (oth_ne _ _)]
  congr 2
  unfold old oth
  repeat' split
  all_goals omega
/-- a letter is let in -/
theorem Arr.ins (h : Arr N s ix L C all) (_hc : Cons N s ix) (at_ b : Nat) (ha : at_ ≤ N) (hb0 : 0 < b) (hb : b < 257) :
    Arr (N + 1) (sIn s at_ b) (ixIn ix at_ (rowIn N s ix b (ix at_))) (((L.eraseIdx (ix at_)).insertIdx (ix at_) b).insertIdx (rowIn N s ix b (ix at_)) (L.getD (ix at_) 0)) (fun i => if i = b then C b + 1 else C i) (all + 1) := by
  have hk := h.rows.lt at_ ha
  have hrow := rowIn_le N s ix b (ix at_)
  have hlen := h.len
  have l1 : (L.eraseIdx (ix at_)).length = N := by rw [List.length_eraseIdx_of_lt (by omega)]; omega
  have l2 : ((L.eraseIdx (ix at_)).insertIdx (ix at_) b).length = N + 1 := by rw [List.length_insertIdx_of_le_length (by omega)]; omega
  have g2 : ∀ r, ((L.eraseIdx (ix at_)).insertIdx (ix at_) b).getD r 0 = if r = ix at_ then b else L.getD r 0 := by
    intro r
    rw [getD_ins _ _ _ _ (by omega)]
    simp only [getD_erase]
    rcases Nat.lt_trichotomy r (ix at_) with h1 | h1 | h1
    · rw [if_pos h1, if_pos h1, if_neg (by omega)]
    · rw [if_neg (by omega), if_pos h1, if_pos h1]
    · rw [if_neg (by omega), if_neg (by omega), if_neg (by omega), if_neg (by omega), show r - 1 + 1 = r from by omega]
  refine ⟨in_rows h.rows ha hrow, by rw [List.length_insertIdx_of_le_length (by omega)]; omega, in_isL h.rows h.isL ha ?_ (fun r hr => ?_), fun i => ?_, by rw [h.al], fun p hp => ?_, ?_, fun p hp => ?_⟩
  · show (List.insertIdx _ _ _).getD _ 0 = _
    rw [getD_ins _ _ _ _ (by omega), if_neg (by omega), if_pos rfl]
  · show (List.insertIdx _ _ _).getD _ 0 = _
    rw [getD_ins _ _ _ _ (by omega)]
    by_cases hle : rowIn N s ix b (ix at_) ≤ r
    · have e : inr r (rowIn N s ix b (ix at_)) = r + 1 := by unfold inr; rw [if_pos hle]
      rw [e, if_neg (by omega), if_neg (by omega), show r + 1 - 1 = r from by omega, g2]
    · have e : inr r (rowIn N s ix b (ix at_)) = r := by unfold inr; rw [if_neg hle]
      rw [e, if_pos (by omega), g2]
  · have e := cnt_in (fun x => decide (x = i)) s at_ b N ha
    rw [e, ← h.cC i]
    by_cases h1 : i = b
    · subst h1
      simp
    · have : ¬ b = i := fun x => h1 x.symm
      simp [h1, this]
  · by_cases h1 : p = at_
    · rw [h1, sIn_at]; exact hb
    · rw [sIn_old h1]; exact h.sb _ (old_le hp ha h1)
  · rw [sIn_old (by omega), show old at_ (N + 1) = N from by unfold old; rw [if_neg (by omega)]; omega]
    exact h.s0
  · by_cases h1 : p = at_
    · rw [h1, sIn_at]; exact hb0
    · rw [sIn_old h1]
      refine h.sp _ ?_
      unfold old
      split <;> omega
/-- the row that the new letter gets -/
theorem Arr.new_row (h : Arr N s ix L C all) (at_ b : Nat) (ha : at_ ≤ N) : backN ((L.eraseIdx (ix at_)).insertIdx (ix at_) b) C (ix at_) = rowIn N s ix b (ix at_) := by
  have hk := h.rows.lt at_ ha
  have hlen := h.len
  have l1 : (L.eraseIdx (ix at_)).length = N := by rw [List.length_eraseIdx_of_lt (by omega)]; omega
  have e1 : ((L.eraseIdx (ix at_)).insertIdx (ix at_) b).getD (ix at_) 0 = b := by rw [getD_ins _ _ _ _ (by omega), if_neg (by omega), if_pos rfl]
  unfold backN
  rw [e1, sumC_cnt C s N h.cC, posN_cnt _ _ _ (by rw [List.length_insertIdx_of_le_length (by omega)]; omega), ← counts h.rows h.isL _ _ (by omega)]
  congr 1
  apply cnt_congr
  intro i hi
  rw [getD_ins _ _ _ _ (by omega), if_pos hi, getD_erase, if_pos hi]
/-- a row moves -/
theorem Arr.move (h : Arr N s ix L C all) (e t : Nat) (he : e ≤ N) (ht : t ≤ N) : Arr N s (moved ix e t) ((L.eraseIdx (ix e)).insertIdx t (L.getD (ix e) 0)) C all := by
  have hk := h.rows.lt e he
  have hlen := h.len
  have l1 : (L.eraseIdx (ix e)).length = N := by rw [List.length_eraseIdx_of_lt (by omega)]; omega
  refine ⟨moved_rows h.rows he ht, by rw [List.length_insertIdx_of_le_length (by omega)]; omega, moved_isL h.rows he h.isL ?_ (fun r hr hne => ?_), h.cC, h.al, h.sb, h.s0, h.sp⟩
  · show (List.insertIdx _ _ _).getD _ 0 = _
    rw [getD_ins _ _ _ _ (by omega), if_neg (by omega), if_pos rfl]
  · show (List.insertIdx _ _ _).getD _ 0 = _
    rw [getD_ins _ _ _ _ (by omega)]
    by_cases h1 : ix e < r
    · have e1 : outr r (ix e) = r - 1 := by unfold outr; rw [if_pos h1]
      rw [e1]
      by_cases h2 : t ≤ r - 1
      · have e2 : inr (r - 1) t = r := by unfold inr; rw [if_pos h2]; omega
        rw [e2, if_neg (by omega), if_neg (by omega), getD_erase, if_neg (by omega), show r - 1 + 1 = r from by omega]
      · have e2 : inr (r - 1) t = r - 1 := by unfold inr; rw [if_neg h2]
        rw [e2, if_pos (by omega), getD_erase, if_neg (by omega), show r - 1 + 1 = r from by omega]
    · have e1 : outr r (ix e) = r := by unfold outr; rw [if_neg h1]
      rw [e1]
      by_cases h2 : t ≤ r
      · have e2 : inr r t = r + 1 := by unfold inr; rw [if_pos h2]
        rw [e2, if_neg (by omega), if_neg (by omega), getD_erase, if_pos (by omega), show r + 1 - 1 = r from by omega]
      · have e2 : inr r t = r := by unfold inr; rw [if_neg h2]
        rw [e2, if_pos (by omega), getD_erase, if_pos (by omega)]
end
end Go.Proofs.YtnadgcgnediakaaGreatDoor
