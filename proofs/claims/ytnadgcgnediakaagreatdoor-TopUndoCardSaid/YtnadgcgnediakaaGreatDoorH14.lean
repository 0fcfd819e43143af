/- The walk of wave.All, Len. The walks of walk: Len, is, Below, Back, Put, Cut, Change, Count, All. The walks of walk.Back, All. The walks of live's small functions: in, out, beside. Plain law: a transform as a list, with its counts; what edits make of it. Plain law of the start of a deletion: one place less, one row less. crc: Step, table, More, Of: the walks of the other seat, at this program. -/
import Derived.Test.YtnadgcgnediakaaGreatDoorH12
import Derived.Deep.OwnRows
import Derived.Test.YtnadgcgnediakaaGreatDoorH13
import Derived.Test.YtnadgcgnediakaaGreatDoorH01
import Derived.Deep.Draws
import Derived.Laws.BitsAllLaws
import Derived.Laws.Rows
import Derived.OpenShut
import Derived.Outline
namespace Go.Proofs.YtnadgcgnediakaaGreatDoor
open Go.ChangeShapes Go.WideShapes Go.ChangeAt Go.RowKit Go.Deep

theorem wlen_any (o : Nat → Nat) (wb : Nat) (S sc : Nat → Nat) (tb : Nat → Nat → Nat) (L : List Nat) (vis : Int) (w : World) (h : IsWave w o wb S sc tb L vis) :
    Calls Tryz.prog 95 #[.pointer (some ⟨wb, 0, none⟩)] w fun e w' => e = .returned (.int .i64 L.length) ∧ w = w' := by
  have c9 := h.sh.top.c9
  clear h
  go_enter Tryz.func95, Tryz.ntmps95
  go_wp2_with fail
  go_ret
  exact ⟨rfl, rfl⟩
def intsV (L : List Nat) : List Value := L.map fun (x : Nat) => Value.int .i64 (x : Int)
theorem ints_of (L : List Nat) (cur : Array Value) (hs : cur.size = L.length) (h : ∀ j, j < L.length → cur[j]? = some (.int .i64 (L.getD j 0 : Nat))) : cur = (intsV L).toArray := by
  apply Array.ext'
  apply List.ext_getElem?
  intro j
  show cur.toList[j]? = (intsV L)[j]?
  unfold intsV
  rw [List.getElem?_map]
  by_cases hj : j < L.length
  · have := h j hj
    rw [List.getElem?_eq_getElem hj]
    rw [List.getD_eq_getElem?_getD, List.getElem?_eq_getElem hj] at this
    simpa using this
  · have h1 : cur.toList.length ≤ j := by rw [Array.length_toList]; omega
    rw [List.getElem?_eq_none h1, List.getElem?_eq_none (show L.length ≤ j by omega)]
    rfl

set_option maxHeartbeats 1000000 in
theorem wall_any (o : Nat → Nat) (wb : Nat) (S sc : Nat → Nat) (tb : Nat → Nat → Nat) (L : List Nat) (vis : Int) (w : World) (h : IsWave w o wb S sc tb L vis) (h5 : No5 o) (hL : L.length < 1000) (h0 : 0 < L.length) :
    Calls Tryz.prog 173 #[.pointer (some ⟨wb, 0, none⟩)] w fun e w' => ∃ g o' vis', e = .returned (.slice (some ⟨g, 0, none⟩) L.length L.length) ∧ No5 o' ∧ Upd o gv w w' o' ∧ IsWave w' o' wb S sc tb L vis' ∧
      w.heap.size ≤ g ∧ w'.heap[g]? = some (.cells (intsV L).toArray 3 (0, 0)) := by
  have c9 := h.sh.top.c9
  have c10 := h.sh.top.c10
  have hmk := run_make_row' (P := Tryz.prog) 28 3 (.int .i64 0) 8 Tryz.underlying28 info3 rfl .i64 .i64 L.length (by omega) (by omega)
  have H := Lib.hid h
  have H5 := Lib.hid h5
  have OWB := Lib.hid h.sh.own
  clear h h5
  go_enter Tryz.func173, Tryz.ntmps173
  go_wp2_with fail
  have l0 : w.heap.size < (w.alloc (.cells (madeCells #[Value.int .i64 0] L.length) 3)).heap.size := by simp
  go_loopg [19] L.length (fun g i wr => ∃ m : Nat, m + g = L.length ∧ i = .int .i64 m ∧ ∃ (o_r : Nat → Nat) (vr : Int) (cur : Array Value), No5 o_r ∧ Upd o gv w wr o_r ∧ IsWave wr o_r wb S sc tb L vr ∧
      wr.heap[w.heap.size]? = some (.cells cur 3 (0, 0)) ∧ cur.size = L.length ∧ (∀ j, j < m → cur[j]? = some (.int .i64 (L.getD j 0 : Nat))) ∧ o_r w.heap.size = 7)
  case atStart =>
    refine ⟨0, by omega, rfl, own1 o w.heap.size 7, vis, _, own1_no5 H5.out (by omega), ((Upd.refl o gv w).alloc _).reown (fun b hb => own1_old hb), ⟨H.out.sh.keep (d := fun _ => False) (((Upd.refl o _ w).alloc _).reown (fun b hb => own1_old hb)) (by simp) (by simp) (by simp), H.out.sym⟩, heap_alloc_new w _, size_madeCells _ _, fun j hj => by omega, own1_new _ _ _⟩
  case round =>
    obtain ⟨m, hm, rfl, o_r, vr, cur, hr5, hru, hrw, hrc, hrs, hrj, hro⟩ := hrel
    have HRW := Lib.hid hrw
    have HRU := Lib.hid hru
    have HRC := Lib.hid hrc
    have HRS := Lib.hid hrs
    have HRJ := Lib.hid hrj
    have HRO := Lib.hid hro
    have HR5 := Lib.hid hr5
    by_cases hml : m < L.length
    · have wg := wget_any o_r wb m (L.getD m 0) S sc tb L vr wr hrw hr5 hml rfl
      obtain ⟨s, hs⟩ : ∃ s, L.getD m 0 = s := ⟨_, rfl⟩
      rw [hs] at wg
      have WG := Lib.hid wg
      have HSS := Lib.hid hs
      clear hru hrw hrc hrs hrj hro hr5 wg c9 c10 hmk hs
      go_wp2_with fail
      refine WG.out.mono ?_
      rintro e w2 ⟨rfl, o2, v2, h52, u2, wv2⟩
      have hc2 := u2.heap HRC.out (by rw [HRO.out]; unfold gv; omega)
      obtain ⟨x, hx⟩ : ∃ x, w2.cell? ⟨w.heap.size, m, none⟩ = some x := by
        refine ⟨cur.getD m undef, ?_⟩
        rw [Joins.cell_of_block hc2.1, Array.getD_eq_getD_getElem?, Array.getElem?_eq_getElem (by rw [HRS.out]; exact hml)]
        rfl
      have fx := Joins.unfrozen_of_block hc2.1 m
      have HC2 := Lib.hid hc2.1
      have HO2 := Lib.hid (hc2.2.trans HRO.out)
      have U2 := Lib.hid (HRU.out.trans u2 (fun _ h => h))
      have W2 := Lib.hid wv2
      have H52 := Lib.hid h52
      clear hc2 u2 wv2 h52 WG
      go_wp2_with fail
      go_roundg (gk - 1)
      case measure => omega
      case rel =>
        refine ⟨m + 1, by omega, by go_num, o2, v2, _, H52.out, U2.out.set (a := ⟨w.heap.size, m, none⟩) _ (.inl (Nat.le_refl _)), ⟨W2.out.sh.keep (d := fun x => x = 7) ((Upd.refl o2 _ w2).set (a := ⟨w.heap.size, m, none⟩) _ (.inr HO2.out)) (by omega) (by omega) (by omega), W2.out.sym⟩, Joins.block_setCell (i := m) HC2.out (.int .i64 s), by simpa using HRS.out, ?_, HO2.out⟩
        intro j hj
        by_cases hjm : j = m
        · subst hjm
          rw [Array.getElem?_setIfInBounds_self_of_lt (by rw [HRS.out]; exact hml), HSS.out]
        · rw [Array.getElem?_setIfInBounds_ne (by omega)]
          exact HRJ.out j (by omega)
    · have hme : m = L.length := by omega
      have c10r := hrw.sh.top.c10
      have f10r := hrw.sh.top.f 10
      clear hru hrw hrc hrs hrj hro hr5 c9 c10 hmk
      go_wp2_with fail
      go_ret
      have hne : w.heap.size ≠ wb := by
        have := HRW.out.sh.own
        have := HRO.out
        rintro e
        rw [e] at this
        omega
      refine ⟨w.heap.size, o_r, vis, rfl, HR5.out, HRU.out.set _ (.inr (.inl OWB.out)), ⟨HRW.out.sh.visit vis, HRW.out.sym⟩, Nat.le_refl _, ?_⟩
      rw [Below.heap_setCell _ _ _ _ hne, HRC.out, ints_of L cur HRS.out (fun j hj => HRJ.out j (by omega))]
end Go.Proofs.YtnadgcgnediakaaGreatDoor
namespace Go.Proofs.YtnadgcgnediakaaGreatDoor
open Go.ChangeShapes Go.WideShapes Go.ChangeAt Go.RowKit Go.Deep

/-- where a walk's parts lie -/
structure At where
  wk : Nat
  wb : Nat
  ty : Nat
  S : Nat → Nat
  sc : Nat → Nat
  tb : Nat → Nat → Nat
/-- a transform with its tally -/
structure IsWalk (w : World) (o : Nat → Nat) (A : At) (L : List Nat) (C : Nat → Nat) (all : Nat) : Prop where
  k : w.heap[A.wk]? = some (.cells #[.pointer (some ⟨A.wb, 0, none⟩), .pointer (some ⟨A.ty, 0, none⟩)] 106 (0, 0))
  ok : o A.wk = 3
  wave : ∃ vis, IsWave w o A.wb A.S A.sc A.tb L vis
  tally : IsTally w A.ty C all
  ot : o A.ty = 4
  n5 : No5 o
/-- what a call on the walk may touch -/
def gk (x : Nat) : Prop := gv x ∨ x = 4
section
variable {w w' : World} {o o' : Nat → Nat} {A : At} {L L' : List Nat} {C : Nat → Nat} {all : Nat}
theorem IsWalk.c0 (h : IsWalk w o A L C all) : w.cell? ⟨A.wk, 0, none⟩ = some (.pointer (some ⟨A.wb, 0, none⟩)) := by rw [Joins.cell_of_block h.k]; rfl
theorem IsWalk.c1 (h : IsWalk w o A L C all) : w.cell? ⟨A.wk, 1, none⟩ = some (.pointer (some ⟨A.ty, 0, none⟩)) := by rw [Joins.cell_of_block h.k]; rfl
/-- behind a call on the wave -/
theorem IsWalk.waved (h : IsWalk w o A L C all) (u : Upd o gv w w' o') (n5 : No5 o') {vis : Int} (wv : IsWave w' o' A.wb A.S A.sc A.tb L' vis) : IsWalk w' o' A L' C all := by
  have k := u.heap h.k (by rw [h.ok]; unfold gv; omega)
  have ht := u.same A.ty h.tally.lt (by rw [h.ot]; unfold gv; omega)
  exact ⟨k.1, k.2.trans h.ok, ⟨_, wv⟩, h.tally.same ht, (u.own _ h.tally.lt).trans h.ot, n5⟩
/-- whatever else is touched -/
theorem IsWalk.keep (h : IsWalk w o A L C all) {d : Nat → Prop} (u : Upd o d w w' o') (n5 : No5 o') (h4 : ∀ x, x ≤ 4 → 0 < x → ¬ d x) (h10 : ∀ x, 10 ≤ x → ¬ d x) : IsWalk w' o' A L C all := by
  obtain ⟨vis, wv⟩ := h.wave
  have k := u.heap h.k (by rw [h.ok]; exact h4 3 (by omega) (by omega))
  have ht := u.same A.ty h.tally.lt (by rw [h.ot]; exact h4 4 (by omega) (by omega))
  exact ⟨k.1, k.2.trans h.ok, ⟨_, ⟨wv.sh.keep u (h4 1 (by omega) (by omega)) (h4 2 (by omega) (by omega)) h10, wv.sym⟩⟩, h.tally.same ht, (u.own _ h.tally.lt).trans h.ot, n5⟩
end

theorem klen_any (o : Nat → Nat) (A : At) (L : List Nat) (C : Nat → Nat) (all : Nat) (w : World) (h : IsWalk w o A L C all) :
    Calls Tryz.prog 42 #[.pointer (some ⟨A.wk, 0, none⟩)] w fun e w' => e = .returned (.int .i64 L.length) ∧ w = w' := by
  have c0 := h.c0
  obtain ⟨vis, wv⟩ := h.wave
  have WL := Lib.hid (wlen_any o A.wb A.S A.sc A.tb L vis w wv)
  clear h wv
  go_enter Tryz.func42, Tryz.ntmps42
  go_wp2_with (go_at_call 95; refine WL.out.mono ?_; rintro e w' ⟨rfl, rfl⟩)
  go_ret
  exact ⟨rfl, rfl⟩
theorem kis_in (o : Nat → Nat) (A : At) (L : List Nat) (C : Nat → Nat) (all row : Nat) (w : World) (h : IsWalk w o A L C all) (hr : row < L.length) :
    Calls Tryz.prog 100 #[.pointer (some ⟨A.wk, 0, none⟩), .int .i64 row] w fun e w' => e = .returned (.bool true) ∧ w = w' := by
  have KL := Lib.hid (klen_any o A L C all w h)
  clear h
  go_enter Tryz.func100, Tryz.ntmps100
  go_wp2_with (go_at_call 42; refine KL.out.mono ?_; rintro e w' ⟨rfl, rfl⟩)
  go_ret
  exact ⟨by simp, rfl⟩
theorem kbelow_any (o : Nat → Nat) (A : At) (L : List Nat) (C : Nat → Nat) (all s : Nat) (w : World) (h : IsWalk w o A L C all) (hs : s ≤ 257) (hC : ∀ i, C i < 1000) :
    Calls Tryz.prog 103 #[.pointer (some ⟨A.wk, 0, none⟩), .int .i64 s] w fun e w' => e = .returned (.int .i64 (sumC C s)) ∧ w = w' := by
  have c1 := h.c1
  have TB := Lib.hid (tbelow_any A.ty s C all w h.tally hs hC)
  clear h
  go_enter Tryz.func103, Tryz.ntmps103
  go_wp2_with (go_at_call 157; refine TB.out.mono ?_; rintro e w' ⟨rfl, rfl⟩)
  go_ret
  exact ⟨rfl, rfl⟩
theorem kput_any (o : Nat → Nat) (A : At) (L : List Nat) (C : Nat → Nat) (all row s : Nat) (w : World) (h : IsWalk w o A L C all) (hr : row ≤ L.length) (hL : L.length < 128) (hs : s < 257) :
    Calls Tryz.prog 90 #[.pointer (some ⟨A.wk, 0, none⟩), .int .i64 row, .int .i64 s] w fun e w' => e = .returned (.tuple #[]) ∧ ∃ o', Upd o gv w w' o' ∧ IsWalk w' o' A (L.insertIdx row s) C all := by
  have c0 := h.c0
  obtain ⟨vis, wv⟩ := h.wave
  have WI := Lib.hid (wins_any o A.wb row s A.S A.sc A.tb L vis w wv h.n5 hr hL hs)
  have H := Lib.hid h
  clear h wv
  go_enter Tryz.func90, Tryz.ntmps90
  go_wp2_with fail
  refine WI.out.mono ?_
  rintro e w2 ⟨rfl, o2, v2, h52, u2, wv2⟩
  have R := Lib.hid (H.out.waved u2 h52 wv2)
  have U := Lib.hid u2
  clear u2 wv2 h52
  go_wp2_with fail
  go_end0
  exact ⟨rfl, o2, U.out, R.out⟩
theorem kcut_any (o : Nat → Nat) (A : At) (L : List Nat) (C : Nat → Nat) (all row s : Nat) (w : World) (h : IsWalk w o A L C all) (hr : row < L.length) (hL : L.length < 1000) (hs : L.getD row 0 = s) :
    Calls Tryz.prog 81 #[.pointer (some ⟨A.wk, 0, none⟩), .int .i64 row] w fun e w' => e = .returned (.int .i64 s) ∧ ∃ o', Upd o gv w w' o' ∧ IsWalk w' o' A (L.eraseIdx row) C all := by
  have c0 := h.c0
  obtain ⟨vis, wv⟩ := h.wave
  have WD := Lib.hid (wdel_any o A.wb row s A.S A.sc A.tb L vis w wv h.n5 hr hL hs)
  have H := Lib.hid h
  clear h wv hs
  go_enter Tryz.func81, Tryz.ntmps81
  go_wp2_with fail
  refine WD.out.mono ?_
  rintro e w2 ⟨rfl, o2, v2, h52, u2, wv2⟩
  have R := Lib.hid (H.out.waved u2 h52 wv2)
  have U := Lib.hid u2
  clear u2 wv2 h52
  go_wp2_with fail
  go_ret
  exact ⟨rfl, o2, U.out, R.out⟩
theorem kchange_any (o : Nat → Nat) (A : At) (L : List Nat) (C : Nat → Nat) (all row s : Nat) (w : World) (h : IsWalk w o A L C all) (hr : row < L.length) (hL : L.length < 128) (hs : s < 257) :
    Calls Tryz.prog 80 #[.pointer (some ⟨A.wk, 0, none⟩), .int .i64 row, .int .i64 s] w fun e w' => e = .returned (.tuple #[]) ∧ ∃ o', Upd o gv w w' o' ∧ IsWalk w' o' A ((L.eraseIdx row).insertIdx row s) C all := by
  have KC := Lib.hid (kcut_any o A L C all row _ w h hr (by omega) rfl)
  have hle : (L.eraseIdx row).length = L.length - 1 := List.length_eraseIdx_of_lt hr
  clear h
  go_enter Tryz.func80, Tryz.ntmps80
  go_wp2_with fail
  refine KC.out.mono ?_
  rintro e w2 ⟨rfl, o2, u2, h2⟩
  have KP := Lib.hid (kput_any o2 A (L.eraseIdx row) C all row s w2 h2 (by omega) (by omega) hs)
  have U2 := Lib.hid u2
  clear u2 h2
  go_wp2_with fail
  refine KP.out.mono ?_
  rintro e w3 ⟨rfl, o3, u3, h3⟩
  have U3 := Lib.hid (U2.out.trans u3 (fun _ h => h))
  have H3 := Lib.hid h3
  clear u3 h3
  go_wp2_with fail
  go_end0
  exact ⟨rfl, o3, U3.out, H3.out⟩
theorem kcount_any (o : Nat → Nat) (A : At) (L : List Nat) (C : Nat → Nat) (all s : Nat) (w : World) (h : IsWalk w o A L C all) (hs : s < 257) (hC : C s < 1000) (ha : all < 1000) :
    Calls Tryz.prog 82 #[.pointer (some ⟨A.wk, 0, none⟩), .int .i64 s, .int .i64 1] w fun e w' => e = .returned (.tuple #[]) ∧ Upd o (· = 4) w w' o ∧ IsWalk w' o A L (fun i => if i = s then C s + 1 else C i) (all + 1) := by
  have c1 := h.c1
  have TA := Lib.hid (tadd_any A.ty s C all w h.tally hs hC ha)
  have H := Lib.hid h
  clear h
  go_enter Tryz.func82, Tryz.ntmps82
  go_wp2_with fail
  refine TA.out.mono ?_
  rintro e w2 ⟨rfl, on, t2⟩
  have u2 : Upd o (· = 4) w w2 o := (Upd.refl o _ w).only on (.inr H.out.ot)
  have U2 := Lib.hid u2
  have T2 := Lib.hid t2
  clear on t2 u2
  go_wp2_with fail
  go_end0
  refine ⟨rfl, U2.out, ?_⟩
  obtain ⟨vis, wv⟩ := H.out.wave
  have k := U2.out.heap H.out.k (by rw [H.out.ok]; omega)
  exact ⟨k.1, H.out.ok, ⟨vis, ⟨wv.sh.keep U2.out (by omega) (by omega) (by omega), wv.sym⟩⟩, T2.out, H.out.ot, H.out.n5⟩
end Go.Proofs.YtnadgcgnediakaaGreatDoor
namespace Go.Proofs.YtnadgcgnediakaaGreatDoor
open Go.ChangeShapes Go.WideShapes Go.ChangeAt Go.RowKit Go.Deep

theorem sumC_le (C : Nat → Nat) (hC : ∀ i, C i < 1000) : ∀ k, sumC C k ≤ 1000 * k
  | 0 => by simp [sumC]
  | k + 1 => by have := hC k; have := sumC_le C hC k; simp only [sumC]; omega
theorem posN_le (L : List Nat) (k s lv : Nat) : posN L k s lv ≤ k := by
  unfold posN
  exact Nat.le_trans (List.length_filter_le _ _) (by rw [List.length_take]; omega)

/-- the row to which a row's symbol leads -/
def backN (L : List Nat) (C : Nat → Nat) (row : Nat) : Nat := sumC C (L.getD row 0) + posN L row (L.getD row 0) 9
set_option maxHeartbeats 1000000 in
theorem kback_any (o : Nat → Nat) (A : At) (L : List Nat) (C : Nat → Nat) (all row : Nat) (w : World) (h : IsWalk w o A L C all) (hr : row < L.length) (hL : L.length < 1000) (hC : ∀ i, C i < 1000) :
    Calls Tryz.prog 98 #[.pointer (some ⟨A.wk, 0, none⟩), .int .i64 row] w fun e w' => e = .returned (.int .i64 (backN L C row)) ∧ ∃ o', Upd o gv w w' o' ∧ IsWalk w' o' A L C all := by
  obtain ⟨s, hs⟩ : ∃ s, L.getD row 0 = s := ⟨_, rfl⟩
  have c0 := h.c0
  obtain ⟨vis, wv⟩ := h.wave
  have hsb : s < 257 := wv.sym s (by rw [← hs, List.getD_eq_getElem?_getD, List.getElem?_eq_getElem hr]; exact List.getElem_mem hr)
  have KI := Lib.hid (kis_in o A L C all row w h hr)
  have WG := Lib.hid (wget_any o A.wb row s A.S A.sc A.tb L vis w wv h.n5 hr hs)
  have H := Lib.hid h
  have hb1 := sumC_le C hC s
  have hb2 := posN_le L row s 9
  have ev : ((backN L C row : Nat) : Int) = (sumC C s : Nat) + (posN L row s 9 : Nat) := by unfold backN; rw [hs]; omega
  have EV := Lib.hid ev
  have HC := Lib.hid hC
  clear h wv hs ev hC
  go_enter Tryz.func98, Tryz.ntmps98
  go_wp2_with fail
  refine KI.out.mono ?_
  rintro e w' ⟨rfl, rfl⟩
  go_wp2_with fail
  refine WG.out.mono ?_
  rintro e w2 ⟨rfl, o2, v2, h52, u2, wv2⟩
  have h2 := H.out.waved u2 h52 wv2
  have d0 := h2.c0
  have h2d : IsWalk w2.drew o2 A L C all := h2.keep (d := fun _ => False) ((Upd.refl o2 _ w2).drew) h52 (by simp) (by simp)
  obtain ⟨v3, wv3⟩ := h2d.wave
  have KB0 := Lib.hid (kbelow_any o2 A L C all s w2.drew h2d (by omega) HC.out)
  have WR := Lib.hid (wcount_any o2 A.wb row s A.S A.sc A.tb L v3 w2.drew wv3 h52 (Nat.le_of_lt hr) hL hsb)
  have U2 := Lib.hid u2
  have H2 := Lib.hid h2d
  clear u2 h52 wv2 h2 h2d wv3 KI WG c0
  go_wp2_with fail
  go_region_held3 (fun wz => wz.cell? ⟨A.wk, 0, none⟩ = some (.pointer (some ⟨A.wb, 0, none⟩))) (first | exact d0 | exact d4) (first | (go_at_call 103; refine KB0.out.mono ?_; rintro e w' ⟨rfl, rfl⟩) | (go_at_call 103; refine KB4.out.mono ?_; rintro e w' ⟨rfl, rfl⟩) | (go_at_call 152; refine WR.out.mono ?_; rintro e w4 ⟨rfl, o4, v4, h54, u4, wv4⟩; have h4 := H2.out.waved u4 h54 wv4; have d4 := h4.c0; have KB4 := Lib.hid (kbelow_any o4 A L C all s w4 h4 (by omega) HC.out); have H4 := Lib.hid h4; have U4 := Lib.hid u4; clear u4 wv4 h54 h4))
  all_goals go_wp2_with fail
  all_goals go_ret
  all_goals
    have ew : IntKind.i64.wrap ((sumC C s : Nat) + (posN L row s 9 : Nat) : Int) = (backN L C row : Nat) := by
      rw [EV.out, IntKind.wrap_i64]
      omega
    refine ⟨?_, o4, U2.out.drew.trans U4.out (fun _ h => h), H4.out⟩
    show Ending.returned (.int .i64 (IntKind.i64.wrap ((sumC C s : Nat) + (posN L row s 9 : Nat) : Int))) = _
    rw [ew]
theorem kall_any (o : Nat → Nat) (A : At) (L : List Nat) (C : Nat → Nat) (all : Nat) (w : World) (h : IsWalk w o A L C all) (hL : L.length < 1000) (h0 : 0 < L.length) :
    Calls Tryz.prog 116 #[.pointer (some ⟨A.wk, 0, none⟩)] w fun e w' => ∃ g o', e = .returned (.slice (some ⟨g, 0, none⟩) L.length L.length) ∧ Upd o gv w w' o' ∧ IsWalk w' o' A L C all ∧ w.heap.size ≤ g ∧ w'.heap[g]? = some (.cells (intsV L).toArray 3 (0, 0)) := by
  have c0 := h.c0
  obtain ⟨vis, wv⟩ := h.wave
  have WA := Lib.hid (wall_any o A.wb A.S A.sc A.tb L vis w wv h.n5 hL h0)
  have H := Lib.hid h
  clear h wv
  go_enter Tryz.func116, Tryz.ntmps116
  go_wp2_with fail
  refine WA.out.mono ?_
  rintro e w2 ⟨g, o2, v2, rfl, h52, u2, wv2, hg, hr⟩
  have R := Lib.hid (H.out.waved u2 h52 wv2)
  have U := Lib.hid u2
  have HR := Lib.hid hr
  clear u2 h52 wv2 hr
  go_wp2_with fail
  go_ret
  exact ⟨g, o2, rfl, U.out, R.out, hg, HR.out⟩
end Go.Proofs.YtnadgcgnediakaaGreatDoor
namespace Go.Proofs.YtnadgcgnediakaaGreatDoor
open Go.ChangeShapes Go.WideShapes Go.ChangeAt Go.RowKit Go.Deep

theorem lin_any (r c : Nat) (hr : r < 1000) (w : World) : Calls Tryz.prog 92 #[.int .i64 r, .int .i64 c] w fun e w' => e = .returned (.int .i64 (Wd.inr r c)) ∧ w = w' := by
  by_cases h : c ≤ r
  · have e : Wd.inr r c = r + 1 := by unfold Wd.inr; rw [if_pos h]
    rw [e]
    go_enter Tryz.func92, Tryz.ntmps92
    go_wp2_with fail
    go_ret
    exact ⟨ret_int (by simp), rfl⟩
  · have e : Wd.inr r c = r := by unfold Wd.inr; rw [if_neg h]
    rw [e]
    go_enter Tryz.func92, Tryz.ntmps92
    go_wp2_with fail
    go_ret
    exact ⟨rfl, rfl⟩
theorem lin_none (c : Nat) (w : World) : Calls Tryz.prog 92 #[.int .i64 (-1), .int .i64 c] w fun e w' => e = .returned (.int .i64 (-1)) ∧ w = w' := by
  go_enter Tryz.func92, Tryz.ntmps92
  go_wp2_with fail
  go_ret
  exact ⟨rfl, rfl⟩
theorem lout_any (r g : Nat) (hr : r < 1000) (w : World) : Calls Tryz.prog 86 #[.int .i64 r, .int .i64 g] w fun e w' => e = .returned (.int .i64 (Wd.outr r g)) ∧ w = w' := by
  by_cases h : g < r
  · have e : ((Wd.outr r g : Nat) : Int) = (r : Int) - 1 := by unfold Wd.outr; rw [if_pos h]; omega
    have E := Lib.hid e
    clear e
    go_enter Tryz.func86, Tryz.ntmps86
    go_wp2_with fail
    go_ret
    exact ⟨ret_int (by rw [E.out]), rfl⟩
  · have e : Wd.outr r g = r := by unfold Wd.outr; rw [if_neg h]
    rw [e]
    go_enter Tryz.func86, Tryz.ntmps86
    go_wp2_with fail
    go_ret
    exact ⟨rfl, rfl⟩
theorem lbeside_any (n c a : Nat) (hn : n < 1000) (h1 : c < a → 0 < n) (w : World) : Calls Tryz.prog 145 #[.int .i64 n, .int .i64 c, .int .i64 a] w fun e w' => e = .returned (.int .i64 (Wd.besideN n c a)) ∧ w = w' := by
  by_cases h : c < a
  · have hp := h1 h
    have en : (n : Int) - 1 = (n - 1 : Nat) := by omega
    by_cases h2 : a ≤ n - 1
    · have e : ((Wd.besideN n c a : Nat) : Int) = ((n - 1 : Nat) : Int) + 1 := by unfold Wd.besideN Wd.inr; rw [if_pos h, if_pos h2]; omega
      have E := Lib.hid e
      have EN := Lib.hid en
      clear e en h1
      have h3 : (a : Int) ≤ (n : Int) - 1 := by omega
      go_enter Tryz.func145, Tryz.ntmps145
      go_wp2_with fail
      go_ret
      exact ⟨ret_int (by rw [E.out]; omega), rfl⟩
    · have e : ((Wd.besideN n c a : Nat) : Int) = (n : Int) - 1 := by unfold Wd.besideN Wd.inr; rw [if_pos h, if_neg h2]; omega
      have E := Lib.hid e
      clear e en h1
      have h3 : (n : Int) - 1 < (a : Int) := by omega
      go_enter Tryz.func145, Tryz.ntmps145
      go_wp2_with fail
      go_ret
      exact ⟨ret_int (by rw [E.out]), rfl⟩
  · clear h1
    by_cases h2 : a ≤ n
    · have e : ((Wd.besideN n c a : Nat) : Int) = (n : Int) + 1 := by unfold Wd.besideN Wd.inr; rw [if_neg h, if_pos h2]; omega
      have E := Lib.hid e
      clear e
      go_enter Tryz.func145, Tryz.ntmps145
      go_wp2_with fail
      go_ret
      exact ⟨ret_int (by rw [E.out]), rfl⟩
    · have e : ((Wd.besideN n c a : Nat) : Int) = (n : Int) := by unfold Wd.besideN Wd.inr; rw [if_neg h, if_neg h2]
      have E := Lib.hid e
      clear e
      go_enter Tryz.func145, Tryz.ntmps145
      go_wp2_with fail
      go_ret
      exact ⟨ret_int (by rw [E.out]), rfl⟩
end Go.Proofs.YtnadgcgnediakaaGreatDoor
namespace Go.Proofs.YtnadgcgnediakaaGreatDoor
open Wd

structure Arr (N : Nat) (s ix : Nat → Nat) (L : List Nat) (C : Nat → Nat) (all : Nat) : Prop where
  rows : Wd.Rows N ix
  len : L.length = N + 1
  isL : IsL N s ix (fun r => L.getD r 0)
  cC : ∀ i, C i = cnt (fun q => decide (s q = i)) (N + 1)
  al : all = N + 1
  sb : ∀ p, p ≤ N → s p < 257
  s0 : s N = 0
  sp : ∀ p, p < N → 0 < s p

theorem getD_ins (l : List Nat) (c x j : Nat) (hc : c ≤ l.length) : (l.insertIdx c x).getD j 0 = if j < c then l.getD j 0 else if j = c then x else l.getD (j - 1) 0 := by
  rw [List.getD_eq_getElem?_getD, List.getElem?_insertIdx]
  split
  · rw [List.getD_eq_getElem?_getD]
  · split
    · rw [if_pos (by omega)]
      rfl
    · rw [List.getD_eq_getElem?_getD]
theorem getD_erase (l : List Nat) (a j : Nat) : (l.eraseIdx a).getD j 0 = if j < a then l.getD j 0 else l.getD (j + 1) 0 := by
  rw [List.getD_eq_getElem?_getD, List.getElem?_eraseIdx]
  split <;> rw [List.getD_eq_getElem?_getD]
theorem sumC_cnt (C s : Nat → Nat) (N : Nat) (hC : ∀ i, C i = cnt (fun q => decide (s q = i)) (N + 1)) : ∀ b, sumC C b = cnt (fun q => decide (s q < b)) (N + 1)
  | 0 => by
    rw [cnt_zero _ _ (fun i _ => by simp)]
    rfl
  | b + 1 => by
    rw [sumC, sumC_cnt C s N hC b, hC b, ← cnt_or]
    · apply cnt_congr
      intro i _
      rw [Bool.eq_iff_iff]
      simp only [Bool.or_eq_true, decide_eq_true_eq]
      omega
    · intro i _ h
      simp only [decide_eq_true_eq] at h
      simp only [decide_eq_false_iff_not]
      omega
theorem posN_cnt (L : List Nat) (b : Nat) : ∀ k, k ≤ L.length → posN L k b 9 = cnt (fun r => decide (L.getD r 0 = b)) k
  | 0, _ => by rw [pos_nine]; simp [cnt]
  | k + 1, h => by
    have ih := posN_cnt L b k (by omega)
    rw [pos_nine] at ih ⊢
    rw [cnt, ← ih, List.take_add_one, List.getElem?_eq_getElem (by omega), List.filter_append, List.length_append]
    congr 1
    rw [List.getD_eq_getElem?_getD, List.getElem?_eq_getElem (by omega)]
    simp only [Option.toList_some, Option.getD_some, List.filter_cons, List.filter_nil]
    by_cases e : L[k] = b
    · simp [e]
    · have : (L[k] == b) = false := by simp [e]
      simp [e]
section
variable {N : Nat} {s ix : Nat → Nat} {L : List Nat} {C : Nat → Nat} {all : Nat}
theorem Arr.c_lt (h : Arr N s ix L C all) (hN : N < 900) (i : Nat) : C i < 1000 := by
  rw [h.cC i]
  have := cnt_le (fun q => decide (s q = i)) (N + 1)
  omega
theorem Arr.l_lt (h : Arr N s ix L C all) (r : Nat) (hr : r ≤ N) : L.getD r 0 < 257 := by
  obtain ⟨p, hp, rfl⟩ : ∃ p, p ≤ N ∧ ix (nx N p) = r := by
    have hb : ∀ i, i < N + 1 → ix (nx N i) < N + 1 := fun i hi => by have := h.rows.lt _ (nx_le (n := N) (p := i) (by omega)); omega
    have hi : ∀ i j, i < N + 1 → j < N + 1 → ix (nx N i) = ix (nx N j) → i = j := fun i j h1 h2 h3 => nx_inj (n := N) (by omega) (by omega) (h.rows.inj _ _ (nx_le (by omega)) (nx_le (by omega)) h3)
    obtain ⟨p, h1, h2⟩ := surj (N + 1) (fun p => ix (nx N p)) hb hi r (by omega)
    exact ⟨p, by omega, h2⟩
  have := h.isL p hp
  simp only at this
  rw [this]
  exact h.sb p hp
/-- where a row leads to -/
theorem Arr.back (h : Arr N s ix L C all) (e : Nat) (he : e ≤ N) : backN L C (ix (nx N e)) = cnt (fun p => decide (kl N s ix p e)) (N + 1) := by
  have h1 := h.isL e he
  simp only at h1
  have h2 := h.rows.lt _ (nx_le he)
  unfold backN
  rw [h1, sumC_cnt C s N h.cC, posN_cnt L _ _ (by rw [h.len]; omega), counts h.rows h.isL _ _ (by omega)]
  exact (kl_rowIn N s ix e).symm
theorem Arr.back_cons (h : Arr N s ix L C all) (hc : Cons N s ix) (e : Nat) (he : e ≤ N) : backN L C (ix (nx N e)) = ix e := by
  rw [h.back e he, kl_rowIn]
  exact cons_lf h.rows hc e he
/-- the end's row -/
theorem Arr.last (h : Arr N s ix L C all) (hc : Cons N s ix) : ix N = 0 := by
  have h1 := cons_lf h.rows hc N (Nat.le_refl _)
  rw [← h1, h.s0]
  unfold rowIn
  apply cnt_zero
  intro q hq
  simp only [decide_eq_false_iff_not]
  rintro (h2 | ⟨h2, h3⟩)
  · omega
  · by_cases e : q = N
    · subst e
      omega
    · have := h.sp q (by omega)
      omega
theorem cnt_in (f : Nat → Bool) (s : Nat → Nat) (at_ b N : Nat) (ha : at_ ≤ N) : cnt (fun q => f (sIn s at_ b q)) (N + 2) = cnt (fun q => f (s q)) (N + 1) + (f b).toNat := by
  rw [cnt_split (fun q => f (sIn s at_ b q)) at_ (N + 1) (by omega), sIn_at]
  congr 1
  apply cnt_congr
  intro i _
  rw [sIn_old (oth_ne _ _)]
  congr 2
  unfold old oth
  repeat' split
  all_goals omega
/-- a letter is let in -/
theorem Arr.ins (h : Arr N s ix L C all) (_hc : Cons N s ix) (at_ b : Nat) (ha : at_ ≤ N) (hb0 : 0 < b) (hb : b < 257) :
    Arr (N + 1) (sIn s at_ b) (ixIn ix at_ (rowIn N s ix b (ix at_))) (((L.eraseIdx (ix at_)).insertIdx (ix at_) b).insertIdx (rowIn N s ix b (ix at_)) (L.getD (ix at_) 0)) (fun i => if i = b then C b + 1 else C i) (all + 1) := by
  have hk := h.rows.lt at_ ha
  have hrow := rowIn_le N s ix b (ix at_)
  have hlen := h.len
  have l1 : (L.eraseIdx (ix at_)).length = N := by rw [List.length_eraseIdx_of_lt (by omega)]; omega
  have l2 : ((L.eraseIdx (ix at_)).insertIdx (ix at_) b).length = N + 1 := by rw [List.length_insertIdx_of_le_length (by omega)]; omega
  have g2 : ∀ r, ((L.eraseIdx (ix at_)).insertIdx (ix at_) b).getD r 0 = if r = ix at_ then b else L.getD r 0 := by
    intro r
    rw [getD_ins _ _ _ _ (by omega)]
    simp only [getD_erase]
    rcases Nat.lt_trichotomy r (ix at_) with h1 | h1 | h1
    · rw [if_pos h1, if_pos h1, if_neg (by omega)]
    · rw [if_neg (by omega), if_pos h1, if_pos h1]
    · rw [if_neg (by omega), if_neg (by omega), if_neg (by omega), if_neg (by omega), show r - 1 + 1 = r from by omega]
  refine ⟨in_rows h.rows ha hrow, by rw [List.length_insertIdx_of_le_length (by omega)]; omega, in_isL h.rows h.isL ha ?_ (fun r hr => ?_), fun i => ?_, by rw [h.al], fun p hp => ?_, ?_, fun p hp => ?_⟩
  · show (List.insertIdx _ _ _).getD _ 0 = _
    rw [getD_ins _ _ _ _ (by omega), if_neg (by omega), if_pos rfl]
  · show (List.insertIdx _ _ _).getD _ 0 = _
    rw [getD_ins _ _ _ _ (by omega)]
    by_cases hle : rowIn N s ix b (ix at_) ≤ r
    · have e : inr r (rowIn N s ix b (ix at_)) = r + 1 := by unfold inr; rw [if_pos hle]
      rw [e, if_neg (by omega), if_neg (by omega), show r + 1 - 1 = r from by omega, g2]
    · have e : inr r (rowIn N s ix b (ix at_)) = r := by unfold inr; rw [if_neg hle]
      rw [e, if_pos (by omega), g2]
  · have e := cnt_in (fun x => decide (x = i)) s at_ b N ha
    rw [e, ← h.cC i]
    by_cases h1 : i = b
    · subst h1
      simp
    · have : ¬ b = i := fun x => h1 x.symm
      simp [h1, this]
  · by_cases h1 : p = at_
    · rw [h1, sIn_at]; exact hb
    · rw [sIn_old h1]; exact h.sb _ (old_le hp ha h1)
  · rw [sIn_old (by omega), show old at_ (N + 1) = N from by unfold old; rw [if_neg (by omega)]; omega]
    exact h.s0
  · by_cases h1 : p = at_
    · rw [h1, sIn_at]; exact hb0
    · rw [sIn_old h1]
      refine h.sp _ ?_
      unfold old
      split <;> omega
/-- the row that the new letter gets -/
theorem Arr.new_row (h : Arr N s ix L C all) (at_ b : Nat) (ha : at_ ≤ N) : backN ((L.eraseIdx (ix at_)).insertIdx (ix at_) b) C (ix at_) = rowIn N s ix b (ix at_) := by
  have hk := h.rows.lt at_ ha
  have hlen := h.len
  have l1 : (L.eraseIdx (ix at_)).length = N := by rw [List.length_eraseIdx_of_lt (by omega)]; omega
  have e1 : ((L.eraseIdx (ix at_)).insertIdx (ix at_) b).getD (ix at_) 0 = b := by rw [getD_ins _ _ _ _ (by omega), if_neg (by omega), if_pos rfl]
  unfold backN
  rw [e1, sumC_cnt C s N h.cC, posN_cnt _ _ _ (by rw [List.length_insertIdx_of_le_length (by omega)]; omega), ← counts h.rows h.isL _ _ (by omega)]
  congr 1
  apply cnt_congr
  intro i hi
  rw [getD_ins _ _ _ _ (by omega), if_pos hi, getD_erase, if_pos hi]
/-- a row moves -/
theorem Arr.move (h : Arr N s ix L C all) (e t : Nat) (he : e ≤ N) (ht : t ≤ N) : Arr N s (moved ix e t) ((L.eraseIdx (ix e)).insertIdx t (L.getD (ix e) 0)) C all := by
  have hk := h.rows.lt e he
  have hlen := h.len
  have l1 : (L.eraseIdx (ix e)).length = N := by rw [List.length_eraseIdx_of_lt (by omega)]; omega
  refine ⟨moved_rows h.rows he ht, by rw [List.length_insertIdx_of_le_length (by omega)]; omega, moved_isL h.rows he h.isL ?_ (fun r hr hne => ?_), h.cC, h.al, h.sb, h.s0, h.sp⟩
  · show (List.insertIdx _ _ _).getD _ 0 = _
    rw [getD_ins _ _ _ _ (by omega), if_neg (by omega), if_pos rfl]
  · show (List.insertIdx _ _ _).getD _ 0 = _
    rw [getD_ins _ _ _ _ (by omega)]
    by_cases h1 : ix e < r
    · have e1 : outr r (ix e) = r - 1 := by unfold outr; rw [if_pos h1]
      rw [e1]
      by_cases h2 : t ≤ r - 1
      · have e2 : inr (r - 1) t = r := by unfold inr; rw [if_pos h2]; omega
        rw [e2, if_neg (by omega), if_neg (by omega), getD_erase, if_neg (by omega), show r - 1 + 1 = r from by omega]
      · have e2 : inr (r - 1) t = r - 1 := by unfold inr; rw [if_neg h2]
        rw [e2, if_pos (by omega), getD_erase, if_neg (by omega), show r - 1 + 1 = r from by omega]
    · have e1 : outr r (ix e) = r := by unfold outr; rw [if_neg h1]
      rw [e1]
      by_cases h2 : t ≤ r
      · have e2 : inr r t = r + 1 := by unfold inr; rw [if_pos h2]
        rw [e2, if_neg (by omega), if_neg (by omega), getD_erase, if_pos (by omega), show r + 1 - 1 = r from by omega]
      · have e2 : inr r t = r := by unfold inr; rw [if_neg h2]
        rw [e2, if_pos (by omega), getD_erase, if_pos (by omega)]
end
end Go.Proofs.YtnadgcgnediakaaGreatDoor
namespace Go.Proofs.YtnadgcgnediakaaGreatDoor.Wd

/-- the old place of a place -/
def bkp (at_ p : Nat) : Nat := if p < at_ then p else p + 1
def sOut (s : Nat → Nat) (at_ p : Nat) : Nat := s (bkp at_ p)
def ixOut (ix : Nat → Nat) (at_ p : Nat) : Nat := outr (ix (bkp at_ p)) (ix at_)
theorem bkp_ne (at_ p : Nat) : bkp at_ p ≠ at_ := by unfold bkp; split <;> omega
theorem bkp_le {n at_ p : Nat} (hp : p ≤ n) : bkp at_ p ≤ n + 1 := by unfold bkp; split <;> omega
theorem bkp_inj {at_ p q : Nat} (h : bkp at_ p = bkp at_ q) : p = q := by
  unfold bkp at h; split at h <;> split at h <;> omega
theorem bkp_oth (at_ p : Nat) : bkp at_ p = oth at_ p := rfl
theorem outr_lt {a b k : Nat} (ha : a ≠ k) (hb : b ≠ k) : outr a k < outr b k ↔ a < b := by
  unfold outr; split <;> split <;> omega
theorem outr_eq {a b k : Nat} (ha : a ≠ k) (hb : b ≠ k) (h : outr a k = outr b k) : a = b := by
  unfold outr at h; split at h <;> split at h <;> omega
theorem outr_le {a n k : Nat} (ha : a ≤ n + 1) (hk : k ≤ n + 1) (hne : a ≠ k) : outr a k ≤ n := by
  unfold outr; split <;> omega
section
variable {n : Nat} {s ix : Nat → Nat} {at_ : Nat}
theorem ix_ne (hr : Rows (n + 1) ix) (ha : at_ ≤ n) {p : Nat} (hp : p ≤ n) : ix (bkp at_ p) ≠ ix at_ := fun h => bkp_ne at_ p (hr.inj _ _ (bkp_le hp) (by omega) h)
theorem out_rows (hr : Rows (n + 1) ix) (ha : at_ ≤ n) : Rows n (ixOut ix at_) := by
  refine ⟨fun p hp => outr_le (hr.lt _ (bkp_le hp)) (hr.lt _ (by omega)) (ix_ne hr ha hp), fun p q hp hq h => ?_⟩
  exact bkp_inj (hr.inj _ _ (bkp_le hp) (bkp_le hq) (outr_eq (ix_ne hr ha hp) (ix_ne hr ha hq) h))
theorem bkp_nx {p : Nat} (hp : p ≤ n) (ha : at_ ≤ n) (h : nx n p ≠ at_) : bkp at_ (nx n p) = nx (n + 1) (bkp at_ p) := by
  unfold nx at h ⊢
  unfold bkp
  repeat' split
  all_goals first | omega | (split at h <;> omega)
theorem nx_out {p : Nat} (hp : p ≤ n) (ha : at_ ≤ n) (h : nx n p = at_) : nx (n + 1) (bkp at_ p) = at_ := by
  unfold nx at h ⊢
  unfold bkp
  repeat' split
  all_goals first | omega | (split at h <;> omega)
theorem out_lt (hr : Rows (n + 1) ix) (ha : at_ ≤ n) {p q : Nat} (hp : p ≤ n) (hq : q ≤ n) : ixOut ix at_ p < ixOut ix at_ q ↔ ix (bkp at_ p) < ix (bkp at_ q) := outr_lt (ix_ne hr ha hp) (ix_ne hr ha hq)
/-- only the place ahead may stand wrong -/
theorem out_but {e1 : Nat} (hr : Rows (n + 1) ix) (hc : Cons (n + 1) s ix) (ha : at_ ≤ n) (he1 : e1 ≤ n) (hnx : nx n e1 = at_) : But n (sOut s at_) (ixOut ix at_) e1 := by
  have hn : ∀ p, p ≤ n → p ≠ e1 → nx n p ≠ at_ := fun p hp hne h => hne (nx_inj hp he1 (h.trans hnx.symm))
  intro p q hp hq hp1 hq1
  rw [out_lt hr ha hp hq, hc _ _ (bkp_le hp) (bkp_le hq)]
  unfold kl sOut
  rw [← bkp_nx hp ha (hn p hp hp1), ← bkp_nx hq ha (hn q hq hq1), ← out_lt hr ha (nx_le hp) (nx_le hq)]
theorem out_fst (hr : Rows (n + 1) ix) (hc : Cons (n + 1) s ix) (ha : at_ ≤ n) : Fst n (sOut s at_) (ixOut ix at_) := by
  intro p q hp hq h
  rw [out_lt hr ha hp hq]
  exact (hc _ _ (bkp_le hp) (bkp_le hq)).2 (.inl h)
end
end Go.Proofs.YtnadgcgnediakaaGreatDoor.Wd
namespace Go.Proofs.YtnadgcgnediakaaGreatDoor
open Wd
section
variable {N : Nat} {s ix : Nat → Nat} {L : List Nat} {C : Nat → Nat} {all : Nat}
/-- a letter goes out -/
theorem Arr.del (h : Arr (N + 1) s ix L C (all + 1)) (at_ : Nat) (ha : at_ ≤ N) :
    Arr N (sOut s at_) (ixOut ix at_) (((L.eraseIdx (ix (at_ + 1))).insertIdx (ix (at_ + 1)) (L.getD (ix at_) 0)).eraseIdx (ix at_)) (fun i => if i = s at_ then C (s at_) - 1 else C i) all ∧ L.getD (ix (at_ + 1)) 0 = s at_ ∧ 0 < C (s at_) := by
  have hk := h.rows.lt at_ (by omega)
  have hb := h.rows.lt (at_ + 1) (by omega)
  have hlen := h.len
  have hkb : ix (at_ + 1) ≠ ix at_ := fun e => by have := h.rows.inj _ _ (by omega) (by omega) e; omega
  have l1 : (L.eraseIdx (ix (at_ + 1))).length = N + 1 := by rw [List.length_eraseIdx_of_lt (by omega)]; omega
  have g2 : ∀ r, ((L.eraseIdx (ix (at_ + 1))).insertIdx (ix (at_ + 1)) (L.getD (ix at_) 0)).getD r 0 = if r = ix (at_ + 1) then L.getD (ix at_) 0 else L.getD r 0 := by
    intro r
    rw [getD_ins _ _ _ _ (by omega)]
    simp only [getD_erase]
    rcases Nat.lt_trichotomy r (ix (at_ + 1)) with h1 | h1 | h1
    · rw [if_pos h1, if_pos h1, if_neg (by omega)]
    · rw [if_neg (by omega), if_pos h1, if_pos h1]
    · rw [if_neg (by omega), if_neg (by omega), if_neg (by omega), if_neg (by omega), show r - 1 + 1 = r from by omega]
  have g3 : ∀ r, r ≠ ix at_ → (((L.eraseIdx (ix (at_ + 1))).insertIdx (ix (at_ + 1)) (L.getD (ix at_) 0)).eraseIdx (ix at_)).getD (outr r (ix at_)) 0 = if r = ix (at_ + 1) then L.getD (ix at_) 0 else L.getD r 0 := by
    intro r hr
    rw [getD_erase]
    unfold outr
    by_cases h1 : ix at_ < r
    · rw [if_pos h1, if_neg (by omega), show r - 1 + 1 = r from by omega, g2]
    · rw [if_neg h1, if_pos (by omega), g2]
  have hnxa : nx (N + 1) at_ = at_ + 1 := by unfold nx; rw [if_neg (by omega)]
  have hcnt : ∀ i, C i = cnt (fun q => decide (sOut s at_ q = i)) (N + 1) + (decide (s at_ = i)).toNat := fun i => by
    rw [h.cC i, cnt_split (fun q => decide (s q = i)) at_ (N + 1) (by omega)]
    rfl
  refine ⟨⟨out_rows h.rows ha, by rw [List.length_eraseIdx_of_lt (by rw [List.length_insertIdx_of_le_length (by omega)]; omega), List.length_insertIdx_of_le_length (by omega)]; omega, fun p hp => ?_, fun i => ?_, by have := h.al; omega, fun p hp => h.sb _ (bkp_le hp), ?_, fun p hp => h.sp _ ?_⟩, ?_, ?_⟩
  · show (List.eraseIdx _ _).getD (ixOut ix at_ (nx N p)) 0 = sOut s at_ p
    unfold ixOut
    rw [g3 _ (ix_ne h.rows ha (nx_le hp))]
    by_cases e : nx N p = at_
    · have hb2 : bkp at_ at_ = at_ + 1 := by unfold bkp; rw [if_neg (by omega)]
      rw [e, hb2, if_pos rfl]
      have := h.isL (bkp at_ p) (bkp_le hp)
      rw [nx_out hp ha e] at this
      exact this
    · rw [if_neg, bkp_nx hp ha e]
      · exact h.isL (bkp at_ p) (bkp_le hp)
      · intro e2
        have e3 := h.rows.inj _ _ (bkp_le (nx_le hp)) (by omega) e2
        have hb2 : bkp at_ at_ = at_ + 1 := by unfold bkp; rw [if_neg (by omega)]
        rw [← hb2] at e3
        exact e (bkp_inj e3)
  · have := hcnt i
    by_cases e : i = s at_
    · subst e
      simp only [if_true]
      simp at this
      omega
    · have e2 : ¬ s at_ = i := fun x => e x.symm
      simp only [if_neg e]
      simp [e2] at this
      exact this
  · unfold sOut bkp
    rw [if_neg (by omega)]
    exact h.s0
  · unfold bkp
    split <;> omega
  · have := h.isL at_ (by omega)
    rw [hnxa] at this
    exact this
  · have := hcnt (s at_)
    simp at this
    omega
end
end Go.Proofs.YtnadgcgnediakaaGreatDoor
namespace Go.Proofs.YtnadgcgnediakaaGreatDoor.Crc
def poly : BitVec 32 := 0xEDB88320#32
def step0 (s : BitVec 32) : BitVec 32 := if s.getLsbD 0 = true then (s >>> 1) ^^^ poly else s >>> 1
def ob (b : Bool) : BitVec 32 := if b = true then 1#32 else 0#32
def flip (s : BitVec 32) (b : Bool) : BitVec 32 := s ^^^ ob b
def step (s : BitVec 32) (b : Bool) : BitVec 32 := step0 (flip s b)
def stepN : Nat → BitVec 32 → BitVec 32
  | 0, s => s
  | n + 1, s => stepN n (step0 s)
def tbl (i : Nat) : BitVec 32 := stepN 8 (BitVec.ofNat 32 i)
def upd (s : BitVec 32) (c : BitVec 8) : BitVec 32 := tbl (s.setWidth 8 ^^^ c).toNat ^^^ (s >>> 8)
def run (s : BitVec 32) (bs : List (BitVec 8)) : BitVec 32 := bs.foldl upd s
def more (s : BitVec 32) (bs : List (BitVec 8)) : BitVec 32 := ~~~(run (~~~s) bs)
def ofs (parts : List (List (BitVec 8))) : BitVec 32 := parts.foldl more 0#32

theorem stepN_add (m n : Nat) (s : BitVec 32) : stepN (m + n) s = stepN n (stepN m s) := by
  induction m generalizing s with
  | zero => simp [stepN]
  | succ m ih => rw [show m + 1 + n = (m + n) + 1 from by omega]; simp only [stepN]; exact ih _
theorem stepN_succ' (n : Nat) (s : BitVec 32) : stepN (n + 1) s = step0 (stepN n s) := by
  rw [stepN_add n 1]; rfl
theorem step_false (t : BitVec 32) : step t false = step0 t := by
  rw [step, flip, show ob false = 0#32 from rfl, BitVec.xor_zero]
theorem run_append (s : BitVec 32) (a b : List (BitVec 8)) : run s (a ++ b) = run (run s a) b := List.foldl_append
end Go.Proofs.YtnadgcgnediakaaGreatDoor.Crc
namespace Go.Proofs.YtnadgcgnediakaaGreatDoor.Ck
open Go.ChangeShapes Go.WideShapes Go.ChangeAt Go.RowKit


/-- a register as the program has it -/
def V (s : BitVec 32) : Int := (s.toNat : Int)
def W (c : BitVec 8) : Int := (c.toNat : Int)
theorem V_bd (s : BitVec 32) : 0 ≤ V s ∧ V s ≤ 4294967295 := by unfold V; have := s.isLt; omega
theorem W_bd (s : BitVec 8) : 0 ≤ W s ∧ W s ≤ 255 := by unfold W; have := s.isLt; omega
theorem V_inj {s t : BitVec 32} : V s = V t ↔ s = t := by
  unfold V
  constructor
  · intro h; exact BitVec.eq_of_toNat_eq (by omega)
  · rintro rfl; rfl
theorem V_lit (n : Nat) (h : n < 4294967296) : V (BitVec.ofNat 32 n) = (n : Int) := by
  unfold V; rw [BitVec.toNat_ofNat, Nat.mod_eq_of_lt h]
theorem V_xor (s t : BitVec 32) : bits .xor .u32 (V s) (V t) = V (s ^^^ t) := by
  unfold V; rw [u32_xor_nat _ _ s.isLt t.isLt, BitVec.toNat_xor]
theorem V_and (s t : BitVec 32) : bits .and .u32 (V s) (V t) = V (s &&& t) := by
  unfold V; rw [u32_and_nat _ _ s.isLt t.isLt, BitVec.toNat_and]
theorem V_xor1 (s : BitVec 32) : bits .xor .u32 (V s) 1 = V (s ^^^ 1#32) := V_xor s 1#32
theorem V_poly (s : BitVec 32) : bits .xor .u32 (V s) 3988292384 = V (s ^^^ Crc.poly) := V_xor s Crc.poly
theorem V_shr1 (s : BitVec 32) : V s / (2 : Int) = V (s >>> (1 : Nat)) := by
  unfold V; rw [BitVec.toNat_ushiftRight, Nat.shiftRight_eq_div_pow]; omega
theorem V_shr8 (s : BitVec 32) : V s / (256 : Int) = V (s >>> (8 : Nat)) := by
  unfold V; rw [BitVec.toNat_ushiftRight, Nat.shiftRight_eq_div_pow]; omega
theorem V_and1 (s : BitVec 32) : bits .and .u32 (V s) 1 = if s.getLsbD 0 = true then 1 else 0 := by
  have e : bits .and .u32 (V s) 1 = V (s &&& 1#32) := V_and s 1#32
  rw [e, BitVec.getLsbD, Nat.testBit_zero]
  unfold V
  rw [BitVec.toNat_and, show (1#32).toNat = 2 ^ 1 - 1 from rfl, Nat.and_two_pow_sub_one_eq_mod]
  split
  · rename_i h; have := of_decide_eq_true h; omega
  · rename_i h; simp at h; omega

theorem step_core (s : BitVec 32) (b : Bool) (w : World) :
    Calls Tryz.prog 207 #[.int .u32 (V s), .bool b] w fun e w' => e = .returned (.int .u32 (V (Crc.step s b))) ∧ w = w' := by
  have hx := V_xor1 s
  have hb := V_bd s
  cases b
  · have e0 : Crc.flip s false = s := by unfold Crc.flip Crc.ob; simp
    cases h : s.getLsbD 0
    · have e1 : bits .and .u32 (V s) 1 = 0 := by rw [V_and1, h]; rfl
      have e2 : V s / 2 = V (Crc.step s false) := by rw [V_shr1, Crc.step, Crc.step0, e0, if_neg (by rw [h]; decide)]
      clear e0 h hx
      go_enter Tryz.func207, Tryz.ntmps207
      go_wp2
      go_ret
      exact ⟨rfl, rfl⟩
    · have e1 : bits .and .u32 (V s) 1 = 1 := by rw [V_and1, h]; rfl
      have e2 : bits .xor .u32 (V s / 2) 3988292384 = V (Crc.step s false) := by rw [V_shr1, V_poly, Crc.step, Crc.step0, e0, if_pos h]
      clear e0 h hx
      go_enter Tryz.func207, Tryz.ntmps207
      go_wp2
      go_ret
      exact ⟨rfl, rfl⟩
  · obtain ⟨t, ht⟩ : ∃ t, Crc.flip s true = t := ⟨_, rfl⟩
    have hy : bits .xor .u32 (V s) 1 = V t := by rw [hx, ← ht]; rfl
    have hc := V_bd t
    clear hx
    cases h : t.getLsbD 0
    · have e1 : bits .and .u32 (V t) 1 = 0 := by rw [V_and1, h]; rfl
      have e2 : V t / 2 = V (Crc.step s true) := by rw [V_shr1, Crc.step, Crc.step0, ht, if_neg (by rw [h]; decide)]
      clear ht h
      go_enter Tryz.func207, Tryz.ntmps207
      go_wp2
      go_ret
      exact ⟨rfl, rfl⟩
    · have e1 : bits .and .u32 (V t) 1 = 1 := by rw [V_and1, h]; rfl
      have e2 : bits .xor .u32 (V t / 2) 3988292384 = V (Crc.step s true) := by rw [V_shr1, V_poly, Crc.step, Crc.step0, ht, if_pos h]
      clear ht h
      go_enter Tryz.func207, Tryz.ntmps207
      go_wp2
      go_ret
      exact ⟨rfl, rfl⟩

theorem zero193 : ∃ z : Array Value, (∀ w, (zeroValue 193).run Tryz.prog w = .ok (.agg z) w) ∧ z.size = 256 :=
  ⟨Array.replicate 256 (.int .u32 0), fun _ => by kernel_rfl, by simp⟩

/-- block g is a row of 256 cells -/
def RowAt (w : World) (g : Nat) (f : Nat → Value → Prop) : Prop := ∃ cs : Array Value, w.heap[g]? = some (.cells cs 193 (0, 0)) ∧ cs.size = 256 ∧ ∀ j, j < 256 → ∃ v, cs[j]? = some v ∧ f j v
theorem RowAt.cell {w : World} {g : Nat} {f : Nat → Value → Prop} (h : RowAt w g f) (j : Nat) (hj : j < 256) : ∃ v, w.cell? ⟨g, j, none⟩ = some v ∧ w.frozen? ⟨g, j, none⟩ = false ∧ f j v := by
  obtain ⟨cs, hh, hs, hc⟩ := h
  obtain ⟨v, hv, hf⟩ := hc j hj
  exact ⟨v, (cell_of_row w g j cs 193 (0, 0) hh).trans hv, frozen_of_row w g j cs 193 hh, hf⟩
theorem RowAt.lt {w : World} {g : Nat} {f : Nat → Value → Prop} (h : RowAt w g f) : g < w.heap.size := by
  obtain ⟨cs, hh, _⟩ := h
  rcases Nat.lt_or_ge g w.heap.size with h1 | h1
  · exact h1
  · rw [Array.getElem?_eq_none h1] at hh; cases hh
theorem RowAt.set {w : World} {g : Nat} {f f' : Nat → Value → Prop} (h : RowAt w g f) (j : Nat) (hj : j < 256) (v : Value) (hv : f' j v) (ho : ∀ i u, i < 256 → i ≠ j → f i u → f' i u) : RowAt (w.setCell ⟨g, j, none⟩ v) g f' := by
  obtain ⟨cs, hh, hs, hc⟩ := h
  refine ⟨cs.setIfInBounds j v, heap_setCell_same w g j cs 193 v hh, by simpa using hs, fun i hi => ?_⟩
  by_cases e : i = j
  · subst e
    exact ⟨v, by simp [hs, hj], hv⟩
  · obtain ⟨u, hu, hf⟩ := hc i hi
    exact ⟨u, by rw [Array.getElem?_setIfInBounds_ne (by omega)]; exact hu, ho i u hi e hf⟩
theorem RowAt.imp {w : World} {g : Nat} {f f' : Nat → Value → Prop} (h : RowAt w g f) (hi : ∀ j v, j < 256 → f j v → f' j v) : RowAt w g f' := by
  obtain ⟨cs, hh, hs, hc⟩ := h
  exact ⟨cs, hh, hs, fun j hj => by obtain ⟨v, h1, h2⟩ := hc j hj; exact ⟨v, h1, hi j v hj h2⟩⟩

theorem _root_.Go.RowKit.Below.setRow {B : Nat} {a w : World} (h : Below B a w) {g : Nat} (hg : B ≤ g) (cs : Array Value) : Below B a (w.setRow g cs) :=
  h.trans ⟨rfl, rfl, rfl, by simp, fun k hk => setRow_other _ _ _ _ (by omega)⟩

/-- the outer loop's rows: k entries are made -/
def Made (k : Nat) (j : Nat) (v : Value) : Prop := j < k → v = .int .u32 (V (Crc.tbl j))
/-- the inner loop's: entry k has gone m steps -/
def Making (k m : Nat) (j : Nat) (v : Value) : Prop := (j < k → v = .int .u32 (V (Crc.tbl j))) ∧ (j = k → v = .int .u32 (V (Crc.stepN m (BitVec.ofNat 32 k))))

set_option maxRecDepth 20000 in
theorem table_any (w : World) :
    Calls Tryz.prog 174 #[] w fun e w' => (∃ cs : Array Value, e = .returned (.agg cs) ∧ cs.size = 256 ∧ ∀ j, j < 256 → cs[j]? = some (.int .u32 (V (Crc.tbl j)))) ∧ Below w.heap.size w w' := by
  obtain ⟨z, hz, hzs⟩ := zero193
  have HZS := Lib.hid hzs
  clear hzs
  go_enter Tryz.func174, Tryz.ntmps174
  go_wp2_with fail
  go_loopw [3] (fun i wr => ∃ k : Nat, k ≤ 256 ∧ i = .int .i64 k ∧ RowAt wr (w.heap.size + 1) (Made k) ∧ Below w.heap.size w wr ∧ ∃ z' : Array Value, z'.size = 256 ∧ wr.heap[w.heap.size]? = some (.cells z' 193 (0, 0))) (fun i _ => (256 - intOf i).toNat)
  case atStart =>
    refine ⟨0, by omega, rfl, ⟨z, heap_alloc2_new _ _ _, HZS.out, fun j hj => ⟨z[j]'(by have := HZS.out; omega), Array.getElem?_eq_getElem _, fun h => absurd h (by omega)⟩⟩, ((Below.refl _ _).alloc (Nat.le_refl _) _).alloc (by simp) _, z, HZS.out, heap_alloc2_old _ _ _⟩
  case round =>
    obtain ⟨k, hk, rfl, hrow, hb, z', hz1, hz2⟩ := hrel
    have HZ1 := Lib.hid hz1
    have HZ2 := Lib.hid hz2
    clear hz hz1 hz2
    by_cases hlt : k < 256
    · obtain ⟨v0, c0, f0, _⟩ := hrow.cell k hlt
      have hdk : decide ((k : Int) < 256) = true := by simp; omega
      have hz0 := hb.size
      have hg := hrow.lt
      go_wp2_with fail
      obtain ⟨wo, hwo⟩ : ∃ wo : World, wo = wr := ⟨_, rfl⟩
      subst hwo
      go_loopw [10] (fun i wr => ∃ m : Nat, m ≤ 8 ∧ i = .int .i64 m ∧ RowAt wr (w.heap.size + 1) (Making k m) ∧ Below w.heap.size w wr ∧ ∃ z' : Array Value, z'.size = 256 ∧ wr.heap[w.heap.size]? = some (.cells z' 193 (0, 0))) (fun i _ => (8 - intOf i).toNat)
      case atStart =>
        refine ⟨0, by omega, rfl, hrow.set k hlt _ ⟨fun h => absurd h (by omega), fun _ => ?_⟩ (fun j u _ hne hf => ⟨hf, fun h => absurd h hne⟩), hb.setCell (p := ⟨w.heap.size + 1, k, none⟩) (by simp) _, z', HZ1.out, (heap_setCell_other _ _ _ _ (by simp)).trans HZ2.out⟩
        rw [Crc.stepN, V_lit k (by omega)]
      case round =>
        obtain ⟨m, hm, rfl, hrow2, hb2, z2, hz3, hz4⟩ := hrel
        have HZ3 := Lib.hid hz3
        have HZ4 := Lib.hid hz4
        clear hz3 hz4 HZ1 HZ2 hrow f0 c0
        by_cases hm8 : m < 8
        · obtain ⟨v1, c1, f1, g1⟩ := hrow2.cell k hlt
          have hv := g1.2 rfl
          obtain ⟨t, ht⟩ : ∃ t, Crc.stepN m (BitVec.ofNat 32 k) = t := ⟨_, rfl⟩
          rw [ht] at hv
          subst hv
          have HT := Lib.hid ht
          clear ht g1
          have hz5 := hb2.size
          go_wp2_with (go_at_call 207; refine (step_core t false _).mono ?_; rintro e w' ⟨rfl, rfl⟩)
          go_roundw
          case rel =>
            refine ⟨m + 1, by omega, by go_num, hrow2.set k hlt _ ⟨fun h => absurd h (by omega), fun _ => ?_⟩ (fun j u _ hne hf => ⟨hf.1, fun h => absurd h hne⟩), hb2.setCell (p := ⟨w.heap.size + 1, k, none⟩) (by simp) _, z2, HZ3.out, (heap_setCell_other _ _ _ _ (by simp)).trans HZ4.out⟩
            rw [Crc.stepN_succ', HT.out, Crc.step_false]
          case measure => simp [intOf]; omega
        · obtain rfl : m = 8 := by omega
          go_wp2_with fail
          go_roundw
          case rel =>
            refine ⟨k + 1, by omega, by go_num, hrow2.imp fun j v hj hv hjk => ?_, hb2, z2, HZ3.out, HZ4.out⟩
            by_cases e : j = k
            · subst e; exact hv.2 rfl
            · exact hv.1 (by omega)
          case measure => simp [intOf]; omega
    · obtain rfl : k = 256 := by omega
      have hz0 := hb.size
      have hlt1 := hrow.lt
      obtain ⟨cs, hcs, hsz, hcv⟩ := hrow
      have hvals : ∀ j, j < 256 → cs[j]? = some (.int .u32 (V (Crc.tbl j))) := fun j hj => by
        obtain ⟨v, hv, hm⟩ := hcv j hj
        rw [hv, hm hj]
      have hi193 : (Tryz.prog.info? 193).map (·.size) = some cs.size := by rw [hsz]; kernel_rfl
      have HV := Lib.hid hvals
      have HC := Lib.hid hcs
      have HS := Lib.hid hsz
      have HI := Lib.hid hi193
      clear hcs hcv hvals hsz hi193
      go_wp2_with (first | (refine wpList_load_row rfl 193 (.tmp 1) rfl (w.heap.size + 1) rfl 193 cs (0, 0) _ HC.out Tryz.underlying193 rfl HI.out ?_) | (refine wpList_store_row rfl 193 (.tmp 0) (.tmp 20) rfl w.heap.size cs rfl rfl 193 z' HZ2.out HI.out ?h1 ?h2 ?_))
      case h1 => rw [HZ1.out, HS.out]
      case h2 =>
        rw [Array.all_eq_true]
        intro i hi
        have hv := HV.out i (by have := HS.out; omega)
        rw [Array.getElem?_eq_getElem hi] at hv
        injection hv with hv
        rw [hv]
        rfl
      refine bodyPost_ret (results_cell_row (ty := 193) Tryz.results174 _ _ w.heap.size 193 cs (0, 0) _ (by simp [Act.put]) (setRow_heap _ _ _ _ _ _ HZ2.out) Tryz.underlying193 rfl HI.out) rfl ?_
      exact ⟨⟨cs, rfl, HS.out, HV.out⟩, hb.setRow (Nat.le_refl _) cs⟩

/-- a slice of bytes below block B: its cells -/
def IsBytes (w : World) (B : Nat) (A : Option Addr) (len : Nat) (bs : List (BitVec 8)) : Prop :=
  bs.length = len ∧ (0 < len → ∃ b off, A = some ⟨b, off, none⟩ ∧ b < B ∧ ∀ i c, bs[i]? = some c → w.cell? ⟨b, off + i, none⟩ = some (.int .u8 (W c)))
theorem IsBytes.below {w w' : World} {B : Nat} {A : Option Addr} {len : Nat} {bs : List (BitVec 8)} (h : IsBytes w B A len bs) (hb : Below B w w') (B' : Nat) (hB : B ≤ B') : IsBytes w' B' A len bs := by
  obtain ⟨h1, h2⟩ := h
  refine ⟨h1, fun hl => ?_⟩
  obtain ⟨b, off, e, hbb, hc⟩ := h2 hl
  exact ⟨b, off, e, by omega, fun i c hi => (hb.cell (p := ⟨b, off + i, none⟩) hbb).trans (hc i c hi)⟩

theorem oneCells (cs : Array Value) (hs : cs.size = 256) (hv : ∀ j, j < 256 → cs[j]? = some (.int .u32 (V (Crc.tbl j)))) : cs.all (·.oneCell') = true := by
  rw [Array.all_eq_true]
  intro i hi
  have h := hv i (by omega)
  rw [Array.getElem?_eq_getElem hi] at h
  injection h with h
  rw [h]
  rfl
theorem V_not (s : BitVec 32) : bits .xor .u32 IntKind.u32.max (V s) = V (~~~s) := by
  have e : IntKind.u32.max = V (BitVec.allOnes 32) := by decide
  rw [e, V_xor, BitVec.allOnes_xor]
theorem W_low (t : BitVec 32) (c : BitVec 8) : bits .xor .u8 (V t % 256) (W c) = W (t.setWidth 8 ^^^ c) := by
  have e : V t % 256 = ((t.setWidth 8).toNat : Int) := by
    unfold V
    rw [BitVec.toNat_setWidth]
    omega
  rw [e]
  unfold W
  rw [u8_xor_nat _ _ (t.setWidth 8).isLt c.isLt, BitVec.toNat_xor]
theorem _root_.Go.Proofs.YtnadgcgnediakaaGreatDoor.Crc.run_take (s : BitVec 32) (bs : List (BitVec 8)) (k : Nat) (c : BitVec 8) (h : bs[k]? = some c) : Crc.run s (bs.take (k + 1)) = Crc.upd (Crc.run s (bs.take k)) c := by
  obtain ⟨hk, rfl⟩ := List.getElem?_eq_some_iff.1 h
  rw [List.take_succ_eq_append_getElem hk, Crc.run_append]
  rfl

set_option maxRecDepth 20000 in
theorem more_any (s : BitVec 32) (A : Option Addr) (len cap : Nat) (bs : List (BitVec 8)) (w : World) (hs : IsBytes w w.heap.size A len bs) (hlm : len ≤ 9223372036854775807) :
    Calls Tryz.prog 117 #[.int .u32 (V s), .slice A len cap] w fun e w' => e = .returned (.int .u32 (V (Crc.more s bs))) ∧ Below w.heap.size w w' := by
  obtain ⟨z, hz, hzs⟩ := zero193
  have HZS := Lib.hid hzs
  have HB := Lib.hid hs
  clear hzs hs
  have sb := V_bd s
  go_enter Tryz.func117, Tryz.ntmps117
  go_wp2_with fail
  refine (table_any _).mono ?_
  rintro e w1 ⟨⟨cs, rfl, hcs, hcv⟩, hb1⟩
  have HS := Lib.hid hcs
  have HV := Lib.hid hcv
  have HI := Lib.hid (show (Tryz.prog.info? 193).map (·.size) = some cs.size by rw [hcs]; kernel_rfl)
  clear hcs hcv
  go_wp2_with (refine wpList_store_row rfl 193 (.tmp 5) (.tmp 8) rfl w1.heap.size cs rfl rfl 193 z (heap_alloc_new _ _) HI.out ?h1 ?h2 ?_)
  case h1 => rw [HZS.out, HS.out]
  case h2 => exact oneCells cs HS.out HV.out
  have F1 : ((w1.alloc (Obj.cells z 193)).setRow w1.heap.size cs).heap[w1.heap.size]? = some (.cells cs 193 (0, 0)) := setRow_heap _ _ _ _ _ _ (heap_alloc_new _ _)
  have F2 : Below w.heap.size w ((w1.alloc (Obj.cells z 193)).setRow w1.heap.size cs) := (hb1.alloc hb1.size _).setRow hb1.size _
  generalize ((w1.alloc (Obj.cells z 193)).setRow w1.heap.size cs) = W2 at F1 F2 ⊢
  have G1 := Lib.hid F1
  have HB2 := Lib.hid (HB.out.below F2 w.heap.size (Nat.le_refl _))
  clear F1 hz
  go_loop [0, 13] (fun t i => ∃ k : Nat, k ≤ len ∧ i = .int .i64 k ∧ t = .int .u32 (V (Crc.run (~~~s) (bs.take k)))) (fun _ i => len - (intOf i).toNat)
  case atStart => exact ⟨0, by omega, rfl, by rw [V_not]; rfl⟩
  case round =>
    obtain ⟨k, hk, rfl, rfl⟩ := hrel
    by_cases hlt : k < len
    · obtain ⟨b, off, rfl, hbs, hcell⟩ := HB2.out.2 (by omega)
      obtain ⟨c, hck⟩ : ∃ c, bs[k]? = some c := ⟨_, List.getElem?_eq_getElem (by have := HB2.out.1; omega)⟩
      have g0 := hcell k c hck
      have HK := Lib.hid (Crc.run_take (~~~s) bs k c hck)
      clear hcell hck
      obtain ⟨t, ht⟩ : ∃ t, Crc.run (~~~s) (bs.take k) = t := ⟨_, rfl⟩
      rw [ht] at HK ⊢
      clear ht
      have tb := V_bd t
      have xb := W_bd (t.setWidth 8 ^^^ c)
      have e1 : bits .xor .u8 (V t % 256) (W c) = W (t.setWidth 8 ^^^ c) := W_low t c
      have e2 : W2.cell? ⟨w1.heap.size, (W (t.setWidth 8 ^^^ c)).toNat, none⟩ = some (.int .u32 (V (Crc.tbl (t.setWidth 8 ^^^ c).toNat))) := by
        rw [cell_of_row W2 _ _ cs 193 (0, 0) G1.out]
        exact HV.out _ (by omega)
      have e3 : bits .xor .u32 (V (Crc.tbl (t.setWidth 8 ^^^ c).toNat)) (V t / 256) = V (Crc.upd t c) := by
        rw [V_shr8, V_xor]; rfl
      generalize t.setWidth 8 ^^^ c = x at *
      go_wp2_with fail
      go_round
      case rel => exact ⟨k + 1, by omega, by go_num, by rw [HK.out]⟩
      case measure => simp [intOf]; omega
    · obtain rfl : k = len := by omega
      have e := V_not (Crc.run (~~~s) (bs.take k))
      have HL := Lib.hid (show bs.take k = bs from List.take_of_length_le (by have := HB2.out.1; omega))
      go_wp2_with fail
      go_ret
      exact ⟨ret_int (by rw [HL.out]; rfl), F2⟩

structure Part where
  A : Option Addr
  len : Nat
  cap : Nat
  bs : List (BitVec 8)

def Part.val (p : Part) : Value := .slice p.A p.len p.cap
def Part.at (w : World) (B : Nat) (p : Part) : Prop := IsBytes w B p.A p.len p.bs ∧ p.len ≤ 9223372036854775807
def IsParts (w : World) (B : Nat) (A : Option Addr) (n : Nat) (ps : List Part) : Prop :=
  ps.length = n ∧ (0 < n → ∃ b off, A = some ⟨b, off, none⟩ ∧ b < B ∧ ∀ i p, ps[i]? = some p → p.at w B ∧ w.cell? ⟨b, off + i, none⟩ = some (.slice p.A p.len p.cap))

theorem more_part (s : BitVec 32) (p : Part) (w : World) (hp : p.at w w.heap.size) :
    Calls Tryz.prog 117 #[.int .u32 (V s), .slice p.A p.len p.cap] w fun e w' => e = .returned (.int .u32 (V (Crc.more s p.bs))) ∧ Below w.heap.size w w' :=
  more_any s p.A p.len p.cap p.bs w hp.1 hp.2

theorem Part.at.below {w w' : World} {B : Nat} {p : Part} (h : p.at w B) (hb : Below B w w') (B' : Nat) (hB : B ≤ B') : p.at w' B' := ⟨h.1.below hb B' hB, h.2⟩

theorem _root_.Go.Proofs.YtnadgcgnediakaaGreatDoor.Crc.ofs_take (ps : List (List (BitVec 8))) (k : Nat) (c : List (BitVec 8)) (h : ps[k]? = some c) : Crc.ofs (ps.take (k + 1)) = Crc.more (Crc.ofs (ps.take k)) c := by
  obtain ⟨hk, rfl⟩ := List.getElem?_eq_some_iff.1 h
  rw [List.take_succ_eq_append_getElem hk]
  unfold Crc.ofs
  rw [List.foldl_append]
  rfl

theorem of_any (A : Option Addr) (n cap : Nat) (ps : List Part) (w : World) (hs : IsParts w w.heap.size A n ps) (hn : n ≤ 9223372036854775807) :
    Calls Tryz.prog 57 #[.slice A n cap] w fun e w' => e = .returned (.int .u32 (V (Crc.ofs (ps.map Part.bs)))) ∧ Below w.heap.size w w' := by
  have HS := Lib.hid hs
  clear hs
  have v0 : V 0#32 = 0 := rfl
  go_enter Tryz.func57, Tryz.ntmps57
  go_wp2_with fail
  go_loopw [3, 8] (fun s i wr => ∃ k : Nat, k ≤ n ∧ i = .int .i64 k ∧ s = .int .u32 (V (Crc.ofs ((ps.map Part.bs).take k))) ∧ Below w.heap.size w wr) (fun _ i _ => n - (intOf i).toNat)
  case atStart => exact ⟨0, by omega, rfl, rfl, Below.refl _ _⟩
  case round =>
    obtain ⟨k, hk, rfl, rfl, hb⟩ := hrel
    have hz := hb.size
    by_cases hlt : k < n
    · obtain ⟨b, off, rfl, hbs, hcell⟩ := HS.out.2 (by omega)
      obtain ⟨p, hpk⟩ : ∃ p, ps[k]? = some p := ⟨_, List.getElem?_eq_getElem (by have := HS.out.1; omega)⟩
      obtain ⟨hp, c0⟩ := hcell k p hpk
      have g0 := (hb.cell (p := ⟨b, off + k, none⟩) hbs).trans c0
      have HK := Lib.hid (Crc.ofs_take (ps.map Part.bs) k p.bs (by rw [List.getElem?_map, hpk]; rfl))
      have HP := Lib.hid hp
      clear hcell hpk c0 hp
      obtain ⟨t, ht⟩ : ∃ t, Crc.ofs ((ps.map Part.bs).take k) = t := ⟨_, rfl⟩
      rw [ht] at HK ⊢
      clear ht
      go_wp2_with fail
      refine (more_part t p _ (HP.out.below hb _ hz)).mono ?_
      rintro e w1 ⟨rfl, hb1⟩
      go_wp2_with fail
      go_roundw
      case rel => exact ⟨k + 1, by omega, by go_num, by rw [HK.out], hb.trans (hb1.mono hz)⟩
      case measure => simp [intOf]; omega
    · obtain rfl : k = n := by omega
      have HL := Lib.hid (show (ps.map Part.bs).take k = ps.map Part.bs from List.take_of_length_le (by have := HS.out.1; simp; omega))
      go_wp2_with fail
      go_ret
      exact ⟨ret_int (by rw [HL.out]), hb⟩

/-- one part, just laid: a slice of one slice -/
theorem of_one (p : Part) (w : World) (b : Nat) (hb : b < w.heap.size) (hp : p.at w w.heap.size) (h0 : w.cell? ⟨b, 0, none⟩ = some (.slice p.A p.len p.cap)) :
    Calls Tryz.prog 57 #[.slice (some ⟨b, 0, none⟩) 1 1] w fun e w' => e = .returned (.int .u32 (V (Crc.more 0#32 p.bs))) ∧ Below w.heap.size w w' :=
  of_any (some ⟨b, 0, none⟩) 1 1 [p] w ⟨rfl, fun _ => ⟨b, 0, rfl, hb, fun i x hx => by
    match i with
    | 0 => obtain rfl : p = x := by simpa using hx
           exact ⟨hp, by simpa using h0⟩
    | i + 1 => simp at hx⟩⟩ (by omega)
theorem of_two (p q : Part) (w : World) (b : Nat) (hb : b < w.heap.size) (hp : p.at w w.heap.size) (hq : q.at w w.heap.size) (h0 : w.cell? ⟨b, 0, none⟩ = some (.slice p.A p.len p.cap)) (h1 : w.cell? ⟨b, 1, none⟩ = some (.slice q.A q.len q.cap)) :
    Calls Tryz.prog 57 #[.slice (some ⟨b, 0, none⟩) 2 2] w fun e w' => e = .returned (.int .u32 (V (Crc.more (Crc.more 0#32 p.bs) q.bs))) ∧ Below w.heap.size w w' :=
  of_any (some ⟨b, 0, none⟩) 2 2 [p, q] w ⟨rfl, fun _ => ⟨b, 0, rfl, hb, fun i x hx => by
    match i with
    | 0 => obtain rfl : p = x := by simpa using hx
           exact ⟨hp, by simpa using h0⟩
    | 1 => obtain rfl : q = x := by simpa using hx
           exact ⟨hq, by simpa using h1⟩
    | i + 2 => simp at hx⟩⟩ (by omega)
theorem of_none (w : World) : Calls Tryz.prog 57 #[.slice none 0 0] w fun e w' => e = .returned (.int .u32 0) ∧ Below w.heap.size w w' :=
  of_any none 0 0 [] w ⟨rfl, by omega⟩ (by omega)
end Go.Proofs.YtnadgcgnediakaaGreatDoor.Ck
