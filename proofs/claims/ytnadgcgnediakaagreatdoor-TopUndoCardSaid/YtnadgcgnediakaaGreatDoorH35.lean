/- What makes an empty text: walk.of, walk.New, live.New, store.New. -/
import Derived.Test.YtnadgcgnediakaaGreatDoorH30
import Derived.Test.YtnadgcgnediakaaGreatDoorH28
import Derived.Test.YtnadgcgnediakaaGreatDoorH33
namespace Go.Proofs.YtnadgcgnediakaaGreatDoor
open Go.ChangeShapes Go.WideShapes Go.ChangeAt Go.RowKit Go.Deep

/-- the new walk's owners -/
def ownK (o : Nat → Nat) (n m : Nat) : Nat → Nat := fun b => if b < n then o b else if b = n then 4 else if b = m then 3 else 0
theorem ownK_old {o : Nat → Nat} {n m b : Nat} (h : b < n) : ownK o n m b = o b := if_pos h
theorem ownK_no5 {o : Nat → Nat} (h : No5 o) (n m : Nat) : No5 (ownK o n m) := by
  intro b
  unfold ownK
  split
  · exact h b
  · split
    · omega
    · split <;> omega
def C0 : Nat → Nat := fun i => if i = 0 then 1 else 0
set_option maxHeartbeats 1000000 in
theorem kof_zero (o : Nat → Nat) (lb c : Nat) (w : World) (h5 : No5 o) (hlo : ∀ b, b < w.heap.size → o b = 0) (hl : w.cell? ⟨lb, 0, none⟩ = some (.int .i64 0)) :
    Calls Tryz.prog 65 #[.slice (some ⟨lb, 0, none⟩) 1 c] w fun e w' => ∃ A o', e = .returned (.pointer (some ⟨A.wk, 0, none⟩)) ∧ Upd o (fun _ => False) w w' o' ∧ IsWalk w' o' A [0] C0 1 := by
  have WN := Lib.hid (wnew_zero o lb c w h5 hlo hl)
  have HL := Lib.hid hl
  have HLL := Lib.hid (cell_lt hl)
  clear h5 hlo hl
  go_enter Tryz.func65, Tryz.ntmps65
  go_wp2_with fail
  refine WN.out.mono ?_
  rintro e w1 ⟨wb, S, sc, tb, o1, rfl, u1, n5, _, wv⟩
  have TN := Lib.hid (tlnew_zero lb c w1 (by rw [World.cell?_of_block (w := w) (u1.same lb HLL.out (by simp))]; exact HL.out))
  have U1 := Lib.hid u1
  have N5 := Lib.hid n5
  have WV := Lib.hid wv
  clear u1 n5 wv
  go_wp2_with fail
  refine TN.out.mono ?_
  rintro e w2 ⟨rfl, b2, t2⟩
  have B2 := Lib.hid b2
  have T2 := Lib.hid t2
  clear b2 t2
  go_wp2_with fail
  go_ret
  have lt2 := T2.out.lt
  have u3 : Upd o1 (fun _ => False) w1 (w2.alloc (.cells #[.pointer (some ⟨wb, 0, none⟩), .pointer (some ⟨w1.heap.size, 0, none⟩)] 106)) (ownK o1 w1.heap.size w2.heap.size) :=
    (((Upd.refl o1 _ w1).belowN B2.out).alloc _).reown fun b hb => ownK_old hb
  refine ⟨⟨w2.heap.size, wb, w1.heap.size, S, sc, tb⟩, _, rfl, U1.out.trans u3 (fun _ h => h), heap_alloc_new w2 _, ?_, ⟨0, ⟨WV.out.sh.keep u3 (by simp) (by simp) (by simp), WV.out.sym⟩⟩, T2.out.same (Below.heap_alloc _ _ _ lt2), ?_, ownK_no5 N5.out _ _⟩
  · show ownK o1 w1.heap.size w2.heap.size w2.heap.size = 3
    unfold ownK
    rw [if_neg (by omega), if_neg (by omega), if_pos rfl]
  · show ownK o1 w1.heap.size w2.heap.size w1.heap.size = 4
    unfold ownK
    rw [if_neg (by omega), if_pos rfl]
theorem knew_none (o : Nat → Nat) (w : World) (h5 : No5 o) (hlo : ∀ b, b < w.heap.size → o b = 0) :
    Calls Tryz.prog 34 #[.slice none 0 0] w fun e w' => ∃ A o', e = .returned (.pointer (some ⟨A.wk, 0, none⟩)) ∧ Upd o (fun _ => False) w w' o' ∧ IsWalk w' o' A [0] C0 1 := by
  have SL := Lib.hid (slast_none w)
  have H5 := Lib.hid h5
  have HLO := Lib.hid hlo
  clear h5 hlo
  go_enter Tryz.func34, Tryz.ntmps34
  go_wp2_with fail
  refine SL.out.mono ?_
  rintro e w1 ⟨g, c, rfl, b1, o1⟩
  have u1 : Upd o (fun _ => False) w w1 (ext o w.heap.size 0) := (Upd.start o _ w 0).belowN b1
  have KO := Lib.hid (kof_zero (ext o w.heap.size 0) g c w1 (ext_no5 H5.out _ (by omega)) (fun b hb => by
    by_cases h : b < w.heap.size
    · rw [ext_old h]; exact HLO.out b h
    · rw [ext_new (by omega)]) (owns_cell o1 0 _ rfl))
  have U1 := Lib.hid u1
  clear u1 b1 o1
  go_wp2_with fail
  refine KO.out.mono ?_
  rintro e w2 ⟨A, o2, rfl, u2, k2⟩
  have U2 := Lib.hid u2
  have K2 := Lib.hid k2
  clear u2 k2
  go_wp2_with fail
  go_ret
  exact ⟨A, o2, rfl, U1.out.trans U2.out (fun _ h => h), K2.out⟩
def Z0 : Nat → Nat := fun _ => 0
def S0 : Nat → Bool := Wd.addS (fun _ => false) 0
theorem arr0 : Arr 0 Z0 Z0 [0] C0 1 := by
  refine ⟨⟨fun p _ => by unfold Z0; omega, fun p q hp hq _ => by omega⟩, rfl, fun p hp => rfl, fun i => ?_, rfl, fun p hp => by unfold Z0; omega, rfl, fun p hp => by omega⟩
  unfold C0 Z0
  by_cases h : i = 0
  · subst h; rfl
  · have : ¬ 0 = i := fun e => h e.symm
    simp [Wd.cnt, h, this]
theorem cons0 : Wd.Cons 0 Z0 Z0 := by
  intro p q hp hq
  unfold Wd.kl Z0
  omega
theorem cov0 (rate : Nat) (h : 1 ≤ rate) : Wd.Cov S0 0 rate := by
  refine ⟨rfl, fun x hx _ => ⟨1, by omega, by omega, .inr rfl⟩⟩
/-- the new text's own block -/
def ownL (o : Nat → Nat) (n : Nat) : Nat → Nat := fun b => if b < n then o b else 8
set_option maxHeartbeats 2000000 in
theorem lnew_none (o : Nat → Nat) (w : World) (rate : Nat) (h1 : 1 ≤ rate) (h64 : rate ≤ 64) (h5 : No5 o) (hlo : ∀ b, b < w.heap.size → o b = 0) (tab : Tab w) :
    Calls Tryz.prog 13 #[.int .i64 rate, .slice none 0 0] w fun e w' => ∃ A lb pb o', e = .returned (.tuple #[.pointer (some ⟨lb, 0, none⟩), .int .i64 0]) ∧ Upd o (fun _ => False) w w' o' ∧ IsLive w' o' A lb pb rate 0 Z0 S0 [0] C0 1 := by
  have d1 : decide ((rate : Int) < 1) = false := decide_eq_false (by omega)
  have d2 : decide ((64 : Int) < rate) = false := decide_eq_false (by omega)
  have CZ := Lib.hid (concat_zero w)
  have KN := Lib.hid (knew_none o w h5 hlo)
  have HLO := Lib.hid hlo
  have TB := Lib.hid tab
  have O0 := Lib.hid (hlo 0 tab.lt)
  clear h5 hlo tab
  go_enter Tryz.func13, Tryz.ntmps13
  go_wp2_with fail
  refine CZ.out.mono ?_
  rintro e w' ⟨rfl, hw⟩
  obtain rfl : w = w' := hw.symm
  clear hw
  go_wp2_with fail
  refine KN.out.mono ?_
  rintro e w1 ⟨A, o1, rfl, u1, k1⟩
  have U1 := Lib.hid u1
  have K1 := Lib.hid k1
  clear u1 k1
  go_wp2_with fail
  obtain ⟨W, hW⟩ : ∃ W, W = w1.alloc (.cells #[.pointer (some ⟨A.wk, 0, none⟩), .pointer none, .int .i64 rate, .int .i64 0] 76) := ⟨_, rfl⟩
  rw [← hW]
  have uW : Upd o1 (fun _ => False) w1 W (ext o1 w1.heap.size 8) := by rw [hW]; exact (Upd.start o1 _ w1 8).alloc _
  have lW : W.heap[w1.heap.size]? = some (.cells #[.pointer (some ⟨A.wk, 0, none⟩), .pointer none, .int .i64 rate, .int .i64 0] 76 (0, 0)) := by rw [hW]; exact heap_alloc_new w1 _
  have KW := Lib.hid (K1.out.keep uW (ext_no5 K1.out.n5 _ (by omega)) (by simp) (by simp))
  have UW := Lib.hid (U1.out.trans uW (fun _ h => h))
  have LW := Lib.hid lW
  have OW := Lib.hid (show ext o1 w1.heap.size 8 w1.heap.size = 8 from ext_new (Nat.le_refl _))
  have PN := Lib.hid (pnew_one (ext o1 w1.heap.size 8) W 1 (by omega))
  clear hW uW lW
  refine PN.out.mono ?_
  rintro e w3 ⟨pb, o3, rfl, n53, u3, _, ap, ip⟩
  have k3 := u3.heap LW.out (by simp)
  have l1 : w3.cell? ⟨w1.heap.size, 1, none⟩ = some (.pointer none) := by rw [Joins.cell_of_block k3.1]; rfl
  have f1 := Joins.unfrozen_of_block k3.1 1
  have SM : Smp Z0 0 (fun _ => false) (fun _ => 0) (fun _ => 0) 0 [] := ⟨by omega, List.Pairwise.nil, fun k hk => absurd hk List.not_mem_nil, fun p _ => by simp⟩
  have O8 := k3.2.trans OW.out
  have N53 := n53 KW.out.n5
  have u4 : Upd o3 (· = 8) w3 (w3.setCell ⟨w1.heap.size, 1, none⟩ (.pointer (some ⟨pb, 0, none⟩))) o3 := (Upd.refl o3 _ w3).set _ (.inr O8)
  have UT : Upd o (fun _ => False) w w3 o3 := UW.out.trans u3 (fun _ h => h)
  have IL : IsLive (w3.setCell ⟨w1.heap.size, 1, none⟩ (.pointer (some ⟨pb, 0, none⟩))) o3 A w1.heap.size pb rate 0 Z0 (fun _ => false) [0] C0 1 :=
    ⟨⟨0, Joins.block_setCell k3.1 _⟩, O8, (KW.out.keep u3 N53 (by simp) (by simp)).keep u4 N53 (by omega) (by omega), (show IsPerm w3 o3 pb 0 Z0 (fun _ => false) from ⟨ap, _, _, _, _, _, _, ip, SM⟩).keep u4 (by omega) (by omega), (TB.out.upd UT (fun h => h)).upd u4 (by show ¬ o3 0 = 8; rw [UT.own 0 TB.out.lt, O0.out]; omega), (UT.own 0 TB.out.lt).trans O0.out⟩
  have IL3 := Lib.hid IL
  have hge : w.heap.size ≤ w1.heap.size := U1.out.size
  have U4 := Lib.hid (UT.set (a := ⟨w1.heap.size, 1, none⟩) (.pointer (some ⟨pb, 0, none⟩)) (.inl hge))
  clear u3 ip k3 SM O8 N53 u4 UT IL n53 hge
  go_wp2_with fail
  obtain ⟨W4, hW4⟩ : ∃ W4, W4 = w3.setCell ⟨w1.heap.size, 1, none⟩ (.pointer (some ⟨pb, 0, none⟩)) := ⟨_, rfl⟩
  rw [← hW4] at IL3 U4 ⊢
  clear hW4 l1 f1
  refine (srows_none W4).mono ?_
  rintro e w5 ⟨rg, rc, rfl, b5, ow5⟩
  have r0 := owns_cell ow5 0 _ rfl
  have u5 : Upd o3 (fun _ => False) W4 w5 (ext o3 W4.heap.size 0) := (Upd.start o3 _ W4 0).belowN b5
  have IL5 := Lib.hid (IL3.out.keep u5 (ext_no5 IL3.out.n5 _ (by omega)) (by simp))
  have U5 := Lib.hid (U4.out.trans u5 (fun _ h => h))
  have c1 := IL5.out.c1
  have PA := Lib.hid (show Calls Tryz.prog 37 #[.pointer (some ⟨pb, 0, none⟩), .int .i64 0, .int .i64 0] w5 _ from padd_s IL5.out.pm arr0.rows (by omega) 0 (by omega) rfl)
  clear b5 ow5 u5
  go_wp2_with fail
  refine wp_loop_rounds 2 ?_
  rw [rounds_succ]
  go_wp2_with fail
  refine PA.out.mono ?_
  rintro e w6 ⟨rfl, o6, n56, u6, p6⟩
  have IL6 := Lib.hid (IL5.out.permed u6 (n56 IL5.out.n5) (by omega) p6)
  have U6 := Lib.hid (U5.out.trans' u6 (fun b hb hx => (by
    have := U5.out.own b hb
    have := HLO.out b hb
    omega)))
  clear u6 p6 n56
  go_wp2_with fail
  rw [rounds_succ]
  go_wp2_with fail
  go_ret2
  exact ⟨A, _, pb, o6, rfl, U6.out, IL6.out⟩
set_option maxHeartbeats 1000000 in
/-- an empty store: nothing but new blocks -/
theorem snew_any (w : World) (most rate : Nat) (hm : most ≤ 1000) (h1 : 1 ≤ rate) (h64 : rate ≤ 64) (tab : Tab w) :
    Calls Tryz.prog 6 #[.int .i64 most, .int .i64 rate] w fun e w' => ∃ A sb lb pb o', e = .returned (.tuple #[.pointer (some ⟨sb, 0, none⟩), .int .i64 0]) ∧ Below w.heap.size w w' ∧ (∀ b, b < w.heap.size → o' b = 0) ∧
      IsLive w' o' A lb pb rate 0 Z0 S0 [0] C0 1 ∧ w'.heap[sb]? = some (stC lb most) ∧ o' sb = 3 := by
  have d1 : decide ((most : Int) < 0) = false := decide_eq_false (by omega)
  have d2 : decide ((2147483648 : Int) < most) = false := decide_eq_false (by omega)
  have LN := Lib.hid (lnew_none (fun _ => 0) w rate h1 h64 (fun b => (by decide : (0 : Nat) ≠ 5)) (fun b _ => rfl) tab)
  clear tab
  go_enter Tryz.func6, Tryz.ntmps6
  go_wp2_with fail
  refine LN.out.mono ?_
  rintro e w1 ⟨A, lb, pb, o1, rfl, u1, k1⟩
  have U1 := Lib.hid u1
  have K1 := Lib.hid k1
  clear u1 k1
  go_wp2_with fail
  go_ret2
  have u2 : Upd o1 (fun _ => False) w1 (w1.alloc (.cells #[.pointer (some ⟨lb, 0, none⟩), .int .i64 most] 54)) (ext o1 w1.heap.size 3) := (Upd.start o1 _ w1 3).alloc _
  refine ⟨A, w1.heap.size, lb, pb, _, rfl, ?_, ?_, K1.out.keep u2 (ext_no5 K1.out.n5 _ (by omega)) (by simp), heap_alloc_new w1 _, ext_new (Nat.le_refl _)⟩
  · exact (U1.out.trans u2 (fun _ h => h)).below (Nat.le_refl _) (by simp)
  · intro b hb
    exact (U1.out.trans u2 (fun _ h => h)).own b hb
end Go.Proofs.YtnadgcgnediakaaGreatDoor
