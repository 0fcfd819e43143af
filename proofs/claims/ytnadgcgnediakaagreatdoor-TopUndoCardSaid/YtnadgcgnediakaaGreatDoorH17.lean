/- The walks of walk: First, On, Narrow. -/
import Derived.Test.YtnadgcgnediakaaGreatDoorH14
import Derived.Test.YtnadgcgnediakaaGreatDoorH15
import Derived.Test.YtnadgcgnediakaaGreatDoorH13
namespace Go.Proofs.YtnadgcgnediakaaGreatDoor
open Go.ChangeShapes Go.WideShapes Go.ChangeAt Go.RowKit Go.Deep

/-- behind calls that only read -/
def RdK (o : Nat → Nat) (w : World) (A : At) (L : List Nat) (C : Nat → Nat) (all : Nat) (wz : World) : Prop := ∃ o', Upd o gv w wz o' ∧ IsWalk wz o' A L C all
section
variable {o : Nat → Nat} {w wz : World} {A : At} {L : List Nat} {C : Nat → Nat} {all : Nat}
theorem RdK.c0 (h : RdK o w A L C all wz) : wz.cell? ⟨A.wk, 0, none⟩ = some (.pointer (some ⟨A.wb, 0, none⟩)) := h.choose_spec.2.c0
theorem RdK.refl (h : IsWalk w o A L C all) : RdK o w A L C all w := ⟨o, Upd.refl _ _ _, h⟩
theorem RdK.drew (h : RdK o w A L C all wz) : RdK o w A L C all wz.drew := by
  obtain ⟨o', u, k⟩ := h
  exact ⟨o', u.drew, k.keep (d := fun _ => False) ((Upd.refl o' _ wz).drew) k.n5 (by simp) (by simp)⟩
theorem rd_below (h : RdK o w A L C all wz) {s : Nat} (hs : s ≤ 257) (hC : ∀ i, C i < 1000) : Calls Tryz.prog 103 #[.pointer (some ⟨A.wk, 0, none⟩), .int .i64 s] wz fun e w' => e = .returned (.int .i64 (sumC C s)) ∧ wz = w' := by
  obtain ⟨o', u, k⟩ := h
  exact kbelow_any o' A L C all s wz k hs hC
theorem rd_rank (h : RdK o w A L C all wz) {s : Nat} (k : Nat) (hk : k ≤ L.length) (hL : L.length < 1000) (hs : s < 257) : Calls Tryz.prog 152 #[.pointer (some ⟨A.wb, 0, none⟩), .int .i64 k, .int .i64 s] wz fun e w' => e = .returned (.int .i64 (posN L k s 9)) ∧ RdK o w A L C all w' := by
  obtain ⟨o', u, kk⟩ := h
  obtain ⟨v, wv⟩ := kk.wave
  refine (wcount_any o' A.wb k s A.S A.sc A.tb L v wz wv kk.n5 hk hL hs).mono ?_
  rintro e w4 ⟨rfl, o4, v4, h54, u4, wv4⟩
  exact ⟨rfl, o4, u.trans u4 (fun _ h => h), kk.waved u4 h54 wv4⟩
theorem rd_select (h : RdK o w A L C all wz) (hT : Tab w) (h0 : o 0 = 0) (k s : Nat) (hk : k < L.length) (hL : L.length < 1000) (hs : s < 257) (hsk : L.getD k 0 = s) : Calls Tryz.prog 102 #[.pointer (some ⟨A.wb, 0, none⟩), .int .i64 (posN L k s 9), .int .i64 s] wz fun e w' => e = .returned (.int .i64 k) ∧ RdK o w A L C all w' := by
  obtain ⟨o', u, kk⟩ := h
  obtain ⟨v, wv⟩ := kk.wave
  refine (wselect_any o' A.wb k s A.S A.sc A.tb L v wz wv kk.n5 (hT.upd u (by rw [h0]; unfold gv; omega)) ((u.own 0 hT.lt).trans h0) hk hL hs hsk).mono ?_
  rintro e w4 ⟨rfl, o4, v4, h54, u4, wv4⟩
  exact ⟨rfl, o4, u.trans u4 (fun _ h => h), kk.waved u4 h54 wv4⟩
end

theorem kfirst_any (o : Nat → Nat) (A : At) (L : List Nat) (C : Nat → Nat) (all row s : Nat) (w : World) (h : IsWalk w o A L C all) (hr : row < L.length) (hL : L.length < 1000) (hs : s < 257) (h1 : sumC C s ≤ row) (h2 : row < sumC C s + C s) :
    Calls Tryz.prog 45 #[.pointer (some ⟨A.wk, 0, none⟩), .int .i64 row] w fun e w' => e = .returned (.int .i64 s) ∧ w = w' := by
  have c1 := h.c1
  have KI := Lib.hid (kis_in o A L C all row w h hr)
  have TW := Lib.hid (twhich_any A.ty row s C all w h.tally hs h1 h2 (by omega))
  clear h h1 h2
  go_enter Tryz.func45, Tryz.ntmps45
  go_wp2_with fail
  refine KI.out.mono ?_
  rintro e w' ⟨rfl, rfl⟩
  go_wp2_with fail
  refine TW.out.mono ?_
  rintro e w' ⟨rfl, rfl⟩
  go_wp2_with fail
  go_ret
  exact ⟨rfl, rfl⟩
theorem kon_any (o : Nat → Nat) (A : At) (L : List Nat) (C : Nat → Nat) (all row s k : Nat) (w : World) (h : IsWalk w o A L C all) (hT : Tab w) (h0 : o 0 = 0) (hr : row < L.length) (hL : L.length < 1000) (hC : ∀ i, C i < 1000) (hs : s < 257) (hk : k < L.length) (hsk : L.getD k 0 = s) (he : row = sumC C s + posN L k s 9) (h2 : posN L k s 9 < C s) :
    Calls Tryz.prog 46 #[.pointer (some ⟨A.wk, 0, none⟩), .int .i64 row] w fun e w' => e = .returned (.int .i64 k) ∧ RdK o w A L C all w' := by
  have KF := Lib.hid (kfirst_any o A L C all row s w h hr hL hs (by omega) (by omega))
  have R0 := Lib.hid (RdK.refl h).drew
  have SEL := Lib.hid (fun (wz : World) (hz : RdK o w A L C all wz) => rd_select hz hT h0 k s hk hL hs hsk)
  have BEL := Lib.hid (fun (wz : World) (hz : RdK o w A L C all wz) => rd_below hz (s := s) (by omega) hC)
  have hb1 := sumC_le C hC s
  have hb2 := posN_le L k s 9
  have C0 := Lib.hid h.c0
  have ew : (row : Int) - (sumC C s : Nat) = (posN L k s 9 : Nat) := by omega
  have EW := Lib.hid ew
  have ewr : IntKind.i64.wrap ((row : Int) - (sumC C s : Nat)) = (posN L k s 9 : Nat) := by rw [EW.out, IntKind.wrap_i64]; omega
  clear h hT h0 hC hsk he h2 ew
  go_enter Tryz.func46, Tryz.ntmps46
  go_wp2_with fail
  refine KF.out.mono ?_
  rintro e w' ⟨rfl, rfl⟩
  go_wp2_with fail
  go_region_held3 (fun wz => wz.cell? ⟨A.wk, 0, none⟩ = some (.pointer (some ⟨A.wb, 0, none⟩)) ∧ RdK o w A L C all wz) (first | exact ⟨C0.out, R0.out⟩ | exact ⟨R3.out.c0, R3.out⟩) (first | (go_at_call 103; refine (BEL.out _ (by first | exact R0.out | assumption)).mono ?_; rintro e w' ⟨rfl, rfl⟩) | (go_at_call 102; refine (SEL.out _ (by first | exact R0.out | assumption)).mono ?_; rintro e w3 ⟨rfl, r3⟩; have R3 := Lib.hid r3; clear r3))
  all_goals go_wp2_with fail
  all_goals go_ret
  all_goals exact ⟨rfl, R3.out⟩

set_option maxRecDepth 20000 in
set_option maxHeartbeats 4000000 in
theorem knarrow_any (o : Nat → Nat) (A : At) (L : List Nat) (C : Nat → Nat) (all lo hi s : Nat) (w : World) (h : IsWalk w o A L C all) (hlo : lo ≤ hi) (hhi : hi ≤ L.length) (hL : L.length < 1000) (hC : ∀ i, C i < 1000) (hs : s < 257) :
    Calls Tryz.prog 105 #[.pointer (some ⟨A.wk, 0, none⟩), .int .i64 lo, .int .i64 hi, .int .i64 s] w fun e w' => e = .returned (.tuple #[.int .i64 (sumC C s + posN L lo s 9 : Nat), .int .i64 (sumC C s + posN L hi s 9 : Nat)]) ∧ RdK o w A L C all w' := by
  have SI := Lib.hid (fun wx => sis_sym s hs wx)
  have KL := Lib.hid (klen_any o A L C all w h)
  have R0 := Lib.hid (RdK.refl h).drew
  have RK := Lib.hid (fun (k : Nat) (hk : k ≤ L.length) (wz : World) (hz : RdK o w A L C all wz) => rd_rank hz k hk hL hs)
  have BEL := Lib.hid (fun (wz : World) (hz : RdK o w A L C all wz) => rd_below hz (s := s) (by omega) hC)
  have hb1 := sumC_le C hC s
  have hb2 := posN_le L lo s 9
  have hb3 := posN_le L hi s 9
  have C0 := Lib.hid h.c0
  have m1 : max (lo : Int) 0 = lo := by omega
  have m2 : min (lo : Int) (L.length : Int) = lo := by omega
  have m3 : min (hi : Int) (L.length : Int) = hi := by omega
  have m4 : max (hi : Int) (lo : Int) = hi := by omega
  have E1 := Lib.hid (show ((sumC C s + posN L lo s 9 : Nat) : Int) = (sumC C s : Nat) + (posN L lo s 9 : Nat) by omega)
  have E2 := Lib.hid (show ((sumC C s + posN L hi s 9 : Nat) : Int) = (sumC C s : Nat) + (posN L hi s 9 : Nat) by omega)
  have W1 : IntKind.i64.wrap ((sumC C s : Nat) + (posN L lo s 9 : Nat) : Int) = (sumC C s + posN L lo s 9 : Nat) := by rw [E1.out, IntKind.wrap_i64]; omega
  have W2 : IntKind.i64.wrap ((sumC C s : Nat) + (posN L hi s 9 : Nat) : Int) = (sumC C s + posN L hi s 9 : Nat) := by rw [E2.out, IntKind.wrap_i64]; omega
  have HLO := Lib.hid (show lo ≤ L.length by omega)
  have HHI := Lib.hid hhi
  have HW := Lib.hid (And.intro W1 W2)
  clear h hC W1 W2
  go_enter Tryz.func105, Tryz.ntmps105
  go_wp2_with (first | (go_at_call 99; refine (SI.out _).mono ?_; rintro e w' ⟨rfl, rfl⟩) | (go_at_call 42; refine KL.out.mono ?_; rintro e w' ⟨rfl, rfl⟩))
  go_region_held3 (fun wz => wz.cell? ⟨A.wk, 0, none⟩ = some (.pointer (some ⟨A.wb, 0, none⟩)) ∧ RdK o w A L C all wz) (first | (with_reducible exact ⟨R4.out.c0, R4.out⟩) | (with_reducible exact ⟨R3.out.c0, R3.out⟩) | exact ⟨C0.out, R0.out⟩) (first | (go_at_call 103; ((with_reducible refine (BEL.out _ (by first | exact R4.out | exact R3.out | exact R0.out)).mono ?_); rintro e w' ⟨rfl, rfl⟩)) | (go_at_call 152; ((with_reducible refine (RK.out _ (by first | exact HLO.out | exact HHI.out) _ R3.out).mono ?_); rintro e w4 ⟨rfl, r4⟩; have R4 := Lib.hid r4; clear r4)) | (go_at_call 152; ((with_reducible refine (RK.out _ (by first | exact HLO.out | exact HHI.out) _ R0.out).mono ?_); rintro e w3 ⟨rfl, r3⟩; have R3 := Lib.hid r3; clear r3)))
  all_goals obtain ⟨W1, W2⟩ := HW.out
  all_goals go_wp2_with fail
  all_goals go_ret2
  all_goals
    refine ⟨?_, R4.out⟩
    show Ending.returned (.tuple #[.int .i64 (IntKind.i64.wrap ((sumC C s : Nat) + (posN L lo s 9 : Nat) : Int)), .int .i64 (IntKind.i64.wrap ((sumC C s : Nat) + (posN L hi s 9 : Nat) : Int))]) = _
    rw [W1, W2]
end Go.Proofs.YtnadgcgnediakaaGreatDoor
