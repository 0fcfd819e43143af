/- The walk of the statement's told. The walk of TopReads. -/
import Derived.Test.YtnadgcgnediakaaGreatDoorH38
import Derived.Lib.SlBytesRow
import Derived.Laws.BytesArg
namespace Go.Proofs.YtnadgcgnediakaaGreatDoor
open Go.ChangeShapes Go.WideShapes Go.ChangeAt Go.RowKit Go.Deep

def banS : ByteArray := { data := #[98, 97, 110, 97, 110, 97] }
theorem sym_ban : ∀ p, p ≤ 6 → sB p = symS banS p := by decide
set_option maxRecDepth 20000 in
set_option maxHeartbeats 4000000 in
theorem told_any (w : World) (tab : Tab w) : Calls Tryz.prog 5 #[] w fun e w' => e = .returned (.bool true) ∧ Below w.heap.size w w' := by
  have SN := Lib.hid (snew_any w 20 4 (by omega) (by omega) (by omega) tab)
  clear tab
  go_enter Tryz.func5, Tryz.ntmps5
  go_wp2_with fail
  refine SN.out.mono ?_
  rintro e w1 ⟨A, sb, lb, pb, o1, rfl, b1, h0, k1, st, os⟩
  have hc1 := Joins.run_convert_bytes_const_at (P := Tryz.prog) w1 22 5 banC 6 6 w1.heap.size rfl Tryz.underlying22 Tryz.underlying5
  unfold banC at hc1
  have hc2 := Joins.run_convert_bytes_const_at (P := Tryz.prog) (w1.alloc (.cells banC 5 (6, 7))) 22 5 anaC 3 3 (w1.heap.size + 1) (by simp) Tryz.underlying22 Tryz.underlying5
  unfold banC anaC at hc2
  have hc3 := Joins.run_convert_bytes_const_at (P := Tryz.prog) ((w1.alloc (.cells banC 5 (6, 7))).alloc (.cells anaC 5 (3, 4))) 22 5 anaC 3 3 (w1.heap.size + 2) (by simp) Tryz.underlying22 Tryz.underlying5
  unfold banC anaC at hc3
  have B1 := Lib.hid b1
  have H0 := Lib.hid h0
  have K1 := Lib.hid k1
  have ST := Lib.hid (And.intro st os)
  clear b1 h0 k1 st os
  go_wp2_with fail
  clear hc1 hc2 hc3
  obtain ⟨W, hW⟩ : ∃ W, W = ((((w1.alloc (.cells banC 5 (6, 7))).alloc (.cells anaC 5 (3, 4))).alloc (.cells anaC 5 (3, 4))).alloc (.cells (stepsC w1.heap.size) 33)) := ⟨_, rfl⟩
  have uW : Upd o1 (fun _ => False) w1 W (ext o1 w1.heap.size 6) := by rw [hW]; exact ((((Upd.start o1 _ w1 6).alloc _).alloc _).alloc _).alloc _
  have x0 : W.heap[w1.heap.size]? = some (.cells banC 5 (6, 7)) := by
    rw [hW, Below.heap_alloc _ _ _ (by simp; omega), Below.heap_alloc _ _ _ (by simp; omega), Below.heap_alloc _ _ _ (by simp)]
    exact heap_alloc_new w1 _
  have x1 : W.heap[w1.heap.size + 1]? = some (.cells anaC 5 (3, 4)) := by
    rw [hW, Below.heap_alloc _ _ _ (by simp), Below.heap_alloc _ _ _ (by simp)]
    have := heap_alloc_new (w1.alloc (.cells banC 5 (6, 7))) (.cells anaC 5 (3, 4))
    rwa [World.size_alloc] at this
  have x2 : W.heap[w1.heap.size + 2]? = some (.cells anaC 5 (3, 4)) := by
    rw [hW, Below.heap_alloc _ _ _ (by simp)]
    have := heap_alloc_new ((w1.alloc (.cells banC 5 (6, 7))).alloc (.cells anaC 5 (3, 4))) (.cells anaC 5 (3, 4))
    rwa [World.size_alloc, World.size_alloc] at this
  have x3 : W.heap[w1.heap.size + 3]? = some (.cells (stepsC w1.heap.size) 33 (0, 0)) := by
    rw [hW]
    have := heap_alloc_new (((w1.alloc (.cells banC 5 (6, 7))).alloc (.cells anaC 5 (3, 4))).alloc (.cells anaC 5 (3, 4))) (.cells (stepsC w1.heap.size) 33)
    rwa [World.size_alloc, World.size_alloc, World.size_alloc] at this
  have sW := uW.heap ST.out.1 (by simp)
  have RB := Lib.hid (run_ban (ext o1 w1.heap.size 6) W A lb pb sb w1.heap.size (K1.out.keep uW (ext_no5 K1.out.n5 _ (by omega)) (by simp)) sW.1 (sW.2.trans ST.out.2) _ _ _ x0 x1 x2 x3 ⟨ext_new (Nat.le_refl _), ext_new (by omega), ext_new (by omega), ext_new (by omega)⟩)
  have BW := Lib.hid (show Below w.heap.size w W from B1.out.trans (uW.below B1.out.size (by simp)))
  have OW := Lib.hid (show ∀ b, b < w.heap.size → ¬ gl (ext o1 w1.heap.size 6 b) from fun b hb => by
    rw [ext_old (Nat.lt_of_lt_of_le hb B1.out.size), H0.out b hb]
    unfold gl
    omega)
  show Calls Tryz.prog 12 #[.pointer (some ⟨sb, 0, none⟩), .slice (some ⟨w1.heap.size + 3, 0, none⟩) 4 4] ((((w1.alloc (.cells banC 5 (6, 7))).alloc (.cells anaC 5 (3, 4))).alloc (.cells anaC 5 (3, 4))).alloc (.cells (stepsC w1.heap.size) 33)) _
  rw [← hW]
  clear hW uW x0 x1 x2 x3 sW
  refine RB.out.mono ?_
  rintro e w2 ⟨g, c, v2, v3, ix, S, L, C, o2, rfl, ar, hc, cov, sit, r2, r3⟩
  obtain ⟨g2, q2, rfl, _, _⟩ := own_form r2 (by omega)
  obtain ⟨g3, q3, rfl, _, _⟩ := own_form r3 (by omega)
  have d5 : w2.cell? ⟨g, 5, none⟩ = some (.int .i64 2) := owns_cell sit.ow.1 5 _ rfl
  have d11 : w2.cell? ⟨g, 11, none⟩ = some (.slice (some ⟨g2, 0, none⟩) 2 q2) := owns_cell sit.ow.1 11 _ rfl
  have d14 : w2.cell? ⟨g, 14, none⟩ = some (.slice (some ⟨g3, 0, none⟩) 3 q3) := owns_cell sit.ow.1 14 _ rfl
  have e0 : w2.cell? ⟨g2, 0, none⟩ = some (.int .i64 1) := owns_cell r2 0 _ rfl
  have e1 : w2.cell? ⟨g2, 1, none⟩ = some (.int .i64 3) := owns_cell r2 1 _ rfl
  have cv : (convert 22 9 (.slice (some ⟨g3, 0, none⟩) 3 q3)).run Tryz.prog w2 = .ok (.string { data := #[97, 110, 97] }) w2 := run_convert_bytes_back (P := Tryz.prog) w2 22 9 5 ⟨g3, 0, none⟩ q3 [97, 110, 97] Tryz.underlying22 Tryz.underlying5 Tryz.underlying9 (fun j hj => by
    rw [add_zero']
    match j, hj with
    | 0, _ => exact owns_cell r3 0 _ rfl
    | 1, _ => exact owns_cell r3 1 _ rfl
    | 2, _ => exact owns_cell r3 2 _ rfl)
  have FI := Lib.hid (fine_any sit.li sit.st sit.os banS rfl (ar.congr sym_ban) (Cons.congr hc sym_ban) cov (by omega) (by omega))
  have U2 := Lib.hid sit.u
  clear ar hc cov sit r2 r3
  go_wp2_with fail
  refine FI.out.mono ?_
  rintro e w3 ⟨rfl, o3, u3, k3⟩
  have FIN := Lib.hid (show Below w.heap.size w w3 from BW.out.trans ((U2.out.trans u3 (fun _ h => h)).below BW.out.size OW.out))
  clear u3 k3
  go_wp2_with fail
  go_ret
  exact ⟨rfl, FIN.out⟩
end Go.Proofs.YtnadgcgnediakaaGreatDoor
namespace Go.Proofs.YtnadgcgnediakaaGreatDoor
open Go.ChangeShapes Go.WideShapes Go.ChangeAt Go.RowKit Go.Deep

theorem field30 (a b : Int) (c d : Value) (_hc : c.oneCell' = true) (w : World) : (Instr.field 30 (.agg #[.int .i64 a, .int .i64 b, c, d]) 0).run Tryz.prog w = .ok (.int .i64 a) w := by
  have hi : (Tryz.prog.info? 3).map (fun i => i.size) = some 1 := by kernel_rfl
  obtain ⟨i, hi1, hi2⟩ := Option.map_eq_some_iff.1 hi
  simp [Instr.field, run_underlying Tryz.underlying30, go_sem, asAgg]
/-- a text of no byte, whatever its address -/
theorem str_none (w : World) (p : Option Addr) (c : Nat) : (convert 22 9 (.slice p 0 c)).run Tryz.prog w = .ok (.string ByteArray.empty) w := by
  rw [run_convert_bytes_string w 22 9 5 p 0 c Tryz.underlying22 Tryz.underlying5 Tryz.underlying9]
  cases p
  · simp [Conv.bytesToString]
  · simp [Conv.bytesToString, loadCells]
    rfl
/-- what a step reads as -/
structure StepAt (w : World) (b off i : Nat) (kd at_ n : Int) (dv : Value) : Prop where
  c0 : w.cell? ⟨b, off + i * 4, none⟩ = some (.int .i64 kd)
  c1 : w.cell? ⟨b, off + i * 4 + 1, none⟩ = some (.int .i64 at_)
  c2 : w.cell? ⟨b, off + i * 4 + 2, none⟩ = some (.int .i64 n)
  c3 : w.cell? ⟨b, off + i * 4 + 3, none⟩ = some dv
/-- letters put into nothing -/
theorem sIn_all (z : Nat → Fin 256) : ∀ n p, sInM Z0 0 z n p = if p < n then (z p).1 + 1 else 0
  | 0, p => by simp [sInM, Z0]
  | n + 1, p => by
    have ih := sIn_all z n
    show Wd.sIn (sInM Z0 0 z n) (0 + n) ((z n).1 + 1) p = _
    unfold Wd.sIn
    rw [Nat.zero_add, ih, ih]
    by_cases h1 : p < n
    · rw [if_pos h1, if_pos h1, if_pos (by omega)]
    · rw [if_neg h1]
      by_cases h2 : p = n
      · subst h2
        rw [if_pos rfl, if_pos (by omega)]
      · rw [if_neg h2, if_neg (by omega), if_neg (by omega)]
/-- a text as a string -/
theorem str_of (z : Nat → Fin 256) (n : Nat) : ∃ t : ByteArray, t.size = n ∧ (∀ p, p ≤ n → sInM Z0 0 z n p = symS t p) ∧ ∀ (wx : World) (a : Option Addr) (c : Nat), BySl wx (.slice a n c) (byV z n) → (convert 22 9 (.slice a n c)).run Tryz.prog wx = .ok (.string t) wx := by
  obtain ⟨xs, hxs⟩ : ∃ xs : List Int, xs = (List.range n).map fun j => ((z j).1 : Int) := ⟨_, rfl⟩
  have hl : xs.length = n := by rw [hxs]; simp
  have hg : ∀ j (h : j < xs.length), xs[j] = ((z j).1 : Int) := fun j h => by subst hxs; simp
  refine ⟨strOfNums xs, by rw [strOfNums_size, hl], fun p hp => ?_, fun wx a c h => ?_⟩
  · rw [sIn_all]
    unfold symS
    by_cases e : p < n
    · rw [if_pos e, dif_pos (by rw [strOfNums_size, hl]; exact e)]
      have hb : ((strOfNums xs)[p]'(by rw [strOfNums_size, hl]; exact e)) = UInt8.ofNat (xs[p]'(by rw [hl]; exact e)).toNat := by
        show (strOfNums xs).data[p]'(by have := strOfNums_size xs; have e2 : (strOfNums xs).data.size = (strOfNums xs).size := rfl; omega) = _
        unfold strOfNums
        simp
      rw [hb, hg]
      have := (z p).2
      simp
    · rw [if_neg e, dif_neg (by rw [strOfNums_size, hl]; exact e)]
  · rcases h.2 with ⟨e, e2⟩ | ⟨b, off, c2, e, hb, hc⟩ | ⟨ad, c2, e, e2⟩
    · cases e
      obtain rfl : xs = [] := List.eq_nil_of_length_eq_zero (by rw [hl])
      exact str_none wx none 0
    · rw [byV_len] at e
      cases e
      refine run_convert_bytes_arg (P := Tryz.prog) wx 22 5 Tryz.underlying22 Tryz.underlying5 b off n c xs hl (fun i hi => ?_) 9 Tryz.underlying9
      rw [hc i _ (byV_get z n i hi), List.getD_eq_getElem?_getD, List.getElem?_eq_getElem (by rw [hl]; exact hi), hg]
      rfl
    · have h0 : n = 0 := by
        have := byV_len z n
        rw [e2] at this
        exact this.symm
      subst h0
      obtain rfl : xs = [] := List.eq_nil_of_length_eq_zero hl
      exact str_none wx a c
theorem umod4 (kd : Int) : ∃ r : Nat, r < 4 ∧ (IntKind.u64.wrap kd).tmod 4 = r := by
  have h0 : 0 ≤ IntKind.u64.wrap kd := by simp [IntKind.wrap, IntKind.bits, IntKind.signed]; omega
  refine ⟨((IntKind.u64.wrap kd).tmod 4).toNat, ?_, ?_⟩
  · rw [Int.tmod_eq_emod_of_nonneg h0]; omega
  · rw [Int.tmod_eq_emod_of_nonneg h0]; omega
section
variable {o : Nat → Nat} {w : World} {A : At} {lb pb rate N sb most : Nat} {s ix : Nat → Nat} {S : Nat → Bool} {L : List Nat} {C : Nat → Nat} {all : Nat}
/-- what only reads -/
theorem sdo_reads (h : IsLive w o A lb pb rate N ix S L C all) (hs : w.heap[sb]? = some (stC lb most)) (os : o sb = 3) (ar : Arr N s ix L C all) (hN : N ≤ 110) (hc : Wd.Cons N s ix) (hS : S 0 = true) (r : Nat) (hr : r < 4) (a k : Int) (dv : Value) (n : Nat) (z : Nat → Fin 256) (hd : BySl w dv (byV z n)) (hn : n < 1000) :
    Calls Tryz.prog 7 #[.pointer (some ⟨sb, 0, none⟩), stepV (4 + r) a k dv] w fun e w' => (∃ v, e = .returned v) ∧ RdL o w A lb pb rate N ix S L C all w' := by
  match r, hr with
  | 0, _ =>
    refine (show Calls Tryz.prog 7 #[.pointer (some ⟨sb, 0, none⟩), stepV 4 a k dv] w _ from sdo_len h hs ar hN a k dv n z hd).mono ?_
    rintro e w' ⟨rfl, q⟩
    exact ⟨⟨_, rfl⟩, q⟩
  | 1, _ =>
    by_cases hak : 0 ≤ a ∧ 0 ≤ k ∧ a ≤ N ∧ k ≤ N - a
    · obtain ⟨a', rfl⟩ := Int.eq_ofNat_of_zero_le hak.1
      obtain ⟨k', rfl⟩ := Int.eq_ofNat_of_zero_le hak.2.1
      refine (show Calls Tryz.prog 7 #[.pointer (some ⟨sb, 0, none⟩), stepV 5 a' k' dv] w _ from sdo_take h hs os ar hN hc a' k' (by omega) dv n z hd).mono ?_
      rintro e w' ⟨v, rfl, q⟩
      exact ⟨⟨_, rfl⟩, q.rd⟩
    · refine (show Calls Tryz.prog 7 #[.pointer (some ⟨sb, 0, none⟩), stepV 5 a k dv] w _ from sdo_bad h hs os ar hN a k hak dv n z hd).mono ?_
      rintro e w' ⟨rfl, q⟩
      exact ⟨⟨_, rfl⟩, q⟩
  | 2, _ =>
    refine (show Calls Tryz.prog 7 #[.pointer (some ⟨sb, 0, none⟩), stepV 6 a k dv] w _ from sdo_count h hs os ar hN a k dv n z hd hn).mono ?_
    rintro e w' ⟨rfl, q⟩
    exact ⟨⟨_, rfl⟩, q⟩
  | 3, _ =>
    obtain ⟨pl, hpl⟩ := ar.place
    refine (show Calls Tryz.prog 7 #[.pointer (some ⟨sb, 0, none⟩), stepV 7 a k dv] w _ from sdo_loc h hs os ar hN a k dv n z hd hn hc hS pl hpl).mono ?_
    rintro e w' ⟨v, rfl, q⟩
    exact ⟨⟨_, rfl⟩, q.rd⟩
end
section
set_option maxRecDepth 20000 in
set_option maxHeartbeats 4000000 in
theorem treads_walk (a0 : Option Addr) (len0 cap0 : Nat) (a1 : Option Addr) (len1 cap1 : Nat) (w : World) (tab : Tab w) (z0 : Nat → Fin 256) (h0 : BySl w (.slice a0 len0 cap0) (byV z0 len0)) (hl0 : len0 ≤ 9223372036854775807) (hl1 : len1 ≤ 9223372036854775807)
    (hst : ∀ i, i < len1 → ∃ b off kd at_ n da dm dc z, a1 = some ⟨b, off, none⟩ ∧ b < w.heap.size ∧ StepAt w b off i kd at_ n (.slice da dm dc) ∧ dm ≤ 9223372036854775807 ∧ BySl w (.slice da dm dc) (byV z dm)) :
    Calls Tryz.prog 4 #[.slice a0 len0 cap0, .slice a1 len1 cap1] w fun e w' => e = .returned (.bool true) ∧ Below w.heap.size w w' := by
  have TA := Lib.hid told_any
  have TB := Lib.hid tab
  by_cases h60 : 60 < len0
  · have d1 : decide ((60 : Int) < len0) = true := decide_eq_true (by omega)
    have d1' : decide (60 < len0) = true := decide_eq_true (by omega)
    go_enter Tryz.func4, Tryz.ntmps4
    go_wp2_with fail
    refine (TA.out w tab).mono ?_
    rintro e w' ⟨rfl, hb⟩
    have HB := Lib.hid hb
    clear hb
    go_wp2_with fail
    go_ret
    exact ⟨rfl, HB.out⟩
  · by_cases h20 : 20 < len1
    · have d1 : decide ((60 : Int) < len0) = false := decide_eq_false (by omega)
      have d1' : decide (60 < len0) = false := decide_eq_false (by omega)
      have d2 : decide ((20 : Int) < len1) = true := decide_eq_true (by omega)
      have d2' : decide (20 < len1) = true := decide_eq_true (by omega)
      go_enter Tryz.func4, Tryz.ntmps4
      go_wp2_with fail
      refine (TA.out w tab).mono ?_
      rintro e w' ⟨rfl, hb⟩
      have HB := Lib.hid hb
      clear hb
      go_wp2_with fail
      go_ret
      exact ⟨rfl, HB.out⟩
    · have d1 : decide ((60 : Int) < len0) = false := decide_eq_false (by omega)
      have d1' : decide (60 < len0) = false := decide_eq_false (by omega)
      have d2 : decide ((20 : Int) < len1) = false := decide_eq_false (by omega)
      have d2' : decide (20 < len1) = false := decide_eq_false (by omega)
      have SN := Lib.hid (snew_any w 60 4 (by omega) (by omega) (by omega) tab)
      have HD := Lib.hid h0
      have HST := Lib.hid hst
      clear tab h0 hst
      go_enter Tryz.func4, Tryz.ntmps4
      go_wp2_with fail
      refine SN.out.mono ?_
      rintro e w1 ⟨A, sb, lb, pb, o1, rfl, b1, o0, k1, st, os⟩
      have B1 := Lib.hid b1
      have O1 := Lib.hid o0
      have hd1 : BySl w1 (.slice a0 len0 cap0) (byV z0 len0) := HD.out.same b1.size b1.block
      have mine : Mine o1 (.slice a0 len0 cap0) := by
        rintro b off m c e hm0
        cases e
        rcases HD.out.2 with ⟨e, _⟩ | ⟨b2, off2, c2, e, hb, _⟩ | ⟨ad, c2, e, _⟩
        · cases e
        · rw [byV_len] at e
          cases e
          rw [o0 b hb]
          unfold gl
          omega
        · cases e
          omega
      have IN := Lib.hid (sdo_ins k1 st os arr0 cons0 (cov0 4 (by omega)) len0 (by omega) (by omega) (by omega) 0 (by omega) (by omega) (by omega) 0 (.slice a0 len0 cap0) z0 hd1 mine)
      have ST := Lib.hid (And.intro st os)
      have hf := field30 0 0 (.slice none 0 0) (.slice none 0 0) rfl
      clear b1 o0 k1 st os hd1 mine
      go_wp2_with fail
      refine IN.out.mono ?_
      rintro e w2 ⟨rfl, ix, S, L, C, ar, hc, hcov, o2, u2, k2⟩
      unfold resV
      have st2 := u2.heap ST.out.1 (by rw [ST.out.2]; unfold gl; omega)
      have SP := Lib.hid (spairs_any (RdL.refl k2) st2.1)
      have AR := Lib.hid (show Arr len0 (sInM Z0 0 z0 len0) ix L C (1 + len0) by rw [Nat.zero_add] at ar; exact ar)
      have K2 := Lib.hid (show IsLive w2 o2 A lb pb 4 len0 ix S L C (1 + len0) by rw [Nat.zero_add] at k2; exact k2)
      have CO := Lib.hid (show Wd.Cons len0 (sInM Z0 0 z0 len0) ix by rw [Nat.zero_add] at hc; exact hc)
      have CV := Lib.hid (show Wd.Cov S len0 4 by rw [Nat.zero_add] at hcov; exact hcov)
      have U2 := Lib.hid u2
      have ST2 := Lib.hid (And.intro st2.1 (st2.2.trans ST.out.2))
      clear ar hc hcov u2 k2 st2
      go_wp2_with fail
      refine SP.out.mono ?_
      rintro e w3 ⟨v, Q, rfl, hP, hPl, b3, r3⟩
      have hP0 : 0 < Q.length := by
        have := (hP.2 (ix 0, 0)).2 ⟨Nat.zero_le _, CV.out.z, rfl⟩
        exact List.length_pos_of_mem this
      obtain ⟨pg, pc, rfl, _, _⟩ := own_form r3 hP0
      have SS := Lib.hid (sshapes_any ((RdL.refl K2.out).below b3) ((b3.block sb (lt_of_block ST2.out.1)).trans ST2.out.1) (by have := AR.out.len; omega))
      have B3 := Lib.hid b3
      have R3 := Lib.hid r3
      have PQ := Lib.hid (show IsPairs ix len0 S Q by rw [Nat.zero_add] at hP; exact hP)
      obtain ⟨np, hnp⟩ : ∃ np, np = Q.length := ⟨_, rfl⟩
      have NP := Lib.hid hnp
      rw [← hnp] at hP0 hPl ⊢
      clear b3 r3 hP hnp
      go_wp2_with fail
      refine SS.out.mono ?_
      rintro e w4 ⟨v, rfl, b4, r4⟩
      obtain ⟨hd, hhd⟩ := shAll_head L (fun x hx => by
        obtain ⟨i, hi, rfl⟩ := List.getElem_of_mem hx
        have := AR.out.l_lt i (by have := AR.out.len; omega)
        rwa [List.getD_eq_getElem?_getD, List.getElem?_eq_getElem hi] at this) (by have := AR.out.len; omega) 9 (by omega)
      have hlen9 := shAll_len L 9
      have hm0 : 0 < (shAll L 9).length := by rw [hhd]; simp
      obtain ⟨ls, hls⟩ : ∃ ls, ls = shAll L 9 := ⟨_, rfl⟩
      rw [← hls] at r4 hlen9 hm0
      obtain ⟨m, hm⟩ : ∃ m, m = ls.length := ⟨_, rfl⟩
      rw [← hm] at r4 hlen9 hm0
      obtain ⟨xg, xc, rfl, _, _⟩ := own_form r4 hm0
      have b34 : Below w2.heap.size w2 w4 := B3.out.trans (b4.mono B3.out.size)
      have u4 : Upd o2 (fun _ => False) w2 w4 (ext o2 w2.heap.size 6) := (Upd.start o2 _ w2 6).belowN b34
      have st4 := u4.heap ST2.out.1 (by simp)
      have K4 := Lib.hid (K2.out.keep u4 (ext_no5 K2.out.n5 _ (by omega)) (by simp))
      have ST4 := Lib.hid (And.intro st4.1 (st4.2.trans ST2.out.2))
      have P4 := Lib.hid (show Owned w4 (ext o2 w2.heap.size 6) 6 44 2 (.slice (some ⟨pg, 0, none⟩) np pc) np (pcells Q) from ⟨owns_base (by rw [NP.out]; exact owns_same' R3.out b4.block) (Nat.zero_le _), fun k hk => by
        have := (R3.out.lt k (by simpa [Value.ownBlock] using hk)).1
        exact ext_new this⟩)
      have X4 := Lib.hid (show Owned w4 (ext o2 w2.heap.size 6) 6 46 4 (.slice (some ⟨xg, 0, none⟩) m xc) m (shC ls) from ⟨owns_base r4 (Nat.zero_le _), fun k hk => by
        have := (r4.lt k hk).1
        exact ext_new (by have := B3.out.size; omega)⟩)
      have LS := Lib.hid (And.intro hls hm)
      have U4 := Lib.hid (U2.out.trans u4 (fun _ h => h.elim))
      have BEL := Lib.hid (show ∀ wr, RdL (ext o2 w2.heap.size 6) w4 A lb pb 4 len0 ix S L C (1 + len0) wr → Below w.heap.size w wr from fun wr ⟨o', u, _⟩ => B1.out.trans ((U4.out.trans u (fun _ h => h)).below B1.out.size (fun b hb => by rw [O1.out b hb]; unfold gl; omega)))
      obtain ⟨oB, hoB⟩ : ∃ oB, oB = ext o2 w2.heap.size 6 := ⟨_, rfl⟩
      rw [← hoB] at K4 ST4 P4 X4 BEL
      clear b4 r4 b34 u4 st4 hhd hls hm hoB SN IN SP SS
      go_wp2_with fail
      go_loopg [9] len1 (fun gg s9 wr => ∃ i : Nat, i + gg = len1 ∧ s9 = .int .i64 i ∧ Aside (RdL oB w4 A lb pb 4 len0 ix S L C (1 + len0) wr))
      case atStart => exact ⟨0, by omega, rfl, RdL.refl K4.out⟩
      case round =>
        obtain ⟨i, hi, rfl, hrd⟩ := hrel
        have RD := Lib.hid hrd.out
        have BW := Lib.hid (BEL.out wr hrd.out)
        clear hrd
        by_cases hil : i < len1
        · have hiz : decide ((i : Int) < (len1 : Int)) = true := decide_eq_true (by omega)
          obtain ⟨b, off, kd, at_, n, da, dm, dc, z, rfl, hb, sa, hdm, bs⟩ := HST.out i hil
          have c0 : wr.cell? ⟨b, off + i * 4, none⟩ = some (.int .i64 kd) := by rw [World.cell?_of_block (w := w) (BW.out.block b hb)]; exact sa.c0
          have c1 : wr.cell? ⟨b, off + i * 4 + 1, none⟩ = some (.int .i64 at_) := by rw [World.cell?_of_block (w := w) (BW.out.block b hb)]; exact sa.c1
          have c2 : wr.cell? ⟨b, off + i * 4 + 2, none⟩ = some (.int .i64 n) := by rw [World.cell?_of_block (w := w) (BW.out.block b hb)]; exact sa.c2
          have c3 : wr.cell? ⟨b, off + i * 4 + 3, none⟩ = some (.slice da dm dc) := by rw [World.cell?_of_block (w := w) (BW.out.block b hb)]; exact sa.c3
          have bs1 := Lib.hid (bs.same BW.out.size BW.out.block)
          clear sa bs
          by_cases hd60 : 60 < dm
          · have e1 : decide ((60 : Int) < (dm : Int)) = true := decide_eq_true (by omega)
            have e1' : decide (60 < dm) = true := decide_eq_true (by omega)
            have tb : Tab wr := by obtain ⟨o', u, k⟩ := RD.out; exact k.tab
            have T := Lib.hid (TA.out wr tb)
            clear tb
            go_wp2_with fail
            refine T.out.mono ?_
            rintro e w' ⟨rfl, hb2⟩
            have HB := Lib.hid (BW.out.trans (hb2.mono BW.out.size))
            clear hb2
            go_wp2_with fail
            go_ret
            exact ⟨rfl, HB.out⟩
          · have e1 : decide ((60 : Int) < (dm : Int)) = false := decide_eq_false (by omega)
            have e1' : decide (60 < dm) = false := decide_eq_false (by omega)
            obtain ⟨r, hr4, hr⟩ := umod4 kd
            have DO := Lib.hid (show Calls Tryz.prog 7 #[.pointer (some ⟨sb, 0, none⟩), stepV (4 + r) at_ n (.slice da dm dc)] (wr.alloc (.cells #[.int .i64 (4 + (r : Int)), .int .i64 at_, .int .i64 n, .slice da dm dc] 33)) fun e w' => (∃ v, e = .returned v) ∧ RdL oB w4 A lb pb 4 len0 ix S L C (1 + len0) w' from by
              obtain ⟨o', u, k⟩ := RD.out
              have s := u.heap ST4.out.1 (by rw [ST4.out.2]; unfold gl; omega)
              have ua : Upd o' (fun _ => False) wr (wr.alloc (.cells #[.int .i64 (4 + (r : Int)), .int .i64 at_, .int .i64 n, .slice da dm dc] 33)) (ext o' wr.heap.size 6) := (Upd.start o' _ wr 6).alloc _
              have sa := ua.heap s.1 (by simp)
              refine (sdo_reads (k.keep ua (ext_no5 k.n5 _ (by omega)) (by simp)) sa.1 (sa.2.trans (s.2.trans ST4.out.2)) AR.out (by omega) CO.out CV.out.z r hr4 at_ n (.slice da dm dc) dm z (bs1.out.same ua.size (fun b hb => ua.same b hb (by simp))) (by omega)).mono ?_
              rintro e w' ⟨hv, o2', u2', k2'⟩
              exact ⟨hv, o2', (u.trans ua (fun _ h => h.elim)).trans u2' (fun _ h => h), k2'⟩)
            go_wp2_with fail
            refine DO.out.mono ?_
            rintro e w5 ⟨⟨v5, rfl⟩, rd5⟩
            have RD5 := Lib.hid rd5
            clear rd5
            go_wp2_with fail
            go_roundg (gk - 1)
            case measure => omega
            case rel => exact ⟨i + 1, by omega, by go_num, RD5.out⟩
        · obtain rfl : i = len1 := by omega
          have hiz : decide ((i : Int) < (i : Int)) = false := decide_eq_false (by omega)
          have st5 : wr.heap[sb]? = some (stC lb 60) := by
            obtain ⟨o', u, k⟩ := RD.out
            exact (u.heap ST4.out.1 (by rw [ST4.out.2]; unfold gl; omega)).1
          have SP2 := Lib.hid (spairs_any RD.out st5)
          have ST5 := Lib.hid st5
          clear st5
          go_wp2_with fail
          refine SP2.out.mono ?_
          rintro e w5 ⟨v, Q2, rfl, hP2, _, b5, r5⟩
          obtain rfl : Q = Q2 := PQ.out.uniq hP2
          rw [← NP.out] at r5
          obtain ⟨qg, qc, rfl, _, _⟩ := own_form r5 hP0
          have SS2 := Lib.hid (sshapes_any (RD.out.below b5) ((b5.block sb (lt_of_block ST5.out)).trans ST5.out) (by have := AR.out.len; omega))
          have B5 := Lib.hid b5
          have R5 := Lib.hid r5
          clear b5 r5 hP2
          go_wp2_with fail
          refine SS2.out.mono ?_
          rintro e w6 ⟨v, rfl, b6, r6⟩
          rw [← LS.out.1, ← LS.out.2] at r6
          obtain ⟨yg, yc, rfl, _, _⟩ := own_form r6 hm0
          have B6 := Lib.hid (B5.out.trans (b6.mono B5.out.size))
          have RD6 := Lib.hid ((RD.out.below B5.out).below b6)
          have PP := Lib.hid (show ∀ j u, (pcells Q)[j]? = some u → w6.cell? ⟨pg, j, none⟩ = some u ∧ w6.cell? ⟨qg, j, none⟩ = some u from fun j u hu => by
            obtain ⟨o', u', k'⟩ := RD6.out
            exact ⟨owns_cell (P4.out.keep u' (by unfold gl; omega)).1 j u hu, owns_cell (owns_same' R5.out b6.block) j u hu⟩)
          have XX := Lib.hid (show ∀ j u, (shC ls)[j]? = some u → w6.cell? ⟨xg, j, none⟩ = some u ∧ w6.cell? ⟨yg, j, none⟩ = some u from fun j u hu => by
            obtain ⟨o', u', k'⟩ := RD6.out
            exact ⟨owns_cell (X4.out.keep u' (by unfold gl; omega)).1 j u hu, owns_cell r6 j u hu⟩)
          clear b6 r6
          go_wp2_with fail
          go_loopg [13] np (fun gg s13 wx => ∃ j k : Nat, j + gg = np ∧ s13 = .int .i64 j ∧ wx = w6.drewN k)
          case atStart => exact ⟨0, 0, by omega, rfl, rfl⟩
          case round =>
            obtain ⟨j, k, hj, rfl, hw⟩ := hrel
            have HW := Lib.hid hw
            by_cases hjn : j < np
            · have hjz : decide ((j : Int) < (np : Int)) = true := decide_eq_true (by omega)
              obtain ⟨g1, g2⟩ := pcells_get Q j (by rw [← NP.out]; exact hjn)
              obtain ⟨x, hx⟩ : ∃ x, x = (Q[j]'(by rw [← NP.out]; exact hjn)).1 := ⟨_, rfl⟩
              obtain ⟨y, hy⟩ : ∃ y, y = (Q[j]'(by rw [← NP.out]; exact hjn)).2 := ⟨_, rfl⟩
              rw [← hx] at g1
              rw [← hy] at g2
              obtain ⟨e1, e2⟩ := PP.out _ _ g1
              obtain ⟨e3, e4⟩ := PP.out _ _ g2
              have c0 : wr.cell? ⟨pg, j * 2, none⟩ = some (.int .i64 x) := by rw [hw]; exact e1
              have c1 : wr.cell? ⟨pg, j * 2 + 1, none⟩ = some (.int .i64 y) := by rw [hw]; exact e3
              have c2 : wr.cell? ⟨qg, j * 2, none⟩ = some (.int .i64 x) := by rw [hw]; exact e2
              have c3 : wr.cell? ⟨qg, j * 2 + 1, none⟩ = some (.int .i64 y) := by rw [hw]; exact e4
              clear g1 g2 hx hy e1 e2 e3 e4 hw
              go_wp2_with fail
              go_quiet (fail)
              go_wp2_with fail
              go_roundg (np - (j + 1))
              case measure => omega
              case rel => exact ⟨j + 1, k + nq, by omega, by go_num, by rw [HW.out, World.drewN_drewN]⟩
            · obtain rfl : j = np := by omega
              have hjz : decide ((j : Int) < (j : Int)) = false := decide_eq_false (by omega)
              clear hw
              go_wp2_with fail
              go_loopg [14] m (fun gg s14 wx => ∃ q k : Nat, q + gg = m ∧ s14 = .int .i64 q ∧ wx = w6.drewN k)
              case atStart => exact ⟨0, k, by omega, rfl, HW.out⟩
              case round =>
                obtain ⟨q, k2, hq, rfl, hw⟩ := hrel
                have HW2 := Lib.hid hw
                by_cases hqm : q < m
                · have hqz : decide ((q : Int) < (m : Int)) = true := decide_eq_true (by omega)
                  obtain ⟨g0, g1, g2, g3⟩ := shC_get ls q (by rw [← LS.out.2]; exact hqm)
                  obtain ⟨x, hx⟩ : ∃ x, x = ls[q]'(by rw [← LS.out.2]; exact hqm) := ⟨_, rfl⟩
                  rw [← hx] at g0
                  have c0 : wr.cell? ⟨xg, q * 4, none⟩ = some (.int .i64 x) := by rw [hw]; exact (XX.out _ _ g0).1
                  have c1 : wr.cell? ⟨xg, q * 4 + 1, none⟩ = some (.int .i64 0) := by rw [hw]; exact (XX.out _ _ g1).1
                  have c2 : wr.cell? ⟨xg, q * 4 + 2, none⟩ = some (.int .i64 1) := by rw [hw]; exact (XX.out _ _ g2).1
                  have c3 : wr.cell? ⟨xg, q * 4 + 3, none⟩ = some (.int .i64 1) := by rw [hw]; exact (XX.out _ _ g3).1
                  have c4 : wr.cell? ⟨yg, q * 4, none⟩ = some (.int .i64 x) := by rw [hw]; exact (XX.out _ _ g0).2
                  have c5 : wr.cell? ⟨yg, q * 4 + 1, none⟩ = some (.int .i64 0) := by rw [hw]; exact (XX.out _ _ g1).2
                  have c6 : wr.cell? ⟨yg, q * 4 + 2, none⟩ = some (.int .i64 1) := by rw [hw]; exact (XX.out _ _ g2).2
                  have c7 : wr.cell? ⟨yg, q * 4 + 3, none⟩ = some (.int .i64 1) := by rw [hw]; exact (XX.out _ _ g3).2
                  clear g0 g1 g2 g3 hx hw
                  go_wp2_with fail
                  go_quiet (fail)
                  go_wp2_with fail
                  go_roundg (m - (q + 1))
                  case measure => omega
                  case rel => exact ⟨q + 1, k2 + nq, by omega, by go_num, by rw [HW2.out, World.drewN_drewN]⟩
                · obtain rfl : q = m := by omega
                  have hqz : decide ((q : Int) < (q : Int)) = false := decide_eq_false (by omega)
                  have RD7 := Lib.hid (show RdL oB w4 A lb pb 4 len0 ix S L C (1 + len0) wr by rw [hw]; exact RD6.out.drewN k2)
                  have tb : Tab wr := by obtain ⟨o', u, k⟩ := RD7.out; exact k.tab
                  have TO := Lib.hid (TA.out wr tb)
                  clear hw tb
                  go_wp2_with fail
                  refine TO.out.mono ?_
                  rintro e w8 ⟨rfl, b8⟩
                  have rd8 := RD7.out.below b8
                  have bel8 := BEL.out w8 rd8
                  obtain ⟨t, ht, hsy, hcv⟩ := str_of z0 len0
                  have cv := hcv w8 a0 cap0 (HD.out.same bel8.size bel8.block)
                  obtain ⟨o8, u8, k8⟩ := rd8
                  have st8 := u8.heap ST4.out.1 (by rw [ST4.out.2]; unfold gl; omega)
                  have FI := Lib.hid (fine_any k8 st8.1 (st8.2.trans ST4.out.2) t ht (AR.out.congr hsy) (Cons.congr CO.out hsy) CV.out (by omega) (by omega))
                  have U8 := Lib.hid u8
                  clear b8 bel8 hcv k8 st8 u8 hsy
                  go_wp2_with fail
                  refine FI.out.mono ?_
                  rintro e w9 ⟨rfl, o9, u9, k9⟩
                  have FIN := Lib.hid (BEL.out w9 ⟨o9, U8.out.trans u9 (fun _ h => h), k9⟩)
                  clear u9 k9
                  go_wp2_with fail
                  go_ret
                  exact ⟨rfl, FIN.out⟩
end
end Go.Proofs.YtnadgcgnediakaaGreatDoor
