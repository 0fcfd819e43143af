/- What TopUndo's walk asks: remainders, parts of a text, a text joined of three, a row of bytes as a string. The walk of TopUndo. -/
import Derived.Test.YtnadgcgnediakaaGreatDoorH39
import Derived.Test.YtnadgcgnediakaaGreatDoorH41
import Derived.Test.YtnadgcgnediakaaGreatDoorH37
namespace Go.Proofs.YtnadgcgnediakaaGreatDoor
open Go.ChangeShapes Go.WideShapes Go.ChangeAt Go.RowKit Go.Deep

theorem umod (x : Int) (m : Nat) (hm : 0 < m) : ∃ r : Nat, r < m ∧ (IntKind.u64.wrap x).tmod (m : Int) = r := by
  have h0 : 0 ≤ IntKind.u64.wrap x := by simp [IntKind.wrap, IntKind.bits, IntKind.signed]; omega
  have h1 : 0 ≤ (IntKind.u64.wrap x) % (m : Int) := Int.emod_nonneg _ (by omega)
  have h2 : (IntKind.u64.wrap x) % (m : Int) < m := Int.emod_lt_of_pos _ (by omega)
  refine ⟨((IntKind.u64.wrap x).tmod m).toNat, ?_, ?_⟩
  · rw [Int.tmod_eq_emod_of_nonneg h0]; omega
  · rw [Int.tmod_eq_emod_of_nonneg h0]; omega
theorem symS_app (x y : ByteArray) (p : Nat) : symS (x ++ y) p = if p < x.size then symS x p else symS y (p - x.size) := by
  unfold symS
  by_cases h : p < x.size
  · rw [if_pos h, dif_pos h, dif_pos (by rw [ByteArray.size_append]; omega), ByteArray.getElem_append_left h]
  · rw [if_neg h]
    by_cases h2 : p - x.size < y.size
    · rw [dif_pos h2, dif_pos (by rw [ByteArray.size_append]; omega), ByteArray.getElem_append_right (by omega)]
    · rw [dif_neg h2, dif_neg (by rw [ByteArray.size_append]; omega)]
/-- the text that is laid ahead of the block, the block, the rest -/
theorem joined (z0 z1 : Nat → Fin 256) (n m k : Nat) (hk : k ≤ n) : ∃ ta td tb : ByteArray, ((ta ++ td) ++ tb).size = n + m ∧ (∀ p, p ≤ n + m → sInM (sInM Z0 0 z0 n) k z1 m p = symS ((ta ++ td) ++ tb) p) ∧
    (∀ (wx : World) (a : Option Addr) (c : Nat), BySl wx (.slice a k c) (byV z0 k) → (convert 22 9 (.slice a k c)).run Tryz.prog wx = .ok (.string ta) wx) ∧
    (∀ (wx : World) (a : Option Addr) (c : Nat), BySl wx (.slice a m c) (byV z1 m) → (convert 22 9 (.slice a m c)).run Tryz.prog wx = .ok (.string td) wx) ∧
    (∀ (wx : World) (a : Option Addr) (c : Nat), BySl wx (.slice a (n - k) c) (byV (fun j => z0 (j + k)) (n - k)) → (convert 22 9 (.slice a (n - k) c)).run Tryz.prog wx = .ok (.string tb) wx) := by
  obtain ⟨ta, a1, a2, a3⟩ := str_of z0 k
  obtain ⟨td, d1, d2, d3⟩ := str_of z1 m
  obtain ⟨tb, b1, b2, b3⟩ := str_of (fun j => z0 (j + k)) (n - k)
  refine ⟨ta, td, tb, by rw [ByteArray.size_append, ByteArray.size_append]; omega, fun p hp => ?_, a3, d3, b3⟩
  rw [symS_app, symS_app, ByteArray.size_append, sInM_val, sIn_all, sIn_all, a1, d1]
  by_cases h1 : p < k
  · rw [if_pos h1, if_pos (by omega), if_pos (by omega), if_pos h1, ← a2 p (by omega), sIn_all, if_pos h1]
  · rw [if_neg h1]
    by_cases h2 : p < k + m
    · rw [if_pos h2, if_pos h2, if_neg h1, ← d2 (p - k) (by omega), sIn_all, if_pos (by omega)]
    · rw [if_neg h2, if_neg h2, ← b2 (p - (k + m)) (by omega), sIn_all]
      by_cases h3 : p - m < n
      · rw [if_pos h3, if_pos (by omega), show p - (k + m) + k = p - m by omega]
      · rw [if_neg h3, if_neg (by omega)]
/-- the text up to a place -/
theorem cut_hi (a0 : Option Addr) (n c k : Nat) (z : Nat → Fin 256) (hk : k ≤ n) (wz : World) (h : BySl wz (.slice a0 n c) (byV z n)) : BySl wz (.slice a0 k c) (byV z k) := by
  refine ⟨fun u hu => ?_, ?_⟩
  · unfold byV at hu
    obtain ⟨j, _, rfl⟩ := List.mem_map.1 hu
    rfl
  · rcases h.2 with ⟨e, e2⟩ | ⟨b, off, c2, e, hb, hcc⟩ | ⟨ad, c2, e, e2⟩
    · cases e
      obtain rfl : k = 0 := by omega
      exact .inl ⟨rfl, rfl⟩
    · rw [byV_len] at e
      cases e
      refine .inr (.inl ⟨b, off, c, by rw [byV_len], hb, fun j u hu => ?_⟩)
      have hj : j < k := by
        have := (List.getElem?_eq_some_iff.1 hu).1
        rwa [byV_len] at this
      rw [byV_get z k j hj] at hu
      exact hcc j u (by rw [byV_get z n j (by omega), hu])
    · cases e
      obtain rfl : k = 0 := by omega
      exact .inr (.inr ⟨ad, c, rfl, rfl⟩)
/-- the text from a place on -/
theorem cut_lo (a0 : Option Addr) (n c k : Nat) (z : Nat → Fin 256) (hk : k ≤ n) (hc : n ≤ c) (wz : World) (h : BySl wz (.slice a0 n c) (byV z n)) : BySl wz (.slice (if c = k then a0 else Option.map (fun x => x.add k) a0) (n - k) (c - k)) (byV (fun j => z (j + k)) (n - k)) := by
  refine ⟨fun u hu => ?_, ?_⟩
  · unfold byV at hu
    obtain ⟨j, _, rfl⟩ := List.mem_map.1 hu
    rfl
  · rcases h.2 with ⟨e, e2⟩ | ⟨b, off, c2, e, hb, hcc⟩ | ⟨ad, c2, e, e2⟩
    · cases e
      obtain rfl : k = 0 := by omega
      exact .inl ⟨rfl, rfl⟩
    · rw [byV_len] at e
      cases e
      by_cases hnk : n = k
      · subst hnk
        rw [Nat.sub_self]
        have : ∃ ad, (if c = n then some (⟨b, off, none⟩ : Addr) else Option.map (fun x => x.add n) (some (⟨b, off, none⟩ : Addr))) = some ad := by
          split
          · exact ⟨_, rfl⟩
          · exact ⟨_, rfl⟩
        obtain ⟨ad, e⟩ := this
        rw [e]
        exact .inr (.inr ⟨ad, _, rfl, rfl⟩)
      · rw [if_neg (by omega)]
        refine .inr (.inl ⟨b, off + k, c - k, by rw [byV_len]; simp [Addr.add], hb, fun j u hu => ?_⟩)
        have hj : j < n - k := by
          have := (List.getElem?_eq_some_iff.1 hu).1
          rwa [byV_len] at this
        rw [byV_get _ _ j hj] at hu
        rw [show off + k + j = off + (j + k) by omega]
        exact hcc (j + k) u (by rw [byV_get z n (j + k) (by omega), ← hu])
    · cases e
      obtain rfl : k = 0 := by omega
      have : ∃ ad', (if c = 0 then some ad else Option.map (fun x => x.add 0) (some ad)) = some ad' := by
        split
        · exact ⟨_, rfl⟩
        · exact ⟨_, rfl⟩
      obtain ⟨ad', e⟩ := this
      rw [e]
      exact .inr (.inr ⟨ad', _, rfl, rfl⟩)
/-- a row of bytes as a string: one string, wherever it lies -/
theorem own_str (l : List Nat) (n : Nat) : ∃ t : ByteArray, ∀ (w : World) (base c : Nat) (a : Option Addr), w.ownsRow base 5 1 (.slice a n c) n (u8V l) → (convert 22 9 (.slice a n c)).run Tryz.prog w = .ok (.string t) w := by
  by_cases h0 : n = 0
  · subst h0
    exact ⟨ByteArray.empty, fun w base c a _ => str_none w a c⟩
  · refine ⟨strOfNums (l.map fun (b : Nat) => (b : Int)), fun w base c a h => ?_⟩
    have hl : l.length = n := by have := h.1; rw [Nat.mul_one, u8V_len] at this; exact this
    obtain ⟨g, cap, e, hg1, hg2⟩ := own_form h (by omega)
    cases e
    refine run_convert_bytes_arg (P := Tryz.prog) w 22 5 Tryz.underlying22 Tryz.underlying5 g 0 n c _ (by rw [List.length_map]; exact hl) (fun i hi => ?_) 9 Tryz.underlying9
    rw [Nat.zero_add]
    refine owns_cell h i _ ?_
    unfold u8V
    rw [List.getElem?_map, List.getElem?_eq_getElem (by omega), List.getD_eq_getElem?_getD, List.getElem?_map, List.getElem?_eq_getElem (by omega)]
    rfl
end Go.Proofs.YtnadgcgnediakaaGreatDoor
namespace Go.Proofs.YtnadgcgnediakaaGreatDoor
open Go.ChangeShapes Go.WideShapes Go.ChangeAt Go.RowKit Go.Deep

theorem mine_of {o1 : Nat → Nat} {w : World} {a0 : Option Addr} {len0 cap0 : Nat} {z : Nat → Fin 256} (h : BySl w (.slice a0 len0 cap0) (byV z len0)) (o0 : ∀ b, b < w.heap.size → o1 b = 0) : Mine o1 (.slice a0 len0 cap0) := by
  rintro b off m c e hm0
  cases e
  rcases h.2 with ⟨e, _⟩ | ⟨b2, off2, c2, e, hb, _⟩ | ⟨ad, c2, e, _⟩
  · cases e
  · rw [byV_len] at e
    cases e
    rw [o0 b hb]
    unfold gl
    omega
  · cases e
    omega
set_option maxRecDepth 20000 in
set_option maxHeartbeats 4000000 in
theorem tundo_walk (a0 : Option Addr) (len0 cap0 : Nat) (a1 : Option Addr) (len1 cap1 : Nat) (at_ rt : Int) (w : World) (tab : Tab w) (z0 z1 : Nat → Fin 256) (h0 : BySl w (.slice a0 len0 cap0) (byV z0 len0)) (h1 : BySl w (.slice a1 len1 cap1) (byV z1 len1)) (hc0 : len0 ≤ cap0) (hl0 : len0 ≤ 9223372036854775807) (hl1 : len1 ≤ 9223372036854775807) :
    Calls Tryz.prog 3 #[.slice a0 len0 cap0, .slice a1 len1 cap1, .int .i64 at_, .int .i64 rt] w fun e w' => e = .returned (.bool true) ∧ Below w.heap.size w w' := by
  have TA := Lib.hid told_any
  have TB := Lib.hid tab
  by_cases h50 : 50 < len0
  · have d1 : decide ((50 : Int) < len0) = true := decide_eq_true (by omega)
    have d1' : decide (50 < len0) = true := decide_eq_true (by omega)
    go_enter Tryz.func3, Tryz.ntmps3
    go_wp2_with fail
    refine (TA.out w tab).mono ?_
    rintro e w' ⟨rfl, hb⟩
    have HB := Lib.hid hb
    clear hb
    go_wp2_with fail
    go_ret
    exact ⟨rfl, HB.out⟩
  · by_cases h20 : 20 < len1
    · have d1 : decide ((50 : Int) < len0) = false := decide_eq_false (by omega)
      have d1' : decide (50 < len0) = false := decide_eq_false (by omega)
      have d2 : decide ((20 : Int) < len1) = true := decide_eq_true (by omega)
      have d2' : decide (20 < len1) = true := decide_eq_true (by omega)
      go_enter Tryz.func3, Tryz.ntmps3
      go_wp2_with fail
      refine (TA.out w tab).mono ?_
      rintro e w' ⟨rfl, hb⟩
      have HB := Lib.hid hb
      clear hb
      go_wp2_with fail
      go_ret
      exact ⟨rfl, HB.out⟩
    · have d1 : decide ((50 : Int) < len0) = false := decide_eq_false (by omega)
      have d1' : decide (50 < len0) = false := decide_eq_false (by omega)
      have d2 : decide ((20 : Int) < len1) = false := decide_eq_false (by omega)
      have d2' : decide (20 < len1) = false := decide_eq_false (by omega)
      obtain ⟨r, hr64, er0⟩ := umod rt 64 (by omega)
      have er : (IntKind.u64.wrap rt).tmod 64 = r := er0
      obtain ⟨k, hkn, ek0⟩ := umod at_ (len0 + 1) (by omega)
      have ek : (IntKind.u64.wrap at_).tmod ((len0 : Int) + 1) = k := ek0
      clear er0 ek0
      have SN := Lib.hid (show Calls Tryz.prog 6 #[.int .i64 100, .int .i64 (1 + (r : Int))] w _ from snew_any w 100 (1 + r) (by omega) (by omega) (by omega) tab)
      have HD0 := Lib.hid h0
      have HD1 := Lib.hid h1
      clear tab h0 h1
      go_enter Tryz.func3, Tryz.ntmps3
      go_wp2_with fail
      with_reducible refine SN.out.mono ?_
      rintro e w1 ⟨A, sb, lb, pb, o1, rfl, b1, o0, k1, st, os⟩
      have B1 := Lib.hid b1
      have O1 := Lib.hid o0
      have IN := Lib.hid (sdo_ins k1 st os arr0 cons0 (cov0 (1 + r) (by omega)) len0 (by omega) (by omega) (by omega) 0 (by omega) (by omega) (by omega) 0 (.slice a0 len0 cap0) z0 (HD0.out.same b1.size b1.block) (mine_of HD0.out o0))
      have ST := Lib.hid (And.intro st os)
      have hf := field30 0 0 (.slice none 0 0) (.slice none 0 0) rfl
      clear b1 o0 k1 st os
      go_wp2_with fail
      refine IN.out.mono ?_
      rintro e w2 ⟨rfl, ix, S, L, C, ar, hc, hcov, o2, u2, k2⟩
      unfold resV
      rw [Nat.zero_add] at ar hc hcov k2
      have st2 := u2.heap ST.out.1 (by rw [ST.out.2]; unfold gl; omega)
      have SV := Lib.hid (stsave_any k2 st2.1 (st2.2.trans ST.out.2) ar hc (by omega) (by omega) (by omega) (by omega) (by omega))
      obtain ⟨bs, hbs⟩ : ∃ l, saveB L ix len0 100 (1 + r) = l := ⟨_, rfl⟩
      obtain ⟨nb, hnb⟩ : ∃ n, bs.length = n := ⟨_, rfl⟩
      rw [hbs, hnb] at SV
      have BS := Lib.hid (And.intro hbs hnb)
      have AR := Lib.hid ar
      have HC := Lib.hid hc
      have CV := Lib.hid hcov
      have U2 := Lib.hid u2
      have ST2 := Lib.hid (And.intro st2.1 (st2.2.trans ST.out.2))
      clear hbs hnb ar hc hcov u2 k2 st2 IN SN
      go_wp2_with fail
      refine SV.out.mono ?_
      rintro e w3 ⟨v3, rfl, o3, u3, k3, r3, q3⟩
      obtain ⟨a3, c3, rfl⟩ := own_shape r3.1
      have st3 := u3.heap ST2.out.1 (by rw [ST2.out.2]; unfold gl; omega)
      have U3 := Lib.hid (U2.out.trans u3 (fun _ h => h))
      have R3 := Lib.hid r3
      have K3 := Lib.hid k3
      have ST3 := Lib.hid (And.intro st3.1 (st3.2.trans ST2.out.2))
      have O3 := Lib.hid (show ∀ b, b < w.heap.size → o3 b = 0 from fun b hb => (U3.out.own b (by have := B1.out.size; omega)).trans (O1.out b hb))
      have B3 := Lib.hid (B1.out.trans (U3.out.below B1.out.size (fun b hb => by rw [O1.out b hb]; unfold gl; omega)))
      clear u3 k3 r3 q3 st3 SV
      obtain ⟨ta, td, tb, hT, hTs, cva, cvd, cvb⟩ := joined z0 z1 len0 len1 k (by omega)
      have JT := Lib.hid (And.intro hT hTs)
      have CVA := Lib.hid (fun wx h => cva wx a0 cap0 (cut_hi a0 len0 cap0 k z0 (by omega) wx h))
      have CVD := Lib.hid (fun wx => cvd wx a1 cap1)
      obtain ⟨al, hal⟩ : ∃ al, (if cap0 = k then a0 else Option.map (fun x => x.add k) a0) = al := ⟨_, rfl⟩
      have CVB := Lib.hid (fun wx h => cvb wx al (cap0 - k) (hal ▸ cut_lo a0 len0 cap0 k z0 (by omega) hc0 wx h))
      have hkc : k ≤ cap0 := by omega
      have hs0 := hT
      rw [ByteArray.size_append, ByteArray.size_append] at hs0
      have hs1 : ¬ 9223372036854775807 < ta.size + td.size := by omega
      have hs2 : ¬ 9223372036854775807 < ta.size + td.size + tb.size := by omega
      clear hs0
      have hkn : k ≤ len0 := by omega
      clear hT hTs cva cvd cvb
      have u3d : Upd o3 (fun _ => False) w3 w3.drew o3 := (Upd.refl _ _ _).drew
      have IN2 := Lib.hid (sdo_ins (K3.out.keep u3d K3.out.n5 (by simp)) (show w3.drew.heap[sb]? = _ from ST3.out.1) ST3.out.2 AR.out HC.out CV.out len1 (by omega) (by omega) (by omega) k (by omega) (by omega) (by omega) 0 (.slice a1 len1 cap1) z1 (show BySl w3.drew _ _ from HD1.out.same B3.out.size B3.out.block) (mine_of HD1.out O3.out))
      have FS3 := Lib.hid (show BySl w3.drew (.slice a0 len0 cap0) (byV z0 len0) ∧ BySl w3.drew (.slice a1 len1 cap1) (byV z1 len1) from ⟨HD0.out.same B3.out.size B3.out.block, HD1.out.same B3.out.size B3.out.block⟩)
      have BU := Lib.hid (show ∀ o' wx, Upd o3 gl w3 wx o' → Below w.heap.size w wx from fun o' wx u => B3.out.trans (u.below B3.out.size (fun b hb => by rw [O3.out b hb]; unfold gl; omega)))
      have BY := Lib.hid (show ∀ wx, Below w.heap.size w wx → BySl wx (.slice a0 len0 cap0) (byV z0 len0) ∧ BySl wx (.slice a1 len1 cap1) (byV z1 len1) from fun wx b => ⟨HD0.out.same b.size b.block, HD1.out.same b.size b.block⟩)
      clear u3d
      go_wp2_with fail
      refine wp_region_held_drew (S := (fun wz => BySl wz (.slice a0 len0 cap0) (byV z0 len0) ∧ BySl wz (.slice a1 len1 cap1) (byV z1 len1))) (by kernel_rfl) FS3.out (fun hHeld => ?_)
      refine wpAnyH_take (i := 0) (oi := _) (v := ?v0) rfl (by kernel_rfl) (by kernel_rfl) (by kernel_rfl) (fun _ _ _ h => h) (Or.inl ⟨by kernel_rfl, ?hy0⟩) hHeld ?rest0
      case hy0 =>
        intro wy hSw
        go_simp
        try (with_reducible rfl)
      try simp only [Act.put, List.setIfInBounds_toArray]
      refine wpAnyH_take (i := 1) (oi := _) (v := ?v1) rfl (by kernel_rfl) (by kernel_rfl) (by kernel_rfl) (fun _ _ _ h => h) (Or.inl ⟨by kernel_rfl, ?hy1⟩) hHeld ?rest1
      case hy1 =>
        intro wy hSw
        go_simp
        try (with_reducible rfl)
      try simp only [Act.put]
      refine wpAnyH_take (i := 2) (oi := _) (v := ?v2) rfl (by kernel_rfl) (by kernel_rfl) (by kernel_rfl) (fun _ _ _ h => h) (Or.inl ⟨by kernel_rfl, ?hy2⟩) hHeld ?rest2
      case hy2 =>
        intro wy hSw
        go_simp
        try (with_reducible rfl)
      try simp only [Act.put]
      refine wpAnyH_take (i := 3) (oi := _) (v := ?v3) rfl (by kernel_rfl) (by kernel_rfl) (by kernel_rfl) (fun _ _ _ h => h) (Or.inl ⟨by kernel_rfl, ?hy3⟩) hHeld ?rest3
      case hy3 =>
        intro wy hSw
        go_simp
        try (with_reducible rfl)
      try simp only [Act.put]
      refine wpAnyH_ready (rs := [4]) (by kernel_rfl) (by simp) ?_
      refine AllReadyH.cons (o := _) rfl (fun K hK => ?_) AllReadyH.nil
      go_simp
      go_at_call 7
      refine IN2.out.mono ?_
      rintro e w4 ⟨rfl, ix4, S4, L4, C4, ar4, hc4, hcov4, o4, u4, k4⟩
      unfold resV
      have st4 := u4.heap (show w3.drew.heap[sb]? = _ from ST3.out.1) (by rw [ST3.out.2]; unfold gl; omega)
      have U4 := Lib.hid (((Upd.refl o3 gl w3).drew).trans u4 (fun _ h => h))
      have FS4 := Lib.hid (BY.out _ (BU.out _ _ U4.out))
      have FN := Lib.hid (fine_any k4 st4.1 (st4.2.trans ST3.out.2) ((ta ++ td) ++ tb) JT.out.1 (ar4.congr JT.out.2) (Cons.congr hc4 JT.out.2) hcov4 (by omega) (by omega))
      have K4 := Lib.hid k4
      have ST4 := Lib.hid (And.intro st4.1 (st4.2.trans ST3.out.2))
      have AR4 := Lib.hid ar4
      have HC4 := Lib.hid hc4
      have CV4 := Lib.hid hcov4
      clear ar4 hc4 hcov4 u4 k4 st4 IN2 hHeld
      go_wp2_with fail
      refine hK.out _ _ FS4.out (fun hHeld => ?_)
      clear hK K
      try simp only [Act.put, List.setIfInBounds_toArray, List.set_cons_zero, List.set_cons_succ]
      refine wpAnyH_take (i := 5) (oi := _) (v := ?v5) rfl (by kernel_rfl) (by kernel_rfl) (by kernel_rfl) (fun _ _ _ h => h) (Or.inl ⟨by kernel_rfl, ?hy5⟩) hHeld ?rest5
      case hy5 =>
        intro wy hSw
        go_simp
        try (with_reducible rfl)
      try simp only [Act.put, List.setIfInBounds_toArray]
      refine wpAnyH_take (i := 6) (oi := _) (v := ?v6) rfl (by kernel_rfl) (by kernel_rfl) (by kernel_rfl) (fun _ _ _ h => h) (Or.inl ⟨by kernel_rfl, ?hy6⟩) hHeld ?rest6
      case hy6 =>
        intro wy hSw
        go_simp
        try (with_reducible rfl)
      try simp only [Act.put]
      refine wpAnyH_take (i := 7) (oi := _) (v := ?v7) rfl (by kernel_rfl) (by kernel_rfl) (by kernel_rfl) (fun _ _ _ h => h) (Or.inl ⟨by kernel_rfl, ?hy7⟩) hHeld ?rest7
      case hy7 =>
        intro wy hSw
        go_simp
        try (with_reducible rfl)
      try simp only [Act.put]
      refine wpAnyH_take (i := 8) (oi := _) (v := ?v8) rfl (by kernel_rfl) (by kernel_rfl) (by kernel_rfl) (fun _ _ _ h => h) (Or.inl ⟨by kernel_rfl, ?hy8⟩) hHeld ?rest8
      case hy8 =>
        intro wy hSw
        go_simp
        try (with_reducible rfl)
      try simp only [Act.put]
      refine wpAnyH_take (i := 9) (oi := _) (v := ?v9) rfl (by kernel_rfl) (by kernel_rfl) (by kernel_rfl) (fun _ _ _ h => h) (Or.inl ⟨by kernel_rfl, ?hy9⟩) hHeld ?rest9
      case hy9 =>
        intro wy hSw
        go_simp
        try (with_reducible rfl)
      try simp only [Act.put]
      refine wpAnyH_take (i := 10) (oi := _) (v := ?v10) rfl (by kernel_rfl) (by kernel_rfl) (by kernel_rfl) (fun _ _ _ h => h) (Or.inl ⟨by kernel_rfl, ?hy10⟩) hHeld ?rest10
      case hy10 =>
        intro wy hSw
        go_simp
        try (with_reducible rfl)
      try simp only [Act.put]
      refine wpAnyH_take (i := 11) (oi := _) (v := ?v11) rfl (by kernel_rfl) (by kernel_rfl) (by kernel_rfl) (fun _ _ _ h => h) (Or.inl ⟨by kernel_rfl, ?hy11⟩) hHeld ?rest11
      case hy11 =>
        intro wy hSw
        go_simp
        try (with_reducible rfl)
      try simp only [Act.put]
      refine wpAnyH_take (i := 12) (oi := _) (v := ?v12) rfl (by kernel_rfl) (by kernel_rfl) (by kernel_rfl) (fun _ _ _ h => h) (Or.inl ⟨by kernel_rfl, ?hy12⟩) hHeld ?rest12
      case hy12 =>
        intro wy hSw
        have e1 := CVA.out wy hSw.1
        go_simp
        try (with_reducible rfl)
      try simp only [Act.put]
      refine wpAnyH_take (i := 13) (oi := _) (v := ?v13) rfl (by kernel_rfl) (by kernel_rfl) (by kernel_rfl) (fun _ _ _ h => h) (Or.inl ⟨by kernel_rfl, ?hy13⟩) hHeld ?rest13
      case hy13 =>
        intro wy hSw
        go_simp
        try (with_reducible rfl)
      try simp only [Act.put]
      refine wpAnyH_take (i := 14) (oi := _) (v := ?v14) rfl (by kernel_rfl) (by kernel_rfl) (by kernel_rfl) (fun _ _ _ h => h) (Or.inl ⟨by kernel_rfl, ?hy14⟩) hHeld ?rest14
      case hy14 =>
        intro wy hSw
        have e1 := CVD.out wy hSw.2
        go_simp
        try (with_reducible rfl)
      try simp only [Act.put]
      refine wpAnyH_take (i := 15) (oi := _) (v := ?v15) rfl (by kernel_rfl) (by kernel_rfl) (by kernel_rfl) (fun _ _ _ h => h) (Or.inl ⟨by kernel_rfl, ?hy15⟩) hHeld ?rest15
      case hy15 =>
        intro wy hSw
        go_simp
        try (with_reducible rfl)
      try simp only [Act.put]
      refine wpAnyH_take (i := 16) (oi := _) (v := ?v16) rfl (by kernel_rfl) (by kernel_rfl) (by kernel_rfl) (fun _ _ _ h => h) (Or.inl ⟨by kernel_rfl, ?hy16⟩) hHeld ?rest16
      case hy16 =>
        intro wy hSw
        go_simp
        try (with_reducible rfl)
      try simp only [Act.put]
      refine wpAnyH_take (i := 17) (oi := _) (v := ?v17) rfl (by kernel_rfl) (by kernel_rfl) (by kernel_rfl) (fun _ _ _ h => h) (Or.inl ⟨by kernel_rfl, ?hy17⟩) hHeld ?rest17
      case hy17 =>
        intro wy hSw
        go_simp
        try (with_reducible rfl)
      try simp only [Act.put]
      refine wpAnyH_take (i := 18) (oi := _) (v := ?v18) rfl (by kernel_rfl) (by kernel_rfl) (by kernel_rfl) (fun _ _ _ h => h) (Or.inl ⟨by kernel_rfl, ?hy18⟩) hHeld ?rest18
      case hy18 =>
        intro wy hSw
        go_simp
        try (with_reducible rfl)
      try simp only [Act.put]
      refine wpAnyH_take (i := 19) (oi := _) (v := ?v19) rfl (by kernel_rfl) (by kernel_rfl) (by kernel_rfl) (fun _ _ _ h => h) (Or.inl ⟨by kernel_rfl, ?hy19⟩) hHeld ?rest19
      case hy19 =>
        intro wy hSw
        have e1 := CVB.out wy hSw.1
        go_simp
        try (with_reducible rfl)
      try simp only [Act.put]
      refine wpAnyH_take (i := 20) (oi := _) (v := ?v20) rfl (by kernel_rfl) (by kernel_rfl) (by kernel_rfl) (fun _ _ _ h => h) (Or.inl ⟨by kernel_rfl, ?hy20⟩) hHeld ?rest20
      case hy20 =>
        intro wy hSw
        go_simp
        try (with_reducible rfl)
      try simp only [Act.put]
      refine wpAnyH_ready (rs := [21]) (by kernel_rfl) (by simp) ?_
      refine AllReadyH.cons (o := _) rfl (fun K hK => ?_) AllReadyH.nil
      go_simp
      go_at_call 9
      refine FN.out.mono ?_
      rintro e w5 ⟨rfl, o5, u5, k5⟩
      have st5 := u5.heap ST4.out.1 (by rw [ST4.out.2]; unfold gl; omega)
      have U5 := Lib.hid (U4.out.trans u5 (fun _ h => h))
      have FS5 := Lib.hid (BY.out _ (BU.out _ _ U5.out))
      have DL := Lib.hid (sdo_del len1 k5 st5.1 (st5.2.trans ST4.out.2) AR4.out HC4.out CV4.out (by omega) (by omega) (by omega) k hkn 0 none)
      have ST5 := Lib.hid (And.intro st5.1 (st5.2.trans ST4.out.2))
      clear u5 k5 st5 FN hHeld
      go_wp2_with fail
      refine hK.out _ _ FS5.out (fun hHeld => ?_)
      clear hK K
      try simp only [Act.put, List.setIfInBounds_toArray, List.set_cons_zero, List.set_cons_succ]
      refine wpAnyH_take (i := 22) (oi := _) (v := ?v22) rfl (by kernel_rfl) (by kernel_rfl) (by kernel_rfl) (fun _ _ _ h => h) (Or.inl ⟨by kernel_rfl, ?hy22⟩) hHeld ?rest22
      case hy22 =>
        intro wy hSw
        go_simp
        try (with_reducible rfl)
      try simp only [Act.put, List.setIfInBounds_toArray]
      refine wpAnyH_take (i := 23) (oi := _) (v := ?v23) rfl (by kernel_rfl) (by kernel_rfl) (by kernel_rfl) (fun _ _ _ h => h) (Or.inl ⟨by kernel_rfl, ?hy23⟩) hHeld ?rest23
      case hy23 =>
        intro wy hSw
        go_simp
        try (with_reducible rfl)
      try simp only [Act.put]
      refine wpAnyH_take (i := 24) (oi := _) (v := ?v24) rfl (by kernel_rfl) (by kernel_rfl) (by kernel_rfl) (fun _ _ _ h => h) (Or.inl ⟨by kernel_rfl, ?hy24⟩) hHeld ?rest24
      case hy24 =>
        intro wy hSw
        go_simp
        try (with_reducible rfl)
      try simp only [Act.put]
      refine wpAnyH_take (i := 25) (oi := _) (v := ?v25) rfl (by kernel_rfl) (by kernel_rfl) (by kernel_rfl) (fun _ _ _ h => h) (Or.inl ⟨by kernel_rfl, ?hy25⟩) hHeld ?rest25
      case hy25 =>
        intro wy hSw
        go_simp
        try (with_reducible rfl)
      try simp only [Act.put]
      refine wpAnyH_take (i := 26) (oi := _) (v := ?v26) rfl (by kernel_rfl) (by kernel_rfl) (by kernel_rfl) (fun _ _ _ h => h) (Or.inl ⟨by kernel_rfl, ?hy26⟩) hHeld ?rest26
      case hy26 =>
        intro wy hSw
        go_simp
        try (with_reducible rfl)
      try simp only [Act.put]
      refine wpAnyH_take (i := 27) (oi := _) (v := ?v27) rfl (by kernel_rfl) (by kernel_rfl) (by kernel_rfl) (fun _ _ _ h => h) (Or.inl ⟨by kernel_rfl, ?hy27⟩) hHeld ?rest27
      case hy27 =>
        intro wy hSw
        go_simp
        try (with_reducible rfl)
      try simp only [Act.put]
      refine wpAnyH_take (i := 28) (oi := _) (v := ?v28) rfl (by kernel_rfl) (by kernel_rfl) (by kernel_rfl) (fun _ _ _ h => h) (Or.inl ⟨by kernel_rfl, ?hy28⟩) hHeld ?rest28
      case hy28 =>
        intro wy hSw
        go_simp
        try (with_reducible rfl)
      try simp only [Act.put]
      refine wpAnyH_take (i := 29) (oi := _) (v := ?v29) rfl (by kernel_rfl) (by kernel_rfl) (by kernel_rfl) (fun _ _ _ h => h) (Or.inl ⟨by kernel_rfl, ?hy29⟩) hHeld ?rest29
      case hy29 =>
        intro wy hSw
        go_simp
        try (with_reducible rfl)
      try simp only [Act.put]
      refine wpAnyH_ready (rs := [30]) (by kernel_rfl) (by simp) ?_
      refine AllReadyH.cons (o := _) rfl (fun K hK => ?_) AllReadyH.nil
      go_simp
      go_at_call 7
      refine DL.out.mono ?_
      rintro e w6 ⟨rfl, ix6, S6, L6, C6, ar6, hc6, hcov6, o6, u6, k6⟩
      unfold resV
      rw [out_in] at ar6 hc6
      have st6 := u6.heap ST5.out.1 (by rw [ST5.out.2]; unfold gl; omega)
      have U6 := Lib.hid (U5.out.trans u6 (fun _ h => h))
      have FS6 := Lib.hid (BY.out _ (BU.out _ _ U6.out))
      have sv6 := stsave_any k6 st6.1 (st6.2.trans ST5.out.2) ar6 hc6 (by omega) (by omega) (by omega) (by omega) (by omega)
      rw [saveB_uniq ar6 AR.out hc6 HC.out, BS.out.1, BS.out.2] at sv6
      have SV6 := Lib.hid sv6
      clear ar6 hc6 hcov6 u6 k6 st6 DL sv6 hHeld
      go_wp2_with fail
      refine hK.out _ _ FS6.out (fun hHeld => ?_)
      clear hK K
      try simp only [Act.put, List.setIfInBounds_toArray, List.set_cons_zero, List.set_cons_succ]
      refine wpAnyH_take (i := 31) (oi := _) (v := ?v31) rfl (by kernel_rfl) (by kernel_rfl) (by kernel_rfl) (fun _ _ _ h => h) (Or.inl ⟨by kernel_rfl, ?hy31⟩) hHeld ?rest31
      case hy31 =>
        intro wy hSw
        go_simp
        try (with_reducible rfl)
      try simp only [Act.put, List.setIfInBounds_toArray]
      refine wpAnyH_take (i := 32) (oi := _) (v := ?v32) rfl (by kernel_rfl) (by kernel_rfl) (by kernel_rfl) (fun _ _ _ h => h) (Or.inl ⟨by kernel_rfl, ?hy32⟩) hHeld ?rest32
      case hy32 =>
        intro wy hSw
        go_simp
        try (with_reducible rfl)
      try simp only [Act.put]
      refine wpAnyH_take (i := 33) (oi := _) (v := ?v33) rfl (by kernel_rfl) (by kernel_rfl) (by kernel_rfl) (fun _ _ _ h => h) (Or.inl ⟨by kernel_rfl, ?hy33⟩) hHeld ?rest33
      case hy33 =>
        intro wy hSw
        go_simp
        try (with_reducible rfl)
      try simp only [Act.put]
      refine wpAnyH_done (by kernel_rfl) ?_ _
      clear hHeld
      go_wp2_with fail
      refine SV6.out.mono ?_
      rintro e w7 ⟨v7, rfl, o7, u7, k7, r7, q7⟩
      obtain ⟨a7, c7, rfl⟩ := own_shape r7.1
      have U7 := Lib.hid (U6.out.trans u7 (fun _ h => h))
      have R37 := Lib.hid (R3.out.keep U7.out (by unfold gl; omega)).1
      have R7 := Lib.hid r7.1
      have T7 := Lib.hid (TA.out w7 k7.tab)
      clear u7 k7 r7 q7 SV6
      go_wp2_with fail
      refine T7.out.mono ?_
      rintro e w8 ⟨rfl, b8⟩
      obtain ⟨tt, htt⟩ := own_str bs nb
      have e3 := htt w8 0 c3 a3 (owns_same' R37.out b8.block)
      have e7 := htt w8 0 c7 a7 (owns_same' R7.out b8.block)
      have B8 := Lib.hid ((BU.out _ _ U7.out).trans (b8.mono (BU.out _ _ U7.out).size))
      clear b8 htt T7
      go_wp2_with fail
      go_ret
      exact ⟨rfl, B8.out⟩
end Go.Proofs.YtnadgcgnediakaaGreatDoor
