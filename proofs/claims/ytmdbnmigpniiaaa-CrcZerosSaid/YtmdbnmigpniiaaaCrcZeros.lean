/- CrcZeros returns true for every n and c, and writes nothing that was there; no conditions. -/
import Derived.Test.YtmdbnmigpniiaaaRows
import Derived.Test.YtmdbnmigpniiaaaBurst
import Derived.WalkKit
import Derived.ProofKit
import Derived.OpenShut
import Derived.ShutString
namespace Go.Proofs.Ytmdbnmigpniiaaa.crcZeros
open Go.ChangeShapes Go.WideShapes Go.ChangeAt Go.RowKit
open Go.ChangeMaps (open_string shut_string)
set_option linter.unusedVariables false      -- a walk need not use every 'w<i>' (that an integer argument fits its kind)

theorem own : ownKnob Try.prog.godebug = none := by kernel_rfl
theorem laidOut : laidOutB Try.prog = true := by kernel_rfl

/-! ### the walk -/
theorem zeros_own (w : World) (base K : Nat) (hb : base ≤ w.heap.size) (hK : K ≤ 100) : (w.alloc (.cells (madeCells #[.int .u8 0] K) 5)).ownsRow base 5 1 (.slice (some ⟨w.heap.size, 0, none⟩) K K) K (u8s (List.replicate K 0#8)) := by
  have h := World.ownsRow_lit (base := base) (e := 5) (size := 1) w (madeCells #[.int .u8 0] K) K hb (by unfold maxLen; omega) (by rw [size_madeCells]; omega)
  have e : (madeCells #[.int .u8 0] K).toList = u8s (List.replicate K 0#8) := by
    unfold madeCells u8s
    apply List.ext_getElem
    · simp
    · intro i h1 h2
      simp [Nat.mod_one]
      rfl
  rwa [e] at h

theorem W_shrN (s : BitVec 8) (n : Nat) : W s / (2 : Int) ^ n = ((s.toNat / 2 ^ n : Nat) : Int) := by
  unfold W; rw [Int.natCast_ediv, Int.natCast_pow]; rfl
theorem W_bit (s : BitVec 8) (n : Nat) : bits .and .u8 (W s / (2 : Int) ^ n) 1 = if s.getLsbD n = true then 1 else 0 := by
  have hs := s.isLt
  have hd : s.toNat / 2 ^ n ≤ s.toNat := Nat.div_le_self _ _
  have e : bits .and .u8 (W s / (2 : Int) ^ n) 1 = ((s.toNat / 2 ^ n &&& 1 : Nat) : Int) := by
    rw [W_shrN]
    exact u8_and_nat _ 1 (by omega) (by omega)
  rw [e, BitVec.getLsbD, Nat.testBit_eq_decide_div_mod_eq, show (1 : Nat) = 2 ^ 1 - 1 from rfl, Nat.and_two_pow_sub_one_eq_mod]
  split
  · rename_i h; have := of_decide_eq_true h; simp at this; omega
  · rename_i h; simp at h; omega
theorem bits_take (c : BitVec 8) (n : Nat) (hn : n < 8) (t : BitVec 32) : Crc.runBits t ((Crc.bbits c).take (n + 1)) = Crc.step (Crc.runBits t ((Crc.bbits c).take n)) (c.getLsbD n) := by
  have hl : n < (Crc.bbits c).length := by simp [Crc.bbits]; omega
  rw [List.take_succ_eq_append_getElem hl, Crc.runBits_append]
  simp [Crc.bbits, Crc.runBits]

theorem walk (a0 : Int) (a1 : Int) (w0 : (Lit.int .i64 a0).wf = true) (w1 : (Lit.int .u8 a1).wf = true) (w : World) :
    Calls Try.prog 3 #[.int .i64 a0, .int .u8 a1] w fun e w' => e = .returned (.bool true) ∧ Below w.heap.size w w' := by
  obtain ⟨i0, hi0, hz0, hsz, hz2⟩ := info_parts info5
  obtain ⟨c, rfl⟩ := W_ex w1
  obtain ⟨x, x0, x1, ex⟩ := umod_ex a0 61 (by omega) (by omega)
  obtain ⟨K, rfl⟩ := Int.eq_ofNat_of_zero_le x0
  have cb := W_bd c
  have hmk := Go.run_make_row' (P := Try.prog) 25 5 (.int .u8 0) 1 Try.underlying25 info5 rfl .i64 .i64 K (by omega) (by omega)
  have v1 : V (~~~0#32) = 4294967295 := by decide
  clear w0 w1
  go_enter Try.func3, Try.ntmps3
  go_wp2_with fail
  rw [ex]
  clear ex
  go_loop [6, 7] (fun s i => ∃ n : Nat, n ≤ 8 * K ∧ i = .int .i64 n ∧ s = .int .u32 (V (Crc.stepN n (~~~0#32)))) (fun _ i => 8 * K - (intOf i).toNat)
  case atStart => exact ⟨0, by omega, rfl, by rw [Crc.stepN, v1]⟩
  case round =>
    obtain ⟨n, hn, rfl, rfl⟩ := hrel
    by_cases hlt : n < 8 * K
    · have hs := Lib.hid (Crc.stepN_succ' n (~~~0#32))
      obtain ⟨t, ht⟩ : ∃ t, Crc.stepN n (~~~0#32) = t := ⟨_, rfl⟩
      rw [ht] at hs ⊢
      clear ht
      go_wp2_with (go_at_call 10; refine (step_core t false _).mono ?_; rintro e w' ⟨rfl, rfl⟩)
      go_round
      case rel => exact ⟨n + 1, by omega, by go_num, by rw [hs.out, Crc.step_false]⟩
      case measure => simp [intOf]; omega
    · obtain rfl : n = 8 * K := by omega
      clear v1
      obtain ⟨t, ht⟩ : ∃ t, Crc.stepN (8 * K) (~~~0#32) = t := ⟨_, rfl⟩
      rw [ht]
      have HT := Lib.hid ht
      clear ht
      go_wp2_with fail
      have hown := zeros_own w w.heap.size K (Nat.le_refl _) (by omega)
      have hb1 : Below w.heap.size w (w.alloc (.cells (madeCells #[.int .u8 0] K) 5)) := (Below.refl _ _).alloc (Nat.le_refl _) _
      have hz1 : w.heap.size < (w.alloc (.cells (madeCells #[.int .u8 0] K) 5)).heap.size := by simp
      generalize w.alloc (.cells (madeCells #[.int .u8 0] K) 5) = w1 at *
      have HO := Lib.hid hown
      clear hown hmk
      go_loop [6, 9] (fun s i => ∃ n : Nat, n ≤ 8 ∧ i = .int .i64 n ∧ s = .int .u32 (V (Crc.runBits t ((Crc.bbits c).take n)))) (fun _ i => 8 - (intOf i).toNat)
      case atStart => exact ⟨0, by omega, rfl, rfl⟩
      case round =>
        obtain ⟨n, hn, rfl, rfl⟩ := hrel
        by_cases hlt : n < 8
        · have hs := Lib.hid (bits_take c n hlt t)
          obtain ⟨u, hu⟩ : ∃ u, Crc.runBits t ((Crc.bbits c).take n) = u := ⟨_, rfl⟩
          rw [hu] at hs ⊢
          clear hu
          obtain ⟨bt, hbt⟩ : ∃ bt, c.getLsbD n = bt := ⟨_, rfl⟩
          rw [hbt] at hs
          have e1 : (bits .and .u8 (W c / 2 ^ n) 1 == 1) = bt := by
            rw [W_bit, hbt]; cases bt <;> rfl
          clear hbt
          go_wp2_with (go_at_call 10; refine (step_core u bt _).mono ?_; rintro e w' ⟨rfl, rfl⟩)
          go_round
          case rel => exact ⟨n + 1, by omega, by go_num, by rw [hs.out]⟩
          case measure => simp [intOf]; omega
        · obtain rfl : n = 8 := by omega
          have hs := Lib.hid (show (Crc.bbits c).take 8 = Crc.bbits c from rfl)
          obtain ⟨u, hu⟩ : ∃ u, Crc.runBits t ((Crc.bbits c).take 8) = u := ⟨_, rfl⟩
          rw [hu]
          have HU := Lib.hid hu
          clear hu
          go_wp2_with fail
          refine (told_any _).mono ?_
          rintro e w2 ⟨rfl, hb2⟩
          have hq2 := hb2.size
          have k2 : Below w.heap.size w w2 := hb1.trans (hb2.mono (by omega))
          have hown2 : (w2.alloc (.cells #[.int .u8 (W c)] 5)).ownsRow w.heap.size 5 1 (.slice (some ⟨w.heap.size, 0, none⟩) K K) K (u8s (List.replicate K 0#8)) :=
            (HO.out.kept (row := none) ⟨hb2.os, hb2.tape, hb2.output, hb2.size, fun i hi _ => hb2.block i hi⟩ (.inr (by simp [Value.ownBlock]))).alloc _
          have hnews : ∀ j v, (u8s [c])[j]? = some v → (w2.alloc (.cells #[.int .u8 (W c)] 5)).cell? ((⟨w2.heap.size, 0, none⟩ : Addr).add j) = some v := by
            intro j v hv
            match j with
            | 0 => obtain rfl := Option.some.inj hv
                   rw [show (⟨w2.heap.size, 0, none⟩ : Addr).add 0 = ⟨w2.heap.size, 0, none⟩ from rfl, World.cell?_alloc_at _ _ _ _ rfl]; rfl
            | j + 1 => simp [u8s] at hv
          have HO2 := Lib.hid hown2
          have HN := Lib.hid hnews
          have hm1 : K + 1 ≤ maxLen := by unfold maxLen; omega
          have hm2 : (K + 1) * 1 ≤ 140737488355328 := by omega
          have hm3 : w.heap.size ≤ (w2.alloc (.cells #[.int .u8 (W c)] 5)).heap.size := by simp; omega
          clear hown2 hnews
          go_wp2_with (at_builtin; refine wpList_append_own_when (by rfl) (.tmp 38) (.tmp 40) 25 rfl w.heap.size 5 i0 (.int .u8 0) 1 1 Try.underlying25 hi0 hz0 hsz hz2 rfl (by decide) (.slice (some ⟨w.heap.size, 0, none⟩) K K) K (u8s (List.replicate K 0#8)) rfl HO2.out ⟨w2.heap.size, 0, none⟩ 1 1 (u8s [c]) rfl rfl HN.out (u8s_one [c]) hm1 hm2 hm3 ?_; intro v1 w3 hown hgr _; obtain ⟨g, cap, hv, hg0, hg1⟩ := hown.form (by omega); rw [hv]; have HV := Lib.hid hv; have HO3 := Lib.hid hown; have HG := Lib.hid hgr; clear hv hown hgr)
          have hown3 : w3.ownsRow w.heap.size 5 1 (.slice (some ⟨g, 0, none⟩) (K + 1) cap) (K + 1) (u8s (List.replicate K 0#8 ++ [c])) := by
            have h := HO3.out
            rw [HV.out] at h
            simpa [u8s] using h
          have k3 : Below w.heap.size w w3 := (k2.alloc (by omega) _).grown HG.out hm3 (by simp [Value.ownBlock])
          have q3 := k3.size
          have R3 := own_bytes hown3
          clear hown3
          refine (of_one ⟨some ⟨g, 0, none⟩, K + 1, cap, List.replicate K 0#8 ++ [c]⟩ _ w3.heap.size (by simp) ⟨R3.below ((Below.refl _ _).alloc (Nat.le_refl _) _) _ (by simp), by show K + 1 ≤ _; omega⟩ (by simp)).mono ?_
          rintro e w4 ⟨rfl, hb4⟩
          have k4 : Below w.heap.size w w4 := (k3.alloc q3 _).trans (hb4.mono (by simp; omega))
          clear hb4
          have e2 : V (Crc.more 0#32 (List.replicate K 0#8 ++ [c])) = V (~~~u) := by
            rw [Crc.more_zeros, HT.out, ← HU.out, hs.out]
          have e3 := V_not u
          simp only [e2]
          go_wp2_with fail
          go_ret
          exact ⟨rfl, k4⟩

/-! ### the row's step -/
set_option maxRecDepth 100000 in
theorem lifted (os : Os) (started : os.Started) (H : Type) (enc : TypeId × Value → H) :
    ReturnsInHanded {} Try.checked os 3 .any (Rows.crcZerosSpec.pre6 enc Try.prog Try.f3 Rows.crcZerosRow.domain false) (Rows.crcZerosSpec.post enc Try.prog Try.f3 false true false false) := by
  refine returnsInHanded_of_change (C := Try.checked) own started (by kernel_rfl) Try.func3
    (ChangeSpec.witness6 (enc := enc) (C := Try.checked) false ⟨#[], #[.int .i64 0, .int .u8 0], []⟩ 8 (by kernel_rfl) (by kernel_rfl) (by kernel_rfl) (by kernel_rfl)) ?_
  intro W base args ds gs before hval0 hW hcnd _
  have hval : ∀ (j : Nat) t v, Try.f3.params[j]? = some t → args[j]? = some v → Value.okWide Try.prog W .any base t v := hval0
  have hW' := hW
  obtain ⟨p, q, hA0, hV, rfl, hfz, hnd⟩ := hW
  have hA : DataW.TrodAll enc Try.prog W 0 (fun _ => true) true Try.f3.params.toList args.toList ds p := hA0
  rw [Try.params3] at hA hval
  obtain ⟨v0, vs0, d0, ds0, p0, q0, hargs, rfl, rfl, h0, r0⟩ := trodAll_cons hA
  obtain ⟨v1, vs1, d1, ds1, p1, q1, rfl, rfl, rfl, h1, r1⟩ := trodAll_cons r0
  obtain ⟨rfl, rfl, rfl⟩ := trodAll_nil r1
  obtain rfl : args = #[v0, v1] := by cases args; simp_all
  obtain ⟨rfl, rfl⟩ := trodVars_none hV
  obtain ⟨a0, rfl, rfl, rfl, w0⟩ := open_int Try.underlying3 (hval 0 3 v0 rfl rfl) h0
  obtain ⟨a1, rfl, rfl, rfl, w1⟩ := open_int Try.underlying5 (hval 1 5 v1 rfl rfl) h1
  clear hA0 hval0
  simp only [List.append_nil] at hW'
  refine (walk a0 a1 w0 w1 W).mono fun e W' ⟨he, hg⟩ => ?_
  subst he
  exact ⟨_, rfl, _, _, _, [], [], [], hW', trodAll_mk1 (shut_bool Try.underlying4 _), (trodAll_cons_mk (shut_int Try.underlying3 w0) (trodAll_cons_mk (shut_int Try.underlying5 w1) trodAll_mk0)), rfl, hg.frame _, fun h => by cases h⟩

theorem over : Rows.crcZerosRow.holds Try.pinned (OpenSpec.ofChange Rows.crcZerosSpec) :=
  OpenClaim.holds_of_wide 3 Try.f3 rfl rfl rfl rfl rfl rfl rfl ⟨rfl, rfl, rfl, rfl, rfl⟩ rfl rfl rfl rfl rfl (by kernel_rfl) Try.func3 (by kernel_rfl)
    (of_decide_eq_true (by kernel_rfl)) (by unfold Func.isWrapper; first | (rw [if_pos (by decide +kernel)]; kernel_rfl) | (rw [if_neg (by decide +kernel)]; exact ⟨rfl, rfl⟩))
    (fun os started H enc _ => lifted os started H enc)

/-- the statement -/
theorem proved : Rows.CrcZerosSaid :=
  over
#print axioms proved
end Go.Proofs.Ytmdbnmigpniiaaa.crcZeros
