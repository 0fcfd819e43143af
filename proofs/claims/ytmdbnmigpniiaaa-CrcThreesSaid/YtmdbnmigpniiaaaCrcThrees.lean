/- CrcThrees returns true for every three texts, and writes nothing that was there; no conditions. -/
import Derived.Test.YtmdbnmigpniiaaaRows
import Derived.Test.YtmdbnmigpniiaaaDrawn
import Derived.WalkKit
import Derived.ProofKit
import Derived.OpenShut
import Derived.ShutString
import Derived.ChangeOld
import Derived.Below
namespace Go.Proofs.Ytmdbnmigpniiaaa.crcThrees
open Go.ChangeShapes Go.WideShapes Go.ChangeAt Go.RowKit
open Go.ChangeMaps (open_string shut_string)
set_option linter.unusedVariables false

theorem own : ownKnob Try.prog.godebug = none := by kernel_rfl
theorem laidOut : laidOutB Try.prog = true := by kernel_rfl

/-! ### the walk -/
/-- the claims on the slots of a statement that draws its order -/
def Claim9 (aX a0 a1 a2 b0 b1 b2 : Option Addr) (k len0 cap0 len1 cap1 len2 cap2 : Nat) (X A B C : BitVec 32) (s : Nat) (v : Value) (w : World) : Prop :=
  match s with
  | 47 => v = .slice aX k k
  | 50 => v = .slice a0 len0 cap0
  | 55 => v = .slice a1 len1 cap1
  | 61 => v = .slice a2 len2 cap2
  | 51 => v = .int .i64 k
  | 56 => v = .int .i64 k
  | 62 => v = .int .i64 k
  | 52 => v = .slice b0 k cap0
  | 57 => v = .slice b1 k cap1
  | 63 => v = .slice b2 k cap2
  | 48 => Row1 (.slice aX k k) v w
  | 53 => Row1 (.slice b0 k cap0) v w
  | 58 => Row1 (.slice b1 k cap1) v w
  | 64 => Row1 (.slice b2 k cap2) v w
  | 49 => v = .int .u32 (V X)
  | 66 => v = .int .u32 (V X)
  | 54 => v = .int .u32 (V A)
  | 59 => v = .int .u32 (V B)
  | 65 => v = .int .u32 (V C)
  | 60 => v = .int .u32 (V (A ^^^ B))
  | _ => v = .bool true
theorem Claim9.grew {aX a0 a1 a2 b0 b1 b2 : Option Addr} {k len0 cap0 len1 cap1 len2 cap2 : Nat} {X A B C : BitVec 32} (j : Nat) (v : Value) (p q : World) (g : Grew p q) (h : Claim9 aX a0 a1 a2 b0 b1 b2 k len0 cap0 len1 cap1 len2 cap2 X A B C j v p) : Claim9 aX a0 a1 a2 b0 b1 b2 k len0 cap0 len1 cap1 len2 cap2 X A B C j v q := by
  revert h
  unfold Claim9
  split <;> intro h <;> first | exact h | exact Row1.grew h g | exact Row2.grew h g

/-- the first k bytes are laid -/
def Laid (x y z : List (BitVec 8)) (n k : Nat) (cs : List (BitVec 8)) : Prop :=
  cs.length = n ∧ ∀ j, j < k → cs[j]? = some (x.getD j 0#8 ^^^ y.getD j 0#8 ^^^ z.getD j 0#8)
theorem Laid.step {x y z cs : List (BitVec 8)} {n k : Nat} {a b c : BitVec 8} (h : Laid x y z n k cs) (hk : k < n) (ha : x[k]? = some a) (hb : y[k]? = some b) (hc : z[k]? = some c) : Laid x y z n (k + 1) (cs.set k (a ^^^ b ^^^ c)) := by
  refine ⟨by rw [List.length_set]; exact h.1, fun j hj => ?_⟩
  by_cases e : j = k
  · subst e
    rw [List.getElem?_set_self (by have := h.1; omega)]
    simp [List.getD_eq_getElem?_getD, ha, hb, hc]
  · rw [List.getElem?_set_ne (by omega)]
    exact h.2 j (by omega)

theorem Laid.all {x y z cs : List (BitVec 8)} {n : Nat} (h : Laid x y z n n cs) (hx : n ≤ x.length) (hy : n ≤ y.length) (hz : n ≤ z.length) : cs = List.zipWith (· ^^^ ·) (List.zipWith (· ^^^ ·) (x.take n) (y.take n)) (z.take n) := by
  apply List.ext_getElem
  · simp [h.1]; omega
  · intro i h1 h2
    have hi : i < n := by have := h.1; omega
    have e := h.2 i hi
    rw [List.getElem?_eq_getElem h1] at e
    injection e with e
    rw [e]
    simp [List.getD_eq_getElem?_getD, List.getElem?_eq_getElem (show i < x.length by omega), List.getElem?_eq_getElem (show i < y.length by omega), List.getElem?_eq_getElem (show i < z.length by omega)]

set_option maxHeartbeats 4000000 in
set_option maxRecDepth 100000 in
theorem walk (a0 : Option Addr) (len0 cap0 : Nat) (z0 : List Int) (a1 : Option Addr) (len1 cap1 : Nat) (z1 : List Int) (a2 : Option Addr) (len2 cap2 : Nat) (z2 : List Int) (w : World) (w0 : IsRow .u8 w a0 len0 cap0 z0) (w1 : IsRow .u8 w a1 len1 cap1 z1) (w2 : IsRow .u8 w a2 len2 cap2 z2) :
    Calls Try.prog 7 #[.slice a0 len0 cap0, .slice a1 len1 cap1, .slice a2 len2 cap2] w fun e w' => e = .returned (.bool true) ∧ Below w.heap.size w w' := by
  obtain ⟨bs0, R0, lc0, cm0⟩ := rowBytes w0
  obtain ⟨bs1, R1, lc1, cm1⟩ := rowBytes w1
  obtain ⟨bs2, R2, lc2, cm2⟩ := rowBytes w2
  clear w0 w1 w2
  go_enter Try.func7, Try.ntmps7
  go_upto_region 1 with (fail)
  go_cut [7] from 10 to 17 (fun t wx => (∃ n : Nat, n ≤ len0 ∧ n ≤ len1 ∧ n ≤ len2 ∧ t = .int .i64 n) ∧ w = wx)
  case first =>
    by_cases h1 : len1 ≤ len2
    · by_cases h2 : len0 ≤ len1
      · go_wp2_with fail
        go_meet
        exact ⟨⟨len0, by omega, by omega, by omega, rfl⟩, rfl⟩
      · go_wp2_with fail
        go_meet
        exact ⟨⟨len1, by omega, by omega, by omega, rfl⟩, rfl⟩
    · by_cases h2 : len0 ≤ len2
      · go_wp2_with fail
        go_meet
        exact ⟨⟨len0, by omega, by omega, by omega, rfl⟩, rfl⟩
      · go_wp2_with fail
        go_meet
        exact ⟨⟨len2, by omega, by omega, by omega, rfl⟩, rfl⟩
  case rest =>
    obtain ⟨⟨n, hn0, hn1, hn2, rfl⟩, rfl⟩ := hcut
    by_cases h100 : n ≤ 100
    · obtain ⟨i0, hi0, hz0, hsz, hz2⟩ := info_parts info5
      have hmk := Go.run_make_row' (P := Try.prog) 25 5 (.int .u8 0) 1 Try.underlying25 info5 rfl .i64 .i64 n (by omega) (by omega)
      go_wp2_with fail
      have hown := zeros_own w w.heap.size n (Nat.le_refl _) h100
      have hb1 : Below w.heap.size w (w.alloc (.cells (madeCells #[.int .u8 0] n) 5)) := (Below.refl _ _).alloc (Nat.le_refl _) _
      generalize w.alloc (.cells (madeCells #[.int .u8 0] n) 5) = w1 at *
      have HO := Lib.hid hown
      clear hown hmk hi0 hz0 hsz hz2
      go_loopw [9] (fun i wr => ∃ (k : Nat) (cs : List (BitVec 8)), k ≤ n ∧ i = .int .i64 k ∧ Laid bs0 bs1 bs2 n k cs ∧ wr.ownsRow w.heap.size 5 1 (.slice (some ⟨w.heap.size, 0, none⟩) n n) n (u8s cs) ∧ Below w.heap.size w wr) (fun i _ => n - (intOf i).toNat)
      case atStart => exact ⟨0, _, by omega, rfl, ⟨by simp, fun j hj => absurd hj (by omega)⟩, HO.out, hb1⟩
      case round =>
        obtain ⟨k, cs, hk, rfl, hlaid, hown, hb⟩ := hrel
        by_cases hlt : k < n
        · obtain ⟨b0, o0, rfl, hb0, hc0⟩ := R0.2 (by omega)
          obtain ⟨b1, o1, rfl, hb1', hc1⟩ := R1.2 (by omega)
          obtain ⟨b2, o2, rfl, hb2, hc2⟩ := R2.2 (by omega)
          obtain ⟨c0, e0⟩ : ∃ c, bs0[k]? = some c := ⟨_, List.getElem?_eq_getElem (by have := R0.1; omega)⟩
          obtain ⟨c1, e1⟩ : ∃ c, bs1[k]? = some c := ⟨_, List.getElem?_eq_getElem (by have := R1.1; omega)⟩
          obtain ⟨c2, e2⟩ : ∃ c, bs2[k]? = some c := ⟨_, List.getElem?_eq_getElem (by have := R2.1; omega)⟩
          have g0 := (hb.cell (p := ⟨b0, o0 + k, none⟩) hb0).trans (hc0 k c0 e0)
          have g1 := (hb.cell (p := ⟨b1, o1 + k, none⟩) hb1').trans (hc1 k c1 e1)
          have g2 := (hb.cell (p := ⟨b2, o2 + k, none⟩) hb2).trans (hc2 k c2 e2)
          have x1 : bits .xor .u8 (W c0) (W c1) = W (c0 ^^^ c1) := W_xor c0 c1
          have x2 : bits .xor .u8 (W (c0 ^^^ c1)) (W c2) = W (c0 ^^^ c1 ^^^ c2) := W_xor _ c2
          have HL := Lib.hid (hlaid.step hlt e0 e1 e2)
          have HC := Lib.hid hlaid.1
          obtain ⟨co, ec⟩ : ∃ c, cs[k]? = some c := ⟨_, List.getElem?_eq_getElem (by have := hlaid.1; omega)⟩
          have gc : wr.cell? ⟨w.heap.size, k, none⟩ = some (.int .u8 (W co)) := by
            rw [hown.cellAt _ (by omega), u8s, List.getElem?_map, ec]; rfl
          have gf := hown.frozenAt k
          have k0 : (0 : Int) ≤ (k : Int) := by omega
          have k1 : (k : Int) < (n : Int) := by omega
          have l0 : (k : Int) < (len0 : Int) := by omega
          have l1 : (k : Int) < (len1 : Int) := by omega
          have l2 : (k : Int) < (len2 : Int) := by omega
          clear e0 e1 e2 ec hc0 hc1 hc2
          go_wp2_with fail
          go_still_tail 17, (by kernel_rfl)
          change wpList _ _ _ _ _ wr.drew
          have gc2 : wr.drew.cell? ⟨w.heap.size, k, none⟩ = some (.int .u8 (W co)) := gc
          have gf2 : wr.drew.frozen? ⟨w.heap.size, k, none⟩ = false := gf
          have hown2 := hown.drew
          have hbd := hb.drew
          clear gc gf g0 g1 g2 hown hb hlaid
          generalize wr.drew = wd at gc2 gf2 hown2 hbd ⊢
          go_wp2_with fail
          go_roundw
          case rel => exact ⟨k + 1, cs.set k (c0 ^^^ c1 ^^^ c2), by omega, by go_num, HL.out, by rw [u8s_set]; exact (hown2.stored _ _).1, hbd.setCell (p := ⟨w.heap.size, k, none⟩) (Nat.le_refl _) _⟩
          case measure => simp [intOf]; omega
        · obtain rfl : k = n := by omega
          have R3 := own_bytes hown
          have HE := Lib.hid (hlaid.all (by have := R0.1; omega) (by have := R1.1; omega) (by have := R2.1; omega))
          have HLn := Lib.hid hlaid.1
          clear hown hlaid
          obtain ⟨aL0, hL0, RL0⟩ : ∃ aL, (∀ w, (Instr.slice 25 (.slice a0 len0 cap0) none (some (.int .i64 k)) none).run Try.prog w = .ok (.slice aL k cap0) w) ∧ IsBytes w w.heap.size aL k (bs0.take k) :=
            ⟨_, fun W => cut_hi a0 len0 cap0 k (by omega) W, by simpa using R0.cut 0 k (by omega) (by omega) lc0⟩
          obtain ⟨aL1, hL1, RL1⟩ : ∃ aL, (∀ w, (Instr.slice 25 (.slice a1 len1 cap1) none (some (.int .i64 k)) none).run Try.prog w = .ok (.slice aL k cap1) w) ∧ IsBytes w w.heap.size aL k (bs1.take k) :=
            ⟨_, fun W => cut_hi a1 len1 cap1 k (by omega) W, by simpa using R1.cut 0 k (by omega) (by omega) lc1⟩
          obtain ⟨aL2, hL2, RL2⟩ : ∃ aL, (∀ w, (Instr.slice 25 (.slice a2 len2 cap2) none (some (.int .i64 k)) none).run Try.prog w = .ok (.slice aL k cap2) w) ∧ IsBytes w w.heap.size aL k (bs2.take k) :=
            ⟨_, fun W => cut_hi a2 len2 cap2 k (by omega) W, by simpa using R2.cut 0 k (by omega) (by omega) lc2⟩
          have PX : Part.at wr wr.heap.size ⟨some ⟨w.heap.size, 0, none⟩, k, k, cs⟩ := ⟨R3, by show k ≤ _; omega⟩
          have Q0 : Part.at wr wr.heap.size ⟨aL0, k, cap0, bs0.take k⟩ := Part.at.below (p := ⟨aL0, k, cap0, bs0.take k⟩) ⟨RL0, by show k ≤ _; omega⟩ hb _ hb.size
          have Q1 : Part.at wr wr.heap.size ⟨aL1, k, cap1, bs1.take k⟩ := Part.at.below (p := ⟨aL1, k, cap1, bs1.take k⟩) ⟨RL1, by show k ≤ _; omega⟩ hb _ hb.size
          have Q2 : Part.at wr wr.heap.size ⟨aL2, k, cap2, bs2.take k⟩ := Part.at.below (p := ⟨aL2, k, cap2, bs2.take k⟩) ⟨RL2, by show k ≤ _; omega⟩ hb _ hb.size
          have eX : Crc.more 0#32 cs = Crc.more 0#32 (bs0.take k) ^^^ Crc.more 0#32 (bs1.take k) ^^^ Crc.more 0#32 (bs2.take k) := by
            rw [HE.out]
            exact Crc.more_threes _ _ _ (by have := R0.1; have := R1.1; simp; omega) (by have := R0.1; have := R2.1; simp; omega)
          obtain ⟨A, hA⟩ : ∃ A, Crc.more 0#32 (bs0.take k) = A := ⟨_, rfl⟩
          obtain ⟨B, hB⟩ : ∃ B, Crc.more 0#32 (bs1.take k) = B := ⟨_, rfl⟩
          obtain ⟨C, hC⟩ : ∃ C, Crc.more 0#32 (bs2.take k) = C := ⟨_, rfl⟩
          obtain ⟨X, hX⟩ : ∃ X, Crc.more 0#32 cs = X := ⟨_, rfl⟩
          rw [hA, hB, hC, hX] at eX
          have x1 : bits .xor .u32 (V A) (V B) = V (A ^^^ B) := V_xor A B
          have x2 : bits .xor .u32 (V (A ^^^ B)) (V C) = V X := by rw [V_xor, eX]
          have HA := Lib.hid hA
          have HB := Lib.hid hB
          have HC := Lib.hid hC
          have HX := Lib.hid hX
          clear hA hB hC hX eX R0 R1 R2 RL0 RL1 RL2 R3
          go_wp2_with fail
          refine Asserted.wp_region_planned (T := Claim9 (some ⟨w.heap.size, 0, none⟩) a0 a1 a2 aL0 aL1 aL2 k len0 cap0 len1 cap1 len2 cap2 X A B C) (R := Grew)
            [45, 46, 47, 48, 49, 50, 51, 52, 53, 54, 55, 56, 57, 58, 59, 60, 61, 62, 63, 64, 65, 66, 67, 68, 6]
            [⟨[], none⟩, ⟨[45], none⟩, ⟨[46], some (46, true)⟩, ⟨[47, 46], some (46, true)⟩, ⟨[48, 46], some (46, true)⟩, ⟨[46], some (46, true)⟩, ⟨[46], some (46, true)⟩, ⟨[50, 51, 46], some (46, true)⟩, ⟨[52, 46], some (46, true)⟩, ⟨[53, 46], some (46, true)⟩, ⟨[46], some (46, true)⟩, ⟨[46], some (46, true)⟩, ⟨[55, 56, 46], some (46, true)⟩, ⟨[57, 46], some (46, true)⟩, ⟨[58, 46], some (46, true)⟩, ⟨[54, 59, 46], some (46, true)⟩, ⟨[46], some (46, true)⟩, ⟨[46], some (46, true)⟩, ⟨[61, 62, 46], some (46, true)⟩, ⟨[63, 46], some (46, true)⟩, ⟨[64, 46], some (46, true)⟩, ⟨[60, 65, 46], some (46, true)⟩, ⟨[49, 66, 46], some (46, true)⟩, ⟨[46, 67], none⟩, ⟨[68], none⟩]
            (by kernel_rfl) (Grew.refl _) Grew.trans (fun j v x y g h => Claim9.grew j v x y g h) (by kernel_rfl) (by kernel_rfl) (by kernel_rfl) ?_ ?_
          · refine ⟨?_, ?_, ?_, ?_, ?_, ?_, ?_, ?_, ?_, ?_, ?_, ?_, ?_, ?_, ?_, ?_, ?_, ?_, ?_, ?_, ?_, ?_, ?_, ?_, ?_, trivial⟩
            all_goals
              intro u w1 hg hd K hK
              simp only [Asserted.DepsS, Claim9, and_true] at hd
              simp only [Asserted.dslot, Claim9, Asserted.fillS, Act.put, List.setIfInBounds_toArray, List.set_cons_zero, List.set_cons_succ] at hK
              simp only [Asserted.fillS, List.setIfInBounds_toArray, List.set_cons_zero, List.set_cons_succ]
              try simp only [hd] at hK
              try (refine .inl ⟨by simp [hd], ?_⟩)
              go_simp
              try (with_reducible exact hK _ _ rfl (Grew.refl _))
              try (with_reducible exact hK _ _ (Row1.new _ _ _) (Grew.alloc _ _))
              try (with_reducible exact hK _ _ (Row2.new _ _ _ _) (Grew.alloc _ _))
            · refine (told_any _).mono ?_
              rintro e w2 ⟨rfl, hb⟩
              exact hK _ _ rfl hb
            · refine (of_row1 ⟨some ⟨w.heap.size, 0, none⟩, k, k, cs⟩ _ _ _ (Nat.le_refl _) (PX.below hg.of_drew _ hg.size) hd.1).mono ?_
              rintro e w2 ⟨rfl, hb⟩
              exact hK _ _ (by rw [← HX.out]) hb
            · refine (of_row1 ⟨aL0, k, cap0, bs0.take k⟩ _ _ _ (Nat.le_refl _) (Q0.below hg.of_drew _ hg.size) hd.1).mono ?_
              rintro e w2 ⟨rfl, hb⟩
              exact hK _ _ (by rw [← HA.out]) hb
            · refine (of_row1 ⟨aL1, k, cap1, bs1.take k⟩ _ _ _ (Nat.le_refl _) (Q1.below hg.of_drew _ hg.size) hd.1).mono ?_
              rintro e w2 ⟨rfl, hb⟩
              exact hK _ _ (by rw [← HB.out]) hb
            · refine (of_row1 ⟨aL2, k, cap2, bs2.take k⟩ _ _ _ (Nat.le_refl _) (Q2.below hg.of_drew _ hg.size) hd.1).mono ?_
              rintro e w2 ⟨rfl, hb⟩
              exact hK _ _ (by rw [← HC.out]) hb
          · intro u w1 hg hd
            simp only [Asserted.DepsS, Claim9, and_true] at hd
            have h6 : u 6 = .bool true := hd.2.2.2.2.2.2.2.2.2.2.2.2.2.2.2.2.2.2.2.2.2.2.2.2
            clear hd
            simp only [Asserted.fillS, List.setIfInBounds_toArray, List.set_cons_zero, List.set_cons_succ, h6]
            go_wp2
            go_ret
            exact ⟨rfl, hb.trans (hg.of_drew.mono hb.size)⟩
    · go_wp2_with (go_at_call 11; refine (told_any _).mono ?_; rintro e w6 ⟨rfl, hb6⟩)
      go_ret
      exact ⟨rfl, hb6⟩

/-! ### the row's step -/
set_option maxRecDepth 100000 in
theorem lifted (os : Os) (started : os.Started) (H : Type) (enc : TypeId × Value → H) :
    ReturnsInHanded {} Try.checked os 7 .any (Rows.crcThreesSpec.pre6 enc Try.prog Try.f7 Rows.crcThreesRow.domain false) (Rows.crcThreesSpec.post enc Try.prog Try.f7 false true false false) := by
  refine returnsInHanded_of_change (C := Try.checked) own started (by kernel_rfl) Try.func7
    (ChangeSpec.witness6 (enc := enc) (C := Try.checked) false ⟨#[], #[.slice none 0 0, .slice none 0 0, .slice none 0 0], []⟩ 8 (by kernel_rfl) (by kernel_rfl) (by kernel_rfl) (by kernel_rfl)) ?_
  intro W base args ds gs before hval0 hW hcnd _
  have hval : ∀ (j : Nat) t v, Try.f7.params[j]? = some t → args[j]? = some v → Value.okWide Try.prog W .any base t v := hval0
  have hW' := hW
  obtain ⟨p, q, hA0, hV, rfl, hfz, hnd⟩ := hW
  have hA : DataW.TrodAll enc Try.prog W 0 (fun _ => true) true Try.f7.params.toList args.toList ds p := hA0
  rw [Try.params7] at hA hval
  obtain ⟨v0, vs0, d0, ds0, p0, q0, hargs, rfl, rfl, h0, r0⟩ := trodAll_cons hA
  obtain ⟨v1, vs1, d1, ds1, p1, q1, rfl, rfl, rfl, h1, r1⟩ := trodAll_cons r0
  obtain ⟨v2, vs2, d2, ds2, p2, q2, rfl, rfl, rfl, h2, r2⟩ := trodAll_cons r1
  obtain ⟨rfl, rfl, rfl⟩ := trodAll_nil r2
  obtain rfl : args = #[v0, v1, v2] := by cases args; simp_all
  obtain ⟨rfl, rfl⟩ := trodVars_none hV
  obtain ⟨a0, len0, cap0, rfl⟩ := okWide_slice Try.underlying25 (hval 0 25 v0 rfl rfl)
  have k0 := h0
  have lt0 : ∀ x ∈ p0, x.block < W.heap.size := by obtain ⟨m, hm⟩ := k0; exact DataW.trod_lt m _ _ _ hm
  obtain ⟨z0, w0⟩ : ∃ zs, IsRow .u8 W a0 len0 cap0 zs := by
    obtain ⟨fuel, hf⟩ := h0
    rcases open_ints Try.underlying25 Try.underlying5 (by kernel_rfl) hf with ⟨hcs, _⟩ | ⟨x, l, c, zs, hcs, _, hl, hm, hz, _, hcell, hwz⟩
    · simp [Value.cells] at hcs
      obtain ⟨rfl, rfl, rfl⟩ := hcs
      exact ⟨[], .inl ⟨rfl, rfl, rfl, rfl⟩⟩
    · simp [Value.cells] at hcs
      obtain ⟨rfl, rfl, rfl⟩ := hcs
      exact ⟨zs, .inr ⟨_, rfl, hl, hm, by simpa using hz, hcell, hwz⟩⟩
  obtain ⟨a1, len1, cap1, rfl⟩ := okWide_slice Try.underlying25 (hval 1 25 v1 rfl rfl)
  have k1 := h1
  have lt1 : ∀ x ∈ p1, x.block < W.heap.size := by obtain ⟨m, hm⟩ := k1; exact DataW.trod_lt m _ _ _ hm
  obtain ⟨z1, w1⟩ : ∃ zs, IsRow .u8 W a1 len1 cap1 zs := by
    obtain ⟨fuel, hf⟩ := h1
    rcases open_ints Try.underlying25 Try.underlying5 (by kernel_rfl) hf with ⟨hcs, _⟩ | ⟨x, l, c, zs, hcs, _, hl, hm, hz, _, hcell, hwz⟩
    · simp [Value.cells] at hcs
      obtain ⟨rfl, rfl, rfl⟩ := hcs
      exact ⟨[], .inl ⟨rfl, rfl, rfl, rfl⟩⟩
    · simp [Value.cells] at hcs
      obtain ⟨rfl, rfl, rfl⟩ := hcs
      exact ⟨zs, .inr ⟨_, rfl, hl, hm, by simpa using hz, hcell, hwz⟩⟩
  obtain ⟨a2, len2, cap2, rfl⟩ := okWide_slice Try.underlying25 (hval 2 25 v2 rfl rfl)
  have k2 := h2
  have lt2 : ∀ x ∈ p2, x.block < W.heap.size := by obtain ⟨m, hm⟩ := k2; exact DataW.trod_lt m _ _ _ hm
  obtain ⟨z2, w2⟩ : ∃ zs, IsRow .u8 W a2 len2 cap2 zs := by
    obtain ⟨fuel, hf⟩ := h2
    rcases open_ints Try.underlying25 Try.underlying5 (by kernel_rfl) hf with ⟨hcs, _⟩ | ⟨x, l, c, zs, hcs, _, hl, hm, hz, _, hcell, hwz⟩
    · simp [Value.cells] at hcs
      obtain ⟨rfl, rfl, rfl⟩ := hcs
      exact ⟨[], .inl ⟨rfl, rfl, rfl, rfl⟩⟩
    · simp [Value.cells] at hcs
      obtain ⟨rfl, rfl, rfl⟩ := hcs
      exact ⟨zs, .inr ⟨_, rfl, hl, hm, by simpa using hz, hcell, hwz⟩⟩
  clear hA0 hval0
  refine (walk a0 len0 cap0 z0 a1 len1 cap1 z1 a2 len2 cap2 z2 W w0 w1 w2).mono fun e W' ⟨he, bel⟩ => ?_
  subst he
  exact ⟨_, rfl, _, _, _, [], _, [], hW', trodAll_mk1 (shut_bool Try.underlying4 _), (trodAll_cons_mk (Below.trod laidOut (by kernel_rfl) (of_decide_eq_true (by kernel_rfl)) k0 bel lt0) (trodAll_cons_mk (Below.trod laidOut (by kernel_rfl) (of_decide_eq_true (by kernel_rfl)) k1 bel lt1) (trodAll_cons_mk (Below.trod laidOut (by kernel_rfl) (of_decide_eq_true (by kernel_rfl)) k2 bel lt2) trodAll_mk0))), rfl, bel.frame _, fun h => by cases h⟩

theorem over : Rows.crcThreesRow.holds Try.pinned (OpenSpec.ofChange Rows.crcThreesSpec) :=
  OpenClaim.holds_of_wide 7 Try.f7 rfl rfl rfl rfl rfl rfl rfl ⟨rfl, rfl, rfl, rfl, rfl⟩ rfl rfl rfl rfl rfl (by kernel_rfl) Try.func7 (by kernel_rfl)
    (of_decide_eq_true (by kernel_rfl)) (by unfold Func.isWrapper; first | (rw [if_pos (by decide +kernel)]; kernel_rfl) | (rw [if_neg (by decide +kernel)]; exact ⟨rfl, rfl⟩))
    (fun os started H enc _ => lifted os started H enc)

/-- the statement -/
theorem proved : Rows.CrcThreesSaid := over
#print axioms proved
end Go.Proofs.Ytmdbnmigpniiaaa.crcThrees
