/- CrcParts returns true for every text and cut, and writes nothing that was there; no conditions. -/
import Derived.Test.YtmdbnmigpniiaaaRows
import Derived.Test.YtmdbnmigpniiaaaDrawn
import Derived.WalkKit
import Derived.ProofKit
import Derived.OpenShut
import Derived.ShutString
import Derived.ChangeOld
import Derived.Below
namespace Go.Proofs.Ytmdbnmigpniiaaa.crcParts
open Go.ChangeShapes Go.WideShapes Go.ChangeAt Go.RowKit
open Go.ChangeMaps (open_string shut_string)
set_option linter.unusedVariables false

theorem own : ownKnob Try.prog.godebug = none := by kernel_rfl
theorem laidOut : laidOutB Try.prog = true := by kernel_rfl

/-! ### the walk -/
/-- the claims on the slots of the last statement -/
def Claim4 (a0 aL aH : Option Addr) (len cap k lenH capH : Nat) (x y : BitVec 32) (s : Nat) (v : Value) (w : World) : Prop :=
  match s with
  | 20 => v = .slice a0 len cap
  | 25 => v = .slice a0 len cap
  | 29 => v = .slice a0 len cap
  | 35 => v = .slice a0 len cap
  | 38 => v = .slice a0 len cap
  | 43 => v = .slice a0 len cap
  | 21 => v = .int .i64 k
  | 26 => v = .int .i64 k
  | 36 => v = .int .i64 k
  | 39 => v = .int .i64 k
  | 22 => v = .slice aL k cap
  | 37 => v = .slice aL k cap
  | 27 => v = .slice aH lenH capH
  | 40 => v = .slice aH lenH capH
  | 23 => Row1 (.slice aL k cap) v w
  | 30 => Row1 (.slice a0 len cap) v w
  | 44 => Row1 (.slice a0 len cap) v w
  | 41 => Row2 (.slice aL k cap) (.slice aH lenH capH) v w
  | 24 => v = .int .u32 (V x)
  | 28 => v = .int .u32 (V y)
  | 31 => v = .int .u32 (V y)
  | 42 => v = .int .u32 (V y)
  | 45 => v = .int .u32 (V y)
  | _ => v = .bool true
theorem Claim4.grew {a0 aL aH : Option Addr} {len cap k lenH capH : Nat} {x y : BitVec 32} (j : Nat) (v : Value) (p q : World) (g : Grew p q) (h : Claim4 a0 aL aH len cap k lenH capH x y j v p) : Claim4 a0 aL aH len cap k lenH capH x y j v q := by
  revert h
  unfold Claim4
  split <;> intro h <;> first | exact h | exact Row1.grew h g | exact Row2.grew h g

set_option maxHeartbeats 4000000 in
set_option maxRecDepth 100000 in
theorem walk (a0 : Option Addr) (len0 cap0 : Nat) (z0 : List Int) (a1 : Int) (w : World) (w0 : IsRow .u8 w a0 len0 cap0 z0) (w1 : (Lit.int .i64 a1).wf = true) :
    Calls Try.prog 5 #[.slice a0 len0 cap0, .int .i64 a1] w fun e w' => e = .returned (.bool true) ∧ Below w.heap.size w w' := by
  obtain ⟨bs0, R0, lc0, cm0⟩ := rowBytes w0
  have P0 : Part.at w w.heap.size ⟨a0, len0, cap0, bs0⟩ := ⟨R0, by show len0 ≤ _; omega⟩
  clear w0 w1
  by_cases h300 : len0 ≤ 300
  · obtain ⟨x, x0, x1, ex⟩ := umod_ex a1 ((len0 : Int) + 1) (by omega) (by omega)
    obtain ⟨k, rfl⟩ := Int.eq_ofNat_of_zero_le x0
    go_enter Try.func5, Try.ntmps5
    go_wp2_with fail
    rw [ex]
    obtain ⟨aL, hL, RL⟩ : ∃ aL, (∀ w, (Instr.slice 25 (.slice a0 len0 cap0) none (some (.int .i64 k)) none).run Try.prog w = .ok (.slice aL k cap0) w) ∧ IsBytes w w.heap.size aL k (bs0.take k) :=
      ⟨_, fun W => cut_hi a0 len0 cap0 k (by omega) W, by simpa using R0.cut 0 k (by omega) (by omega) lc0⟩
    obtain ⟨aH, hH, RH⟩ : ∃ aH, (∀ w, (Instr.slice 25 (.slice a0 len0 cap0) (some (.int .i64 k)) none none).run Try.prog w = .ok (.slice aH (len0 - k) (cap0 - k)) w) ∧ IsBytes w w.heap.size aH (len0 - k) (bs0.drop k) :=
      ⟨_, fun W => cut_lo a0 len0 cap0 k (by omega) W, by have := R0.cut k len0 (by omega) (by omega) lc0; rwa [List.take_of_length_le (by have := R0.1; omega)] at this⟩
    have PL : Part.at w w.heap.size ⟨aL, k, cap0, bs0.take k⟩ := ⟨RL, by show k ≤ _; omega⟩
    have PH : Part.at w w.heap.size ⟨aH, len0 - k, cap0 - k, bs0.drop k⟩ := ⟨RH, by show len0 - k ≤ _; omega⟩
    have ey : Crc.more (Crc.more 0#32 (bs0.take k)) (bs0.drop k) = Crc.more 0#32 bs0 := by rw [Crc.more_append, List.take_append_drop]
    refine Asserted.wp_region_planned (T := Claim4 a0 aL aH len0 cap0 k (len0 - k) (cap0 - k) (Crc.more 0#32 (bs0.take k)) (Crc.more 0#32 bs0)) (R := Grew)
      [18, 19, 20, 21, 22, 23, 24, 25, 26, 27, 28, 29, 30, 31, 32, 33, 34, 35, 36, 37, 38, 39, 40, 41, 42, 43, 44, 45, 46, 47, 4]
      [⟨[], none⟩, ⟨[18], none⟩, ⟨[19], some (19, true)⟩, ⟨[19], some (19, true)⟩, ⟨[20, 21, 19], some (19, true)⟩, ⟨[22, 19], some (19, true)⟩, ⟨[23, 19], some (19, true)⟩, ⟨[19], some (19, true)⟩, ⟨[19], some (19, true)⟩, ⟨[25, 26, 19], some (19, true)⟩, ⟨[24, 27, 19], some (19, true)⟩, ⟨[19], some (19, true)⟩, ⟨[29, 19], some (19, true)⟩, ⟨[30, 19], some (19, true)⟩, ⟨[28, 31, 19], some (19, true)⟩, ⟨[19, 32], none⟩, ⟨[33], none⟩, ⟨[34], some (34, true)⟩, ⟨[34], some (34, true)⟩, ⟨[35, 36, 34], some (34, true)⟩, ⟨[34], some (34, true)⟩, ⟨[34], some (34, true)⟩, ⟨[38, 39, 34], some (34, true)⟩, ⟨[37, 40, 34], some (34, true)⟩, ⟨[41, 34], some (34, true)⟩, ⟨[34], some (34, true)⟩, ⟨[43, 34], some (34, true)⟩, ⟨[44, 34], some (34, true)⟩, ⟨[42, 45, 34], some (34, true)⟩, ⟨[34, 46], none⟩, ⟨[47], none⟩]
      (by kernel_rfl) (Grew.refl _) Grew.trans (fun j v x y g h => Claim4.grew j v x y g h) (by kernel_rfl) (by kernel_rfl) (by kernel_rfl) ?_ ?_
    · refine ⟨?_, ?_, ?_, ?_, ?_, ?_, ?_, ?_, ?_, ?_, ?_, ?_, ?_, ?_, ?_, ?_, ?_, ?_, ?_, ?_, ?_, ?_, ?_, ?_, ?_, ?_, ?_, ?_, ?_, ?_, ?_, trivial⟩
      all_goals
        intro u w1 hg hd K hK
        simp only [Asserted.DepsS, Claim4, and_true] at hd
        simp only [Asserted.dslot, Claim4, Asserted.fillS, Act.put, List.setIfInBounds_toArray, List.set_cons_zero, List.set_cons_succ] at hK
        simp only [Asserted.fillS, List.setIfInBounds_toArray, List.set_cons_zero, List.set_cons_succ]
        try simp only [hd] at hK
        try (refine .inl ⟨by simp [hd], ?_⟩)
        go_simp
        try (with_reducible exact hK _ _ rfl (Grew.refl _))
        try (with_reducible exact hK _ _ (Row1.new _ _ _) (Grew.alloc _ _))
        try (with_reducible exact hK _ _ (Row2.new _ _ _ _) (Grew.alloc _ _))
      · refine (told_any _).mono ?_
        rintro e w2 ⟨rfl, hb⟩
        exact hK _ _ rfl hb
      · refine (of_row1 ⟨aL, k, cap0, bs0.take k⟩ _ _ _ (Nat.le_refl _) (PL.below hg.of_drew _ hg.size) hd.1).mono ?_
        rintro e w2 ⟨rfl, hb⟩
        exact hK _ _ rfl hb
      · refine (more_part _ ⟨aH, len0 - k, cap0 - k, bs0.drop k⟩ _ (PH.below hg.of_drew _ hg.size)).mono ?_
        rintro e w2 ⟨rfl, hb⟩
        exact hK _ _ (by rw [ey]) hb
      · refine (of_row1 ⟨a0, len0, cap0, bs0⟩ _ _ _ (Nat.le_refl _) (P0.below hg.of_drew _ hg.size) hd.1).mono ?_
        rintro e w2 ⟨rfl, hb⟩
        exact hK _ _ rfl hb
      · refine (of_row2 ⟨aL, k, cap0, bs0.take k⟩ ⟨aH, len0 - k, cap0 - k, bs0.drop k⟩ _ _ _ (Nat.le_refl _) (PL.below hg.of_drew _ hg.size) (PH.below hg.of_drew _ hg.size) hd.1).mono ?_
        rintro e w2 ⟨rfl, hb⟩
        exact hK _ _ (by rw [ey]) hb
      · refine (of_row1 ⟨a0, len0, cap0, bs0⟩ _ _ _ (Nat.le_refl _) (P0.below hg.of_drew _ hg.size) hd.1).mono ?_
        rintro e w2 ⟨rfl, hb⟩
        exact hK _ _ rfl hb
    · intro u w1 hg hd
      simp only [Asserted.DepsS, Claim4, and_true] at hd
      have h4 : u 4 = .bool true := hd.2.2.2.2.2.2.2.2.2.2.2.2.2.2.2.2.2.2.2.2.2.2.2.2.2.2.2.2.2.2
      clear hd
      simp only [Asserted.fillS, List.setIfInBounds_toArray, List.set_cons_zero, List.set_cons_succ, h4]
      go_wp2
      go_ret
      exact ⟨rfl, hg.of_drew⟩
  · go_enter Try.func5, Try.ntmps5
    go_wp2_with (go_at_call 11; refine (told_any _).mono ?_; rintro e w6 ⟨rfl, hb6⟩)
    go_ret
    exact ⟨rfl, hb6⟩

/-! ### the row's step -/
set_option maxRecDepth 100000 in
theorem lifted (os : Os) (started : os.Started) (H : Type) (enc : TypeId × Value → H) :
    ReturnsInHanded {} Try.checked os 5 .any (Rows.crcPartsSpec.pre6 enc Try.prog Try.f5 Rows.crcPartsRow.domain false) (Rows.crcPartsSpec.post enc Try.prog Try.f5 false true false false) := by
  refine returnsInHanded_of_change (C := Try.checked) own started (by kernel_rfl) Try.func5
    (ChangeSpec.witness6 (enc := enc) (C := Try.checked) false ⟨#[], #[.slice none 0 0, .int .i64 0], []⟩ 8 (by kernel_rfl) (by kernel_rfl) (by kernel_rfl) (by kernel_rfl)) ?_
  intro W base args ds gs before hval0 hW hcnd _
  have hval : ∀ (j : Nat) t v, Try.f5.params[j]? = some t → args[j]? = some v → Value.okWide Try.prog W .any base t v := hval0
  have hW' := hW
  obtain ⟨p, q, hA0, hV, rfl, hfz, hnd⟩ := hW
  have hA : DataW.TrodAll enc Try.prog W 0 (fun _ => true) true Try.f5.params.toList args.toList ds p := hA0
  rw [Try.params5] at hA hval
  obtain ⟨v0, vs0, d0, ds0, p0, q0, hargs, rfl, rfl, h0, r0⟩ := trodAll_cons hA
  obtain ⟨v1, vs1, d1, ds1, p1, q1, rfl, rfl, rfl, h1, r1⟩ := trodAll_cons r0
  obtain ⟨rfl, rfl, rfl⟩ := trodAll_nil r1
  obtain rfl : args = #[v0, v1] := by cases args; simp_all
  obtain ⟨rfl, rfl⟩ := trodVars_none hV
  obtain ⟨a0, len0, cap0, rfl⟩ := okWide_slice Try.underlying25 (hval 0 25 v0 rfl rfl)
  have k0 := h0
  have lt0 : ∀ x ∈ p0, x.block < W.heap.size := by obtain ⟨m, hm⟩ := k0; exact DataW.trod_lt m _ _ _ hm
  obtain ⟨z0, w0⟩ : ∃ zs, IsRow .u8 W a0 len0 cap0 zs := by
    obtain ⟨fuel, hf⟩ := h0
    rcases open_ints Try.underlying25 Try.underlying5 (by kernel_rfl) hf with ⟨hcs, _⟩ | ⟨x, l, c, zs, hcs, _, hl, hm, hz, _, hcell, hwz⟩
    · simp [Value.cells] at hcs
      obtain ⟨rfl, rfl, rfl⟩ := hcs
      exact ⟨[], .inl ⟨rfl, rfl, rfl, rfl⟩⟩
    · simp [Value.cells] at hcs
      obtain ⟨rfl, rfl, rfl⟩ := hcs
      exact ⟨zs, .inr ⟨_, rfl, hl, hm, by simpa using hz, hcell, hwz⟩⟩
  obtain ⟨a1, rfl, rfl, rfl, w1⟩ := open_int Try.underlying3 (hval 1 3 v1 rfl rfl) h1
  clear hA0 hval0
  refine (walk a0 len0 cap0 z0 a1 W w0 w1).mono fun e W' ⟨he, bel⟩ => ?_
  subst he
  exact ⟨_, rfl, _, _, _, [], _, [], hW', trodAll_mk1 (shut_bool Try.underlying4 _), (trodAll_cons_mk (Below.trod laidOut (by kernel_rfl) (of_decide_eq_true (by kernel_rfl)) k0 bel lt0) (trodAll_cons_mk (shut_int Try.underlying3 w1) trodAll_mk0)), rfl, bel.frame _, fun h => by cases h⟩

theorem over : Rows.crcPartsRow.holds Try.pinned (OpenSpec.ofChange Rows.crcPartsSpec) :=
  OpenClaim.holds_of_wide 5 Try.f5 rfl rfl rfl rfl rfl rfl rfl ⟨rfl, rfl, rfl, rfl, rfl⟩ rfl rfl rfl rfl rfl (by kernel_rfl) Try.func5 (by kernel_rfl)
    (of_decide_eq_true (by kernel_rfl)) (by unfold Func.isWrapper; first | (rw [if_pos (by decide +kernel)]; kernel_rfl) | (rw [if_neg (by decide +kernel)]; exact ⟨rfl, rfl⟩))
    (fun os started H enc _ => lifted os started H enc)

/-- the statement -/
theorem proved : Rows.CrcPartsSaid := over
#print axioms proved
end Go.Proofs.Ytmdbnmigpniiaaa.crcParts
