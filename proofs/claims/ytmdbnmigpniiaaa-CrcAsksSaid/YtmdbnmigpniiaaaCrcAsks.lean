/- CrcAsks returns true for every beginning, bit and two texts, and writes nothing that was there; no conditions. -/
import Derived.Test.YtmdbnmigpniiaaaRows
import Derived.Test.YtmdbnmigpniiaaaRef
import Derived.WalkKit
import Derived.ProofKit
import Derived.OpenShut
import Derived.ShutString
import Derived.ChangeOld
import Derived.Below
namespace Go.Proofs.Ytmdbnmigpniiaaa.crcAsks
open Go.ChangeShapes Go.WideShapes Go.ChangeAt Go.RowKit
open Go.ChangeMaps (open_string shut_string)
set_option linter.unusedVariables false

theorem own : ownKnob Try.prog.godebug = none := by kernel_rfl
theorem laidOut : laidOutB Try.prog = true := by kernel_rfl

/-! ### the walk -/
/-- the claims on the slots of a statement that draws its order -/
def Claim3 (r0 : BitVec 32) (bit : Bool) (a2 a3 : Option Addr) (len2 cap2 len3 cap3 : Nat) (x y : List (BitVec 8)) (s : Nat) (v : Value) (w : World) : Prop :=
  match s with
  | 20 => v = .int .u32 (V r0)
  | 23 => v = .int .u32 (V r0)
  | 29 => v = .int .u32 (V r0)
  | 32 => v = .int .u32 (V r0)
  | 21 => v = .bool bit
  | 24 => v = .bool bit
  | 22 => v = .int .u32 (V (Crc.step r0 bit))
  | 25 => v = .int .u32 (V (Crc.step r0 bit))
  | 30 => v = .slice a2 len2 cap2
  | 33 => v = .slice a2 len2 cap2
  | 39 => v = .slice a2 len2 cap2
  | 43 => v = .slice a2 len2 cap2
  | 40 => v = .slice a3 len3 cap3
  | 45 => v = .slice a3 len3 cap3
  | 31 => v = .int .u32 (V (Crc.more r0 x))
  | 35 => v = .int .u32 (V (Crc.more r0 x))
  | 34 => v = .string (S x)
  | 44 => v = .string (S x)
  | 46 => v = .string (S y)
  | 47 => v = .string (S (x ++ y))
  | 41 => Row2 (.slice a2 len2 cap2) (.slice a3 len3 cap3) v w
  | 42 => v = .int .u32 (V (Crc.more 0#32 (x ++ y)))
  | 48 => v = .int .u32 (V (Crc.more 0#32 (x ++ y)))
  | _ => v = .bool true
theorem Claim3.grew {r0 : BitVec 32} {bit : Bool} {a2 a3 : Option Addr} {len2 cap2 len3 cap3 : Nat} {x y : List (BitVec 8)} (j : Nat) (v : Value) (p q : World) (g : Grew p q) (h : Claim3 r0 bit a2 a3 len2 cap2 len3 cap3 x y j v p) : Claim3 r0 bit a2 a3 len2 cap2 len3 cap3 x y j v q := by
  revert h
  unfold Claim3
  split <;> intro h <;> first | exact h | exact Row1.grew h g | exact Row2.grew h g

theorem S_conv {w : World} {B : Nat} {A : Option Addr} {len : Nat} {bs : List (BitVec 8)} (cap : Nat) (h : IsBytes w B A len bs) : (convert 25 9 (.slice A len cap)).run Try.prog w = .ok (.string (S bs)) w := by
  obtain ⟨hl, hc⟩ := h
  rcases Nat.eq_zero_or_pos len with h0 | h0
  · subst h0
    have hbs : bs = [] := List.eq_nil_of_length_eq_zero hl
    subst hbs
    cases A with
    | none => exact run_convert_bytes_nil (P := Try.prog) w 25 5 Try.underlying25 Try.underlying5 0 cap 9 Try.underlying9
    | some x =>
      rw [run_convert_bytes_string w 25 9 5 _ 0 cap Try.underlying25 Try.underlying5 Try.underlying9, run_bytesToString w x 0 cap [] (by simp [loadCells, loadCellsFrom])]
      rfl
  · obtain ⟨b, off, rfl, hb, hcell⟩ := hc h0
    rw [run_convert_bytes_arg (P := Try.prog) w 25 5 Try.underlying25 Try.underlying5 b off len cap (bs.map W) (by simpa using hl) (fun i hi => by
      rw [hcell i _ (List.getElem?_eq_getElem (by omega))]
      simp [List.getD_eq_getElem?_getD, List.getElem?_eq_getElem (show i < bs.length by omega)]) 9 Try.underlying9]
    congr 2
    unfold strOfNums S
    congr 2
    rw [List.map_map]
    apply List.map_congr_left
    intro c _
    unfold W
    simp only [Function.comp_apply, Int.toNat_natCast]
    apply UInt8.toNat_inj.1
    simp
theorem S_append (x y : List (BitVec 8)) : S x ++ S y = S (x ++ y) := by
  apply ByteArray.ext
  simp [S]

set_option maxHeartbeats 4000000 in
set_option maxRecDepth 100000 in
theorem walk (a0 : Int) (a1 : Bool) (a2 : Option Addr) (len2 cap2 : Nat) (z2 : List Int) (a3 : Option Addr) (len3 cap3 : Nat) (z3 : List Int) (w : World) (w0 : (Lit.int .u32 a0).wf = true) (w2 : IsRow .u8 w a2 len2 cap2 z2) (w3 : IsRow .u8 w a3 len3 cap3 z3) :
    Calls Try.prog 4 #[.int .u32 a0, .bool a1, .slice a2 len2 cap2, .slice a3 len3 cap3] w fun e w' => e = .returned (.bool true) ∧ Below w.heap.size w w' := by
  obtain ⟨s, rfl⟩ := V_ex w0
  obtain ⟨x, R2, lc2, cm2⟩ := rowBytes w2
  obtain ⟨y, R3, lc3, cm3⟩ := rowBytes w3
  have P2 : Part.at w w.heap.size ⟨a2, len2, cap2, x⟩ := ⟨R2, by show len2 ≤ _; omega⟩
  have P3 : Part.at w w.heap.size ⟨a3, len3, cap3, y⟩ := ⟨R3, by show len3 ≤ _; omega⟩
  clear w0 w2 w3
  by_cases hlen : len2 ≤ 200 ∧ len3 ≤ 200
  · obtain ⟨h2, h3⟩ := hlen
    have lx := R2.1
    have ly := R3.1
    have LX := Lib.hid (show x.length ≤ 100000 by omega)
    have LXY := Lib.hid (show (x ++ y).length ≤ 100000 by simp; omega)
    have hz : (S x).size ≤ 200 := by rw [S_size]; omega
    have hz2 : (S y).size ≤ 200 := by rw [S_size]; omega
    have sap := S_append x y
    have hlim : ¬ (9223372036854775807 < (S x).size + (S y).size) := by omega
    clear lx ly
    go_enter Try.func4, Try.ntmps4
    go_wp2_with fail
    refine Asserted.wp_region_planned (T := Claim3 s a1 a2 a3 len2 cap2 len3 cap3 x y) (R := Grew)
      [18, 19, 20, 21, 22, 23, 24, 25, 26, 27, 28, 29, 30, 31, 32, 33, 34, 35, 36, 37, 38, 39, 40, 41, 42, 43, 44, 45, 46, 47, 48, 49, 50, 8]
      [⟨[], none⟩, ⟨[18], none⟩, ⟨[19], some (19, true)⟩, ⟨[19], some (19, true)⟩, ⟨[20, 21, 19], some (19, true)⟩, ⟨[19], some (19, true)⟩, ⟨[19], some (19, true)⟩, ⟨[23, 24, 19], some (19, true)⟩, ⟨[22, 25, 19], some (19, true)⟩, ⟨[19, 26], none⟩, ⟨[27], none⟩, ⟨[28], some (28, true)⟩, ⟨[28], some (28, true)⟩, ⟨[29, 30, 28], some (28, true)⟩, ⟨[28], some (28, true)⟩, ⟨[28], some (28, true)⟩, ⟨[33, 28], some (28, true)⟩, ⟨[32, 34, 28], some (28, true)⟩, ⟨[31, 35, 28], some (28, true)⟩, ⟨[28, 36], none⟩, ⟨[37], none⟩, ⟨[38], some (38, true)⟩, ⟨[38], some (38, true)⟩, ⟨[39, 40, 38], some (38, true)⟩, ⟨[41, 38], some (38, true)⟩, ⟨[38], some (38, true)⟩, ⟨[43, 38], some (38, true)⟩, ⟨[38], some (38, true)⟩, ⟨[45, 38], some (38, true)⟩, ⟨[44, 46, 38], some (38, true)⟩, ⟨[47, 38], some (38, true)⟩, ⟨[42, 48, 38], some (38, true)⟩, ⟨[38, 49], none⟩, ⟨[50], none⟩]
      (by kernel_rfl) (Grew.refl _) Grew.trans (fun j v x y g h => Claim3.grew j v x y g h) (by kernel_rfl) (by kernel_rfl) (by kernel_rfl) ?_ ?_
    · refine ⟨?_, ?_, ?_, ?_, ?_, ?_, ?_, ?_, ?_, ?_, ?_, ?_, ?_, ?_, ?_, ?_, ?_, ?_, ?_, ?_, ?_, ?_, ?_, ?_, ?_, ?_, ?_, ?_, ?_, ?_, ?_, ?_, ?_, ?_, trivial⟩
      all_goals
        intro u w1 hg hd K hK
        simp only [Asserted.DepsS, Claim3, and_true] at hd
        simp only [Asserted.dslot, Claim3, Asserted.fillS, Act.put, List.setIfInBounds_toArray, List.set_cons_zero, List.set_cons_succ] at hK
        simp only [Asserted.fillS, List.setIfInBounds_toArray, List.set_cons_zero, List.set_cons_succ]
        have c2 := S_conv cap2 (R2.below hg.of_drew _ (Nat.le_refl _)) 
        have c3 := S_conv cap3 (R3.below hg.of_drew _ (Nat.le_refl _))
        try simp only [hd] at hK
        try (refine .inl ⟨by simp [hd], ?_⟩)
        go_simp
        try (with_reducible exact hK _ _ rfl (Grew.refl _))
        try (with_reducible exact hK _ _ (Row1.new _ _ _) (Grew.alloc _ _))
        try (with_reducible exact hK _ _ (Row2.new _ _ _ _) (Grew.alloc _ _))
      · refine (told_any _).mono ?_
        rintro e w2 ⟨rfl, hb⟩
        exact hK _ _ rfl hb
      · refine (step_core s a1 _).mono ?_
        rintro e w2 ⟨rfl, rfl⟩
        exact hK _ _ rfl (Grew.refl _)
      · refine (rstep_core s a1 _).mono ?_
        rintro e w2 ⟨rfl, rfl⟩
        exact hK _ _ rfl (Grew.refl _)
      · refine (more_part s ⟨a2, len2, cap2, x⟩ _ (P2.below hg.of_drew _ hg.size)).mono ?_
        rintro e w2 ⟨rfl, hb⟩
        exact hK _ _ rfl hb
      · refine (rmore_any s x _ LX.out).mono ?_
        rintro e w2 ⟨rfl, rfl⟩
        exact hK _ _ rfl (Grew.refl _)
      · refine (of_row2 ⟨a2, len2, cap2, x⟩ ⟨a3, len3, cap3, y⟩ _ _ _ (Nat.le_refl _) (P2.below hg.of_drew _ hg.size) (P3.below hg.of_drew _ hg.size) hd.1).mono ?_
        rintro e w2 ⟨rfl, hb⟩
        exact hK _ _ (by rw [Crc.more_append]) hb
      · refine (rmore_any 0#32 (x ++ y) _ LXY.out).mono ?_
        rintro e w2 ⟨rfl, rfl⟩
        exact hK _ _ rfl (Grew.refl _)
    · intro u w1 hg hd
      simp only [Asserted.DepsS, Claim3, and_true] at hd
      have h8 : u 8 = .bool true := hd.2.2.2.2.2.2.2.2.2.2.2.2.2.2.2.2.2.2.2.2.2.2.2.2.2.2.2.2.2.2.2.2.2
      clear hd
      simp only [Asserted.fillS, List.setIfInBounds_toArray, List.set_cons_zero, List.set_cons_succ, h8]
      go_wp2
      go_ret
      exact ⟨rfl, hg.of_drew⟩
  · by_cases h2 : len2 ≤ 200
    · have h3 : ¬ len3 ≤ 200 := fun h => hlen ⟨h2, h⟩
      clear hlen
      go_enter Try.func4, Try.ntmps4
      go_wp2_with (go_at_call 11; refine (told_any _).mono ?_; rintro e w6 ⟨rfl, hb6⟩)
      go_ret
      exact ⟨rfl, hb6⟩
    · clear hlen
      go_enter Try.func4, Try.ntmps4
      go_wp2_with (go_at_call 11; refine (told_any _).mono ?_; rintro e w6 ⟨rfl, hb6⟩)
      go_ret
      exact ⟨rfl, hb6⟩

/-! ### the row's step -/
set_option maxRecDepth 100000 in
theorem lifted (os : Os) (started : os.Started) (H : Type) (enc : TypeId × Value → H) :
    ReturnsInHanded {} Try.checked os 4 .any (Rows.crcAsksSpec.pre6 enc Try.prog Try.f4 Rows.crcAsksRow.domain false) (Rows.crcAsksSpec.post enc Try.prog Try.f4 false true false false) := by
  refine returnsInHanded_of_change (C := Try.checked) own started (by kernel_rfl) Try.func4
    (ChangeSpec.witness6 (enc := enc) (C := Try.checked) false ⟨#[], #[.int .u32 0, .bool false, .slice none 0 0, .slice none 0 0], []⟩ 8 (by kernel_rfl) (by kernel_rfl) (by kernel_rfl) (by kernel_rfl)) ?_
  intro W base args ds gs before hval0 hW hcnd _
  have hval : ∀ (j : Nat) t v, Try.f4.params[j]? = some t → args[j]? = some v → Value.okWide Try.prog W .any base t v := hval0
  have hW' := hW
  obtain ⟨p, q, hA0, hV, rfl, hfz, hnd⟩ := hW
  have hA : DataW.TrodAll enc Try.prog W 0 (fun _ => true) true Try.f4.params.toList args.toList ds p := hA0
  rw [Try.params4] at hA hval
  obtain ⟨v0, vs0, d0, ds0, p0, q0, hargs, rfl, rfl, h0, r0⟩ := trodAll_cons hA
  obtain ⟨v1, vs1, d1, ds1, p1, q1, rfl, rfl, rfl, h1, r1⟩ := trodAll_cons r0
  obtain ⟨v2, vs2, d2, ds2, p2, q2, rfl, rfl, rfl, h2, r2⟩ := trodAll_cons r1
  obtain ⟨v3, vs3, d3, ds3, p3, q3, rfl, rfl, rfl, h3, r3⟩ := trodAll_cons r2
  obtain ⟨rfl, rfl, rfl⟩ := trodAll_nil r3
  obtain rfl : args = #[v0, v1, v2, v3] := by cases args; simp_all
  obtain ⟨rfl, rfl⟩ := trodVars_none hV
  obtain ⟨a0, rfl, rfl, rfl, w0⟩ := open_int Try.underlying23 (hval 0 23 v0 rfl rfl) h0
  obtain ⟨a1, rfl, rfl, rfl⟩ := open_bool Try.underlying4 (hval 1 4 v1 rfl rfl) h1
  obtain ⟨a2, len2, cap2, rfl⟩ := okWide_slice Try.underlying25 (hval 2 25 v2 rfl rfl)
  have k2 := h2
  have lt2 : ∀ x ∈ p2, x.block < W.heap.size := by obtain ⟨m, hm⟩ := k2; exact DataW.trod_lt m _ _ _ hm
  obtain ⟨z2, w2⟩ : ∃ zs, IsRow .u8 W a2 len2 cap2 zs := by
    obtain ⟨fuel, hf⟩ := h2
    rcases open_ints Try.underlying25 Try.underlying5 (by kernel_rfl) hf with ⟨hcs, _⟩ | ⟨x, l, c, zs, hcs, _, hl, hm, hz, _, hcell, hwz⟩
    · simp [Value.cells] at hcs
      obtain ⟨rfl, rfl, rfl⟩ := hcs
      exact ⟨[], .inl ⟨rfl, rfl, rfl, rfl⟩⟩
    · simp [Value.cells] at hcs
      obtain ⟨rfl, rfl, rfl⟩ := hcs
      exact ⟨zs, .inr ⟨_, rfl, hl, hm, by simpa using hz, hcell, hwz⟩⟩
  obtain ⟨a3, len3, cap3, rfl⟩ := okWide_slice Try.underlying25 (hval 3 25 v3 rfl rfl)
  have k3 := h3
  have lt3 : ∀ x ∈ p3, x.block < W.heap.size := by obtain ⟨m, hm⟩ := k3; exact DataW.trod_lt m _ _ _ hm
  obtain ⟨z3, w3⟩ : ∃ zs, IsRow .u8 W a3 len3 cap3 zs := by
    obtain ⟨fuel, hf⟩ := h3
    rcases open_ints Try.underlying25 Try.underlying5 (by kernel_rfl) hf with ⟨hcs, _⟩ | ⟨x, l, c, zs, hcs, _, hl, hm, hz, _, hcell, hwz⟩
    · simp [Value.cells] at hcs
      obtain ⟨rfl, rfl, rfl⟩ := hcs
      exact ⟨[], .inl ⟨rfl, rfl, rfl, rfl⟩⟩
    · simp [Value.cells] at hcs
      obtain ⟨rfl, rfl, rfl⟩ := hcs
      exact ⟨zs, .inr ⟨_, rfl, hl, hm, by simpa using hz, hcell, hwz⟩⟩
  clear hA0 hval0
  refine (walk a0 a1 a2 len2 cap2 z2 a3 len3 cap3 z3 W w0 w2 w3).mono fun e W' ⟨he, bel⟩ => ?_
  subst he
  exact ⟨_, rfl, _, _, _, [], _, [], hW', trodAll_mk1 (shut_bool Try.underlying4 _), (trodAll_cons_mk (shut_int Try.underlying23 w0) (trodAll_cons_mk (shut_bool Try.underlying4 _) (trodAll_cons_mk (Below.trod laidOut (by kernel_rfl) (of_decide_eq_true (by kernel_rfl)) k2 bel lt2) (trodAll_cons_mk (Below.trod laidOut (by kernel_rfl) (of_decide_eq_true (by kernel_rfl)) k3 bel lt3) trodAll_mk0)))), rfl, bel.frame _, fun h => by cases h⟩

theorem over : Rows.crcAsksRow.holds Try.pinned (OpenSpec.ofChange Rows.crcAsksSpec) :=
  OpenClaim.holds_of_wide 4 Try.f4 rfl rfl rfl rfl rfl rfl rfl ⟨rfl, rfl, rfl, rfl, rfl⟩ rfl rfl rfl rfl rfl (by kernel_rfl) Try.func4 (by kernel_rfl)
    (of_decide_eq_true (by kernel_rfl)) (by unfold Func.isWrapper; first | (rw [if_pos (by decide +kernel)]; kernel_rfl) | (rw [if_neg (by decide +kernel)]; exact ⟨rfl, rfl⟩))
    (fun os started H enc _ => lifted os started H enc)

/-- the statement -/
theorem proved : Rows.CrcAsksSaid := over
#print axioms proved
end Go.Proofs.Ytmdbnmigpniiaaa.crcAsks
