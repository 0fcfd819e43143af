/- CrcEnds returns true for every two texts, and writes nothing that was there; no conditions. -/
import Derived.Test.YtmdbnmigpniiaaaRows
import Derived.Test.YtmdbnmigpniiaaaRowed
import Derived.WalkKit
import Derived.ProofKit
import Derived.OpenShut
import Derived.ShutString
import Derived.ChangeOld
import Derived.Below
namespace Go.Proofs.Ytmdbnmigpniiaaa.crcEnds
open Go.ChangeShapes Go.WideShapes Go.ChangeAt Go.RowKit
open Go.ChangeMaps (open_string shut_string)
set_option linter.unusedVariables false

theorem own : ownKnob Try.prog.godebug = none := by kernel_rfl
theorem laidOut : laidOutB Try.prog = true := by kernel_rfl

/-! ### the walk -/
theorem walk (a0 : Option Addr) (len0 cap0 : Nat) (z0 : List Int) (a1 : Option Addr) (len1 cap1 : Nat) (z1 : List Int) (w : World) (w0 : IsRow .u8 w a0 len0 cap0 z0) (w1 : IsRow .u8 w a1 len1 cap1 z1) :
    Calls Try.prog 8 #[.slice a0 len0 cap0, .slice a1 len1 cap1] w fun e w' => e = .returned (.bool true) ∧ Below w.heap.size w w' := by
  obtain ⟨bs0, R0, lc0, cm0⟩ := rowBytes w0
  obtain ⟨bs1, R1, lc1, cm1⟩ := rowBytes w1
  have P0 : Part.at w w.heap.size ⟨a0, len0, cap0, bs0⟩ := ⟨R0, by show len0 ≤ _; omega⟩
  have P1 : Part.at w w.heap.size ⟨a1, len1, cap1, bs1⟩ := ⟨R1, by show len1 ≤ _; omega⟩
  clear w0 w1 R0 R1
  by_cases hlen : len0 ≤ 200 ∧ len1 ≤ 200
  · obtain ⟨h0, h1⟩ := hlen
    go_enter Try.func8, Try.ntmps8
    go_wp2_with fail
    refine (of_one ⟨a0, len0, cap0, bs0⟩ _ w.heap.size (by simp) (P0.below ((Below.refl _ _).alloc (Nat.le_refl _) _) _ (by simp)) (by simp)).mono ?_
    rintro e w2 ⟨rfl, hb2⟩
    have k2 : Below w.heap.size w w2 := ((Below.refl _ _).alloc (Nat.le_refl _) _).trans (hb2.mono (by simp))
    have q2 := k2.size
    clear hb2
    go_wp2_with fail
    refine (of_one ⟨a1, len1, cap1, bs1⟩ _ w2.heap.size (by simp) (P1.below (k2.alloc q2 _) _ (by simp; omega)) (by simp)).mono ?_
    rintro e w3 ⟨rfl, hb3⟩
    have k3 : Below w.heap.size w w3 := (k2.alloc q2 _).trans (hb3.mono (by simp; omega))
    have q3 := k3.size
    clear hb3
    obtain ⟨s, hs⟩ : ∃ s, Crc.more 0#32 bs0 = s := ⟨_, rfl⟩
    obtain ⟨t, ht⟩ : ∃ t, Crc.more 0#32 bs1 = t := ⟨_, rfl⟩
    simp only [hs, ht]
    have bds := V_bd s
    have bdt := V_bd t
    have HE := Lib.hid hs
    have HT := Lib.hid ht
    clear hs ht
    go_wp2_with fail
    refine (eV (ends_val s bs0 HE.out) _ (of_two ⟨a0, len0, cap0, bs0⟩ ⟨some ⟨w3.heap.size, 0, none⟩, 4, 4, Crc.le4 s⟩ _ (w3.heap.size + 1) ?hz1 ?hp1 ?hq1 ?hc01 ?hc11)).mono ?_
    case hz1 => simp
    case hp1 => exact P0.below ((k3.alloc q3 _).alloc (by simp; omega) _) _ (by simp; omega)
    case hq1 => exact ⟨(bytes_new w3 (Crc.le4 s) _ _ (le4_cells s) _ _ rfl rfl).below ((Below.refl _ _).alloc (Nat.le_refl _) _) _ (by simp), (by decide : 4 ≤ 9223372036854775807)⟩
    case hc01 => rw [World.cell?_alloc_at _ _ _ _ (by simp)]; rfl
    case hc11 => rw [World.cell?_alloc_at _ _ _ _ (by simp)]; rfl
    rintro e w4 ⟨rfl, hb4⟩
    have k4 : Below w.heap.size w w4 := ((k3.alloc q3 _).alloc (by simp; omega) _).trans (hb4.mono (by simp; omega))
    have q4 := k4.size
    clear hb4
    go_wp2_with fail
    refine (eV (ends_val t bs1 HT.out) _ (of_two ⟨a1, len1, cap1, bs1⟩ ⟨some ⟨w4.heap.size, 0, none⟩, 4, 4, Crc.le4 t⟩ _ (w4.heap.size + 1) ?hz2 ?hp2 ?hq2 ?hc02 ?hc12)).mono ?_
    case hz2 => simp
    case hp2 => exact P1.below ((k4.alloc q4 _).alloc (by simp; omega) _) _ (by simp; omega)
    case hq2 => exact ⟨(bytes_new w4 (Crc.le4 t) _ _ (le4_cells t) _ _ rfl rfl).below ((Below.refl _ _).alloc (Nat.le_refl _) _) _ (by simp), (by decide : 4 ≤ 9223372036854775807)⟩
    case hc02 => rw [World.cell?_alloc_at _ _ _ _ (by simp)]; rfl
    case hc12 => rw [World.cell?_alloc_at _ _ _ _ (by simp)]; rfl
    rintro e w5 ⟨rfl, hb5⟩
    have k5 : Below w.heap.size w w5 := ((k4.alloc q4 _).alloc (by simp; omega) _).trans (hb5.mono (by simp; omega))
    have q5 := k5.size
    clear hb5
    go_wp2_with fail
    refine (told_any _).mono ?_
    rintro e w6 ⟨rfl, hb6⟩
    have k6 : Below w.heap.size w w6 := k5.trans (hb6.mono q5)
    clear hb6
    go_wp2_with fail
    go_ret
    exact ⟨rfl, k6⟩
  · by_cases h0 : len0 ≤ 200
    · have h1 : ¬ len1 ≤ 200 := fun h => hlen ⟨h0, h⟩
      clear hlen
      go_enter Try.func8, Try.ntmps8
      go_wp2_with (go_at_call 11; refine (told_any _).mono ?_; rintro e w6 ⟨rfl, hb6⟩)
      go_ret
      exact ⟨rfl, hb6⟩
    · clear hlen
      go_enter Try.func8, Try.ntmps8
      go_wp2_with (go_at_call 11; refine (told_any _).mono ?_; rintro e w6 ⟨rfl, hb6⟩)
      go_ret
      exact ⟨rfl, hb6⟩

/-! ### the row's step -/
set_option maxRecDepth 100000 in
theorem lifted (os : Os) (started : os.Started) (H : Type) (enc : TypeId × Value → H) :
    ReturnsInHanded {} Try.checked os 8 .any (Rows.crcEndsSpec.pre6 enc Try.prog Try.f8 Rows.crcEndsRow.domain false) (Rows.crcEndsSpec.post enc Try.prog Try.f8 false true false false) := by
  refine returnsInHanded_of_change (C := Try.checked) own started (by kernel_rfl) Try.func8
    (ChangeSpec.witness6 (enc := enc) (C := Try.checked) false ⟨#[], #[.slice none 0 0, .slice none 0 0], []⟩ 8 (by kernel_rfl) (by kernel_rfl) (by kernel_rfl) (by kernel_rfl)) ?_
  intro W base args ds gs before hval0 hW hcnd _
  have hval : ∀ (j : Nat) t v, Try.f8.params[j]? = some t → args[j]? = some v → Value.okWide Try.prog W .any base t v := hval0
  have hW' := hW
  obtain ⟨p, q, hA0, hV, rfl, hfz, hnd⟩ := hW
  have hA : DataW.TrodAll enc Try.prog W 0 (fun _ => true) true Try.f8.params.toList args.toList ds p := hA0
  rw [Try.params8] at hA hval
  obtain ⟨v0, vs0, d0, ds0, p0, q0, hargs, rfl, rfl, h0, r0⟩ := trodAll_cons hA
  obtain ⟨v1, vs1, d1, ds1, p1, q1, rfl, rfl, rfl, h1, r1⟩ := trodAll_cons r0
  obtain ⟨rfl, rfl, rfl⟩ := trodAll_nil r1
  obtain rfl : args = #[v0, v1] := by cases args; simp_all
  obtain ⟨rfl, rfl⟩ := trodVars_none hV
  obtain ⟨a0, len0, cap0, rfl⟩ := okWide_slice Try.underlying25 (hval 0 25 v0 rfl rfl)
  have k0 := h0
  have lt0 : ∀ x ∈ p0, x.block < W.heap.size := by obtain ⟨m, hm⟩ := k0; exact DataW.trod_lt m _ _ _ hm
  obtain ⟨z0, w0⟩ : ∃ zs, IsRow .u8 W a0 len0 cap0 zs := by
    obtain ⟨fuel, hf⟩ := h0
    rcases open_ints Try.underlying25 Try.underlying5 (by kernel_rfl) hf with ⟨hcs, _⟩ | ⟨x, l, c, zs, hcs, _, hl, hm, hz, _, hcell, hwz⟩
    · simp [Value.cells] at hcs
      obtain ⟨rfl, rfl, rfl⟩ := hcs
      exact ⟨[], .inl ⟨rfl, rfl, rfl, rfl⟩⟩
    · simp [Value.cells] at hcs
      obtain ⟨rfl, rfl, rfl⟩ := hcs
      exact ⟨zs, .inr ⟨_, rfl, hl, hm, by simpa using hz, hcell, hwz⟩⟩
  obtain ⟨a1, len1, cap1, rfl⟩ := okWide_slice Try.underlying25 (hval 1 25 v1 rfl rfl)
  have k1 := h1
  have lt1 : ∀ x ∈ p1, x.block < W.heap.size := by obtain ⟨m, hm⟩ := k1; exact DataW.trod_lt m _ _ _ hm
  obtain ⟨z1, w1⟩ : ∃ zs, IsRow .u8 W a1 len1 cap1 zs := by
    obtain ⟨fuel, hf⟩ := h1
    rcases open_ints Try.underlying25 Try.underlying5 (by kernel_rfl) hf with ⟨hcs, _⟩ | ⟨x, l, c, zs, hcs, _, hl, hm, hz, _, hcell, hwz⟩
    · simp [Value.cells] at hcs
      obtain ⟨rfl, rfl, rfl⟩ := hcs
      exact ⟨[], .inl ⟨rfl, rfl, rfl, rfl⟩⟩
    · simp [Value.cells] at hcs
      obtain ⟨rfl, rfl, rfl⟩ := hcs
      exact ⟨zs, .inr ⟨_, rfl, hl, hm, by simpa using hz, hcell, hwz⟩⟩
  clear hA0 hval0
  refine (walk a0 len0 cap0 z0 a1 len1 cap1 z1 W w0 w1).mono fun e W' ⟨he, bel⟩ => ?_
  subst he
  exact ⟨_, rfl, _, _, _, [], _, [], hW', trodAll_mk1 (shut_bool Try.underlying4 _), (trodAll_cons_mk (Below.trod laidOut (by kernel_rfl) (of_decide_eq_true (by kernel_rfl)) k0 bel lt0) (trodAll_cons_mk (Below.trod laidOut (by kernel_rfl) (of_decide_eq_true (by kernel_rfl)) k1 bel lt1) trodAll_mk0)), rfl, bel.frame _, fun h => by cases h⟩

theorem over : Rows.crcEndsRow.holds Try.pinned (OpenSpec.ofChange Rows.crcEndsSpec) :=
  OpenClaim.holds_of_wide 8 Try.f8 rfl rfl rfl rfl rfl rfl rfl ⟨rfl, rfl, rfl, rfl, rfl⟩ rfl rfl rfl rfl rfl (by kernel_rfl) Try.func8 (by kernel_rfl)
    (of_decide_eq_true (by kernel_rfl)) (by unfold Func.isWrapper; first | (rw [if_pos (by decide +kernel)]; kernel_rfl) | (rw [if_neg (by decide +kernel)]; exact ⟨rfl, rfl⟩))
    (fun os started H enc _ => lifted os started H enc)

/-- the statement -/
theorem proved : Rows.CrcEndsSaid := over
#print axioms proved
end Go.Proofs.Ytmdbnmigpniiaaa.crcEnds
