/- FibShapes returns true for every h and n, and writes nothing that was there; no conditions. -/
import Derived.Test.YtgppkapdmphfgaaRows
import Derived.Test.YtgppkapdmphfgaaTold
import Derived.WalkKit
import Derived.ProofKit
import Derived.OpenShut
namespace Go.Proofs.Ytgppkapdmphfgaa.fibShapes
open Go.ChangeShapes Go.WideShapes Go.ChangeAt Go.RowKit
set_option linter.unusedVariables false      -- a walk need not use every 'w<i>' (that an integer argument fits its kind)

theorem own : ownKnob Try.prog.godebug = none := by kernel_rfl
theorem laidOut : laidOutB Try.prog = true := by kernel_rfl

/-! ### the walk -/
theorem mays_two (s t : Sh) (r : Bool) (hr : (s.ok && t.ok) = r) (w : World) (b : Nat) (hf : s.fits) (hg : t.fits) (hb : b < w.heap.size)
    (h0 : w.cell? ⟨b, 0, none⟩ = some (.int .i64 s.L)) (h1 : w.cell? ⟨b, 1, none⟩ = some (.int .i64 s.H)) (h2 : w.cell? ⟨b, 2, none⟩ = some (.int .i64 s.V)) (h3 : w.cell? ⟨b, 3, none⟩ = some (.int .i64 s.N))
    (h4 : w.cell? ⟨b, 4, none⟩ = some (.int .i64 t.L)) (h5 : w.cell? ⟨b, 5, none⟩ = some (.int .i64 t.H)) (h6 : w.cell? ⟨b, 6, none⟩ = some (.int .i64 t.V)) (h7 : w.cell? ⟨b, 7, none⟩ = some (.int .i64 t.N)) :
    Calls Try.prog 12 #[.slice (some ⟨b, 0, none⟩) 2 2] w fun e w' => e = .returned (.bool r) ∧ Below w.heap.size w w' := by
  rw [← hr]
  have := mays_any (some ⟨b, 0, none⟩) 2 2 [s, t] w ⟨rfl, fun _ => ⟨b, 0, rfl, hb, fun i x hx => by
    match i with
    | 0 => obtain rfl : s = x := by simpa using hx
           simpa [hf] using ⟨h0, h1, h2, h3⟩
    | 1 => obtain rfl : t = x := by simpa using hx
           simpa [hg] using ⟨h4, h5, h6, h7⟩
    | i + 2 => simp at hx⟩⟩ (by omega)
  simpa using this

def At (w : World) (b : Nat) (s : Sh) : Prop :=
  b < w.heap.size ∧ w.cell? ⟨b, 0, none⟩ = some (.int .i64 s.L) ∧ w.cell? ⟨b, 1, none⟩ = some (.int .i64 s.H) ∧ w.cell? ⟨b, 2, none⟩ = some (.int .i64 s.V) ∧ w.cell? ⟨b, 3, none⟩ = some (.int .i64 s.N)
theorem At.below {w w' : World} {b : Nat} {s : Sh} (h : At w b s) (hb : Below w.heap.size w w') : At w' b s := by
  obtain ⟨h, c0, c1, c2, c3⟩ := h
  exact ⟨Nat.lt_of_lt_of_le h hb.size, (hb.cell (p := ⟨b, 0, none⟩) h).trans c0, (hb.cell (p := ⟨b, 1, none⟩) h).trans c1, (hb.cell (p := ⟨b, 2, none⟩) h).trans c2, (hb.cell (p := ⟨b, 3, none⟩) h).trans c3⟩
theorem At.alloc {w : World} {b : Nat} {s : Sh} (h : At w b s) (o : Obj) : At (w.alloc o) b s := h.below ((Below.refl _ _).alloc (Nat.le_refl _) _)
theorem At.new (w : World) (s : Sh) : At (w.alloc (.cells #[.int .i64 s.L, .int .i64 s.H, .int .i64 s.V, .int .i64 s.N] 29)) w.heap.size s := by
  simp [At]
theorem At.new' (w : World) (s : Sh) (b : Nat) (h : b = w.heap.size) : At (w.alloc (.cells #[.int .i64 s.L, .int .i64 s.H, .int .i64 s.V, .int .i64 s.N] 29)) b s := by
  rw [h]; exact At.new w s

theorem may_s (k l : Int) (k0 : 0 ≤ k) (h1 : least k = l) (h2 : l ≤ 17711) (h3 : 1 ≤ l) : Sh.ok ⟨16777216, k, l, 2 * l - 1⟩ = true := by
  have f : foursI 16777216 = 524288 := by decide +kernel
  have e1 : wrap64 (2 * l) = 2 * l := IntWalk.wrap64_in _ ⟨by omega, by omega⟩
  have e2 : wrap64 (2 * l - 1) = 2 * l - 1 := IntWalk.wrap64_in _ ⟨by omega, by omega⟩
  simp [Sh.ok, mayB, k0, h1, f, e1, e2]
  omega
theorem may_t (k l n : Int) (h1 : least k = l) : Sh.ok ⟨16777216, k, l - 1, n⟩ = false := by
  simp [Sh.ok, mayB, h1]
  omega
theorem may_u (y m : Int) (y0 : 1 ≤ y) (h1 : foursI y = m - 1) (h2 : 1 ≤ m) (h3 : m ≤ 1000000) : Sh.ok ⟨y, 0, m, 2 * m - 1⟩ = true := by
  have f : least 0 = 1 := by decide
  have e1 : wrap64 (2 * m) = 2 * m := IntWalk.wrap64_in _ ⟨by omega, by omega⟩
  have e2 : wrap64 (2 * m - 1) = 2 * m - 1 := IntWalk.wrap64_in _ ⟨by omega, by omega⟩
  simp [Sh.ok, mayB, f, h1, e1, e2, h2]
  omega
theorem may_v (y m n : Int) (y0 : 1 ≤ y) (h1 : foursI y = m - 1) : Sh.ok ⟨y, 0, m + 1, n⟩ = false := by
  have f : ¬ y ≤ 0 := by omega
  have g : ¬ m + 1 - 1 ≤ m - 1 := by omega
  simp only [Sh.ok, mayB, h1, f, g, if_false, decide_false, Bool.and_false, Bool.false_and]
theorem may_w (k l : Int) (h2 : l ≤ 17711) (h3 : 1 ≤ l) : Sh.ok ⟨16777216, k, l, 2 * l⟩ = false := by
  have e1 : wrap64 (2 * l) = 2 * l := IntWalk.wrap64_in _ ⟨by omega, by omega⟩
  have e2 : wrap64 (2 * l - 1) = 2 * l - 1 := IntWalk.wrap64_in _ ⟨by omega, by omega⟩
  simp [Sh.ok, mayB, e1, e2]
  omega
theorem least_20 (k : Int) (h : k < 21) : least k ≤ 17711 := by
  rcases Int.lt_or_le k 0 with h0 | h0
  · rw [least_neg k h0]; omega
  · rw [least_nn k h0 (by omega)]
    have := leastN_mono (show k.toNat ≤ 20 by omega)
    have e : leastN 20 = 17711 := by decide +kernel
    omega

theorem walk0 (a0 : Int) (a1 : Int) (w : World) (k : Int) (k0 : 0 ≤ k) (k1 : k < 21) (ek : wrap64 ((IntKind.u64.wrap a0).tmod 21) = k)
    (x : Int) (x0 : 0 ≤ x) (x1 : x < 1) (ex : wrap64 ((IntKind.u64.wrap a1).tmod 100000) = x) :
    Calls Try.prog 7 #[.int .i64 a0, .int .i64 a1] w fun e w' => e = .returned (.bool true) ∧ Below w.heap.size w w' := by
  have l20 := least_20 k k1
  obtain ⟨lb0, lb1, lb2⟩ := least_bd k
  have lb3 := lb2 k0
  have ml := may_s k (least k) k0 rfl l20 lb3
  have mt := may_t k (least k) (2 * least k - 3) rfl
  have mw := may_w k (least k) l20 lb3
  obtain rfl : x = 0 := by omega
  have mu : Sh.ok ⟨1, 0, 1, 1⟩ = true := may_u 1 1 (by omega) (by decide +kernel) (by omega) (by omega)
  have mv : Sh.ok ⟨1, 0, 2, 3⟩ = false := may_v 1 1 3 (by omega) (by decide +kernel)
  generalize hl : least k = l at *
  have MS := Lib.hid ml
  have MT := Lib.hid mt
  have MU := Lib.hid mu
  have MV := Lib.hid mv
  have MW := Lib.hid mw
  clear ml mt mu mv mw
  go_enter Try.func7, Try.ntmps7
  go_wp2_with (go_at_call 10; refine (least_any _ _ (by omega) (by omega)).mono ?_; rintro e w' ⟨rfl, rfl⟩)
  refine (told_any _).mono ?_
  rintro e w1 ⟨rfl, hb1⟩
  have S1 : At w1 (w.heap.size) ⟨16777216, k, l, 2 * l - 1⟩ := (((((At.new' w ⟨16777216, k, l, 2 * l - 1⟩ _ (by simp)).alloc _).alloc _).alloc _).alloc _).below hb1
  have T1 : At w1 (w.heap.size + 1) ⟨16777216, k, l - 1, 2 * l - 3⟩ := ((((At.new' (w.alloc _) ⟨16777216, k, l - 1, 2 * l - 3⟩ _ (by simp)).alloc _).alloc _).alloc _).below hb1
  have U1 : At w1 (w.heap.size + 1 + 1) ⟨1, 0, 1, 1⟩ := (((At.new' ((w.alloc _).alloc _) ⟨1, 0, 1, 1⟩ _ (by simp)).alloc _).alloc _).below hb1
  have V1 : At w1 (w.heap.size + 1 + 1 + 1) ⟨1, 0, 2, 3⟩ := ((At.new' (((w.alloc _).alloc _).alloc _) ⟨1, 0, 2, 3⟩ _ (by simp)).alloc _).below hb1
  have W1 : At w1 (w.heap.size + 1 + 1 + 1 + 1) ⟨16777216, k, l, 2 * l⟩ := (At.new' ((((w.alloc _).alloc _).alloc _).alloc _) ⟨16777216, k, l, 2 * l⟩ _ (by simp)).below hb1
  have k1 : Below w.heap.size w w1 := ((((((Below.refl _ _).alloc (by simp) _).alloc (by simp) _).alloc (by simp; omega) _).alloc (by simp; omega) _).alloc (by simp; omega) _).trans (hb1.mono (by simp; omega))
  clear hb1
  have z1 := k1.size
  obtain ⟨cS, cS0, cS1, cS2, cS3⟩ := id S1
  go_wp2_with fail
  refine (mays_one ⟨16777216, k, l, 2 * l - 1⟩ true MS.out _ w1.heap.size (by simp [Sh.fits]; try omega) (by simp) (by simp) (by simp) (by simp) (by simp)).mono ?_
  rintro e w2 ⟨rfl, hb2⟩
  clear cS cS0 cS1 cS2 cS3
  have S2 := (S1.alloc _).below hb2
  have T2 := (T1.alloc _).below hb2
  have U2 := (U1.alloc _).below hb2
  have V2 := (V1.alloc _).below hb2
  have W2 := (W1.alloc _).below hb2
  have k2 : Below w.heap.size w w2 := (k1.alloc z1 _).trans (hb2.mono (by simp; omega))
  have z2 := k2.size
  obtain ⟨cT, cT0, cT1, cT2, cT3⟩ := id T2
  go_wp2_with fail
  refine (mays_one ⟨16777216, k, l - 1, 2 * l - 3⟩ false MT.out _ w2.heap.size (by simp [Sh.fits]; try omega) (by simp) (by simp) (by simp) (by simp) (by simp)).mono ?_
  rintro e w3 ⟨rfl, hb3⟩
  clear cT cT0 cT1 cT2 cT3
  have S3 := (S2.alloc _).below hb3
  have T3 := (T2.alloc _).below hb3
  have U3 := (U2.alloc _).below hb3
  have V3 := (V2.alloc _).below hb3
  have W3 := (W2.alloc _).below hb3
  have k3 : Below w.heap.size w w3 := (k2.alloc z2 _).trans (hb3.mono (by simp; omega))
  have z3 := k3.size
  obtain ⟨cU, cU0, cU1, cU2, cU3⟩ := id U3
  go_wp2_with fail
  refine (mays_one ⟨1, 0, 1, 1⟩ true MU.out _ w3.heap.size (by simp [Sh.fits]; try omega) (by simp) (by simp) (by simp) (by simp) (by simp)).mono ?_
  rintro e w4 ⟨rfl, hb4⟩
  clear cU cU0 cU1 cU2 cU3
  have S4 := (S3.alloc _).below hb4
  have T4 := (T3.alloc _).below hb4
  have U4 := (U3.alloc _).below hb4
  have V4 := (V3.alloc _).below hb4
  have W4 := (W3.alloc _).below hb4
  have k4 : Below w.heap.size w w4 := (k3.alloc z3 _).trans (hb4.mono (by simp; omega))
  have z4 := k4.size
  obtain ⟨cV, cV0, cV1, cV2, cV3⟩ := id V4
  go_wp2_with fail
  refine (mays_one ⟨1, 0, 2, 3⟩ false MV.out _ w4.heap.size (by simp [Sh.fits]; try omega) (by simp) (by simp) (by simp) (by simp) (by simp)).mono ?_
  rintro e w5 ⟨rfl, hb5⟩
  clear cV cV0 cV1 cV2 cV3
  have S5 := (S4.alloc _).below hb5
  have T5 := (T4.alloc _).below hb5
  have U5 := (U4.alloc _).below hb5
  have W5 := (W4.alloc _).below hb5
  have k5 : Below w.heap.size w w5 := (k4.alloc z4 _).trans (hb5.mono (by simp; omega))
  have z5 := k5.size
  obtain ⟨cW, cW0, cW1, cW2, cW3⟩ := id W5
  go_wp2_with fail
  refine (mays_one ⟨16777216, k, l, 2 * l⟩ false MW.out _ w5.heap.size (by simp [Sh.fits]; try omega) (by simp) (by simp) (by simp) (by simp) (by simp)).mono ?_
  rintro e w6 ⟨rfl, hb6⟩
  clear cW cW0 cW1 cW2 cW3
  have S6 := (S5.alloc _).below hb6
  have T6 := (T5.alloc _).below hb6
  have U6 := (U5.alloc _).below hb6
  have k6 : Below w.heap.size w w6 := (k5.alloc z5 _).trans (hb6.mono (by simp; omega))
  have z6 := k6.size
  obtain ⟨cS, cS0, cS1, cS2, cS3⟩ := id S6
  obtain ⟨cT, cT0, cT1, cT2, cT3⟩ := id T6
  go_wp2_with fail
  refine (mays_two ⟨16777216, k, l, 2 * l - 1⟩ ⟨16777216, k, l - 1, 2 * l - 3⟩ false (by rw [MS.out, MT.out]; rfl) _ w6.heap.size (by simp [Sh.fits]; try omega) (by simp [Sh.fits]; try omega) (by simp) (by simp) (by simp) (by simp) (by simp) (by simp) (by simp) (by simp) (by simp)).mono ?_
  rintro e w7 ⟨rfl, hb7⟩
  clear cS cS0 cS1 cS2 cS3
  clear cT cT0 cT1 cT2 cT3
  have S7 := (S6.alloc _).below hb7
  have U7 := (U6.alloc _).below hb7
  have k7 : Below w.heap.size w w7 := (k6.alloc z6 _).trans (hb7.mono (by simp; omega))
  have z7 := k7.size
  obtain ⟨cS, cS0, cS1, cS2, cS3⟩ := id S7
  obtain ⟨cU, cU0, cU1, cU2, cU3⟩ := id U7
  go_wp2_with fail
  refine (mays_two ⟨16777216, k, l, 2 * l - 1⟩ ⟨1, 0, 1, 1⟩ true (by rw [MS.out, MU.out]; rfl) _ w7.heap.size (by simp [Sh.fits]; try omega) (by simp [Sh.fits]; try omega) (by simp) (by simp) (by simp) (by simp) (by simp) (by simp) (by simp) (by simp) (by simp)).mono ?_
  rintro e w8 ⟨rfl, hb8⟩
  clear cS cS0 cS1 cS2 cS3
  clear cU cU0 cU1 cU2 cU3
  have k8 : Below w.heap.size w w8 := (k7.alloc z7 _).trans (hb8.mono (by simp; omega))
  clear hb2 hb3 hb4 hb5 hb6 hb7 hb8
  go_wp2_with fail
  go_ret
  exact ⟨rfl, k8⟩

theorem walk1 (a0 : Int) (a1 : Int) (w : World) (k : Int) (k0 : 0 ≤ k) (k1 : k < 21) (ek : wrap64 ((IntKind.u64.wrap a0).tmod 21) = k)
    (x : Int) (x0 : 1 ≤ x) (x1 : x < 100000) (ex : wrap64 ((IntKind.u64.wrap a1).tmod 100000) = x) :
    Calls Try.prog 7 #[.int .i64 a0, .int .i64 a1] w fun e w' => e = .returned (.bool true) ∧ Below w.heap.size w w' := by
  have l20 := least_20 k k1
  obtain ⟨lb0, lb1, lb2⟩ := least_bd k
  have lb3 := lb2 k0
  have ml := may_s k (least k) k0 rfl l20 lb3
  have mt := may_t k (least k) (2 * least k - 3) rfl
  have mw := may_w k (least k) l20 lb3
  have hfo : foursI x = (4 * x / 128 + 1) - 1 := by unfold foursI; omega
  have mu := may_u x (4 * x / 128 + 1) x0 hfo (by omega) (by omega)
  have mv := may_v x (4 * x / 128 + 1) (2 * (4 * x / 128 + 1) + 1) x0 hfo
  clear hfo
  generalize hl : least k = l at *
  generalize hmm : 4 * x / 128 + 1 = m at *
  have MS := Lib.hid ml
  have MT := Lib.hid mt
  have MU := Lib.hid mu
  have MV := Lib.hid mv
  have MW := Lib.hid mw
  clear ml mt mu mv mw
  go_enter Try.func7, Try.ntmps7
  go_wp2_with (go_at_call 10; refine (least_any _ _ (by omega) (by omega)).mono ?_; rintro e w' ⟨rfl, rfl⟩)
  refine (told_any _).mono ?_
  rintro e w1 ⟨rfl, hb1⟩
  have S1 : At w1 (w.heap.size) ⟨16777216, k, l, 2 * l - 1⟩ := (((((At.new' w ⟨16777216, k, l, 2 * l - 1⟩ _ (by simp)).alloc _).alloc _).alloc _).alloc _).below hb1
  have T1 : At w1 (w.heap.size + 1) ⟨16777216, k, l - 1, 2 * l - 3⟩ := ((((At.new' (w.alloc _) ⟨16777216, k, l - 1, 2 * l - 3⟩ _ (by simp)).alloc _).alloc _).alloc _).below hb1
  have U1 : At w1 (w.heap.size + 1 + 1) ⟨x, 0, m, 2 * m - 1⟩ := (((At.new' ((w.alloc _).alloc _) ⟨x, 0, m, 2 * m - 1⟩ _ (by simp)).alloc _).alloc _).below hb1
  have V1 : At w1 (w.heap.size + 1 + 1 + 1) ⟨x, 0, m + 1, 2 * m + 1⟩ := ((At.new' (((w.alloc _).alloc _).alloc _) ⟨x, 0, m + 1, 2 * m + 1⟩ _ (by simp)).alloc _).below hb1
  have W1 : At w1 (w.heap.size + 1 + 1 + 1 + 1) ⟨16777216, k, l, 2 * l⟩ := (At.new' ((((w.alloc _).alloc _).alloc _).alloc _) ⟨16777216, k, l, 2 * l⟩ _ (by simp)).below hb1
  have k1 : Below w.heap.size w w1 := ((((((Below.refl _ _).alloc (by simp) _).alloc (by simp) _).alloc (by simp; omega) _).alloc (by simp; omega) _).alloc (by simp; omega) _).trans (hb1.mono (by simp; omega))
  clear hb1
  have z1 := k1.size
  obtain ⟨cS, cS0, cS1, cS2, cS3⟩ := id S1
  go_wp2_with fail
  refine (mays_one ⟨16777216, k, l, 2 * l - 1⟩ true MS.out _ w1.heap.size (by simp [Sh.fits]; try omega) (by simp) (by simp) (by simp) (by simp) (by simp)).mono ?_
  rintro e w2 ⟨rfl, hb2⟩
  clear cS cS0 cS1 cS2 cS3
  have S2 := (S1.alloc _).below hb2
  have T2 := (T1.alloc _).below hb2
  have U2 := (U1.alloc _).below hb2
  have V2 := (V1.alloc _).below hb2
  have W2 := (W1.alloc _).below hb2
  have k2 : Below w.heap.size w w2 := (k1.alloc z1 _).trans (hb2.mono (by simp; omega))
  have z2 := k2.size
  obtain ⟨cT, cT0, cT1, cT2, cT3⟩ := id T2
  go_wp2_with fail
  refine (mays_one ⟨16777216, k, l - 1, 2 * l - 3⟩ false MT.out _ w2.heap.size (by simp [Sh.fits]; try omega) (by simp) (by simp) (by simp) (by simp) (by simp)).mono ?_
  rintro e w3 ⟨rfl, hb3⟩
  clear cT cT0 cT1 cT2 cT3
  have S3 := (S2.alloc _).below hb3
  have T3 := (T2.alloc _).below hb3
  have U3 := (U2.alloc _).below hb3
  have V3 := (V2.alloc _).below hb3
  have W3 := (W2.alloc _).below hb3
  have k3 : Below w.heap.size w w3 := (k2.alloc z2 _).trans (hb3.mono (by simp; omega))
  have z3 := k3.size
  obtain ⟨cU, cU0, cU1, cU2, cU3⟩ := id U3
  go_wp2_with fail
  refine (mays_one ⟨x, 0, m, 2 * m - 1⟩ true MU.out _ w3.heap.size (by simp [Sh.fits]; try omega) (by simp) (by simp) (by simp) (by simp) (by simp)).mono ?_
  rintro e w4 ⟨rfl, hb4⟩
  clear cU cU0 cU1 cU2 cU3
  have S4 := (S3.alloc _).below hb4
  have T4 := (T3.alloc _).below hb4
  have U4 := (U3.alloc _).below hb4
  have V4 := (V3.alloc _).below hb4
  have W4 := (W3.alloc _).below hb4
  have k4 : Below w.heap.size w w4 := (k3.alloc z3 _).trans (hb4.mono (by simp; omega))
  have z4 := k4.size
  obtain ⟨cV, cV0, cV1, cV2, cV3⟩ := id V4
  go_wp2_with fail
  refine (mays_one ⟨x, 0, m + 1, 2 * m + 1⟩ false MV.out _ w4.heap.size (by simp [Sh.fits]; try omega) (by simp) (by simp) (by simp) (by simp) (by simp)).mono ?_
  rintro e w5 ⟨rfl, hb5⟩
  clear cV cV0 cV1 cV2 cV3
  have S5 := (S4.alloc _).below hb5
  have T5 := (T4.alloc _).below hb5
  have U5 := (U4.alloc _).below hb5
  have W5 := (W4.alloc _).below hb5
  have k5 : Below w.heap.size w w5 := (k4.alloc z4 _).trans (hb5.mono (by simp; omega))
  have z5 := k5.size
  obtain ⟨cW, cW0, cW1, cW2, cW3⟩ := id W5
  go_wp2_with fail
  refine (mays_one ⟨16777216, k, l, 2 * l⟩ false MW.out _ w5.heap.size (by simp [Sh.fits]; try omega) (by simp) (by simp) (by simp) (by simp) (by simp)).mono ?_
  rintro e w6 ⟨rfl, hb6⟩
  clear cW cW0 cW1 cW2 cW3
  have S6 := (S5.alloc _).below hb6
  have T6 := (T5.alloc _).below hb6
  have U6 := (U5.alloc _).below hb6
  have k6 : Below w.heap.size w w6 := (k5.alloc z5 _).trans (hb6.mono (by simp; omega))
  have z6 := k6.size
  obtain ⟨cS, cS0, cS1, cS2, cS3⟩ := id S6
  obtain ⟨cT, cT0, cT1, cT2, cT3⟩ := id T6
  go_wp2_with fail
  refine (mays_two ⟨16777216, k, l, 2 * l - 1⟩ ⟨16777216, k, l - 1, 2 * l - 3⟩ false (by rw [MS.out, MT.out]; rfl) _ w6.heap.size (by simp [Sh.fits]; try omega) (by simp [Sh.fits]; try omega) (by simp) (by simp) (by simp) (by simp) (by simp) (by simp) (by simp) (by simp) (by simp)).mono ?_
  rintro e w7 ⟨rfl, hb7⟩
  clear cS cS0 cS1 cS2 cS3
  clear cT cT0 cT1 cT2 cT3
  have S7 := (S6.alloc _).below hb7
  have U7 := (U6.alloc _).below hb7
  have k7 : Below w.heap.size w w7 := (k6.alloc z6 _).trans (hb7.mono (by simp; omega))
  have z7 := k7.size
  obtain ⟨cS, cS0, cS1, cS2, cS3⟩ := id S7
  obtain ⟨cU, cU0, cU1, cU2, cU3⟩ := id U7
  go_wp2_with fail
  refine (mays_two ⟨16777216, k, l, 2 * l - 1⟩ ⟨x, 0, m, 2 * m - 1⟩ true (by rw [MS.out, MU.out]; rfl) _ w7.heap.size (by simp [Sh.fits]; try omega) (by simp [Sh.fits]; try omega) (by simp) (by simp) (by simp) (by simp) (by simp) (by simp) (by simp) (by simp) (by simp)).mono ?_
  rintro e w8 ⟨rfl, hb8⟩
  clear cS cS0 cS1 cS2 cS3
  clear cU cU0 cU1 cU2 cU3
  have k8 : Below w.heap.size w w8 := (k7.alloc z7 _).trans (hb8.mono (by simp; omega))
  clear hb2 hb3 hb4 hb5 hb6 hb7 hb8
  go_wp2_with fail
  go_ret
  exact ⟨rfl, k8⟩

theorem walk (a0 : Int) (a1 : Int) (w0 : (Lit.int .i64 a0).wf = true) (w1 : (Lit.int .i64 a1).wf = true) (w : World) :
    Calls Try.prog 7 #[.int .i64 a0, .int .i64 a1] w fun e w' => e = .returned (.bool true) ∧ Below w.heap.size w w' := by
  obtain ⟨k, k0, k1, ek⟩ := umod_ex a0 21 (by omega) (by omega)
  obtain ⟨x, x0, x1, ex⟩ := umod_ex a1 100000 (by omega) (by omega)
  by_cases h : x < 1
  · exact walk0 a0 a1 w k k0 k1 ek x x0 h ex
  · exact walk1 a0 a1 w k k0 k1 ek x (by omega) x1 ex

/-! ### the row's step -/
set_option maxRecDepth 100000 in
theorem lifted (os : Os) (started : os.Started) (H : Type) (enc : TypeId × Value → H) :
    ReturnsInHanded {} Try.checked os 7 .any (Rows.fibShapesSpec.pre6 enc Try.prog Try.f7 Rows.fibShapesRow.domain false) (Rows.fibShapesSpec.post enc Try.prog Try.f7 false true false false) := by
  refine returnsInHanded_of_change (C := Try.checked) own started (by kernel_rfl) Try.func7
    (ChangeSpec.witness6 (enc := enc) (C := Try.checked) false ⟨#[], #[.int .i64 0, .int .i64 0], []⟩ 8 (by kernel_rfl) (by kernel_rfl) (by kernel_rfl) (by kernel_rfl)) ?_
  intro W base args ds gs before hval0 hW hcnd _
  have hval : ∀ (j : Nat) t v, Try.f7.params[j]? = some t → args[j]? = some v → Value.okWide Try.prog W .any base t v := hval0
  have hW' := hW
  obtain ⟨p, q, hA0, hV, rfl, hfz, hnd⟩ := hW
  have hA : DataW.TrodAll enc Try.prog W 0 (fun _ => true) true Try.f7.params.toList args.toList ds p := hA0
  rw [Try.params7] at hA hval
  obtain ⟨v0, vs0, d0, ds0, p0, q0, hargs, rfl, rfl, h0, r0⟩ := trodAll_cons hA
  obtain ⟨v1, vs1, d1, ds1, p1, q1, rfl, rfl, rfl, h1, r1⟩ := trodAll_cons r0
  obtain ⟨rfl, rfl, rfl⟩ := trodAll_nil r1
  obtain rfl : args = #[v0, v1] := by cases args; simp_all
  obtain ⟨rfl, rfl⟩ := trodVars_none hV
  obtain ⟨a0, rfl, rfl, rfl, w0⟩ := open_int Try.underlying3 (hval 0 3 v0 rfl rfl) h0
  obtain ⟨a1, rfl, rfl, rfl, w1⟩ := open_int Try.underlying3 (hval 1 3 v1 rfl rfl) h1
  clear hA0 hval0
  simp only [List.append_nil] at hW'
  refine (walk a0 a1 w0 w1 W).mono fun e W' ⟨he, hg⟩ => ?_
  subst he
  exact ⟨_, rfl, _, _, _, [], [], [], hW', trodAll_mk1 (shut_bool Try.underlying4 _), (trodAll_cons_mk (shut_int Try.underlying3 w0) (trodAll_cons_mk (shut_int Try.underlying3 w1) trodAll_mk0)), rfl, hg.frame _, fun h => by cases h⟩

theorem over : Rows.fibShapesRow.holds Try.pinned (OpenSpec.ofChange Rows.fibShapesSpec) :=
  OpenClaim.holds_of_wide 7 Try.f7 rfl rfl rfl rfl rfl rfl rfl ⟨rfl, rfl, rfl, rfl, rfl⟩ rfl rfl rfl rfl rfl (by kernel_rfl) Try.func7 (by kernel_rfl)
    (of_decide_eq_true (by kernel_rfl)) (by unfold Func.isWrapper; first | (rw [if_pos (by decide +kernel)]; kernel_rfl) | (rw [if_neg (by decide +kernel)]; exact ⟨rfl, rfl⟩))
    (fun os started H enc _ => lifted os started H enc)

/-- the statement -/
theorem proved : Rows.FibShapesSaid :=
  over
#print axioms proved
end Go.Proofs.Ytgppkapdmphfgaa.fibShapes
