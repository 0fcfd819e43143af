/- FibAsks returns true for every n and every list of shapes, and writes nothing that was there; no conditions. -/
import Derived.Test.YtgppkapdmphfgaaRef
import Derived.Deep.Slices
import Derived.Deep.Fields
import Derived.ChangeSame
import Derived.Lib.SmallJoins
import Derived.ChangeOld
import Derived.Below
namespace Go.Proofs.Ytgppkapdmphfgaa.fibAsks
open Go.ChangeShapes Go.WideShapes Go.ChangeAt Go.RowKit Go.Deep

theorem own : ownKnob Try.prog.godebug = none := by kernel_rfl
theorem laidOut : laidOutB Try.prog = true := by kernel_rfl

def allK (ss : List Sh) (k : Nat) : Bool := (ss.take k).all Sh.ok
theorem allK_zero (ss : List Sh) : allK ss 0 = true := rfl
theorem allK_succ (ss : List Sh) (k : Nat) (s : Sh) (h : ss[k]? = some s) : allK ss (k + 1) = (allK ss k && s.ok) := by
  unfold allK
  obtain ⟨hk, rfl⟩ := List.getElem?_eq_some_iff.1 h
  rw [List.take_succ_eq_append_getElem hk, List.all_append]
  simp
theorem allK_all (ss : List Sh) (k : Nat) (h : ss.length = k) : ss.all Sh.ok = allK ss k := by
  unfold allK
  rw [List.take_of_length_le (by omega)]

theorem rmay_s (s : Sh) (r : Bool) (hr : s.ok = r) (w : World) (hf : s.fits) :
    Calls Try.prog 11 #[.agg #[.int .i64 s.L, .int .i64 s.H, .int .i64 s.V, .int .i64 s.N]] w fun e w' => e = .returned (.bool r) ∧ Below w.heap.size w w' := by
  obtain ⟨⟨a, b⟩, ⟨c, d⟩, e, f⟩ := hf
  rw [← hr]
  exact rmay_any s.L s.H s.V s.N w a b c d e f

theorem mays_k (A : Option Addr) (len cap : Nat) (ss : List Sh) (w : World) (hs : IsShapes w w.heap.size A len ss) (hlen : len ≤ 1000000) :
    Calls Try.prog 12 #[.slice A len cap] w fun e w' => e = .returned (.bool (allK ss len)) ∧ Below w.heap.size w w' := by
  rw [← allK_all ss len hs.1]
  exact mays_any A len cap ss w hs hlen

theorem shapes_below {w w' : World} {B : Nat} {A : Option Addr} {len : Nat} {ss : List Sh} (h : IsShapes w B A len ss) (hb : Below B w w') (B' : Nat) (hB : B ≤ B') : IsShapes w' B' A len ss := by
  obtain ⟨h1, h2⟩ := h
  refine ⟨h1, fun hl => ?_⟩
  obtain ⟨b, off, e, hbb, hc⟩ := h2 hl
  refine ⟨b, off, e, by omega, fun i s hi => ?_⟩
  obtain ⟨f, c0, c1, c2, c3⟩ := hc i s hi
  exact ⟨f, (hb.cell (p := ⟨b, _, none⟩) hbb).trans c0, (hb.cell (p := ⟨b, _, none⟩) hbb).trans c1, (hb.cell (p := ⟨b, _, none⟩) hbb).trans c2, (hb.cell (p := ⟨b, _, none⟩) hbb).trans c3⟩

/-! ### the walk -/
theorem walk (n : Int) (A : Option Addr) (len cap : Nat) (ss : List Sh) (w : World) (h1 : -9223372036854775808 ≤ n) (h2 : n ≤ 9223372036854775807) (hlm : len ≤ 9223372036854775807)
    (hs : IsShapes w w.heap.size A len ss) :
    Calls Try.prog 4 #[.int .i64 n, .slice A len cap] w fun e w' => e = .returned (.bool true) ∧ Below w.heap.size w w' := by
  by_cases h10 : 10 < len
  · clear hs
    go_enter Try.func4, Try.ntmps4
    go_wp2_with (go_at_call 8; refine (told_any _).mono ?_; rintro e w1 ⟨rfl, hb1⟩)
    go_ret
    exact ⟨rfl, hb1⟩
  · have HS := Lib.hid hs
    have a0 := Lib.hid (allK_zero ss)
    clear hs
    go_enter Try.func4, Try.ntmps4
    go_wp2_with fail
    go_loopw [5, 6] (fun a i wr => ∃ k : Nat, k ≤ len ∧ i = .int .i64 k ∧ a = .bool (allK ss k) ∧ Below w.heap.size w wr) (fun _ i _ => len - (intOf i).toNat)
    case atStart => exact ⟨0, by omega, rfl, by rw [a0.out], Below.refl _ _⟩
    case round =>
      obtain ⟨k, hk, rfl, rfl, hb⟩ := hrel
      have hz := hb.size
      by_cases hlt : k < len
      · obtain ⟨b, off, rfl, hbs, hcell⟩ := HS.out.2 (by omega)
        obtain ⟨s, hsk⟩ : ∃ s, ss[k]? = some s := ⟨_, List.getElem?_eq_getElem (by have := HS.out.1; omega)⟩
        obtain ⟨hfit, c0, c1, c2, c3⟩ := hcell k s hsk
        have g0 := (hb.cell (p := ⟨b, off + k * 4, none⟩) hbs).trans c0
        have g1 := (hb.cell (p := ⟨b, off + k * 4 + 1, none⟩) hbs).trans c1
        have g2 := (hb.cell (p := ⟨b, off + k * 4 + 2, none⟩) hbs).trans c2
        have g3 := (hb.cell (p := ⟨b, off + k * 4 + 3, none⟩) hbs).trans c3
        have HQ := Lib.hid (allK_succ ss k s hsk)
        clear c0 c1 c2 c3 hcell hsk
        generalize hka : allK ss k = ka at *
        obtain ⟨r, hr⟩ : ∃ r, s.ok = r := ⟨_, rfl⟩
        have HR := Lib.hid hr
        have HK := Lib.hid hka
        clear hr hka
        cases ka <;> cases r
        all_goals
          go_wp2_with fail
          refine (rmay_s s _ HR.out _ hfit).mono ?_
          rintro e w1 ⟨rfl, hb1⟩
          have z1 := hb1.size
          have q0 := (hb1.cell (p := ⟨b, off + k * 4, none⟩) (by simp; omega)).trans g0
          have q1 := (hb1.cell (p := ⟨b, off + k * 4 + 1, none⟩) (by simp; omega)).trans g1
          have q2 := (hb1.cell (p := ⟨b, off + k * 4 + 2, none⟩) (by simp; omega)).trans g2
          have q3 := (hb1.cell (p := ⟨b, off + k * 4 + 3, none⟩) (by simp; omega)).trans g3
          go_wp2_with fail
          refine (mays_one s _ HR.out _ w1.heap.size hfit (by simp) (by simp) (by simp) (by simp) (by simp)).mono ?_
          rintro e w2 ⟨rfl, hb2⟩
          go_wp2_with fail
          go_roundw
          case rel => exact ⟨k + 1, by omega, by go_num, by rw [HQ.out, HR.out]; rfl, (((hb.trans (hb1.mono hz)).alloc (by omega) _).trans (hb2.mono (by simp; omega)))⟩
          case measure => simp [intOf]; omega
      · obtain rfl : k = len := by omega
        have k1 := hb
        go_wp2_with fail
        refine (told_any _).mono ?_
        rintro e w1 ⟨rfl, hb1⟩
        go_wp2_with (first | (go_at_call 10; refine (least_any _ _ (by omega) (by omega)).mono ?_; rintro e w' ⟨rfl, rfl⟩) | (go_at_call 9; refine (most_any _ _ (by omega) (by omega)).mono ?_; rintro e w' ⟨rfl, rfl⟩) | (go_at_call 13; refine (rleast_any _ _ (by omega) (by omega)).mono ?_; rintro e w' ⟨rfl, rfl⟩) | (go_at_call 14; refine (rmost_any _ _ (by omega) (by omega)).mono ?_; rintro e w' ⟨rfl, rfl⟩))
        have hbb := hb.trans (hb1.mono hz)
        have z1 := hb1.size
        refine (mays_k A k cap ss _ (shapes_below HS.out hbb _ (by omega)) (by omega)).mono ?_
        rintro e w2 ⟨rfl, hb2⟩
        go_wp2_with fail
        go_ret
        exact ⟨rfl, hbb.trans (hb2.mono (by omega))⟩


theorem shapes_of (w : World) (x : Addr) (len : Nat)
    (h : ∀ i, i < len → ∃ s : Sh, s.fits ∧ w.cell? (x.add (i * 4 + 0)) = some (.int .i64 s.L) ∧ w.cell? (x.add (i * 4 + 1)) = some (.int .i64 s.H) ∧ w.cell? (x.add (i * 4 + 2)) = some (.int .i64 s.V) ∧ w.cell? (x.add (i * 4 + 3)) = some (.int .i64 s.N)) :
    IsShapes w w.heap.size (some x) len ((List.range len).map fun i => if hi : i < len then (h i hi).choose else ⟨0, 0, 0, 0⟩) := by
  refine ⟨by simp, fun hl => ?_⟩
  obtain ⟨b, off, spot⟩ := x
  obtain ⟨s0, _, hc0, _⟩ := h 0 hl
  have hspot : spot = none := by simpa [Addr.add] using World.cell?_spot hc0
  subst hspot
  refine ⟨b, off, rfl, ?_, ?_⟩
  · rcases Nat.lt_or_ge b w.heap.size with hlt | hge
    · exact hlt
    · simp [World.cell?, Addr.add, Array.getElem?_eq_none hge] at hc0
  · intro i s hs
    have hi : i < len := by
      have := (List.getElem?_eq_some_iff.1 hs).1
      simpa using this
    have e : s = (h i hi).choose := by
      rw [List.getElem?_map, List.getElem?_range hi] at hs
      simp only [Option.map_some, dif_pos hi, Option.some.injEq] at hs
      exact hs.symm
    obtain ⟨f, c0, c1, c2, c3⟩ := (h i hi).choose_spec
    rw [← e] at f c0 c1 c2 c3
    have ad : ∀ k, (⟨b, off, none⟩ : Addr).add k = ⟨b, off + k, none⟩ := fun k => by simp [Addr.add]
    rw [ad] at c0 c1 c2 c3
    exact ⟨f, c0, by simpa [Nat.add_assoc] using c1, by simpa [Nat.add_assoc] using c2, by simpa [Nat.add_assoc] using c3⟩

/-! ### the row's step -/
set_option linter.unusedVariables false
set_option maxRecDepth 100000 in
theorem lifted (os : Os) (started : os.Started) (H : Type) (enc : TypeId × Value → H) :
    ReturnsInHanded {} Try.checked os 4 .any (Rows.fibAsksSpec.pre6 enc Try.prog Try.f4 Rows.fibAsksRow.domain false) (Rows.fibAsksSpec.post enc Try.prog Try.f4 false true false false) := by
  refine returnsInHanded_of_change (C := Try.checked) own started (by kernel_rfl) Try.func4
    (ChangeSpec.witness6 (enc := enc) (C := Try.checked) false ⟨#[], #[.int .i64 0, .slice none 0 0], []⟩ 8 (by kernel_rfl) (by kernel_rfl) (by kernel_rfl) (by kernel_rfl)) ?_
  intro W base args ds gs before hval0 hW hcnd _
  have hval : ∀ (j : Nat) t v, Try.f4.params[j]? = some t → args[j]? = some v → Value.okWide Try.prog W .any base t v := hval0
  have hW' := hW
  obtain ⟨p, q, hA0, hV, rfl, hfz, hnd⟩ := hW
  have hA : DataW.TrodAll enc Try.prog W 0 (fun _ => true) true Try.f4.params.toList args.toList ds p := hA0
  rw [Try.params4] at hA hval
  obtain ⟨v0, vs0, d0, ds0, p0, q0, hargs, rfl, rfl, h0, r0⟩ := trodAll_cons hA
  obtain ⟨v1, vs1, d1, ds1, p1, q1, rfl, rfl, rfl, h1, r1⟩ := trodAll_cons r0
  obtain ⟨rfl, rfl, rfl⟩ := trodAll_nil r1
  obtain rfl : args = #[v0, v1] := by cases args; simp_all
  obtain ⟨rfl, rfl⟩ := trodVars_none hV
  obtain ⟨a0, rfl, rfl, rfl, w0⟩ := open_int Try.underlying3 (hval 0 3 v0 rfl rfl) h0
  obtain ⟨a1, len, cap, rfl⟩ := okWide_slice Try.underlying26 (hval 1 26 v1 rfl rfl)
  have k1 := h1
  have lt1 : ∀ x ∈ p1, x.block < W.heap.size := by obtain ⟨m, hm⟩ := k1; exact DataW.trod_lt m _ _ _ hm
  obtain ⟨ss, hlm, hss⟩ : ∃ ss, len ≤ 9223372036854775807 ∧ IsShapes W W.heap.size a1 len ss := by
    obtain ⟨fuel, hf⟩ := h1
    rcases open_slice Try.underlying26 hf with ⟨hcs, _⟩ | ⟨x, l, c, m, n, D, Pl, hcs, _, hl, hm, hmm, _, hi⟩
    · simp [Value.cells] at hcs
      obtain ⟨rfl, rfl, rfl⟩ := hcs
      exact ⟨[], by omega, rfl, by omega⟩
    · simp [Value.cells] at hcs
      obtain ⟨rfl, rfl, rfl⟩ := hcs
      have hml : len ≤ m := by
        rw [hmm]; split <;> omega
      exact ⟨_, by unfold maxLen at hm; omega, shapes_of W x len fun i hlt => by
        obtain ⟨cs', hc, ht⟩ := hi i (by omega)
        rw [show Try.prog.cellsOf 29 = 4 from by kernel_rfl] at hc
        obtain ⟨_, hcl, hat⟩ := World.cells?_some hc
        match cs', hcl with
        | [u0, u1, u2, u3], _ =>
        obtain ⟨y0, y1, y2, y3, nn, _, _, t0, t1, t2, t3⟩ := Joins.trod_struct4 Try.underlying29 ht
        simp [show Try.prog.cellsOf 3 = 1 from by kernel_rfl] at t0 t1 t2 t3
        have c0 := (add_add x (i * 4) 0).symm ▸ hat 0 (by omega)
        have c1 := (add_add x (i * 4) 1).symm ▸ hat 1 (by omega)
        have c2 := (add_add x (i * 4) 2).symm ▸ hat 2 (by omega)
        have c3 := (add_add x (i * 4) 3).symm ▸ hat 3 (by omega)
        obtain ⟨n0, e0, _, g0⟩ := DataW.trod_int Try.underlying3 t0
        obtain ⟨n1, e1, _, g1⟩ := DataW.trod_int Try.underlying3 t1
        obtain ⟨n2, e2, _, g2⟩ := DataW.trod_int Try.underlying3 t2
        obtain ⟨n3, e3, _, g3⟩ := DataW.trod_int Try.underlying3 t3
        simp at e0 e1 e2 e3
        subst e0 e1 e2 e3
        exact ⟨⟨n0, n1, n2, n3⟩, ⟨bounds_i64 g0, bounds_i64 g1, bounds_i64 g2⟩, c0, c1, c2, c3⟩⟩
  clear hA0 hval0
  have hb0 := bounds_i64 w0
  refine (walk a0 a1 len cap ss W hb0.1 hb0.2 hlm hss).mono fun e W' ⟨he, bel⟩ => ?_
  subst he
  exact ⟨_, rfl, _, _, _, [], _, [], hW', trodAll_mk1 (shut_bool Try.underlying4 _), (trodAll_cons_mk (shut_int Try.underlying3 w0) (trodAll_cons_mk (Below.trod laidOut (by kernel_rfl) (of_decide_eq_true (by kernel_rfl)) k1 bel lt1) trodAll_mk0)), rfl, bel.frame _, fun h => by cases h⟩

theorem over : Rows.fibAsksRow.holds Try.pinned (OpenSpec.ofChange Rows.fibAsksSpec) :=
  OpenClaim.holds_of_wide 4 Try.f4 rfl rfl rfl rfl rfl rfl rfl ⟨rfl, rfl, rfl, rfl, rfl⟩ rfl rfl rfl rfl rfl (by kernel_rfl) Try.func4 (by kernel_rfl)
    (of_decide_eq_true (by kernel_rfl)) (by unfold Func.isWrapper; first | (rw [if_pos (by decide +kernel)]; kernel_rfl) | (rw [if_neg (by decide +kernel)]; exact ⟨rfl, rfl⟩))
    (fun os started H enc _ => lifted os started H enc)

theorem proved : Rows.FibAsksSaid := over
#print axioms proved
end Go.Proofs.Ytgppkapdmphfgaa.fibAsks
