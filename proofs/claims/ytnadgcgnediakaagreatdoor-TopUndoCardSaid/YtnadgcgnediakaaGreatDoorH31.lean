/- The reference's walk: Sampled. -/
import Derived.Test.YtnadgcgnediakaaGreatDoorH27
import Derived.Test.YtnadgcgnediakaaGreatDoorH30
namespace Go.Proofs.YtnadgcgnediakaaGreatDoor
open Go.ChangeShapes Go.WideShapes Go.ChangeAt Go.RowKit Go.Deep

/-- how many places since the last sampled one -/
def gpS (S : Nat → Bool) : Nat → Nat
  | 0 => 0
  | i + 1 => if S i = true then 0 else gpS S i + 1
theorem gpS_le (S : Nat → Bool) (x : Nat) (h : S x = true) : ∀ k, x ≤ k → gpS S (k + 1) ≤ k - x
  | 0, hk => by
    obtain rfl : x = 0 := by omega
    unfold gpS
    rw [if_pos h]
    omega
  | k + 1, hk => by
    rw [gpS]
    split
    · omega
    · rename_i hn
      have : x ≠ k + 1 := by
        rintro rfl
        exact hn h
      have := gpS_le S x h k (by omega)
      omega
theorem gpS_lt {S : Nat → Bool} {N r : Nat} (h : Wd.Cov S N r) (hr : 1 ≤ r) (i : Nat) (hi : i < N + 1) : gpS S (i + 1) < r := by
  obtain ⟨x, h1, h2, h3⟩ := h.near hr i (by omega)
  have := gpS_le S x h2 i h1
  omega
theorem gpS_up (S : Nat → Bool) : ∀ i, gpS S i ≤ i
  | 0 => Nat.le_refl _
  | i + 1 => by
    have := gpS_up S i
    rw [gpS]
    split <;> omega
/-- is it one of the first? -/
def isP (pf : Nat → Nat) (i p : Nat) : Bool := (List.range i).any fun j => pf j == p
theorem isP_succ (pf : Nat → Nat) (i p : Nat) : isP pf (i + 1) p = (isP pf i p || pf i == p) := by
  unfold isP
  rw [List.range_succ, List.any_append]
  simp
theorem isP_iff (pf : Nat → Nat) (i p : Nat) : isP pf i p = true ↔ ∃ j, j < i ∧ pf j = p := by
  unfold isP
  simp
/-- the table of what is sampled -/
def IsT (w : World) (ib M : Nat) (f : Nat → Bool) : Prop := ∃ cur : Array Value, w.heap[ib]? = some (.cells cur 4 (0, 0)) ∧ cur.size = M ∧ ∀ p, p < M → cur[p]? = some (.bool (f p))
theorem IsT.set {w : World} {ib M : Nat} {f : Nat → Bool} (h : IsT w ib M f) (q : Nat) (hq : q < M) : IsT (w.setCell ⟨ib, q, none⟩ (.bool true)) ib M (fun p => f p || q == p) := by
  obtain ⟨cur, h1, h2, h3⟩ := h
  refine ⟨cur.setIfInBounds q (.bool true), Joins.block_setCell h1 _, by simpa using h2, fun p hp => ?_⟩
  by_cases e : q = p
  · subst e
    rw [Array.getElem?_setIfInBounds_self_of_lt (by omega)]
    simp
  · rw [Array.getElem?_setIfInBounds_ne e, h3 p hp]
    simp [e]
theorem IsT.congr {w : World} {ib M : Nat} {f g : Nat → Bool} (h : IsT w ib M f) (hfg : ∀ p, p < M → f p = g p) : IsT w ib M g := by
  obtain ⟨cur, h1, h2, h3⟩ := h
  exact ⟨cur, h1, h2, fun p hp => by rw [← hfg p hp]; exact h3 p hp⟩
theorem IsT.cell {w : World} {ib M : Nat} {f : Nat → Bool} (h : IsT w ib M f) (p : Nat) (hp : p < M) : w.cell? ⟨ib, p, none⟩ = some (.bool (f p)) ∧ w.frozen? ⟨ib, p, none⟩ = false := by
  obtain ⟨cur, h1, h2, h3⟩ := h
  exact ⟨by rw [Joins.cell_of_block h1]; exact h3 p hp, Joins.unfrozen_of_block h1 p⟩
set_option maxRecDepth 20000 in
set_option maxHeartbeats 4000000 in
theorem sampled_any (pb pc rg rc m M rate : Nat) (rf pf : Nat → Nat) (S : Nat → Bool) (w : World) (hm0 : 0 < m) (hm : m < 1000) (hM0 : 0 < M) (hM : M < 1000)
    (hp : ∀ i, i < m → w.cell? ⟨pb, i * 2, none⟩ = some (.int .i64 (rf i)) ∧ w.cell? ⟨pb, i * 2 + 1, none⟩ = some (.int .i64 (pf i)))
    (hr : ∀ i, i < m → rf i < M ∧ pf i < M ∧ w.cell? ⟨rg, rf i, none⟩ = some (.int .i64 (pf i)))
    (hs : ∀ i, i + 1 < m → rf i < rf (i + 1)) (hS : ∀ p, p < M → (S p = true ↔ ∃ i, i < m ∧ pf i = p)) (h0 : S 0 = true) (hg : ∀ i, i < M → gpS S (i + 1) < rate) :
    Calls Tryz.prog 25 #[.slice (some ⟨pb, 0, none⟩) m pc, .slice (some ⟨rg, 0, none⟩) M rc, .int .i64 rate] w fun e w' => e = .returned (.bool true) ∧ Below w.heap.size w w' := by
  have hmk := run_make_row' (P := Tryz.prog) 101 4 (.bool false) 1 Tryz.underlying101 info4 rfl .i64 .i64 M (by omega) (by omega)
  have HP := Lib.hid hp
  have HR := Lib.hid hr
  have HS := Lib.hid hs
  have HSS := Lib.hid hS
  have HG := Lib.hid hg
  have H0 := Lib.hid h0
  have T0 := Lib.hid (show IsT (w.alloc (.cells (madeCells #[.bool false] M) 4)) w.heap.size M (isP pf 0) from ⟨_, heap_alloc_new w _, size_madeCells _ _, fun p hp => made_get _ _ _ hp⟩)
  have lpb : pb < w.heap.size := cell_lt (hp 0 hm0).1
  have lrg : rg < w.heap.size := cell_lt (hr 0 hm0).2.2
  clear hp hr hs hS hg h0
  go_enter Tryz.func25, Tryz.ntmps25
  go_wp2_with fail
  go_loopg [8] m (fun gg s8 wr => ∃ i : Nat, i + gg = m ∧ s8 = .int .i64 i ∧ Aside (Below w.heap.size w wr ∧ IsT wr w.heap.size M (isP pf i)))
  case atStart => exact ⟨0, by omega, rfl, Joins.below_alloc1 w _, T0.out⟩
  case round =>
    obtain ⟨i, hi, rfl, hb⟩ := hrel
    have BB := Lib.hid hb.out.1
    have TT := Lib.hid hb.out.2
    clear hb
    by_cases him : i < m
    · have hiz : decide ((i : Int) < (m : Int)) = true := decide_eq_true (by omega)
      obtain ⟨p0, p1⟩ := HP.out i him
      obtain ⟨r1, r2, r3⟩ := HR.out i him
      obtain ⟨a, ha⟩ : ∃ a, a = rf i := ⟨_, rfl⟩
      obtain ⟨q, hq⟩ : ∃ q, q = pf i := ⟨_, rfl⟩
      rw [← ha] at p0 r1 r3
      rw [← hq] at p1 r2 r3
      have c0 : wr.cell? ⟨pb, i * 2, none⟩ = some (.int .i64 a) := by rw [World.cell?_of_block (w := w) (BB.out.block _ lpb)]; exact p0
      have c1 : wr.cell? ⟨pb, i * 2 + 1, none⟩ = some (.int .i64 q) := by rw [World.cell?_of_block (w := w) (BB.out.block _ lpb)]; exact p1
      have c2 : wr.cell? ⟨rg, a, none⟩ = some (.int .i64 q) := by rw [World.cell?_of_block (w := w) (BB.out.block _ lrg)]; exact r3
      obtain ⟨t1, t2⟩ := TT.out.cell q r2
      have d0 : decide ((a : Int) < 0) = false := decide_eq_false (by omega)
      have d1 : decide ((M : Int) ≤ (a : Int)) = false := decide_eq_false (by omega)
      have d1' : decide (M ≤ a) = false := decide_eq_false (by omega)
      have TN := Lib.hid (show ∀ nq, IsT ((wr.drewN nq).setCell ⟨w.heap.size, q, none⟩ (.bool true)) w.heap.size M (isP pf (i + 1)) from fun nq => (IsT.set (w := wr.drewN nq) (show IsT (wr.drewN nq) w.heap.size M (isP pf i) from TT.out) q r2).congr fun p _ => by rw [isP_succ, hq])
      have BN := Lib.hid (show ∀ nq, Below w.heap.size w ((wr.drewN nq).setCell ⟨w.heap.size, q, none⟩ (.bool true)) from fun nq => (show Below w.heap.size w (wr.drewN nq) from ⟨BB.out.os, BB.out.tape, BB.out.output, BB.out.size, BB.out.block⟩).setCell (p := ⟨w.heap.size, q, none⟩) (Nat.le_refl _) _)
      obtain ⟨bt, hbt⟩ : ∃ b, b = isP pf i q := ⟨_, rfl⟩
      rw [← hbt] at t1
      have HA := Lib.hid ha
      clear ha hq p0 p1 r3 hbt
      by_cases hz : i = 0
      · subst hz
        go_wp2_with fail
        go_quiet (fail)
        go_wp2_with fail
        go_roundg (gk - 1)
        case measure => omega
        case rel => exact ⟨1, by omega, by go_num, BN.out _, TN.out _⟩
      · obtain ⟨j, hj⟩ : ∃ j, j + 1 = i := ⟨i - 1, by omega⟩
        have hij : IntKind.i64.wrap ((i : Int) - 1) = (j : Int) := by rw [IntKind.wrap_i64]; omega
        have dz : decide ((0 : Int) < (i : Int)) = true := decide_eq_true (by omega)
        obtain ⟨q0, _⟩ := HP.out j (by omega)
        have hjs := HS.out j (by omega)
        rw [hj, ← HA.out] at hjs
        obtain ⟨a2, ha2⟩ : ∃ a2, a2 = rf j := ⟨_, rfl⟩
        rw [← ha2] at q0 hjs
        have c3 : wr.cell? ⟨pb, j * 2, none⟩ = some (.int .i64 a2) := by rw [World.cell?_of_block (w := w) (BB.out.block _ lpb)]; exact q0
        have d2 : decide ((a : Int) ≤ (a2 : Int)) = false := decide_eq_false (by omega)
        have d2' : decide (a ≤ a2) = false := decide_eq_false (by omega)
        have dz' : decide (0 < i) = true := decide_eq_true (by omega)
        have hjm : j < m := by omega
        clear q0 ha2 hj hz
        go_wp2_with fail
        go_quiet (fail)
        go_wp2_with fail
        go_roundg (gk - 1)
        case measure => omega
        case rel => exact ⟨i + 1, by omega, by go_num, BN.out _, TN.out _⟩
    · obtain rfl : i = m := by omega
      have hiz : decide ((i : Int) < (i : Int)) = false := decide_eq_false (by omega)
      have TS := Lib.hid (TT.out.congr (g := S) fun p hp => by
        have h1 := HSS.out p hp
        have h2 := isP_iff pf i p
        rw [Bool.eq_iff_iff, h1, h2])
      go_wp2_with fail
      go_loopg [9, 10] M (fun gg s9 s10 wx => ∃ j : Nat, j + gg = M ∧ s10 = .int .i64 j ∧ s9 = .int .i64 (gpS S j) ∧ wx = wr)
      case atStart => exact ⟨0, by omega, rfl, rfl, rfl⟩
      case round =>
        obtain ⟨j, hj, rfl, rfl, rfl⟩ := hrel
        by_cases hjm : j < M
        · have hjz : decide ((j : Int) < (M : Int)) = true := decide_eq_true (by omega)
          have t1 := (TS.out.cell j hjm).1
          have hgj := HG.out j hjm
          have hup := gpS_up S j
          have e1 : IntKind.i64.wrap ((gpS S j : Int) + 1) = (gpS S j : Int) + 1 := by rw [IntKind.wrap_i64]; omega
          obtain ⟨x, hx⟩ : ∃ x, x = gpS S j := ⟨_, rfl⟩
          have HX := Lib.hid (show gpS S (j + 1) = if S j = true then 0 else x + 1 by rw [hx]; rfl)
          rw [HX.out] at hgj
          rw [← hx] at e1 hup
          rw [← hx]
          clear hx
          obtain ⟨b, hb⟩ : ∃ b, b = S j := ⟨_, rfl⟩
          rw [← hb] at t1 HX hgj
          clear hb
          cases b
          · rw [if_neg (by decide)] at hgj
            have dg : decide ((rate : Int) ≤ (x : Int) + 1) = false := decide_eq_false (by omega)
            have dg' : decide (rate ≤ x + 1) = false := decide_eq_false (by omega)
            clear hgj
            go_wp2_with fail
            go_roundg (M - (j + 1))
            case measure => omega
            case rel => exact ⟨j + 1, by omega, by go_num, by rw [HX.out, if_neg (by decide)]; go_num, rfl⟩
          · rw [if_pos rfl] at hgj
            have dg : decide ((rate : Int) ≤ 0) = false := decide_eq_false (by omega)
            have dg' : decide (rate ≤ 0) = false := decide_eq_false (by omega)
            go_wp2_with fail
            go_roundg (M - (j + 1))
            case measure => omega
            case rel => exact ⟨j + 1, by omega, by go_num, by rw [HX.out]; simp, rfl⟩
        · obtain rfl : j = M := by omega
          have hjz : decide ((j : Int) < (j : Int)) = false := decide_eq_false (by omega)
          have t1 := (TS.out.cell 0 hM0).1
          rw [H0.out] at t1
          go_wp2_with fail
          go_ret
          exact ⟨rfl, BB.out⟩
end Go.Proofs.YtnadgcgnediakaaGreatDoor
