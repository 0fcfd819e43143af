/- The walk of crc.table. -/
import Derived.Test.YtmdbnmigpniiaaaBase
import Derived.Deep.Draws
namespace Go.Proofs.Ytmdbnmigpniiaaa
open Go.ChangeShapes Go.WideShapes Go.ChangeAt Go.RowKit

theorem zero39 : ∃ z : Array Value, (∀ w, (zeroValue 39).run Try.prog w = .ok (.agg z) w) ∧ z.size = 256 :=
  ⟨Array.replicate 256 (.int .u32 0), fun _ => by kernel_rfl, by simp⟩

/-- block g is a row of 256 cells -/
def RowAt (w : World) (g : Nat) (f : Nat → Value → Prop) : Prop := ∃ cs : Array Value, w.heap[g]? = some (.cells cs 39 (0, 0)) ∧ cs.size = 256 ∧ ∀ j, j < 256 → ∃ v, cs[j]? = some v ∧ f j v
theorem RowAt.cell {w : World} {g : Nat} {f : Nat → Value → Prop} (h : RowAt w g f) (j : Nat) (hj : j < 256) : ∃ v, w.cell? ⟨g, j, none⟩ = some v ∧ w.frozen? ⟨g, j, none⟩ = false ∧ f j v := by
  obtain ⟨cs, hh, hs, hc⟩ := h
  obtain ⟨v, hv, hf⟩ := hc j hj
  exact ⟨v, (cell_of_row w g j cs 39 (0, 0) hh).trans hv, frozen_of_row w g j cs 39 hh, hf⟩
theorem RowAt.lt {w : World} {g : Nat} {f : Nat → Value → Prop} (h : RowAt w g f) : g < w.heap.size := by
  obtain ⟨cs, hh, _⟩ := h
  rcases Nat.lt_or_ge g w.heap.size with h1 | h1
  · exact h1
  · rw [Array.getElem?_eq_none h1] at hh; cases hh
theorem RowAt.set {w : World} {g : Nat} {f f' : Nat → Value → Prop} (h : RowAt w g f) (j : Nat) (hj : j < 256) (v : Value) (hv : f' j v) (ho : ∀ i u, i < 256 → i ≠ j → f i u → f' i u) : RowAt (w.setCell ⟨g, j, none⟩ v) g f' := by
  obtain ⟨cs, hh, hs, hc⟩ := h
  refine ⟨cs.setIfInBounds j v, heap_setCell_same w g j cs 39 v hh, by simpa using hs, fun i hi => ?_⟩
  by_cases e : i = j
  · subst e
    exact ⟨v, by simp [hs, hj], hv⟩
  · obtain ⟨u, hu, hf⟩ := hc i hi
    exact ⟨u, by rw [Array.getElem?_setIfInBounds_ne (by omega)]; exact hu, ho i u hi e hf⟩
theorem RowAt.imp {w : World} {g : Nat} {f f' : Nat → Value → Prop} (h : RowAt w g f) (hi : ∀ j v, j < 256 → f j v → f' j v) : RowAt w g f' := by
  obtain ⟨cs, hh, hs, hc⟩ := h
  exact ⟨cs, hh, hs, fun j hj => by obtain ⟨v, h1, h2⟩ := hc j hj; exact ⟨v, h1, hi j v hj h2⟩⟩

theorem _root_.Go.RowKit.Below.setRow {B : Nat} {a w : World} (h : Below B a w) {g : Nat} (hg : B ≤ g) (cs : Array Value) : Below B a (w.setRow g cs) :=
  h.trans ⟨rfl, rfl, rfl, by simp, fun k hk => setRow_other _ _ _ _ (by omega)⟩

/-- the outer loop's rows: k entries are made -/
def Made (k : Nat) (j : Nat) (v : Value) : Prop := j < k → v = .int .u32 (V (Crc.tbl j))
/-- the inner loop's: entry k has gone m steps -/
def Making (k m : Nat) (j : Nat) (v : Value) : Prop := (j < k → v = .int .u32 (V (Crc.tbl j))) ∧ (j = k → v = .int .u32 (V (Crc.stepN m (BitVec.ofNat 32 k))))

set_option maxRecDepth 20000 in
theorem table_any (w : World) :
    Calls Try.prog 17 #[] w fun e w' => (∃ cs : Array Value, e = .returned (.agg cs) ∧ cs.size = 256 ∧ ∀ j, j < 256 → cs[j]? = some (.int .u32 (V (Crc.tbl j)))) ∧ Below w.heap.size w w' := by
  obtain ⟨z, hz, hzs⟩ := zero39
  have HZS := Lib.hid hzs
  clear hzs
  go_enter Try.func17, Try.ntmps17
  go_wp2_with fail
  go_loopw [3] (fun i wr => ∃ k : Nat, k ≤ 256 ∧ i = .int .i64 k ∧ RowAt wr (w.heap.size + 1) (Made k) ∧ Below w.heap.size w wr ∧ ∃ z' : Array Value, z'.size = 256 ∧ wr.heap[w.heap.size]? = some (.cells z' 39 (0, 0))) (fun i _ => (256 - intOf i).toNat)
  case atStart =>
    refine ⟨0, by omega, rfl, ⟨z, heap_alloc2_new _ _ _, HZS.out, fun j hj => ⟨z[j]'(by have := HZS.out; omega), Array.getElem?_eq_getElem _, fun h => absurd h (by omega)⟩⟩, ((Below.refl _ _).alloc (Nat.le_refl _) _).alloc (by simp) _, z, HZS.out, heap_alloc2_old _ _ _⟩
  case round =>
    obtain ⟨k, hk, rfl, hrow, hb, z', hz1, hz2⟩ := hrel
    have HZ1 := Lib.hid hz1
    have HZ2 := Lib.hid hz2
    clear hz hz1 hz2
    by_cases hlt : k < 256
    · obtain ⟨v0, c0, f0, _⟩ := hrow.cell k hlt
      have hdk : decide ((k : Int) < 256) = true := by simp; omega
      have hz0 := hb.size
      have hg := hrow.lt
      go_wp2_with fail
      obtain ⟨wo, hwo⟩ : ∃ wo : World, wo = wr := ⟨_, rfl⟩
      subst hwo
      go_loopw [10] (fun i wr => ∃ m : Nat, m ≤ 8 ∧ i = .int .i64 m ∧ RowAt wr (w.heap.size + 1) (Making k m) ∧ Below w.heap.size w wr ∧ ∃ z' : Array Value, z'.size = 256 ∧ wr.heap[w.heap.size]? = some (.cells z' 39 (0, 0))) (fun i _ => (8 - intOf i).toNat)
      case atStart =>
        refine ⟨0, by omega, rfl, hrow.set k hlt _ ⟨fun h => absurd h (by omega), fun _ => ?_⟩ (fun j u _ hne hf => ⟨hf, fun h => absurd h hne⟩), hb.setCell (p := ⟨w.heap.size + 1, k, none⟩) (by simp) _, z', HZ1.out, (heap_setCell_other _ _ _ _ (by simp)).trans HZ2.out⟩
        rw [Crc.stepN, V_lit k (by omega)]
      case round =>
        obtain ⟨m, hm, rfl, hrow2, hb2, z2, hz3, hz4⟩ := hrel
        have HZ3 := Lib.hid hz3
        have HZ4 := Lib.hid hz4
        clear hz3 hz4 HZ1 HZ2 hrow f0 c0
        by_cases hm8 : m < 8
        · obtain ⟨v1, c1, f1, g1⟩ := hrow2.cell k hlt
          have hv := g1.2 rfl
          obtain ⟨t, ht⟩ : ∃ t, Crc.stepN m (BitVec.ofNat 32 k) = t := ⟨_, rfl⟩
          rw [ht] at hv
          subst hv
          have HT := Lib.hid ht
          clear ht g1
          have hz5 := hb2.size
          go_wp2_with (go_at_call 10; refine (step_core t false _).mono ?_; rintro e w' ⟨rfl, rfl⟩)
          go_roundw
          case rel =>
            refine ⟨m + 1, by omega, by go_num, hrow2.set k hlt _ ⟨fun h => absurd h (by omega), fun _ => ?_⟩ (fun j u _ hne hf => ⟨hf.1, fun h => absurd h hne⟩), hb2.setCell (p := ⟨w.heap.size + 1, k, none⟩) (by simp) _, z2, HZ3.out, (heap_setCell_other _ _ _ _ (by simp)).trans HZ4.out⟩
            rw [Crc.stepN_succ', HT.out, Crc.step_false]
          case measure => simp [intOf]; omega
        · obtain rfl : m = 8 := by omega
          go_wp2_with fail
          go_roundw
          case rel =>
            refine ⟨k + 1, by omega, by go_num, hrow2.imp fun j v hj hv hjk => ?_, hb2, z2, HZ3.out, HZ4.out⟩
            by_cases e : j = k
            · subst e; exact hv.2 rfl
            · exact hv.1 (by omega)
          case measure => simp [intOf]; omega
    · obtain rfl : k = 256 := by omega
      have hz0 := hb.size
      have hlt1 := hrow.lt
      obtain ⟨cs, hcs, hsz, hcv⟩ := hrow
      have hvals : ∀ j, j < 256 → cs[j]? = some (.int .u32 (V (Crc.tbl j))) := fun j hj => by
        obtain ⟨v, hv, hm⟩ := hcv j hj
        rw [hv, hm hj]
      have hi39 : (Try.prog.info? 39).map (·.size) = some cs.size := by rw [hsz]; kernel_rfl
      have HV := Lib.hid hvals
      have HC := Lib.hid hcs
      have HS := Lib.hid hsz
      have HI := Lib.hid hi39
      clear hcs hcv hvals hsz hi39
      go_wp2_with (first | (refine wpList_load_row rfl 39 (.tmp 1) rfl (w.heap.size + 1) rfl 39 cs (0, 0) _ HC.out Try.underlying39 rfl HI.out ?_) | (refine wpList_store_row rfl 39 (.tmp 0) (.tmp 20) rfl w.heap.size cs rfl rfl 39 z' HZ2.out HI.out ?h1 ?h2 ?_))
      case h1 => rw [HZ1.out, HS.out]
      case h2 =>
        rw [Array.all_eq_true]
        intro i hi
        have hv := HV.out i (by have := HS.out; omega)
        rw [Array.getElem?_eq_getElem hi] at hv
        injection hv with hv
        rw [hv]
        rfl
      refine bodyPost_ret (results_cell_row (ty := 39) Try.results17 _ _ w.heap.size 39 cs (0, 0) _ (by simp [Act.put]) (setRow_heap _ _ _ _ _ _ HZ2.out) Try.underlying39 rfl HI.out) rfl ?_
      exact ⟨⟨cs, rfl, HS.out, HV.out⟩, hb.setRow (Nat.le_refl _) cs⟩
end Go.Proofs.Ytmdbnmigpniiaaa
