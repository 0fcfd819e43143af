/- The walk of slices.Backward's closure, whatever the loop's body. -/
import Derived.RangeFuncNested
import Derived.RangeFuncBound
import Derived.RangeFuncCalls
import Derived.RangeFuncLeaves
import Derived.RangeFuncBox
import Derived.RangeFuncWrites
import Derived.Shelf.Abstract
import Derived.Shelf.RegionOpen
import Derived.WalkKit
import Derived.OwnWalkIn
import Derived.TacticsInMore
import Derived.LoopNIn
import Derived.LoopIn
import Derived.Test.YtnadgcgnediakaaGreatDoorProg
import Derived.Test.YtnadgcgnediakaaGreatDoorH25
namespace Go.Proofs.YtnadgcgnediakaaGreatDoor
open Go.RowKit Go.Shelf
attribute [local go_sem] Oper.semAt_some

/-- what has come when k rounds are over -/
def came (n : Nat) (z : Nat → Fin 256) (k : Nat) : List (Nat × Fin 256) := (List.range k).map fun i => (n - 1 - i, z (n - 1 - i))
theorem came_succ (n : Nat) (z : Nat → Fin 256) (k : Nat) : came n z (k + 1) = came n z k ++ [(n - 1 - k, z (n - 1 - k))] := by
  unfold came
  rw [List.range_succ, List.map_append]
  rfl
theorem came_length (n : Nat) (z : Nat → Fin 256) (k : Nat) : (came n z k).length = k := by unfold came; rw [List.length_map, List.length_range]
/-- two blocks are kept -/
def KpS (Bs gb : Nat) (W W' : World) : Prop := ∀ k, k = Bs ∨ k = gb → IsCells W k → W'.heap[k]? = W.heap[k]?
theorem KpS.trans {Bs gb : Nat} {A B C : World} (h : KpS Bs gb A B) (g : KpS Bs gb B C) : KpS Bs gb A C := fun k hk hc => by
  have h1 := h k hk hc
  refine (g k hk ?_).trans h1
  obtain ⟨cs, t, f, hh⟩ := hc
  exact ⟨cs, t, f, h1.trans hh⟩
theorem KpS.put {Bs gb : Nat} (W : World) (l : Nat) (o o' : Obj) (hl : W.heap[l]? = some o) (ho : o.isCells = false) : KpS Bs gb W (W.putObj l o') := fun k hk hc => by
  obtain ⟨cs, t, f, hh⟩ := hc
  have : k ≠ l := fun e => by
    subst e
    rw [hl] at hh
    rw [Option.some.inj hh] at ho
    simp [Obj.isCells] at ho
  exact World.putObj_heap_other this

set_option maxRecDepth 100000 in
set_option maxHeartbeats 2000000 in
theorem back1_in (F : Fence) (n : Nat) (h158 : F.fn 158) (hro : F.round = none) (hn : 1 ≤ n) (l Bs gb len cap : Nat) (z : Nat → Fin 256) (hreach : len < 100000) (J Jx : List (Nat × Fin 256) → World → Prop)
    (hY : ∀ pre x W, J pre W → pre.length < len → YieldAt F (n - 1) Tryz.prog l #[.int .i64 (x.1 : Nat), .int .u8 (x.2.1 : Nat)] W fun e W' =>
      (e = .returned (.bool true) ∧ J (pre ++ [x]) W' ∧ KpS Bs gb W W') ∨ (e = .returned (.bool false) ∧ Jx (pre ++ [x]) W'))
    (W : World) (hBs : W.cell? ⟨Bs, 0, none⟩ = some (.slice (some ⟨gb, 0, none⟩) len cap)) (hc : ∀ j, j < len → W.cell? ⟨gb, j, none⟩ = some (.int .u8 ((z j).1 : Nat))) (h0 : J [] W) :
    CallsIn F n Tryz.prog 158 #[.func (.yield l) #[] #[], .pointer (some ⟨Bs, 0, none⟩)] W fun e W' => (∃ v, e = .returned v) ∧
      ((∃ ys, ys = came len z len ∧ J ys W') ∨ (∃ pre, (∃ k, k ≤ len ∧ pre = came len z k) ∧ Jx pre W')) := by
  refine callsIn_of_wp Tryz.func158 rfl h158 ?_ hro
  simp only [Tryz.ntmps158, List.size_toArray, List.length_cons, List.length_nil, Nat.reduceAdd, Nat.reduceSub, Array.replicate_succ, Array.replicate_zero, List.push_toArray, List.append_toArray, List.nil_append, List.cons_append]
  gi_wp2
  gi_loopw [3] (fun i wr => ∃ k : Nat, k ≤ len ∧ i = .int .i64 ((len : Int) - 1 - k) ∧ J (came len z k) wr ∧ KpS Bs gb W wr)
    (fun i _ => (intOf i + 1).toNat)
  case atStart => exact ⟨0, Nat.zero_le _, by simp, h0, fun _ _ _ => rfl⟩
  case round =>
    obtain ⟨k, hk, rfl, hJs, hnx⟩ := hrel
    have c1 : wr.cell? ⟨Bs, 0, none⟩ = some (.slice (some ⟨gb, 0, none⟩) len cap) := by
      rw [World.cell?_of_block (w := W) (hnx Bs (.inl rfl) (cells_of_cell hBs))]
      exact hBs
    by_cases hlt : k < len
    · have ei : (len : Int) - 1 - k = (len - 1 - k : Nat) := by omega
      obtain ⟨i, hi⟩ : ∃ i, i = len - 1 - k := ⟨_, rfl⟩
      rw [ei, ← hi]
      have hil : i < len := by omega
      have c2 : wr.cell? ⟨gb, i, none⟩ = some (.int .u8 ((z i).1 : Nat)) := by
        have h1 := hc i hil
        rw [World.cell?_of_block (w := W) (hnx gb (.inr rfl) (cells_of_cell h1))]
        exact h1
      obtain ⟨fn, tmps, assign, body, hy, hR⟩ := hY _ (i, z i) wr hJs (by rw [came_length]; exact hlt)
      dsimp only at hy
      have hd : decide (0 ≤ (i : Int)) = true := decide_eq_true (by omega)
      have hi2 : (i : Int) - 1 = (len : Int) - 1 - (k + 1 : Nat) := by omega
      have HI := Lib.hid (And.intro hi hi2)
      have HN := Lib.hid hnx
      clear hi hi2 ei hnx hc hBs
      gi_wp2
      refine hR.mono ?_
      rintro e W3 (⟨rfl, hJ3, hk3⟩ | ⟨rfl, hJx3⟩)
      · gi_wp2
        go_roundw
        case rel => exact ⟨k + 1, by omega, by rw [HI.out.2], by rw [came_succ, ← HI.out.1]; exact hJ3, HN.out.trans hk3⟩
        case measure => simp [intOf]
      · gi_wp2
        refine bodyPost_ret (results_none rfl _ _ _) rfl ?_
        exact ⟨⟨_, rfl⟩, .inr ⟨_, ⟨k + 1, by omega, by rw [came_succ, ← HI.out.1]⟩, hJx3⟩⟩
    · obtain rfl : k = len := by omega
      have ei : (k : Int) - 1 - k = -1 := by omega
      rw [ei]
      clear ei hc hnx hBs
      gi_wp2
      go_end0
      exact ⟨⟨_, rfl⟩, .inl ⟨_, rfl, hJs⟩⟩
set_option maxRecDepth 100000 in
set_option maxHeartbeats 1000000 in
theorem back1_nil_in (F : Fence) (n : Nat) (h158 : F.fn 158) (hro : F.round = none) (l Bs : Nat) (J : List (Nat × Fin 256) → World → Prop) (W : World) (hBs : W.cell? ⟨Bs, 0, none⟩ = some (.slice none 0 0)) (h0 : J [] W) :
    CallsIn F n Tryz.prog 158 #[.func (.yield l) #[] #[], .pointer (some ⟨Bs, 0, none⟩)] W fun e W' => (∃ v, e = .returned v) ∧ J [] W' := by
  refine callsIn_of_wp Tryz.func158 rfl h158 ?_ hro
  simp only [Tryz.ntmps158, List.size_toArray, List.length_cons, List.length_nil, Nat.reduceAdd, Nat.reduceSub, Array.replicate_succ, Array.replicate_zero, List.push_toArray, List.append_toArray, List.nil_append, List.cons_append]
  gi_wp2
  gi_loopw [3] (fun i wr => i = .int .i64 (-1) ∧ J [] wr) (fun _ _ => 0)
  case atStart => exact ⟨rfl, h0⟩
  case round =>
    obtain ⟨rfl, hJs⟩ := hrel
    gi_wp2
    go_end0
    exact ⟨⟨_, rfl⟩, hJs⟩
set_option maxHeartbeats 1000000 in
theorem back_in (F : Fence) (n : Nat) (h104 : F.fn 104) (hro : F.round = none) (a : Option Addr) (len cap : Nat) (w : World) :
    CallsIn F n Tryz.prog 104 #[.slice a len cap] w fun e w' => e = .returned (.func (.func 158) #[] #[.pointer (some ⟨w.heap.size, 0, none⟩)]) ∧ w' = w.alloc (.cells #[.slice a len cap] 22) := by
  refine callsIn_of_wp Tryz.func104 rfl h104 ?_ hro
  simp only [Tryz.ntmps104, List.size_toArray, List.length_cons, List.length_nil, Nat.reduceAdd, Nat.reduceSub, Array.replicate_succ, Array.replicate_zero, List.push_toArray, List.append_toArray, List.nil_append, List.cons_append]
  gi_wp2
  go_ret
  exact ⟨rfl, rfl⟩
/-- what slices.Backward hands back -/
theorem back_stops (F : Fence) (n : Nat) (h158 : F.fn 158) (hro : F.round = none) (hn : 1 ≤ n) (Bs gb len cap : Nat) (z : Nat → Fin 256) (hreach : len < 100000) (w : World) (hBs : Bs < w.heap.size) (hc : w.cell? ⟨Bs, 0, none⟩ = some (.slice (some ⟨gb, 0, none⟩) len cap)) (hgb : gb < w.heap.size) (hI : ∀ j, j < len → w.cell? ⟨gb, j, none⟩ = some (.int .u8 ((z j).1 : Nat))) :
    SeqStopsK F n Tryz.prog 158 #[.pointer (some ⟨Bs, 0, none⟩)] (fun x : Nat × Fin 256 => #[Value.int .i64 (x.1 : Nat), Value.int .u8 (x.2.1 : Nat)]) (KpS Bs gb) (fun ys => ys = came len z len) (fun pre => ∃ k, k ≤ len ∧ pre = came len z k) len w := fun l J Jx W hW _ _ hY h0 =>
  back1_in F n h158 hro hn l Bs gb len cap z hreach J Jx hY W ((hW.cell (p := ⟨Bs, 0, none⟩) hBs).trans hc) (fun j hj => (hW.cell (p := ⟨gb, j, none⟩) hgb).trans (hI j hj)) h0
theorem back_stops_nil (F : Fence) (n : Nat) (h158 : F.fn 158) (hro : F.round = none) (Bs gb : Nat) (z : Nat → Fin 256) (w : World) (hBs : Bs < w.heap.size) (hc : w.cell? ⟨Bs, 0, none⟩ = some (.slice none 0 0)) :
    SeqStopsK F n Tryz.prog 158 #[.pointer (some ⟨Bs, 0, none⟩)] (fun x : Nat × Fin 256 => #[Value.int .i64 (x.1 : Nat), Value.int .u8 (x.2.1 : Nat)]) (KpS Bs gb) (fun ys => ys = came 0 z 0) (fun pre => ∃ k, k ≤ 0 ∧ pre = came 0 z k) 0 w := fun l J _Jx W hW _ _ _hY h0 =>
  (back1_nil_in F n h158 hro l Bs J W ((hW.cell (p := ⟨Bs, 0, none⟩) hBs).trans hc) h0).mono fun _e _W' ⟨he, hj⟩ => ⟨he, .inl ⟨_, rfl, hj⟩⟩
end Go.Proofs.YtnadgcgnediakaaGreatDoor
