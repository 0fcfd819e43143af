/- The walk of told. -/
import Derived.Test.YtmdbnmigpniiaaaOf
import Derived.Lib.SlBytesConst
import Derived.Lib.SmallJoins
namespace Go.Proofs.Ytmdbnmigpniiaaa
open Go.ChangeShapes Go.WideShapes Go.ChangeAt Go.RowKit

theorem eV {s : BitVec 32} {n : Int} (h : V s = n) (w : World) {f : FuncId} {a : Array Value} {Q : World → Prop}
    (c : Calls Try.prog f a w fun e w' => e = .returned (.int .u32 (V s)) ∧ Q w') : Calls Try.prog f a w fun e w' => e = .returned (.int .u32 n) ∧ Q w' := by
  rw [← h]; exact c

/-- a new row of literal bytes -/
theorem bytes_new (w : World) (bs : List (BitVec 8)) (cs : Array Value) (fr : Nat × Nat) (h : cs = (bs.map fun c => Value.int .u8 (W c)).toArray) (b n : Nat) (hb : b = w.heap.size) (hn : n = bs.length) :
    IsBytes (w.alloc (.cells cs 5 fr)) (w.alloc (.cells cs 5 fr)).heap.size (some ⟨b, 0, none⟩) n bs := by
  subst hb hn h
  refine ⟨rfl, fun _ => ⟨_, 0, rfl, by simp, fun i c hi => ?_⟩⟩
  rw [World.cell?_alloc_mark]
  simp [hi]

def b9 : List (BitVec 8) := [49#8, 50#8, 51#8, 52#8, 53#8, 54#8, 55#8, 56#8, 57#8]
def b4 : List (BitVec 8) := [49#8, 50#8, 51#8, 52#8]
def b5 : List (BitVec 8) := [53#8, 54#8, 55#8, 56#8, 57#8]
theorem more_b9 : V (Crc.more 0#32 b9) = 3421780262 := by decide +kernel
theorem more_b45 : V (Crc.more (Crc.more 0#32 b4) b5) = 3421780262 := by decide +kernel
theorem step_1f : V (Crc.step 1#32 false) = 3988292384 := by decide +kernel
theorem step_1t : V (Crc.step 1#32 true) = 0 := by decide +kernel

theorem told_any (w : World) : Calls Try.prog 11 #[] w fun e w' => e = .returned (.bool true) ∧ Below w.heap.size w w' := by
  have kc := fun (w : World) (C : Array Value) (n c g : Nat) (hg : g = w.heap.size) => Joins.run_convert_bytes_const_at (P := Try.prog) w 25 5 C n c g hg Try.underlying25 Try.underlying5
  go_enter Try.func11, Try.ntmps11
  go_wp2_with fail
  refine (eV more_b9 _ (of_one ⟨some ⟨w.heap.size, 0, none⟩, 9, 9, b9⟩ _ (w.heap.size + 1) (by simp) ⟨(bytes_new w b9 _ _ rfl _ _ rfl rfl).below ((Below.refl _ _).alloc (Nat.le_refl _) _) _ (by simp), (by decide : 9 ≤ 9223372036854775807)⟩ (by simp))).mono ?_
  rintro e w1 ⟨rfl, hb1⟩
  go_wp2_with fail
  refine (of_none _).mono ?_
  rintro e w2 ⟨rfl, hb2⟩
  go_wp2_with fail
  refine (eV more_b45 _ (of_two ⟨some ⟨w2.heap.size, 0, none⟩, 4, 4, b4⟩ ⟨some ⟨w2.heap.size + 1, 0, none⟩, 5, 5, b5⟩ _ (w2.heap.size + 1 + 1) ?z ?p ?q ?c0 ?c1)).mono ?_
  case z => simp
  case p => exact ⟨(bytes_new w2 b4 _ _ rfl _ _ rfl rfl).below (((Below.refl _ _).alloc (Nat.le_refl _) _).alloc (by simp) _) _ (by simp), (by decide : 4 ≤ 9223372036854775807)⟩
  case q => exact ⟨(bytes_new (w2.alloc _) b5 _ _ rfl _ _ (by simp) rfl).below ((Below.refl _ _).alloc (Nat.le_refl _) _) _ (by simp), (by decide : 5 ≤ 9223372036854775807)⟩
  case c0 => rw [World.cell?_alloc_at _ _ _ _ (by simp)]; rfl
  case c1 => rw [World.cell?_alloc_at _ _ _ _ (by simp)]; rfl
  rintro e w3 ⟨rfl, hb3⟩
  clear kc
  go_wp2_with fail
  refine (eV step_1f (Q := fun w' => w3 = w') _ (step_core 1#32 false w3)).mono ?_
  rintro e w4 ⟨rfl, rfl⟩
  go_wp2_with fail
  refine (eV step_1t (Q := fun w' => w3 = w') _ (step_core 1#32 true w3)).mono ?_
  rintro e w4 ⟨rfl, rfl⟩
  go_wp2_with fail
  go_ret
  have k1 := hb1.size
  have k2 := hb2.size
  have k3 := hb3.size
  simp at k1 k2 k3
  exact ⟨rfl, (((Below.refl _ _).alloc (Nat.le_refl _) _).alloc (by simp) _).trans <| (hb1.mono (by simp; omega)).trans <| (hb2.mono (by omega)).trans <| ((((Below.refl _ _).alloc (by omega) _).alloc (by simp; omega) _).alloc (by simp; omega) _).trans (hb3.mono (by simp; omega))⟩
end Go.Proofs.Ytmdbnmigpniiaaa
