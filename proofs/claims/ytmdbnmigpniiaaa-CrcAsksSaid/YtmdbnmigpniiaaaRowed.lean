/- What the walks of the laws are told of a slice of bytes that came in. -/
import Derived.Test.YtmdbnmigpniiaaaTold
import Derived.ChangeOld
import Derived.Below
import Derived.ShutString
namespace Go.Proofs.Ytmdbnmigpniiaaa
open Go.ChangeShapes Go.WideShapes Go.ChangeAt Go.RowKit

/-- a slice of integers that came in: nil, or a row of 'cap' cells that fit their kind -/
def IsRow (k : IntKind) (w : World) (a : Option Addr) (len cap : Nat) (zs : List Int) : Prop :=
  (a = none ∧ len = 0 ∧ cap = 0 ∧ zs = []) ∨
  ∃ x, a = some x ∧ len ≤ cap ∧ cap ≤ maxLen ∧ zs.length = cap ∧ (∀ i, i < zs.length → w.cell? (x.add i) = some (.int k (zs.getD i 0))) ∧ ∀ n ∈ zs, (Lit.int k n).wf = true

theorem rowBytes {w : World} {a : Option Addr} {len cap : Nat} {zs : List Int} (h : IsRow .u8 w a len cap zs) :
    ∃ bs, IsBytes w w.heap.size a len bs ∧ len ≤ cap ∧ cap ≤ 9223372036854775807 := by
  rcases h with ⟨rfl, rfl, rfl, rfl⟩ | ⟨x, rfl, hl, hm, hz, hc, hw⟩
  · exact ⟨[], ⟨rfl, by omega⟩, by omega, by omega⟩
  · unfold maxLen at hm
    refine ⟨(zs.take len).map fun z => BitVec.ofNat 8 z.toNat, ⟨by simp; omega, fun hlen => ?_⟩, hl, by omega⟩
    have h0 := hc 0 (by omega)
    obtain ⟨b, off, spot⟩ := x
    have hspot : spot = none := by simpa [Addr.add] using World.cell?_spot h0
    subst hspot
    refine ⟨b, off, rfl, ?_, fun i c hi => ?_⟩
    · rcases Nat.lt_or_ge b w.heap.size with hlt | hge
      · exact hlt
      · simp [World.cell?, Addr.add, Array.getElem?_eq_none hge] at h0
    · have hil : i < len := by
        have := (List.getElem?_eq_some_iff.1 hi).1
        simp at this; omega
      have hci := hc i (by omega)
      have hg : zs[i]? = some (zs.getD i 0) := by
        rw [List.getD_eq_getElem?_getD, List.getElem?_eq_getElem (by omega)]; rfl
      have hb := bounds_u8 (hw (zs.getD i 0) (List.mem_of_getElem? hg))
      rw [List.getElem?_map, List.getElem?_take_of_lt hil, hg] at hi
      simp only [Option.map_some, Option.some.injEq] at hi
      subst hi
      have ad : (⟨b, off, none⟩ : Addr).add i = ⟨b, off + i, none⟩ := by simp [Addr.add]
      rw [ad] at hci
      rw [hci]
      congr 2
      unfold W
      rw [BitVec.toNat_ofNat, Nat.mod_eq_of_lt (by omega)]
      omega

theorem V_ex {a : Int} (h : (Lit.int .u32 a).wf = true) : ∃ p : BitVec 32, a = V p := by
  have hb := bounds_u32 h
  refine ⟨BitVec.ofNat 32 a.toNat, ?_⟩
  rw [V_lit _ (by omega)]
  omega
theorem W_ex {a : Int} (h : (Lit.int .u8 a).wf = true) : ∃ p : BitVec 8, a = W p := by
  have hb := bounds_u8 h
  refine ⟨BitVec.ofNat 8 a.toNat, ?_⟩
  unfold W
  rw [BitVec.toNat_ofNat, Nat.mod_eq_of_lt (by omega)]
  omega

theorem V_b0 (s : BitVec 32) : V s % 256 = W (s.setWidth 8) := by
  unfold V W; rw [BitVec.toNat_setWidth]; omega
theorem V_b8 (s : BitVec 32) : V s / 256 % 256 = W ((s >>> (8 : Nat)).setWidth 8) := by
  rw [V_shr8, V_b0]
theorem V_b16 (s : BitVec 32) : V s / 65536 % 256 = W ((s >>> (16 : Nat)).setWidth 8) := by
  unfold V W; rw [BitVec.toNat_setWidth, BitVec.toNat_ushiftRight, Nat.shiftRight_eq_div_pow]; omega
theorem V_b24' (s : BitVec 32) : V s / 16777216 = W ((s >>> (24 : Nat)).setWidth 8) := by
  have := s.isLt
  unfold V W; rw [BitVec.toNat_setWidth, BitVec.toNat_ushiftRight, Nat.shiftRight_eq_div_pow]; omega
theorem le4_cells (s : BitVec 32) : #[Value.int .u8 (V s % 256), Value.int .u8 (V s / 256 % 256), Value.int .u8 (V s / 65536 % 256), Value.int .u8 (V s / 16777216)] = ((Crc.le4 s).map fun c => Value.int .u8 (W c)).toArray := by
  rw [V_b0, V_b8, V_b16, V_b24']; rfl
theorem ends_val (s : BitVec 32) (bs : List (BitVec 8)) (h : Crc.more 0#32 bs = s) : V (Crc.more (Crc.more 0#32 bs) (Crc.le4 s)) = 558161692 := by
  rw [h, Crc.more_ends]; decide
theorem V_b24 (s : BitVec 32) : V s / 16777216 % 256 = W ((s >>> (24 : Nat)).setWidth 8) := by
  unfold V W; rw [BitVec.toNat_setWidth, BitVec.toNat_ushiftRight, Nat.shiftRight_eq_div_pow]; omega
end Go.Proofs.Ytmdbnmigpniiaaa
