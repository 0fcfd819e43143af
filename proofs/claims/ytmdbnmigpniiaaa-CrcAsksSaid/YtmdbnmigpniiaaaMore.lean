/- The walk of crc.More and crc.Of. -/
import Derived.Test.YtmdbnmigpniiaaaTable
namespace Go.Proofs.Ytmdbnmigpniiaaa
open Go.ChangeShapes Go.WideShapes Go.ChangeAt Go.RowKit

/-- a slice of bytes below block B: its cells -/
def IsBytes (w : World) (B : Nat) (A : Option Addr) (len : Nat) (bs : List (BitVec 8)) : Prop :=
  bs.length = len ∧ (0 < len → ∃ b off, A = some ⟨b, off, none⟩ ∧ b < B ∧ ∀ i c, bs[i]? = some c → w.cell? ⟨b, off + i, none⟩ = some (.int .u8 (W c)))
theorem IsBytes.below {w w' : World} {B : Nat} {A : Option Addr} {len : Nat} {bs : List (BitVec 8)} (h : IsBytes w B A len bs) (hb : Below B w w') (B' : Nat) (hB : B ≤ B') : IsBytes w' B' A len bs := by
  obtain ⟨h1, h2⟩ := h
  refine ⟨h1, fun hl => ?_⟩
  obtain ⟨b, off, e, hbb, hc⟩ := h2 hl
  exact ⟨b, off, e, by omega, fun i c hi => (hb.cell (p := ⟨b, off + i, none⟩) hbb).trans (hc i c hi)⟩

theorem oneCells (cs : Array Value) (hs : cs.size = 256) (hv : ∀ j, j < 256 → cs[j]? = some (.int .u32 (V (Crc.tbl j)))) : cs.all (·.oneCell') = true := by
  rw [Array.all_eq_true]
  intro i hi
  have h := hv i (by omega)
  rw [Array.getElem?_eq_getElem hi] at h
  injection h with h
  rw [h]
  rfl
theorem V_not (s : BitVec 32) : bits .xor .u32 IntKind.u32.max (V s) = V (~~~s) := by
  have e : IntKind.u32.max = V (BitVec.allOnes 32) := by decide
  rw [e, V_xor, BitVec.allOnes_xor]
theorem W_low (t : BitVec 32) (c : BitVec 8) : bits .xor .u8 (V t % 256) (W c) = W (t.setWidth 8 ^^^ c) := by
  have e : V t % 256 = ((t.setWidth 8).toNat : Int) := by
    unfold V
    rw [BitVec.toNat_setWidth]
    omega
  rw [e]
  unfold W
  rw [u8_xor_nat _ _ (t.setWidth 8).isLt c.isLt, BitVec.toNat_xor]
theorem _root_.Go.Proofs.Ytmdbnmigpniiaaa.Crc.run_take (s : BitVec 32) (bs : List (BitVec 8)) (k : Nat) (c : BitVec 8) (h : bs[k]? = some c) : Crc.run s (bs.take (k + 1)) = Crc.upd (Crc.run s (bs.take k)) c := by
  obtain ⟨hk, rfl⟩ := List.getElem?_eq_some_iff.1 h
  rw [List.take_succ_eq_append_getElem hk, Crc.run_append]
  rfl

set_option maxRecDepth 20000 in
theorem more_any (s : BitVec 32) (A : Option Addr) (len cap : Nat) (bs : List (BitVec 8)) (w : World) (hs : IsBytes w w.heap.size A len bs) (hlm : len ≤ 9223372036854775807) :
    Calls Try.prog 14 #[.int .u32 (V s), .slice A len cap] w fun e w' => e = .returned (.int .u32 (V (Crc.more s bs))) ∧ Below w.heap.size w w' := by
  obtain ⟨z, hz, hzs⟩ := zero39
  have HZS := Lib.hid hzs
  have HB := Lib.hid hs
  clear hzs hs
  have sb := V_bd s
  go_enter Try.func14, Try.ntmps14
  go_wp2_with fail
  refine (table_any _).mono ?_
  rintro e w1 ⟨⟨cs, rfl, hcs, hcv⟩, hb1⟩
  have HS := Lib.hid hcs
  have HV := Lib.hid hcv
  have HI := Lib.hid (show (Try.prog.info? 39).map (·.size) = some cs.size by rw [hcs]; kernel_rfl)
  clear hcs hcv
  go_wp2_with (refine wpList_store_row rfl 39 (.tmp 5) (.tmp 8) rfl w1.heap.size cs rfl rfl 39 z (heap_alloc_new _ _) HI.out ?h1 ?h2 ?_)
  case h1 => rw [HZS.out, HS.out]
  case h2 => exact oneCells cs HS.out HV.out
  have F1 : ((w1.alloc (Obj.cells z 39)).setRow w1.heap.size cs).heap[w1.heap.size]? = some (.cells cs 39 (0, 0)) := setRow_heap _ _ _ _ _ _ (heap_alloc_new _ _)
  have F2 : Below w.heap.size w ((w1.alloc (Obj.cells z 39)).setRow w1.heap.size cs) := (hb1.alloc hb1.size _).setRow hb1.size _
  generalize ((w1.alloc (Obj.cells z 39)).setRow w1.heap.size cs) = W2 at F1 F2 ⊢
  have G1 := Lib.hid F1
  have HB2 := Lib.hid (HB.out.below F2 w.heap.size (Nat.le_refl _))
  clear F1 hz
  go_loop [0, 13] (fun t i => ∃ k : Nat, k ≤ len ∧ i = .int .i64 k ∧ t = .int .u32 (V (Crc.run (~~~s) (bs.take k)))) (fun _ i => len - (intOf i).toNat)
  case atStart => exact ⟨0, by omega, rfl, by rw [V_not]; rfl⟩
  case round =>
    obtain ⟨k, hk, rfl, rfl⟩ := hrel
    by_cases hlt : k < len
    · obtain ⟨b, off, rfl, hbs, hcell⟩ := HB2.out.2 (by omega)
      obtain ⟨c, hck⟩ : ∃ c, bs[k]? = some c := ⟨_, List.getElem?_eq_getElem (by have := HB2.out.1; omega)⟩
      have g0 := hcell k c hck
      have HK := Lib.hid (Crc.run_take (~~~s) bs k c hck)
      clear hcell hck
      obtain ⟨t, ht⟩ : ∃ t, Crc.run (~~~s) (bs.take k) = t := ⟨_, rfl⟩
      rw [ht] at HK ⊢
      clear ht
      have tb := V_bd t
      have xb := W_bd (t.setWidth 8 ^^^ c)
      have e1 : bits .xor .u8 (V t % 256) (W c) = W (t.setWidth 8 ^^^ c) := W_low t c
      have e2 : W2.cell? ⟨w1.heap.size, (W (t.setWidth 8 ^^^ c)).toNat, none⟩ = some (.int .u32 (V (Crc.tbl (t.setWidth 8 ^^^ c).toNat))) := by
        rw [cell_of_row W2 _ _ cs 39 (0, 0) G1.out]
        exact HV.out _ (by omega)
      have e3 : bits .xor .u32 (V (Crc.tbl (t.setWidth 8 ^^^ c).toNat)) (V t / 256) = V (Crc.upd t c) := by
        rw [V_shr8, V_xor]; rfl
      generalize t.setWidth 8 ^^^ c = x at *
      go_wp2_with fail
      go_round
      case rel => exact ⟨k + 1, by omega, by go_num, by rw [HK.out]⟩
      case measure => simp [intOf]; omega
    · obtain rfl : k = len := by omega
      have e := V_not (Crc.run (~~~s) (bs.take k))
      have HL := Lib.hid (show bs.take k = bs from List.take_of_length_le (by have := HB2.out.1; omega))
      go_wp2_with fail
      go_ret
      exact ⟨ret_int (by rw [HL.out]; rfl), F2⟩
end Go.Proofs.Ytmdbnmigpniiaaa
