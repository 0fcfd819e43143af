/- The walk of crc.Of. -/
import Derived.Test.YtmdbnmigpniiaaaMore
namespace Go.Proofs.Ytmdbnmigpniiaaa
open Go.ChangeShapes Go.WideShapes Go.ChangeAt Go.RowKit

structure Part where
  A : Option Addr
  len : Nat
  cap : Nat
  bs : List (BitVec 8)

def Part.val (p : Part) : Value := .slice p.A p.len p.cap
def Part.at (w : World) (B : Nat) (p : Part) : Prop := IsBytes w B p.A p.len p.bs ∧ p.len ≤ 9223372036854775807
def IsParts (w : World) (B : Nat) (A : Option Addr) (n : Nat) (ps : List Part) : Prop :=
  ps.length = n ∧ (0 < n → ∃ b off, A = some ⟨b, off, none⟩ ∧ b < B ∧ ∀ i p, ps[i]? = some p → p.at w B ∧ w.cell? ⟨b, off + i, none⟩ = some (.slice p.A p.len p.cap))

theorem more_part (s : BitVec 32) (p : Part) (w : World) (hp : p.at w w.heap.size) :
    Calls Try.prog 14 #[.int .u32 (V s), .slice p.A p.len p.cap] w fun e w' => e = .returned (.int .u32 (V (Crc.more s p.bs))) ∧ Below w.heap.size w w' :=
  more_any s p.A p.len p.cap p.bs w hp.1 hp.2

theorem Part.at.below {w w' : World} {B : Nat} {p : Part} (h : p.at w B) (hb : Below B w w') (B' : Nat) (hB : B ≤ B') : p.at w' B' := ⟨h.1.below hb B' hB, h.2⟩

theorem _root_.Go.Proofs.Ytmdbnmigpniiaaa.Crc.ofs_take (ps : List (List (BitVec 8))) (k : Nat) (c : List (BitVec 8)) (h : ps[k]? = some c) : Crc.ofs (ps.take (k + 1)) = Crc.more (Crc.ofs (ps.take k)) c := by
  obtain ⟨hk, rfl⟩ := List.getElem?_eq_some_iff.1 h
  rw [List.take_succ_eq_append_getElem hk]
  unfold Crc.ofs
  rw [List.foldl_append]
  rfl

theorem of_any (A : Option Addr) (n cap : Nat) (ps : List Part) (w : World) (hs : IsParts w w.heap.size A n ps) (hn : n ≤ 9223372036854775807) :
    Calls Try.prog 12 #[.slice A n cap] w fun e w' => e = .returned (.int .u32 (V (Crc.ofs (ps.map Part.bs)))) ∧ Below w.heap.size w w' := by
  have HS := Lib.hid hs
  clear hs
  have v0 : V 0#32 = 0 := rfl
  go_enter Try.func12, Try.ntmps12
  go_wp2_with fail
  go_loopw [3, 8] (fun s i wr => ∃ k : Nat, k ≤ n ∧ i = .int .i64 k ∧ s = .int .u32 (V (Crc.ofs ((ps.map Part.bs).take k))) ∧ Below w.heap.size w wr) (fun _ i _ => n - (intOf i).toNat)
  case atStart => exact ⟨0, by omega, rfl, rfl, Below.refl _ _⟩
  case round =>
    obtain ⟨k, hk, rfl, rfl, hb⟩ := hrel
    have hz := hb.size
    by_cases hlt : k < n
    · obtain ⟨b, off, rfl, hbs, hcell⟩ := HS.out.2 (by omega)
      obtain ⟨p, hpk⟩ : ∃ p, ps[k]? = some p := ⟨_, List.getElem?_eq_getElem (by have := HS.out.1; omega)⟩
      obtain ⟨hp, c0⟩ := hcell k p hpk
      have g0 := (hb.cell (p := ⟨b, off + k, none⟩) hbs).trans c0
      have HK := Lib.hid (Crc.ofs_take (ps.map Part.bs) k p.bs (by rw [List.getElem?_map, hpk]; rfl))
      have HP := Lib.hid hp
      clear hcell hpk c0 hp
      obtain ⟨t, ht⟩ : ∃ t, Crc.ofs ((ps.map Part.bs).take k) = t := ⟨_, rfl⟩
      rw [ht] at HK ⊢
      clear ht
      go_wp2_with fail
      refine (more_part t p _ (HP.out.below hb _ hz)).mono ?_
      rintro e w1 ⟨rfl, hb1⟩
      go_wp2_with fail
      go_roundw
      case rel => exact ⟨k + 1, by omega, by go_num, by rw [HK.out], hb.trans (hb1.mono hz)⟩
      case measure => simp [intOf]; omega
    · obtain rfl : k = n := by omega
      have HL := Lib.hid (show (ps.map Part.bs).take k = ps.map Part.bs from List.take_of_length_le (by have := HS.out.1; simp; omega))
      go_wp2_with fail
      go_ret
      exact ⟨ret_int (by rw [HL.out]), hb⟩

/-- one part, just laid: a slice of one slice -/
theorem of_one (p : Part) (w : World) (b : Nat) (hb : b < w.heap.size) (hp : p.at w w.heap.size) (h0 : w.cell? ⟨b, 0, none⟩ = some (.slice p.A p.len p.cap)) :
    Calls Try.prog 12 #[.slice (some ⟨b, 0, none⟩) 1 1] w fun e w' => e = .returned (.int .u32 (V (Crc.more 0#32 p.bs))) ∧ Below w.heap.size w w' :=
  of_any (some ⟨b, 0, none⟩) 1 1 [p] w ⟨rfl, fun _ => ⟨b, 0, rfl, hb, fun i x hx => by
    match i with
    | 0 => obtain rfl : p = x := by simpa using hx
           exact ⟨hp, by simpa using h0⟩
    | i + 1 => simp at hx⟩⟩ (by omega)
theorem of_two (p q : Part) (w : World) (b : Nat) (hb : b < w.heap.size) (hp : p.at w w.heap.size) (hq : q.at w w.heap.size) (h0 : w.cell? ⟨b, 0, none⟩ = some (.slice p.A p.len p.cap)) (h1 : w.cell? ⟨b, 1, none⟩ = some (.slice q.A q.len q.cap)) :
    Calls Try.prog 12 #[.slice (some ⟨b, 0, none⟩) 2 2] w fun e w' => e = .returned (.int .u32 (V (Crc.more (Crc.more 0#32 p.bs) q.bs))) ∧ Below w.heap.size w w' :=
  of_any (some ⟨b, 0, none⟩) 2 2 [p, q] w ⟨rfl, fun _ => ⟨b, 0, rfl, hb, fun i x hx => by
    match i with
    | 0 => obtain rfl : p = x := by simpa using hx
           exact ⟨hp, by simpa using h0⟩
    | 1 => obtain rfl : q = x := by simpa using hx
           exact ⟨hq, by simpa using h1⟩
    | i + 2 => simp at hx⟩⟩ (by omega)
theorem of_none (w : World) : Calls Try.prog 12 #[.slice none 0 0] w fun e w' => e = .returned (.int .u32 0) ∧ Below w.heap.size w w' :=
  of_any none 0 0 [] w ⟨rfl, by omega⟩ (by omega)
end Go.Proofs.Ytmdbnmigpniiaaa
