/- For the laws whose statements draw their order: claims on rows of slices, cuts of slices. -/
import Derived.Test.YtmdbnmigpniiaaaBurst
import Derived.Test.YtmdbnmigpniiaaaRegion
import Derived.Deep.Cut
import Derived.Deep.CutRange
import Derived.Deep.LoopGhost
import Derived.StillTailTactics
import Derived.OneCell
import Derived.RegionTactic
import Derived.BigRegion
import Derived.ArgAppend
import Derived.Deep.Onto
namespace Go.Proofs.Ytmdbnmigpniiaaa
open Go.ChangeShapes Go.WideShapes Go.ChangeAt Go.RowKit

def Grew (x y : World) : Prop := Below x.heap.size x y
theorem Grew.refl (x : World) : Grew x x := Below.refl _ _
theorem Grew.trans (x y z : World) (h : Grew x y) (k : Grew y z) : Grew x z := Below.trans h (k.mono h.size)

theorem Grew.of_drew {w w1 : World} (h : Grew w.drew w1) : Below w.heap.size w w1 := ⟨h.os, h.tape, h.output, h.size, h.block⟩

/-- a new row of one slice; of two -/
def Row1 (c : Value) (v : Value) (w : World) : Prop := ∃ b, v = .slice (some ⟨b, 0, none⟩) 1 1 ∧ b < w.heap.size ∧ w.cell? ⟨b, 0, none⟩ = some c
def Row2 (c d : Value) (v : Value) (w : World) : Prop := ∃ b, v = .slice (some ⟨b, 0, none⟩) 2 2 ∧ b < w.heap.size ∧ w.cell? ⟨b, 0, none⟩ = some c ∧ w.cell? ⟨b, 1, none⟩ = some d
theorem Row1.grew {c v : Value} {x y : World} (h : Row1 c v x) (g : Grew x y) : Row1 c v y := by
  obtain ⟨b, e, hb, hc⟩ := h
  exact ⟨b, e, Nat.lt_of_lt_of_le hb g.size, (Below.cell (p := ⟨b, 0, none⟩) g hb).trans hc⟩
theorem Row2.grew {c d v : Value} {x y : World} (h : Row2 c d v x) (g : Grew x y) : Row2 c d v y := by
  obtain ⟨b, e, hb, hc, hd⟩ := h
  exact ⟨b, e, Nat.lt_of_lt_of_le hb g.size, (Below.cell (p := ⟨b, 0, none⟩) g hb).trans hc, (Below.cell (p := ⟨b, 1, none⟩) g hb).trans hd⟩
theorem Row1.new (w : World) (c : Value) (t : TypeId) : Row1 c (.slice (some ⟨w.heap.size, 0, none⟩) 1 1) (w.alloc (.cells #[c] t)) := ⟨_, rfl, by simp, by simp⟩
theorem Row2.new (w : World) (c d : Value) (t : TypeId) : Row2 c d (.slice (some ⟨w.heap.size, 0, none⟩) 2 2) (w.alloc (.cells #[c, d] t)) := ⟨_, rfl, by simp, by simp, by simp⟩
theorem Grew.alloc (w : World) (o : Obj) : Grew w (w.alloc o) := (Below.refl _ _).alloc (Nat.le_refl _) _

theorem of_row1 (p : Part) (v : Value) (w : World) (B : Nat) (hB : B ≤ w.heap.size) (hp : p.at w B) (h : Row1 (.slice p.A p.len p.cap) v w) :
    Calls Try.prog 12 #[v] w fun e w' => e = .returned (.int .u32 (V (Crc.more 0#32 p.bs))) ∧ Grew w w' := by
  obtain ⟨b, rfl, hb, hc⟩ := h
  exact of_one p w b hb (hp.below (Below.refl _ _) _ hB) hc
theorem of_row2 (p q : Part) (v : Value) (w : World) (B : Nat) (hB : B ≤ w.heap.size) (hp : p.at w B) (hq : q.at w B) (h : Row2 (.slice p.A p.len p.cap) (.slice q.A q.len q.cap) v w) :
    Calls Try.prog 12 #[v] w fun e w' => e = .returned (.int .u32 (V (Crc.more (Crc.more 0#32 p.bs) q.bs))) ∧ Grew w w' := by
  obtain ⟨b, rfl, hb, hc, hd⟩ := h
  exact of_two p q w b hb (hp.below (Below.refl _ _) _ hB) (hq.below (Below.refl _ _) _ hB) hc hd

/-- a cut of a slice of bytes -/
theorem IsBytes.cut {w : World} {B : Nat} {A : Option Addr} {len cap : Nat} {bs : List (BitVec 8)} (h : IsBytes w B A len bs) (l h' : Nat) (h1 : l ≤ h') (h2 : h' ≤ len) (h3 : len ≤ cap) :
    IsBytes w B (if cap = l then A else A.map (·.add (l * 1))) (h' - l) ((bs.take h').drop l) := by
  obtain ⟨hl, hc⟩ := h
  refine ⟨by simp; omega, fun hlt => ?_⟩
  obtain ⟨b, off, rfl, hb, hcell⟩ := hc (by omega)
  refine ⟨b, off + l, ?_, hb, fun i c hi => ?_⟩
  · rw [if_neg (by omega)]
    simp [Addr.add]
  · rw [List.getElem?_drop] at hi
    have hil : l + i < h' := by
      have := (List.getElem?_eq_some_iff.1 hi).1
      simp at this; omega
    rw [List.getElem?_take_of_lt hil] at hi
    rw [Nat.add_assoc]
    exact hcell _ c hi

theorem cut_hi (a : Option Addr) (len cap k : Nat) (h : k ≤ cap) (w : World) :
    (Instr.slice 25 (.slice a len cap) none (some (.int .i64 k)) none).run Try.prog w = .ok (.slice (if cap = 0 then a else a.map (·.add (0 * 1))) (k - 0) (cap - 0)) w := by
  have hs : (sizeOf (Try.prog.elem 25)).run Try.prog w = .ok 1 w := by
    have hi : (Try.prog.info? (Try.prog.elem 25)).map (·.size) = some 1 := by kernel_rfl
    obtain ⟨i, hi1, hi2⟩ := Option.map_eq_some_iff.1 hi
    simp [sizeOf, typeInfo, hi1, hi2]
  rw [run_slice_h w 25 a len cap (by kernel_rfl) .i64 k (by omega) (by omega), hs]
  simp [Result.andThen, sliced]
theorem cut_lo (a : Option Addr) (len cap k : Nat) (h : k ≤ len) (w : World) :
    (Instr.slice 25 (.slice a len cap) (some (.int .i64 k)) none none).run Try.prog w = .ok (.slice (if cap = k then a else a.map (·.add (k * 1))) (len - k) (cap - k)) w := by
  have hs : (sizeOf (Try.prog.elem 25)).run Try.prog w = .ok 1 w := by
    have hi : (Try.prog.info? (Try.prog.elem 25)).map (·.size) = some 1 := by kernel_rfl
    obtain ⟨i, hi1, hi2⟩ := Option.map_eq_some_iff.1 hi
    simp [sizeOf, typeInfo, hi1, hi2]
  rw [run_slice_l w 25 a len cap (by kernel_rfl) .i64 k (by omega) (by omega), hs]
  simp [Result.andThen, sliced]
theorem zeros_own (w : World) (base K : Nat) (hb : base ≤ w.heap.size) (hK : K ≤ 100) : (w.alloc (.cells (madeCells #[.int .u8 0] K) 5)).ownsRow base 5 1 (.slice (some ⟨w.heap.size, 0, none⟩) K K) K (u8s (List.replicate K 0#8)) := by
  have h := World.ownsRow_lit (base := base) (e := 5) (size := 1) w (madeCells #[.int .u8 0] K) K hb (by unfold maxLen; omega) (by rw [size_madeCells]; omega)
  have e : (madeCells #[.int .u8 0] K).toList = u8s (List.replicate K 0#8) := by
    unfold madeCells u8s
    apply List.ext_getElem
    · simp
    · intro i h1 h2
      simp [Nat.mod_one]
      rfl
  rwa [e] at h

theorem W_xor (a b : BitVec 8) : bits .xor .u8 (W a) (W b) = W (a ^^^ b) := by
  unfold W
  rw [u8_xor_nat _ _ a.isLt b.isLt, BitVec.toNat_xor]
/-- an empty slice that the call made -/
def Emp (v : Value) : Prop := ∃ b, v = .slice (some ⟨b, 0, none⟩) 0 0
/-- bytes of the call's own -/
def OwnB (B0 : Nat) (cs : List (BitVec 8)) (n : Nat) (v : Value) (w : World) : Prop := ∃ g c, v = .slice (some ⟨g, 0, none⟩) n c ∧ w.ownsRow B0 5 1 (.slice (some ⟨g, 0, none⟩) n c) n (u8s cs)
theorem OwnB.grew {B0 n : Nat} {cs : List (BitVec 8)} {v : Value} {x y : World} (h : OwnB B0 cs n v x) (g : Grew x y) : OwnB B0 cs n v y := by
  obtain ⟨b, c, e, ho⟩ := h
  exact ⟨b, c, e, ho.kept (row := none) ⟨g.os, g.tape, g.output, g.size, fun i hi _ => g.block i hi⟩ (.inr (by simp [Value.ownBlock]))⟩
theorem OwnB.lt {B0 n : Nat} {cs : List (BitVec 8)} {v : Value} {x : World} (h : OwnB B0 cs n v x) : ∃ g, v.ownBlock = some g ∧ g < x.heap.size := by
  obtain ⟨b, c, rfl, ho⟩ := h
  exact ⟨b, rfl, (ho.lt b rfl).2⟩

theorem Emp.new (b : Nat) : Emp (.slice (some ⟨b, 0, none⟩) 0 0) := ⟨b, rfl⟩
theorem OwnB.of {B B0 m : Nat} {cs : List (BitVec 8)} {v : Value} {w : World} (ho : w.ownsRow B 5 1 v m (u8s cs)) (hB : B0 ≤ B) (hm : 0 < m) : OwnB B0 cs m v w := by
  obtain ⟨g, c, hv, _, _⟩ := ho.form hm
  subst hv
  exact ⟨g, c, rfl, ho.mono hB⟩

theorem wp_append_copy {o : Oper} {a : Act} {w : World} {K : Act → World → Prop} {Q : Exit → Act → World → Prop} (s x : Operand)
    (ho : o.op = .call { callee := .builtin .append, args := #[s, x], argTypes := #[25, 25] }) (B : Nat) (A : Option Addr) (m c : Nat) (cs : List (BitVec 8))
    (hs : Emp (a.eval s)) (hx : a.eval x = .slice A m c) (hb : IsBytes w B A m cs) (h0 : 0 < m) (h1 : m ≤ 1000)
    (h : ∀ v' w', w'.ownsRow w.heap.size 5 1 v' m (u8s cs) → Grew w w' → K (a.put o.dst v') w') : o.wp Try.prog a w K Q := by
  obtain ⟨i0, hi0, hz0, hz1, hz2⟩ := info_parts info5
  obtain ⟨hl, hc⟩ := hb
  obtain ⟨b, off, rfl, hbb, hcell⟩ := hc h0
  obtain ⟨g, hg⟩ := hs
  have hnews : ∀ j v, (u8s cs)[j]? = some v → w.cell? ((⟨b, off, none⟩ : Addr).add j) = some v := by
    intro j v hv
    rw [show (⟨b, off, none⟩ : Addr).add j = ⟨b, off + j, none⟩ by simp [Addr.add]]
    unfold u8s at hv
    rw [List.getElem?_map] at hv
    cases hb : cs[j]? with
    | none => rw [hb] at hv; cases hv
    | some d => rw [hb] at hv; injection hv with hv; rw [← hv]; exact hcell j d hb
  obtain ⟨v', w', hrun, r1, r2⟩ := run_append_arg_grows (P := Try.prog) w 25 o.type 5 i0 (.int .u8 0) 1 1 Try.underlying25 hi0 hz0 hz1 hz2 rfl (by decide) ⟨g, 0, none⟩ 0 0 [] rfl (fun j u hu => by simp at hu)
    ⟨b, off, none⟩ m c (u8s cs) (by rw [u8s_len]; omega) hnews (by omega) (by unfold maxLen; omega) (by omega)
  rw [Nat.zero_add, List.nil_append] at r1
  unfold Oper.wp
  simp [execOp, ho, resolve, invoke, builtin, hg, hx, hrun, Result.andThen]
  exact h v' w' r1 ⟨r2.os, r2.tape, r2.output, r2.size, fun k hk => r2.block k hk (by simp)⟩
end Go.Proofs.Ytmdbnmigpniiaaa
