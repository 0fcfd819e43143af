/- The walk of fib.May. -/
import Derived.Test.YtgppkapdmphfgaaMay
namespace Go.Proofs.Ytgppkapdmphfgaa
open Go.ChangeShapes Go.WideShapes Go.ChangeAt Go.RowKit

structure Sh where
  L : Int
  H : Int
  V : Int
  N : Int

def Sh.ok (s : Sh) : Bool := mayB s.L s.H s.V s.N
def Sh.fits (s : Sh) : Prop := (-9223372036854775808 ≤ s.L ∧ s.L ≤ 9223372036854775807) ∧ (-9223372036854775808 ≤ s.H ∧ s.H ≤ 9223372036854775807) ∧ (-9223372036854775808 ≤ s.V ∧ s.V ≤ 9223372036854775807)

/-- a slice of shapes: its cells -/
def IsShapes (w : World) (B : Nat) (A : Option Addr) (len : Nat) (ss : List Sh) : Prop :=
  ss.length = len ∧ (0 < len → ∃ b off, A = some ⟨b, off, none⟩ ∧ b < B ∧ ∀ i s, ss[i]? = some s → s.fits ∧
    w.cell? ⟨b, off + i * 4, none⟩ = some (.int .i64 s.L) ∧ w.cell? ⟨b, off + i * 4 + 1, none⟩ = some (.int .i64 s.H) ∧ w.cell? ⟨b, off + i * 4 + 2, none⟩ = some (.int .i64 s.V) ∧ w.cell? ⟨b, off + i * 4 + 3, none⟩ = some (.int .i64 s.N))

theorem ret_bool {a b : Bool} (h : a = b) : Ending.returned (.bool a) = .returned (.bool b) := by rw [h]

theorem may_yes (s : Sh) (w : World) (hf : s.fits) (h : s.ok = true) :
    Calls Try.prog 16 #[.agg #[.int .i64 s.L, .int .i64 s.H, .int .i64 s.V, .int .i64 s.N]] w fun e w' => e = .returned (.bool true) ∧ Below w.heap.size w w' := by
  obtain ⟨⟨a, b⟩, ⟨c, d⟩, e, f⟩ := hf
  have := may_any s.L s.H s.V s.N w a b c d e f
  rw [show mayB s.L s.H s.V s.N = true from h] at this
  exact this
theorem may_no (s : Sh) (w : World) (hf : s.fits) (h : s.ok = false) :
    Calls Try.prog 16 #[.agg #[.int .i64 s.L, .int .i64 s.H, .int .i64 s.V, .int .i64 s.N]] w fun e w' => e = .returned (.bool false) ∧ Below w.heap.size w w' := by
  obtain ⟨⟨a, b⟩, ⟨c, d⟩, e, f⟩ := hf
  have := may_any s.L s.H s.V s.N w a b c d e f
  rw [show mayB s.L s.H s.V s.N = false from h] at this
  exact this

theorem mays_any (A : Option Addr) (len cap : Nat) (ss : List Sh) (w : World) (hs : IsShapes w w.heap.size A len ss) (hlen : len ≤ 1000000) :
    Calls Try.prog 12 #[.slice A len cap] w fun e w' => e = .returned (.bool (ss.all Sh.ok)) ∧ Below w.heap.size w w' := by
  obtain ⟨hl, hs⟩ := hs
  go_enter Try.func12, Try.ntmps12
  go_wp2
  go_loopw [7] (fun i wr => ∃ k : Nat, k ≤ len ∧ i = .int .i64 k ∧ (∀ j s, j < k → ss[j]? = some s → s.ok = true) ∧ Below w.heap.size w wr) (fun i _ => len - (intOf i).toNat)
  case atStart => exact ⟨0, by omega, rfl, by omega, Below.refl _ _⟩
  case round =>
    obtain ⟨k, hk, rfl, hok, hb⟩ := hrel
    by_cases hlt : k < len
    · obtain ⟨b, off, rfl, hbs, hcell⟩ := hs (by omega)
      obtain ⟨s, hsk⟩ : ∃ s, ss[k]? = some s := ⟨_, List.getElem?_eq_getElem (by omega)⟩
      obtain ⟨hfit, c0, c1, c2, c3⟩ := hcell k s hsk
      have g0 := (hb.cell (p := ⟨b, off + k * 4, none⟩) hbs).trans c0
      have g1 := (hb.cell (p := ⟨b, off + k * 4 + 1, none⟩) hbs).trans c1
      have g2 := (hb.cell (p := ⟨b, off + k * 4 + 2, none⟩) hbs).trans c2
      have g3 := (hb.cell (p := ⟨b, off + k * 4 + 3, none⟩) hbs).trans c3
      have hz := hb.size
      have HS := Lib.hid hsk
      have HO := Lib.hid hok
      clear hsk c0 c1 c2 c3 hcell hok
      by_cases hq : s.ok = true
      · have HQ := Lib.hid hq
        clear hq
        go_wp2_with (go_at_call 16; refine (may_yes s _ hfit HQ.out).mono ?_; rintro e w' ⟨rfl, hb1⟩)
        go_roundw
        case rel => exact ⟨k + 1, by omega, by go_num, by
          intro j s' hj hs'
          by_cases hjk : j < k
          · exact HO.out j s' hjk hs'
          · obtain rfl : j = k := by omega
            rw [HS.out] at hs'
            obtain rfl := Option.some.inj hs'
            exact HQ.out, (hb.alloc hz _).trans (hb1.mono (by simp; omega))⟩
        case measure => simp [intOf]; omega
      · have HQ := Lib.hid (by simpa using hq : s.ok = false)
        clear hq
        go_wp2_with (go_at_call 16; refine (may_no s _ hfit HQ.out).mono ?_; rintro e w' ⟨rfl, hb1⟩)
        go_ret
        refine ⟨ret_bool ?_, (hb.alloc hz _).trans (hb1.mono (by simp; omega))⟩
        symm
        rw [List.all_eq_false]
        exact ⟨s, List.mem_of_getElem? HS.out, by simp [HQ.out]⟩
    · go_wp2_with fail
      go_ret
      refine ⟨ret_bool ?_, hb⟩
      symm
      rw [List.all_eq_true]
      intro x hx
      obtain ⟨j, hj⟩ := List.getElem?_of_mem hx
      have := (List.getElem?_eq_some_iff.1 hj).1
      exact hok j x (by omega) hj
end Go.Proofs.Ytgppkapdmphfgaa
