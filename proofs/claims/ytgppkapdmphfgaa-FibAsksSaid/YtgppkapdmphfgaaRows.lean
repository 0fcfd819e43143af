/-
  No cell of these rows narrows 'for every input' (looked for: loops, veiled, ifaces, maps, wideKeys, modest, calm, conditions, laid).
  DERIVED. THE GIVEN ROWS OF THIS SEAT. 5 by the template 'for every input the law returns true; each argument reads behind the call as it read before'; 0 by the template 'total and deterministic' (their statements: YtgppkapdmphfgaaTotals.lean).
  GIVEN WITH THE SEED: the statements are not yours to turn. If you find one false, say at which input.
  Laid BY PROGRAM, IN A SANDBOX (cutbox-rows.mjs): the forced cells as the released guide's own fill.sh prints them over the translation e667cf18dca811ff… (all of the seat's roots in one cut). By AI agents, Wed Nov 11 2026. No macro, syntax, notation, axiom, sorry.
-/
import Derived.Test.YtgppkapdmphfgaaChecked
import GoSem.Claim
import GoSem.ClaimJoined
import GoSem.ClaimMapViews
import Derived.JoinedTies
import Derived.KernelRfl
namespace Go.Proofs.Ytgppkapdmphfgaa
/- THE CELL 'sum', in the pinned program and in every row, IS THE sha256 OF THE DUMP (.gsa) THAT YtgppkapdmphfgaaProg.lean LOADS. Nothing in Lean hashes anything: it is a label: what it is worth is what the hold of that sum in a sandbox is worth. -/
noncomputable def Try.pinned : Pinned := { name := "ytgppkapdmphfgaa", sum := "e667cf18dca811fff8d59b89a5daafc968999fbe16e3ebe78fbbefa5526b80ab", checked := Try.checked }
namespace Rows
def none {H : Type} : Left H := { results := [], args := [] }

/-- 'scrimshawlaw4.FibMore': WHATEVER THE INPUT: true; the input reads as it did. -/
def fibMoreSpec : ChangeSpec := { name := "fibMore", fn := fun _ => fun
  | [d1, d2, d3] => { results := [.lit (.bool true)], args := [d1, d2, d3] }
  | _ => none }
def fibMoreRow : OpenClaim := { program := "ytgppkapdmphfgaa", sum := "e667cf18dca811fff8d59b89a5daafc968999fbe16e3ebe78fbbefa5526b80ab", func := "scrimshaw/scrimshawlaw4.FibMore", spec := "fibMore", apart := false }
def FibMoreSaid : Prop := fibMoreRow.holds Try.pinned (OpenSpec.ofChange fibMoreSpec)

/-- ITS FALSE NEIGHBOUR: 'it returns false'. Refute it at one input. -/
def fibMoreWrong : ChangeSpec := { name := "fibMore", fn := fun _ => fun
  | [d1, d2, d3] => { results := [.lit (.bool false)], args := [d1, d2, d3] }
  | _ => none }
def FibMoreWrongFalsely : Prop := fibMoreRow.holds Try.pinned (OpenSpec.ofChange fibMoreWrong)

/-- 'scrimshawlaw4.FibAsks': WHATEVER THE INPUT: true; the input reads as it did. -/
def fibAsksSpec : ChangeSpec := { name := "fibAsks", fn := fun _ => fun
  | [d1, d2] => { results := [.lit (.bool true)], args := [d1, d2] }
  | _ => none }
def fibAsksRow : OpenClaim := { program := "ytgppkapdmphfgaa", sum := "e667cf18dca811fff8d59b89a5daafc968999fbe16e3ebe78fbbefa5526b80ab", func := "scrimshaw/scrimshawlaw4.FibAsks", spec := "fibAsks", apart := false }
def FibAsksSaid : Prop := fibAsksRow.holds Try.pinned (OpenSpec.ofChange fibAsksSpec)

/-- ITS FALSE NEIGHBOUR: 'it returns false'. Refute it at one input. -/
def fibAsksWrong : ChangeSpec := { name := "fibAsks", fn := fun _ => fun
  | [d1, d2] => { results := [.lit (.bool false)], args := [d1, d2] }
  | _ => none }
def FibAsksWrongFalsely : Prop := fibAsksRow.holds Try.pinned (OpenSpec.ofChange fibAsksWrong)

/-- 'scrimshawlaw4.FibGrows': WHATEVER THE INPUT: true; the input reads as it did. -/
def fibGrowsSpec : ChangeSpec := { name := "fibGrows", fn := fun _ => fun
  | [d] => { results := [.lit (.bool true)], args := [d] }
  | _ => none }
def fibGrowsRow : OpenClaim := { program := "ytgppkapdmphfgaa", sum := "e667cf18dca811fff8d59b89a5daafc968999fbe16e3ebe78fbbefa5526b80ab", func := "scrimshaw/scrimshawlaw4.FibGrows", spec := "fibGrows", apart := false }
def FibGrowsSaid : Prop := fibGrowsRow.holds Try.pinned (OpenSpec.ofChange fibGrowsSpec)

/-- ITS FALSE NEIGHBOUR: 'it returns false'. Refute it at one input. -/
def fibGrowsWrong : ChangeSpec := { name := "fibGrows", fn := fun _ => fun
  | [d] => { results := [.lit (.bool false)], args := [d] }
  | _ => none }
def FibGrowsWrongFalsely : Prop := fibGrowsRow.holds Try.pinned (OpenSpec.ofChange fibGrowsWrong)

/-- 'scrimshawlaw4.FibLow': WHATEVER THE INPUT: true; the input reads as it did. -/
def fibLowSpec : ChangeSpec := { name := "fibLow", fn := fun _ => fun
  | [d] => { results := [.lit (.bool true)], args := [d] }
  | _ => none }
def fibLowRow : OpenClaim := { program := "ytgppkapdmphfgaa", sum := "e667cf18dca811fff8d59b89a5daafc968999fbe16e3ebe78fbbefa5526b80ab", func := "scrimshaw/scrimshawlaw4.FibLow", spec := "fibLow", apart := false }
def FibLowSaid : Prop := fibLowRow.holds Try.pinned (OpenSpec.ofChange fibLowSpec)

/-- ITS FALSE NEIGHBOUR: 'it returns false'. Refute it at one input. -/
def fibLowWrong : ChangeSpec := { name := "fibLow", fn := fun _ => fun
  | [d] => { results := [.lit (.bool false)], args := [d] }
  | _ => none }
def FibLowWrongFalsely : Prop := fibLowRow.holds Try.pinned (OpenSpec.ofChange fibLowWrong)

/-- 'scrimshawlaw4.FibShapes': WHATEVER THE INPUT: true; the input reads as it did. -/
def fibShapesSpec : ChangeSpec := { name := "fibShapes", fn := fun _ => fun
  | [d1, d2] => { results := [.lit (.bool true)], args := [d1, d2] }
  | _ => none }
def fibShapesRow : OpenClaim := { program := "ytgppkapdmphfgaa", sum := "e667cf18dca811fff8d59b89a5daafc968999fbe16e3ebe78fbbefa5526b80ab", func := "scrimshaw/scrimshawlaw4.FibShapes", spec := "fibShapes", apart := false }
def FibShapesSaid : Prop := fibShapesRow.holds Try.pinned (OpenSpec.ofChange fibShapesSpec)

/-- ITS FALSE NEIGHBOUR: 'it returns false'. Refute it at one input. -/
def fibShapesWrong : ChangeSpec := { name := "fibShapes", fn := fun _ => fun
  | [d1, d2] => { results := [.lit (.bool false)], args := [d1, d2] }
  | _ => none }
def FibShapesWrongFalsely : Prop := fibShapesRow.holds Try.pinned (OpenSpec.ofChange fibShapesWrong)

/- THE SECOND FORM. 'bulk': how many values and letters a reading holds, each counted each time it is reached (what is shared counts as often as it is met; a slice's spare places count too). A statement '..UptoSaid' is the law's where the arguments, and the package variables that the reading takes, are together of bulk at most 1048576: NARROWER than '..Said'. Prove '..Said' where nothing that the law and all that it calls make is longer than what came in: it says more and counts as full. Else prove '..UptoSaid'. A law counts once. -/
mutual
def uptoBulk {H : Type} : DataW H → Nat
  | .lit (.string bytes) => bytes.length + 1
  | .lit _ => 1
  | .nil => 1
  | .ptr d => uptoBulk d + 1
  | .slice elems spare => uptoBulkAll elems + uptoBulkAll spare + 1
  | .agg parts => uptoBulkAll parts + 1
  | .iface _ d => uptoBulk d + 1
  | .map entries => uptoBulkEntries entries + 1
  | .held _ => 1
def uptoBulkAll {H : Type} : List (DataW H) → Nat
  | [] => 0
  | d :: r => uptoBulk d + uptoBulkAll r
def uptoBulkEntries {H : Type} : List (Lit × DataW H) → Nat
  | [] => 0
  | x :: r => uptoBulkEntry x + uptoBulkEntries r
def uptoBulkEntry {H : Type} : Lit × DataW H → Nat
  | (.string bytes, d) => bytes.length + uptoBulk d + 1
  | (_, d) => uptoBulk d + 1
 end
def uptoSmall : (H : Type) → List (DataW H) → Bool := fun _ ds => decide (uptoBulkAll ds ≤ 1048576)
def OpenSpec.upto (s : _root_.Go.ChangeSpec) : _root_.Go.OpenSpec := { _root_.Go.OpenSpec.ofChange s with cond := some uptoSmall }

/-- 'scrimshawlaw4.FibMore', WHERE WHAT IT READS IS OF BULK AT MOST 1048576: true; the input reads as it did. -/
def fibMoreUptoRow : OpenClaim := { program := "ytgppkapdmphfgaa", sum := "e667cf18dca811fff8d59b89a5daafc968999fbe16e3ebe78fbbefa5526b80ab", func := "scrimshaw/scrimshawlaw4.FibMore", spec := "fibMore", apart := false, narrowed := true }
def FibMoreUptoSaid : Prop := fibMoreUptoRow.holds Try.pinned (OpenSpec.upto fibMoreSpec)

/-- 'scrimshawlaw4.FibAsks', WHERE WHAT IT READS IS OF BULK AT MOST 1048576: true; the input reads as it did. -/
def fibAsksUptoRow : OpenClaim := { program := "ytgppkapdmphfgaa", sum := "e667cf18dca811fff8d59b89a5daafc968999fbe16e3ebe78fbbefa5526b80ab", func := "scrimshaw/scrimshawlaw4.FibAsks", spec := "fibAsks", apart := false, narrowed := true }
def FibAsksUptoSaid : Prop := fibAsksUptoRow.holds Try.pinned (OpenSpec.upto fibAsksSpec)

/-- 'scrimshawlaw4.FibGrows', WHERE WHAT IT READS IS OF BULK AT MOST 1048576: true; the input reads as it did. -/
def fibGrowsUptoRow : OpenClaim := { program := "ytgppkapdmphfgaa", sum := "e667cf18dca811fff8d59b89a5daafc968999fbe16e3ebe78fbbefa5526b80ab", func := "scrimshaw/scrimshawlaw4.FibGrows", spec := "fibGrows", apart := false, narrowed := true }
def FibGrowsUptoSaid : Prop := fibGrowsUptoRow.holds Try.pinned (OpenSpec.upto fibGrowsSpec)

/-- 'scrimshawlaw4.FibLow', WHERE WHAT IT READS IS OF BULK AT MOST 1048576: true; the input reads as it did. -/
def fibLowUptoRow : OpenClaim := { program := "ytgppkapdmphfgaa", sum := "e667cf18dca811fff8d59b89a5daafc968999fbe16e3ebe78fbbefa5526b80ab", func := "scrimshaw/scrimshawlaw4.FibLow", spec := "fibLow", apart := false, narrowed := true }
def FibLowUptoSaid : Prop := fibLowUptoRow.holds Try.pinned (OpenSpec.upto fibLowSpec)

/-- 'scrimshawlaw4.FibShapes', WHERE WHAT IT READS IS OF BULK AT MOST 1048576: true; the input reads as it did. -/
def fibShapesUptoRow : OpenClaim := { program := "ytgppkapdmphfgaa", sum := "e667cf18dca811fff8d59b89a5daafc968999fbe16e3ebe78fbbefa5526b80ab", func := "scrimshaw/scrimshawlaw4.FibShapes", spec := "fibShapes", apart := false, narrowed := true }
def FibShapesUptoSaid : Prop := fibShapesUptoRow.holds Try.pinned (OpenSpec.upto fibShapesSpec)

end Rows
end Go.Proofs.Ytgppkapdmphfgaa
