/- The walks of tally: Of, Add, Below. The walk of tally.Which. -/
import Derived.Test.YtnadgcgnediakaaGreatDoorH06
import Derived.Test.YtnadgcgnediakaaGreatDoorH01
import Derived.Deep.LoopGhost
namespace Go.Proofs.YtnadgcgnediakaaGreatDoor
open Go.ChangeShapes Go.WideShapes Go.ChangeAt Go.RowKit Go.Deep

/-- how many of each symbol, and in all -/
structure IsTally (w : World) (g : Nat) (C : Nat → Nat) (all : Nat) : Prop where
  row : ∃ cur : Array Value, w.heap[g]? = some (.cells cur 179 (0, 0)) ∧ cur.size = 258 ∧ (∀ i, i < 257 → cur[i]? = some (.int .i64 (C i))) ∧ cur[257]? = some (.int .i64 all)
theorem IsTally.c {w : World} {g : Nat} {C : Nat → Nat} {all : Nat} (h : IsTally w g C all) (i : Nat) (hi : i < 257) : w.cell? ⟨g, i, none⟩ = some (.int .i64 (C i)) := by
  obtain ⟨cur, h1, h2, h3, h4⟩ := h.row
  rw [Joins.cell_of_block h1]; exact h3 i hi
theorem IsTally.a {w : World} {g : Nat} {C : Nat → Nat} {all : Nat} (h : IsTally w g C all) : w.cell? ⟨g, 257, none⟩ = some (.int .i64 all) := by
  obtain ⟨cur, h1, h2, h3, h4⟩ := h.row
  rw [Joins.cell_of_block h1]; exact h4
theorem IsTally.f {w : World} {g : Nat} {C : Nat → Nat} {all : Nat} (h : IsTally w g C all) (i : Nat) : w.frozen? ⟨g, i, none⟩ = false := by
  obtain ⟨cur, h1, h2, h3, h4⟩ := h.row
  exact Joins.unfrozen_of_block h1 i
theorem IsTally.lt {w : World} {g : Nat} {C : Nat → Nat} {all : Nat} (h : IsTally w g C all) : g < w.heap.size := by
  obtain ⟨cur, h1, _⟩ := h.row
  exact lt_of_block h1
theorem IsTally.same {w w' : World} {g : Nat} {C : Nat → Nat} {all : Nat} (h : IsTally w g C all) (hs : w'.heap[g]? = w.heap[g]?) : IsTally w' g C all := by
  obtain ⟨cur, h1, h2⟩ := h.row
  exact ⟨cur, hs.trans h1, h2⟩

theorem IsTally.add {w : World} {g s : Nat} {C : Nat → Nat} {all : Nat} (h : IsTally w g C all) (hs : s < 257) :
    IsTally ((w.setCell ⟨g, s, none⟩ (.int .i64 ((C s : Nat) + 1))).setCell ⟨g, 257, none⟩ (.int .i64 ((all : Nat) + 1))).drew g (fun i => if i = s then C s + 1 else C i) (all + 1) := by
  obtain ⟨cur, h1, h2, h3, h4⟩ := h.row
  refine ⟨(cur.setIfInBounds s (.int .i64 ((C s : Nat) + 1))).setIfInBounds 257 (.int .i64 ((all : Nat) + 1)), ?_, by simpa using h2, fun i hi => ?_, ?_⟩
  · rw [heap_drew]
    exact Joins.block_setCell (Joins.block_setCell h1 _) _
  · rw [Array.getElem?_setIfInBounds_ne (by omega)]
    by_cases e : i = s
    · subst e
      rw [Array.getElem?_setIfInBounds_self_of_lt (by omega), if_pos rfl]
      rfl
    · rw [Array.getElem?_setIfInBounds_ne (by omega), if_neg e]
      exact h3 i hi
  · rw [Array.getElem?_setIfInBounds_self_of_lt (by simp; omega)]
    rfl

theorem tof_any (g s : Nat) (C : Nat → Nat) (all : Nat) (w : World) (h : IsTally w g C all) (hs : s < 257) :
    Calls Tryz.prog 171 #[.pointer (some ⟨g, 0, none⟩), .int .i64 s] w fun e w' => e = .returned (.int .i64 (C s)) ∧ w = w' := by
  have c := h.c s hs
  have SI := Lib.hid (fun wx => sis_sym s hs wx)
  clear h
  go_enter Tryz.func171, Tryz.ntmps171
  go_wp2_with (go_at_call 99; refine (SI.out _).mono ?_; rintro e w' ⟨rfl, rfl⟩)
  go_ret
  exact ⟨rfl, rfl⟩

/-- how many are less -/
def sumC (C : Nat → Nat) : Nat → Nat
  | 0 => 0
  | k + 1 => sumC C k + C k
theorem tbelow_any (g s : Nat) (C : Nat → Nat) (all : Nat) (w : World) (h : IsTally w g C all) (hs : s ≤ 257) (hC : ∀ i, C i < 1000) :
    Calls Tryz.prog 157 #[.pointer (some ⟨g, 0, none⟩), .int .i64 s] w fun e w' => e = .returned (.int .i64 (sumC C s)) ∧ w = w' := by
  have hb : ∀ k, sumC C k ≤ 1000 * k := by
    intro k
    induction k with
    | zero => simp [sumC]
    | succ k ih => have := hC k; simp only [sumC]; omega
  have m1 : max (s : Int) 0 = s := by omega
  have m2 : min (s : Int) 257 = s := by omega
  have H := Lib.hid h
  have HBD := Lib.hid hb
  have HC := Lib.hid hC
  clear h hb hC
  go_enter Tryz.func157, Tryz.ntmps157
  go_wp2_with fail
  go_loopg [10, 5] s (fun g' i t wr => ∃ m : Nat, m + g' = s ∧ i = .int .i64 m ∧ t = .int .i64 (sumC C m) ∧ wr = w)
  case atStart => exact ⟨0, by omega, rfl, rfl, rfl⟩
  case round =>
    obtain ⟨m, hm, rfl, rfl, rfl⟩ := hrel
    by_cases hms : m < s
    · have OF := Lib.hid (tof_any g m C all wr H.out (by omega))
      have h1 := HBD.out m
      have h2 := HC.out m
      have h3 : ((sumC C (m + 1) : Nat) : Int) = (sumC C m : Nat) + (C m : Nat) := by simp [sumC]
      have H3 := Lib.hid h3
      clear h3
      go_wp2_with (go_at_call 171; refine OF.out.mono ?_; rintro e w' ⟨rfl, rfl⟩)
      go_roundg (gk - 1)
      case measure => omega
      case rel => exact ⟨m + 1, by omega, by go_num, by rw [H3.out], rfl⟩
    · obtain rfl : m = s := by omega
      go_wp2_with fail
      go_ret
      exact ⟨rfl, rfl⟩
theorem tadd_any (g s : Nat) (C : Nat → Nat) (all : Nat) (w : World) (h : IsTally w g C all) (hs : s < 257) (hC : C s < 1000) (ha : all < 1000) :
    Calls Tryz.prog 139 #[.pointer (some ⟨g, 0, none⟩), .int .i64 s, .int .i64 1] w fun e w' => e = .returned (.int .i64 0) ∧ Only g w w' ∧ IsTally w' g (fun i => if i = s then C s + 1 else C i) (all + 1) := by
  have c := h.c s hs
  have a := h.a
  have f1 := h.f s
  have f2 := h.f 257
  have SI := Lib.hid (fun wx => sis_sym s hs wx)
  have H := Lib.hid h
  clear h
  go_enter Tryz.func139, Tryz.ntmps139
  go_wp2_with (go_at_call 99; refine (SI.out _).mono ?_; rintro e w' ⟨rfl, rfl⟩)
  go_region
  all_goals go_wp2_with fail
  all_goals go_ret
  all_goals exact ⟨rfl, (((Only.refl g w).set s _).set 257 _).drew, H.out.add hs⟩
end Go.Proofs.YtnadgcgnediakaaGreatDoor
namespace Go.Proofs.YtnadgcgnediakaaGreatDoor
open Go.ChangeShapes Go.WideShapes Go.ChangeAt Go.RowKit Go.Deep

section
variable {P : Program}
/-- an array is read off the head of a block -/
theorem run_load_part (w : World) (g : Nat) (ty : TypeId) (cs : Array Value) (d : TypeDesc) (hc : ∀ j v, cs[j]? = some v → w.cell? ⟨g, j, none⟩ = some v)
    (hu : P.underlying ty = some d) (hd : (match d with | .struct _ | .array _ _ => true | _ => false) = true) (hi : (P.info? ty).map (·.size) = some cs.size) :
    (loadVar ty ⟨g, 0, none⟩).run P w = .ok (.agg cs) w := by
  have hl : (loadCells ⟨g, 0, none⟩ cs.toList.length).run P w = .ok cs.toList.toArray w :=
    run_loadCells_list (P := P) w ⟨g, 0, none⟩ cs.toList (fun j v hv => by
      have hadd : (⟨g, 0, none⟩ : Addr).add j = ⟨g, j, none⟩ := by unfold Addr.add; split <;> simp_all
      rw [hadd]
      exact hc j v (by simpa using hv))
  cases hq : P.info? ty with
  | none => simp [hq] at hi
  | some i =>
    have hs : i.size = cs.size := by simpa [hq] using hi
    have hagg : (isAgg ty).run P w = .ok true w := by
      unfold isAgg
      rw [Sem.run_bind, run_underlying hu w]
      cases d <;> simp_all
    simp only [Array.length_toList, Array.toArray_toList] at hl
    simp [loadVar, Sem.run_bind, hagg, sizeOf, typeInfo, hq, hs, hl]
theorem wpList_load_part {ops : Array Oper} {rest : List Oper} {o : Oper} {a : Act} {w : World} {Q : Exit → Act → World → Prop} (hgd : o.guard = none) (ty : TypeId) (x : Operand) (ho : o.op = .load ty x)
    (g : Nat) (hx : a.eval x = .pointer (some ⟨g, 0, none⟩)) (cs : Array Value) (d : TypeDesc) (hc : ∀ j v, cs[j]? = some v → w.cell? ⟨g, j, none⟩ = some v)
    (hu : P.underlying ty = some d) (hd : (match d with | .struct _ | .array _ _ => true | _ => false) = true) (hi : (P.info? ty).map (·.size) = some cs.size)
    (h : wpList P ops Q rest (a.put o.dst (.agg cs)) w) : wpList P ops Q (o :: rest) a w :=
  wpList_plain hgd fun K hK => by
    unfold Oper.wp execOp
    simp only [ho, hx, Instr.loadAt, Instr.sureAddr, Sem.run_bind, Sem.run_pure, Result.andThen_ok, run_load_part w g ty cs d hc hu hd hi]
    exact hK _ _ h
end
theorem idx177 (cs : Array Value) (hs : cs.size = 257) (i : Nat) (hi : i < 257) (v : Value) (hv : cs[i]? = some v) (w : World) : (Instr.index 177 (.agg cs) (.int .i64 i)).run Tryz.prog w = .ok v w := by
  have h2 : i < cs.size := by omega
  have h3 : cs[i] = v := by rw [Array.getElem?_eq_getElem h2] at hv; exact Option.some.inj hv
  have e1 : (asIntOf (.int .i64 i)).run Tryz.prog w = .ok (IntKind.i64, (i : Int)) w := by simp [asIntOf, go_sem]
  simp [Instr.index, run_underlying Tryz.underlying177, asIntOf, go_sem, h2, h3]
  exact fun h => absurd hi (by omega)
theorem info177 : (Tryz.prog.info? 177).map (·.size) = some 257 := by kernel_rfl
theorem sumC_mono (C : Nat → Nat) {a b : Nat} (h : a ≤ b) : sumC C a ≤ sumC C b := by
  induction b with
  | zero => obtain rfl : a = 0 := by omega
            exact Nat.le_refl _
  | succ b ih =>
    by_cases e : a = b + 1
    · subst e; exact Nat.le_refl _
    · have := ih (by omega)
      simp only [sumC]
      omega
set_option maxRecDepth 20000 in
theorem twhich_any (g k s : Nat) (C : Nat → Nat) (all : Nat) (w : World) (h : IsTally w g C all) (hs : s < 257) (h1 : sumC C s ≤ k) (h2 : k < sumC C s + C s) (hk : k < 1000) :
    Calls Tryz.prog 101 #[.pointer (some ⟨g, 0, none⟩), .int .i64 k] w fun e w' => e = .returned (.int .i64 s) ∧ w = w' := by
  obtain ⟨cur, q1, q2, q3, q4⟩ := h.row
  obtain ⟨cs, hcs⟩ : ∃ cs : Array Value, cs = cur.extract 0 257 := ⟨_, rfl⟩
  have hsz : cs.size = 257 := by rw [hcs]; simp; omega
  have hget : ∀ j, j < 257 → cs[j]? = some (.int .i64 (C j)) := fun j hj => by
    rw [hcs, ← q3 j hj]
    simp [Array.getElem?_extract]
    omega
  have hcell : ∀ j v, cs[j]? = some v → w.cell? ⟨g, j, none⟩ = some v := fun j v hv => by
    have hj : j < 257 := by
      rcases Nat.lt_or_ge j 257 with hj | hj
      · exact hj
      · rw [Array.getElem?_eq_none (by omega)] at hv
        simp at hv
    rw [hget j hj] at hv
    rw [← Option.some.inj hv]
    exact h.c j hj
  have HC := Lib.hid hcell
  have hif : (Tryz.prog.info? 177).map (·.size) = some cs.size := by rw [hsz]; exact info177
  have HI := Lib.hid hif
  have HX := Lib.hid (fun i (hi : i < 257) wx => idx177 cs hsz i hi _ (hget i hi) wx)
  have HM := Lib.hid (fun m (hm : m < s) => (show sumC C (m + 1) ≤ sumC C s from sumC_mono C hm))
  have HS := Lib.hid (fun m => (show sumC C (m + 1) = sumC C m + C m from rfl))
  clear h hcell hsz hget q1 q2 q3 q4 hcs hif
  go_enter Tryz.func101, Tryz.ntmps101
  go_wp2_with (refine wpList_load_part rfl 177 (.tmp 15) rfl g rfl cs _ HC.out Tryz.underlying177 rfl HI.out ?_)
  go_loopg [1, 5, 6, 17] s (fun g' s1 _ _ s17 wr => ∃ m : Nat, m + g' = s ∧ s1 = .int .i64 (k - sumC C m : Nat) ∧ s17 = .int .i64 m ∧ wr = w)
  case atStart => exact ⟨0, by omega, by simp [sumC], rfl, rfl⟩
  case round =>
    obtain ⟨m, hm, rfl, rfl, rfl⟩ := hrel
    have IX := HX.out m (by omega)
    by_cases hms : m < s
    · have h3 := HM.out m hms
      rw [HS.out m] at h3
      have e : ((k - sumC C m : Nat) : Int) - (C m : Nat) = (k - sumC C (m + 1) : Nat) := by rw [HS.out m]; omega
      have E := Lib.hid e
      have h4 : decide (k - sumC C m < C m) = false := decide_eq_false (by omega)
      have hb : k - sumC C m < 1000 := by omega
      have hb2 : C m < 1000 := by omega
      clear e h3
      generalize k - sumC C m = u at h4 hb E ⊢
      have hlt : decide ((m : Int) < 257) = true := decide_eq_true (by omega)
      go_wp2_with fail
      go_roundg (gk - 1)
      case measure => omega
      case rel => exact ⟨m + 1, by omega, by rw [E.out], by go_num, rfl⟩
    · obtain rfl : m = s := by omega
      have h4 : decide (k - sumC C m < C m) = true := decide_eq_true (by omega)
      have hb : k - sumC C m < 1000 := by omega
      generalize k - sumC C m = u at h4 hb ⊢
      have hlt : decide ((m : Int) < 257) = true := decide_eq_true (by omega)
      go_wp2_with fail
      go_ret
      exact ⟨rfl, rfl⟩
end Go.Proofs.YtnadgcgnediakaaGreatDoor
