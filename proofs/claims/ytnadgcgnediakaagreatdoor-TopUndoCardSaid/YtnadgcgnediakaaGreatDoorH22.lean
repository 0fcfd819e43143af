/- The walk of perm.All. The walk of perm.Next. slices.Insert of one number, whatever the room. The walk of arena.Take whatever was given back; the samples' numbers. Plain law: the searches among the samples answer as the set of samples says. The walk of perm.Add. -/
import Derived.Test.YtnadgcgnediakaaGreatDoorH21
import Derived.Test.YtnadgcgnediakaaGreatDoorH07
namespace Go.Proofs.YtnadgcgnediakaaGreatDoor
open Go.ChangeShapes Go.WideShapes Go.ChangeAt Go.RowKit Go.Deep

theorem info44 : (Tryz.prog.info? 44).map (fun i => (i.zero, i.size, i.bytes)) = some (some (.agg #[.int .i64 0, .int .i64 0]), 2, 16) := by kernel_rfl
/-- pairs, cell by cell -/
def pcells (Q : List (Nat × Nat)) : List Value := Q.flatMap fun x => [.int .i64 x.1, .int .i64 x.2]
theorem pcells_snoc (Q : List (Nat × Nat)) (x : Nat × Nat) : pcells (Q ++ [x]) = pcells Q ++ [.int .i64 x.1, .int .i64 x.2] := by
  unfold pcells
  rw [List.flatMap_append]
  rfl
def pairs (ord : List Nat) (rf pf : Nat → Nat) : List (Nat × Nat) := ord.map fun k => (rf k, pf k)
theorem pairs_take (ord : List Nat) (rf pf : Nat → Nat) (j : Nat) (h : j < ord.length) : pcells (pairs (ord.take (j + 1)) rf pf) = pcells (pairs (ord.take j) rf pf) ++ [.int .i64 (rf ord[j]), .int .i64 (pf ord[j])] := by
  unfold pairs
  rw [List.take_add_one, List.getElem?_eq_getElem h, List.map_append]
  exact pcells_snoc _ _
theorem new_two (w : World) (c d : Value) (t : TypeId) : ∀ (j : Nat) (u : Value), [c, d][j]? = some u → (w.alloc (.cells #[c, d] t)).cell? ((⟨w.heap.size, 0, none⟩ : Addr).add j) = some u := by
  have hb := heap_alloc_new w (.cells #[c, d] t)
  intro j u hu
  match j, hu with
  | 0, hu =>
    simp only [List.getElem?_cons_zero, Option.some.injEq] at hu
    subst hu
    rw [show (⟨w.heap.size, 0, none⟩ : Addr).add 0 = ⟨w.heap.size, 0, none⟩ from by simp [Addr.add], Joins.cell_of_block hb]
    rfl
  | 1, hu =>
    simp only [List.getElem?_cons_succ, List.getElem?_cons_zero, Option.some.injEq] at hu
    subst hu
    rw [show (⟨w.heap.size, 0, none⟩ : Addr).add 1 = ⟨w.heap.size, 1, none⟩ from by simp [Addr.add], Joins.cell_of_block hb]
    rfl
  | j + 2, hu => simp at hu
theorem two_int (k : IntKind) (a b : Int) : ∀ u ∈ [Value.int k a, Value.int k b], u.oneCell' = true := by intro u hu; simp at hu; rcases hu with rfl | rfl <;> rfl
theorem own_alloc {w : World} {base size n : Nat} {e : TypeId} {v : Value} {xs : List Value} (h : w.ownsRow base e size v n xs) (x : Obj) : (w.alloc x).ownsRow base e size v n xs := by
  refine ⟨h.1, ?_⟩
  rcases h.2 with hn | ⟨g, cap, cur, rfl, hb, hgg, rest⟩
  · exact .inl hn
  · exact .inr ⟨g, cap, cur, rfl, hb, (Below.heap_alloc _ _ _ (lt_of_block hgg)).trans hgg, rest⟩
set_option maxRecDepth 20000 in
set_option maxHeartbeats 1000000 in
theorem pall_any (o : Nat → Nat) (pb ap : Nat) (lv ov : Value) (rf pf : Nat → Nat) (n : Nat) (ord : List Nat) (rows places : Nat) (w : World) (h : IsPB w o pb ap lv ov rf pf n ord rows places) (hn : n < 1000) :
    Calls Tryz.prog 62 #[.pointer (some ⟨pb, 0, none⟩)] w fun e w' => ∃ v, e = .returned v ∧ Upd o nothing w w' (ext o w.heap.size 0) ∧ w'.ownsRow w.heap.size 44 2 v ord.length (pcells (pairs ord rf pf)) := by
  obtain ⟨m, hln⟩ : ∃ m, ord.length = m := ⟨_, rfl⟩
  have hmn : m ≤ n := hln ▸ h.ln
  have hpl := lt_of_block h.c
  by_cases hne : ord = []
  · subst hne
    obtain ⟨oa, oc, hov⟩ := own_shape h.od.1
    simp only [List.length_nil] at hov
    subst hov
    have c2 := h.c2
    clear h hln hmn
    go_enter Tryz.func62, Tryz.ntmps62
    go_wp2_with fail
    refine wp_loop_rounds 1 ?_
    rw [rounds_succ]
    go_wp2_with fail
    go_ret
    exact ⟨_, rfl, Upd.start o nothing w 0, World.ownsRow_nil _ _ _ _⟩
  · have hpos : 0 < ord.length := List.length_pos_iff.2 hne
    obtain ⟨lb, lc, hlv, _, hlb⟩ := own_form h.ls.1 (by omega)
    subst hlv
    obtain ⟨ob, oc, hov, _, hob⟩ := own_form h.od.1 hpos
    subst hov
    have c1 := h.c1
    have c2 := h.c2
    have C1 := Lib.hid c1
    have OD := Lib.hid h.od.1
    have LS := Lib.hid h.ls.1
    have LT := Lib.hid h.lt
    have C2 := Lib.hid c2
    obtain ⟨i0, hi, hz0, hz1, hz2⟩ := info_parts info44
    have HI := Lib.hid (And.intro hi (And.intro hz0 (And.intro hz1 hz2)))
    clear h hi hz0 hz1 hz2
    go_enter Tryz.func62, Tryz.ntmps62
    go_wp2_with fail
    go_loopg [3, 5, 13] m (fun gg s3 _ s13 wr => ∃ j : Nat, j ≤ m ∧ m - j ≤ gg ∧ s13 = .int .i64 j ∧ Aside (Upd o nothing w wr (ext o w.heap.size 0)) ∧ Aside (wr.ownsRow w.heap.size 44 2 s3 j (pcells (pairs (ord.take j) rf pf))))
    case atStart => exact ⟨0, Nat.zero_le _, by omega, rfl, (Upd.start o nothing w 0 : Upd o nothing w w _), (World.ownsRow_nil _ _ _ _ : w.ownsRow w.heap.size 44 2 (.slice none 0 0) 0 [])⟩
    case round =>
      obtain ⟨j, hj, hg, rfl, u1, ls⟩ := hrel
      by_cases hlt : j < m
      · have hltz : (j : Int) < (ord.length : Int) := by omega
        have hjl : j < ord.length := by omega
        have tr : ∀ {b : Nat}, b < w.heap.size → wr.heap[b]? = w.heap[b]? := fun {b} hb => u1.out.same b hb (by unfold nothing; exact id)
        have d1 : wr.cell? ⟨pb, 1, none⟩ = some (.slice (some ⟨lb, 0, none⟩) n lc) := by
          rw [World.cell?_of_block (w := w) (tr hpl)]
          exact C1.out
        have d2 : wr.cell? ⟨ob, j, none⟩ = some (.int .i64 (ord[j] : Nat)) := by
          rw [World.cell?_of_block (w := w) (tr hob)]
          exact owns_cell OD.out j _ (intsV_get ord j hjl)
        have hk : ord[j] < n := LT.out _ (List.getElem_mem hjl)
        have d3 : wr.cell? ⟨lb, ord[j] * 2, none⟩ = some (.int .i64 (rf ord[j] : Nat)) := by
          rw [World.cell?_of_block (w := w) (tr hlb)]
          exact owns_cell LS.out _ _ (cells2_get rf pf n _ hk).1
        have d4 : wr.cell? ⟨lb, ord[j] * 2 + 1, none⟩ = some (.int .i64 (pf ord[j] : Nat)) := by
          rw [World.cell?_of_block (w := w) (tr hlb)]
          exact owns_cell LS.out _ _ (cells2_get rf pf n _ hk).2
        have PT := Lib.hid (pairs_take ord rf pf j hjl)
        have HJ := Lib.hid hjl
        generalize ord[j] = k at d2 d3 d4 hk PT
        clear tr
        have US := Lib.hid u1.out.size
        go_wp2_with (first | (at_builtin; go_loud (refine wpList_append_own _ rfl _ _ 39 rfl w.heap.size 44 i0 (.agg #[.int .i64 0, .int .i64 0]) 2 16 Tryz.underlying39 HI.out.1 HI.out.2.1 HI.out.2.2.1 HI.out.2.2.2 rfl (by decide) _ j _ rfl (own_alloc ls.out _) ⟨wr.heap.size, 0, none⟩ 1 1 [.int .i64 (rf k), .int .i64 (pf k)] rfl rfl (new_two wr _ _ 44) (two_int _ _ _) (by unfold maxLen; omega) (by omega) (alloc_lt US.out) ?_)) | fail)
        intro v1 w1 hown hgr _
        rw [← PT.out] at hown
        have u2 : Upd o nothing w w1 (ext o w.heap.size 0) := (u1.out.alloc _).grown hgr (fun k hk => .inl (ls.out.lt k hk).1)
        have O1 := Lib.hid hown
        have U2 := Lib.hid u2
        clear hown hgr u2
        go_wp2_with fail
        go_roundg (m - (j + 1))
        case measure => omega
        case rel => exact ⟨j + 1, by omega, Nat.le_refl _, by go_num, (U2.out : Upd o nothing w _ _), O1.out⟩
      · have hltz : ¬ (j : Int) < (ord.length : Int) := by omega
        have : j = m := by omega
        subst this
        go_wp2_with fail
        go_ret
        exact ⟨_, rfl, u1.out, by have := ls.out; rw [List.take_of_length_le (by omega)] at this; exact this⟩
end Go.Proofs.YtnadgcgnediakaaGreatDoor
namespace Go.Proofs.YtnadgcgnediakaaGreatDoor
open Go.ChangeShapes Go.WideShapes Go.ChangeAt Go.RowKit Go.Deep

def nextStep (pos : Nat) (best : Int) (x : Nat × Nat) : Int := if pos ≤ x.2 ∧ (best < 0 ∨ (x.2 : Int) < best) then (x.2 : Nat) else best
/-- the next place that is sampled -/
def nextQ (Q : List (Nat × Nat)) (pos : Nat) : Int := Q.foldl (nextStep pos) (-1)
theorem nextQ_take (Q : List (Nat × Nat)) (pos j : Nat) (h : j < Q.length) : nextQ (Q.take (j + 1)) pos = nextStep pos (nextQ (Q.take j) pos) Q[j] := by
  unfold nextQ
  rw [List.take_add_one, List.getElem?_eq_getElem h, List.foldl_append]
  rfl
theorem pcells_len (Q : List (Nat × Nat)) : (pcells Q).length = Q.length * 2 := by
  induction Q with
  | nil => rfl
  | cons x r ih =>
    unfold pcells at ih ⊢
    rw [List.flatMap_cons, List.length_append, ih, List.length_cons]
    simp
    omega
theorem pcells_get : ∀ (Q : List (Nat × Nat)) (j : Nat) (h : j < Q.length), (pcells Q)[j * 2]? = some (.int .i64 (Q[j].1 : Nat)) ∧ (pcells Q)[j * 2 + 1]? = some (.int .i64 (Q[j].2 : Nat))
  | [], j, h => absurd h (Nat.not_lt_zero _)
  | x :: r, 0, _ => ⟨rfl, rfl⟩
  | x :: r, j + 1, h => by
    have ih := pcells_get r j (by simpa using h)
    have e : pcells (x :: r) = .int .i64 x.1 :: .int .i64 x.2 :: pcells r := rfl
    rw [e, show (j + 1) * 2 = j * 2 + 1 + 1 from by omega, show j * 2 + 1 + 1 + 1 = (j * 2 + 1) + 1 + 1 from by omega]
    simpa using ih
set_option maxRecDepth 20000 in
set_option maxHeartbeats 1000000 in
theorem pnext_any (o : Nat → Nat) (pb ap : Nat) (lv ov : Value) (rf pf : Nat → Nat) (n : Nat) (ord : List Nat) (rows places pos : Nat) (w : World) (h : IsPB w o pb ap lv ov rf pf n ord rows places) (hn : n < 1000) :
    Calls Tryz.prog 96 #[.pointer (some ⟨pb, 0, none⟩), .int .i64 pos] w fun e w' => e = .returned (.int .i64 (nextQ (pairs ord rf pf) pos)) ∧ Upd o nothing w w' (ext o w.heap.size 0) := by
  have PA := Lib.hid (pall_any o pb ap lv ov rf pf n ord rows places w h hn)
  obtain ⟨m, hln⟩ : ∃ m, ord.length = m := ⟨_, rfl⟩
  have hmn : m ≤ n := hln ▸ h.ln
  have hQ : (pairs ord rf pf).length = m := by unfold pairs; rw [List.length_map]; exact hln
  rw [← hQ] at hln
  clear h
  generalize pairs ord rf pf = Q at hQ PA hln ⊢
  rw [hln] at PA
  clear hln
  go_enter Tryz.func96, Tryz.ntmps96
  go_wp2_with fail
  refine PA.out.mono ?_
  rintro e w1 ⟨v, rfl, u1, ls⟩
  have U1 := Lib.hid u1
  have HQ := Lib.hid hQ
  by_cases hne : Q = []
  · subst hne
    obtain ⟨oa, oc, hov⟩ := own_shape ls
    simp only [List.length_nil] at hov
    subst hov
    clear ls u1
    go_wp2_with fail
    refine wp_loop_rounds 1 ?_
    rw [rounds_succ]
    go_wp2_with fail
    go_ret
    exact ⟨rfl, U1.out⟩
  · have hpos : 0 < Q.length := List.length_pos_iff.2 hne
    obtain ⟨vb, vc, hlv, hvb0, hvb⟩ := own_form ls hpos
    subst hlv
    have LS := Lib.hid ls
    clear ls u1
    go_wp2_with fail
    go_loopg [5, 7, 11] m (fun gg s5 _ s11 wr => ∃ j : Nat, j ≤ m ∧ m - j ≤ gg ∧ s11 = .int .i64 j ∧ s5 = .int .i64 (nextQ (Q.take j) pos) ∧ Aside (Upd (ext o w.heap.size 0) nothing w1 wr (ext o w.heap.size 0)))
    case atStart => exact ⟨0, Nat.zero_le _, by omega, rfl, rfl, (Upd.refl _ nothing w1 : Upd _ nothing w1 w1 _)⟩
    case round =>
      obtain ⟨j, hj, hg, rfl, rfl, u2⟩ := hrel
      by_cases hlt : j < m
      · have hltz : (j : Int) < (Q.length : Int) := by omega
        have hjl : j < Q.length := by omega
        have tr : wr.heap[vb]? = w1.heap[vb]? := u2.out.same vb hvb (by unfold nothing; exact id)
        have d3 : wr.cell? ⟨vb, j * 2, none⟩ = some (.int .i64 (Q[j].1 : Nat)) := by
          rw [World.cell?_of_block (w := w1) tr]
          exact owns_cell LS.out _ _ (pcells_get Q j hjl).1
        have d4 : wr.cell? ⟨vb, j * 2 + 1, none⟩ = some (.int .i64 (Q[j].2 : Nat)) := by
          rw [World.cell?_of_block (w := w1) tr]
          exact owns_cell LS.out _ _ (pcells_get Q j hjl).2
        have NS := Lib.hid (nextQ_take Q pos j hjl)
        have HJ := Lib.hid hjl
        generalize nextQ (Q.take j) pos = best at NS ⊢
        generalize Q[j] = x at d3 d4 NS
        obtain ⟨r, p⟩ := x
        simp only at d3 d4
        unfold nextStep at NS
        simp only at NS
        clear tr
        have US := Lib.hid (fun x : List Value => (u2.out.alloc (w1 := wr)))
        by_cases h1 : pos ≤ p
        · have h1z : (pos : Int) ≤ (p : Int) := by omega
          by_cases h2 : best < 0
          · have NS2 := Lib.hid (NS.out.trans (if_pos ⟨h1, .inl h2⟩))
            clear NS
            go_wp2_with fail
            go_roundg (m - (j + 1))
            case measure => omega
            case rel => exact ⟨j + 1, by omega, Nat.le_refl _, by go_num, by rw [NS2.out], (u2.out.alloc _ : Upd _ nothing w1 _ _)⟩
          · have h2z : decide (best < 0) = false := decide_eq_false h2
            by_cases h3 : (p : Int) < best
            · have NS2 := Lib.hid (NS.out.trans (if_pos ⟨h1, .inr h3⟩))
              clear NS
              go_wp2_with fail
              go_roundg (m - (j + 1))
              case measure => omega
              case rel => exact ⟨j + 1, by omega, Nat.le_refl _, by go_num, by rw [NS2.out], (u2.out.alloc _ : Upd _ nothing w1 _ _)⟩
            · have h3z : decide ((p : Int) < best) = false := decide_eq_false h3
              have NS2 := Lib.hid (NS.out.trans (if_neg fun x => x.2.elim h2 h3))
              clear NS
              go_wp2_with fail
              go_roundg (m - (j + 1))
              case measure => omega
              case rel => exact ⟨j + 1, by omega, Nat.le_refl _, by go_num, by rw [NS2.out], (u2.out.alloc _ : Upd _ nothing w1 _ _)⟩
        · have h1z : decide ((pos : Int) ≤ (p : Int)) = false := decide_eq_false (by omega)
          have NS2 := Lib.hid (NS.out.trans (if_neg fun x => h1 x.1))
          clear NS
          go_wp2_with fail
          go_roundg (m - (j + 1))
          case measure => omega
          case rel => exact ⟨j + 1, by omega, Nat.le_refl _, by go_num, by rw [NS2.out], (u2.out.alloc _ : Upd _ nothing w1 _ _)⟩
      · have hltz : ¬ (j : Int) < (Q.length : Int) := by omega
        have : j = m := by omega
        subst this
        go_wp2_with fail
        go_ret
        refine ⟨?_, ?_⟩
        · rw [List.take_of_length_le (by omega)] <;> rfl
        · exact U1.out.trans u2.out fun _ h => h
end Go.Proofs.YtnadgcgnediakaaGreatDoor
namespace Go.Proofs.YtnadgcgnediakaaGreatDoor
open Go.ChangeShapes Go.WideShapes Go.ChangeAt Go.RowKit Go.Deep

def setL (cur : Array Value) : Nat → List Value → Array Value
  | _, [] => cur
  | o, v :: r => setL (cur.setIfInBounds o v) (o + 1) r
theorem setL_size : ∀ (vs : List Value) (o : Nat) (cur : Array Value), (setL cur o vs).size = cur.size
  | [], _, _ => rfl
  | v :: r, o, cur => by
    show (setL (cur.setIfInBounds o v) (o + 1) r).size = _
    rw [setL_size r, Array.size_setIfInBounds]
theorem setL_get : ∀ (vs : List Value) (o : Nat) (cur : Array Value) (j : Nat), (setL cur o vs)[j]? = if o ≤ j ∧ j < o + vs.length ∧ j < cur.size then vs[j - o]? else cur[j]?
  | [], o, cur, j => by
    rw [if_neg (by simp; omega)]
    rfl
  | v :: r, o, cur, j => by
    show (setL (cur.setIfInBounds o v) (o + 1) r)[j]? = _
    rw [setL_get r, Array.size_setIfInBounds, List.length_cons]
    by_cases h1 : o + 1 ≤ j ∧ j < o + 1 + r.length ∧ j < cur.size
    · rw [if_pos h1, if_pos (by omega), show j - o = (j - (o + 1)) + 1 from by omega, List.getElem?_cons_succ]
    · rw [if_neg h1]
      by_cases h2 : o = j ∧ j < cur.size
      · obtain ⟨rfl, h3⟩ := h2
        rw [if_pos (by omega), Nat.sub_self, List.getElem?_cons_zero, Array.getElem?_setIfInBounds_self_of_lt h3]
      · rw [if_neg (by omega)]
        by_cases h3 : o = j
        · subst h3
          rw [Array.getElem?_eq_none (by simp; omega), Array.getElem?_eq_none (by omega)]
        · rw [Array.getElem?_setIfInBounds_ne (by omega)]
theorem block_setCells (b : Nat) {e : TypeId} : ∀ (vs : List Value) (o : Nat) (w : World) (cur : Array Value), w.heap[b]? = some (.cells cur e (0, 0)) → (w.setCells b o vs).heap[b]? = some (.cells (setL cur o vs) e (0, 0))
  | [], _, _, _, h => h
  | v :: r, o, _w, _cur, h => block_setCells b r (o + 1) _ _ (Joins.block_setCell h v)
theorem other_setCells (b : Nat) : ∀ (vs : List Value) (o : Nat) (w : World) (k : Nat), k ≠ b → (w.setCells b o vs).heap[k]? = w.heap[k]?
  | [], _, _, _, _ => rfl
  | _v :: r, o, _w, k, h => (other_setCells b r (o + 1) _ k h).trans (Below.heap_setCell _ _ _ _ h)
theorem intsV_ins (ord : List Nat) (c k j : Nat) (hc : c ≤ ord.length) : (intsV (ord.insertIdx c k))[j]? = if j < c then (intsV ord)[j]? else if j = c then some (.int .i64 k) else (intsV ord)[j - 1]? := by
  unfold intsV
  rw [List.getElem?_map, List.getElem?_insertIdx, List.getElem?_map, List.getElem?_map]
  by_cases h1 : j < c
  · rw [if_pos h1, if_pos h1]
  · rw [if_neg h1, if_neg h1]
    by_cases h2 : j = c
    · subst h2
      rw [if_pos rfl, if_pos rfl, if_pos hc]
      rfl
    · rw [if_neg h2, if_neg h2]
theorem grown_set1 {w w1 : World} {b o : Nat} {row : Option Nat} (v : Value) (h : w.grownBy w1 row) (hr : row = some b ∨ w.heap.size ≤ b) : w.grownBy (w1.setCell ⟨b, o, none⟩ v) row :=
  ⟨h.os, h.tape, h.output, by rw [World.size_setCell]; exact h.size, fun k hk hne => (Below.heap_setCell _ _ _ _ (by
    rintro rfl
    rcases hr with rfl | hr
    · exact hne rfl
    · exact absurd hk (Nat.not_lt.2 hr))).trans (h.block k hk hne)⟩
theorem grown_set {w : World} {b : Nat} {row : Option Nat} (hr : row = some b ∨ w.heap.size ≤ b) : ∀ (vs : List Value) (o : Nat) {w1 : World}, w.grownBy w1 row → w.grownBy (w1.setCells b o vs) row
  | [], _, _, h => h
  | v :: r, o, _, h => grown_set hr r (o + 1) (grown_set1 v h hr)
theorem grown_drew {w w1 : World} {row : Option Nat} (h : w.grownBy w1 row) : w.grownBy w1.drew row := ⟨h.os, h.tape, h.output, h.size, h.block⟩
theorem grown_refl (w : World) (row : Option Nat) : w.grownBy w row := ⟨rfl, rfl, rfl, Nat.le_refl _, fun _ _ _ => rfl⟩
theorem grown_alloc {w w1 : World} {row : Option Nat} (x : Obj) (h : w.grownBy w1 row) : w.grownBy (w1.alloc x) row :=
  ⟨h.os, h.tape, h.output, Nat.le_trans h.size (by simp), fun k hk hne => (Below.heap_alloc _ _ _ (Nat.lt_of_lt_of_le hk h.size)).trans (h.block k hk hne)⟩
theorem intsV_one (ord : List Nat) : ∀ u ∈ intsV ord, u.oneCell' = true := by
  intro u hu
  unfold intsV at hu
  obtain ⟨x, _, rfl⟩ := List.mem_map.1 hu
  rfl
theorem intsV_len (ord : List Nat) : (intsV ord).length = ord.length := by unfold intsV; rw [List.length_map]
theorem own_get {w : World} {g cap n : Nat} {cur : Array Value} {xs : List Value} (hb : w.heap[g]? = some (.cells cur 3 (0, 0))) (hx : xs.length = n * 1) (h1 : n ≤ cap) (h2 : cap ≤ maxLen) (h3 : cur.size = cap * 1) (h : ∀ j, j < n → cur[j]? = xs[j]?) : w.ownsRow 0 3 1 (.slice (some ⟨g, 0, none⟩) n cap) n xs := by
  refine ⟨hx, .inr ⟨g, cap, cur, rfl, Nat.zero_le _, hb, h1, h2, h3, ?_⟩⟩
  apply List.ext_getElem?
  intro j
  by_cases hj : j < n
  · rw [List.getElem?_take_of_lt (by omega), Array.getElem?_toList]
    exact h j hj
  · rw [List.getElem?_take_eq_none (by omega), List.getElem?_eq_none (by omega)]
/-- slices.Insert of one number -/
theorem ins_any (w : World) (ov : Value) (ord : List Nat) (c k vb : Nat) (ho : w.ownsRow 0 3 1 ov ord.length (intsV ord)) (hc : c ≤ ord.length) (hv : w.heap[vb]? = some (.cells #[.int .i64 k] 3 (0, 0))) (hvb : ov.ownBlock ≠ some vb) (hn : ord.length < 1000) :
    Calls Tryz.prog 76 #[ov, .int .i64 c, .slice (some ⟨vb, 0, none⟩) 1 1] w fun e w' => ∃ v', e = .returned v' ∧ w'.ownsRow 0 3 1 v' (ord.length + 1) (intsV (ord.insertIdx c k)) ∧ w.grownBy w' ov.ownBlock ∧ ∀ b, v'.ownBlock = some b → ov.ownBlock = some b ∨ w.heap.size ≤ b := by
  have hvs : ∀ j v, [Value.int .i64 (k : Int)][j]? = some v → w.cell? ⟨vb, 0 + j, none⟩ = some v := by
    intro j v hj
    match j, hj with
    | 0, hj =>
      rw [Nat.add_zero, Joins.cell_of_block hv]
      exact hj
    | j + 1, hj => simp at hj
  have h1v : ∀ v ∈ [Value.int .i64 (k : Int)], v.oneCell' = true := one_int _ _
  have hlen : (intsV (ord.insertIdx c k)).length = (ord.length + 1) * 1 := by rw [intsV_len, List.length_insertIdx_of_le_length hc]; omega
  have hcl := intsV_len ord
  have hgc : ∀ w : World, ∀ old e, grownCap w (ord.length + 1) old e ≤ maxLen := fun w old e => grownCap_le_maxLen _ _ _ _ (by unfold maxLen; omega)
  have hgg : ∀ w : World, ∀ old e, ord.length + 1 ≤ grownCap w (ord.length + 1) old e := fun w old e => grownCap_ge _ _ _ _
  -- at the end, no room
  have endg : ∀ (base : Option Addr) (oc : Nat), ov = .slice base ord.length oc → c = ord.length → ord.length ≤ oc → oc < ord.length + 1 → (base = none → ord.length = 0) → (∀ a, base = some a → ∀ j v, (intsV ord)[j]? = some v → w.cell? (a.add j) = some v) →
      Calls Tryz.prog 76 #[ov, .int .i64 c, .slice (some ⟨vb, 0, none⟩) 1 1] w fun e w' => ∃ v', e = .returned v' ∧ w'.ownsRow 0 3 1 v' (ord.length + 1) (intsV (ord.insertIdx c k)) ∧ w.grownBy w' ov.ownBlock ∧ ∀ b, v'.ownBlock = some b → ov.ownBlock = some b ∨ w.heap.size ≤ b := by
    intro base oc hov hce h1 h2 h3 h4
    subst hov
    subst hce
    have R := Any2.slices_Insert_int_end_grow Tryz.lays2_21 base ord.length oc vb 0 1 1 (intsV ord) [.int .i64 (k : Int)] w (by omega) h1 h2 (by omega) hcl rfl h3 h4 hvs h1v
    change Calls Tryz.prog 76 _ _ _ at R
    refine R.mono ?_
    rintro e w' ⟨rfl, rfl⟩
    refine ⟨_, rfl, own_get (heap_alloc_new _ _) hlen (hgg _ _ _) (hgc _ _ _) ?_ ?_, grown_alloc _ (grown_drew (grown_refl w _)), fun b hb => .inr (by cases hb; exact Nat.le_refl _)⟩
    · have := hgg w oc (Tryz.lays2_21_ren.t 3)
      rw [Array.size_append, size_zeroCells, List.size_toArray, List.length_append, hcl]
      simp [Value.cells]
      omega
    · intro j hj
      rw [intsV_ins _ _ _ _ hc, Array.getElem?_append_left (by simp [hcl]; omega)]
      simp only [List.getElem?_toArray]
      by_cases h5 : j < ord.length
      · rw [List.getElem?_append_left (by omega), if_pos h5]
      · rw [List.getElem?_append_right (by omega), if_neg h5, if_pos (by omega), hcl, show j - ord.length = 0 from by omega]
        rfl
  rcases ho.2 with ⟨hov, h0⟩ | ⟨ob, oc, cur, hov, _, hcu, hlc, hcm, hcs, htk⟩
  · have : c = 0 := by omega
    exact endg none 0 (by rw [hov, h0]) (by omega) (by omega) (by omega) (fun _ => h0) (fun a h => by cases h)
  · subst hov
    have hcell : ∀ j v, (intsV ord)[j]? = some v → w.cell? ⟨ob, 0 + j, none⟩ = some v := fun j v hj => by rw [Nat.zero_add]; exact owns_cell ho j v hj
    have hget : ∀ j, j < ord.length → cur[j]? = (intsV ord)[j]? := fun j hj => by
      rw [← htk, List.getElem?_take_of_lt (by omega), Array.getElem?_toList]
    have hsome : ∀ j, j < oc → (w.cell? ⟨ob, j, none⟩).isSome = true := fun j hj => by
      rw [Joins.cell_of_block hcu]
      simp
      omega
    have hob : vb ≠ ob := fun e => hvb (by simp [Value.ownBlock, e])
    by_cases hroom : ord.length + 1 ≤ oc
    · by_cases hlt : c < ord.length
      · have R := Any2.slices_Insert_int_shift Tryz.lays2_21 ob 0 ord.length oc c vb 0 1 1 (intsV ord) [.int .i64 (k : Int)] w hlt (by omega) hroom (by unfold maxLen at hcm; omega) hob hcl rfl hcell (fun j hj => by rw [Nat.zero_add]; exact hsome j (by omega)) (fun j _ => Joins.unfrozen_of_block hcu _) hvs (intsV_one _) h1v
          3 3 1 cur.size (by unfold World.shape?; rw [hv]; rfl) (by unfold World.shape?; rw [hcu]) (by omega) (Joins.unfrozen_of_block hv _) (Joins.unfrozen_of_block hv _)
        change Calls Tryz.prog 76 _ _ _ at R
        refine R.mono ?_
        rintro e w' ⟨rfl, rfl⟩
        refine ⟨_, rfl, own_get (block_setCells ob _ _ _ _ (block_setCells ob _ _ _ _ (show w.drew.heap[ob]? = _ from hcu))) hlen hroom hcm (by rw [setL_size, setL_size]; exact hcs) ?_, grown_set (.inl rfl) _ _ (grown_set (.inl rfl) _ _ (grown_drew (grown_refl w _))), fun b hb => .inl hb⟩
        intro j hj
        rw [intsV_ins _ _ _ _ hc, setL_get, setL_get, setL_size]
        simp only [List.length_drop, hcl, List.length_cons, List.length_nil, Nat.zero_add]
        by_cases h5 : j < c
        · rw [if_neg (by omega), if_neg (by omega), if_pos h5]
          exact hget j (by omega)
        · by_cases h6 : j = c
          · subst h6
            rw [if_pos (by omega), if_neg h5, if_pos rfl, Nat.sub_self]
            rfl
          · rw [if_neg (by omega), if_pos (by omega), if_neg h5, if_neg h6, List.getElem?_drop]
            congr 1
            omega
      · have hce : c = ord.length := by omega
        subst hce
        have R := Any2.slices_Insert_int_end_room Tryz.lays2_21 ob 0 ord.length oc vb 0 1 1 [.int .i64 (k : Int)] w (by omega) hroom (by unfold maxLen at hcm; omega) rfl (fun j hj => by rw [Nat.zero_add]; exact hsome _ (by omega)) (fun j _ => Joins.unfrozen_of_block hcu _) hvs h1v
        change Calls Tryz.prog 76 _ _ _ at R
        refine R.mono ?_
        rintro e w' ⟨rfl, rfl⟩
        refine ⟨_, rfl, own_get (block_setCells ob _ _ _ _ hcu) hlen hroom hcm (by rw [setL_size]; exact hcs) ?_, grown_set (.inl rfl) _ _ (grown_refl w _), fun b hb => .inl hb⟩
        intro j hj
        rw [intsV_ins _ _ _ _ hc, setL_get]
        simp only [List.length_cons, List.length_nil, Nat.zero_add]
        by_cases h5 : j < ord.length
        · rw [if_neg (by omega), if_pos h5]
          exact hget j h5
        · rw [if_pos (by omega), if_neg h5, if_pos (by omega), show j - ord.length = 0 from by omega]
          rfl
    · by_cases hlt : c < ord.length
      · have R := Any2.slices_Insert_int_grow Tryz.lays2_21 ob 0 ord.length oc c vb 0 1 1 (intsV ord) [.int .i64 (k : Int)] w hlt (by omega) hlc (by omega) (by omega) hcl rfl hcell hvs (intsV_one _) h1v
        change Calls Tryz.prog 76 _ _ _ at R
        refine R.mono ?_
        rintro e w' ⟨rfl, rfl⟩
        refine ⟨_, rfl, own_get (block_setCells _ _ _ _ _ (show (World.drew (World.setCells _ _ _ _)).heap[w.heap.size]? = _ from block_setCells _ _ _ _ _ (show (World.drew (World.alloc _ _)).heap[w.heap.size]? = _ from heap_alloc_new w _))) hlen (hgg _ _ _) (hgc _ _ _) ?_ ?_, grown_set (.inr (Nat.le_refl _)) _ _ (grown_drew (grown_set (.inr (Nat.le_refl _)) _ _ (grown_drew (grown_alloc _ (grown_refl w _))))), fun b hb => .inr (by cases hb; exact Nat.le_refl _)⟩
        · have := hgg w oc (Tryz.lays2_21_ren.t 3)
          rw [setL_size, setL_size, Array.size_append, Array.size_append, size_zeroCells, size_zeroCells, List.size_toArray, List.length_take, hcl]
          simp [Value.cells]
          omega
        · intro j hj
          have hs := hgg w oc (Tryz.lays2_21_ren.t 3)
          rw [intsV_ins _ _ _ _ hc, setL_get, setL_get, setL_size]
          simp only [List.length_drop, hcl, List.length_cons, List.length_nil, Nat.zero_add, Array.size_append, size_zeroCells, List.size_toArray, List.length_take, Value.cells, Nat.mul_one]
          by_cases h5 : j < c
          · rw [if_neg (by omega), if_neg (by omega), if_pos h5, Array.getElem?_append_left (by simp [hcl]; omega), Array.getElem?_append_left (by simp [hcl]; omega)]
            simp only [List.getElem?_toArray]
            rw [List.getElem?_take_of_lt h5]
          · by_cases h6 : j = c
            · subst h6
              rw [if_neg (by omega), if_pos (by simp; omega), if_neg h5, if_pos rfl, Nat.sub_self]
              rfl
            · rw [if_pos (by omega), if_neg h5, if_neg h6, List.getElem?_drop]
              congr 1
              omega
      · exact endg (some ⟨ob, 0, none⟩) oc rfl (by omega) hlc (by omega) (fun h => by cases h) (fun a h j v hj => by
          cases h
          rw [show (⟨ob, 0, none⟩ : Addr).add j = ⟨ob, j, none⟩ from by unfold Addr.add; split <;> simp_all]
          exact owns_cell ho j v hj)
end Go.Proofs.YtnadgcgnediakaaGreatDoor
namespace Go.Proofs.YtnadgcgnediakaaGreatDoor
open Go.ChangeShapes Go.WideShapes Go.ChangeAt Go.RowKit Go.Deep

theorem take_new (o : Nat → Nat) (c g n : Nat) (fa : Option Addr) (fc : Nat) (tv : Value) (xs : List Value) (w : World) (h : ArenaIs w g tv (.slice fa 0 fc)) (hg : o g = c) (ht : Owned w o c 4 1 tv n xs) (hf : Owned w o c 3 1 (.slice fa 0 fc) 0 []) (hn : n < 1000) :
    Calls Tryz.prog 75 #[.pointer (some ⟨g, 0, none⟩)] w fun e w' => e = .returned (.tuple #[.int .i64 n, .int .i64 0]) ∧ Upd o (· = c) w w' (ext o w.heap.size c) ∧
      ∃ tv', ArenaIs w' g tv' (.slice fa 0 fc) ∧ Owned w' (ext o w.heap.size c) c 4 1 tv' (n + 1) (xs ++ [.bool true]) ∧ Owned w' (ext o w.heap.size c) c 3 1 (.slice fa 0 fc) 0 [] := by
  obtain ⟨ta, tc, rfl⟩ := own_shape ht.1
  have c0 := h.c0
  have c1 := h.c1
  have c2 := h.c2
  have f0 := h.f 0
  have al := fun wx hx => alive_any g ta fa n tc 0 fc wx hx (by omega) (by omega)
  have AL := Lib.hid al
  have hlt : g < w.heap.size := lt_of_block h
  have H := Lib.hid h
  have fne : ∀ k, (Value.slice fa 0 fc).ownBlock = some k → k < w.heap.size ∧ (Value.slice ta n tc).ownBlock ≠ some k ∧ k ≠ g := fun k hk => by
    have hkl := ownBlock_lt hf.1 hk
    refine ⟨hkl, ?_, fun e => owns_ne hf.1 h (by decide) (by rw [hk, e])⟩
    rcases hf.1.2 with ⟨hv, _⟩ | ⟨g', cap, cur, hv, hb, hgg, q⟩
    · rw [hv] at hk
      simp [Value.ownBlock] at hk
    · have : g' = k := by rw [hv] at hk; simpa [Value.ownBlock] using hk
      subst this
      exact owns_ne ht.1 hgg (by decide)
  have FN := Lib.hid fne
  have HF := Lib.hid hf
  have HT := Lib.hid ht
  have HG := Lib.hid hg
  have hne : (Value.slice ta n tc).ownBlock ≠ some g := owns_ne ht.1 h (by decide)
  have NE := Lib.hid hne
  have e28 : ((n : Int) == 268435456) = false := by simp; omega
  have own1 : ∀ nq, ((w.drewN nq).alloc (.cells #[.bool true] 4)).ownsRow 0 4 1 (.slice ta n tc) n xs := fun nq => owns_same ht.1 fun k hk => Below.heap_alloc (w.drewN nq) _ k (ownBlock_lt ht.1 hk)
  have OW := Lib.hid own1
  clear al h ht hg own1 hne hf fne
  obtain ⟨i0, hi, hz0, hz1, hz2⟩ := info_parts info4
  go_enter Tryz.func75, Tryz.ntmps75
  go_wp2_with fail
  go_quiet (first | (go_at_call 130; refine Calls.quiet_of (AL.out _ ?_); exact H.out))
  go_wp2_with (first | (at_builtin; go_loud (refine wpList_append_where _ (by rfl) (.tmp 53) (.tmp 54) 101 rfl 4 i0 (.bool false) 1 1 Tryz.underlying101 hi hz0 hz1 hz2 rfl (by decide) _ _ _ rfl (OW.out nq) ⟨w.heap.size, 0, none⟩ 1 1 [.bool true] rfl rfl (new_one (w.drewN nq) (.bool true) 4) (one_bool true) (by unfold maxLen; omega) (by omega) ?_)) | fail)
  intro v1 w1 hown hgr hwh
  obtain ⟨tb, tc2, hv, hb, hlt2⟩ := own_form hown (by omega)
  rw [hv]
  have A1 : ArenaIs w1 g (.slice ta n tc) (.slice fa 0 fc) := (hgr.block g (alloc_lt hlt) (fun x => NE.out x.symm)).trans ((Below.heap_alloc _ _ _ hlt).trans H.out)
  have U1 : Upd o (· = c) w w1 (ext o w.heap.size c) := (((Upd.start o _ w c).drewN nq).alloc _).grown hgr (fun k hk => .inr (HT.out.2 k hk))
  have town : ext o w.heap.size c tb = c := by
    rcases hwh tb (by rw [hv]; rfl) with hh | hh
    · rw [ext_old (ownBlock_lt HT.out.1 hh)]
      exact HT.out.2 tb hh
    · exact ext_new (Nat.le_trans (Nat.le_succ _) (by simpa using hh))
  rw [hv] at hown
  have sm : ∀ k, k < w.heap.size → (Value.slice ta n tc).ownBlock ≠ some k → w1.heap[k]? = w.heap[k]? := fun k hk hne => (hgr.block k (alloc_lt hk) (fun e => hne e.symm)).trans (Below.heap_alloc _ _ _ hk)
  have SM := Lib.hid sm
  have O1 := Lib.hid hown
  have B1 := Lib.hid A1
  have V1 := Lib.hid U1
  have d0 := A1.c0
  have d1 := A1.c1
  have d2 := A1.c2
  have f1 := A1.f 0
  have hne2 : tb ≠ g := by
    have := owns_ne hown A1 (by decide); simpa [Value.ownBlock] using this
  have TO := Lib.hid town
  clear sm hv hown hgr hwh A1 U1 c0 c1 c2 f0 hi hz0 hz1 hz2 town
  go_wp2_with fail
  go_ret2
  refine ⟨by simp, V1.out.set _ (.inr HG.out), _, Joins.block_setCell B1.out _, ⟨?_, ?_⟩, ⟨?_, fun k hk => (ext_old (FN.out k hk).1).trans (HF.out.2 k hk)⟩⟩
  · exact owns_other O1.out (a := ⟨g, 0, none⟩) (by simp [Value.ownBlock]; exact hne2) _
  · intro k hk
    simp [Value.ownBlock] at hk
    subst hk
    exact TO.out
  · refine owns_same HF.out.1 fun k hk => ?_
    obtain ⟨k1, k2, k3⟩ := FN.out k hk
    rw [Below.heap_setCell _ _ _ _ k3]
    exact SM.out k k1 k2

theorem take_back (o : Nat → Nat) (c g n m k tb tc fb fc : Nat) (xs : List Value) (fl : List Nat) (x0 : Bool) (w : World) (h : ArenaIs w g (.slice (some ⟨tb, 0, none⟩) n tc) (.slice (some ⟨fb, 0, none⟩) (m + 1) fc)) (hg : o g = c)
    (ht : Owned w o c 4 1 (.slice (some ⟨tb, 0, none⟩) n tc) n xs) (hf : Owned w o c 3 1 (.slice (some ⟨fb, 0, none⟩) (m + 1) fc) (m + 1) (intsV fl)) (hl : fl.length = m + 1) (hk : fl.getD m 0 = k) (hkn : k < n) (hx : xs[k]? = some (.bool x0)) (hmn : m < n) (hn : n < 1000) :
    Calls Tryz.prog 75 #[.pointer (some ⟨g, 0, none⟩)] w fun e w' => e = .returned (.tuple #[.int .i64 k, .int .i64 0]) ∧ Upd o (· = c) w w' (ext o w.heap.size c) ∧
      ArenaIs w' g (.slice (some ⟨tb, 0, none⟩) n tc) (.slice (some ⟨fb, 0, none⟩) m fc) ∧ Owned w' (ext o w.heap.size c) c 4 1 (.slice (some ⟨tb, 0, none⟩) n tc) n (xs.set k (.bool true)) ∧ Owned w' (ext o w.heap.size c) c 3 1 (.slice (some ⟨fb, 0, none⟩) m fc) m (intsV (fl.take m)) := by
  have c0 := h.c0
  have c1 := h.c1
  have c2 := h.c2
  have f1 := h.f 1
  have al := fun wx hx => alive_any g (some ⟨tb, 0, none⟩) (some ⟨fb, 0, none⟩) n tc (m + 1) fc wx hx (by omega) (by omega)
  have AL := Lib.hid al
  have hlt : g < w.heap.size := lt_of_block h
  have H := Lib.hid h
  have t0 := owns_cell ht.1 k _ hx
  have hgm : (intsV fl)[m]? = some (.int .i64 (k : Nat)) := by
    rw [intsV_get fl m (by omega), ← hk, List.getD_eq_getElem?_getD, List.getElem?_eq_getElem (by omega)]
    rfl
  have ff0 := owns_cell hf.1 m _ hgm
  have ft := owns_free ht.1 k
  obtain ⟨cur, hc1, hc2, hc3, hc4, hc5⟩ := owns_row hf.1
  have ne1 : fb ≠ g := by
    have := owns_ne hf.1 h (by decide); simpa [Value.ownBlock] using this
  have ne2 : tb ≠ g := by
    have := owns_ne ht.1 h (by decide); simpa [Value.ownBlock] using this
  have ne3 : tb ≠ fb := by
    have := owns_ne ht.1 hc1 (by decide); simpa [Value.ownBlock] using this
  have hs : ∀ wx, (Instr.slice 28 (.slice (some ⟨fb, 0, none⟩) (m + 1) fc) none (some (.int .i64 m)) none).run Tryz.prog wx = .ok (.slice (some ⟨fb, 0, none⟩) m fc) wx := by
    intro wx
    refine (cut_hi28 (some ⟨fb, 0, none⟩) (m + 1) fc m (by omega) wx).trans ?_
    congr 2
    split <;> simp [Addr.add]
  have e28 : (((n - (m + 1) : Nat) : Int) == 268435456) = false := by simp; omega
  have em : ((m : Int) + 1) - 1 = m := by omega
  have em2 : (0 : Int) < (m : Int) + 1 := by omega
  have HT := Lib.hid ht
  have HF := Lib.hid hf
  have TB : o tb = c := ht.2 tb rfl
  have tlt : tb < w.heap.size := ownBlock_lt ht.1 rfl
  have flt : fb < w.heap.size := ownBlock_lt hf.1 rfl
  have FB : o fb = c := hf.2 fb rfl
  have HTB := Lib.hid TB
  have HFB := Lib.hid FB
  have NE := Lib.hid ne3
  have HG := Lib.hid hg
  have HL := Lib.hid hl
  clear al h ht hf hc1 hc2 hc3 hc4 hc5 TB FB ne3 hg hk hgm hx hl
  go_enter Tryz.func75, Tryz.ntmps75
  go_wp2_with fail
  go_quiet (first | (go_at_call 130; refine Calls.quiet_of (AL.out _ ?_); exact H.out))
  go_wp2_with fail
  go_ret2
  refine ⟨rfl, (((Upd.start o _ w c).drewN nq).set _ (.inr HG.out)).set _ (.inr HTB.out), ?_, ⟨?_, ?_⟩, ⟨?_, ?_⟩⟩
  · have := Joins.block_setCell (i := 1) H.out (.slice (some ⟨fb, 0, none⟩) m fc)
    exact (Below.heap_setCell _ _ _ _ (by exact fun x => ne2 x.symm)).trans this
  · have := owns_set (owns_other HT.out.1 (a := ⟨g, 1, none⟩) (by simp [Value.ownBlock]; exact ne2) (.slice (some ⟨fb, 0, none⟩) m fc)) k (.bool true)
    exact this
  · intro k hk
    simp [Value.ownBlock] at hk
    subst hk
    exact (ext_old tlt).trans HTB.out
  · have h2 := owns_other (owns_other HF.out.1 (a := ⟨g, 1, none⟩) (by simp [Value.ownBlock]; exact ne1) (.slice (some ⟨fb, 0, none⟩) m fc)) (a := ⟨tb, k, none⟩) (by simp [Value.ownBlock]; exact fun x => NE.out x.symm) (.bool true)
    obtain ⟨cur, q1, q2, q3, q4, q5⟩ := owns_row h2
    refine ⟨by simp [intsV, HL.out], .inr ⟨fb, fc, cur, rfl, Nat.zero_le _, q1, by omega, q3, q4, ?_⟩⟩
    have e1 : cur.toList.take (m * 1) = (cur.toList.take ((m + 1) * 1)).take m := by rw [List.take_take]; congr 1; omega
    rw [e1, q5]
    unfold intsV
    rw [List.map_take]
  · intro k hk
    simp [Value.ownBlock] at hk
    subst hk
    exact (ext_old flt).trans HFB.out

theorem takenV_get (n : Nat) (ord : List Nat) (k : Nat) (hk : k < n) : (takenV n ord)[k]? = some (.bool (decide (k ∈ ord))) := by
  unfold takenV
  rw [List.getElem?_map, List.getElem?_range hk]
  rfl
theorem takenV_len (n : Nat) (ord : List Nat) : (takenV n ord).length = n := by unfold takenV; rw [List.length_map, List.length_range]
/-- a number is taken -/
theorem ptake_any (o : Nat → Nat) (ap n : Nat) (ord : List Nat) (w : World) (h : IsFree w o ap n ord) (hlt : ∀ k ∈ ord, k < n) (hn : n < 1000) :
    Calls Tryz.prog 75 #[.pointer (some ⟨ap, 0, none⟩)] w fun e w' => ∃ k n', e = .returned (.tuple #[.int .i64 (k : Nat), .int .i64 0]) ∧ Upd o (· = 7) w w' (ext o w.heap.size 7) ∧ ((n' = n ∧ k < n) ∨ (n' = n + 1 ∧ k = n ∧ ord.length = n)) ∧ k ∉ ord ∧ IsFree w' (ext o w.heap.size 7) ap n' (k :: ord) := by
  obtain ⟨oa, tv, fv, fl, ar, tk, fr, r1, r2, r3⟩ := h
  have hal := lt_of_block ar
  rcases List.eq_nil_or_concat fl with rfl | ⟨l', k, rfl⟩
  · obtain ⟨fa, fc, rfl⟩ := own_shape fr.1
    simp only [List.length_nil] at fr ar r3
    refine (take_new o 7 ap n fa fc tv (takenV n ord) w ar oa tk fr hn).mono ?_
    rintro e w' ⟨rfl, u, tv', ar', tk', fr'⟩
    have hnn : n ∉ ord := fun hx => absurd (hlt n hx) (Nat.lt_irrefl _)
    refine ⟨n, n + 1, rfl, u, .inr ⟨rfl, rfl, by omega⟩, hnn, ⟨(ext_old hal).trans oa, tv', .slice fa 0 fc, [], ar', ?_, ?_, List.nodup_nil, by simp, by simp; omega⟩⟩
    · have e : takenV (n + 1) (n :: ord) = takenV n ord ++ [.bool true] := by
        apply List.ext_getElem?
        intro j
        rcases Nat.lt_trichotomy j n with h1 | rfl | h1
        · rw [takenV_get _ _ _ (by omega), List.getElem?_append_left (by rw [takenV_len]; exact h1), takenV_get _ _ _ h1]
          have : j ≠ n := by omega
          simp [this]
        · rw [takenV_get _ _ _ (by omega), List.getElem?_append_right (by rw [takenV_len]; exact Nat.le_refl _), takenV_len, Nat.sub_self]
          simp
        · rw [List.getElem?_eq_none (by rw [takenV_len]; omega), List.getElem?_eq_none (by rw [List.length_append, takenV_len]; simp; omega)]
      rw [e]
      exact tk'
    · exact fr'
  · simp only [List.concat_eq_append] at fr r1 r2 r3 ar ⊢
    have hkm := r2 k (by simp)
    have hlen : (l' ++ [k]).length = l'.length + 1 := by simp
    rw [hlen] at fr r3
    obtain ⟨fb, fc, hfv, _, _⟩ := own_form fr.1 (by omega)
    subst hfv
    obtain ⟨tb, tc, htv, _, _⟩ := own_form tk.1 (by omega)
    subst htv
    have hx := takenV_get n ord k hkm.1
    refine (take_back o 7 ap n l'.length k tb tc fb fc (takenV n ord) (l' ++ [k]) _ w ar oa tk fr hlen (by simp [List.getD_eq_getElem?_getD]) hkm.1 hx (by omega) hn).mono ?_
    rintro e w' ⟨rfl, u, ar', tk', fr'⟩
    refine ⟨k, n, rfl, u, .inl ⟨rfl, hkm.1⟩, hkm.2, ⟨(ext_old hal).trans oa, _, _, l', ar', ?_, ?_, ?_, ?_, by simp; omega⟩⟩
    · have e : takenV n (k :: ord) = (takenV n ord).set k (.bool true) := by
        apply List.ext_getElem?
        intro j
        by_cases h1 : j < n
        · by_cases h2 : j = k
          · subst h2
            rw [takenV_get _ _ _ h1, List.getElem?_set_self (by rw [takenV_len]; exact h1)]
            simp
          · rw [takenV_get _ _ _ h1, List.getElem?_set_ne (fun e => h2 e.symm), takenV_get _ _ _ h1]
            simp [h2]
        · rw [List.getElem?_eq_none (by rw [takenV_len]; omega), List.getElem?_eq_none (by rw [List.length_set, takenV_len]; omega)]
      rw [e]
      exact tk'
    · rw [List.take_left' rfl] at fr'
      exact fr'
    · exact (List.nodup_append.1 r1).1
    · intro j hj
      obtain ⟨q1, q2⟩ := r2 j (by simp [hj])
      refine ⟨q1, fun hx => ?_⟩
      rcases List.mem_cons.1 hx with rfl | hx
      · exact (List.nodup_append.1 r1).2.2 j hj j (by simp) rfl
      · exact q2 hx
end Go.Proofs.YtnadgcgnediakaaGreatDoor
namespace Go.Proofs.YtnadgcgnediakaaGreatDoor

theorem countP_seg (p : Nat → Bool) : ∀ (l : List Nat), (l.Pairwise fun a b => p b = true → p a = true) → ∀ i (h : i < l.length), (p l[i] = true ↔ i < l.countP p)
  | [], _, i, h => absurd h (Nat.not_lt_zero _)
  | a :: r, hp, i, h => by
    rw [List.pairwise_cons] at hp
    by_cases ha : p a = true
    · rw [List.countP_cons_of_pos ha]
      match i, h with
      | 0, _ => simp [ha]
      | i + 1, h =>
        have := countP_seg p r hp.2 i (by simpa using h)
        rw [List.getElem_cons_succ, this]
        omega
    · have h0 : ∀ x, x ∈ r → ¬ p x = true := fun x hx hpx => ha (hp.1 x hx hpx)
      rw [List.countP_cons_of_neg ha, List.countP_eq_zero.2 h0]
      match i, h with
      | 0, _ => simp [ha]
      | i + 1, h =>
        have := h0 _ (List.getElem_mem (show i < r.length by simpa using h))
        simp [this]

theorem sorted_lt {ord : List Nat} {rf : Nat → Nat} (hs : ord.Pairwise fun a b => rf a < rf b) (row : Nat) (i : Nat) (h : i < ord.length) : rf ord[i] < row ↔ i < cntB ord rf row := by
  have := countP_seg (fun k => decide (rf k < row)) ord (hs.imp fun {a b} hab hb => by
    simp only [decide_eq_true_eq] at hb ⊢
    omega) i h
  rw [decide_eq_true_eq] at this
  exact this
theorem getD_get (l : List Nat) (i : Nat) (h : i < l.length) : l.getD i 0 = l[i] := by
  rw [List.getD_eq_getElem?_getD, List.getElem?_eq_getElem h]
  rfl
theorem found_spec {ord : List Nat} {rf : Nat → Nat} (hs : ord.Pairwise fun a b => rf a < rf b) (row : Nat) :
    (∃ h : cntB ord rf row < ord.length, rf (ord[cntB ord rf row]'h) = row ∧ foundB ord rf row = true) ∨ ((∀ k, k ∈ ord → rf k ≠ row) ∧ foundB ord rf row = false) := by
  by_cases he : ∃ k, k ∈ ord ∧ rf k = row
  · obtain ⟨k, hk, hr⟩ := he
    obtain ⟨i, hi, rfl⟩ := List.getElem_of_mem hk
    have h1 : ¬ i < cntB ord rf row := fun h => by have := (sorted_lt hs row i hi).2 h; omega
    have hc : cntB ord rf row < ord.length := by omega
    have h2 : ¬ rf (ord[cntB ord rf row]'hc) < row := fun h => by have := (sorted_lt hs row _ hc).1 h; omega
    have h3 : cntB ord rf row = i := by
      rcases Nat.lt_or_ge (cntB ord rf row) i with h | h
      · have := List.pairwise_iff_getElem.1 hs _ _ hc hi h
        omega
      · omega
    have h4 : rf (ord[cntB ord rf row]'hc) = row := by
      have e : ord[cntB ord rf row]'hc = ord[i] := by simp only [h3]
      rw [e]
      exact hr
    refine .inl ⟨hc, h4, ?_⟩
    unfold foundB
    rw [getD_get _ _ hc]
    simp [hc, h4]
  · have hne : ∀ k, k ∈ ord → rf k ≠ row := fun k hk hr => he ⟨k, hk, hr⟩
    refine .inr ⟨hne, ?_⟩
    unfold foundB
    by_cases hc : cntB ord rf row < ord.length
    · rw [getD_get _ _ hc]
      have := hne _ (List.getElem_mem hc)
      simp [this]
    · simp [hc]
theorem pos_spec {ord : List Nat} {rf : Nat → Nat} (pf : Nat → Nat) (hs : ord.Pairwise fun a b => rf a < rf b) (row : Nat) :
    (∃ k, k ∈ ord ∧ rf k = row ∧ posB ord rf pf row = (pf k : Nat)) ∨ ((∀ k, k ∈ ord → rf k ≠ row) ∧ posB ord rf pf row = -1) := by
  unfold posB
  rcases found_spec hs row with ⟨hc, h1, h2⟩ | ⟨h1, h2⟩
  · rw [h2, if_pos rfl, getD_get _ _ hc]
    exact .inl ⟨_, List.getElem_mem hc, h1, rfl⟩
  · rw [h2]
    exact .inr ⟨h1, rfl⟩
theorem hasFrom_spec (pf : Nat → Nat) (pos : Nat) : ∀ (l : List Nat) (i : Nat), (∃ j, ∃ h : j < l.length, hasFrom pf pos l i = ((i + j : Nat) : Int) ∧ pf l[j] = pos) ∨ ((∀ k, k ∈ l → pf k ≠ pos) ∧ hasFrom pf pos l i = -1)
  | [], i => .inr ⟨by simp, rfl⟩
  | k :: r, i => by
    unfold hasFrom
    by_cases h : pf k = pos
    · rw [if_pos h]
      exact .inl ⟨0, by simp, by simp, h⟩
    · rw [if_neg h]
      rcases hasFrom_spec pf pos r (i + 1) with ⟨j, hj, h1, h2⟩ | ⟨h1, h2⟩
      · exact .inl ⟨j + 1, by simpa using hj, by rw [h1]; omega, by simpa using h2⟩
      · exact .inr ⟨by
          intro x hx
          rcases List.mem_cons.1 hx with rfl | hx
          · exact h
          · exact h1 x hx, h2⟩
theorem has_spec (ord : List Nat) (pf : Nat → Nat) (pos : Nat) : (∃ j, ∃ h : j < ord.length, hasB ord pf pos = (j : Nat) ∧ pf ord[j] = pos) ∨ ((∀ k, k ∈ ord → pf k ≠ pos) ∧ hasB ord pf pos = -1) := by
  rcases hasFrom_spec pf pos ord 0 with ⟨j, hj, h1, h2⟩ | h
  · exact .inl ⟨j, hj, by unfold hasB; rw [h1, Nat.zero_add], h2⟩
  · exact .inr h
theorem row_spec (ord : List Nat) (rf pf : Nat → Nat) (pos : Nat) :
    (∃ k, k ∈ ord ∧ pf k = pos ∧ rowB ord rf pf pos = (rf k : Nat)) ∨ ((∀ k, k ∈ ord → pf k ≠ pos) ∧ rowB ord rf pf pos = -1) := by
  unfold rowB
  rcases has_spec ord pf pos with ⟨j, hj, h1, h2⟩ | ⟨h1, h2⟩
  · rw [h1, if_pos (by omega), Int.toNat_natCast, getD_get _ _ hj]
    exact .inl ⟨_, List.getElem_mem hj, h2, rfl⟩
  · rw [h2]
    exact .inr ⟨h1, by rw [if_neg (by omega)]⟩
theorem nextQ_spec (Q : List (Nat × Nat)) (pos : Nat) : (∃ x, x ∈ Q ∧ pos ≤ x.2 ∧ nextQ Q pos = (x.2 : Nat) ∧ ∀ y, y ∈ Q → pos ≤ y.2 → x.2 ≤ y.2) ∨ ((∀ x, x ∈ Q → x.2 < pos) ∧ nextQ Q pos = -1) := by
  have key : ∀ j, j ≤ Q.length → (∃ x, x ∈ Q.take j ∧ pos ≤ x.2 ∧ nextQ (Q.take j) pos = (x.2 : Nat) ∧ ∀ y, y ∈ Q.take j → pos ≤ y.2 → x.2 ≤ y.2) ∨ ((∀ x, x ∈ Q.take j → x.2 < pos) ∧ nextQ (Q.take j) pos = -1) := by
    intro j
    induction j with
    | zero => exact fun _ => .inr ⟨by simp, rfl⟩
    | succ j ih =>
      intro hj
      have hm : ∀ y, y ∈ Q.take (j + 1) ↔ y ∈ Q.take j ∨ y = Q[j] := by
        intro y
        rw [List.take_add_one, List.getElem?_eq_getElem (show j < Q.length by omega), List.mem_append]
        simp only [Option.toList_some, List.mem_singleton]
      rw [nextQ_take Q pos j (by omega)]
      rcases ih (by omega) with ⟨x, h1, h2, h3, h4⟩ | ⟨h1, h2⟩
      · rw [h3]
        unfold nextStep
        by_cases h : pos ≤ Q[j].2 ∧ Q[j].2 < x.2
        · rw [if_pos ⟨h.1, .inr (by omega)⟩]
          refine .inl ⟨Q[j], (hm _).2 (.inr rfl), h.1, rfl, fun y hy hp => ?_⟩
          rcases (hm y).1 hy with hy | rfl
          · have := h4 y hy hp
            omega
          · exact Nat.le_refl _
        · rw [if_neg (by omega)]
          refine .inl ⟨x, (hm _).2 (.inl h1), h2, rfl, fun y hy hp => ?_⟩
          rcases (hm y).1 hy with hy | rfl
          · exact h4 y hy hp
          · omega
      · rw [h2]
        unfold nextStep
        by_cases h : pos ≤ Q[j].2
        · rw [if_pos ⟨h, .inl (by omega)⟩]
          refine .inl ⟨Q[j], (hm _).2 (.inr rfl), h, rfl, fun y hy hp => ?_⟩
          rcases (hm y).1 hy with hy | rfl
          · have := h1 y hy
            omega
          · exact Nat.le_refl _
        · rw [if_neg (by omega)]
          refine .inr ⟨fun y hy => ?_, rfl⟩
          rcases (hm y).1 hy with hy | rfl
          · exact h1 y hy
          · omega
  have := key Q.length (Nat.le_refl _)
  rwa [List.take_length] at this
theorem next_spec (ord : List Nat) (rf pf : Nat → Nat) (pos : Nat) : (∃ k, k ∈ ord ∧ pos ≤ pf k ∧ nextQ (pairs ord rf pf) pos = (pf k : Nat) ∧ ∀ j, j ∈ ord → pos ≤ pf j → pf k ≤ pf j) ∨ ((∀ k, k ∈ ord → pf k < pos) ∧ nextQ (pairs ord rf pf) pos = -1) := by
  have hm : ∀ k, k ∈ ord → (rf k, pf k) ∈ pairs ord rf pf := fun k hk => List.mem_map.2 ⟨k, hk, rfl⟩
  rcases nextQ_spec (pairs ord rf pf) pos with ⟨x, h1, h2, h3, h4⟩ | ⟨h1, h2⟩
  · obtain ⟨k, hk, rfl⟩ := List.mem_map.1 h1
    exact .inl ⟨k, hk, h2, h3, fun j hj hp => h4 _ (hm j hj) hp⟩
  · exact .inr ⟨fun k hk => h1 _ (hm k hk), h2⟩
/-- so many samples at most -/
theorem few_places (ord : List Nat) (pf : Nat → Nat) (N : Nat) (hl : ∀ k, k ∈ ord → pf k ≤ N) (hi : ∀ a, a ∈ ord → ∀ b, b ∈ ord → pf a = pf b → a = b) (hn : ord.Nodup) : ord.length ≤ N + 1 := by
  have h := Wd.cnt_inj_le (N + 1) (fun i => pf (ord.getD i 0)) ord.length (fun _ => true) (fun i hi2 => by
    have := hl (ord.getD i 0) (by rw [getD_get _ _ hi2]; exact List.getElem_mem hi2)
    omega) (fun i j h1 h2 he => by
    have := hi (ord.getD i 0) (by rw [getD_get _ _ h1]; exact List.getElem_mem h1) (ord.getD j 0) (by rw [getD_get _ _ h2]; exact List.getElem_mem h2) he
    rw [getD_get _ _ h1, getD_get _ _ h2] at this
    exact (List.getElem_inj hn).1 this)
  have e1 := Wd.cnt_all (fun _ => true) ord.length (fun _ _ => rfl)
  have e2 := Wd.cnt_all (fun _ => true) (N + 1) (fun _ _ => rfl)
  omega
end Go.Proofs.YtnadgcgnediakaaGreatDoor
namespace Go.Proofs.YtnadgcgnediakaaGreatDoor
open Go.ChangeShapes Go.WideShapes Go.ChangeAt Go.RowKit Go.Deep

/-- the samples' block, but for the arena -/
structure IsP0 (w : World) (o : Nat → Nat) (pb ap : Nat) (lv ov : Value) (rf pf : Nat → Nat) (n : Nat) (ord : List Nat) (rows places : Nat) : Prop where
  c : w.heap[pb]? = some (.cells #[.pointer (some ⟨ap, 0, none⟩), lv, ov, .int .i64 rows, .int .i64 places] 112 (0, 0))
  ob : o pb = 9
  ls : Owned w o 9 44 2 lv n (cells2 rf pf n)
  od : Owned w o 9 3 1 ov ord.length (intsV ord)
section
variable {w w' : World} {o o' : Nat → Nat} {pb ap : Nat} {lv ov : Value} {rf pf : Nat → Nat} {n : Nat} {ord : List Nat} {rows places : Nat}
theorem IsPB.p0 (h : IsPB w o pb ap lv ov rf pf n ord rows places) : IsP0 w o pb ap lv ov rf pf n ord rows places := ⟨h.c, h.ob, h.ls, h.od⟩
theorem IsP0.keep (h : IsP0 w o pb ap lv ov rf pf n ord rows places) {d : Nat → Prop} (u : Upd o d w w' o') (h9 : ¬ d 9) : IsP0 w' o' pb ap lv ov rf pf n ord rows places := by
  have k := u.heap h.c (by rw [h.ob]; exact h9)
  exact ⟨k.1, k.2.trans h.ob, h.ls.keep u h9, h.od.keep u h9⟩
theorem IsP0.c0 (h : IsP0 w o pb ap lv ov rf pf n ord rows places) : w.cell? ⟨pb, 0, none⟩ = some (.pointer (some ⟨ap, 0, none⟩)) := by rw [Joins.cell_of_block h.c]; rfl
theorem IsP0.c1 (h : IsP0 w o pb ap lv ov rf pf n ord rows places) : w.cell? ⟨pb, 1, none⟩ = some lv := by rw [Joins.cell_of_block h.c]; rfl
theorem IsP0.c2 (h : IsP0 w o pb ap lv ov rf pf n ord rows places) : w.cell? ⟨pb, 2, none⟩ = some ov := by rw [Joins.cell_of_block h.c]; rfl
theorem IsP0.f (h : IsP0 w o pb ap lv ov rf pf n ord rows places) (i : Nat) : w.frozen? ⟨pb, i, none⟩ = false := Joins.unfrozen_of_block h.c i
end
theorem size_sets (w : World) (a b : Addr) (u v : Value) : ((w.setCell a u).setCell b v).heap.size = w.heap.size := by rw [World.size_setCell, World.size_setCell]
theorem ins_tail (o : Nat → Nat) (pb ap lb lc : Nat) (ov : Value) (rf pf : Nat → Nat) (n : Nat) (ord : List Nat) (rows places c k row pos : Nat) (w : World) (p : IsP0 w o pb ap (.slice (some ⟨lb, 0, none⟩) n lc) ov rf pf n ord rows places) (hk : k < n) (hc : c ≤ ord.length) (hn : ord.length < 1000) :
    Calls Tryz.prog 76 #[ov, .int .i64 c, .slice (some ⟨w.heap.size, 0, none⟩) 1 1] (((w.setCell ⟨lb, k * 2, none⟩ (.int .i64 row)).setCell ⟨lb, k * 2 + 1, none⟩ (.int .i64 pos)).alloc (.cells #[.int .i64 k] 3)) fun e w' => ∃ va vc, e = .returned (.slice va (ord.length + 1) vc) ∧ w'.cell? ⟨pb, 2, none⟩ = some ov ∧ w'.frozen? ⟨pb, 2, none⟩ = false ∧
      Upd o (· = 9) w (w'.setCell ⟨pb, 2, none⟩ (.slice va (ord.length + 1) vc)) (ext o w.heap.size 9) ∧ IsP0 (w'.setCell ⟨pb, 2, none⟩ (.slice va (ord.length + 1) vc)) (ext o w.heap.size 9) pb ap (.slice (some ⟨lb, 0, none⟩) n lc) (.slice va (ord.length + 1) vc) (upd rf k row) (upd pf k pos) n (ord.insertIdx c k) rows places := by
  have olb : o lb = 9 := p.ls.2 lb rfl
  have lbl : lb < w.heap.size := ownBlock_lt p.ls.1 rfl
  have pbl := lt_of_block p.c
  have ne1 : pb ≠ lb := fun e => owns_ne p.ls.1 p.c (by decide) (by simp [Value.ownBlock, e])
  obtain ⟨cur, hcu, _⟩ := owns_row p.ls.1
  have ne2 : ov.ownBlock ≠ some lb := owns_ne p.od.1 hcu (by decide)
  have ne3 : ov.ownBlock ≠ some pb := owns_ne p.od.1 p.c (by decide)
  obtain ⟨W, hW⟩ : ∃ W, W = ((w.setCell ⟨lb, k * 2, none⟩ (.int .i64 row)).setCell ⟨lb, k * 2 + 1, none⟩ (.int .i64 pos)).alloc (.cells #[.int .i64 k] 3) := ⟨_, rfl⟩
  have uW : Upd o (· = 9) w W (ext o w.heap.size 9) := by
    rw [hW]
    exact (((Upd.start o (· = 9) w 9).set _ (.inr olb)).set _ (.inr olb)).alloc _
  have hsz : W.heap.size = w.heap.size + 1 := by rw [hW, World.size_alloc, size_sets]
  have hb : ∀ b, b < w.heap.size → b ≠ lb → W.heap[b]? = w.heap[b]? := fun b hb hne => by
    rw [hW, Below.heap_alloc _ _ _ (by rw [size_sets]; exact hb), Below.heap_setCell _ _ _ _ hne, Below.heap_setCell _ _ _ _ hne]
  have ow : W.ownsRow 0 3 1 ov ord.length (intsV ord) := owns_same p.od.1 fun b hb' => hb b (ownBlock_lt p.od.1 hb') (fun e => ne2 (by rw [hb', e]))
  have hv : W.heap[w.heap.size]? = some (.cells #[.int .i64 k] 3 (0, 0)) := by
    rw [hW]
    have := heap_alloc_new ((w.setCell ⟨lb, k * 2, none⟩ (.int .i64 row)).setCell ⟨lb, k * 2 + 1, none⟩ (.int .i64 pos)) (.cells #[.int .i64 k] 3)
    rw [size_sets] at this
    exact this
  have hls : W.ownsRow 0 44 2 (.slice (some ⟨lb, 0, none⟩) n lc) n (cells2 (upd rf k row) (upd pf k pos) n) := by
    have h1 := owns_set p.ls.1 (k * 2) (.int .i64 row)
    rw [cells2_set1 rf pf n k row hk] at h1
    have h2 := owns_set h1 (k * 2 + 1) (.int .i64 pos)
    rw [cells2_set2 _ pf n k pos hk] at h2
    rw [hW]
    exact own_alloc h2 _
  rw [← hW]
  refine (ins_any W ov ord c k w.heap.size ow hc hv (fun e => by
    have := ownBlock_lt p.od.1 e
    omega) hn).mono ?_
  rintro e w' ⟨v', rfl, ow', hg, hwh⟩
  obtain ⟨va, vc, rfl⟩ := own_shape ow'
  have hpb : w'.heap[pb]? = w.heap[pb]? := (hg.block pb (by omega) (fun e => ne3 e.symm)).trans (hb pb pbl ne1)
  have hc' := hpb.trans p.c
  have hvp : (Value.slice va (ord.length + 1) vc).ownBlock ≠ some pb := fun e => by
    rcases hwh pb e with h1 | h1
    · exact ne3 h1
    · omega
  have hlb : w'.heap[lb]? = W.heap[lb]? := hg.block lb (by omega) (fun e => ne2 e.symm)
  have ls' := owns_same hls (w1 := w') (fun b hb' => by cases hb'; exact hlb)
  have hlen : (ord.insertIdx c k).length = ord.length + 1 := List.length_insertIdx_of_le_length hc _
  refine ⟨va, vc, rfl, by rw [Joins.cell_of_block hc']; rfl, Joins.unfrozen_of_block hc' _, ?_, ⟨Joins.block_setCell hc' _, (ext_old pbl).trans p.ob, ⟨owns_other ls' (by simp [Value.ownBlock]; exact fun e => ne1 e.symm) _, fun b hb' => by cases hb'; exact (ext_old lbl).trans olb⟩, ⟨by rw [hlen]; exact owns_other ow' hvp _, fun b hb' => ?_⟩⟩⟩
  · refine (uW.grown hg (fun b hb' => .inr (p.od.2 b hb'))).set _ (.inr p.ob)
  · rcases hwh b hb' with h1 | h1
    · rw [ext_old (ownBlock_lt p.od.1 h1)]
      exact p.od.2 b h1
    · exact ext_new (by omega)
theorem insertIdx_perm (l : List Nat) (c k : Nat) (hc : c ≤ l.length) : (l.insertIdx c k).Perm (k :: l) := by
  rw [ins_split k c l hc]
  exact (List.perm_middle).trans (by rw [List.take_append_drop])
theorem padd_fin {w w' : World} {o o' : Nat → Nat} {pb ap : Nat} {lv ov : Value} {rf pf : Nat → Nat} {n c k : Nat} {ord : List Nat} {rows places : Nat} (hf : IsFree w o ap n (k :: ord)) (u : Upd o (· = 9) w w' o') (p : IsP0 w' o' pb ap lv ov rf pf n (ord.insertIdx c k) rows places) (hc : c ≤ ord.length)
    (nd : ord.Nodup) (lt : ∀ x, x ∈ ord → x < n) (hk : k ∉ ord) (hkn : k < n) : IsPB w' o' pb ap lv ov rf pf n (ord.insertIdx c k) rows places := by
  have hp := insertIdx_perm ord c k hc
  obtain ⟨_, _, fl, _, _, _, _, _, hl⟩ := hf.ar
  have hl2 : ord.length + 1 + fl.length = n := hl
  refine ⟨p.c, p.ob, (hf.keep u (by omega)).perm hp, p.ls, p.od, hp.nodup_iff.2 (List.nodup_cons.2 ⟨hk, nd⟩), fun x hx => ?_, by rw [hp.length_eq]; omega⟩
  rcases List.mem_cons.1 (hp.mem_iff.1 hx) with rfl | hx
  · exact hkn
  · exact lt x hx
theorem upd_upd (f : Nat → Nat) (k a b : Nat) : upd (upd f k a) k b = upd f k b := by
  funext i
  unfold upd
  split
  · rfl
  · rfl
/-- a pair more -/
theorem more_p0 {o : Nat → Nat} {pb ap : Nat} {lv ov v1 : Value} {rf pf : Nat → Nat} {k : Nat} {ord : List Nat} {rows places : Nat} {w w4 : World} {x : Obj} (p : IsP0 w o pb ap lv ov rf pf k ord rows places) (hown : w4.ownsRow 0 44 2 v1 (k + 1) (cells2 rf pf k ++ [.int .i64 0, .int .i64 0])) (hgr : (w.alloc x).grownBy w4 lv.ownBlock) (hwh : ∀ b, v1.ownBlock = some b → lv.ownBlock = some b ∨ w.heap.size + 1 ≤ b) :
    ∃ g c, v1 = .slice (some ⟨g, 0, none⟩) (k + 1) c ∧ w4.cell? ⟨pb, 1, none⟩ = some lv ∧ w4.frozen? ⟨pb, 1, none⟩ = false ∧ pb ≠ g ∧ Upd o (· = 9) w (w4.setCell ⟨pb, 1, none⟩ (.slice (some ⟨g, 0, none⟩) (k + 1) c)) (ext o w.heap.size 9) ∧
      IsP0 (w4.setCell ⟨pb, 1, none⟩ (.slice (some ⟨g, 0, none⟩) (k + 1) c)) (ext o w.heap.size 9) pb ap (.slice (some ⟨g, 0, none⟩) (k + 1) c) ov (upd rf k 0) (upd pf k 0) (k + 1) ord rows places := by
  obtain ⟨g, c, rfl, _, hgl⟩ := own_form hown (by omega)
  have pbl := lt_of_block p.c
  have n1 : lv.ownBlock ≠ some pb := owns_ne p.ls.1 p.c (by decide)
  have n2 : ov.ownBlock ≠ some pb := owns_ne p.od.1 p.c (by decide)
  have hsz : (w.alloc x).heap.size = w.heap.size + 1 := by simp
  have sm : ∀ b, b < w.heap.size → lv.ownBlock ≠ some b → w4.heap[b]? = w.heap[b]? := fun b hb hne => (hgr.block b (alloc_lt hb) (fun e => hne e.symm)).trans (Below.heap_alloc _ _ _ hb)
  have hc4 := (sm pb pbl n1).trans p.c
  have hpg : pb ≠ g := fun e => by
    rcases hwh g rfl with h1 | h1
    · exact n1 (by rw [h1, e])
    · omega
  have n3 : ∀ b, ov.ownBlock = some b → lv.ownBlock ≠ some b := fun b hb => by
    rcases p.ls.1.2 with ⟨hv, _⟩ | ⟨g', cap, cur, hv, _, hgg, _⟩
    · rw [hv]; simp [Value.ownBlock]
    · rw [hv]
      intro e
      have : g' = b := by simpa [Value.ownBlock] using e
      subst this
      exact owns_ne p.od.1 hgg (by decide) hb
  have e0 : cells2 rf pf k ++ [.int .i64 0, .int .i64 0] = cells2 (upd rf k 0) (upd pf k 0) (k + 1) := by
    rw [cells2_snoc, upd_same, upd_same]
    congr 1
    exact cells2_congr fun i hi => ⟨(upd_other _ _ (by omega)).symm, (upd_other _ _ (by omega)).symm⟩
  rw [e0] at hown
  refine ⟨g, c, rfl, by rw [Joins.cell_of_block hc4]; rfl, Joins.unfrozen_of_block hc4 _, hpg, ?_, ⟨Joins.block_setCell hc4 _, (ext_old pbl).trans p.ob, ⟨owns_other hown (by simp [Value.ownBlock]; exact fun e => hpg e.symm) _, fun b hb => ?_⟩, ⟨owns_other (owns_same p.od.1 fun b hb => sm b (ownBlock_lt p.od.1 hb) (n3 b hb)) n2 _, fun b hb => (ext_old (ownBlock_lt p.od.1 hb)).trans (p.od.2 b hb)⟩⟩⟩
  · exact ((((Upd.start o (· = 9) w 9).alloc x).grown hgr (fun b hb => .inr (p.ls.2 b hb))).set _ (.inr p.ob))
  · rcases hwh b hb with h1 | h1
    · rw [ext_old (ownBlock_lt p.ls.1 h1)]
      exact p.ls.2 b h1
    · exact ext_new (by omega)
set_option maxRecDepth 20000 in
set_option maxHeartbeats 1000000 in
theorem padd_any (o : Nat → Nat) (pb ap : Nat) (lv ov : Value) (rf pf : Nat → Nat) (n : Nat) (ord : List Nat) (rows places row pos : Nat) (w : World) (h : IsPB w o pb ap lv ov rf pf n ord rows places) (hs : ord.Pairwise fun a b => rf a < rf b) (hn : n < 900) (hrow : row < rows) (hpos : pos < places) (_hR : rows < 1000) (_hP : places < 1000)
    (hnr : ∀ k, k ∈ ord → rf k ≠ row) (hnp : ∀ k, k ∈ ord → pf k ≠ pos) :
    Calls Tryz.prog 37 #[.pointer (some ⟨pb, 0, none⟩), .int .i64 row, .int .i64 pos] w fun e w' => e = .returned (.int .i64 0) ∧ ∃ o' k n' lv' ov', (No5 o → No5 o') ∧ Upd o (fun x => x = 9 ∨ x = 7) w w' o' ∧ k ∉ ord ∧ (n' = n ∨ n' = ord.length + 1) ∧
      IsPB w' o' pb ap lv' ov' (upd rf k row) (upd pf k pos) n' (ord.insertIdx (cntB ord rf row) k) rows places := by
  have PA := pat_any o pb ap lv ov rf pf n ord rows places row w h hs (by omega)
  have hfo : foundB ord rf row = false := by
    rcases found_spec hs row with ⟨hc, h1, _⟩ | ⟨_, h2⟩
    · exact absurd h1 (hnr _ (List.getElem_mem hc))
    · exact h2
  have hha : hasB ord pf pos = -1 := by
    rcases has_spec ord pf pos with ⟨j, hj, _, h2⟩ | ⟨_, h2⟩
    · exact absurd h2 (hnp _ (List.getElem_mem hj))
    · exact h2
  rw [hfo] at PA
  have hcl : cntB ord rf row ≤ ord.length := List.countP_le_length
  have PH := Lib.hid (fun w1 o1 (h1 : IsPB w1 o1 pb ap lv ov rf pf n ord rows places) => hha ▸ phas_any o1 pb ap lv ov rf pf n ord rows places pos w1 h1 (by omega))
  have PT := Lib.hid (fun w1 o1 (h1 : IsFree w1 o1 ap n ord) => ptake_any o1 ap n ord w1 h1 h.lt (by omega))
  have PAH := Lib.hid PA
  have H := Lib.hid h
  have c3 := h.c3
  have c4 := h.c4
  generalize cntB ord rf row = cn at PAH hcl ⊢
  clear PA h hs hnr hnp hfo hha
  go_enter Tryz.func37, Tryz.ntmps37
  go_wp2_with fail
  refine PAH.out.mono ?_
  rintro e w1 ⟨rfl, u1⟩
  have h1 := H.out.keep u1 (by unfold nothing; exact id) (by unfold nothing; exact id)
  have P1 := Lib.hid (PH.out _ _ h1)
  have H1 := Lib.hid h1
  have U1 := Lib.hid u1
  clear h1 u1 c3 c4
  go_wp2_with fail
  refine P1.out.mono ?_
  rintro e w2 ⟨rfl, u2⟩
  have h2 := H1.out.keep u2 (by unfold nothing; exact id) (by unfold nothing; exact id)
  have c0 := h2.c0
  have T2 := Lib.hid (PT.out _ _ h2.ar)
  have H2 := Lib.hid h2
  have U2 := Lib.hid (U1.out.trans u2 (fun _ h => h))
  clear h2 u2
  go_wp2_with fail
  refine T2.out.mono ?_
  rintro e w3 ⟨k, n', rfl, u3, hcase, hk, fr⟩
  have p3 := H2.out.p0.keep u3 (by omega)
  have U3 := Lib.hid ((U2.out.mono (d := fun x => x = 9 ∨ x = 7) (fun _ h => h.elim)).trans u3 (fun _ h => .inr h))
  have d0 := p3.c0
  have d1 := p3.c1
  have d2 := p3.c2
  have g1 := p3.f 1
  have g2 := p3.f 2
  have P3 := Lib.hid p3
  have FR := Lib.hid fr
  have HK := Lib.hid hk
  clear u3 p3 fr hk c0
  rcases hcase with ⟨rfl, hkn⟩ | ⟨rfl, rfl, hlen⟩
  · obtain ⟨lb, lc, hlv, _, hlb⟩ := own_form P3.out.ls.1 (by omega)
    subst hlv
    have dk : decide (n' ≤ k) = false := decide_eq_false (by omega)
    have OW := owns_pair P3.out.ls.1 hkn
    obtain ⟨q1, q2, q3, q4⟩ := OW
    have n1 : pb ≠ lb := fun e => owns_ne P3.out.ls.1 P3.out.c (by decide) (by simp [Value.ownBlock, e])
    go_wp2_with fail
    refine wp_loop_rounds 1 ?_
    rw [rounds_succ]
    go_wp2_with fail
    have IT := Lib.hid (ins_tail _ pb ap lb lc ov rf pf n' ord rows places cn k row pos w3 P3.out hkn hcl (by have := H.out.ln; omega))
    refine IT.out.mono ?_
    rintro e w4 ⟨va, vc, rfl, e2, f2, u4, p4⟩
    have U4 := Lib.hid u4
    have P4 := Lib.hid p4
    clear u4 p4 IT
    go_wp2_with fail
    go_ret
    exact ⟨rfl, _, k, n', _, _, fun h5 => ext_no5 (ext_no5 (ext_no5 (ext_no5 h5 _ (by omega)) _ (by omega)) _ (by omega)) _ (by omega), U3.out.trans U4.out (fun _ h => .inl h), HK.out, .inl rfl, padd_fin FR.out U4.out P4.out hcl H.out.nd H.out.lt HK.out hkn⟩
  · obtain ⟨la, lc, hlv⟩ := own_shape P3.out.ls.1
    subst hlv
    have dk : decide (k ≤ k) = true := decide_eq_true (Nat.le_refl _)
    obtain ⟨i0, hi, hz0, hz1, hz2⟩ := info_parts info44
    have HI := Lib.hid (And.intro hi (And.intro hz0 (And.intro hz1 hz2)))
    have LB := Lib.hid (show k < 900 from by omega)
    clear hi hz0 hz1 hz2
    go_wp2_with fail
    refine wp_loop_rounds 2 ?_
    rw [rounds_succ]
    go_wp2_with (first | (at_builtin; go_loud (refine wpList_append_where _ rfl _ _ 39 rfl 44 i0 (.agg #[.int .i64 0, .int .i64 0]) 2 16 Tryz.underlying39 HI.out.1 HI.out.2.1 HI.out.2.2.1 HI.out.2.2.2 rfl (by decide) _ k _ rfl (own_alloc P3.out.ls.1 _) ⟨w3.heap.size, 0, none⟩ 1 1 [.int .i64 0, .int .i64 0] rfl rfl (new_two w3 _ _ 44) (two_int _ _ _) (by unfold maxLen; omega) (by omega) ?_)) | fail)
    intro v1 w4 hown hgr hwh
    obtain ⟨g, c, rfl, e4, f4, hpg, u5, p5⟩ := more_p0 P3.out hown hgr hwh
    have dk2 : decide (k + 1 ≤ k) = false := decide_eq_false (by omega)
    have E4 := Lib.hid (And.intro e4 f4)
    have P5 := Lib.hid p5
    have U5 := Lib.hid u5
    have it := ins_tail _ pb ap g c ov _ _ (k + 1) ord rows places cn k row pos _ p5 (Nat.lt_succ_self k) hcl (by omega)
    simp only [World.size_setCell] at it
    have IT := Lib.hid it
    clear it
    have c1 := p5.c1
    have c2 := p5.c2
    have f2 := p5.f 2
    obtain ⟨q1, q2, q3, q4⟩ := owns_pair p5.ls.1 (Nat.lt_succ_self k)
    clear hown hgr hwh u5 p5 d0 d1 d2 g1 g2
    go_wp2_with fail
    rw [rounds_succ]
    go_wp2_with fail
    refine IT.out.mono ?_
    rintro e w6 ⟨va, vc, rfl, e2, f2, u6, p6⟩
    rw [upd_upd, upd_upd] at p6
    rw [hlen] at u6 p6
    have U6 := Lib.hid u6
    have P6 := Lib.hid p6
    clear u6 p6 IT
    go_wp2_with fail
    go_ret
    exact ⟨rfl, _, k, k + 1, _, _, fun h5 => ext_no5 (ext_no5 (ext_no5 (ext_no5 (ext_no5 h5 _ (by omega)) _ (by omega)) _ (by omega)) _ (by omega)) _ (by omega), (U3.out.trans U5.out (fun _ h => .inl h)).trans U6.out (fun _ h => .inl h), HK.out, .inr (by omega), padd_fin (FR.out.keep U5.out (by omega)) U6.out P6.out hcl H.out.nd (fun x hx => Nat.lt_succ_of_lt (H.out.lt x hx)) HK.out (Nat.lt_succ_self k)⟩
end Go.Proofs.YtnadgcgnediakaaGreatDoor
