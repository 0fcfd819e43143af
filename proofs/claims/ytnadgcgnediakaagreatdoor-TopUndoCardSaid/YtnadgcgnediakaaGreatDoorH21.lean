/- The samples in memory; the search among them. The walks of perm.at, has. The walk of perm.each, whatever the closure. The walks of perm.RowIn, PosIn. The walks of perm.Pos, Row. The walks of perm.RowIn, PosIn, whole. The library's sort of the samples. The walk of perm.RowMove. -/
import Derived.Test.YtnadgcgnediakaaGreatDoorH20
import Derived.Test.YtnadgcgnediakaaGreatDoorH14
namespace Go.Proofs.YtnadgcgnediakaaGreatDoor
open Go.ChangeShapes Go.WideShapes Go.ChangeAt Go.RowKit Go.Deep

/-- pairs, cell by cell -/
def cells2 (rf pf : Nat → Nat) (n : Nat) : List Value := (List.range n).flatMap fun k => [.int .i64 (rf k), .int .i64 (pf k)]
theorem cells2_len (rf pf : Nat → Nat) : ∀ n, (cells2 rf pf n).length = n * 2
  | 0 => rfl
  | n + 1 => by
    have := cells2_len rf pf n
    unfold cells2 at this ⊢
    rw [List.range_succ, List.flatMap_append, List.length_append, this]
    simp
    omega
theorem cells2_snoc (rf pf : Nat → Nat) (n : Nat) : cells2 rf pf (n + 1) = cells2 rf pf n ++ [.int .i64 (rf n), .int .i64 (pf n)] := by
  unfold cells2
  rw [List.range_succ, List.flatMap_append]
  rfl
theorem cells2_get (rf pf : Nat → Nat) : ∀ n k, k < n → (cells2 rf pf n)[k * 2]? = some (.int .i64 (rf k)) ∧ (cells2 rf pf n)[k * 2 + 1]? = some (.int .i64 (pf k))
  | 0, k, h => absurd h (Nat.not_lt_zero _)
  | n + 1, k, h => by
    rw [cells2_snoc]
    have hl := cells2_len rf pf n
    by_cases e : k = n
    · subst e
      rw [List.getElem?_append_right (by omega), List.getElem?_append_right (by omega), hl, Nat.sub_self, Nat.add_sub_cancel_left]
      exact ⟨rfl, rfl⟩
    · rw [List.getElem?_append_left (by omega), List.getElem?_append_left (by omega)]
      exact cells2_get rf pf n k (by omega)
theorem cells2_congr {rf pf rf' pf' : Nat → Nat} : ∀ {n : Nat}, (∀ k, k < n → rf k = rf' k ∧ pf k = pf' k) → cells2 rf pf n = cells2 rf' pf' n
  | 0, _ => rfl
  | n + 1, h => by
    rw [cells2_snoc, cells2_snoc, cells2_congr fun k hk => h k (by omega), (h n (by omega)).1, (h n (by omega)).2]
def upd (f : Nat → Nat) (k v : Nat) : Nat → Nat := fun i => if i = k then v else f i
theorem upd_same (f : Nat → Nat) (k v : Nat) : upd f k v k = v := if_pos rfl
theorem upd_other (f : Nat → Nat) {k i : Nat} (v : Nat) (h : i ≠ k) : upd f k v i = f i := if_neg h
theorem cells2_set1 (rf pf : Nat → Nat) (n k v : Nat) (hk : k < n) : (cells2 rf pf n).set (k * 2) (.int .i64 v) = cells2 (upd rf k v) pf n := by
  apply List.ext_getElem?
  intro i
  have hl := cells2_len rf pf n
  have hl' := cells2_len (upd rf k v) pf n
  by_cases hi : i < n * 2
  · obtain ⟨j, hj⟩ : ∃ j, i = j * 2 ∨ i = j * 2 + 1 := ⟨i / 2, by omega⟩
    rcases hj with rfl | rfl
    · rw [(cells2_get (upd rf k v) pf n j (by omega)).1]
      by_cases e : j = k
      · subst e
        rw [List.getElem?_set_self (by omega), upd_same]
      · rw [List.getElem?_set_ne (by omega), (cells2_get rf pf n j (by omega)).1, upd_other _ _ e]
    · rw [(cells2_get (upd rf k v) pf n j (by omega)).2, List.getElem?_set_ne (by omega), (cells2_get rf pf n j (by omega)).2]
  · rw [List.getElem?_eq_none (by simp; omega), List.getElem?_eq_none (by omega)]
theorem cells2_set2 (rf pf : Nat → Nat) (n k v : Nat) (hk : k < n) : (cells2 rf pf n).set (k * 2 + 1) (.int .i64 v) = cells2 rf (upd pf k v) n := by
  apply List.ext_getElem?
  intro i
  have hl := cells2_len rf pf n
  have hl' := cells2_len rf (upd pf k v) n
  by_cases hi : i < n * 2
  · obtain ⟨j, hj⟩ : ∃ j, i = j * 2 ∨ i = j * 2 + 1 := ⟨i / 2, by omega⟩
    rcases hj with rfl | rfl
    · rw [(cells2_get rf (upd pf k v) n j (by omega)).1, List.getElem?_set_ne (by omega), (cells2_get rf pf n j (by omega)).1]
    · rw [(cells2_get rf (upd pf k v) n j (by omega)).2]
      by_cases e : j = k
      · subst e
        rw [List.getElem?_set_self (by omega), upd_same]
      · rw [List.getElem?_set_ne (by omega), (cells2_get rf pf n j (by omega)).2, upd_other _ _ e]
  · rw [List.getElem?_eq_none (by simp; omega), List.getElem?_eq_none (by omega)]

def takenV (n : Nat) (ord : List Nat) : List Value := (List.range n).map fun k => .bool (decide (k ∈ ord))
/-- the arena of the samples' numbers -/
structure IsFree (w : World) (o : Nat → Nat) (ap n : Nat) (ord : List Nat) : Prop where
  oa : o ap = 7
  ar : ∃ tv fv fl, ArenaIs w ap tv fv ∧ Owned w o 7 4 1 tv n (takenV n ord) ∧ Owned w o 7 3 1 fv fl.length (intsV fl) ∧ fl.Nodup ∧ (∀ k, k ∈ fl → k < n ∧ k ∉ ord) ∧ ord.length + fl.length = n
section
variable {w w' : World} {o o' : Nat → Nat} {ap n : Nat} {ord ord' : List Nat}
theorem IsFree.keep (h : IsFree w o ap n ord) {d : Nat → Prop} (u : Upd o d w w' o') (h7 : ¬ d 7) : IsFree w' o' ap n ord := by
  obtain ⟨oa, tv, fv, fl, ar, tk, fr, r⟩ := h
  have ka := u.heap ar (by rw [oa]; exact h7)
  exact ⟨ka.2.trans oa, tv, fv, fl, ka.1, tk.keep u h7, fr.keep u h7, r⟩
theorem IsFree.only (h : IsFree w o ap n ord) {g : Nat} (k : Only g w w') (hg : o g ≠ 7) : IsFree w' o ap n ord :=
  h.keep ((Upd.refl o (· = o g) w).only k (.inr rfl)) (fun e => hg e.symm)
theorem IsFree.perm (h : IsFree w o ap n ord) (hp : ord'.Perm ord) : IsFree w o ap n ord' := by
  obtain ⟨oa, tv, fv, fl, ar, tk, fr, r1, r2, r3⟩ := h
  have e : takenV n ord' = takenV n ord := by
    unfold takenV
    apply List.map_congr_left
    intro k _
    rw [decide_eq_decide.2 hp.mem_iff]
  exact ⟨oa, tv, fv, fl, ar, by rw [e]; exact tk, fr, r1, fun k hk => ⟨(r2 k hk).1, fun hx => (r2 k hk).2 (hp.mem_iff.1 hx)⟩, by rw [hp.length_eq]; exact r3⟩
end
/-- the samples' block, its rows and its arena -/
structure IsPB (w : World) (o : Nat → Nat) (pb ap : Nat) (lv ov : Value) (rf pf : Nat → Nat) (n : Nat) (ord : List Nat) (rows places : Nat) : Prop where
  c : w.heap[pb]? = some (.cells #[.pointer (some ⟨ap, 0, none⟩), lv, ov, .int .i64 rows, .int .i64 places] 112 (0, 0))
  ob : o pb = 9
  ar : IsFree w o ap n ord
  ls : Owned w o 9 44 2 lv n (cells2 rf pf n)
  od : Owned w o 9 3 1 ov ord.length (intsV ord)
  nd : ord.Nodup
  lt : ∀ k ∈ ord, k < n
  ln : ord.length ≤ n
section
variable {w w' : World} {o o' : Nat → Nat} {pb ap : Nat} {lv ov : Value} {rf pf : Nat → Nat} {n : Nat} {ord : List Nat} {rows places : Nat}
theorem IsPB.c1 (h : IsPB w o pb ap lv ov rf pf n ord rows places) : w.cell? ⟨pb, 1, none⟩ = some lv := by rw [Joins.cell_of_block h.c]; rfl
theorem IsPB.c2 (h : IsPB w o pb ap lv ov rf pf n ord rows places) : w.cell? ⟨pb, 2, none⟩ = some ov := by rw [Joins.cell_of_block h.c]; rfl
theorem IsPB.c0 (h : IsPB w o pb ap lv ov rf pf n ord rows places) : w.cell? ⟨pb, 0, none⟩ = some (.pointer (some ⟨ap, 0, none⟩)) := by rw [Joins.cell_of_block h.c]; rfl
theorem IsPB.c3 (h : IsPB w o pb ap lv ov rf pf n ord rows places) : w.cell? ⟨pb, 3, none⟩ = some (.int .i64 rows) := by rw [Joins.cell_of_block h.c]; rfl
theorem IsPB.c4 (h : IsPB w o pb ap lv ov rf pf n ord rows places) : w.cell? ⟨pb, 4, none⟩ = some (.int .i64 places) := by rw [Joins.cell_of_block h.c]; rfl
theorem IsPB.f (h : IsPB w o pb ap lv ov rf pf n ord rows places) (i : Nat) : w.frozen? ⟨pb, i, none⟩ = false := Joins.unfrozen_of_block h.c i
theorem IsPB.keep (h : IsPB w o pb ap lv ov rf pf n ord rows places) {d : Nat → Prop} (u : Upd o d w w' o') (h9 : ¬ d 9) (h7 : ¬ d 7) : IsPB w' o' pb ap lv ov rf pf n ord rows places := by
  have k := u.heap h.c (by rw [h.ob]; exact h9)
  exact ⟨k.1, k.2.trans h.ob, h.ar.keep u h7, h.ls.keep u h9, h.od.keep u h9, h.nd, h.lt, h.ln⟩
end

/-- a world that a sort passes through, off its row -/
theorem sw_cell {α : Type} [Inhabited α] {enc : α → Value} {w : World} {blk off m : Nat} {dk : Array α} {os : Array Obj} {b i : Nat} {v : Value} (h : w.cell? ⟨b, i, none⟩ = some v) (hne : b ≠ blk) : (Go.Proofs.sortWorld enc w blk off m dk os).cell? ⟨b, i, none⟩ = some v := by
  unfold Go.Proofs.sortWorld
  have hlt : b < w.heap.size := cell_lt h
  rw [Go.Sort.cell?_grow _ _ _ (by rw [Go.Sort.size_putRow]; exact hlt), Go.Sort.cell?_putRow_other _ _ _ _ _ _ (.inl hne)]
  exact h
def encK (ord : List Nat) : {k // k ∈ ord} → Value := fun k => .int .i64 (k.1 : Nat)
theorem encK_one (ord : List Nat) : Go.Proofs.OneCell (encK ord) := fun _ => rfl
theorem intsV_get (L : List Nat) (j : Nat) (h : j < L.length) : (intsV L)[j]? = some (.int .i64 (L[j] : Nat)) := by
  unfold intsV
  rw [List.getElem?_map, List.getElem?_eq_getElem h]
  rfl
theorem order_holds {w : World} {ob oc : Nat} {ord : List Nat} [Inhabited {k // k ∈ ord}] (h : w.ownsRow 0 3 1 (.slice (some ⟨ob, 0, none⟩) ord.length oc) ord.length (intsV ord)) : Go.Sort.Holds (encK ord) w ob 0 ord.attach.toArray := by
  intro j hj
  have hj' : j < ord.length := by simpa using hj
  refine ⟨?_, owns_free h _⟩
  rw [Nat.zero_add, owns_cell h j _ (intsV_get ord j hj'), getElem!_pos _ j hj]
  simp [encK]
theorem attach_count {ord : List Nat} (p : Nat → Bool) : ord.attach.countP (fun x => p x.1) = ord.countP p := by
  have := List.countP_map (p := p) (f := fun x : {k // k ∈ ord} => x.1) (l := ord.attach)
  rw [show (fun x : {k // k ∈ ord} => p x.1) = p ∘ (fun x => x.1) from rfl, ← this]
  simp
def cntB (ord : List Nat) (rf : Nat → Nat) (row : Nat) : Nat := ord.countP fun k => decide (rf k < row)
def foundB (ord : List Nat) (rf : Nat → Nat) (row : Nat) : Bool := decide (cntB ord rf row < ord.length) && decide (rf (ord.getD (cntB ord rf row) 0) = row)
theorem cmp_neg (a b : Nat) : decide (Lib.compareInt (a : Int) b < 0) = decide (a < b) := by
  unfold Lib.compareInt
  by_cases h : a < b
  · simp [h]
  · by_cases h2 : b < a
    · simp [h, h2]
    · simp [h, h2]
theorem cmp_zero (a b : Nat) : decide (Lib.compareInt (a : Int) b = 0) = decide (a = b) := by
  unfold Lib.compareInt
  by_cases h : a < b
  · simp [h]; omega
  · by_cases h2 : b < a
    · simp [h, h2]; omega
    · simp [h, h2]; omega

/-- the library's search among the samples -/
theorem bs_any (w0 : World) (cb pb lb n lc ob oc row : Nat) (ord : List Nat) (rf pf : Nat → Nat) (h0 : w0.cell? ⟨cb, 0, none⟩ = some (.pointer (some ⟨pb, 0, none⟩))) (h1 : w0.cell? ⟨pb, 1, none⟩ = some (.slice (some ⟨lb, 0, none⟩) n lc))
    (hl : w0.ownsRow 0 44 2 (.slice (some ⟨lb, 0, none⟩) n lc) n (cells2 rf pf n)) (ho : w0.ownsRow 0 3 1 (.slice (some ⟨ob, 0, none⟩) ord.length oc) ord.length (intsV ord)) (hk : ∀ k ∈ ord, k < n) (hne : ord ≠ []) (n1 : cb ≠ ob) (n2 : pb ≠ ob) (n3 : lb ≠ ob)
    (hs : ord.Pairwise fun a b => rf a < rf b) (hn : ord.length < 1000) :
    Calls Tryz.prog 125 #[.slice (some ⟨ob, 0, none⟩) ord.length oc, .int .i64 row, .func (.func 126) #[] #[.pointer (some ⟨cb, 0, none⟩)]] w0 fun e w' => e = .returned (.tuple #[.int .i64 (cntB ord rf row : Nat), .bool (foundB ord rf row)]) ∧ ∃ q os, w' = Go.Sort.grow (w0.drewN q) os := by
  haveI : Inhabited {k // k ∈ ord} := ⟨⟨ord.head hne, List.head_mem hne⟩⟩
  have hH := order_holds ho
  have eg : ∀ args w, (callFunc 126 args).run Tryz.prog w = .ok (.enter 126 args) w := Go.Proofs.enters_of Tryz.func126 (by kernel_rfl) rfl
  have hsz : ord.attach.toArray.size = ord.length := by simp
  have hc : CmpLaysT Tryz.prog 126 #[.pointer (some ⟨cb, 0, none⟩)] (encK ord) (.int .i64 row) (fun k => Lib.compareInt (rf k.1 : Nat) row) ob 0 ord.attach.toArray.size w0 := by
    intro m os dk _ x
    have c := pat1_any cb pb lb x.1 (rf x.1) row n lc (Go.Proofs.sortWorld (encK ord) w0 ob 0 m dk os) (sw_cell h0 n1) (sw_cell h1 n2) (sw_cell (owns_cell hl _ _ (cells2_get rf pf n x.1 (hk _ x.2)).1) n3) (hk _ x.2)
    exact c.mono fun e w' h => ⟨h.1, by
      obtain ⟨q, hq⟩ := h.2
      exact ⟨q, #[], by rw [hq, Go.Sort.grow_empty]⟩⟩
  have hm : ∀ a b, a ≤ b → b < ord.attach.toArray.size → Lib.compareInt (rf (ord.attach.toArray[b]!).1 : Nat) row < 0 → Lib.compareInt (rf (ord.attach.toArray[a]!).1 : Nat) row < 0 := by
    intro a b hab hb hlt
    have hb' : b < ord.length := by simpa using hb
    rw [getElem!_pos _ b hb] at hlt
    rw [getElem!_pos _ a (by omega)]
    have h1 := of_decide_eq_true ((cmp_neg _ _).symm.trans (decide_eq_true hlt))
    refine of_decide_eq_true ((cmp_neg _ _).trans (decide_eq_true ?_))
    simp only [List.getElem_toArray, List.getElem_attach] at h1 ⊢
    rcases Nat.lt_or_ge a b with hab2 | hab2
    · have := List.pairwise_iff_getElem.1 hs a b (by omega) hb' hab2
      omega
    · have : a = b := by omega
      subst this
      exact h1
  have R := Any.slices_BinarySearchFunc Tryz.bsL (encK ord) (encK_one ord) (.int .i64 row) (fun k => Lib.compareInt (rf k.1 : Nat) row) 126 #[.pointer (some ⟨cb, 0, none⟩)] ob 0 oc ord.attach.toArray w0 eg hc hH (by obtain ⟨cur, hcu, _⟩ := owns_row ho; exact lt_of_block hcu) (by rw [hsz]; omega) hm
  rw [hsz] at R
  change Calls Tryz.prog 125 _ _ _ at R
  refine R.mono fun e w' h => ?_
  obtain ⟨he, m, os, hw⟩ := h
  have e1 : ord.attach.toArray.toList.countP (fun x => decide (Lib.compareInt (rf x.1 : Nat) row < 0)) = cntB ord rf row := by
    unfold cntB
    rw [← attach_count]
    simp only [cmp_neg]
  refine ⟨?_, m, os, ?_⟩
  · rw [he, e1]
    unfold foundB
    by_cases hlt : cntB ord rf row < ord.length
    · rw [getElem!_pos _ _ (by rw [hsz]; exact hlt), cmp_zero, List.getD_eq_getElem?_getD, List.getElem?_eq_getElem hlt]
      simp
    · simp [hlt]
  · rw [hw]
    unfold Go.Proofs.sortWorld
    rw [Go.Sort.putRow_self _ _ _ _ _ (Go.Sort.holds_ahead _ _ _ _ _ _ hH)]
    rfl
end Go.Proofs.YtnadgcgnediakaaGreatDoor
namespace Go.Proofs.YtnadgcgnediakaaGreatDoor
open Go.ChangeShapes Go.WideShapes Go.ChangeAt Go.RowKit Go.Deep

theorem Upd.grow {o o1 : Nat → Nat} {c : Nat → Prop} {w w1 : World} (h : Upd o c w w1 o1) (os : Array Obj) : Upd o c w (Go.Sort.grow w1 os) o1 :=
  ⟨h.os, h.tape, h.output, Nat.le_trans h.size (by rw [Go.Sort.size_grow]; omega), h.own, fun b hb hc => (Go.Sort.heap_grow_old _ _ (Nat.lt_of_lt_of_le hb h.size)).trans (h.same b hb hc)⟩
theorem ext_no5 {o : Nat → Nat} (h : No5 o) (n : Nat) {c : Nat} (hc : c ≠ 5) : No5 (ext o n c) := fun b => by
  unfold ext
  split
  · exact h b
  · exact hc
def nothing : Nat → Prop := fun _ => False

theorem pat_any (o : Nat → Nat) (pb ap : Nat) (lv ov : Value) (rf pf : Nat → Nat) (n : Nat) (ord : List Nat) (rows places row : Nat) (w : World) (h : IsPB w o pb ap lv ov rf pf n ord rows places) (hs : ord.Pairwise fun a b => rf a < rf b) (hn : n < 1000) :
    Calls Tryz.prog 73 #[.pointer (some ⟨pb, 0, none⟩), .int .i64 row] w fun e w' => e = .returned (.tuple #[.int .i64 (cntB ord rf row : Nat), .bool (foundB ord rf row)]) ∧ Upd o nothing w w' (ext o w.heap.size 0) := by
  have hln := h.ln
  have hlt := lt_of_block h.c
  by_cases hne : ord = []
  · subst hne
    have e1 : cntB [] rf row = 0 := rfl
    have e2 : foundB [] rf row = false := rfl
    rw [e1, e2]
    obtain ⟨oa, oc, hov⟩ := own_shape h.od.1
    simp only [List.length_nil] at hov
    subst hov
    have c2 := h.c2
    have BN := fun (fv : Value) (W : World) => Any.slices_BinarySearchFunc_none Tryz.bsL oa oc (.int .i64 row) fv W
    change ∀ fv W, Calls Tryz.prog 125 _ _ _ at BN
    clear h hs hln
    go_enter Tryz.func73, Tryz.ntmps73
    go_wp2_with (go_at_call 125; refine (BN _ _).mono ?_; rintro e w' ⟨rfl, rfl⟩)
    go_ret2
    exact ⟨rfl, (Upd.start o nothing w 0).alloc _⟩
  · have hpos : 0 < ord.length := List.length_pos_iff.2 hne
    obtain ⟨ob, oc, hov, _, hob⟩ := own_form h.od.1 hpos
    subst hov
    obtain ⟨lb, lc, hlv, _, hlb⟩ := own_form h.ls.1 (by omega)
    subst hlv
    have c1 := h.c1
    have c2 := h.c2
    have n2 : pb ≠ ob := fun e => by
      have := owns_ne h.od.1 h.c (by decide)
      exact this (by simp [Value.ownBlock, e])
    have n3 : lb ≠ ob := fun e => by
      obtain ⟨cur, hcu, _⟩ := owns_row h.ls.1
      have := owns_ne h.od.1 hcu (by decide)
      exact this (by simp [Value.ownBlock, e])
    have BS := Lib.hid fun (W : World) (hw : W = w.alloc (.cells #[.pointer (some ⟨pb, 0, none⟩)] 74)) => bs_any W w.heap.size pb lb n lc ob oc row ord rf pf (by rw [hw]; exact new_one w _ 74 0 _ rfl) (by rw [hw, World.cell?_of_block (w := w) (Below.heap_alloc _ _ _ hlt)]; exact c1)
      (by rw [hw]; exact owns_same h.ls.1 fun k hk => Below.heap_alloc _ _ _ (ownBlock_lt h.ls.1 hk)) (by rw [hw]; exact owns_same h.od.1 fun k hk => Below.heap_alloc _ _ _ (ownBlock_lt h.od.1 hk)) h.lt hne (by omega) n2 n3 hs (by omega)
    clear h hs hln hpos hob hlb n2 n3
    generalize cntB ord rf row = cn at BS ⊢
    generalize foundB ord rf row = fo at BS ⊢
    go_enter Tryz.func73, Tryz.ntmps73
    go_wp2_with (go_at_call 125; refine (BS.out _ rfl).mono ?_; rintro e w' ⟨rfl, q, os, rfl⟩)
    go_ret2
    exact ⟨rfl, (((Upd.start o nothing w 0).alloc _).drewN q).grow os⟩
def hasFrom (pf : Nat → Nat) (pos : Nat) : List Nat → Nat → Int
  | [], _ => -1
  | k :: r, i => if pf k = pos then (i : Int) else hasFrom pf pos r (i + 1)
/-- the place, among the samples, of the first with this place of the text -/
def hasB (ord : List Nat) (pf : Nat → Nat) (pos : Nat) : Int := hasFrom pf pos ord 0
theorem idx_has (pf : Nat → Nat) (pos : Nat) (P : Nat → Prop) (x : {k // P k}) : ∀ (l : List {k // P k}) (i : Nat), Lib.idxByFrom (fun _ (k : {k // P k}) => decide ((pf k.1 : Int) = (pos : Nat))) x l i = hasFrom pf pos (l.map fun k => k.1) i
  | [], _ => rfl
  | k :: r, i => by
    have ih := idx_has pf pos P x r (i + 1)
    unfold Lib.idxByFrom
    rw [ih, List.map_cons, hasFrom]
    by_cases h : pf k.1 = pos
    · rw [if_pos (by simp [h]), if_pos h]
    · rw [if_neg (by simp; omega), if_neg h]
theorem if_any (w : World) (cb kb pb lb n lc ob oc pos : Nat) (ord : List Nat) (rf pf : Nat → Nat) (h0 : w.cell? ⟨cb, 0, none⟩ = some (.pointer (some ⟨pb, 0, none⟩))) (h3 : w.cell? ⟨kb, 0, none⟩ = some (.int .i64 pos)) (h1 : w.cell? ⟨pb, 1, none⟩ = some (.slice (some ⟨lb, 0, none⟩) n lc))
    (hl : w.ownsRow 0 44 2 (.slice (some ⟨lb, 0, none⟩) n lc) n (cells2 rf pf n)) (ho : w.ownsRow 0 3 1 (.slice (some ⟨ob, 0, none⟩) ord.length oc) ord.length (intsV ord)) (hk : ∀ k ∈ ord, k < n) (hne : ord ≠ []) (hn : ord.length < 1000) :
    Calls Tryz.prog 128 #[.slice (some ⟨ob, 0, none⟩) ord.length oc, .func (.func 129) #[] #[.pointer (some ⟨cb, 0, none⟩), .pointer (some ⟨kb, 0, none⟩)]] w fun e w' => e = .returned (.int .i64 (hasB ord pf pos)) ∧ ∃ q, w' = w.drewN q := by
  haveI : Inhabited {k // k ∈ ord} := ⟨⟨ord.head hne, List.head_mem hne⟩⟩
  have eg : ∀ args w, (callFunc 129 args).run Tryz.prog w = .ok (.enter 129 args) w := Go.Proofs.enters_of Tryz.func129 (by kernel_rfl) rfl
  have hp : PredAt Tryz.prog 129 #[.pointer (some ⟨cb, 0, none⟩), .pointer (some ⟨kb, 0, none⟩)] (encK ord) (fun k => decide ((pf k.1 : Int) = (pos : Nat))) w := by
    intro W x hB
    have tr : ∀ {b i v}, w.cell? ⟨b, i, none⟩ = some v → W.cell? ⟨b, i, none⟩ = some v := fun {b i v} hc => by
      rw [World.cell?_of_block (w := w) (hB.block _ (cell_lt hc))]
      exact hc
    exact phas1_any cb kb pb lb x.1 (pf x.1) pos n lc W (tr h0) (tr h3) (tr h1) (tr (owns_cell hl _ _ (cells2_get rf pf n x.1 (hk _ x.2)).2)) (hk _ x.2)
  have R := AnyE.slices_IndexFunc Tryz.ixL (encK ord) _ 129 #[.pointer (some ⟨cb, 0, none⟩), .pointer (some ⟨kb, 0, none⟩)] eg ob 0 ord.length oc ord.attach w hp (by simp) (by omega) (fun j hj => by
    have hj' : j < ord.length := by simpa using hj
    rw [Nat.zero_add, owns_cell ho j _ (intsV_get ord j hj'), getElem!_pos _ j hj]
    simp [encK])
  change Calls Tryz.prog 128 _ _ _ at R
  refine R.mono fun e w' h => ⟨?_, h.2⟩
  rw [h.1]
  unfold Lib.idxBy
  rw [List.take_of_length_le (by simp), idx_has]
  unfold hasB
  simp
theorem phas_any (o : Nat → Nat) (pb ap : Nat) (lv ov : Value) (rf pf : Nat → Nat) (n : Nat) (ord : List Nat) (rows places pos : Nat) (w : World) (h : IsPB w o pb ap lv ov rf pf n ord rows places) (hn : n < 1000) :
    Calls Tryz.prog 74 #[.pointer (some ⟨pb, 0, none⟩), .int .i64 pos] w fun e w' => e = .returned (.int .i64 (hasB ord pf pos)) ∧ Upd o nothing w w' (ext o w.heap.size 0) := by
  have hln := h.ln
  have hlt := lt_of_block h.c
  by_cases hne : ord = []
  · subst hne
    have e1 : hasB [] pf pos = -1 := rfl
    rw [e1]
    obtain ⟨oa, oc, hov⟩ := own_shape h.od.1
    simp only [List.length_nil] at hov
    subst hov
    have c2 := h.c2
    have BN := fun (fv : Value) (W : World) => AnyE.slices_IndexFunc_empty Tryz.ixL oa oc fv W
    change ∀ fv W, Calls Tryz.prog 128 _ _ _ at BN
    clear h hln
    go_enter Tryz.func74, Tryz.ntmps74
    go_wp2_with (go_at_call 128; refine (BN _ _).mono ?_; rintro e w' ⟨rfl, rfl⟩)
    go_ret
    exact ⟨rfl, ((Upd.start o nothing w 0).alloc _).alloc _⟩
  · have hpos : 0 < ord.length := List.length_pos_iff.2 hne
    obtain ⟨ob, oc, hov, _, hob⟩ := own_form h.od.1 hpos
    subst hov
    obtain ⟨lb, lc, hlv, _, hlb⟩ := own_form h.ls.1 (by omega)
    subst hlv
    have c1 := h.c1
    have c2 := h.c2
    have BS := Lib.hid fun (W : World) (hw : W = (w.alloc (.cells #[.pointer (some ⟨pb, 0, none⟩)] 74)).alloc (.cells #[.int .i64 pos] 3)) =>
      have hb : ∀ k, k < w.heap.size → W.heap[k]? = w.heap[k]? := fun k hk => by rw [hw, Below.heap_alloc _ _ _ (alloc_lt hk), Below.heap_alloc _ _ _ hk]
      if_any W w.heap.size (w.heap.size + 1) pb lb n lc ob oc pos ord rf pf
      (by rw [hw, World.cell?_of_block (w := w.alloc (.cells #[.pointer (some ⟨pb, 0, none⟩)] 74)) (Below.heap_alloc _ _ _ (by simp))]; exact new_one w _ 74 0 _ rfl)
      (by rw [hw]; have := new_one (w.alloc (.cells #[.pointer (some ⟨pb, 0, none⟩)] 74)) (.int .i64 pos) 3 0 _ rfl; simp)
      (by rw [World.cell?_of_block (w := w) (hb pb hlt)]; exact c1)
      (owns_same h.ls.1 fun k hk => hb _ (ownBlock_lt h.ls.1 hk)) (owns_same h.od.1 fun k hk => hb _ (ownBlock_lt h.od.1 hk)) h.lt hne (by omega)
    clear h hln hpos hob hlb
    generalize hasB ord pf pos = cn at BS ⊢
    go_enter Tryz.func74, Tryz.ntmps74
    go_wp2_with (go_at_call 128; refine (BS.out _ rfl).mono ?_; rintro e w' ⟨rfl, q, rfl⟩)
    go_ret
    exact ⟨rfl, (((Upd.start o nothing w 0).alloc _).alloc _).drewN q⟩
end Go.Proofs.YtnadgcgnediakaaGreatDoor
namespace Go.Proofs.YtnadgcgnediakaaGreatDoor
open Go.ChangeShapes Go.WideShapes Go.ChangeAt Go.RowKit Go.Deep

/-- the first j of the samples are changed -/
def eachF (f : Nat → Nat) (ord : List Nat) (j : Nat) (x : Nat → Nat) : Nat → Nat := fun k => if k ∈ ord.take j then f (x k) else x k
theorem eachF_zero (f : Nat → Nat) (ord : List Nat) (x : Nat → Nat) : eachF f ord 0 x = x := by
  funext k
  simp [eachF]
theorem eachF_step (f : Nat → Nat) (ord : List Nat) (hn : ord.Nodup) (x : Nat → Nat) (j : Nat) (hj : j < ord.length) : upd (eachF f ord j x) ord[j] (f (eachF f ord j x ord[j])) = eachF f ord (j + 1) x := by
  have hni : ord[j] ∉ ord.take j := by
    intro hm
    obtain ⟨i, hi, he⟩ := List.getElem_of_mem hm
    rw [List.length_take] at hi
    rw [List.getElem_take] at he
    have := (List.getElem_inj hn).1 he
    omega
  have hm : ∀ k, k ∈ ord.take (j + 1) ↔ k ∈ ord.take j ∨ k = ord[j] := by
    intro k
    rw [List.take_add_one, List.getElem?_eq_getElem hj, List.mem_append]
    simp only [Option.toList_some, List.mem_singleton]
  funext k
  unfold upd eachF
  by_cases h : k = ord[j]
  · subst h
    rw [if_pos rfl, if_neg hni, if_pos ((hm _).2 (.inr rfl))]
  · by_cases h2 : k ∈ ord.take j
    · rw [if_neg h, if_pos h2, if_pos ((hm _).2 (.inl h2))]
    · rw [if_neg h, if_neg h2, if_neg fun hx => ((hm _).1 hx).elim h2 h]
theorem eachF_all (f : Nat → Nat) (ord : List Nat) (x : Nat → Nat) (j : Nat) (hj : ord.length ≤ j) : ∀ k, k ∈ ord → eachF f ord j x k = f (x k) := by
  intro k hk
  unfold eachF
  rw [List.take_of_length_le hj, if_pos hk]

set_option maxHeartbeats 1000000 in
theorem peach_any (g : FuncId) (caps : Array Value) (Cap : World → Prop) (fr fp : Nat → Nat) (Bd : Nat → Nat → Prop) (o : Nat → Nat) (pb ap : Nat) (lb lc : Nat) (ov : Value) (rf pf : Nat → Nat) (n : Nat) (ord : List Nat) (rows places : Nat) (w : World)
    (hf : ∀ (args : Array Value) (wx : World), (callFunc g args).run Tryz.prog wx = .ok (.enter g args) wx)
    (hcl : ∀ (W : World) (rf pf : Nat → Nat) (k : Nat), k < n → W.ownsRow 0 44 2 (.slice (some ⟨lb, 0, none⟩) n lc) n (cells2 rf pf n) → Cap W → Bd (rf k) (pf k) → Calls Tryz.prog g (#[.pointer (some ⟨lb, k * 2, none⟩)] ++ caps) W fun e W' => e = .returned (.tuple #[]) ∧
      Only lb W W' ∧ W'.ownsRow 0 44 2 (.slice (some ⟨lb, 0, none⟩) n lc) n (cells2 (upd rf k (fr (rf k))) (upd pf k (fp (pf k))) n))
    (hcap : ∀ W W', Only lb W W' → Cap W → Cap W') (cap : Cap w) (hbd : ∀ k, k ∈ ord → Bd (rf k) (pf k))
    (h : IsPB w o pb ap (.slice (some ⟨lb, 0, none⟩) n lc) ov rf pf n ord rows places) (hn : n < 1000) (hn0 : 0 < ord.length) :
    Calls Tryz.prog 141 #[.pointer (some ⟨pb, 0, none⟩), .func (.func g) #[] caps] w fun e w' => e = .returned (.tuple #[]) ∧ Only lb w w' ∧ w'.ownsRow 0 44 2 (.slice (some ⟨lb, 0, none⟩) n lc) n (cells2 (eachF fr ord ord.length rf) (eachF fp ord ord.length pf) n) := by
  obtain ⟨m, hln⟩ : ∃ m, ord.length = m := ⟨_, rfl⟩
  have hmn : m ≤ n := hln ▸ h.ln
  obtain ⟨ob, oc, hov, _, hob⟩ := own_form h.od.1 (by omega)
  subst hov
  have c1 := h.c1
  have c2 := h.c2
  have hbl := owns_ne h.ls.1 h.c (by decide)
  have n1 : pb ≠ lb := fun e => hbl (by simp [Value.ownBlock, e])
  have n2 : ob ≠ lb := fun e => by
    obtain ⟨cur, hcu, _⟩ := owns_row h.od.1
    have := owns_ne h.ls.1 hcu (by decide)
    exact this (by simp [Value.ownBlock, e])
  have C1 := Lib.hid c1
  have OD := Lib.hid h.od.1
  have LS := Lib.hid h.ls.1
  have LT := Lib.hid h.lt
  have ND := Lib.hid h.nd
  have CL := Lib.hid hcl
  have HC := Lib.hid hcap
  have CAP := Lib.hid cap
  have BD := Lib.hid hbd
  clear h hcl hcap cap hbl hob hbd
  go_enter Tryz.func141, Tryz.ntmps141
  go_wp2_with fail
  go_loopg [5, 11] m (fun gg _ s11 wr => ∃ j : Nat, j ≤ m ∧ m - j ≤ gg ∧ s11 = .int .i64 j ∧ Aside (Only lb w wr) ∧ Aside (Cap wr) ∧ Aside (wr.ownsRow 0 44 2 (.slice (some ⟨lb, 0, none⟩) n lc) n (cells2 (eachF fr ord j rf) (eachF fp ord j pf) n)))
  case atStart => exact ⟨0, Nat.zero_le _, by omega, rfl, (Only.refl lb w : Only lb w w), CAP.out, by rw [eachF_zero, eachF_zero]; exact LS.out⟩
  case round =>
    obtain ⟨j, hj, hg, rfl, o1, cp, ls⟩ := hrel
    by_cases hlt : j < m
    · have hltz : (j : Int) < (ord.length : Int) := by omega
      have hjl : j < ord.length := by omega
      have d1 : wr.cell? ⟨pb, 1, none⟩ = some (.slice (some ⟨lb, 0, none⟩) n lc) := by
        rw [World.cell?_of_block (w := w) (o1.out.same pb n1)]
        exact C1.out
      have d2 : wr.cell? ⟨ob, j, none⟩ = some (.int .i64 (ord[j] : Nat)) := by
        rw [World.cell?_of_block (w := w) (o1.out.same ob n2)]
        exact owns_cell OD.out j _ (intsV_get ord j hjl)
      have hk : ord[j] < n := LT.out _ (List.getElem_mem hjl)
      have HK : Aside (ord[j] < n) := hk
      have KE : Aside (ord[j] = ord[j]) := rfl
      have hb : Bd (eachF fr ord j rf ord[j]) (eachF fp ord j pf ord[j]) := by
        have hni : ord[j] ∉ ord.take j := by
          intro hm
          obtain ⟨i, hi, he⟩ := List.getElem_of_mem hm
          rw [List.length_take] at hi
          rw [List.getElem_take] at he
          have := (List.getElem_inj ND.out).1 he
          omega
        unfold eachF
        rw [if_neg hni, if_neg hni]
        exact BD.out _ (List.getElem_mem hjl)
      have KC := Lib.hid (CL.out wr _ _ ord[j] hk ls.out cp.out hb)
      clear hb
      rw [eachF_step fr ord ND.out rf j hjl, eachF_step fp ord ND.out pf j hjl] at KC
      generalize ord[j] = k at d2 hk KC
      go_wp2_with fail
      refine KC.out.mono ?_
      rintro e w2 ⟨rfl, o2, ls2⟩
      have O2 := Lib.hid o2
      have L2 := Lib.hid ls2
      clear o2 ls2
      go_wp2_with fail
      go_roundg (m - (j + 1))
      case measure => omega
      case rel =>
        exact ⟨j + 1, by omega, Nat.le_refl _, by go_num, (o1.out.trans O2.out : Only lb w _), (HC.out _ _ O2.out cp.out : Cap _), L2.out⟩
    · have hltz : ¬ (j : Int) < (ord.length : Int) := by omega
      have : j = m := by omega
      subst this
      go_wp2_with fail
      go_end0
      exact ⟨rfl, o1.out, ls.out⟩
end Go.Proofs.YtnadgcgnediakaaGreatDoor
namespace Go.Proofs.YtnadgcgnediakaaGreatDoor
open Go.ChangeShapes Go.WideShapes Go.ChangeAt Go.RowKit Go.Deep

theorem upd_self (f : Nat → Nat) (k : Nat) : upd f k (f k) = f := by
  funext i
  unfold upd
  split
  · next h => rw [h]
  · rfl

/-- cells of pairs, read -/
theorem owns_pair {w : World} {n lc lb : Nat} {rf pf : Nat → Nat} (h : w.ownsRow 0 44 2 (.slice (some ⟨lb, 0, none⟩) n lc) n (cells2 rf pf n)) {k : Nat} (hk : k < n) : w.cell? ⟨lb, k * 2, none⟩ = some (.int .i64 (rf k)) ∧ w.cell? ⟨lb, k * 2 + 1, none⟩ = some (.int .i64 (pf k)) ∧ w.frozen? ⟨lb, k * 2, none⟩ = false ∧ w.frozen? ⟨lb, k * 2 + 1, none⟩ = false :=
  ⟨owns_cell h _ _ (cells2_get rf pf n k hk).1, owns_cell h _ _ (cells2_get rf pf n k hk).2, owns_free h _, owns_free h _⟩
theorem owns_pair1 {w : World} {n lc lb : Nat} {rf pf : Nat → Nat} (h : w.ownsRow 0 44 2 (.slice (some ⟨lb, 0, none⟩) n lc) n (cells2 rf pf n)) {k : Nat} (hk : k < n) (v : Nat) : (w.setCell ⟨lb, k * 2, none⟩ (.int .i64 v)).ownsRow 0 44 2 (.slice (some ⟨lb, 0, none⟩) n lc) n (cells2 (upd rf k v) (upd pf k (pf k)) n) := by
  have := owns_set h (k * 2) (.int .i64 v)
  rwa [cells2_set1 rf pf n k v hk, ← upd_self pf k] at this
theorem owns_pair2 {w : World} {n lc lb : Nat} {rf pf : Nat → Nat} (h : w.ownsRow 0 44 2 (.slice (some ⟨lb, 0, none⟩) n lc) n (cells2 rf pf n)) {k : Nat} (hk : k < n) (v : Nat) : (w.setCell ⟨lb, k * 2 + 1, none⟩ (.int .i64 v)).ownsRow 0 44 2 (.slice (some ⟨lb, 0, none⟩) n lc) n (cells2 (upd rf k (rf k)) (upd pf k v) n) := by
  have := owns_set h (k * 2 + 1) (.int .i64 v)
  rwa [cells2_set2 rf pf n k v hk, ← upd_self rf k] at this
theorem owns_pair0 {w : World} {n lc lb : Nat} {rf pf : Nat → Nat} (h : w.ownsRow 0 44 2 (.slice (some ⟨lb, 0, none⟩) n lc) n (cells2 rf pf n)) (k : Nat) : w.ownsRow 0 44 2 (.slice (some ⟨lb, 0, none⟩) n lc) n (cells2 (upd rf k (rf k)) (upd pf k (pf k)) n) := by
  rwa [upd_self, upd_self]
theorem owns_drew {w : World} {n lc lb q : Nat} {xs : List Value} (h : w.ownsRow 0 44 2 (.slice (some ⟨lb, 0, none⟩) n lc) n xs) : (w.drewN q).ownsRow 0 44 2 (.slice (some ⟨lb, 0, none⟩) n lc) n xs := h

theorem rowin1_any (cb row lb lc n : Nat) (W : World) (rf pf : Nat → Nat) (k : Nat) (hk : k < n) (h : W.ownsRow 0 44 2 (.slice (some ⟨lb, 0, none⟩) n lc) n (cells2 rf pf n)) (hc : W.cell? ⟨cb, 0, none⟩ = some (.int .i64 row)) (hb : rf k < 1000) :
    Calls Tryz.prog 150 (#[.pointer (some ⟨lb, k * 2, none⟩)] ++ #[.pointer (some ⟨cb, 0, none⟩)]) W fun e W' => e = .returned (.tuple #[]) ∧ Only lb W W' ∧ W'.ownsRow 0 44 2 (.slice (some ⟨lb, 0, none⟩) n lc) n (cells2 (upd rf k (Wd.inr (rf k) row)) (upd pf k (pf k)) n) := by
  obtain ⟨d1, d2, f1, f2⟩ := owns_pair h hk
  have H := Lib.hid h
  have HK := Lib.hid hk
  by_cases hle : row ≤ rf k
  · have e : Wd.inr (rf k) row = rf k + 1 := by unfold Wd.inr; rw [if_pos hle]
    rw [e]
    have S := Lib.hid (fun q => owns_pair1 (owns_drew (q := q) h) hk (rf k + 1))
    clear h e
    generalize hr : rf k = r at d1 hle hb S ⊢
    clear hr
    go_enter Tryz.func150, Tryz.ntmps150
    go_wp2_with fail
    go_quiet (fail)
    go_wp2_with fail
    go_end0
    exact ⟨rfl, ((Only.refl lb W).drewN _).set _ _, by
      have := S.out nq
      push_cast at this
      exact this⟩
  · have e : Wd.inr (rf k) row = rf k := by unfold Wd.inr; rw [if_neg hle]
    rw [e]
    clear e
    have S := Lib.hid (fun q => owns_pair0 (owns_drew (q := q) h) k)
    clear h
    go_enter Tryz.func150, Tryz.ntmps150
    go_wp2_with fail
    go_quiet (fail)
    go_wp2_with fail
    go_end0
    exact ⟨rfl, (Only.refl lb W).drewN _, S.out _⟩
theorem posin1_any (cb row lb lc n : Nat) (W : World) (rf pf : Nat → Nat) (k : Nat) (hk : k < n) (h : W.ownsRow 0 44 2 (.slice (some ⟨lb, 0, none⟩) n lc) n (cells2 rf pf n)) (hc : W.cell? ⟨cb, 0, none⟩ = some (.int .i64 row)) (hb : pf k < 1000) :
    Calls Tryz.prog 151 (#[.pointer (some ⟨lb, k * 2, none⟩)] ++ #[.pointer (some ⟨cb, 0, none⟩)]) W fun e W' => e = .returned (.tuple #[]) ∧ Only lb W W' ∧ W'.ownsRow 0 44 2 (.slice (some ⟨lb, 0, none⟩) n lc) n (cells2 (upd rf k (rf k)) (upd pf k (Wd.inr (pf k) row)) n) := by
  obtain ⟨d1, d2, f1, f2⟩ := owns_pair h hk
  have H := Lib.hid h
  have HK := Lib.hid hk
  by_cases hle : row ≤ pf k
  · have e : Wd.inr (pf k) row = pf k + 1 := by unfold Wd.inr; rw [if_pos hle]
    rw [e]
    have S := Lib.hid (fun q => owns_pair2 (owns_drew (q := q) h) hk (pf k + 1))
    clear h e
    generalize hr : pf k = r at d2 hle hb S ⊢
    clear hr
    go_enter Tryz.func151, Tryz.ntmps151
    go_wp2_with fail
    go_quiet (fail)
    go_wp2_with fail
    go_end0
    exact ⟨rfl, ((Only.refl lb W).drewN _).set _ _, by
      have := S.out nq
      push_cast at this
      exact this⟩
  · have e : Wd.inr (pf k) row = pf k := by unfold Wd.inr; rw [if_neg hle]
    rw [e]
    clear e
    have S := Lib.hid (fun q => owns_pair0 (owns_drew (q := q) h) k)
    clear h
    go_enter Tryz.func151, Tryz.ntmps151
    go_wp2_with fail
    go_quiet (fail)
    go_wp2_with fail
    go_end0
    exact ⟨rfl, (Only.refl lb W).drewN _, S.out _⟩
/-- where a row stands, that stood at r, behind a move -/
def mvr (a t r : Nat) : Nat := if r = a then t else Wd.inr (Wd.outr r a) t
theorem rowmv1_any (cb db a t lb lc n : Nat) (W : World) (rf pf : Nat → Nat) (k : Nat) (hk : k < n) (h : W.ownsRow 0 44 2 (.slice (some ⟨lb, 0, none⟩) n lc) n (cells2 rf pf n)) (hc : W.cell? ⟨cb, 0, none⟩ = some (.int .i64 a)) (hd : W.cell? ⟨db, 0, none⟩ = some (.int .i64 t)) (_n1 : cb ≠ lb) (n2 : db ≠ lb) (hb : rf k < 1000) :
    Calls Tryz.prog 148 (#[.pointer (some ⟨lb, k * 2, none⟩)] ++ #[.pointer (some ⟨cb, 0, none⟩), .pointer (some ⟨db, 0, none⟩)]) W fun e W' => e = .returned (.tuple #[]) ∧ Only lb W W' ∧ W'.ownsRow 0 44 2 (.slice (some ⟨lb, 0, none⟩) n lc) n (cells2 (upd rf k (mvr a t (rf k))) (upd pf k (pf k)) n) := by
  obtain ⟨d1, d2, f1, f2⟩ := owns_pair h hk
  have H := Lib.hid h
  have HK := Lib.hid hk
  have S1 : ∀ v q, (((W.drewN q).setCell ⟨lb, k * 2, none⟩ (.int .i64 (v : Nat))).ownsRow 0 44 2 (.slice (some ⟨lb, 0, none⟩) n lc) n (cells2 (upd rf k v) (upd pf k (pf k)) n)) := fun v q => owns_pair1 (owns_drew (q := q) h) hk v
  have S2 : ∀ v u q p, ((((W.drewN q).setCell ⟨lb, k * 2, none⟩ (.int .i64 (u : Nat))).drewN p).setCell ⟨lb, k * 2, none⟩ (.int .i64 (v : Nat))).ownsRow 0 44 2 (.slice (some ⟨lb, 0, none⟩) n lc) n (cells2 (upd rf k v) (upd pf k (pf k)) n) := fun v u q p => by
    have h1 := owns_set (owns_drew (q := p) (owns_set (owns_drew (q := q) h) (k * 2) (.int .i64 (u : Nat)))) (k * 2) (.int .i64 (v : Nat))
    rw [List.set_set, cells2_set1 rf pf n k v hk, ← upd_self pf k] at h1
    exact h1
  have S0 := Lib.hid (fun q => owns_pair0 (owns_drew (q := q) h) k)
  have SS1 := Lib.hid S1
  have SS2 := Lib.hid S2
  clear S1 S2 h
  generalize hr : rf k = r at d1 hb S0 ⊢
  clear hr H HK
  by_cases h1 : r = a
  · have e : mvr a t r = t := by unfold mvr; rw [if_pos h1]
    rw [e]
    clear e S0 SS2
    go_enter Tryz.func148, Tryz.ntmps148
    go_wp2_with fail
    go_quiet (fail)
    go_wp2_with fail
    refine bodyPost_ret (results_none rfl _ _ _) rfl ?_
    exact ⟨rfl, ((Only.refl lb W).drewN _).set _ _, SS1.out t _⟩
  · by_cases h2 : a < r
    · by_cases h3 : t ≤ r - 1
      · have e : mvr a t r = r := by unfold mvr Wd.inr Wd.outr; rw [if_neg h1, if_pos h2, if_pos h3]; omega
        have e2 : (r : Int) - 1 = (r - 1 : Nat) := by omega
        have e3 : ((r - 1 : Nat) : Int) + 1 = r := by omega
        have h3z : (t : Int) ≤ (r : Int) - 1 := by omega
        rw [e]
        clear e S0 SS1
        go_enter Tryz.func148, Tryz.ntmps148
        go_wp2_with fail
        go_quiet (fail)
        go_wp2_with fail
        go_quiet (fail)
        go_wp2_with fail
        go_quiet (fail)
        go_wp2_with fail
        go_end0
        exact ⟨rfl, ((((Only.refl lb W).drewN _).set _ _).drewN _).set _ _, SS2.out r (r - 1) _ _⟩
      · have e : mvr a t r = r - 1 := by unfold mvr Wd.inr Wd.outr; rw [if_neg h1, if_pos h2, if_neg h3]
        have e2 : (r : Int) - 1 = (r - 1 : Nat) := by omega
        have h3z : (r : Int) - 1 < (t : Int) := by omega
        rw [e]
        clear e S0 SS2
        go_enter Tryz.func148, Tryz.ntmps148
        go_wp2_with fail
        go_quiet (fail)
        go_wp2_with fail
        go_quiet (fail)
        go_wp2_with fail
        go_quiet (fail)
        go_wp2_with fail
        go_end0
        exact ⟨rfl, ((((Only.refl lb W).drewN _).set _ _).drewN _), SS1.out (r - 1) _⟩
    · by_cases h3 : t ≤ r
      · have e : mvr a t r = r + 1 := by unfold mvr Wd.inr Wd.outr; rw [if_neg h1, if_neg h2, if_pos h3]
        rw [e]
        clear e S0 SS2
        go_enter Tryz.func148, Tryz.ntmps148
        go_wp2_with fail
        go_quiet (fail)
        go_wp2_with fail
        go_quiet (fail)
        go_wp2_with fail
        go_quiet (fail)
        go_wp2_with fail
        go_end0
        exact ⟨rfl, (((Only.refl lb W).drewN _).set _ _), SS1.out (r + 1) _⟩
      · have e : mvr a t r = r := by unfold mvr Wd.inr Wd.outr; rw [if_neg h1, if_neg h2, if_neg h3]
        rw [e]
        clear e SS1 SS2
        go_enter Tryz.func148, Tryz.ntmps148
        go_wp2_with fail
        go_quiet (fail)
        go_wp2_with fail
        go_quiet (fail)
        go_wp2_with fail
        go_quiet (fail)
        go_wp2_with fail
        go_end0
        exact ⟨rfl, ((((Only.refl lb W).drewN _).drewN _).drewN _), owns_drew (owns_drew (S0.out _))⟩
end Go.Proofs.YtnadgcgnediakaaGreatDoor
namespace Go.Proofs.YtnadgcgnediakaaGreatDoor
open Go.ChangeShapes Go.WideShapes Go.ChangeAt Go.RowKit Go.Deep

def posB (ord : List Nat) (rf pf : Nat → Nat) (row : Nat) : Int := if foundB ord rf row then (pf (ord.getD (cntB ord rf row) 0) : Nat) else -1
theorem ppos_any (o : Nat → Nat) (pb ap : Nat) (lv ov : Value) (rf pf : Nat → Nat) (n : Nat) (ord : List Nat) (rows places row : Nat) (w : World) (h : IsPB w o pb ap lv ov rf pf n ord rows places) (hs : ord.Pairwise fun a b => rf a < rf b) (hn : n < 1000) :
    Calls Tryz.prog 106 #[.pointer (some ⟨pb, 0, none⟩), .int .i64 row] w fun e w' => e = .returned (.int .i64 (posB ord rf pf row)) ∧ Upd o nothing w w' (ext o w.heap.size 0) := by
  have PA := pat_any o pb ap lv ov rf pf n ord rows places row w h hs hn
  unfold posB
  have hln := h.ln
  have hcl : foundB ord rf row = true → cntB ord rf row < ord.length := fun hf => by
    unfold foundB at hf
    simp at hf
    exact hf.1
  generalize cntB ord rf row = cn at PA hcl ⊢
  generalize foundB ord rf row = fo at PA hcl ⊢
  have PA := Lib.hid PA
  have H := Lib.hid h
  cases fo with
  | false =>
    clear h hs hcl
    go_enter Tryz.func106, Tryz.ntmps106
    go_wp2_with fail
    refine PA.out.mono ?_
    rintro e w' ⟨rfl, u⟩
    go_wp2_with fail
    go_ret
    exact ⟨rfl, u⟩
  | true =>
    have hc := hcl rfl
    obtain ⟨ob, oc, hov, _, hob⟩ := own_form h.od.1 (by omega)
    subst hov
    obtain ⟨lb, lc, hlv, _, hlb⟩ := own_form h.ls.1 (by omega)
    subst hlv
    have hkn : ord.getD cn 0 < n := by
      rw [List.getD_eq_getElem?_getD, List.getElem?_eq_getElem hc]
      exact h.lt _ (List.getElem_mem hc)
    have hg : (intsV ord)[cn]? = some (.int .i64 (ord.getD cn 0 : Nat)) := by
      rw [intsV_get ord cn hc, List.getD_eq_getElem?_getD, List.getElem?_eq_getElem hc]
      rfl
    generalize ord.getD cn 0 = k at hkn hg ⊢
    clear h hs hcl
    go_enter Tryz.func106, Tryz.ntmps106
    go_wp2_with fail
    refine PA.out.mono ?_
    rintro e w' ⟨rfl, u⟩
    have h2 := H.out.keep u (by unfold nothing; exact id) (by unfold nothing; exact id)
    have c1 := h2.c1
    have c2 := h2.c2
    have d1 := owns_cell h2.od.1 cn _ hg
    have d2 := owns_cell h2.ls.1 _ _ (cells2_get rf pf n k hkn).2
    have U := Lib.hid u
    clear h2 u hg
    go_wp2_with fail
    go_quiet (fail)
    go_wp2_with fail
    go_ret
    exact ⟨rfl, U.out.drewN _⟩
def rowB (ord : List Nat) (rf pf : Nat → Nat) (pos : Nat) : Int := if 0 ≤ hasB ord pf pos then (rf (ord.getD (hasB ord pf pos).toNat 0) : Nat) else -1
theorem hasFrom_lt (pf : Nat → Nat) (pos : Nat) : ∀ (l : List Nat) (i : Nat), hasFrom pf pos l i = -1 ∨ ∃ j, hasFrom pf pos l i = (j : Nat) ∧ i ≤ j ∧ j < i + l.length
  | [], i => .inl rfl
  | k :: r, i => by
    unfold hasFrom
    split
    · exact .inr ⟨i, rfl, Nat.le_refl _, by simp⟩
    · rcases hasFrom_lt pf pos r (i + 1) with h | ⟨j, h1, h2, h3⟩
      · exact .inl h
      · exact .inr ⟨j, h1, by omega, by simp; omega⟩
theorem prow_any (o : Nat → Nat) (pb ap : Nat) (lv ov : Value) (rf pf : Nat → Nat) (n : Nat) (ord : List Nat) (rows places pos : Nat) (w : World) (h : IsPB w o pb ap lv ov rf pf n ord rows places) (hn : n < 1000) :
    Calls Tryz.prog 97 #[.pointer (some ⟨pb, 0, none⟩), .int .i64 pos] w fun e w' => e = .returned (.int .i64 (rowB ord rf pf pos)) ∧ Upd o nothing w w' (ext o w.heap.size 0) := by
  have PA := phas_any o pb ap lv ov rf pf n ord rows places pos w h hn
  unfold rowB
  have hln := h.ln
  have hcl := hasFrom_lt pf pos ord 0
  change hasB ord pf pos = -1 ∨ _ at hcl
  have H := Lib.hid h
  rcases hcl with he | ⟨cn, he, _, hc⟩
  · rw [he] at PA ⊢
    rw [if_neg (by omega)]
    have PA := Lib.hid PA
    clear h
    go_enter Tryz.func97, Tryz.ntmps97
    go_wp2_with fail
    refine PA.out.mono ?_
    rintro e w' ⟨rfl, u⟩
    go_wp2_with fail
    go_ret
    exact ⟨rfl, u⟩
  · change hasB ord pf pos = _ at he
    rw [he] at PA ⊢
    rw [if_pos (by omega), Int.toNat_natCast]
    rw [Nat.zero_add] at hc
    have PA := Lib.hid PA
    obtain ⟨ob, oc, hov, _, hob⟩ := own_form h.od.1 (by omega)
    subst hov
    obtain ⟨lb, lc, hlv, _, hlb⟩ := own_form h.ls.1 (by omega)
    subst hlv
    have hkn : ord.getD cn 0 < n := by
      rw [List.getD_eq_getElem?_getD, List.getElem?_eq_getElem hc]
      exact h.lt _ (List.getElem_mem hc)
    have hg : (intsV ord)[cn]? = some (.int .i64 (ord.getD cn 0 : Nat)) := by
      rw [intsV_get ord cn hc, List.getD_eq_getElem?_getD, List.getElem?_eq_getElem hc]
      rfl
    generalize ord.getD cn 0 = k at hkn hg ⊢
    clear h he
    go_enter Tryz.func97, Tryz.ntmps97
    go_wp2_with fail
    refine PA.out.mono ?_
    rintro e w' ⟨rfl, u⟩
    have h2 := H.out.keep u (by unfold nothing; exact id) (by unfold nothing; exact id)
    have c1 := h2.c1
    have c2 := h2.c2
    have d1 := owns_cell h2.od.1 cn _ hg
    have d2 := owns_cell h2.ls.1 _ _ (cells2_get rf pf n k hkn).1
    have U := Lib.hid u
    clear h2 u hg
    go_wp2_with fail
    go_quiet (fail)
    go_wp2_with fail
    go_ret
    exact ⟨rfl, U.out.drewN _⟩
end Go.Proofs.YtnadgcgnediakaaGreatDoor
namespace Go.Proofs.YtnadgcgnediakaaGreatDoor
open Go.ChangeShapes Go.WideShapes Go.ChangeAt Go.RowKit Go.Deep

section
variable {w w' : World} {o o' : Nat → Nat} {pb ap lb lc : Nat} {lv ov : Value} {rf pf rf' pf' : Nat → Nat} {n : Nat} {ord : List Nat} {rows places : Nat}
theorem IsPB.each (h : IsPB w o pb ap (.slice (some ⟨lb, 0, none⟩) n lc) ov rf pf n ord rows places) (o2 : Only lb w w') (ls : w'.ownsRow 0 44 2 (.slice (some ⟨lb, 0, none⟩) n lc) n (cells2 rf' pf' n)) : IsPB w' o pb ap (.slice (some ⟨lb, 0, none⟩) n lc) ov rf' pf' n ord rows places := by
  obtain ⟨cur, hcu, _⟩ := owns_row h.ls.1
  have n1 : pb ≠ lb := fun e => owns_ne h.ls.1 h.c (by decide) (by simp [Value.ownBlock, e])
  have n3 := owns_ne h.od.1 hcu (by decide)
  exact ⟨(o2.same pb n1).trans h.c, h.ob, h.ar.only o2 (by rw [h.ls.2 lb rfl]; omega), ⟨ls, h.ls.2⟩, ⟨owns_same h.od.1 (fun k hk => o2.same k fun e => n3 (by rw [hk, e])), h.od.2⟩, h.nd, h.lt, h.ln⟩
theorem IsPB.setRows (h : IsPB w o pb ap lv ov rf pf n ord rows places) (r : Nat) : IsPB (w.setCell ⟨pb, 3, none⟩ (.int .i64 r)) o pb ap lv ov rf pf n ord r places := by
  have n1 := owns_ne h.ls.1 h.c (by decide)
  have n2 := owns_ne h.od.1 h.c (by decide)
  exact ⟨Joins.block_setCell h.c _, h.ob, h.ar.only ((Only.refl pb w).set 3 _) (by rw [h.ob]; omega), ⟨owns_other h.ls.1 n1 _, h.ls.2⟩, ⟨owns_other h.od.1 n2 _, h.od.2⟩, h.nd, h.lt, h.ln⟩
theorem IsPB.setPlaces (h : IsPB w o pb ap lv ov rf pf n ord rows places) (r : Nat) : IsPB (w.setCell ⟨pb, 4, none⟩ (.int .i64 r)) o pb ap lv ov rf pf n ord rows r := by
  have n1 := owns_ne h.ls.1 h.c (by decide)
  have n2 := owns_ne h.od.1 h.c (by decide)
  exact ⟨Joins.block_setCell h.c _, h.ob, h.ar.only ((Only.refl pb w).set 4 _) (by rw [h.ob]; omega), ⟨owns_other h.ls.1 n1 _, h.ls.2⟩, ⟨owns_other h.od.1 n2 _, h.od.2⟩, h.nd, h.lt, h.ln⟩
end
theorem peach_none (fv : Value) (pb : Nat) (oa : Option Addr) (oc : Nat) (w : World) (c2 : w.cell? ⟨pb, 2, none⟩ = some (.slice oa 0 oc)) :
    Calls Tryz.prog 141 #[.pointer (some ⟨pb, 0, none⟩), fv] w fun e w' => e = .returned (.tuple #[]) ∧ w' = w := by
  go_enter Tryz.func141, Tryz.ntmps141
  go_wp2_with fail
  refine wp_loop_rounds 1 ?_
  rw [rounds_succ]
  go_wp2_with fail
  go_end0
  exact ⟨rfl, rfl⟩
theorem prowin_any (o : Nat → Nat) (pb ap : Nat) (lv ov : Value) (rf pf : Nat → Nat) (n : Nat) (ord : List Nat) (rows places row : Nat) (w : World) (h : IsPB w o pb ap lv ov rf pf n ord rows places) (hn : n < 1000) (hr : row ≤ rows) (hR : rows < 1000) (hb : ∀ k, k ∈ ord → rf k < 1000) :
    Calls Tryz.prog 93 #[.pointer (some ⟨pb, 0, none⟩), .int .i64 row] w fun e w' => e = .returned (.int .i64 0) ∧ Upd o (· = 9) w w' (ext o w.heap.size 0) ∧
      ∃ rf' pf', IsPB w' (ext o w.heap.size 0) pb ap lv ov rf' pf' n ord (rows + 1) places ∧ ∀ k, k ∈ ord → rf' k = Wd.inr (rf k) row ∧ pf' k = pf k := by
  have hpl := lt_of_block h.c
  have hln := h.ln
  have key : ∀ q, Calls Tryz.prog 141 #[.pointer (some ⟨pb, 0, none⟩), .func (.func 150) #[] #[.pointer (some ⟨w.heap.size, 0, none⟩)]] (((w.alloc (.cells #[.int .i64 row] 3)).drewN q).setCell ⟨pb, 3, none⟩ (.int .i64 (rows + 1 : Nat))) fun e w' => e = .returned (.tuple #[]) ∧ Upd o (· = 9) w w' (ext o w.heap.size 0) ∧
      ∃ rf' pf', IsPB w' (ext o w.heap.size 0) pb ap lv ov rf' pf' n ord (rows + 1) places ∧ ∀ k, k ∈ ord → rf' k = Wd.inr (rf k) row ∧ pf' k = pf k := by
    intro q
    obtain ⟨W1, hW1⟩ : ∃ W1, W1 = (w.alloc (.cells #[.int .i64 row] 3)).drewN q := ⟨_, rfl⟩
    rw [← hW1]
    have u1 : Upd o (· = 9) w W1 (ext o w.heap.size 0) := by rw [hW1]; exact ((Upd.start o _ w 0).alloc _).drewN q
    have h1 : IsPB W1 (ext o w.heap.size 0) pb ap lv ov rf pf n ord rows places := h.keep (d := nothing) (by rw [hW1]; exact ((Upd.start o _ w 0).alloc _).drewN q) (by unfold nothing; exact id) (by unfold nothing; exact id)
    have h2 := h1.setRows (rows + 1)
    have hcb : W1.heap[w.heap.size]? = some (.cells #[.int .i64 row] 3 (0, 0)) := by rw [hW1]; exact heap_alloc_new w _
    have hcb2 : (W1.setCell ⟨pb, 3, none⟩ (.int .i64 (rows + 1 : Nat))).cell? ⟨w.heap.size, 0, none⟩ = some (.int .i64 row) := by
      rw [World.cell?_of_block (w := W1) (Below.heap_setCell _ _ _ _ (show w.heap.size ≠ pb by omega)), Joins.cell_of_block hcb]
      rfl
    have u2 := u1.set (a := ⟨pb, 3, none⟩) (.int .i64 (rows + 1 : Nat)) (.inr h.ob)
    have eg : ∀ (args : Array Value) (wx : World), (callFunc 150 args).run Tryz.prog wx = .ok (.enter 150 args) wx := Go.Proofs.enters_of Tryz.func150 (by kernel_rfl) rfl
    by_cases hne : ord = []
    · subst hne
      obtain ⟨oa, oc, hov⟩ := own_shape h.od.1
      simp only [List.length_nil] at hov
      subst hov
      refine (peach_none _ pb oa oc _ h2.c2).mono ?_
      rintro e w' ⟨rfl, rfl⟩
      exact ⟨rfl, u2, rf, pf, h2, by simp⟩
    · have hpos : 0 < ord.length := List.length_pos_iff.2 hne
      obtain ⟨lb, lc, hlv, _, hlb⟩ := own_form h.ls.1 (by omega)
      subst hlv
      have hne2 : w.heap.size ≠ lb := by omega
      refine (peach_any 150 #[.pointer (some ⟨w.heap.size, 0, none⟩)] (fun W => W.cell? ⟨w.heap.size, 0, none⟩ = some (.int .i64 row)) (fun r => Wd.inr r row) id (fun r _ => r < 1000) _ pb ap lb lc ov rf pf n ord (rows + 1) places _ eg
        (fun W rf pf k hk hW hc hb => rowin1_any w.heap.size row lb lc n W rf pf k hk hW hc hb) (fun W W' hO hc => by rw [World.cell?_of_block (w := W) (hO.same _ hne2)]; exact hc) hcb2 hb h2 hn (by omega)).mono ?_
      rintro e w' ⟨rfl, o3, ls⟩
      refine ⟨rfl, u2.only o3 (.inr ?_), _, _, h2.each o3 ls, fun k hk => ⟨?_, ?_⟩⟩
      · exact h.ls.2 lb rfl
      · rw [eachF_all _ _ _ _ (Nat.le_refl _) k hk]
      · rw [eachF_all _ _ _ _ (Nat.le_refl _) k hk]; rfl
  have K := Lib.hid key
  have c3 := h.c3
  have f3 := h.f 3
  have er : ((rows + 1 : Nat) : Int) = (rows : Int) + 1 := by omega
  simp only [er] at K
  clear key h er
  go_enter Tryz.func93, Tryz.ntmps93
  go_wp2_with fail
  go_quiet (fail)
  go_wp2_with fail
  refine (K.out nq).mono ?_
  rintro e w2 ⟨rfl, u2, rf', pf', h2, h3⟩
  have U2 := Lib.hid u2
  have H2 := Lib.hid h2
  have H3 := Lib.hid h3
  clear u2 h2 h3
  go_wp2_with fail
  go_ret
  exact ⟨rfl, U2.out, rf', pf', H2.out, H3.out⟩
theorem pposin_any (o : Nat → Nat) (pb ap : Nat) (lv ov : Value) (rf pf : Nat → Nat) (n : Nat) (ord : List Nat) (rows places row : Nat) (w : World) (h : IsPB w o pb ap lv ov rf pf n ord rows places) (hn : n < 1000) (hr : row ≤ places) (hR : places < 1000) (hb : ∀ k, k ∈ ord → pf k < 1000) :
    Calls Tryz.prog 94 #[.pointer (some ⟨pb, 0, none⟩), .int .i64 row] w fun e w' => e = .returned (.int .i64 0) ∧ Upd o (· = 9) w w' (ext o w.heap.size 0) ∧
      ∃ rf' pf', IsPB w' (ext o w.heap.size 0) pb ap lv ov rf' pf' n ord rows (places + 1) ∧ ∀ k, k ∈ ord → rf' k = rf k ∧ pf' k = Wd.inr (pf k) row := by
  have hpl := lt_of_block h.c
  have hln := h.ln
  have key : ∀ q, Calls Tryz.prog 141 #[.pointer (some ⟨pb, 0, none⟩), .func (.func 151) #[] #[.pointer (some ⟨w.heap.size, 0, none⟩)]] (((w.alloc (.cells #[.int .i64 row] 3)).drewN q).setCell ⟨pb, 4, none⟩ (.int .i64 (places + 1 : Nat))) fun e w' => e = .returned (.tuple #[]) ∧ Upd o (· = 9) w w' (ext o w.heap.size 0) ∧
      ∃ rf' pf', IsPB w' (ext o w.heap.size 0) pb ap lv ov rf' pf' n ord rows (places + 1) ∧ ∀ k, k ∈ ord → rf' k = rf k ∧ pf' k = Wd.inr (pf k) row := by
    intro q
    obtain ⟨W1, hW1⟩ : ∃ W1, W1 = (w.alloc (.cells #[.int .i64 row] 3)).drewN q := ⟨_, rfl⟩
    rw [← hW1]
    have u1 : Upd o (· = 9) w W1 (ext o w.heap.size 0) := by rw [hW1]; exact ((Upd.start o _ w 0).alloc _).drewN q
    have h1 : IsPB W1 (ext o w.heap.size 0) pb ap lv ov rf pf n ord rows places := h.keep (d := nothing) (by rw [hW1]; exact ((Upd.start o _ w 0).alloc _).drewN q) (by unfold nothing; exact id) (by unfold nothing; exact id)
    have h2 := h1.setPlaces (places + 1)
    have hcb : W1.heap[w.heap.size]? = some (.cells #[.int .i64 row] 3 (0, 0)) := by rw [hW1]; exact heap_alloc_new w _
    have hcb2 : (W1.setCell ⟨pb, 4, none⟩ (.int .i64 (places + 1 : Nat))).cell? ⟨w.heap.size, 0, none⟩ = some (.int .i64 row) := by
      rw [World.cell?_of_block (w := W1) (Below.heap_setCell _ _ _ _ (show w.heap.size ≠ pb by omega)), Joins.cell_of_block hcb]
      rfl
    have u2 := u1.set (a := ⟨pb, 4, none⟩) (.int .i64 (places + 1 : Nat)) (.inr h.ob)
    have eg : ∀ (args : Array Value) (wx : World), (callFunc 151 args).run Tryz.prog wx = .ok (.enter 151 args) wx := Go.Proofs.enters_of Tryz.func151 (by kernel_rfl) rfl
    by_cases hne : ord = []
    · subst hne
      obtain ⟨oa, oc, hov⟩ := own_shape h.od.1
      simp only [List.length_nil] at hov
      subst hov
      refine (peach_none _ pb oa oc _ h2.c2).mono ?_
      rintro e w' ⟨rfl, rfl⟩
      exact ⟨rfl, u2, rf, pf, h2, by simp⟩
    · have hpos : 0 < ord.length := List.length_pos_iff.2 hne
      obtain ⟨lb, lc, hlv, _, hlb⟩ := own_form h.ls.1 (by omega)
      subst hlv
      have hne2 : w.heap.size ≠ lb := by omega
      refine (peach_any 151 #[.pointer (some ⟨w.heap.size, 0, none⟩)] (fun W => W.cell? ⟨w.heap.size, 0, none⟩ = some (.int .i64 row)) id (fun r => Wd.inr r row) (fun _ r => r < 1000) _ pb ap lb lc ov rf pf n ord rows (places + 1) _ eg
        (fun W rf pf k hk hW hc hb => posin1_any w.heap.size row lb lc n W rf pf k hk hW hc hb) (fun W W' hO hc => by rw [World.cell?_of_block (w := W) (hO.same _ hne2)]; exact hc) hcb2 hb h2 hn (by omega)).mono ?_
      rintro e w' ⟨rfl, o3, ls⟩
      refine ⟨rfl, u2.only o3 (.inr ?_), _, _, h2.each o3 ls, fun k hk => ⟨?_, ?_⟩⟩
      · exact h.ls.2 lb rfl
      · rw [eachF_all _ _ _ _ (Nat.le_refl _) k hk]; rfl
      · rw [eachF_all _ _ _ _ (Nat.le_refl _) k hk]
  have K := Lib.hid key
  have c3 := h.c4
  have f3 := h.f 4
  have er : ((places + 1 : Nat) : Int) = (places : Int) + 1 := by omega
  simp only [er] at K
  clear key h er
  go_enter Tryz.func94, Tryz.ntmps94
  go_wp2_with fail
  go_quiet (fail)
  go_wp2_with fail
  refine (K.out nq).mono ?_
  rintro e w2 ⟨rfl, u2, rf', pf', h2, h3⟩
  have U2 := Lib.hid u2
  have H2 := Lib.hid h2
  have H3 := Lib.hid h3
  clear u2 h2 h3
  go_wp2_with fail
  go_ret
  exact ⟨rfl, U2.out, rf', pf', H2.out, H3.out⟩
end Go.Proofs.YtnadgcgnediakaaGreatDoor
namespace Go.Proofs.YtnadgcgnediakaaGreatDoor
open Go.ChangeShapes Go.WideShapes Go.ChangeAt Go.RowKit Go.Deep Go.Sort

section
variable {α : Type} [Inhabited α]
theorem heap_sortedK {enc : α → Value} {w : World} {g n : Nat} {os : Array Obj} {cur : Array Value} {e : TypeId} {fr : Nat × Nat} (d : Array α) (hb : w.heap[g]? = some (.cells cur e fr)) :
    (Go.Proofs.sortWorld enc w g 0 n d os).heap[g]? = some (.cells (putCells enc 0 d cur) e fr) := by
  have hg : g < w.heap.size := (Array.getElem?_eq_some_iff.1 hb).1
  unfold Go.Proofs.sortWorld
  rw [heap_grow_old _ _ (by simpa using hg)]
  simp [putRow, mapBlock, Sort.ahead, Array.getElem?_modify, hb, onCells]
theorem grownBy_sortedK {enc : α → Value} {w : World} {g n : Nat} {os : Array Obj} (d : Array α) : w.grownBy (Go.Proofs.sortWorld enc w g 0 n d os) (some g) := by
  unfold Go.Proofs.sortWorld
  refine ⟨rfl, rfl, rfl, by simp, fun k hk hne => ?_⟩
  rw [heap_grow_old _ _ (by simpa using hk)]
  have : g ≠ k := fun e => hne (by rw [e])
  simp [putRow, mapBlock, Sort.ahead, Array.getElem?_modify, this]
theorem take_putCellsK {enc : α → Value} (cur : Array Value) (ts : List α) (h : ts.length ≤ cur.size) : (putCells enc 0 ts.toArray cur).toList.take ts.length = ts.map enc := by
  apply List.ext_getElem?
  intro j
  by_cases hj : j < ts.length
  · rw [List.getElem?_take_of_lt hj, Array.getElem?_toList]
    simp [putCells, hj, show j < cur.size by omega]
  · rw [List.getElem?_take_eq_none (by omega), List.getElem?_eq_none (by simp; omega)]
end
theorem cmp_lt (a b : Nat) : ltOf (fun x y : Nat => Lib.compareInt (x : Int) y) a b = decide (a < b) := cmp_neg a b

/-- the library's sort of the samples -/
theorem srt_any (w0 : World) (cb pb lb n lc ob oc : Nat) (ord : List Nat) (rf pf : Nat → Nat) (h0 : w0.cell? ⟨cb, 0, none⟩ = some (.pointer (some ⟨pb, 0, none⟩))) (h1 : w0.cell? ⟨pb, 1, none⟩ = some (.slice (some ⟨lb, 0, none⟩) n lc))
    (hl : w0.ownsRow 0 44 2 (.slice (some ⟨lb, 0, none⟩) n lc) n (cells2 rf pf n)) (ho : w0.ownsRow 0 3 1 (.slice (some ⟨ob, 0, none⟩) ord.length oc) ord.length (intsV ord)) (hk : ∀ k ∈ ord, k < n) (hne : ord ≠ []) (n1 : cb ≠ ob) (n2 : pb ≠ ob) (n3 : lb ≠ ob)
    (hi : ∀ a ∈ ord, ∀ b ∈ ord, rf a = rf b → a = b) (hnd : ord.Nodup) (hn : ord.length < 1000) :
    Calls Tryz.prog 72 #[.slice (some ⟨ob, 0, none⟩) ord.length oc, .func (.func 149) #[] #[.pointer (some ⟨cb, 0, none⟩)]] w0 fun e w' => e = .returned (.tuple #[]) ∧ ∃ ord', ord'.Perm ord ∧ (ord'.Pairwise fun a b => rf a < rf b) ∧
      w0.grownBy w' (some ob) ∧ w'.ownsRow 0 3 1 (.slice (some ⟨ob, 0, none⟩) ord.length oc) ord.length (intsV ord') := by
  haveI : Inhabited {k // k ∈ ord} := ⟨⟨ord.head hne, List.head_mem hne⟩⟩
  have hH := order_holds ho
  have eg : ∀ args w, (callFunc 149 args).run Tryz.prog w = .ok (.enter 149 args) w := Go.Proofs.enters_of Tryz.func149 (by kernel_rfl) rfl
  have hsz : ord.attach.toArray.size = ord.length := by simp
  have hlt : ∀ x y : {k // k ∈ ord}, ltOf (fun a b : {k // k ∈ ord} => Lib.compareInt (rf a.1 : Nat) (rf b.1 : Nat)) x y = decide (rf x.1 < rf y.1) := fun x y => cmp_neg _ _
  have hO : SWO (ltOf (fun a b : {k // k ∈ ord} => Lib.compareInt (rf a.1 : Nat) (rf b.1 : Nat))) := by
    refine ⟨fun x => ?_, fun x y z => ?_, fun x y z => ?_⟩
    · rw [hlt]; simp
    · simp only [hlt, decide_eq_true_eq]; omega
    · simp only [hlt, decide_eq_false_iff_not]; omega
  have hT : ∀ x y, ltOf (fun a b : {k // k ∈ ord} => Lib.compareInt (rf a.1 : Nat) (rf b.1 : Nat)) x y = false → ltOf (fun a b : {k // k ∈ ord} => Lib.compareInt (rf a.1 : Nat) (rf b.1 : Nat)) y x = false → x = y := by
    intro x y
    simp only [hlt, decide_eq_false_iff_not]
    intro a b
    exact Subtype.ext (hi _ x.2 _ y.2 (by omega))
  have hc : CmpLays1 Tryz.prog 149 #[.pointer (some ⟨cb, 0, none⟩)] (encK ord) (fun a b => Lib.compareInt (rf a.1 : Nat) (rf b.1 : Nat)) ob 0 ord.attach.toArray.size w0 := by
    intro m os dk _ x y
    have c := psort_any cb pb lb x.1 y.1 (rf x.1) (rf y.1) n lc (Go.Proofs.sortWorld (encK ord) w0 ob 0 m dk os) (sw_cell h0 n1) (sw_cell h1 n2) (sw_cell (owns_cell hl _ _ (cells2_get rf pf n x.1 (hk _ x.2)).1) n3) (sw_cell (owns_cell hl _ _ (cells2_get rf pf n y.1 (hk _ y.2)).1) n3) (hk _ x.2) (hk _ y.2)
    exact c.mono fun e w' h => ⟨h.1, by
      obtain ⟨q, hq⟩ := h.2
      exact ⟨q, #[], by rw [hq, Go.Sort.grow_empty]⟩⟩
  obtain ⟨cur, hcu, hc1, hc2, hc3, hc4⟩ := owns_row ho
  have R := Any.slices_SortFunc_total Tryz.sortL (encK ord) (encK_one ord) (fun a b => Lib.compareInt (rf a.1 : Nat) (rf b.1 : Nat)) hO 149 #[.pointer (some ⟨cb, 0, none⟩)] ob 0 oc ord.attach.toArray w0 eg hc hH (lt_of_block hcu) (by rw [hsz]; omega) hT
  rw [hsz] at R
  change Calls Tryz.prog 72 _ _ _ at R
  refine R.mono fun e w' h => ?_
  obtain ⟨he, m, os, hw⟩ := h
  refine ⟨he, (ord.attach.mergeSort fun x y => !ltOf (fun a b : {k // k ∈ ord} => Lib.compareInt (rf a.1 : Nat) (rf b.1 : Nat)) y x).map (fun x => x.1), ?_, ?_, ?_, ?_⟩
  · have := (List.mergeSort_perm ord.attach fun x y => !ltOf (fun a b : {k // k ∈ ord} => Lib.compareInt (rf a.1 : Nat) (rf b.1 : Nat)) y x).map (fun x => x.1)
    simpa using this
  · have hp := List.pairwise_mergeSort (le := fun x y => !ltOf (fun a b : {k // k ∈ ord} => Lib.compareInt (rf a.1 : Nat) (rf b.1 : Nat)) y x) (fun a b c => by simp only [hlt]; simp; omega) (fun a b => by simp only [hlt]; simp; omega) ord.attach
    have hq : (ord.attach.mergeSort fun x y => !ltOf (fun a b : {k // k ∈ ord} => Lib.compareInt (rf a.1 : Nat) (rf b.1 : Nat)) y x).Nodup := by
      refine (List.mergeSort_perm _ _).nodup_iff.2 ?_
      have hx : (ord.attach.map fun x => x.1).Nodup := by simpa using hnd
      exact (List.pairwise_map.1 hx).imp fun h e => h (congrArg _ e)
    rw [List.pairwise_map]
    refine (hp.and hq).imp fun {a b} h => ?_
    have h1 := h.1
    simp only [hlt] at h1
    simp at h1
    have h2 : rf a.1 ≠ rf b.1 := fun e => h.2 (Subtype.ext (hi _ a.2 _ b.2 e))
    omega
  · rw [hw]
    exact grownBy_sortedK _
  · rw [hw]
    refine ⟨by simp [intsV], .inr ⟨ob, oc, _, rfl, Nat.zero_le _, heap_sortedK _ hcu, hc1, hc2, by simp [putCells]; simpa using hc3, ?_⟩⟩
    have ht := take_putCellsK (enc := encK ord) cur (ord.attach.mergeSort fun x y => !ltOf (fun a b : {k // k ∈ ord} => Lib.compareInt (rf a.1 : Nat) (rf b.1 : Nat)) y x) (by simp; omega)
    simp only [List.length_mergeSort, List.length_attach] at ht
    rw [Nat.mul_one]
    refine Eq.trans ?_ (ht.trans ?_)
    · simp
    · unfold intsV
      rw [List.map_map]
      rfl
end Go.Proofs.YtnadgcgnediakaaGreatDoor
namespace Go.Proofs.YtnadgcgnediakaaGreatDoor
open Go.ChangeShapes Go.WideShapes Go.ChangeAt Go.RowKit Go.Deep

theorem mvr_inj (a t x y : Nat) (h : mvr a t x = mvr a t y) : x = y := by
  unfold mvr Wd.inr Wd.outr at h
  repeat' split at h
  all_goals omega
theorem sort_none (fv : Value) (p : Option Addr) (oc : Nat) (w : World) :
    Calls Tryz.prog 72 #[.slice p 0 oc, fv] w fun e w' => e = .returned (.tuple #[]) ∧ w' = w := AnyF.slices_SortFunc_none (P := Tryz.prog) (ρ := Tryz.sortL_ren) { Tryz.sortL with } p oc fv w
/-- the three boxes of RowMove -/
def mvW (w : World) (pb a t : Nat) : World := ((w.alloc (.cells #[.pointer (some ⟨pb, 0, none⟩)] 74)).alloc (.cells #[.int .i64 a] 3)).alloc (.cells #[.int .i64 t] 3)
theorem mvW_old (w : World) (pb a t : Nat) {k : Nat} (hk : k < w.heap.size) : (mvW w pb a t).heap[k]? = w.heap[k]? := by
  unfold mvW
  rw [Below.heap_alloc _ _ _ (alloc_lt (alloc_lt hk)), Below.heap_alloc _ _ _ (alloc_lt hk), Below.heap_alloc _ _ _ hk]
theorem mvW_0 (w : World) (pb a t : Nat) : (mvW w pb a t).heap[w.heap.size]? = some (.cells #[.pointer (some ⟨pb, 0, none⟩)] 74 (0, 0)) := by
  unfold mvW
  rw [Below.heap_alloc _ _ _ (by simp; omega), Below.heap_alloc _ _ _ (by simp)]
  exact heap_alloc_new w _
theorem mvW_1 (w : World) (pb a t : Nat) : (mvW w pb a t).heap[w.heap.size + 1]? = some (.cells #[.int .i64 a] 3 (0, 0)) := by
  unfold mvW
  rw [Below.heap_alloc _ _ _ (by simp)]
  have := heap_alloc_new (w.alloc (.cells #[.pointer (some ⟨pb, 0, none⟩)] 74)) (.cells #[.int .i64 a] 3)
  rw [World.size_alloc] at this
  exact this
theorem mvW_2 (w : World) (pb a t : Nat) : (mvW w pb a t).heap[w.heap.size + 2]? = some (.cells #[.int .i64 t] 3 (0, 0)) := by
  unfold mvW
  have := heap_alloc_new ((w.alloc (.cells #[.pointer (some ⟨pb, 0, none⟩)] 74)).alloc (.cells #[.int .i64 a] 3)) (.cells #[.int .i64 t] 3)
  rw [World.size_alloc, World.size_alloc] at this
  exact this
theorem mvW_upd {o : Nat → Nat} {d : Nat → Prop} (w : World) (pb a t q : Nat) : Upd o d w ((mvW w pb a t).drewN q) (ext o w.heap.size 0) := ((((Upd.start o d w 0).alloc _).alloc _).alloc _).drewN q

theorem prowmv_any (o : Nat → Nat) (pb ap : Nat) (lv ov : Value) (rf pf : Nat → Nat) (n : Nat) (ord : List Nat) (rows places a t : Nat) (w : World) (h : IsPB w o pb ap lv ov rf pf n ord rows places) (hn : n < 1000) (ha : a < rows) (ht : t < rows) (_hR : rows < 1000)
    (hb : ∀ k, k ∈ ord → rf k < 1000) (hi : ∀ a ∈ ord, ∀ b ∈ ord, rf a = rf b → a = b) :
    Calls Tryz.prog 91 #[.pointer (some ⟨pb, 0, none⟩), .int .i64 a, .int .i64 t] w fun e w' => e = .returned (.int .i64 0) ∧ Upd o (· = 9) w w' (ext o w.heap.size 0) ∧
      ∃ rf' pf' ord', IsPB w' (ext o w.heap.size 0) pb ap lv ov rf' pf' n ord' rows places ∧ ord'.Perm ord ∧ (ord'.Pairwise fun a b => rf' a < rf' b) ∧ ∀ k, k ∈ ord → rf' k = mvr a t (rf k) ∧ pf' k = pf k := by
  have hpl := lt_of_block h.c
  have hln := h.ln
  have key : ∀ q, Calls Tryz.prog 141 #[.pointer (some ⟨pb, 0, none⟩), .func (.func 148) #[] #[.pointer (some ⟨w.heap.size + 1, 0, none⟩), .pointer (some ⟨w.heap.size + 2, 0, none⟩)]] ((mvW w pb a t).drewN q) fun e w' => e = .returned (.tuple #[]) ∧ Upd o (· = 9) w w' (ext o w.heap.size 0) ∧
      w'.cell? ⟨w.heap.size, 0, none⟩ = some (.pointer (some ⟨pb, 0, none⟩)) ∧ ∃ rf' pf', IsPB w' (ext o w.heap.size 0) pb ap lv ov rf' pf' n ord rows places ∧ ∀ k, k ∈ ord → rf' k = mvr a t (rf k) ∧ pf' k = pf k := by
    intro q
    have u1 : Upd o (· = 9) w ((mvW w pb a t).drewN q) (ext o w.heap.size 0) := mvW_upd w pb a t q
    have h1 : IsPB ((mvW w pb a t).drewN q) (ext o w.heap.size 0) pb ap lv ov rf pf n ord rows places := h.keep (d := nothing) (mvW_upd w pb a t q) (by unfold nothing; exact id) (by unfold nothing; exact id)
    have k0 : ((mvW w pb a t).drewN q).cell? ⟨w.heap.size, 0, none⟩ = some (.pointer (some ⟨pb, 0, none⟩)) := by
      rw [Joins.cell_of_block (show ((mvW w pb a t).drewN q).heap[w.heap.size]? = _ from mvW_0 w pb a t)]
      rfl
    have eg : ∀ (args : Array Value) (wx : World), (callFunc 148 args).run Tryz.prog wx = .ok (.enter 148 args) wx := Go.Proofs.enters_of Tryz.func148 (by kernel_rfl) rfl
    by_cases hne : ord = []
    · subst hne
      obtain ⟨oa, oc, hov⟩ := own_shape h.od.1
      simp only [List.length_nil] at hov
      subst hov
      refine (peach_none _ pb oa oc _ h1.c2).mono ?_
      rintro e w' ⟨rfl, rfl⟩
      exact ⟨rfl, u1, k0, rf, pf, h1, by simp⟩
    · have hpos : 0 < ord.length := List.length_pos_iff.2 hne
      obtain ⟨lb, lc, hlv, _, hlb⟩ := own_form h.ls.1 (by omega)
      subst hlv
      have n0 : w.heap.size ≠ lb := by omega
      have n1 : w.heap.size + 1 ≠ lb := by omega
      have n2 : w.heap.size + 2 ≠ lb := by omega
      refine (peach_any 148 #[.pointer (some ⟨w.heap.size + 1, 0, none⟩), .pointer (some ⟨w.heap.size + 2, 0, none⟩)] (fun W => W.cell? ⟨w.heap.size + 1, 0, none⟩ = some (.int .i64 a) ∧ W.cell? ⟨w.heap.size + 2, 0, none⟩ = some (.int .i64 t)) (mvr a t) id (fun r _ => r < 1000) _ pb ap lb lc ov rf pf n ord rows places _ eg
        (fun W rf pf k hk hW hc hb => rowmv1_any (w.heap.size + 1) (w.heap.size + 2) a t lb lc n W rf pf k hk hW hc.1 hc.2 n1 n2 hb)
        (fun W W' hO hc => ⟨by rw [World.cell?_of_block (w := W) (hO.same _ n1)]; exact hc.1, by rw [World.cell?_of_block (w := W) (hO.same _ n2)]; exact hc.2⟩)
        ⟨by rw [Joins.cell_of_block (show ((mvW w pb a t).drewN q).heap[w.heap.size + 1]? = _ from mvW_1 w pb a t)]; rfl, by rw [Joins.cell_of_block (show ((mvW w pb a t).drewN q).heap[w.heap.size + 2]? = _ from mvW_2 w pb a t)]; rfl⟩ hb h1 hn (by omega)).mono ?_
      rintro e w' ⟨rfl, o3, ls⟩
      refine ⟨rfl, u1.only o3 (.inr ?_), ?_, _, _, h1.each o3 ls, fun k hk => ⟨?_, ?_⟩⟩
      · exact h.ls.2 lb rfl
      · rw [World.cell?_of_block (w := (mvW w pb a t).drewN q) (o3.same _ n0)]
        exact k0
      · rw [eachF_all _ _ _ _ (Nat.le_refl _) k hk]
      · rw [eachF_all _ _ _ _ (Nat.le_refl _) k hk]; rfl
  have key2 : ∀ (w2 : World) (rf' pf' : Nat → Nat), Upd o (· = 9) w w2 (ext o w.heap.size 0) → w2.cell? ⟨w.heap.size, 0, none⟩ = some (.pointer (some ⟨pb, 0, none⟩)) → IsPB w2 (ext o w.heap.size 0) pb ap lv ov rf' pf' n ord rows places → (∀ k, k ∈ ord → rf' k = mvr a t (rf k) ∧ pf' k = pf k) →
      Calls Tryz.prog 72 #[ov, .func (.func 149) #[] #[.pointer (some ⟨w.heap.size, 0, none⟩)]] w2 fun e w' => e = .returned (.tuple #[]) ∧ Upd o (· = 9) w w' (ext o w.heap.size 0) ∧
      ∃ rf' pf' ord', IsPB w' (ext o w.heap.size 0) pb ap lv ov rf' pf' n ord' rows places ∧ ord'.Perm ord ∧ (ord'.Pairwise fun a b => rf' a < rf' b) ∧ ∀ k, k ∈ ord → rf' k = mvr a t (rf k) ∧ pf' k = pf k := by
    intro w2 rf' pf' u2 k0 h2 hm
    by_cases hne : ord = []
    · subst hne
      obtain ⟨oa, oc, hov⟩ := own_shape h.od.1
      simp only [List.length_nil] at hov
      subst hov
      refine (sort_none _ oa oc w2).mono ?_
      rintro e w' ⟨rfl, rfl⟩
      exact ⟨rfl, u2, rf', pf', [], h2, List.Perm.refl _, List.Pairwise.nil, hm⟩
    · have hpos : 0 < ord.length := List.length_pos_iff.2 hne
      obtain ⟨lb, lc, hlv, _, hlb⟩ := own_form h.ls.1 (by omega)
      subst hlv
      obtain ⟨ob, oc, hov, _, hob⟩ := own_form h.od.1 hpos
      subst hov
      obtain ⟨cur, hcu, _⟩ := owns_row h2.ls.1
      have n2 : pb ≠ ob := fun e => owns_ne h2.od.1 h2.c (by decide) (by simp [Value.ownBlock, e])
      have n3 : lb ≠ ob := fun e => owns_ne h2.od.1 hcu (by decide) (by simp [Value.ownBlock, e])
      refine (srt_any w2 w.heap.size pb lb n lc ob oc ord rf' pf' k0 h2.c1 h2.ls.1 h2.od.1 h2.lt hne (by omega) n2 n3 (fun x hx y hy e => hi x hx y hy (mvr_inj a t _ _ (by rw [← (hm x hx).1, ← (hm y hy).1, e]))) h2.nd (by omega)).mono ?_
      rintro e w' ⟨rfl, ord', hp, hs, hg, hrow⟩
      refine ⟨rfl, u2.grown hg (fun k hk => .inr ?_), rf', pf', ord', ?_, hp, hs, hm⟩
      · cases hk
        exact h.od.2 ob rfl
      · have u9 := (Upd.refl (ext o w.heap.size 0) (· = 9) w2).grown hg (fun k hk => .inr (by cases hk; exact h2.od.2 ob rfl))
        have sm : ∀ k, k < w2.heap.size → k ≠ ob → w'.heap[k]? = w2.heap[k]? := fun k hk hne => hg.block k hk (fun e => hne (Option.some.inj e))
        exact ⟨(sm pb (lt_of_block h2.c) n2).trans h2.c, h2.ob, (h2.ar.keep u9 (by omega)).perm hp,
          ⟨owns_same h2.ls.1 (fun k hk => sm k (ownBlock_lt h2.ls.1 hk) (by cases hk; exact n3)), h2.ls.2⟩, ⟨by rw [hp.length_eq]; exact hrow, h2.od.2⟩, hp.nodup_iff.2 h2.nd, fun k hk => h2.lt k (hp.mem_iff.1 hk), by rw [hp.length_eq]; exact h2.ln⟩
  have K := Lib.hid key
  have K2 := Lib.hid key2
  have c3 : (mvW w pb a t).cell? ⟨pb, 3, none⟩ = some (.int .i64 rows) := by
    rw [World.cell?_of_block (w := w) (mvW_old w pb a t hpl)]
    exact h.c3
  unfold mvW at K c3
  clear key key2 h hb hi
  go_enter Tryz.func91, Tryz.ntmps91
  go_wp2_with fail
  go_quiet (fail)
  go_wp2_with fail
  refine (K.out nq).mono ?_
  rintro e w2 ⟨rfl, u2, k0, rf', pf', h2, h3⟩
  have c2 := h2.c2
  have K3 := Lib.hid (K2.out w2 rf' pf' u2 k0 h2 h3)
  clear u2 h2 h3
  go_wp2_with fail
  refine K3.out.mono ?_
  rintro e w3 ⟨rfl, u3, r3⟩
  have R3 := Lib.hid r3
  have U3 := Lib.hid u3
  clear r3 u3
  go_wp2_with fail
  go_ret
  exact ⟨rfl, U3.out, R3.out⟩
end Go.Proofs.YtnadgcgnediakaaGreatDoor
