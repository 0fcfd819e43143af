/- The reference's walk: In. The reference's walk: Rows. The reference's walk: Last. -/
import Derived.Test.YtnadgcgnediakaaGreatDoorH23
import Derived.Deep.Upon
namespace Go.Proofs.YtnadgcgnediakaaGreatDoor
open Go.ChangeShapes Go.WideShapes Go.ChangeAt Go.RowKit Go.Deep

/-- append of whatever row of one-cell elements, none too -/
theorem wp_append_by {P : Program} {o : Oper} {a : Act} {K : Act → World → Prop} {Q : Exit → Act → World → Prop} (w : World) (s x : Operand) (t : TypeId)
    (ho : o.op = .call { callee := .builtin .append, args := #[s, x], argTypes := #[t, t] })
    (base : Nat) (e : TypeId) (i : TypeInfo) (z : Value) (bytes : Nat) (ht : P.underlying t = some (.slice e)) (hi : P.info? e = some i) (hz : i.zero = some z)
    (hsize : i.size = 1) (hby : i.bytes = bytes) (hzs : z.cells.size = 1)
    (va : Option Addr) (vc n : Nat) (xs : List Value) (hs : a.eval s = .slice va n vc) (hown : w.ownsRow base e 1 (.slice va n vc) n xs)
    (ya : Option Addr) (yc m : Nat) (news : List Value) (hx : a.eval x = .slice ya m yc) (hl : news.length = m) (hnews : 0 < m → ∃ ad, ya = some ad ∧ ∀ j u, news[j]? = some u → w.cell? (ad.add j) = some u) (h1 : ∀ u ∈ news, u.oneCell' = true)
    (r : Nat) (hr : n + m = r) (h63 : n + m ≤ maxLen) (hbytes : (n + m) * bytes ≤ 140737488355328) (hbase : base ≤ w.heap.size)
    (h : ∀ va' vc' w', w'.ownsRow base e 1 (.slice va' r vc') r (xs ++ news) → w.grownBy w' (Value.slice va n vc).ownBlock → K (a.put o.dst (.slice va' r vc')) w') : o.wp P a w K Q := by
  subst hr
  by_cases hm : 0 < m
  · obtain ⟨ad, rfl, hc⟩ := hnews hm
    exact wp_append_lies w s x t ho base e i z 1 bytes ht hi hz hsize hby hzs (by decide) (.slice va n vc) n xs hs hown ad m yc news hx (by omega) hc h1 hm h63 hbytes hbase _ rfl fun g cap w' h2 h3 _ _ => h _ _ w' h2 h3
  · obtain rfl : m = 0 := by omega
    obtain rfl : news = [] := List.eq_nil_of_length_eq_zero hl
    have hle : n ≤ vc := by
      rcases hown.2 with ⟨e, e2⟩ | ⟨g, cap, cur, e, _, _, h, _⟩
      · cases e; omega
      · cases e; exact h
    have hsrc : Src P i.size t (.slice ya 0 yc) 0 [] w := by
      cases ya with
      | none => exact Src.ofNil w ht yc
      | some ad => exact Src.ofSlice w ht ad 0 yc [] (by simp) (by simp) (by simp)
    have hr := run_append_nothing (P := P) w t t o.type e i ht hi va n vc hle (.slice ya 0 yc) hsrc
    unfold Oper.wp execOp
    simp only [ho, resolve, invoke, builtin, Sem.run_bind, Sem.run_pure, Result.andThen_ok, List.map_toArray, List.map_cons, List.map_nil, hs, hx, hr]
    exact h va vc w (by simpa using hown) (World.grownBy.refl _ _)
theorem add_zero' (g j : Nat) : (⟨g, 0, none⟩ : Addr).add j = ⟨g, j, none⟩ := by unfold Addr.add; split <;> simp_all
theorem add_off' (g k j : Nat) : (⟨g, k, none⟩ : Addr).add j = ⟨g, k + j, none⟩ := by unfold Addr.add; split <;> simp_all
set_option maxRecDepth 20000 in
theorem cut_from28 (g k n c : Nat) (hk : k ≤ n) (w : World) : (Instr.slice 28 (.slice (some ⟨g, 0, none⟩) n c) (some (.int .i64 k)) none none).run Tryz.prog w = .ok (.slice (some ⟨g, if c = k then 0 else k, none⟩) (n - k) (c - k)) w := by
  have hs : (sizeOf (Tryz.prog.elem 28)).run Tryz.prog w = .ok 1 w := by
    have hi : (Tryz.prog.info? (Tryz.prog.elem 28)).map (·.size) = some 1 := by kernel_rfl
    obtain ⟨i, hi1, hi2⟩ := Option.map_eq_some_iff.1 hi
    simp [sizeOf, typeInfo, hi1, hi2]
  have := run_slice_l (P := Tryz.prog) w 28 (some ⟨g, 0, none⟩) n c (by kernel_rfl) .i64 k (by omega) (by omega)
  rw [this, hs]
  simp only [Result.andThen, sliced]
  congr 1
  by_cases e : c = k
  · simp [e]
  · simp [e, add_zero']
theorem take_some {α : Type} {l : List α} {k j : Nat} {u : α} (h : (l.take k)[j]? = some u) : l[j]? = some u := by
  rw [List.getElem?_take] at h
  split at h
  · exact h
  · cases h
theorem wpList_append_by {P : Program} {ops : Array Oper} {rest : List Oper} {o : Oper} {a : Act} {Q : Exit → Act → World → Prop} (hgd : o.guard = none) (w : World) (s x : Operand) (t : TypeId)
    (ho : o.op = .call { callee := .builtin .append, args := #[s, x], argTypes := #[t, t] })
    (base : Nat) (e : TypeId) (i : TypeInfo) (z : Value) (bytes : Nat) (ht : P.underlying t = some (.slice e)) (hi : P.info? e = some i) (hz : i.zero = some z)
    (hsize : i.size = 1) (hby : i.bytes = bytes) (hzs : z.cells.size = 1)
    (va : Option Addr) (vc n : Nat) (xs : List Value) (hs : a.eval s = .slice va n vc) (hown : w.ownsRow base e 1 (.slice va n vc) n xs)
    (ya : Option Addr) (yc m : Nat) (news : List Value) (hx : a.eval x = .slice ya m yc) (hl : news.length = m) (hnews : 0 < m → ∃ ad, ya = some ad ∧ ∀ j u, news[j]? = some u → w.cell? (ad.add j) = some u) (h1 : ∀ u ∈ news, u.oneCell' = true)
    (r : Nat) (hr : n + m = r) (h63 : n + m ≤ maxLen) (hbytes : (n + m) * bytes ≤ 140737488355328) (hbase : base ≤ w.heap.size)
    (h : ∀ va' vc' w', w'.ownsRow base e 1 (.slice va' r vc') r (xs ++ news) → w.grownBy w' (Value.slice va n vc).ownBlock → wpList P ops Q rest (a.put o.dst (.slice va' r vc')) w') : wpList P ops Q (o :: rest) a w :=
  wpList_plain hgd fun _ hK => wp_append_by w s x t ho base e i z bytes ht hi hz hsize hby hzs va vc n xs hs hown ya yc m news hx hl hnews h1 r hr h63 hbytes hbase fun va' vc' w' h2 h3 => hK _ _ (h va' vc' w' h2 h3)
theorem step_append_by {P : Program} {ops : Array Oper} {o : Oper} {a : Act} {K : Act → World → Prop} {Q : Exit → Act → World → Prop} {E : Prop} (hgd : o.guard = none) (w : World) (s x : Operand) (t : TypeId)
    (ho : o.op = .call { callee := .builtin .append, args := #[s, x], argTypes := #[t, t] })
    (base : Nat) (e : TypeId) (i : TypeInfo) (z : Value) (bytes : Nat) (ht : P.underlying t = some (.slice e)) (hi : P.info? e = some i) (hz : i.zero = some z)
    (hsize : i.size = 1) (hby : i.bytes = bytes) (hzs : z.cells.size = 1)
    (va : Option Addr) (vc n : Nat) (xs : List Value) (hs : a.eval s = .slice va n vc) (hown : w.ownsRow base e 1 (.slice va n vc) n xs)
    (ya : Option Addr) (yc m : Nat) (news : List Value) (hx : a.eval x = .slice ya m yc) (hl : news.length = m) (hnews : 0 < m → ∃ ad, ya = some ad ∧ ∀ j u, news[j]? = some u → w.cell? (ad.add j) = some u) (h1 : ∀ u ∈ news, u.oneCell' = true)
    (r : Nat) (hr : n + m = r) (h63 : n + m ≤ maxLen) (hbytes : (n + m) * bytes ≤ 140737488355328) (hbase : base ≤ w.heap.size)
    (h : ∀ va' vc' w', w'.ownsRow base e 1 (.slice va' r vc') r (xs ++ news) → w.grownBy w' (Value.slice va n vc).ownBlock → K (a.put o.dst (.slice va' r vc')) w') :
    if Region.wanted o (yielded ops a.tmps) = true then Oper.wp P o a w K Q else E := by
  have hw : Region.wanted o (yielded ops a.tmps) = true := by simp [Region.wanted, hgd]
  rw [if_pos hw]
  exact wp_append_by w s x t ho base e i z bytes ht hi hz hsize hby hzs va vc n xs hs hown ya yc m news hx hl hnews h1 r hr h63 hbytes hbase h
set_option maxRecDepth 20000 in
set_option maxHeartbeats 1000000 in
theorem in_own (g c n k : Nat) (s : Nat) (xs : List Value) (w : World) (h : w.ownsRow 0 3 1 (.slice (some ⟨g, 0, none⟩) n c) n xs) (h1 : ∀ u ∈ xs, u.oneCell' = true) (hk : k ≤ n) (hn : n < 1000) :
    Calls Tryz.prog 59 #[.slice (some ⟨g, 0, none⟩) n c, .int .i64 k, .int .i64 s] w fun e w' => ∃ g' c', e = .returned (.slice (some ⟨g', 0, none⟩) (n + 1) c') ∧ Below w.heap.size w w' ∧ w'.ownsRow w.heap.size 3 1 (.slice (some ⟨g', 0, none⟩) (n + 1) c') (n + 1) (xs.take k ++ .int .i64 s :: xs.drop k) := by
  obtain ⟨i0, hi, hz0, hz1, hz2⟩ := info_parts info3
  have H := Lib.hid h
  have hnc : n ≤ c := by
    obtain ⟨_, _, h, _⟩ := owns_row h
    exact h
  go_enter Tryz.func59, Tryz.ntmps59
  have hx := h.1
  have O0 : (w.alloc (.cells #[] 3)).ownsRow w.heap.size 3 1 (.slice (some ⟨w.heap.size, 0, none⟩) 0 0) 0 [] := ⟨rfl, .inr ⟨w.heap.size, 0, #[], rfl, Nat.le_refl _, heap_alloc_new w _, Nat.le_refl _, by unfold maxLen; omega, rfl, rfl⟩⟩
  have lg : g < w.heap.size := (h.lt g rfl).2
  have CT := Lib.hid (show ∀ W : World, W.heap[g]? = w.heap[g]? → ∀ j u, xs[j]? = some u → W.cell? ⟨g, j, none⟩ = some u from fun W e j u hu => by rw [World.cell?_of_block (w := w) e]; exact owns_cell h j u hu)
  have hA : (w.alloc (.cells #[] 3)).heap[g]? = w.heap[g]? := Below.heap_alloc _ _ _ lg
  clear h
  go_wp2_with (first | (at_builtin; go_loud (refine wpList_append_by rfl _ _ _ 28 rfl w.heap.size 3 i0 (.int .i64 0) 8 Tryz.underlying28 hi hz0 hz1 hz2 rfl (some ⟨w.heap.size, 0, none⟩) 0 0 [] rfl O0 (some ⟨g, 0, none⟩) c k (xs.take k) rfl (by rw [List.length_take]; omega) (fun _ => ⟨_, rfl, fun j u hu => by rw [add_zero']; exact CT.out _ hA j u (take_some hu)⟩) (fun u hu => h1 u (List.mem_of_mem_take hu)) k (by omega) (by unfold maxLen; omega) (by omega) (by simp) ?_)) | fail)
  intro va vc w1 hown hgr
  have OW := Lib.hid (show w1.ownsRow w.heap.size 3 1 (.slice va k vc) k (xs.take k) from hown)
  have B1 := Lib.hid ((Joins.below_alloc1 w (.cells #[] 3)).grown hgr (by simp) (fun j hj => by
    have : w.heap.size = j := by simpa [Value.ownBlock] using hj
    omega))
  clear hown hgr hA O0
  have QC : ∀ W : World, (Instr.slice 28 (.slice (some ⟨g, 0, none⟩) n c) (some (.int .i64 k)) none none).run Tryz.prog W = .ok (.slice (some ⟨g, if c = k then 0 else k, none⟩) (n - k) (c - k)) W := cut_from28 g k n c hk
  obtain ⟨q, hq⟩ : ∃ q, q = if c = k then 0 else k := ⟨_, rfl⟩
  rw [← hq] at QC
  have HQ := Lib.hid (show k < n → q = k from fun h => by rw [hq, if_neg (by omega)])
  have hl : xs.length = n := by omega
  have R := Lib.hid (show ∀ W : World, W.heap[g]? = w.heap[g]? → 0 < n - k → ∃ ad, (some ⟨g, q, none⟩ : Option Addr) = some ad ∧ ∀ j u, (xs.drop k)[j]? = some u → W.cell? (ad.add j) = some u from fun W e hp => ⟨_, rfl, fun j u hu => by
    rw [HQ.out (by omega), add_off']
    rw [List.getElem?_drop] at hu
    exact CT.out W e _ u hu⟩)
  have LG := Lib.hid lg
  have EX := Lib.hid (show xs.take k ++ [.int .i64 s] ++ xs.drop k = xs.take k ++ .int .i64 s :: xs.drop k by simp)
  clear hq CT lg
  go_wp2_with fail
  go_region_law (first | (refine step_append_by rfl (w1.drew.alloc (.cells #[.int .i64 s] 3)) (.tmp 13) (.tmp 15) 28 rfl w.heap.size 3 i0 (.int .i64 0) 8 Tryz.underlying28 hi hz0 hz1 hz2 rfl va vc k (xs.take k) (by simp [Act.eval]) (own_alloc OW.out _) (some ⟨w1.heap.size, 0, none⟩) 1 1 [.int .i64 s] (by simp [Act.eval]) rfl (fun _ => ⟨_, rfl, new_one w1.drew (.int .i64 s) 3⟩) (one_int _ _) (k + 1) rfl (by unfold maxLen; omega) (by omega) (alloc_lt B1.out.size) ?_; intro va2 vc2 w2 hown hgr; have O2 := Lib.hid hown; have B2 := Lib.hid ((B1.out.drew.alloc B1.out.size (.cells #[.int .i64 s] 3)).grown hgr (alloc_lt B1.out.size) (fun j hj => (OW.out.lt j hj).1)); have hg2 : w2.heap[g]? = w.heap[g]? := B2.out.block g LG.out; clear hown hgr) | (refine step_append_by rfl w2 (.tmp 16) (.tmp 19) 28 rfl w.heap.size 3 i0 (.int .i64 0) 8 Tryz.underlying28 hi hz0 hz1 hz2 rfl va2 vc2 (k + 1) (xs.take k ++ [.int .i64 s]) (by simp [Act.eval]) O2.out (some ⟨g, q, none⟩) (c - k) (n - k) (xs.drop k) (by simp [Act.eval]) (by rw [List.length_drop, hl]) (R.out w2 hg2) (fun u hu => h1 u (List.mem_of_mem_drop hu)) (n + 1) (by omega) (by unfold maxLen; omega) (by omega) B2.out.size ?_; intro va3 vc3 w3 hown hgr; have O3 := Lib.hid hown; have B3 := Lib.hid (B2.out.grown hgr B2.out.size (fun j hj => (O2.out.lt j hj).1)); clear hown hgr))
  go_wp2_with fail
  obtain ⟨b, hb⟩ : ∃ b, va3 = some ⟨b, 0, none⟩ := by
    obtain ⟨b, cb, e, _, _⟩ := own_form O3.out (by omega)
    cases e
    exact ⟨b, rfl⟩
  subst hb
  go_ret
  exact ⟨b, vc3, rfl, ⟨B3.out.os, B3.out.tape, B3.out.output, B3.out.size, B3.out.block⟩, by rw [← EX.out]; exact O3.out⟩
set_option maxRecDepth 20000 in
set_option maxHeartbeats 1000000 in
/-- into nothing -/
theorem in_nil (s : Nat) (w : World) :
    Calls Tryz.prog 59 #[.slice none 0 0, .int .i64 0, .int .i64 s] w fun e w' => ∃ g' c', e = .returned (.slice (some ⟨g', 0, none⟩) 1 c') ∧ Below w.heap.size w w' ∧ w'.ownsRow w.heap.size 3 1 (.slice (some ⟨g', 0, none⟩) 1 c') 1 [.int .i64 s] := by
  obtain ⟨i0, hi, hz0, hz1, hz2⟩ := info_parts info3
  have O0 : (w.alloc (.cells #[] 3)).ownsRow w.heap.size 3 1 (.slice (some ⟨w.heap.size, 0, none⟩) 0 0) 0 [] := ⟨rfl, .inr ⟨w.heap.size, 0, #[], rfl, Nat.le_refl _, heap_alloc_new w _, Nat.le_refl _, by unfold maxLen; omega, rfl, rfl⟩⟩
  have hno : ∀ W : World, 0 < 0 → ∃ ad, (none : Option Addr) = some ad ∧ ∀ (j : Nat) (u : Value), ([] : List Value)[j]? = some u → W.cell? (ad.add j) = some u := fun W h => absurd h (by omega)
  go_enter Tryz.func59, Tryz.ntmps59
  go_wp2_with (first | (at_builtin; go_loud (refine wpList_append_by rfl _ _ _ 28 rfl w.heap.size 3 i0 (.int .i64 0) 8 Tryz.underlying28 hi hz0 hz1 hz2 rfl (some ⟨w.heap.size, 0, none⟩) 0 0 [] rfl O0 none 0 0 [] rfl rfl (hno _) (by simp) 0 rfl (by unfold maxLen; omega) (by omega) (by simp) ?_)) | fail)
  intro va vc w1 hown hgr
  have OW := Lib.hid (show w1.ownsRow w.heap.size 3 1 (.slice va 0 vc) 0 [] from hown)
  have B1 := Lib.hid ((Joins.below_alloc1 w (.cells #[] 3)).grown hgr (by simp) (fun j hj => by
    have : w.heap.size = j := by simpa [Value.ownBlock] using hj
    omega))
  clear hown hgr O0
  go_wp2_with fail
  go_region_law (first | (refine step_append_by rfl (w1.drew.alloc (.cells #[.int .i64 s] 3)) (.tmp 13) (.tmp 15) 28 rfl w.heap.size 3 i0 (.int .i64 0) 8 Tryz.underlying28 hi hz0 hz1 hz2 rfl va vc 0 [] (by simp [Act.eval]) (own_alloc OW.out _) (some ⟨w1.heap.size, 0, none⟩) 1 1 [.int .i64 s] (by simp [Act.eval]) rfl (fun _ => ⟨_, rfl, new_one w1.drew (.int .i64 s) 3⟩) (one_int _ _) 1 rfl (by unfold maxLen; omega) (by omega) (alloc_lt B1.out.size) ?_; intro va2 vc2 w2 hown hgr; have O2 := Lib.hid hown; have B2 := Lib.hid ((B1.out.drew.alloc B1.out.size (.cells #[.int .i64 s] 3)).grown hgr (alloc_lt B1.out.size) (fun j hj => (OW.out.lt j hj).1)); clear hown hgr) | (refine step_append_by rfl w2 (.tmp 16) (.tmp 19) 28 rfl w.heap.size 3 i0 (.int .i64 0) 8 Tryz.underlying28 hi hz0 hz1 hz2 rfl va2 vc2 1 [.int .i64 s] (by simp [Act.eval]) O2.out none 0 0 [] (by simp [Act.eval]) rfl (hno w2) (by simp) 1 rfl (by unfold maxLen; omega) (by omega) B2.out.size ?_; intro va3 vc3 w3 hown hgr; have O3 := Lib.hid hown; have B3 := Lib.hid (B2.out.grown hgr B2.out.size (fun j hj => (O2.out.lt j hj).1)); clear hown hgr))
  go_wp2_with fail
  obtain ⟨b, hb⟩ : ∃ b, va3 = some ⟨b, 0, none⟩ := by
    obtain ⟨b, cb, e, _, _⟩ := own_form O3.out (by omega)
    cases e
    exact ⟨b, rfl⟩
  subst hb
  go_ret
  exact ⟨b, vc3, rfl, ⟨B3.out.os, B3.out.tape, B3.out.output, B3.out.size, B3.out.block⟩, O3.out⟩
end Go.Proofs.YtnadgcgnediakaaGreatDoor
namespace Go.Proofs.YtnadgcgnediakaaGreatDoor
open Go.ChangeShapes Go.WideShapes Go.ChangeAt Go.RowKit Go.Deep

/-- the places from k on, sorted by their rows -/
def IsR (ix : Nat → Nat) (N k : Nat) (Q : List Nat) : Prop := Q.Pairwise (fun a b => ix a < ix b) ∧ ∀ x, x ∈ Q ↔ k ≤ x ∧ x ≤ N
theorem IsR.put {ix : Nat → Nat} {N p lo : Nat} {Q : List Nat} (h : IsR ix N (p + 1) Q) (hr : Wd.Rows N ix) (hp : p ≤ N) (hlo : lo ≤ Q.length) (h1 : ∀ j (hj : j < Q.length), j < lo → ix Q[j] < ix p) (h2 : ∀ j (hj : j < Q.length), lo ≤ j → ¬ ix Q[j] < ix p) : IsR ix N p (Q.take lo ++ p :: Q.drop lo) := by
  have hne : ∀ x, x ∈ Q → ix x ≠ ix p := fun x hx e => by
    have := (h.2 x).1 hx
    have := hr.inj x p (by omega) hp e
    omega
  constructor
  · rw [List.pairwise_append, List.pairwise_cons]
    refine ⟨h.1.sublist (List.take_sublist _ _), ⟨fun x hx => ?_, h.1.sublist (List.drop_sublist _ _)⟩, fun a ha b hb => ?_⟩
    · obtain ⟨j, hj, rfl⟩ := List.getElem_of_mem hx
      rw [List.length_drop] at hj
      rw [List.getElem_drop]
      have := h2 (lo + j) (by omega) (by omega)
      have := hne Q[lo + j] (List.getElem_mem _)
      omega
    · obtain ⟨j, hj, rfl⟩ := List.getElem_of_mem ha
      rw [List.length_take] at hj
      rw [List.getElem_take]
      have hj1 := h1 j (by omega) (by omega)
      rcases List.mem_cons.1 hb with rfl | hb
      · exact hj1
      · obtain ⟨i, hi, rfl⟩ := List.getElem_of_mem hb
        rw [List.length_drop] at hi
        rw [List.getElem_drop]
        exact List.pairwise_iff_getElem.1 h.1 _ _ _ _ (by omega)
  · intro x
    rw [List.mem_append, List.mem_cons]
    have hm : (x ∈ Q.take lo ∨ x ∈ Q.drop lo) ↔ x ∈ Q := by rw [← List.mem_append, List.take_append_drop]
    have := h.2 x
    constructor
    · rintro (a | rfl | a)
      · have := this.1 (hm.1 (.inl a)); omega
      · omega
      · have := this.1 (hm.1 (.inr a)); omega
    · intro hx
      by_cases e : x = p
      · exact .inr (.inl e)
      · rcases hm.2 (this.2 (by omega)) with a | a
        · exact .inl a
        · exact .inr (.inr a)
theorem intsV_put (Q : List Nat) (lo p : Nat) : (intsV Q).take lo ++ .int .i64 (p : Nat) :: (intsV Q).drop lo = intsV (Q.take lo ++ p :: Q.drop lo) := by
  unfold intsV
  rw [List.map_append, List.map_cons, List.map_take, List.map_drop]
set_option maxRecDepth 20000 in
set_option maxHeartbeats 2000000 in
theorem rows_any (t : ByteArray) (N : Nat) (hn : t.size = N) (hN : N < 500) (ix : Nat → Nat) (hr : Wd.Rows N ix) (hc : Wd.Cons N (symS t) ix) (w : World) :
    Calls Tryz.prog 21 #[.string t] w fun e w' => ∃ g c Q, e = .returned (.slice (some ⟨g, 0, none⟩) (N + 1) c) ∧ Below w.heap.size w w' ∧ w'.ownsRow w.heap.size 3 1 (.slice (some ⟨g, 0, none⟩) (N + 1) c) (N + 1) (intsV Q) ∧ IsR ix N 0 Q ∧ Q.length = N + 1 := by
  have LS := Lib.hid (show ∀ a b, a ≤ N → b ≤ N → (Wd.lessR N (symS t) N a b = true ↔ ix a < ix b) from fun a b ha hb => Wd.less_rows hr hc (by unfold symS; rw [dif_neg (by omega)]) (fun p hp => by unfold symS; rw [dif_pos (by omega)]; omega) N a b ha hb (by omega))
  have LA := Lib.hid (fun a b ha hb wx => less_any t N hn (by omega) a b ha hb wx)
  have HR := Lib.hid hr
  have P0 := Lib.hid (show IsR ix N (N + 1) [] from ⟨List.Pairwise.nil, fun x => by simp; omega⟩)
  obtain ⟨R, hR⟩ : ∃ R : Nat → Nat → Bool, R = Wd.lessR N (symS t) N := ⟨_, rfl⟩
  rw [← hR] at LS
  have LA2 := Lib.hid (show ∀ a b, a ≤ N → b ≤ N → ∀ wx, Calls Tryz.prog 58 #[.string t, .int .i64 a, .int .i64 b] wx fun e w' => e = .returned (.bool (R a b)) ∧ ∃ k, w' = wx.drewN k by rw [hR]; exact LA.out)
  clear hr hc hR LA
  go_enter Tryz.func21, Tryz.ntmps21
  go_wp2_with fail
  go_loopg [3, 4] (N + 1) (fun gg s3 s4 wr => ∃ (i : Nat) (va : Option Addr) (vc : Nat), i + gg = N + 1 ∧ s4 = .int .i64 ((N : Int) - i) ∧ s3 = .slice va i vc ∧ (i = 0 → va = none ∧ vc = 0) ∧ Aside (∃ Q, IsR ix N (N + 1 - i) Q ∧ Q.length = i ∧ Below w.heap.size w wr ∧ wr.ownsRow w.heap.size 3 1 (.slice va i vc) i (intsV Q)))
  case atStart => exact ⟨0, none, 0, by omega, by simp, rfl, fun _ => ⟨rfl, rfl⟩, [], P0.out, rfl, Below.refl _ _, World.ownsRow_nil _ _ _ _⟩
  case round =>
    obtain ⟨i, va, vc, hi, rfl, rfl, hz, hq⟩ := hrel
    obtain ⟨Q, hQ, hQl, hb, ho⟩ := hq.out
    have BB := Lib.hid hb
    have OO := Lib.hid ho
    have QQ := Lib.hid hQ
    clear hb ho hQ hq
    by_cases hiN : i ≤ N
    · obtain ⟨p, hp⟩ : ∃ p : Nat, p = N - i := ⟨_, rfl⟩
      have hpi : (N : Int) - i = (p : Int) := by omega
      rw [hpi]
      have hpN : p ≤ N := by omega
      have HP := Lib.hid (show p + i = N by omega)
      obtain ⟨V, hV⟩ : ∃ V, V = wr := ⟨_, rfl⟩
      subst hV
      have hw1 : IntKind.i64.wrap ((p : Int) - 1) = (p : Int) - 1 := by rw [IntKind.wrap_i64]; omega
      have hd : decide ((0 : Int) ≤ (p : Int)) = true := decide_eq_true (by omega)
      by_cases h0 : i = 0
      · subst h0
        obtain ⟨rfl, rfl⟩ := hz rfl
        obtain rfl : p = N := by omega
        clear hp hpi
        have IN := Lib.hid (in_nil p V)
        have Q0 : Q = [] := List.eq_nil_of_length_eq_zero hQl
        subst Q0
        clear hz
        go_wp2_with fail
        refine wp_loop_rounds 1 ?_
        rw [rounds_succ]
        go_wp2_with fail
        refine IN.out.mono ?_
        rintro e w2 ⟨g', c', rfl, b2, o2⟩
        have B2 := Lib.hid (BB.out.trans (b2.mono BB.out.size))
        have O2 := Lib.hid (owns_base o2 BB.out.size)
        clear b2 o2
        go_wp2_with fail
        go_roundg (gk - 1)
        case measure => first | omega | (have := HP.out; omega)
        case rel =>
          refine ⟨1, some ⟨g', 0, none⟩, c', by omega, by go_num, rfl, fun h => by omega, [p], ⟨List.pairwise_singleton _ _, fun x => by simp; omega⟩, rfl, B2.out, O2.out⟩
      · obtain ⟨g, hg⟩ : ∃ g, va = some ⟨g, 0, none⟩ := by
          obtain ⟨g, cap, e, _, _⟩ := own_form OO.out (by omega)
          cases e
          exact ⟨g, rfl⟩
        subst hg
        clear hp hpi
        have lg : g < V.heap.size := (OO.out.lt g rfl).2
        have CT := Lib.hid (show ∀ m, (hm : m < Q.length) → ∀ k, (V.drewN k).cell? ⟨g, m, none⟩ = some (.int .i64 (Q[m] : Nat)) from fun m hm k => owns_cell OO.out m _ (intsV_get Q m hm))
        go_wp2_with fail
        go_loopg [5, 6] i (fun gg s5 s6 wr => ∃ lo hi k : Nat, s5 = .int .i64 lo ∧ s6 = .int .i64 hi ∧ lo ≤ hi ∧ hi ≤ i ∧ hi - lo ≤ gg ∧ wr = V.drewN k ∧ Aside ((∀ j (hj : j < Q.length), j < lo → ix Q[j] < ix p) ∧ (∀ j (hj : j < Q.length), hi ≤ j → ¬ ix Q[j] < ix p)))
        case atStart => exact ⟨0, i, 0, rfl, rfl, by omega, by omega, by omega, rfl, fun j _ h => absurd h (Nat.not_lt_zero _), fun j hj h => by omega⟩
        case round =>
          obtain ⟨lo, hi2, k, rfl, rfl, hlh, hhi, hgk, hwk, hin⟩ := hrel
          by_cases hlt : lo < hi2
          · have hdl : decide ((lo : Int) < (hi2 : Int)) = true := decide_eq_true (by omega)
            obtain ⟨m, hm⟩ : ∃ m, m = (lo + hi2) / 2 := ⟨_, rfl⟩
            have hmq : ((lo : Int) + hi2).tdiv 2 = (m : Int) := by rw [Int.tdiv_eq_ediv_of_nonneg (by omega)]; omega
            have hmi : m < i := by omega
            have hmQ : m < Q.length := by omega
            obtain ⟨q, hq⟩ : ∃ q, q = Q[m]'hmQ := ⟨_, rfl⟩
            have hqN : q ≤ N := ((QQ.out.2 q).1 (by rw [hq]; exact List.getElem_mem _)).2
            have c0 := CT.out m (by omega) k
            rw [← hq, ← hwk] at c0
            have LL := Lib.hid (LA2.out q p hqN hpN wr)
            have LSq := Lib.hid (LS.out q p hqN hpN)
            have HQ := Lib.hid hq
            have HW := Lib.hid hwk
            have HM := Lib.hid hm
            have IN := Lib.hid hin.out
            have e1 : IntKind.i64.wrap ((lo : Int) + hi2) = lo + hi2 := by rw [IntKind.wrap_i64]; omega
            obtain ⟨b, hbb⟩ : ∃ b, b = R q p := ⟨_, rfl⟩
            rw [← hbb] at LL LSq
            clear hq hwk hm hin hbb
            go_wp2_with fail
            refine LL.out.mono ?_
            rintro e w3 ⟨rfl, k3, hk3⟩
            have K3 := Lib.hid (show w3 = V.drewN (k + k3) by rw [hk3, HW.out, World.drewN_drewN])
            clear hk3
            cases b
            · go_wp2_with fail
              go_roundg (gk - 1)
              case measure => first | omega | (have := HP.out; omega)
              case rel =>
                refine ⟨lo, m, _, rfl, by go_num, ?_, ?_, ?_, K3.out, IN.out.1, fun j hj hmj => ?_⟩
                · have := HM.out; omega
                · omega
                · have := HM.out; omega
                · have h3 : ¬ ix q < ix p := fun h => by have := LSq.out.2 h; cases this
                  by_cases e : m = j
                  · subst e
                    rw [← HQ.out]; exact h3
                  · have := List.pairwise_iff_getElem.1 QQ.out.1 m j (by omega) hj (by omega)
                    rw [← HQ.out] at this
                    omega
            · go_wp2_with fail
              go_roundg (gk - 1)
              case measure => first | omega | (have := HP.out; omega)
              case rel =>
                refine ⟨m + 1, hi2, _, by go_num, rfl, ?_, ?_, ?_, K3.out, fun j hj hmj => ?_, IN.out.2⟩
                · have := HM.out; omega
                · omega
                · have := HM.out; omega
                · have h3 : ix q < ix p := LSq.out.1 (by first | rfl | trivial | simp)
                  by_cases e : j = m
                  · subst e
                    rw [← HQ.out]; exact h3
                  · have := List.pairwise_iff_getElem.1 QQ.out.1 j m hj (by omega) (by omega)
                    rw [← HQ.out] at this
                    omega
          · obtain rfl : lo = hi2 := by omega
            have hdl : decide ((lo : Int) < (lo : Int)) = false := decide_eq_false (by omega)
            have INN := Lib.hid (show ∀ w, Below V.heap.size V w → Calls Tryz.prog 59 #[.slice (some ⟨g, 0, none⟩) i vc, .int .i64 lo, .int .i64 p] w fun e w' => ∃ g' c', e = .returned (.slice (some ⟨g', 0, none⟩) (i + 1) c') ∧ Below w.heap.size w w' ∧ w'.ownsRow w.heap.size 3 1 (.slice (some ⟨g', 0, none⟩) (i + 1) c') (i + 1) ((intsV Q).take lo ++ .int .i64 p :: (intsV Q).drop lo) from fun w hbw => in_own g vc i lo p (intsV Q) w (owns_base (owns_same' OO.out hbw.block) (Nat.zero_le _)) (intsV_one Q) hhi (by omega))
            have hbw : Below V.heap.size V wr := by rw [hwk]; exact ⟨rfl, rfl, rfl, Nat.le_refl _, fun _ _ => rfl⟩
            have IC := Lib.hid (INN.out wr hbw)
            have B3 := Lib.hid (BB.out.trans (hbw.mono BB.out.size))
            have PU := Lib.hid (show IsR ix N p (Q.take lo ++ p :: Q.drop lo) from IsR.put (by rw [show p + 1 = N + 1 - i by have := HP.out; omega]; exact QQ.out) HR.out hpN (by omega) hin.out.1 hin.out.2)
            clear hbw hin hwk
            go_wp2_with fail
            refine IC.out.mono ?_
            rintro e w4 ⟨g', c', rfl, b4, o4⟩
            have B4 := Lib.hid (B3.out.trans (b4.mono B3.out.size))
            have O4 := Lib.hid (owns_base o4 B3.out.size)
            clear b4 o4
            go_wp2_with fail
            go_roundg (N - i)
            case measure => first | omega | (have := HP.out; omega)
            case rel =>
              refine ⟨i + 1, some ⟨g', 0, none⟩, c', by omega, by have := HP.out; go_num, rfl, fun h => by omega, Q.take lo ++ p :: Q.drop lo, ?_, ?_, B4.out, ?_⟩
              · rw [show N + 1 - (i + 1) = p by have := HP.out; omega]; exact PU.out
              · simp; omega
              · rw [← intsV_put]; exact O4.out
    · obtain rfl : i = N + 1 := by omega
      have hd : decide ((0 : Int) ≤ (N : Int) - ((N + 1 : Nat) : Int)) = false := decide_eq_false (by omega)
      obtain ⟨g, hg⟩ : ∃ g, va = some ⟨g, 0, none⟩ := by
        obtain ⟨g, cap, e, _, _⟩ := own_form OO.out (by omega)
        cases e
        exact ⟨g, rfl⟩
      subst hg
      go_wp2_with fail
      go_ret
      exact ⟨g, vc, Q, rfl, BB.out, OO.out, by simpa using QQ.out, hQl⟩
end Go.Proofs.YtnadgcgnediakaaGreatDoor
namespace Go.Proofs.YtnadgcgnediakaaGreatDoor
open Go.ChangeShapes Go.WideShapes Go.ChangeAt Go.RowKit Go.Deep

/-- the symbol ahead of a place -/
def hdS (t : ByteArray) (p : Nat) : Nat := if p = 0 then 0 else symS t (p - 1)
theorem symS_le (t : ByteArray) (p : Nat) : symS t p ≤ 256 := by
  unfold symS
  split
  · rename_i h
    have := (t[p]'h).toNat_lt
    omega
  · omega
theorem hd_snoc (t : ByteArray) (Q : List Nat) (i x : Nat) (h : i < Q.length) (hx : hdS t Q[i] = x) : intsV ((Q.map (hdS t)).take (i + 1)) = intsV ((Q.map (hdS t)).take i) ++ [.int .i64 (x : Int)] := by
  unfold intsV
  rw [List.take_add_one, List.getElem?_eq_getElem (by rw [List.length_map]; exact h), List.map_append]
  simp [hx]
set_option maxRecDepth 20000 in
set_option maxHeartbeats 2000000 in
theorem rlast_any (t : ByteArray) (N : Nat) (hn : t.size = N) (hN : N < 500) (ix : Nat → Nat) (hr : Wd.Rows N ix) (hc : Wd.Cons N (symS t) ix) (w : World) :
    Calls Tryz.prog 24 #[.string t] w fun e w' => ∃ g c Q, e = .returned (.slice (some ⟨g, 0, none⟩) (N + 1) c) ∧ Below w.heap.size w w' ∧ w'.ownsRow w.heap.size 3 1 (.slice (some ⟨g, 0, none⟩) (N + 1) c) (N + 1) (intsV (Q.map (hdS t))) ∧ IsR ix N 0 Q ∧ Q.length = N + 1 := by
  obtain ⟨i0, hi, hz0, hz1, hz2⟩ := info_parts info3
  have RW := Lib.hid (rows_any t N hn hN ix hr hc w)
  have IX := Lib.hid (idxS t)
  have HN := Lib.hid hn
  clear hr hc hn
  go_enter Tryz.func24, Tryz.ntmps24
  go_wp2_with fail
  refine RW.out.mono ?_
  rintro e w1 ⟨rg, rc, Q, rfl, b1, o1, hQ, hQl⟩
  have B1 := Lib.hid b1
  have O1 := Lib.hid o1
  have QQ := Lib.hid hQ
  clear b1 o1 hQ
  go_wp2_with fail
  go_loopg [4, 5] (N + 1) (fun gg s4 s5 wr => ∃ (i : Nat) (va : Option Addr) (vc : Nat), i + gg = N + 1 ∧ s5 = .int .i64 i ∧ s4 = .slice va i vc ∧ Aside (Below w1.heap.size w1 wr ∧ wr.ownsRow w1.heap.size 3 1 (.slice va i vc) i (intsV ((Q.map (hdS t)).take i))))
  case atStart => exact ⟨0, none, 0, by omega, rfl, rfl, Below.refl _ _, World.ownsRow_nil _ _ _ _⟩
  case round =>
    obtain ⟨i, va, vc, hi2, rfl, rfl, hb⟩ := hrel
    have BB := Lib.hid hb.out.1
    have OO := Lib.hid hb.out.2
    clear hb
    by_cases hiN : i < N + 1
    · have hd : decide ((i : Int) < ((N + 1 : Nat) : Int)) = true := decide_eq_true (by omega)
      have hiQ : i < Q.length := by omega
      obtain ⟨p, hp⟩ : ∃ p, p = Q[i]'hiQ := ⟨_, rfl⟩
      have hpN : p ≤ N := ((QQ.out.2 p).1 (by rw [hp]; exact List.getElem_mem _)).2
      have c0 : wr.cell? ⟨rg, i, none⟩ = some (.int .i64 p) := by
        rw [World.cell?_of_block (w := w1) (a := ⟨rg, i, none⟩) (BB.out.block _ (O1.out.lt rg rfl).2), hp]
        exact owns_cell O1.out i _ (intsV_get Q i hiQ)
      have SNX := Lib.hid (show ∀ x, hdS t p = x → intsV ((Q.map (hdS t)).take (i + 1)) = intsV ((Q.map (hdS t)).take i) ++ [.int .i64 (x : Int)] from fun x hx => hd_snoc t Q i x hiQ (by rw [← hp]; exact hx))
      clear hp
      by_cases h0 : p = 0
      · subst h0
        have SN := Lib.hid (show intsV ((Q.map (hdS t)).take (i + 1)) = intsV ((Q.map (hdS t)).take i) ++ [.int .i64 0] from SNX.out 0 (if_pos rfl))
        go_wp2_with (first | (at_builtin; go_loud (refine wpList_append_own _ rfl _ _ 28 rfl w1.heap.size 3 i0 (.int .i64 0) 1 8 Tryz.underlying28 hi hz0 hz1 hz2 rfl (by decide) _ i _ rfl (own_alloc OO.out _) ⟨wr.heap.size, 0, none⟩ 1 1 [.int .i64 0] rfl rfl (new_one wr (.int .i64 0) 3) (one_int .i64 0) (by unfold maxLen; omega) (by omega) (alloc_lt BB.out.size) ?_)) | fail)
        intro v1 w4 hown hgr _
        obtain ⟨g, c', rfl, _, _⟩ := own_form hown (by omega)
        have B4 := Lib.hid ((BB.out.alloc BB.out.size _).grown hgr (alloc_lt BB.out.size) (fun k hk => (OO.out.lt k hk).1))
        have O4 := Lib.hid (show w4.ownsRow w1.heap.size 3 1 (.slice (some ⟨g, 0, none⟩) (i + 1) c') (i + 1) (intsV ((Q.map (hdS t)).take (i + 1))) by rw [SN.out]; exact hown)
        clear hown hgr
        go_wp2_with fail
        go_roundg (gk - 1)
        case measure => omega
        case rel => exact ⟨i + 1, _, _, by omega, by go_num, rfl, B4.out, O4.out⟩
      · have d0 : ((p : Int) == 0) = false := by simp; omega
        have e1 : IntKind.i64.wrap ((p : Int) - 1) = (p - 1 : Nat) := by rw [IntKind.wrap_i64]; omega
        have ix1 := IX.out (p - 1) (by have := HN.out; omega)
        have hs0 : 0 < symS t (p - 1) := by unfold symS; rw [dif_pos (by have := HN.out; omega)]; omega
        have hs1 := symS_le t (p - 1)
        have hh : hdS t p = symS t (p - 1) := if_neg h0
        obtain ⟨x, hx⟩ : ∃ x, symS t (p - 1) = x + 1 := ⟨symS t (p - 1) - 1, by omega⟩
        have SN := Lib.hid (show intsV ((Q.map (hdS t)).take (i + 1)) = intsV ((Q.map (hdS t)).take i) ++ [.int .i64 ((x : Int) + 1)] from SNX.out (x + 1) (hh.trans hx))
        rw [hx] at ix1 hs1
        simp only [Nat.add_sub_cancel] at ix1
        have e2 : IntKind.i64.wrap (x : Int) = x := by rw [IntKind.wrap_i64]; omega
        have e3 : IntKind.i64.wrap ((x : Int) + 1) = (x + 1 : Nat) := by rw [IntKind.wrap_i64]; omega
        clear hs0 hh hx
        go_wp2_with (first | (at_builtin; go_loud (refine wpList_append_own _ rfl _ _ 28 rfl w1.heap.size 3 i0 (.int .i64 0) 1 8 Tryz.underlying28 hi hz0 hz1 hz2 rfl (by decide) _ i _ rfl (own_alloc OO.out _) ⟨wr.heap.size, 0, none⟩ 1 1 [.int .i64 (x + 1 : Nat)] rfl rfl (new_one wr (.int .i64 (x + 1 : Nat)) 3) (one_int .i64 _) (by unfold maxLen; omega) (by omega) (alloc_lt BB.out.size) ?_)) | fail)
        intro v1 w4 hown hgr _
        obtain ⟨g, c', rfl, _, _⟩ := own_form hown (by omega)
        have B4 := Lib.hid ((BB.out.alloc BB.out.size _).grown hgr (alloc_lt BB.out.size) (fun k hk => (OO.out.lt k hk).1))
        have O4 := Lib.hid (show w4.ownsRow w1.heap.size 3 1 (.slice (some ⟨g, 0, none⟩) (i + 1) c') (i + 1) (intsV ((Q.map (hdS t)).take (i + 1))) by rw [SN.out]; exact hown)
        clear hown hgr
        go_wp2_with fail
        go_roundg (gk - 1)
        case measure => omega
        case rel => exact ⟨i + 1, _, _, by omega, by go_num, rfl, B4.out, O4.out⟩
    · obtain rfl : i = N + 1 := by omega
      have hd : decide (((N + 1 : Nat) : Int) < ((N + 1 : Nat) : Int)) = false := decide_eq_false (by omega)
      obtain ⟨g, hg⟩ : ∃ g, va = some ⟨g, 0, none⟩ := by
        obtain ⟨g, cap, e, _, _⟩ := own_form OO.out (by omega)
        cases e
        exact ⟨g, rfl⟩
      subst hg
      have OE := Lib.hid (show wr.ownsRow w1.heap.size 3 1 (.slice (some ⟨g, 0, none⟩) (N + 1) vc) (N + 1) (intsV (Q.map (hdS t))) by
        have := OO.out
        rwa [List.take_of_length_le (by rw [List.length_map]; omega)] at this)
      go_wp2_with fail
      go_ret
      exact ⟨g, vc, Q, rfl, B1.out.trans (BB.out.mono B1.out.size), owns_base OE.out B1.out.size, QQ.out, hQl⟩
end Go.Proofs.YtnadgcgnediakaaGreatDoor
