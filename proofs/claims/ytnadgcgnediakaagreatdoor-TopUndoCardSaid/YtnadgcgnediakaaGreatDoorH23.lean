/- The samples as a set of places: what perm's functions answer. The walk of wave.Shapes. What makes an empty text: sym.All, tally.New, perm.New. The references' walks: Least, fours, May, length, Nodes. The reference's walk: Trees. The reference's walk: Same. The reference's walk: less. The live text in memory; the walks of live: Len, to, ahead, asks. The walks of live.Pairs, Shapes, Last, Rate. The store in memory; the walks of store.Pairs, Shapes, Last, Rate. -/
import Derived.Test.YtnadgcgnediakaaGreatDoorH22
import Derived.Test.YtnadgcgnediakaaGreatDoorH01
import Derived.Test.YtnadgcgnediakaaGreatDoorH14
import Derived.Test.YtnadgcgnediakaaGreatDoorH13
import Derived.BigQuiet
import Derived.Test.YtnadgcgnediakaaGreatDoorH17
namespace Go.Proofs.YtnadgcgnediakaaGreatDoor
open Go.ChangeShapes Go.WideShapes Go.ChangeAt Go.RowKit Go.Deep

/-- pairs (row, place) of just these places -/
structure Smp (ix : Nat → Nat) (N : Nat) (S : Nat → Bool) (rf pf : Nat → Nat) (n : Nat) (ord : List Nat) : Prop where
  n : n ≤ 130
  s : ord.Pairwise fun a b => rf a < rf b
  r : ∀ k, k ∈ ord → pf k ≤ N ∧ rf k = ix (pf k)
  m : ∀ p, p ≤ N → (S p = true ↔ ∃ k, k ∈ ord ∧ pf k = p)
def IsPerm (w : World) (o : Nat → Nat) (pb N : Nat) (ix : Nat → Nat) (S : Nat → Bool) : Prop := ∃ ap lv ov rf pf n ord, IsPB w o pb ap lv ov rf pf n ord (N + 1) (N + 1) ∧ Smp ix N S rf pf n ord
theorem IsPerm.keep {w w' : World} {o o' : Nat → Nat} {pb N : Nat} {ix : Nat → Nat} {S : Nat → Bool} (h : IsPerm w o pb N ix S) {d : Nat → Prop} (u : Upd o d w w' o') (h9 : ¬ d 9) (h7 : ¬ d 7) : IsPerm w' o' pb N ix S := by
  obtain ⟨ap, lv, ov, rf, pf, n, ord, h1, h2⟩ := h
  exact ⟨ap, lv, ov, rf, pf, n, ord, h1.keep u h9 h7, h2⟩
theorem Smp.inj {ix : Nat → Nat} {N : Nat} {S : Nat → Bool} {rf pf : Nat → Nat} {n : Nat} {ord : List Nat} (h : Smp ix N S rf pf n ord) (a : Nat) (ha : a ∈ ord) (b : Nat) (hb : b ∈ ord) (e : pf a = pf b) : a = b := by
  obtain ⟨i, hi, rfl⟩ := List.getElem_of_mem ha
  obtain ⟨j, hj, rfl⟩ := List.getElem_of_mem hb
  have e2 : rf ord[i] = rf ord[j] := by rw [(h.r _ ha).2, (h.r _ hb).2, e]
  rcases Nat.lt_trichotomy i j with hl | rfl | hl
  · have := List.pairwise_iff_getElem.1 h.s i j hi hj hl
    omega
  · rfl
  · have := List.pairwise_iff_getElem.1 h.s j i hj hi hl
    omega
section
variable {w : World} {o : Nat → Nat} {pb N : Nat} {ix : Nat → Nat} {S : Nat → Bool}
theorem prow_s (h : IsPerm w o pb N ix S) (pos : Nat) (hp : pos ≤ N) :
    Calls Tryz.prog 97 #[.pointer (some ⟨pb, 0, none⟩), .int .i64 pos] w fun e w' => e = .returned (.int .i64 (if S pos = true then (ix pos : Nat) else -1)) ∧ Upd o nothing w w' (ext o w.heap.size 0) := by
  obtain ⟨ap, lv, ov, rf, pf, n, ord, h1, h2⟩ := h
  refine (prow_any o pb ap lv ov rf pf n ord _ _ pos w h1 (by have := h2.n; omega)).mono ?_
  rintro e w' ⟨rfl, u⟩
  refine ⟨?_, u⟩
  rcases row_spec ord rf pf pos with ⟨k, q1, q2, q3⟩ | ⟨q1, q2⟩
  · rw [q3, if_pos ((h2.m pos hp).2 ⟨k, q1, q2⟩), (h2.r k q1).2, q2]
  · rw [q2, if_neg]
    intro hs
    obtain ⟨k, r1, r2⟩ := (h2.m pos hp).1 hs
    exact q1 k r1 r2
theorem ppos_s (h : IsPerm w o pb N ix S) (hr : Wd.Rows N ix) (p : Nat) (hp : p ≤ N) :
    Calls Tryz.prog 106 #[.pointer (some ⟨pb, 0, none⟩), .int .i64 (ix p)] w fun e w' => e = .returned (.int .i64 (if S p = true then (p : Nat) else -1)) ∧ Upd o nothing w w' (ext o w.heap.size 0) := by
  obtain ⟨ap, lv, ov, rf, pf, n, ord, h1, h2⟩ := h
  refine (ppos_any o pb ap lv ov rf pf n ord _ _ (ix p) w h1 h2.s (by have := h2.n; omega)).mono ?_
  rintro e w' ⟨rfl, u⟩
  refine ⟨?_, u⟩
  rcases pos_spec pf h2.s (ix p) with ⟨k, q1, q2, q3⟩ | ⟨q1, q2⟩
  · have e : pf k = p := hr.inj _ _ (h2.r k q1).1 hp (by rw [← (h2.r k q1).2, q2])
    rw [q3, if_pos ((h2.m p hp).2 ⟨k, q1, e⟩), e]
  · rw [q2, if_neg]
    intro hs
    obtain ⟨k, r1, r2⟩ := (h2.m p hp).1 hs
    exact q1 k r1 (by rw [(h2.r k r1).2, r2])
theorem pnext_s (h : IsPerm w o pb N ix S) (pos : Nat) :
    Calls Tryz.prog 96 #[.pointer (some ⟨pb, 0, none⟩), .int .i64 pos] w fun e w' => ∃ v, e = .returned (.int .i64 v) ∧ Wd.IsNext S N pos v ∧ Upd o nothing w w' (ext o w.heap.size 0) := by
  obtain ⟨ap, lv, ov, rf, pf, n, ord, h1, h2⟩ := h
  refine (pnext_any o pb ap lv ov rf pf n ord _ _ pos w h1 (by have := h2.n; omega)).mono ?_
  rintro e w' ⟨rfl, u⟩
  refine ⟨_, rfl, ?_, u⟩
  have no : ∀ z, z ≤ N → (∀ k, k ∈ ord → pf k ≠ z) → S z = false := fun z hz hk => by
    rw [← Bool.not_eq_true]
    intro hs
    obtain ⟨k, r1, r2⟩ := (h2.m z hz).1 hs
    exact hk k r1 r2
  rcases next_spec ord rf pf pos with ⟨k, q1, q2, q3, q4⟩ | ⟨q1, q2⟩
  · refine .inl ⟨pf k, q2, (h2.r k q1).1, (h2.m _ (h2.r k q1).1).2 ⟨k, q1, rfl⟩, q3, fun z hz hlt => no z (by have := (h2.r k q1).1; omega) fun j hj e => ?_⟩
    have := q4 j hj (by omega)
    omega
  · refine .inr ⟨fun z hz hn => no z hn fun j hj e => ?_, q2⟩
    have := q1 j hj
    omega
/-- the order behind one came in -/
theorem sorted_ins {ord : List Nat} {rf : Nat → Nat} {row k : Nat} (hs : ord.Pairwise fun a b => rf a < rf b) (hk : k ∉ ord) (hr : ∀ x, x ∈ ord → rf x ≠ row) : (ord.insertIdx (cntB ord rf row) k).Pairwise fun a b => upd rf k row a < upd rf k row b := by
  have hc : cntB ord rf row ≤ ord.length := List.countP_le_length
  have hu : ∀ x, x ∈ ord → upd rf k row x = rf x := fun x hx => upd_other _ _ (fun e => hk (e ▸ hx))
  rw [ins_split k _ ord hc]
  have hsp : ∀ i (h : i < ord.length), rf ord[i] < row ↔ i < cntB ord rf row := fun i h => sorted_lt hs row i h
  rw [List.pairwise_append, List.pairwise_cons]
  have ht : ∀ x, x ∈ ord.take (cntB ord rf row) → rf x < row ∧ x ∈ ord := by
    intro x hx
    obtain ⟨i, hi, rfl⟩ := List.getElem_of_mem hx
    rw [List.length_take] at hi
    rw [List.getElem_take]
    exact ⟨(hsp i (by omega)).2 (by omega), List.getElem_mem _⟩
  have hd : ∀ x, x ∈ ord.drop (cntB ord rf row) → row < rf x ∧ x ∈ ord := by
    intro x hx
    obtain ⟨i, hi, rfl⟩ := List.getElem_of_mem hx
    rw [List.length_drop] at hi
    rw [List.getElem_drop]
    have h1 := hr ord[cntB ord rf row + i] (List.getElem_mem _)
    have h2 : ¬ rf ord[cntB ord rf row + i] < row := fun h => by have := (hsp _ (by omega)).1 h; omega
    exact ⟨by omega, List.getElem_mem _⟩
  refine ⟨?_, ⟨fun x hx => ?_, ?_⟩, fun a ha b hb => ?_⟩
  · exact (hs.sublist (List.take_sublist _ _)).imp_of_mem fun {a b} ha hb hab => by rw [hu a (ht a ha).2, hu b (ht b hb).2]; exact hab
  · rw [upd_same, hu x (hd x hx).2]
    exact (hd x hx).1
  · exact (hs.sublist (List.drop_sublist _ _)).imp_of_mem fun {a b} ha hb hab => by rw [hu a (hd a ha).2, hu b (hd b hb).2]; exact hab
  · rw [hu a (ht a ha).2]
    rcases List.mem_cons.1 hb with rfl | hb
    · rw [upd_same]
      exact (ht a ha).1
    · rw [hu b (hd b hb).2]
      have h1 := (ht a ha).1
      have h2 := (hd b hb).1
      omega
theorem padd_s (h : IsPerm w o pb N ix S) (hr : Wd.Rows N ix) (hN : N ≤ 128) (pos : Nat) (hp : pos ≤ N) (hs : S pos = false) :
    Calls Tryz.prog 37 #[.pointer (some ⟨pb, 0, none⟩), .int .i64 (ix pos), .int .i64 pos] w fun e w' => e = .returned (.int .i64 0) ∧ ∃ o', (No5 o → No5 o') ∧ Upd o (fun x => x = 9 ∨ x = 7) w w' o' ∧ IsPerm w' o' pb N ix (Wd.addS S pos) := by
  obtain ⟨ap, lv, ov, rf, pf, n, ord, h1, h2⟩ := h
  have hix := hr.lt pos hp
  have hnp : ∀ k, k ∈ ord → pf k ≠ pos := fun k hk e => by
    have := (h2.m pos hp).2 ⟨k, hk, e⟩
    rw [hs] at this
    simp at this
  have hnr : ∀ k, k ∈ ord → rf k ≠ ix pos := fun k hk e => by
    rw [(h2.r k hk).2] at e
    exact hnp k hk (hr.inj _ _ (h2.r k hk).1 hp e)
  have hn := h2.n
  refine (padd_any o pb ap lv ov rf pf n ord _ _ (ix pos) pos w h1 h2.s (by omega) (by omega) (by omega) (by omega) (by omega) hnr hnp).mono ?_
  rintro e w' ⟨rfl, o', k, n', lv', ov', h5, u, hk, hn', pb'⟩
  have hc : cntB ord rf (ix pos) ≤ ord.length := List.countP_le_length
  have hm : ∀ x, x ∈ ord.insertIdx (cntB ord rf (ix pos)) k ↔ x = k ∨ x ∈ ord := fun x => ((insertIdx_perm ord _ k hc).mem_iff).trans List.mem_cons
  have hu1 : ∀ x, x ∈ ord → upd pf k pos x = pf x := fun x hx => upd_other _ _ (fun e => hk (e ▸ hx))
  have hu2 : ∀ x, x ∈ ord → upd rf k (ix pos) x = rf x := fun x hx => upd_other _ _ (fun e => hk (e ▸ hx))
  have hlen := few_places ord pf N (fun k hk => (h2.r k hk).1) h2.inj h1.nd
  have hlen2 : ord.length < N + 1 := by
    have h3 := few_places (ord.insertIdx (cntB ord rf (ix pos)) k) (upd pf k pos) N (fun x hx => by
      rcases (hm x).1 hx with rfl | hx
      · rw [upd_same]; exact hp
      · rw [hu1 x hx]; exact (h2.r x hx).1) (fun a ha b hb e => by
      rcases (hm a).1 ha with ea | ha'
      · rcases (hm b).1 hb with eb | hb'
        · rw [ea, eb]
        · rw [ea, upd_same, hu1 b hb'] at e
          exact absurd e.symm (hnp b hb')
      · rcases (hm b).1 hb with eb | hb'
        · rw [eb, upd_same, hu1 a ha'] at e
          exact absurd e (hnp a ha')
        · rw [hu1 a ha', hu1 b hb'] at e
          exact h2.inj a ha' b hb' e) pb'.nd
    rw [List.length_insertIdx_of_le_length hc] at h3
    omega
  refine ⟨rfl, o', h5, u, ap, lv', ov', _, _, n', _, pb', ⟨by omega, sorted_ins h2.s hk hnr, fun x hx => ?_, fun p hpN => ?_⟩⟩
  · rcases (hm x).1 hx with rfl | hx
    · rw [upd_same, upd_same]; exact ⟨hp, rfl⟩
    · rw [hu1 x hx, hu2 x hx]; exact h2.r x hx
  · constructor
    · intro hs'
      rcases Wd.addS_or hs' with rfl | hs'
      · exact ⟨k, (hm k).2 (.inl rfl), upd_same _ _ _⟩
      · obtain ⟨x, q1, q2⟩ := (h2.m p hpN).1 hs'
        exact ⟨x, (hm x).2 (.inr q1), by rw [hu1 x q1]; exact q2⟩
    · rintro ⟨x, q1, q2⟩
      rcases (hm x).1 q1 with rfl | q1
      · rw [upd_same] at q2
        rw [← q2]
        exact Wd.addS_new _ _
      · rw [hu1 x q1] at q2
        exact Wd.addS_mono ((h2.m p hpN).2 ⟨x, q1, q2⟩)
/-- a row is let in, then a place -/
theorem prowin_s (h : IsPerm w o pb N ix S) (hr : Wd.Rows N ix) (hN : N ≤ 128) (row at_ : Nat) (hrow : row ≤ N + 1) (ha : at_ ≤ N) :
    Calls Tryz.prog 93 #[.pointer (some ⟨pb, 0, none⟩), .int .i64 row] w fun e w' => e = .returned (.int .i64 0) ∧ Upd o (· = 9) w w' (ext o w.heap.size 0) ∧
      ∀ wx oz, Upd (ext o w.heap.size 0) (fun _ => False) w' wx oz → Calls Tryz.prog 94 #[.pointer (some ⟨pb, 0, none⟩), .int .i64 at_] wx fun e w2 => e = .returned (.int .i64 0) ∧ Upd oz (· = 9) wx w2 (ext oz wx.heap.size 0) ∧ IsPerm w2 (ext oz wx.heap.size 0) pb (N + 1) (Wd.ixIn ix at_ row) (Wd.inS S at_) := by
  obtain ⟨ap, lv, ov, rf, pf, n, ord, h1, h2⟩ := h
  have hn := h2.n
  refine (prowin_any o pb ap lv ov rf pf n ord _ _ row w h1 (by omega) hrow (by omega) (fun k hk => by rw [(h2.r k hk).2]; have := hr.lt _ (h2.r k hk).1; omega)).mono ?_
  rintro e w' ⟨rfl, u, rf', pf', hb, he⟩
  refine ⟨rfl, u, fun wx oz uz => ?_⟩
  refine (pposin_any oz pb ap lv ov rf' pf' n ord _ _ at_ wx (hb.keep uz (by simp) (by simp)) (by omega) (by omega) (by omega) (fun k hk => by rw [(he k hk).2]; have := (h2.r k hk).1; omega)).mono ?_
  rintro e w2 ⟨rfl, u2, rf2, pf2, hb2, he2⟩
  have e1 : ∀ k, k ∈ ord → rf2 k = Wd.inr (rf k) row ∧ pf2 k = Wd.inr (pf k) at_ := fun k hk => ⟨by rw [(he2 k hk).1, (he k hk).1], by rw [(he2 k hk).2, (he k hk).2]⟩
  refine ⟨rfl, u2, ap, lv, ov, rf2, pf2, n, ord, hb2, ⟨hn, ?_, fun k hk => ?_, fun p hp => ?_⟩⟩
  · exact h2.s.imp_of_mem fun {a b} ha' hb' hab => by rw [(e1 a ha').1, (e1 b hb').1]; exact (Wd.inr_lt _ _ _).2 hab
  · obtain ⟨q1, q2⟩ := e1 k hk
    obtain ⟨r1, r2⟩ := h2.r k hk
    refine ⟨by rw [q2]; exact Wd.inr_le r1, ?_⟩
    rw [q1, q2, r2, Wd.ixIn_old (Wd.inr_ne _ _)]
    congr 2
    unfold Wd.old Wd.inr
    split <;> split <;> omega
  · constructor
    · intro hs
      unfold Wd.inS at hs
      split at hs
      · rename_i hlt
        obtain ⟨k, r1, r2⟩ := (h2.m p (by omega)).1 hs
        exact ⟨k, r1, by rw [(e1 k r1).2, r2]; unfold Wd.inr; rw [if_neg (by omega)]⟩
      · split at hs
        · simp at hs
        · obtain ⟨k, r1, r2⟩ := (h2.m (p - 1) (by omega)).1 hs
          exact ⟨k, r1, by rw [(e1 k r1).2, r2]; unfold Wd.inr; rw [if_pos (by omega)]; omega⟩
    · rintro ⟨k, r1, r2⟩
      rw [(e1 k r1).2] at r2
      have hs := (h2.m (pf k) (h2.r k r1).1).2 ⟨k, r1, rfl⟩
      unfold Wd.inr at r2
      unfold Wd.inS
      split at r2
      · rw [if_neg (by omega), if_neg (by omega), show p - 1 = pf k from by omega]
        exact hs
      · rw [if_pos (by omega), ← r2]
        exact hs
theorem pmove_s (h : IsPerm w o pb N ix S) (hr : Wd.Rows N ix) (hN : N ≤ 128) (e1 t : Nat) (he : e1 ≤ N) (ht : t ≤ N) :
    Calls Tryz.prog 91 #[.pointer (some ⟨pb, 0, none⟩), .int .i64 (ix e1), .int .i64 t] w fun e w' => e = .returned (.int .i64 0) ∧ Upd o (· = 9) w w' (ext o w.heap.size 0) ∧ IsPerm w' (ext o w.heap.size 0) pb N (Wd.moved ix e1 t) S := by
  obtain ⟨ap, lv, ov, rf, pf, n, ord, h1, h2⟩ := h
  have hn := h2.n
  have hix := hr.lt e1 he
  refine (prowmv_any o pb ap lv ov rf pf n ord _ _ (ix e1) t w h1 (by omega) (by omega) (by omega) (by omega) (fun k hk => by rw [(h2.r k hk).2]; have := hr.lt _ (h2.r k hk).1; omega) (fun a ha b hb e => h2.inj a ha b hb (by
    rw [(h2.r a ha).2, (h2.r b hb).2] at e
    exact hr.inj _ _ (h2.r a ha).1 (h2.r b hb).1 e))).mono ?_
  rintro e w' ⟨rfl, u, rf', pf', ord', hb, hp, hs, hm⟩
  have hmem : ∀ x, x ∈ ord' ↔ x ∈ ord := fun x => hp.mem_iff
  refine ⟨rfl, u, ap, lv, ov, rf', pf', n, ord', hb, ⟨hn, hs, fun k hk => ?_, fun p hpN => ?_⟩⟩
  · have hk' := (hmem k).1 hk
    obtain ⟨q1, q2⟩ := hm k hk'
    obtain ⟨r1, r2⟩ := h2.r k hk'
    refine ⟨by rw [q2]; exact r1, ?_⟩
    rw [q1, q2, r2]
    unfold mvr Wd.moved
    by_cases e : pf k = e1
    · rw [if_pos (by rw [e]), if_pos e]
    · rw [if_neg (fun x => e (hr.inj _ _ r1 he x)), if_neg e]
  · rw [h2.m p hpN]
    constructor
    · rintro ⟨k, q1, q2⟩
      exact ⟨k, (hmem k).2 q1, by rw [(hm k q1).2]; exact q2⟩
    · rintro ⟨k, q1, q2⟩
      have hk' := (hmem k).1 q1
      exact ⟨k, hk', by rw [← (hm k hk').2]; exact q2⟩
end
end Go.Proofs.YtnadgcgnediakaaGreatDoor
namespace Go.Proofs.YtnadgcgnediakaaGreatDoor
open Go.ChangeShapes Go.WideShapes Go.ChangeAt Go.RowKit Go.Deep

theorem info46 : (Tryz.prog.info? 46).map (fun i => (i.zero, i.size, i.bytes)) = some (some (.agg #[.int .i64 0, .int .i64 0, .int .i64 0, .int .i64 0]), 4, 32) := by kernel_rfl
/-- the shapes' cells, by how many bits each shelf has -/
def shC (l : List Nat) : List Value := l.flatMap fun (n : Nat) => [.int .i64 (n : Int), .int .i64 0, .int .i64 1, .int .i64 1]
theorem shC_snoc (l : List Nat) (n : Nat) : shC (l ++ [n]) = shC l ++ [.int .i64 n, .int .i64 0, .int .i64 1, .int .i64 1] := by
  unfold shC
  rw [List.flatMap_append]
  rfl
/-- the shelves of a level that have bits -/
def shLev (L : List Nat) (lv p : Nat) : List Nat := ((List.range p).map fun q => (bitsOf L lv q).length).filter fun n => decide (0 < n)
theorem shLev_yes (L : List Nat) (lv p : Nat) (h : 0 < (bitsOf L lv p).length) : shLev L lv (p + 1) = shLev L lv p ++ [(bitsOf L lv p).length] := by
  unfold shLev
  rw [List.range_succ, List.map_append, List.filter_append]
  simp [h]
theorem shLev_no (L : List Nat) (lv p : Nat) (h : ¬ 0 < (bitsOf L lv p).length) : shLev L lv (p + 1) = shLev L lv p := by
  unfold shLev
  rw [List.range_succ, List.map_append, List.filter_append]
  simp [h]
def shAll (L : List Nat) (lv : Nat) : List Nat := (List.range lv).flatMap fun v => shLev L v (2 ^ v)
theorem shAll_succ (L : List Nat) (lv : Nat) : shAll L (lv + 1) = shAll L lv ++ shLev L lv (2 ^ lv) := by
  unfold shAll
  rw [List.range_succ, List.flatMap_append]
  simp
theorem shLev_len (L : List Nat) (lv p : Nat) : (shLev L lv p).length ≤ p := by
  unfold shLev
  exact Nat.le_trans (List.length_filter_le _ _) (by simp)
theorem shAll_len (L : List Nat) : ∀ lv, (shAll L lv).length ≤ 2 ^ lv - 1
  | 0 => by simp [shAll]
  | lv + 1 => by
    rw [shAll_succ, List.length_append]
    have h1 := shAll_len L lv
    have h2 := shLev_len L lv (2 ^ lv)
    have h3 : 0 < 2 ^ lv := Nat.two_pow_pos _
    rw [Nat.pow_succ]
    omega
theorem new_four (w : World) (a b c d : Value) (t : TypeId) : ∀ (j : Nat) (u : Value), [a, b, c, d][j]? = some u → (w.alloc (.cells #[a, b, c, d] t)).cell? ((⟨w.heap.size, 0, none⟩ : Addr).add j) = some u := by
  intro j u hu
  have hb := heap_alloc_new w (.cells #[a, b, c, d] t)
  rw [show (⟨w.heap.size, 0, none⟩ : Addr).add j = ⟨w.heap.size, j, none⟩ from by unfold Addr.add; split <;> simp_all, Joins.cell_of_block hb]
  simpa using hu
theorem four_int (a b c d : Int) : ∀ u ∈ [Value.int .i64 a, Value.int .i64 b, Value.int .i64 c, Value.int .i64 d], u.oneCell' = true := by
  intro u hu
  simp at hu
  rcases hu with rfl | rfl | rfl | rfl <;> rfl
theorem owns_same' {w w1 : World} {base : Nat} {e : TypeId} {size : Nat} {v : Value} {n : Nat} {xs : List Value} (h : w.ownsRow base e size v n xs) (hs : ∀ k, k < w.heap.size → w1.heap[k]? = w.heap[k]?) : w1.ownsRow base e size v n xs := by
  refine ⟨h.1, ?_⟩
  rcases h.2 with hn | ⟨g, cap, cur, rfl, hb, hgg, rest⟩
  · exact .inl hn
  · exact .inr ⟨g, cap, cur, rfl, hb, (hs g (lt_of_block hgg)).trans hgg, rest⟩
set_option maxRecDepth 20000 in
set_option maxHeartbeats 4000000 in
theorem wshapes_any (o : Nat → Nat) (wb : Nat) (S sc : Nat → Nat) (tb : Nat → Nat → Nat) (L : List Nat) (vis : Int) (w : World) (h : IsWave w o wb S sc tb L vis) (_hL : L.length < 1000) :
    Calls Tryz.prog 63 #[.pointer (some ⟨wb, 0, none⟩)] w fun e w' => ∃ v, e = .returned v ∧ Below w.heap.size w w' ∧ w'.ownsRow w.heap.size 46 4 v (shAll L 9).length (shC (shAll L 9)) := by
  have z0 := h.sh.top.cs 0 (by omega)
  have z1 := h.sh.top.cs 1 (by omega)
  have z2 := h.sh.top.cs 2 (by omega)
  have z3 := h.sh.top.cs 3 (by omega)
  have z4 := h.sh.top.cs 4 (by omega)
  have z5 := h.sh.top.cs 5 (by omega)
  have z6 := h.sh.top.cs 6 (by omega)
  have z7 := h.sh.top.cs 7 (by omega)
  have z8 := h.sh.top.cs 8 (by omega)
  have IX := Lib.hid (idx9 (shV S sc))
  have H := Lib.hid (fun (wr : World) (hb : Below w.heap.size w wr) => h.sh.keep (d := fun _ => False) ((Upd.refl o _ w).belowN hb) (by simp) (by simp) (by simp))
  obtain ⟨i0, hi, hz0, hz1, hz2⟩ := info_parts info46
  have HI := Lib.hid (And.intro hi (And.intro hz0 (And.intro hz1 hz2)))
  have SL := Lib.hid (shAll_len L)
  have SV := Lib.hid (shLev_len L)
  have SS := Lib.hid (shAll_succ L)
  clear h hi hz0 hz1 hz2
  go_enter Tryz.func63, Tryz.ntmps63
  go_wp2_with fail
  go_loopg [3, 14] 9 (fun gg s3 s14 wr => ∃ lv : Nat, lv + gg = 9 ∧ s14 = .int .i64 lv ∧ Aside (Below w.heap.size w wr) ∧ Aside (wr.ownsRow w.heap.size 46 4 s3 (shAll L lv).length (shC (shAll L lv))))
  case atStart => exact ⟨0, by omega, rfl, (Below.refl _ _ : Below w.heap.size w w), (World.ownsRow_nil _ _ _ _ : World.ownsRow w w.heap.size 46 4 (.slice none 0 0) 0 [])⟩
  case round =>
    obtain ⟨lv, hlv, rfl, hb, ho⟩ := hrel
    clear z0 z1 z2 z3 z4 z5 z6 z7 z8
    by_cases hl9 : lv < 9
    · have hlz : decide ((lv : Int) < 9) = true := decide_eq_true (by omega)
      obtain ⟨M, hM⟩ : ∃ M, M = 2 ^ lv := ⟨_, rfl⟩
      have hMle : M ≤ 256 := by rw [hM]; exact Nat.pow_le_pow_right (by omega) (show lv ≤ 8 by omega)
      have ixm := IX.out lv hl9 wr
      have hsh : shV S sc lv = .slice (some ⟨S lv, 0, none⟩) M (sc lv) := by rw [hM]; rfl
      rw [hsh] at ixm
      have HM := Lib.hid hM
      have B := Lib.hid hb.out
      have O := Lib.hid ho.out
      have b1 := SL.out lv
      have b2 : (shAll L lv).length ≤ 256 := by rw [← hM] at b1; omega
      have B2 := Lib.hid b2
      clear hM hsh b1 b2
      go_wp2_with fail
      go_loopg [3, 19] M (fun gg s3 s19 wx => ∃ p : Nat, p + gg = M ∧ s19 = .int .i64 p ∧ Aside (Below w.heap.size w wx) ∧ Aside (wx.ownsRow w.heap.size 46 4 s3 (shAll L lv ++ shLev L lv p).length (shC (shAll L lv ++ shLev L lv p))))
      case atStart => exact ⟨0, by omega, rfl, B.out, (show World.ownsRow _ _ _ _ _ _ _ by rw [show shLev L lv 0 = [] from rfl, List.append_nil]; exact O.out)⟩
      case round =>
        obtain ⟨p, hp, rfl, hb2, ho2⟩ := hrel
        by_cases hpm : p < M
        · have hpz : decide ((p : Int) < (M : Int)) = true := decide_eq_true (by omega)
          have hsx := H.out _ hb2.out
          obtain ⟨r0, r1, r2⟩ := hsx.row lv hl9 p (by rw [← HM.out]; exact hpm)
          have TR := Lib.hid (hsx.tree lv hl9 p (by rw [← HM.out]; exact hpm))
          have B2' := Lib.hid hb2.out
          have O2 := Lib.hid ho2.out
          clear hsx hb ho hb2 ho2 ixm
          have B3 := Lib.hid (B2'.out.alloc (B2'.out.size) (.cells #[.pointer (some ⟨tb lv p, 0, none⟩), .int .i64 lv, .int .i64 p] 155))
          obtain ⟨W, hW⟩ : ∃ W, W = wr.alloc (.cells #[.pointer (some ⟨tb lv p, 0, none⟩), .int .i64 lv, .int .i64 p] 155) := ⟨_, rfl⟩
          have hWb : W.heap[wr.heap.size]? = some (.cells #[.pointer (some ⟨tb lv p, 0, none⟩), .int .i64 lv, .int .i64 p] 155 (0, 0)) := by rw [hW]; exact heap_alloc_new wr _
          have s0 : W.cell? ⟨wr.heap.size, 0, none⟩ = some (.pointer (some ⟨tb lv p, 0, none⟩)) := by rw [Joins.cell_of_block hWb]; rfl
          have TW := Lib.hid (show IsTree W o (code lv p) (tb lv p) (bitsOf L lv p) from TR.out.keep (d := fun _ => False) (hW ▸ (Upd.refl o _ wr).alloc _) (by simp) (by simp))
          have OW := Lib.hid (show W.ownsRow w.heap.size 46 4 _ _ _ from hW ▸ own_alloc O2.out _)
          rw [← hW] at B3
          have HW := Lib.hid hW
          have TL := Lib.hid (tlen_any o (code lv p) (tb lv p) (bitsOf L lv p) W TW.out)
          clear hW hWb
          go_wp2_with fail
          rw [← HW.out]
          clear r0 r1 r2
          refine TL.out.mono ?_
          rintro e w2 ⟨rfl, n, hw2⟩
          have t0 : w2.cell? ⟨wr.heap.size, 0, none⟩ = some (.pointer (some ⟨tb lv p, 0, none⟩)) := by rw [hw2]; exact s0
          have u2 : Below w.heap.size w w2 := by rw [hw2]; exact ⟨B3.out.os, B3.out.tape, B3.out.output, B3.out.size, B3.out.block⟩
          have T2 := Lib.hid (show IsTree w2 o (code lv p) (tb lv p) (bitsOf L lv p) by rw [hw2]; exact TW.out.keep (d := fun _ => False) ((Upd.refl o _ W).drewN n) (by simp) (by simp))
          have O3 := Lib.hid (show w2.ownsRow w.heap.size 46 4 _ _ _ by rw [hw2]; exact OW.out)
          have U2 := Lib.hid u2
          have NX := Lib.hid (shLev_yes L lv p)
          have NN := Lib.hid (shLev_no L lv p)
          clear hw2 u2 s0 TL TW OW TR O2 B3 HW
          obtain ⟨l, hl⟩ : ∃ l, l = bitsOf L lv p := ⟨_, rfl⟩
          rw [← hl] at T2 NX NN ⊢
          clear hl
          by_cases hne : 0 < l.length
          · have hlz : decide ((0 : Int) < (l.length : Int)) = true := decide_eq_true (by omega)
            have hnl : l ≠ [] := by rintro rfl; simp at hne
            rcases T2.out with ⟨_, ab, nb, bb, kb, lc, kc, fv, vs, lf⟩ | ⟨he, _⟩
            rotate_left
            · exact absurd he hnl
            have TS := Lib.hid (tshape_leaf _ _ _ _ _ _ _ _ _ _ _ _ _ lf)
            clear lf T2 hnl
            go_wp2_with fail
            refine TS.out.mono ?_
            rintro e w3 ⟨rfl, b3⟩
            have U3 := Lib.hid (U2.out.trans (b3.mono U2.out.size))
            have O4 := Lib.hid (owns_same' O3.out (fun k hk => b3.block k hk))
            have US := Lib.hid U3.out.size
            clear b3 TS U2 O3 t0 NN
            have J1 := Lib.hid (show (shAll L lv ++ shLev L lv p).length ≤ 512 by
              have := SV.out lv p
              have := B2.out
              rw [List.length_append]
              omega)
            go_wp2_with (first | (at_builtin; go_loud (refine wpList_append_own _ rfl _ _ 41 rfl w.heap.size 46 i0 (.agg #[.int .i64 0, .int .i64 0, .int .i64 0, .int .i64 0]) 4 32 Tryz.underlying41 HI.out.1 HI.out.2.1 HI.out.2.2.1 HI.out.2.2.2 rfl (by decide) _ (shAll L lv ++ shLev L lv p).length _ rfl (own_alloc O4.out _) ⟨w3.heap.size, 0, none⟩ 1 1 [.int .i64 l.length, .int .i64 0, .int .i64 1, .int .i64 1] rfl rfl (new_four w3 _ _ _ _ 46) (four_int _ _ _ _) (by have := J1.out; unfold maxLen; omega) (by have := J1.out; omega) (alloc_lt US.out) ?_)) | fail)
            intro v1 w4 hown hgr _
            have U4 := Lib.hid (show Below w.heap.size w w4 from (U3.out.alloc US.out _).grown hgr (alloc_lt US.out) (fun k hk => (O4.out.lt k hk).1))
            have O5 := Lib.hid hown
            clear hown hgr
            go_wp2_with fail
            go_roundg (gk - 1)
            case measure => omega
            case rel => exact ⟨p + 1, by omega, by go_num, U4.out, (by rw [NX.out hne, ← List.append_assoc, shC_snoc]; simp only [List.length_append, List.length_cons, List.length_nil, Nat.zero_add]; exact (by simpa only [List.length_append] using O5.out : World.ownsRow _ _ _ _ _ _ _))⟩
          · have hlz : decide ((0 : Int) < (l.length : Int)) = false := decide_eq_false (by omega)
            go_wp2_with fail
            go_roundg (gk - 1)
            case measure => omega
            case rel => exact ⟨p + 1, by omega, by go_num, U2.out, (by rw [NN.out hne]; exact O3.out)⟩
        · have : p = M := by omega
          subst this
          go_wp2_with fail
          go_roundg (8 - lv)
          case measure => omega
          case rel => exact ⟨lv + 1, by omega, by go_num, hb2.out, (by rw [SS.out, ← HM.out]; exact ho2.out)⟩
    · have : lv = 9 := by omega
      subst this
      go_wp2_with fail
      go_ret
      exact ⟨_, rfl, hb.out, ho.out⟩
end Go.Proofs.YtnadgcgnediakaaGreatDoor
namespace Go.Proofs.YtnadgcgnediakaaGreatDoor
open Go.ChangeShapes Go.WideShapes Go.ChangeAt Go.RowKit Go.Deep

set_option maxHeartbeats 1000000 in
theorem sall_none (qb qc : Nat) (w : World) (hq : w.cell? ⟨qb, 0, none⟩ = some (.slice none 0 0)) :
    Calls Tryz.prog 68 #[.slice (some ⟨qb, 0, none⟩) 1 qc] w fun e w' => ∃ g c, e = .returned (.slice (some ⟨g, 0, none⟩) 1 c) ∧ Below w.heap.size w w' ∧ w'.ownsRow w.heap.size 3 1 (.slice (some ⟨g, 0, none⟩) 1 c) 1 [.int .i64 0] := by
  have ob := World.ownsRow_nil (w.alloc (.cells #[.int .i64 0] 3)) w.heap.size 3 1
  obtain ⟨i0, hi, hz0, hz1, hz2⟩ := info_parts info3
  go_enter Tryz.func68, Tryz.ntmps68
  go_wp2_with fail
  refine wp_loop_rounds 2 ?_
  rw [rounds_succ]
  go_wp2_with fail
  refine wp_loop_rounds 1 ?_
  rw [rounds_succ]
  go_wp2_with fail
  rw [rounds_succ]
  go_wp2_with (first | (at_builtin; go_loud (refine wpList_append_own _ rfl _ _ 28 rfl w.heap.size 3 i0 (.int .i64 0) 1 8 Tryz.underlying28 hi hz0 hz1 hz2 rfl (by decide) _ 0 _ rfl ob ⟨w.heap.size, 0, none⟩ 1 1 [.int .i64 0] rfl rfl (new_one w (.int .i64 0) 3) (one_int (.i64) 0) (by unfold maxLen; omega) (by omega) (by simp) ?_)) | fail)
  intro v1 w4 hown hgr _
  obtain ⟨g, c, rfl, h1, h2⟩ := own_form hown (by omega)
  go_wp2_with fail
  go_ret
  exact ⟨g, c, rfl, (Joins.below_alloc1 w _).grown hgr (by simp) (by simp [Value.ownBlock]), hown⟩
set_option maxHeartbeats 1000000 in
theorem pnew_one (o : Nat → Nat) (w : World) (n : Nat) (hn : n < 1000) :
    Calls Tryz.prog 35 #[.int .i64 n, .slice none 0 0] w fun e w' => ∃ pb o', e = .returned (.tuple #[.pointer (some ⟨pb, 0, none⟩), .int .i64 0]) ∧ (No5 o → No5 o') ∧ Upd o (fun _ => False) w w' o' ∧ w.heap.size ≤ pb ∧ ∃ ap, IsPB w' o' pb ap (.slice none 0 0) (.slice none 0 0) (fun _ => 0) (fun _ => 0) 0 [] n n := by
  have AN := Lib.hid (anew_any w)
  have h1 : decide ((n : Int) < 0) = false := decide_eq_false (by omega)
  have h2 : decide ((2147483648 : Int) < n) = false := decide_eq_false (by omega)
  go_enter Tryz.func35, Tryz.ntmps35
  go_wp2_with fail
  refine AN.out.mono ?_
  rintro e w2 ⟨rfl, hw2⟩
  have h7 : w2.heap[w.heap.size]? = some (.cells #[.slice none 0 0, .slice none 0 0, .int .i64 268435456] 162 (0, 0)) := by rw [hw2]; exact heap_alloc_new w _
  have s2 : w2.heap.size = w.heap.size + 1 := by rw [hw2]; simp
  have u2 : Upd o (fun _ => False) w w2 (fun b => if b < w.heap.size then o b else if b = w.heap.size then 7 else 9) := by
    rw [hw2]
    exact ((Upd.refl o _ w).alloc _).reown (fun b hb => by simp [hb])
  have H7 := Lib.hid h7
  have S2 := Lib.hid s2
  have U2 := Lib.hid u2
  clear hw2 h7 s2 u2
  go_wp2_with fail
  refine wp_loop_rounds 1 ?_
  rw [rounds_succ]
  go_wp2_with fail
  go_ret2
  refine ⟨w2.heap.size, _, rfl, ?_, U2.out.alloc _, U2.out.size, w.heap.size, ?_⟩
  · intro h5 b
    have := h5 b
    show (if b < w.heap.size then o b else if b = w.heap.size then 7 else 9) ≠ 5
    split
    · exact this
    · split <;> omega
  · have hs := S2.out
    refine ⟨heap_alloc_new w2 _, ?_, ⟨?_, _, _, [], (Below.heap_alloc w2 _ _ (by omega)).trans H7.out, ⟨World.ownsRow_nil _ _ _ _, by simp [Value.ownBlock]⟩, ⟨World.ownsRow_nil _ _ _ _, by simp [Value.ownBlock]⟩, by simp, by simp, by simp⟩, ⟨World.ownsRow_nil _ _ _ _, by simp [Value.ownBlock]⟩, ⟨World.ownsRow_nil _ _ _ _, by simp [Value.ownBlock]⟩, by simp, by simp, by simp⟩
    · show (if w2.heap.size < w.heap.size then o _ else if w2.heap.size = w.heap.size then 7 else 9) = 9
      rw [if_neg (by omega), if_neg (by omega)]
    · show (if w.heap.size < w.heap.size then o _ else if w.heap.size = w.heap.size then 7 else 9) = 7
      rw [if_neg (by omega), if_pos rfl]
theorem zero179 : Tryz.zeroCells179 = Array.replicate 258 (.int .i64 0) := by kernel_rfl
theorem tally0 (w : World) : IsTally (w.alloc (.cells Tryz.zeroCells179 179)) w.heap.size (fun _ => 0) 0 := by
  refine ⟨_, heap_alloc_new w _, ?_, fun i hi => ?_, ?_⟩
  · rw [zero179, Array.size_replicate]
  · rw [zero179, Array.getElem?_replicate, if_pos (by omega)]
    rfl
  · rw [zero179, Array.getElem?_replicate, if_pos (by omega)]
    rfl
set_option maxRecDepth 20000 in
set_option maxHeartbeats 2000000 in
theorem tlnew_zero (lb c : Nat) (w : World) (hl : w.cell? ⟨lb, 0, none⟩ = some (.int .i64 0)) :
    Calls Tryz.prog 123 #[.slice (some ⟨lb, 0, none⟩) 1 c] w fun e w' => e = .returned (.tuple #[.pointer (some ⟨w.heap.size, 0, none⟩), .int .i64 0]) ∧ Below w.heap.size w w' ∧ IsTally w' w.heap.size (fun i => if i = 0 then 1 else 0) 1 := by
  have ll := cell_lt hl
  have TA := Lib.hid (tadd_any w.heap.size 0 (fun _ => 0) 0 _ (tally0 w) (by omega) (by omega) (by omega))
  go_enter Tryz.func123, Tryz.ntmps123
  go_wp2_with fail
  refine wp_loop_rounds 2 ?_
  rw [rounds_succ]
  go_wp2_with fail
  refine TA.out.mono ?_
  rintro e w2 ⟨rfl, on, ta⟩
  have ON := Lib.hid on
  have T2 := Lib.hid ta
  clear on ta
  go_wp2_with fail
  rw [rounds_succ]
  go_wp2_with fail
  go_ret2
  refine ⟨rfl, ?_, ?_⟩
  · have on := ON.out
    exact ⟨on.os, on.tape, on.output, by rw [on.size, World.size_alloc]; omega, fun k hk => (on.same k (by omega)).trans (Below.heap_alloc w _ k hk)⟩
  · exact T2.out
end Go.Proofs.YtnadgcgnediakaaGreatDoor
namespace Go.Proofs.YtnadgcgnediakaaGreatDoor
open Go.ChangeShapes Go.WideShapes Go.ChangeAt Go.RowKit Go.Deep

theorem least_zero (w : World) : Calls Tryz.prog 118 #[.int .i64 0] w fun e w' => e = .returned (.int .i64 1) ∧ w' = w := by
  go_enter Tryz.func118, Tryz.ntmps118
  go_wp2_with fail
  refine wp_loop_rounds 1 ?_
  rw [rounds_succ]
  go_wp2_with fail
  go_ret
  exact ⟨rfl, rfl⟩
theorem fours_any (n : Nat) (hn : n < 128) (w : World) : Calls Tryz.prog 119 #[.int .i64 n] w fun e w' => e = .returned (.int .i64 (n * 4 / 128 : Nat)) ∧ w' = w := by
  have h1 : (n : Int).tdiv 128 = 0 := by rw [Int.tdiv_eq_ediv_of_nonneg (by omega)]; omega
  have h2 : (n : Int).tmod 128 = n := by rw [Int.tmod_eq_emod_of_nonneg (by omega)]; omega
  have h3 : ((n : Int) * 4).tdiv 128 = (n * 4 / 128 : Nat) := by rw [Int.tdiv_eq_ediv_of_nonneg (by omega)]; omega
  have w1 : IntKind.i64.wrap ((n : Int) * 4) = n * 4 := by rw [IntKind.wrap_i64]; omega
  have w2 : IntKind.i64.wrap (n : Int) = n := by rw [IntKind.wrap_i64]; omega
  have w3 : IntKind.i64.wrap ((n * 4 / 128 : Nat) : Int) = (n * 4 / 128 : Nat) := by rw [IntKind.wrap_i64]; omega
  have w0 : IntKind.i64.wrap 0 = 0 := by decide
  go_enter Tryz.func119, Tryz.ntmps119
  go_wp2_with fail
  go_ret
  refine ⟨?_, rfl⟩
  simp
theorem length_any (n : Nat) (hn : n < 1000) (w : World) : Calls Tryz.prog 61 #[.int .i64 n] w fun e w' => e = .returned (.int .i64 n) ∧ w' = w := by
  have h1 : max (n : Int) 0 = n := by omega
  have h2 : min (n : Int) 2147483648 = n := by omega
  go_enter Tryz.func61, Tryz.ntmps61
  go_wp2_with fail
  go_ret
  refine ⟨?_, rfl⟩
  simp
theorem nodes_any (n : Nat) (hn : n < 1000) (w : World) : Calls Tryz.prog 29 #[.int .i64 n] w fun e w' => e = .returned (.int .i64 (9 * (8 * (n + 1) / 128 + 1024) : Nat)) ∧ w' = w := by
  have L := Lib.hid (length_any n hn w)
  have h1 : (8 * ((n : Int) + 1)).tdiv 128 = (8 * (n + 1) / 128 : Nat) := by rw [Int.tdiv_eq_ediv_of_nonneg (by omega)]; omega
  go_enter Tryz.func29, Tryz.ntmps29
  go_wp2_with fail
  refine L.out.mono ?_
  rintro e w' ⟨rfl, rfl⟩
  go_wp2_with fail
  go_ret
  refine ⟨?_, rfl⟩
  simp
  skip
set_option maxHeartbeats 2000000 in
theorem may_one (n : Nat) (h0 : 0 < n) (hn : n < 128) (w : World) : Calls Tryz.prog 60 #[.agg #[.int .i64 n, .int .i64 0, .int .i64 1, .int .i64 1]] w fun e w' => e = .returned (.bool true) ∧ Below w.heap.size w w' := by
  obtain ⟨W, hW⟩ : ∃ W, W = w.alloc (.cells #[.int .i64 n, .int .i64 0, .int .i64 1, .int .i64 1] 46) := ⟨_, rfl⟩
  have hb : W.heap[w.heap.size]? = some (.cells #[.int .i64 n, .int .i64 0, .int .i64 1, .int .i64 1] 46 (0, 0)) := by rw [hW]; exact heap_alloc_new w _
  have LE := Lib.hid (show ∀ nq, Calls Tryz.prog 118 #[.int .i64 0] (W.drewN nq) fun e w' => e = .returned (.int .i64 1) ∧ ∃ m, w' = (W.drewN nq).drewN m from fun nq => (least_zero (W.drewN nq)).mono fun e w' ⟨h1, h2⟩ => ⟨h1, 0, h2⟩)
  have FO := Lib.hid (show ∀ nq, Calls Tryz.prog 119 #[.int .i64 n] (W.drewN nq) fun e w' => e = .returned (.int .i64 (n * 4 / 128 : Nat)) ∧ ∃ m, w' = (W.drewN nq).drewN m from fun nq => (fours_any n hn (W.drewN nq)).mono fun e w' ⟨h1, h2⟩ => ⟨h1, 0, h2⟩)
  obtain ⟨q, hq⟩ : ∃ q, q = n * 4 / 128 := ⟨_, rfl⟩
  rw [← hq] at FO
  have c0 : W.cell? ⟨w.heap.size, 0, none⟩ = some (.int .i64 n) := by rw [Joins.cell_of_block hb]; rfl
  have c1 : W.cell? ⟨w.heap.size, 1, none⟩ = some (.int .i64 0) := by rw [Joins.cell_of_block hb]; rfl
  have c2 : W.cell? ⟨w.heap.size, 2, none⟩ = some (.int .i64 1) := by rw [Joins.cell_of_block hb]; rfl
  have c3 : W.cell? ⟨w.heap.size, 3, none⟩ = some (.int .i64 1) := by rw [Joins.cell_of_block hb]; rfl
  have d0 : decide ((0 : Int) < (n : Int)) = true := decide_eq_true (by omega)
  have d1 : ((n : Int) == 0) = false := by simp; omega
  have BW := Lib.hid (show Below w.heap.size w W by rw [hW]; exact Joins.below_alloc1 w _)
  have HW := Lib.hid hW
  clear hW hb hq
  go_enter Tryz.func60, Tryz.ntmps60
  go_wp2_with fail
  rw [← HW.out]
  go_quiet (first | (go_at_call 118; exact Calls.quiet_of (LE.out _)) | (go_at_call 119; exact Calls.quiet_of (FO.out _)))
  go_wp2_with fail
  go_ret
  exact ⟨rfl, BW.out.os, BW.out.tape, BW.out.output, BW.out.size, BW.out.block⟩
end Go.Proofs.YtnadgcgnediakaaGreatDoor
namespace Go.Proofs.YtnadgcgnediakaaGreatDoor
open Go.ChangeShapes Go.WideShapes Go.ChangeAt Go.RowKit Go.Deep

theorem shC_len (l : List Nat) : (shC l).length = l.length * 4 := by
  unfold shC
  induction l with
  | nil => rfl
  | cons x l ih => rw [List.flatMap_cons, List.length_append, ih, List.length_cons]; simp; omega
theorem shC_get : ∀ (l : List Nat) (i : Nat) (h : i < l.length), (shC l)[i * 4]? = some (.int .i64 (l[i] : Nat)) ∧ (shC l)[i * 4 + 1]? = some (.int .i64 0) ∧ (shC l)[i * 4 + 2]? = some (.int .i64 1) ∧ (shC l)[i * 4 + 3]? = some (.int .i64 1)
  | [], i, h => by simp at h
  | x :: l, 0, _ => ⟨rfl, rfl, rfl, rfl⟩
  | x :: l, i + 1, h => by
    have e : ∀ j, (shC (x :: l))[(i + 1) * 4 + j]? = (shC l)[i * 4 + j]? := by
      intro j
      have : shC (x :: l) = [.int .i64 x, .int .i64 0, .int .i64 1, .int .i64 1] ++ shC l := rfl
      rw [this, List.getElem?_append_right (by simp; omega)]
      congr 1
      simp
      omega
    have := shC_get l i (by simpa using h)
    exact ⟨(e 0).trans this.1, (e 1).trans this.2.1, (e 2).trans this.2.2.1, (e 3).trans this.2.2.2⟩
set_option maxHeartbeats 2000000 in
theorem trees_any (B sb sc : Nat) (ls : List Nat) (m N : Nat) (w : World) (h : w.ownsRow B 46 4 (.slice (some ⟨sb, 0, none⟩) m sc) m (shC ls)) (hm : ls.length = m) (hn : ∀ n ∈ ls, 0 < n ∧ n < 128) (h0 : ∃ r, ls = N :: r) :
    Calls Tryz.prog 27 #[.slice (some ⟨sb, 0, none⟩) m sc, .int .i64 N] w fun e w' => e = .returned (.bool true) ∧ Below w.heap.size w w' := by
  obtain ⟨r0, hr0⟩ := h0
  have hm0 : 0 < m := by rw [← hm, hr0]; simp
  have sbl : sb < w.heap.size := (h.lt sb rfl).2
  have CE := Lib.hid (fun j u (hu : (shC ls)[j]? = some u) => owns_cell h j u hu)
  have G := Lib.hid (shC_get ls)
  have HN := Lib.hid hn
  have Z := Lib.hid (show (shC ls)[0]? = some (.int .i64 N) by rw [hr0]; rfl)
  have HM := Lib.hid hm
  have ML := Lib.hid (show m ≤ 9223372036854775807 from by
    have := h.1
    rcases h.2 with ⟨_, h⟩ | ⟨g, cap, cur, e, _, _, h1, h2, _⟩
    · omega
    · unfold maxLen at h2; omega)
  clear h hn hr0 hm
  have dm : decide ((0 : Int) < (m : Int)) = true := decide_eq_true (by omega)
  have mlt := ML.out
  go_enter Tryz.func27, Tryz.ntmps27
  go_wp2_with fail
  go_loopg [5] m (fun gg s5 wr => ∃ i : Nat, i + gg = m ∧ s5 = .int .i64 i ∧ Aside (Below w.heap.size w wr))
  case atStart => exact ⟨0, by omega, rfl, (Below.refl _ _ : Below w.heap.size w w)⟩
  case round =>
    obtain ⟨i, hi, rfl, hb⟩ := hrel
    have BB := Lib.hid hb.out
    by_cases him : i < m
    · have hiz : decide ((i : Int) < (m : Int)) = true := decide_eq_true (by omega)
      obtain ⟨g0, g1, g2, g3⟩ := G.out i (by rw [HM.out]; exact him)
      obtain ⟨n, hne⟩ : ∃ n, n = ls[i]'(by rw [HM.out]; exact him) := ⟨_, rfl⟩
      have hnn := HN.out n (by rw [hne]; exact List.getElem_mem _)
      rw [← hne] at g0
      have rd : ∀ j u, (shC ls)[j]? = some u → wr.cell? ⟨sb, j, none⟩ = some u := fun j u hu => by rw [World.cell?_of_block (w := w) (BB.out.block _ sbl)]; exact CE.out j u hu
      have c0 := rd _ _ g0
      have c1 := rd _ _ g1
      have c2 := rd _ _ g2
      have c3 := rd _ _ g3
      have MA := Lib.hid (may_one n hnn.1 hnn.2 wr)
      have d1 : decide ((n : Int) < 1) = false := decide_eq_false (by omega)
      clear rd g0 g1 g2 g3 hne hb
      go_wp2_with fail
      refine MA.out.mono ?_
      rintro e w3 ⟨rfl, b3⟩
      have B3 := Lib.hid (BB.out.trans (b3.mono BB.out.size))
      have c0 : w3.cell? ⟨sb, i * 4, none⟩ = some (.int .i64 n) := by rw [World.cell?_of_block (w := wr) (b3.block _ (Nat.lt_of_lt_of_le sbl BB.out.size))]; exact c0
      clear b3 MA
      go_wp2_with fail
      go_roundg (gk - 1)
      case measure => omega
      case rel => exact ⟨i + 1, by omega, by go_num, B3.out⟩
    · have hiz : decide ((i : Int) < (m : Int)) = false := decide_eq_false (by omega)
      have c0 : wr.cell? ⟨sb, 0, none⟩ = some (.int .i64 N) := by rw [World.cell?_of_block (w := w) (BB.out.block _ sbl)]; exact CE.out 0 _ Z.out
      clear hb
      go_wp2_with fail
      go_ret
      exact ⟨rfl, BB.out⟩
end Go.Proofs.YtnadgcgnediakaaGreatDoor
namespace Go.Proofs.YtnadgcgnediakaaGreatDoor
open Go.ChangeShapes Go.WideShapes Go.ChangeAt Go.RowKit Go.Deep

set_option maxHeartbeats 2000000 in
theorem same_any (a b ca cb n : Nat) (x : Nat → Nat) (w : World) (hn : n < 1000) (ha : ∀ j, j < n → w.cell? ⟨a, j, none⟩ = some (.int .i64 (x j))) (hb : ∀ j, j < n → w.cell? ⟨b, j, none⟩ = some (.int .i64 (x j))) :
    Calls Tryz.prog 22 #[.slice (some ⟨a, 0, none⟩) n ca, .slice (some ⟨b, 0, none⟩) n cb] w fun e w' => e = .returned (.bool true) ∧ ∃ k, w' = w.drewN k := by
  have HA := Lib.hid ha
  have HB := Lib.hid hb
  clear ha hb
  go_enter Tryz.func22, Tryz.ntmps22
  go_wp2_with fail
  go_loopg [5] n (fun gg s5 wr => ∃ j k : Nat, j + gg = n ∧ s5 = .int .i64 j ∧ wr = w.drewN k)
  case atStart => exact ⟨0, 0, by omega, rfl, rfl⟩
  case round =>
    obtain ⟨j, k, hj, rfl, hw⟩ := hrel
    by_cases hjn : j < n
    · have hjz : decide ((j : Int) < (n : Int)) = true := decide_eq_true (by omega)
      have c0 : wr.cell? ⟨a, j, none⟩ = some (.int .i64 (x j)) := by rw [hw]; exact HA.out j hjn
      have c1 : wr.cell? ⟨b, j, none⟩ = some (.int .i64 (x j)) := by rw [hw]; exact HB.out j hjn
      have HW := Lib.hid hw
      clear hw
      go_wp2_with fail
      go_quiet (fail)
      go_wp2_with fail
      go_roundg (gk - 1)
      case measure => omega
      case rel => exact ⟨j + 1, k + nq, by omega, by go_num, by rw [HW.out, World.drewN_drewN]⟩
    · have hjz : decide ((j : Int) < (n : Int)) = false := decide_eq_false (by omega)
      have HW := Lib.hid hw
      clear hw
      go_wp2_with fail
      go_ret
      exact ⟨rfl, k, HW.out⟩
end Go.Proofs.YtnadgcgnediakaaGreatDoor
namespace Go.Proofs.YtnadgcgnediakaaGreatDoor
open Go.ChangeShapes Go.WideShapes Go.ChangeAt Go.RowKit Go.Deep

/-- a string's letters as symbols -/
def symS (t : ByteArray) (p : Nat) : Nat := if h : p < t.size then (t[p]'h).toNat + 1 else 0
theorem idxS (t : ByteArray) (p : Nat) (h : p < t.size) (w : World) : (Instr.index 9 (.string t) (.int .i64 p)).run Tryz.prog w = .ok (.int .u8 ((symS t p - 1 : Nat) : Int)) w := by
  rw [run_index_string (P := Tryz.prog) w 9 t .i64 p Tryz.underlying9, dif_pos (⟨by omega, by omega⟩ : (0 : Int) ≤ p ∧ (p : Int) < t.size)]
  have e : symS t p - 1 = (t[p]'h).toNat := by unfold symS; rw [dif_pos h]; rfl
  rw [e]
  rfl
theorem less_end {R : Bool} {n f a b : Nat} {s : Nat → Nat} (h : R = Wd.lessR n s f a b) (hab : ¬ (a < n ∧ b < n)) : R = decide (b < a) := by
  rw [h]
  cases f with
  | zero => rfl
  | succ f => rw [Wd.lessR, if_neg hab]
set_option maxHeartbeats 2000000 in
theorem less_any (t : ByteArray) (n : Nat) (hn : t.size = n) (hn2 : n < 1000) (a b : Nat) (ha : a ≤ n) (hb : b ≤ n) (w : World) :
    Calls Tryz.prog 58 #[.string t, .int .i64 a, .int .i64 b] w fun e w' => e = .returned (.bool (Wd.lessR n (symS t) n a b)) ∧ ∃ k, w' = w.drewN k := by
  subst hn
  obtain ⟨s, hs⟩ : ∃ s, s = symS t := ⟨_, rfl⟩
  have IX := Lib.hid (idxS t)
  have S1 := Lib.hid (show ∀ p, p < t.size → 0 < s p ∧ s p ≤ 256 from fun p hp => by
    rw [hs]; unfold symS; rw [dif_pos hp]
    have := (t[p]'hp).toNat_lt
    omega)
  rw [← hs] at IX ⊢
  obtain ⟨R, hR⟩ : ∃ R, R = Wd.lessR t.size s t.size a b := ⟨_, rfl⟩
  rw [← hR]
  have HR := Lib.hid hR
  clear hs hR
  go_enter Tryz.func58, Tryz.ntmps58
  go_wp2_with fail
  go_loopg [1, 2] t.size (fun gg s1 s2 wr => ∃ a' b' k : Nat, s1 = .int .i64 a' ∧ s2 = .int .i64 b' ∧ a' ≤ t.size ∧ b' ≤ t.size ∧ t.size ≤ gg + max a' b' ∧ wr = w.drewN k ∧ Aside (R = Wd.lessR t.size s gg a' b'))
  case atStart => exact ⟨a, b, 0, rfl, rfl, ha, hb, by omega, rfl, HR.out⟩
  case round =>
    obtain ⟨a', b', k, rfl, rfl, ha', hb', hm, hw, hr⟩ := hrel
    have HRR := Lib.hid hr.out
    have HW := Lib.hid hw
    clear hr hw
    by_cases h1 : a' < t.size
    · have d1 : decide ((a' : Int) < (t.size : Int)) = true := decide_eq_true (by omega)
      by_cases h2 : b' < t.size
      · have d2 : decide ((b' : Int) < (t.size : Int)) = true := decide_eq_true (by omega)
        have ia := IX.out a' h1
        have ib := IX.out b' h2
        have pa := S1.out a' h1
        have pb := S1.out b' h2
        obtain ⟨f, hf⟩ : ∃ f, gk = f + 1 := ⟨gk - 1, by omega⟩
        have HQ := Lib.hid (show R = if s a' ≠ s b' then decide (s a' < s b') else Wd.lessR t.size s f (a' + 1) (b' + 1) by
          have := HRR.out
          rw [hf, Wd.lessR, if_pos ⟨h1, h2⟩] at this
          exact this)
        by_cases he : s a' = s b'
        · rw [he] at ia
          go_wp2_with fail
          go_quiet (fail)
          go_wp2_with fail
          go_roundg f
          case measure => omega
          case rel => exact ⟨a' + 1, b' + 1, k + nq, by go_num, by go_num, by omega, by omega, by omega, by rw [HW.out, World.drewN_drewN], (by have := HQ.out; rw [if_neg (by simpa using he)] at this; exact this)⟩
        · have dn : (((s a' - 1 : Nat) : Int) != ((s b' - 1 : Nat) : Int)) = true := by simp; omega
          have dn2 : (s a' - 1 = s b' - 1) = False := by simp; omega
          go_wp2_with fail
          go_quiet (fail)
          go_wp2_with fail
          go_quiet (fail)
          go_wp2_with fail
          go_ret
          refine ⟨?_, _, by rw [HW.out, World.drewN_drewN, World.drewN_drewN]⟩
          have := HQ.out
          rw [if_pos he] at this
          rw [this]
          congr 2
          simp
          omega
      · have d2 : decide ((b' : Int) < (t.size : Int)) = false := decide_eq_false (by omega)
        have HQ := Lib.hid (less_end HRR.out (by omega))
        go_wp2_with fail
        go_ret
        exact ⟨by rw [HQ.out]; simp, k, HW.out⟩
    · have d1 : decide ((a' : Int) < (t.size : Int)) = false := decide_eq_false (by omega)
      have HQ := Lib.hid (less_end HRR.out (by omega))
      go_wp2_with fail
      go_ret
      exact ⟨by rw [HQ.out]; simp, k, HW.out⟩
end Go.Proofs.YtnadgcgnediakaaGreatDoor
namespace Go.Proofs.YtnadgcgnediakaaGreatDoor
open Go.ChangeShapes Go.WideShapes Go.ChangeAt Go.RowKit Go.Deep

/-- what belongs to a live text -/
def gl (x : Nat) : Prop := x = 1 ∨ x = 4 ∨ x = 7 ∨ x = 8 ∨ x = 9 ∨ 10 ≤ x
theorem gv_gl {x : Nat} (h : gv x) : gl x := by unfold gv at h; unfold gl; omega
structure IsLive (w : World) (o : Nat → Nat) (A : At) (lb pb rate N : Nat) (ix : Nat → Nat) (S : Nat → Bool) (L : List Nat) (C : Nat → Nat) (all : Nat) : Prop where
  l : ∃ mv : Int, w.heap[lb]? = some (.cells #[.pointer (some ⟨A.wk, 0, none⟩), .pointer (some ⟨pb, 0, none⟩), .int .i64 rate, .int .i64 mv] 76 (0, 0))
  ol : o lb = 8
  wk : IsWalk w o A L C all
  pm : IsPerm w o pb N ix S
  tab : Tab w
  o0 : o 0 = 0
section
variable {w w' : World} {o o' : Nat → Nat} {A : At} {lb pb rate N N' : Nat} {ix ix' : Nat → Nat} {S S' : Nat → Bool} {L L' : List Nat} {C C' : Nat → Nat} {all all' : Nat}
theorem IsLive.c0 (h : IsLive w o A lb pb rate N ix S L C all) : w.cell? ⟨lb, 0, none⟩ = some (.pointer (some ⟨A.wk, 0, none⟩)) := by obtain ⟨m, h⟩ := h.l; rw [Joins.cell_of_block h]; rfl
theorem IsLive.c1 (h : IsLive w o A lb pb rate N ix S L C all) : w.cell? ⟨lb, 1, none⟩ = some (.pointer (some ⟨pb, 0, none⟩)) := by obtain ⟨m, h⟩ := h.l; rw [Joins.cell_of_block h]; rfl
theorem IsLive.c2 (h : IsLive w o A lb pb rate N ix S L C all) : w.cell? ⟨lb, 2, none⟩ = some (.int .i64 rate) := by obtain ⟨m, h⟩ := h.l; rw [Joins.cell_of_block h]; rfl
theorem IsLive.lt (h : IsLive w o A lb pb rate N ix S L C all) : lb < w.heap.size := by obtain ⟨m, h⟩ := h.l; exact lt_of_block h
theorem IsLive.n5 (h : IsLive w o A lb pb rate N ix S L C all) : No5 o := h.wk.n5
theorem IsLive.keep (h : IsLive w o A lb pb rate N ix S L C all) {d : Nat → Prop} (u : Upd o d w w' o') (n5 : No5 o') (hd : ∀ x, x ≤ 4 ∨ 7 ≤ x → ¬ d x) : IsLive w' o' A lb pb rate N ix S L C all := by
  obtain ⟨m, hl⟩ := h.l
  have k := u.heap hl (by rw [h.ol]; exact hd 8 (by omega))
  exact ⟨⟨m, k.1⟩, k.2.trans h.ol, h.wk.keep u n5 (fun x h1 _ => hd x (by omega)) (fun x hx => hd x (by omega)), h.pm.keep u (hd 9 (by omega)) (hd 7 (by omega)), h.tab.upd u (by rw [h.o0]; exact hd 0 (by omega)), (u.own 0 h.tab.lt).trans h.o0⟩
/-- behind a call on the walk -/
theorem IsLive.walked (h : IsLive w o A lb pb rate N ix S L C all) {d : Nat → Prop} (u : Upd o d w w' o') (hd : ∀ x, x = 0 ∨ (7 ≤ x ∧ x < 10) → ¬ d x) (wk : IsWalk w' o' A L' C' all') : IsLive w' o' A lb pb rate N ix S L' C' all' := by
  obtain ⟨m, hl⟩ := h.l
  have k := u.heap hl (by rw [h.ol]; exact hd 8 (by omega))
  exact ⟨⟨m, k.1⟩, k.2.trans h.ol, wk, h.pm.keep u (hd 9 (by omega)) (hd 7 (by omega)), h.tab.upd u (by rw [h.o0]; exact hd 0 (by omega)), (u.own 0 h.tab.lt).trans h.o0⟩
/-- behind a call on the samples -/
theorem IsLive.permed (h : IsLive w o A lb pb rate N ix S L C all) {d : Nat → Prop} (u : Upd o d w w' o') (n5 : No5 o') (hd : ∀ x, x ≤ 4 ∨ x = 8 ∨ 10 ≤ x → ¬ d x) (pm : IsPerm w' o' pb N' ix' S') : IsLive w' o' A lb pb rate N' ix' S' L C all := by
  obtain ⟨m, hl⟩ := h.l
  have k := u.heap hl (by rw [h.ol]; exact hd 8 (by omega))
  exact ⟨⟨m, k.1⟩, k.2.trans h.ol, h.wk.keep u n5 (fun x h1 _ => hd x (by omega)) (fun x hx => hd x (by omega)), pm, h.tab.upd u (by rw [h.o0]; exact hd 0 (by omega)), (u.own 0 h.tab.lt).trans h.o0⟩
/-- its moves are counted -/
theorem IsLive.move (h : IsLive w o A lb pb rate N ix S L C all) (v : Int) : IsLive (w.setCell ⟨lb, 3, none⟩ (.int .i64 v)) o A lb pb rate N ix S L C all := by
  obtain ⟨m, hl⟩ := h.l
  have u : Upd o (· = 8) w (w.setCell ⟨lb, 3, none⟩ (.int .i64 v)) o := (Upd.refl o _ w).set _ (.inr h.ol)
  exact ⟨⟨v, Joins.block_setCell hl _⟩, h.ol, h.wk.keep u h.n5 (by omega) (by omega), h.pm.keep u (by omega) (by omega), h.tab.upd u (by rw [h.o0]; omega), h.o0⟩
end
/-- behind calls that leave the text as it is -/
def RdL (o : Nat → Nat) (w : World) (A : At) (lb pb rate N : Nat) (ix : Nat → Nat) (S : Nat → Bool) (L : List Nat) (C : Nat → Nat) (all : Nat) (wz : World) : Prop := ∃ o', Upd o gl w wz o' ∧ IsLive wz o' A lb pb rate N ix S L C all
section
variable {o : Nat → Nat} {w wz : World} {A : At} {lb pb rate N : Nat} {ix : Nat → Nat} {S : Nat → Bool} {L : List Nat} {C : Nat → Nat} {all : Nat}
theorem RdL.refl (h : IsLive w o A lb pb rate N ix S L C all) : RdL o w A lb pb rate N ix S L C all w := ⟨o, Upd.refl _ _ _, h⟩
theorem RdL.c0 (h : RdL o w A lb pb rate N ix S L C all wz) : wz.cell? ⟨lb, 0, none⟩ = some (.pointer (some ⟨A.wk, 0, none⟩)) := h.choose_spec.2.c0
theorem RdL.c1 (h : RdL o w A lb pb rate N ix S L C all wz) : wz.cell? ⟨lb, 1, none⟩ = some (.pointer (some ⟨pb, 0, none⟩)) := h.choose_spec.2.c1
theorem RdL.c2 (h : RdL o w A lb pb rate N ix S L C all wz) : wz.cell? ⟨lb, 2, none⟩ = some (.int .i64 rate) := h.choose_spec.2.c2
/-- more that nobody owns -/
theorem RdL.below (h : RdL o w A lb pb rate N ix S L C all wz) {wx : World} (hb : Below wz.heap.size wz wx) : RdL o w A lb pb rate N ix S L C all wx := by
  obtain ⟨o', u, k⟩ := h
  have u2 : Upd o' (fun _ => False) wz wx o' := (Upd.refl o' _ wz).belowN hb
  exact ⟨o', u.trans u2 (fun _ h => h.elim), k.keep u2 k.n5 (by simp)⟩
theorem RdL.drew (h : RdL o w A lb pb rate N ix S L C all wz) : RdL o w A lb pb rate N ix S L C all wz.drew := h.below ((Below.refl _ _).drew)
theorem RdL.drewN (h : RdL o w A lb pb rate N ix S L C all wz) (n : Nat) : RdL o w A lb pb rate N ix S L C all (wz.drewN n) := by
  obtain ⟨o', u, k⟩ := h
  exact ⟨o', u.drewN n, k.keep (d := fun _ => False) ((Upd.refl o' _ wz).drewN n) k.n5 (by simp)⟩
theorem RdL.alloc (h : RdL o w A lb pb rate N ix S L C all wz) (x : Obj) : RdL o w A lb pb rate N ix S L C all (wz.alloc x) := h.below (Joins.below_alloc1 wz x)
theorem llen_any (h : RdL o w A lb pb rate N ix S L C all wz) (hL : L.length = N + 1) (hN : N < 1000) : Calls Tryz.prog 15 #[.pointer (some ⟨lb, 0, none⟩)] wz fun e w' => e = .returned (.int .i64 N) ∧ wz = w' := by
  obtain ⟨o', u, k⟩ := h
  have c0 := k.c0
  have KL := Lib.hid (klen_any o' A L C all wz k.wk)
  have E := Lib.hid (show ((L.length : Nat) : Int) - 1 = N by omega)
  have hl : L.length < 2000 := by omega
  clear k u hL
  go_enter Tryz.func15, Tryz.ntmps15
  go_wp2_with fail
  refine KL.out.mono ?_
  rintro e w' ⟨rfl, rfl⟩
  go_wp2_with fail
  go_ret
  exact ⟨ret_int E.out, rfl⟩
theorem lback_w (h : RdL o w A lb pb rate N ix S L C all wz) (row : Nat) (hr : row < L.length) (hL : L.length < 1000) (hC : ∀ i, C i < 1000) : Calls Tryz.prog 98 #[.pointer (some ⟨A.wk, 0, none⟩), .int .i64 row] wz fun e w' => e = .returned (.int .i64 (backN L C row)) ∧ RdL o w A lb pb rate N ix S L C all w' := by
  obtain ⟨o', u, k⟩ := h
  refine (kback_any o' A L C all row wz k.wk hr hL hC).mono ?_
  rintro e w' ⟨rfl, o2, u2, k2⟩
  exact ⟨rfl, o2, u.trans u2 (fun _ h => gv_gl h), k.walked u2 (fun x hx => by unfold gv; omega) k2⟩
theorem lto_any (h : RdL o w A lb pb rate N ix S L C all wz) (row : Nat) (hr : row < L.length) (hL : L.length < 1000) (hC : ∀ i, C i < 1000) : Calls Tryz.prog 89 #[.pointer (some ⟨lb, 0, none⟩), .int .i64 row] wz fun e w' => e = .returned (.int .i64 (backN L C row)) ∧ RdL o w A lb pb rate N ix S L C all w' := by
  have c0 := h.c0
  have LB := Lib.hid (lback_w h row hr hL hC)
  clear h hC
  go_enter Tryz.func89, Tryz.ntmps89
  go_wp2_with fail
  refine LB.out.mono ?_
  rintro e w' ⟨rfl, r⟩
  have R := Lib.hid r
  clear r
  go_wp2_with fail
  go_ret
  exact ⟨rfl, R.out⟩
theorem lahead_zero (row : Nat) : Calls Tryz.prog 78 #[.pointer (some ⟨lb, 0, none⟩), .int .i64 0, .int .i64 row] wz fun e w' => e = .returned (.int .i64 (-1)) ∧ wz = w' := by
  go_enter Tryz.func78, Tryz.ntmps78
  go_wp2_with fail
  go_ret
  exact ⟨rfl, rfl⟩
theorem lahead_any (h : RdL o w A lb pb rate N ix S L C all wz) (at_ row : Nat) (ha : 0 < at_) (hr : row < L.length) (hL : L.length < 1000) (hC : ∀ i, C i < 1000) : Calls Tryz.prog 78 #[.pointer (some ⟨lb, 0, none⟩), .int .i64 at_, .int .i64 row] wz fun e w' => e = .returned (.int .i64 (backN L C row)) ∧ RdL o w A lb pb rate N ix S L C all w' := by
  have c0 := h.c0
  have LB := Lib.hid (lback_w h row hr hL hC)
  have e0 : ((at_ : Int) == 0) = false := by simp; omega
  clear h hC
  go_enter Tryz.func78, Tryz.ntmps78
  go_wp2_with fail
  refine LB.out.mono ?_
  rintro e w' ⟨rfl, r⟩
  have R := Lib.hid r
  clear r
  go_wp2_with fail
  go_ret
  exact ⟨rfl, R.out⟩
theorem lasks_any (h : RdL o w A lb pb rate N ix S L C all wz) (at_ last : Nat) (ha : at_ ≤ last) : Calls Tryz.prog 77 #[.pointer (some ⟨lb, 0, none⟩), .int .i64 at_, .int .i64 last] wz fun e w' => e = .returned (.int .i64 0) ∧ RdL o w A lb pb rate N ix S L C all w' := by
  obtain ⟨o', u, k⟩ := h
  obtain ⟨m, hl⟩ := k.l
  have c3 : wz.cell? ⟨lb, 3, none⟩ = some (.int .i64 m) := by rw [Joins.cell_of_block hl]; rfl
  have f3 := Joins.unfrozen_of_block hl 3
  have R := Lib.hid (show RdL o w A lb pb rate N ix S L C all (wz.setCell ⟨lb, 3, none⟩ (.int .i64 0)) from ⟨o', u.trans ((Upd.refl o' (· = 8) wz).set _ (.inr k.ol)) (fun x h => by unfold gl; omega), k.move 0⟩)
  clear k u hl
  have da : decide ((last : Int) < at_) = false := decide_eq_false (by omega)
  have da2 : decide (last < at_) = false := decide_eq_false (by omega)
  go_enter Tryz.func77, Tryz.ntmps77
  go_wp2_with fail
  go_ret
  exact ⟨rfl, R.out⟩
end
end Go.Proofs.YtnadgcgnediakaaGreatDoor
namespace Go.Proofs.YtnadgcgnediakaaGreatDoor
open Go.ChangeShapes Go.WideShapes Go.ChangeAt Go.RowKit Go.Deep

/-- the sampled pairs, sorted by their rows -/
def IsPairs (ix : Nat → Nat) (N : Nat) (S : Nat → Bool) (Q : List (Nat × Nat)) : Prop := Q.Pairwise (fun a b => a.1 < b.1) ∧ ∀ x, x ∈ Q ↔ x.2 ≤ N ∧ S x.2 = true ∧ x.1 = ix x.2
theorem Smp.isPairs {ix : Nat → Nat} {N : Nat} {S : Nat → Bool} {rf pf : Nat → Nat} {n : Nat} {ord : List Nat} (h : Smp ix N S rf pf n ord) : IsPairs ix N S (pairs ord rf pf) := by
  unfold pairs
  refine ⟨List.pairwise_map.2 h.s, fun x => ?_⟩
  rw [List.mem_map]
  constructor
  · rintro ⟨k, hk, rfl⟩
    exact ⟨(h.r k hk).1, (h.m _ (h.r k hk).1).2 ⟨k, hk, rfl⟩, (h.r k hk).2⟩
  · rintro ⟨h1, h2, h3⟩
    obtain ⟨k, hk, e⟩ := (h.m _ h1).1 h2
    exact ⟨k, hk, by rw [(h.r k hk).2, e, ← h3]⟩
theorem sorted_unique : ∀ {A B : List (Nat × Nat)}, A.Pairwise (fun a b => a.1 < b.1) → B.Pairwise (fun a b => a.1 < b.1) → (∀ x, x ∈ A ↔ x ∈ B) → A = B
  | [], [], _, _, _ => rfl
  | [], b :: B, _, _, h => by simpa using (h b)
  | a :: A, [], _, _, h => by simpa using (h a)
  | a :: A, b :: B, hA, hB, h => by
    rw [List.pairwise_cons] at hA hB
    have e : a = b := by
      rcases List.mem_cons.1 ((h a).1 List.mem_cons_self) with e | m
      · exact e
      · rcases List.mem_cons.1 ((h b).2 List.mem_cons_self) with e | m2
        · exact e.symm
        · have := hB.1 _ m
          have := hA.1 _ m2
          omega
    subst e
    rw [sorted_unique hA.2 hB.2 (fun x => ?_)]
    constructor
    · intro hx
      rcases List.mem_cons.1 ((h x).1 (List.mem_cons_of_mem _ hx)) with e | m
      · have := hA.1 _ hx
        rw [e] at this
        omega
      · exact m
    · intro hx
      rcases List.mem_cons.1 ((h x).2 (List.mem_cons_of_mem _ hx)) with e | m
      · have := hB.1 _ hx
        rw [e] at this
        omega
      · exact m
theorem IsPairs.uniq {ix : Nat → Nat} {N : Nat} {S : Nat → Bool} {Q R : List (Nat × Nat)} (h : IsPairs ix N S Q) (k : IsPairs ix N S R) : Q = R :=
  sorted_unique h.1 k.1 fun x => (h.2 x).trans (k.2 x).symm
section
variable {o : Nat → Nat} {w wz : World} {A : At} {lb pb rate N : Nat} {ix : Nat → Nat} {S : Nat → Bool} {L : List Nat} {C : Nat → Nat} {all : Nat}
theorem lrate_any (h : RdL o w A lb pb rate N ix S L C all wz) : Calls Tryz.prog 53 #[.pointer (some ⟨lb, 0, none⟩)] wz fun e w' => e = .returned (.int .i64 rate) ∧ wz = w' := by
  have c2 := h.c2
  clear h
  go_enter Tryz.func53, Tryz.ntmps53
  go_wp2_with fail
  go_ret
  exact ⟨rfl, rfl⟩
theorem lpairs_any (h : RdL o w A lb pb rate N ix S L C all wz) : Calls Tryz.prog 30 #[.pointer (some ⟨lb, 0, none⟩)] wz fun e w' =>
    ∃ v Q, e = .returned v ∧ IsPairs ix N S Q ∧ Q.length ≤ 130 ∧ Below wz.heap.size wz w' ∧ w'.ownsRow wz.heap.size 44 2 v Q.length (pcells Q) := by
  have c1 := h.c1
  obtain ⟨o2, u2, k2⟩ := h
  obtain ⟨ap, lv, ov, rf, pf, n, ord, h1, h2⟩ := k2.pm
  have PA := Lib.hid (pall_any o2 pb ap lv ov rf pf n ord _ _ wz h1 (by have := h2.n; omega))
  have PP := Lib.hid h2.isPairs
  have LN := Lib.hid (show (pairs ord rf pf).length ≤ 130 by unfold pairs; rw [List.length_map]; have := h1.ln; have := h2.n; omega)
  have LE := Lib.hid (show ord.length = (pairs ord rf pf).length by unfold pairs; rw [List.length_map])
  clear u2 k2 h1 h2
  go_enter Tryz.func30, Tryz.ntmps30
  go_wp2_with fail
  refine PA.out.mono ?_
  rintro e w' ⟨v, rfl, u, ow⟩
  have U := Lib.hid u
  have OW := Lib.hid ow
  clear u ow
  go_wp2_with fail
  go_ret
  exact ⟨v, _, rfl, PP.out, LN.out, ⟨U.out.os, U.out.tape, U.out.output, U.out.size, fun b hb => U.out.same b hb (by unfold nothing; exact id)⟩, by rw [← LE.out]; exact OW.out⟩
theorem lshapes_any (h : RdL o w A lb pb rate N ix S L C all wz) (hL : L.length < 1000) : Calls Tryz.prog 31 #[.pointer (some ⟨lb, 0, none⟩)] wz fun e w' =>
    ∃ v, e = .returned v ∧ Below wz.heap.size wz w' ∧ w'.ownsRow wz.heap.size 46 4 v (shAll L 9).length (shC (shAll L 9)) := by
  have c0 := h.c0
  obtain ⟨o2, u2, k2⟩ := h
  have k0 := k2.wk.c0
  obtain ⟨vis, wv⟩ := k2.wk.wave
  have WS := Lib.hid (wshapes_any o2 A.wb A.S A.sc A.tb L vis wz wv hL)
  clear u2 k2 wv
  go_enter Tryz.func31, Tryz.ntmps31
  go_wp2_with fail
  refine WS.out.mono ?_
  rintro e w' ⟨v, rfl, u, ow⟩
  have U := Lib.hid u
  have OW := Lib.hid ow
  clear u ow
  go_wp2_with fail
  go_ret
  exact ⟨v, rfl, U.out, OW.out⟩
theorem llast_any (h : RdL o w A lb pb rate N ix S L C all wz) (hL : L.length < 1000) (h0 : 0 < L.length) : Calls Tryz.prog 52 #[.pointer (some ⟨lb, 0, none⟩)] wz fun e w' =>
    ∃ g, e = .returned (.slice (some ⟨g, 0, none⟩) L.length L.length) ∧ RdL o w A lb pb rate N ix S L C all w' ∧ wz.heap.size ≤ g ∧ w'.heap[g]? = some (.cells (intsV L).toArray 3 (0, 0)) := by
  have c0 := h.c0
  obtain ⟨o2, u2, k2⟩ := h
  have KA := Lib.hid (kall_any o2 A L C all wz k2.wk hL h0)
  have U2 := Lib.hid u2
  have K2 := Lib.hid k2
  clear u2 k2
  go_enter Tryz.func52, Tryz.ntmps52
  go_wp2_with fail
  refine KA.out.mono ?_
  rintro e w' ⟨g, o3, rfl, u, k, hg, hb⟩
  have U := Lib.hid u
  have K := Lib.hid k
  have HB := Lib.hid hb
  clear u k hb
  go_wp2_with fail
  go_ret
  exact ⟨g, rfl, ⟨o3, U2.out.trans U.out (fun _ h => gv_gl h), K2.out.walked U.out (fun x hx => by unfold gv; omega) K.out⟩, hg, HB.out⟩
end
end Go.Proofs.YtnadgcgnediakaaGreatDoor
namespace Go.Proofs.YtnadgcgnediakaaGreatDoor
open Go.ChangeShapes Go.WideShapes Go.ChangeAt Go.RowKit Go.Deep

/-- the store's own block -/
def stC (lb most : Nat) : Obj := .cells #[.pointer (some ⟨lb, 0, none⟩), .int .i64 most] 54 (0, 0)
theorem stC_0 {wz : World} {sb lb most : Nat} (h : wz.heap[sb]? = some (stC lb most)) : wz.cell? ⟨sb, 0, none⟩ = some (.pointer (some ⟨lb, 0, none⟩)) := by rw [Joins.cell_of_block h]; rfl
theorem stC_1 {wz : World} {sb lb most : Nat} (h : wz.heap[sb]? = some (stC lb most)) : wz.cell? ⟨sb, 1, none⟩ = some (.int .i64 most) := by rw [Joins.cell_of_block h]; rfl
section
variable {o : Nat → Nat} {w wz : World} {A : At} {lb pb rate N sb most : Nat} {ix : Nat → Nat} {S : Nat → Bool} {L : List Nat} {C : Nat → Nat} {all : Nat}
theorem srate_any (h : RdL o w A lb pb rate N ix S L C all wz) (hs : wz.heap[sb]? = some (stC lb most)) : Calls Tryz.prog 26 #[.pointer (some ⟨sb, 0, none⟩)] wz fun e w' => e = .returned (.int .i64 rate) ∧ wz = w' := by
  have c0 := stC_0 hs
  have K := Lib.hid (lrate_any h)
  clear h hs
  go_enter Tryz.func26, Tryz.ntmps26
  go_wp2_with fail
  refine K.out.mono ?_
  rintro e w' ⟨rfl, rfl⟩
  go_wp2_with fail
  go_ret
  exact ⟨rfl, rfl⟩
theorem spairs_any (h : RdL o w A lb pb rate N ix S L C all wz) (hs : wz.heap[sb]? = some (stC lb most)) : Calls Tryz.prog 10 #[.pointer (some ⟨sb, 0, none⟩)] wz fun e w' =>
    ∃ v Q, e = .returned v ∧ IsPairs ix N S Q ∧ Q.length ≤ 130 ∧ Below wz.heap.size wz w' ∧ w'.ownsRow wz.heap.size 44 2 v Q.length (pcells Q) := by
  have c0 := stC_0 hs
  have K := Lib.hid (lpairs_any h)
  clear h hs
  go_enter Tryz.func10, Tryz.ntmps10
  go_wp2_with fail
  refine K.out.mono ?_
  rintro e w' ⟨v, Q, rfl, q⟩
  have QH := Lib.hid q
  clear q
  go_wp2_with fail
  go_ret
  exact ⟨v, Q, rfl, QH.out⟩
theorem sshapes_any (h : RdL o w A lb pb rate N ix S L C all wz) (hs : wz.heap[sb]? = some (stC lb most)) (hL : L.length < 1000) : Calls Tryz.prog 11 #[.pointer (some ⟨sb, 0, none⟩)] wz fun e w' =>
    ∃ v, e = .returned v ∧ Below wz.heap.size wz w' ∧ w'.ownsRow wz.heap.size 46 4 v (shAll L 9).length (shC (shAll L 9)) := by
  have c0 := stC_0 hs
  have K := Lib.hid (lshapes_any h hL)
  clear h hs
  go_enter Tryz.func11, Tryz.ntmps11
  go_wp2_with fail
  refine K.out.mono ?_
  rintro e w' ⟨v, rfl, q⟩
  have QH := Lib.hid q
  clear q
  go_wp2_with fail
  go_ret
  exact ⟨v, rfl, QH.out⟩
theorem slast_any (h : RdL o w A lb pb rate N ix S L C all wz) (hs : wz.heap[sb]? = some (stC lb most)) (hL : L.length < 1000) (h0 : 0 < L.length) : Calls Tryz.prog 23 #[.pointer (some ⟨sb, 0, none⟩)] wz fun e w' =>
    ∃ g, e = .returned (.slice (some ⟨g, 0, none⟩) L.length L.length) ∧ RdL o w A lb pb rate N ix S L C all w' ∧ wz.heap.size ≤ g ∧ w'.heap[g]? = some (.cells (intsV L).toArray 3 (0, 0)) := by
  have c0 := stC_0 hs
  have K := Lib.hid (llast_any h hL h0)
  clear h hs
  go_enter Tryz.func23, Tryz.ntmps23
  go_wp2_with fail
  refine K.out.mono ?_
  rintro e w' ⟨g, rfl, q⟩
  have QH := Lib.hid q
  clear q
  go_wp2_with fail
  go_ret
  exact ⟨g, rfl, QH.out⟩
/-- are there n from a on? -/
def hasQ (N : Nat) (a n : Int) : Bool := decide (0 ≤ a ∧ 0 ≤ n ∧ a ≤ N ∧ n ≤ N - a)
set_option maxHeartbeats 1000000 in
theorem shas_any (h : RdL o w A lb pb rate N ix S L C all wz) (hs : wz.heap[sb]? = some (stC lb most)) (hL : L.length = N + 1) (hN : N < 1000) (a n : Int) : Calls Tryz.prog 38 #[.pointer (some ⟨sb, 0, none⟩), .int .i64 a, .int .i64 n] wz fun e w' => e = .returned (.bool (hasQ N a n)) ∧ wz = w' := by
  have c0 := stC_0 hs
  have K := Lib.hid (llen_any h hL (by omega))
  clear h hs
  by_cases h1 : 0 ≤ a
  · have d1 : decide ((0 : Int) ≤ a) = true := decide_eq_true h1
    by_cases h2 : 0 ≤ n
    · have d2 : decide ((0 : Int) ≤ n) = true := decide_eq_true h2
      by_cases h3 : a ≤ N
      · have d3 : decide (a ≤ (N : Int)) = true := decide_eq_true h3
        have hw : IntKind.i64.wrap ((N : Int) - a) = N - a := by rw [IntKind.wrap_i64]; omega
        have hq : hasQ N a n = decide (n ≤ (N : Int) - a) := by unfold hasQ; simp [h1, h2, h3]
        rw [hq]
        go_enter Tryz.func38, Tryz.ntmps38
        go_wp2_with fail
        refine K.out.mono ?_
        rintro e w' ⟨rfl, rfl⟩
        go_wp2_with fail
        refine K.out.mono ?_
        rintro e w' ⟨rfl, rfl⟩
        go_wp2_with fail
        go_ret
        exact ⟨rfl, rfl⟩
      · have d3 : decide (a ≤ (N : Int)) = false := decide_eq_false h3
        have hq : hasQ N a n = false := by unfold hasQ; simp [h3]
        rw [hq]
        go_enter Tryz.func38, Tryz.ntmps38
        go_wp2_with fail
        refine K.out.mono ?_
        rintro e w' ⟨rfl, rfl⟩
        go_wp2_with fail
        go_ret
        exact ⟨rfl, rfl⟩
    · have d2 : decide ((0 : Int) ≤ n) = false := decide_eq_false h2
      have hq : hasQ N a n = false := by unfold hasQ; simp [h2]
      rw [hq]
      go_enter Tryz.func38, Tryz.ntmps38
      go_wp2_with fail
      go_ret
      exact ⟨rfl, rfl⟩
  · have d1 : decide ((0 : Int) ≤ a) = false := decide_eq_false h1
    have hq : hasQ N a n = false := by unfold hasQ; simp [h1]
    rw [hq]
    go_enter Tryz.func38, Tryz.ntmps38
    go_wp2_with fail
    go_ret
    exact ⟨rfl, rfl⟩
end
end Go.Proofs.YtnadgcgnediakaaGreatDoor
