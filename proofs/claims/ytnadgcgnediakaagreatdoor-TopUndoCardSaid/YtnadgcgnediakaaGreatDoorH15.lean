/- What makes an empty text: what stands in memory while a wave of one symbol is made. The walk of wave.Select. -/
import Derived.Test.YtnadgcgnediakaaGreatDoorH10
import Derived.Test.YtnadgcgnediakaaGreatDoorH11
import Derived.Test.YtnadgcgnediakaaGreatDoorH12
import Derived.Deep.AppendLies
import Derived.Deep.LoopGhost
import Derived.Deep.RegionHeld3
namespace Go.Proofs.YtnadgcgnediakaaGreatDoor
open Go.ChangeShapes Go.WideShapes Go.ChangeAt Go.RowKit Go.Deep

/-- a tree's owners alone matter -/
theorem Owned.reo {w : World} {o o' : Nat → Nat} {c : Nat} {e : TypeId} {size : Nat} {v : Value} {n : Nat} {xs : List Value} (h : Owned w o c e size v n xs) (hr : ∀ b, b < w.heap.size → o b = c → o' b = c) : Owned w o' c e size v n xs :=
  ⟨h.1, fun k hk => hr k (ownBlock_lt h.1 hk) (h.2 k hk)⟩
theorem IsTree.reo {w : World} {o o' : Nat → Nat} {c tb : Nat} {l : List Bool} (h : IsTree w o c tb l) (h0 : ∀ b, b < w.heap.size → o b = c → o' b = c) (h1 : ∀ b, b < w.heap.size → o b = c + 1 → o' b = c + 1) : IsTree w o' c tb l := by
  rcases h with ⟨g1, ab, nb, bb, kb, lc, kc, fv, vis, h⟩ | ⟨g1, ⟨ab, vis, h⟩ | ⟨ab, nb, kb, fb, lc, kc, fc, y, vis, h⟩⟩
  · exact .inl ⟨g1, ab, nb, bb, kb, lc, kc, fv, vis, ⟨h.t, h.a, h.n.reo h0, h.k.reo h1, h.f.reo h1, h.b, h0 _ (lt_of_block h.t) h.ot, h1 _ (lt_of_block h.a) h.oa, h0 _ h.b.lt h.ob⟩⟩
  · exact .inr ⟨g1, .inl ⟨ab, vis, ⟨h.t, h.a, h0 _ (lt_of_block h.t) h.ot, h1 _ (lt_of_block h.a) h.oa⟩⟩⟩
  · exact .inr ⟨g1, .inr ⟨ab, nb, kb, fb, lc, kc, fc, y, vis, ⟨h.t, h.a, h.n.reo h0, h.k.reo h1, h.f.reo h1, h0 _ (lt_of_block h.t) h.ot, h1 _ (lt_of_block h.a) h.oa⟩⟩⟩
/-- a slice of no bit or of one -/
def SlB (w : World) (v : Value) (l : List Bool) : Prop := (l = [] ∧ v = .slice none 0 0) ∨ ∃ g cap b, l = [b] ∧ v = .slice (some ⟨g, 0, none⟩) 1 cap ∧ 1 ≤ cap ∧ w.cell? ⟨g, 0, none⟩ = some (.bool b)
theorem tnew_sl (c : Nat) (hc : 10 ≤ c) (w : World) (v : Value) (l : List Bool) (h : SlB w v l) :
    Calls Tryz.prog 176 #[v] w fun e w' => ∃ tb o1, e = .returned (.pointer (some ⟨tb, 0, none⟩)) ∧ w.heap.size ≤ tb ∧ Below w.heap.size w w' ∧ (∀ b, b < w.heap.size → o1 b = 0) ∧ IsTree w' o1 c tb l := by
  have fin : ∀ (w' : World) (o1 : Nat → Nat), Upd (fun _ => 0) (tr c) w w' o1 → Below w.heap.size w w' := fun w' o1 u => ⟨u.os, u.tape, u.output, u.size, fun b hb => u.same b hb (by unfold tr; omega)⟩
  rcases h with ⟨rfl, rfl⟩ | ⟨g, cap, b, rfl, rfl, hcap, hb⟩
  · refine (tnew_none c (fun _ => 0) w).mono ?_
    rintro e w' ⟨tb, o1, rfl, h1, u, t⟩
    exact ⟨tb, o1, rfl, h1, fin _ _ u, u.own, t⟩
  · refine (tnew_one c (fun _ => 0) g cap b w (by omega) hcap hb).mono ?_
    rintro e w' ⟨tb, o1, rfl, h1, u, t⟩
    exact ⟨tb, o1, rfl, h1, fin _ _ u, u.own, t⟩
/-- owners behind a round: as they were, the new tree's, the shelves' -/
def glue (o o1 : Nat → Nat) (n m : Nat) : Nat → Nat := fun b => if b < n then o b else if b < m then clean o1 b else 2
theorem glue_old {o o1 : Nat → Nat} {n m b : Nat} (h : b < n) : glue o o1 n m b = o b := if_pos h
theorem glue_new {o o1 : Nat → Nat} {n m b : Nat} (h : n ≤ b) (h2 : m ≤ b) : glue o o1 n m b = 2 := by unfold glue; rw [if_neg (by omega), if_neg (by omega)]
theorem glue_mid {o o1 : Nat → Nat} {n m b c : Nat} (h0 : ∀ b, b < n → o1 b = 0) (h : o1 b = c) (hc : 10 ≤ c) (hb : b < m) : glue o o1 n m b = c := by
  unfold glue
  rw [if_neg, if_pos hb]
  · exact clean_ne h (by omega)
  · intro hn
    have := h0 b hn
    omega
theorem glue_no5 {o o1 : Nat → Nat} {n m : Nat} (h : No5 o) : No5 (glue o o1 n m) := by
  intro b
  unfold glue
  split
  · exact h b
  · split
    · exact clean_no5 o1 b
    · omega
/-- the bits of a level of one nought -/
structure BitsRow (w : World) (o : Nat → Nat) (rb M : Nat) : Prop where
  row : ∃ g cap, (∀ p, p < M → w.cell? ⟨rb, p, none⟩ = some (if p = 0 then .slice (some ⟨g, 0, none⟩) 1 cap else .slice none 0 0)) ∧ 1 ≤ cap ∧ w.cell? ⟨g, 0, none⟩ = some (.bool false) ∧ o rb = 0 ∧ o g = 0
theorem bits_zero (lv p : Nat) : bitsOf [0] lv p = if p = 0 then [false] else [] := by
  have h1 : pathN 0 lv = 0 := by unfold pathN; simp
  have h2 : bitN 0 lv = false := by unfold bitN; simp
  unfold bitsOf
  by_cases h : p = 0
  · subst h
    simp [h1, h2]
  · rw [if_neg h]
    have : (0 == p) = false := by simpa using fun e => h e.symm
    simp [h1, this]
section
variable {w w' : World} {o o' : Nat → Nat} {rb M : Nat}
theorem BitsRow.keep (h : BitsRow w o rb M) {d : Nat → Prop} (u : Upd o d w w' o') (h0 : ¬ d 0) (hM : 0 < M) : BitsRow w' o' rb M := by
  obtain ⟨g, cap, h1, h2, h3, h4, h5⟩ := h.row
  have hr := cell_lt (h1 0 hM)
  have hg := cell_lt h3
  have e1 := u.same rb hr (by rw [h4]; exact h0)
  have e2 := u.same g hg (by rw [h5]; exact h0)
  exact ⟨g, cap, fun p hp => by rw [World.cell?_of_block (a := ⟨rb, p, none⟩) e1]; exact h1 p hp, h2, by rw [World.cell?_of_block (a := ⟨g, 0, none⟩) e2]; exact h3, (u.own rb hr).trans h4, (u.own g hg).trans h5⟩
theorem BitsRow.at (h : BitsRow w o rb M) (lv p : Nat) (hp : p < M) : ∃ v, w.cell? ⟨rb, p, none⟩ = some v ∧ SlB w v (bitsOf [0] lv p) := by
  obtain ⟨g, cap, h1, h2, h3, h4, h5⟩ := h.row
  refine ⟨_, h1 p hp, ?_⟩
  rw [bits_zero]
  by_cases e : p = 0
  · rw [if_pos e, if_pos e]
    exact .inr ⟨g, cap, false, rfl, rfl, h2, h3⟩
  · rw [if_neg e, if_neg e]
    exact .inl ⟨rfl, rfl⟩
end
/-- a level's shelves, cell by cell -/
def shCells (lv : Nat) (t : Nat → Nat) (p : Nat) : List Value := (List.range p).flatMap fun q => [.pointer (some ⟨t q, 0, none⟩), .int .i64 lv, .int .i64 q]
theorem shCells_snoc (lv : Nat) (t : Nat → Nat) (p : Nat) : shCells lv t (p + 1) = shCells lv t p ++ [.pointer (some ⟨t p, 0, none⟩), .int .i64 lv, .int .i64 p] := by
  unfold shCells
  rw [List.range_succ, List.flatMap_append]
  rfl
theorem shCells_len (lv : Nat) (t : Nat → Nat) : ∀ p, (shCells lv t p).length = p * 3
  | 0 => rfl
  | p + 1 => by rw [shCells_snoc, List.length_append, shCells_len lv t p]; simp; omega
theorem shCells_congr (lv : Nat) {t t' : Nat → Nat} : ∀ p, (∀ q, q < p → t q = t' q) → shCells lv t p = shCells lv t' p
  | 0, _ => rfl
  | p + 1, h => by rw [shCells_snoc, shCells_snoc, shCells_congr lv p fun q hq => h q (by omega), h p (by omega)]
theorem shCells_get (lv : Nat) (t : Nat → Nat) : ∀ n p, p < n → (shCells lv t n)[p * 3]? = some (.pointer (some ⟨t p, 0, none⟩)) ∧ (shCells lv t n)[p * 3 + 1]? = some (.int .i64 lv) ∧ (shCells lv t n)[p * 3 + 2]? = some (.int .i64 p)
  | 0, p, h => absurd h (Nat.not_lt_zero _)
  | n + 1, p, h => by
    rw [shCells_snoc]
    have hl := shCells_len lv t n
    by_cases e : p = n
    · subst e
      rw [List.getElem?_append_right (by omega), List.getElem?_append_right (by omega), List.getElem?_append_right (by omega), hl, Nat.sub_self, Nat.add_sub_cancel_left, Nat.add_sub_cancel_left]
      exact ⟨rfl, rfl, rfl⟩
    · rw [List.getElem?_append_left (by omega), List.getElem?_append_left (by omega), List.getElem?_append_left (by omega)]
      exact shCells_get lv t n p (by omega)
/-- a wave of one nought that is being made: whole levels, a level's first shelves -/
structure Mk (w0 w : World) (o0 o : Nat → Nat) (wb lv p : Nat) (f : Nat → Value) (S sc : Nat → Nat) (tb : Nat → Nat → Nat) : Prop where
  u : Upd o0 (fun _ => False) w0 w o
  lo : ∀ b, b < w0.heap.size → o0 b = 0
  n5 : No5 o
  new : w0.heap.size ≤ wb
  top : WaveTop w wb f 1 0
  own : o wb = 1
  full : ∀ l, l < lv → f l = shV S sc l
  none : ∀ l, lv < l → f l = .slice none 0 0
  row : ∀ l, l < lv → ∀ q, q < 2 ^ l → w.cell? ⟨S l, q * 3, Option.none⟩ = some (.pointer (some ⟨tb l q, 0, Option.none⟩)) ∧ w.cell? ⟨S l, q * 3 + 1, Option.none⟩ = some (.int .i64 l) ∧ w.cell? ⟨S l, q * 3 + 2, Option.none⟩ = some (.int .i64 q)
  so : ∀ l, l < lv → o (S l) = 2
  tree : ∀ l q, l < 9 → q < 2 ^ l → (l < lv ∨ (l = lv ∧ q < p)) → IsTree w o (code l q) (tb l q) (bitsOf [0] l q)
  cur : Owned w o 2 155 3 (f lv) p (shCells lv (tb lv) p)
  dis : ∀ l, l < lv → (f lv).ownBlock ≠ some (S l)
section
variable {w0 w w' : World} {o0 o o' : Nat → Nat} {wb lv p : Nat} {f : Nat → Value} {S sc : Nat → Nat} {tb : Nat → Nat → Nat}
theorem Mk.S_lt (h : Mk w0 w o0 o wb lv p f S sc tb) {l : Nat} (hl : l < lv) : S l < w.heap.size := cell_lt (h.row l hl 0 (Nat.two_pow_pos _)).1
theorem Mk.keep (h : Mk w0 w o0 o wb lv p f S sc tb) {d : Nat → Prop} (u : Upd o d w w' o') (n5 : No5 o') (h1 : ¬ d 1) (h2 : ¬ d 2) (h10 : ∀ x, 10 ≤ x → ¬ d x) (h0 : ¬ d 0) : Mk w0 w' o0 o' wb lv p f S sc tb := by
  have k := u.heap h.top (by rw [h.own]; exact h1)
  refine ⟨h.u.trans' u fun b hb hx => (h0 (by rw [h.lo b hb] at hx; exact hx)).elim, h.lo, n5, h.new, k.1, k.2.trans h.own, h.full, h.none, fun l hl q hq => ?_, fun l hl => (u.own _ (h.S_lt hl)).trans (h.so l hl), fun l q hl hq hp => (h.tree l q hl hq hp).keep u (h10 _ (code_ge _ _)) (h10 _ (Nat.le_succ_of_le (code_ge _ _))), h.cur.keep u h2, h.dis⟩
  have e : ∀ i, w'.cell? ⟨S l, i, Option.none⟩ = w.cell? ⟨S l, i, Option.none⟩ := fun i => World.cell?_of_block (a := ⟨S l, i, Option.none⟩) (u.same (S l) (h.S_lt hl) (by rw [h.so l hl]; exact h2))
  rw [e, e, e]
  exact h.row l hl q hq
theorem wtop_set {wx : World} {g : Nat → Value} {n : Nat} {vis : Int} (h : WaveTop wx wb g n vis) (i : Nat) (hi : i < 9) (v : Value) : WaveTop (wx.setCell ⟨wb, i, Option.none⟩ v) wb (fun k => if k = i then v else g k) n vis := by
  unfold WaveTop at h ⊢
  refine nine (P := fun i => (wx.setCell ⟨wb, i, Option.none⟩ v).heap[wb]? = some (.cells #[(fun k => if k = i then v else g k) 0, (fun k => if k = i then v else g k) 1, (fun k => if k = i then v else g k) 2, (fun k => if k = i then v else g k) 3, (fun k => if k = i then v else g k) 4, (fun k => if k = i then v else g k) 5, (fun k => if k = i then v else g k) 6, (fun k => if k = i then v else g k) 7, (fun k => if k = i then v else g k) 8, .int .i64 n, .int .i64 vis] 152 (0, 0))) i hi ?_ ?_ ?_ ?_ ?_ ?_ ?_ ?_ ?_ <;> exact Joins.block_setCell h v
/-- one shelf more -/
theorem Mk.step (h : Mk w0 w o0 o wb lv p f S sc tb) (hl : lv < 9) (hp : p < 2 ^ lv) {w2 w4 : World} {t : Nat} {o1 : Nat → Nat} (b2 : Below w.heap.size w w2) (h0 : ∀ b, b < w.heap.size → o1 b = 0) (ht : IsTree w2 o1 (code lv p) t (bitsOf [0] lv p)) {g cap : Nat}
    (hown : w4.ownsRow 0 155 3 (.slice (some ⟨g, 0, Option.none⟩) (p + 1) cap) (p + 1) (shCells lv (tb lv) p ++ [.pointer (some ⟨t, 0, Option.none⟩), .int .i64 lv, .int .i64 p]))
    (hgr : (w2.alloc (.cells #[.pointer (some ⟨t, 0, Option.none⟩), .int .i64 lv, .int .i64 p] 155)).grownBy w4 (f lv).ownBlock) (hat : (f lv).ownBlock = some g ∨ g = w2.heap.size + 1) :
    Mk w0 (w4.setCell ⟨wb, lv, Option.none⟩ (.slice (some ⟨g, 0, Option.none⟩) (p + 1) cap)) o0 (glue o o1 w.heap.size w2.heap.size) wb lv (p + 1) (fun k => if k = lv then .slice (some ⟨g, 0, Option.none⟩) (p + 1) cap else f k) S sc (fun a b => if a = lv ∧ b = p then t else tb a b) ∧
      Upd o (fun x => x = 1 ∨ x = 2) w (w4.setCell ⟨wb, lv, Option.none⟩ (.slice (some ⟨g, 0, Option.none⟩) (p + 1) cap)) (glue o o1 w.heap.size w2.heap.size) := by
  have hwb : wb < w.heap.size := lt_of_block h.top
  have hsz : w.heap.size ≤ w2.heap.size := b2.size
  have u2 : Upd o (fun _ => False) w w2 o := (Upd.refl o _ w).belowN b2
  have u3 : Upd o (fun _ => False) w (w2.alloc (.cells #[.pointer (some ⟨t, 0, Option.none⟩), .int .i64 lv, .int .i64 p] 155)) o := u2.alloc _
  have ck : ∀ k, (f lv).ownBlock = some k → o k = 2 ∧ k < w.heap.size := fun k hk => ⟨h.cur.2 k hk, ownBlock_lt h.cur.1 hk⟩
  have u4 : Upd o (fun x => x = 2) w w4 o := (u3.mono (by simp)).grown hgr (fun k hk => .inr (ck k hk).1)
  have u5 : Upd o (fun x => x = 1 ∨ x = 2) w (w4.setCell ⟨wb, lv, Option.none⟩ (.slice (some ⟨g, 0, Option.none⟩) (p + 1) cap)) o := (u4.mono (by omega)).set _ (.inr (.inl h.own))
  have U : Upd o (fun x => x = 1 ∨ x = 2) w (w4.setCell ⟨wb, lv, Option.none⟩ (.slice (some ⟨g, 0, Option.none⟩) (p + 1) cap)) (glue o o1 w.heap.size w2.heap.size) := u5.reown fun b hb => glue_old hb
  have hg2 : (glue o o1 w.heap.size w2.heap.size) g = 2 := by
    rcases hat with e | e
    · rw [glue_old (ck g e).2]; exact (ck g e).1
    · exact glue_new (by omega) (by omega)
  have hgwb : g ≠ wb := by
    rintro rfl
    rcases hat with e | e
    · have := (ck g e).1
      have := h.own
      omega
    · omega
  have top4 := (u4.heap h.top (by rw [h.own]; omega)).1
  refine ⟨⟨h.u.trans' U fun b hb hx => (by rw [h.lo b hb] at hx; omega), h.lo, glue_no5 h.n5, h.new, wtop_set top4 lv hl _, (glue_old hwb).trans h.own, fun l hll => ?_, fun l hll => ?_, fun l hll q hq => ?_, fun l hll => (glue_old (h.S_lt hll)).trans (h.so l hll), fun l q hl9 hq hlq => ?_, ?_, fun l hll => ?_⟩, U⟩
  · show (if l = lv then _ else f l) = _
    rw [if_neg (by omega)]; exact h.full l hll
  · show (if l = lv then _ else f l) = _
    rw [if_neg (by omega)]; exact h.none l hll
  · have hne : S l ≠ wb := by
      rintro e
      have := h.so l hll
      rw [e, h.own] at this
      omega
    have e1 : (w4.setCell ⟨wb, lv, Option.none⟩ (.slice (some ⟨g, 0, Option.none⟩) (p + 1) cap)).heap[S l]? = w.heap[S l]? := by
      rw [Below.heap_setCell _ _ _ _ (show S l ≠ wb from hne), hgr.block (S l) (by rw [World.size_alloc]; have := h.S_lt hll; omega) (fun e => h.dis l hll e.symm)]
      exact u3.same (S l) (h.S_lt hll) (by simp)
    have e : ∀ i, (w4.setCell ⟨wb, lv, Option.none⟩ (.slice (some ⟨g, 0, Option.none⟩) (p + 1) cap)).cell? ⟨S l, i, Option.none⟩ = w.cell? ⟨S l, i, Option.none⟩ := fun i => World.cell?_of_block (a := ⟨S l, i, Option.none⟩) e1
    rw [e, e, e]
    have hr := h.row l hll q hq
    simp only [show ¬ (l = lv ∧ q = p) from by omega, if_false]
    exact hr
  · by_cases e : l = lv ∧ q = p
    · obtain ⟨rfl, rfl⟩ := e
      simp only [and_self, if_true]
      have h10 := code_ge l q
      have t2 : IsTree w2 (glue o o1 w.heap.size w2.heap.size) (code l q) t (bitsOf [0] l q) := ht.reo (fun b hb e => glue_mid h0 e h10 hb) (fun b hb e => glue_mid h0 e (by omega) hb)
      have v2 : Upd (glue o o1 w.heap.size w2.heap.size) (fun x => x = 1 ∨ x = 2) w2 (w4.setCell ⟨wb, l, Option.none⟩ (.slice (some ⟨g, 0, Option.none⟩) (q + 1) cap)) (glue o o1 w.heap.size w2.heap.size) :=
        (((Upd.refl _ _ w2).alloc _).grown hgr (fun k hk => .inr (.inr ((glue_old (ck k hk).2).trans (ck k hk).1)))).set _ (.inr (.inl ((glue_old hwb).trans h.own)))
      exact t2.keep v2 (by omega) (by omega)
    · rw [if_neg e]
      refine (h.tree l q hl9 hq (by omega)).keep U ?_ ?_
      · have := code_ge l q; omega
      · have := code_ge l q; omega
  · show Owned _ _ 2 155 3 (if lv = lv then _ else f lv) (p + 1) _
    rw [if_pos rfl, shCells_snoc, shCells_congr lv p (t' := tb lv) (fun q hq => if_neg (by omega))]
    simp only [and_self, if_true]
    refine ⟨owns_other hown ?_ _, fun k hk => ?_⟩
    · intro e
      exact hgwb (by simpa [Value.ownBlock] using e)
    · have : g = k := by simpa [Value.ownBlock] using hk
      exact this ▸ hg2
  · show (if lv = lv then _ else f lv).ownBlock ≠ _
    rw [if_pos rfl]
    intro e
    have hge : g = S l := by simpa [Value.ownBlock] using e
    rcases hat with e2 | e2
    · exact h.dis l hll (by rw [e2, hge])
    · have := h.S_lt hll
      omega
theorem Mk.stepB (h : Mk w0 w o0 o wb lv p f S sc tb) {rb M : Nat} (br : BitsRow w o rb M) (hM : 0 < M) (hl : lv < 9) (hp : p < 2 ^ lv) {va : Option Addr} {vc : Nat} (hf : f lv = .slice va p vc) {w2 w4 : World} {t : Nat} {o1 : Nat → Nat} (b2 : Below w.heap.size w w2) (h0 : ∀ b, b < w.heap.size → o1 b = 0) (ht : IsTree w2 o1 (code lv p) t (bitsOf [0] lv p)) {g cap : Nat}
    (hown : w4.ownsRow 0 155 3 (.slice (some ⟨g, 0, Option.none⟩) (p + 1) cap) (p + 1) (shCells lv (tb lv) p ++ [.pointer (some ⟨t, 0, Option.none⟩), .int .i64 lv, .int .i64 p]))
    (hgr : (w2.alloc (.cells #[.pointer (some ⟨t, 0, Option.none⟩), .int .i64 lv, .int .i64 p] 155)).grownBy w4 (Value.slice va p vc).ownBlock) (hat : (Value.slice va p vc).ownBlock = some g ∨ g = (w2.alloc (.cells #[.pointer (some ⟨t, 0, Option.none⟩), .int .i64 lv, .int .i64 p] 155)).heap.size) :
    (∃ o' f' S' sc' tb', Mk w0 (w4.setCell ⟨wb, lv, Option.none⟩ (.slice (some ⟨g, 0, Option.none⟩) (p + 1) cap)) o0 o' wb lv (p + 1) f' S' sc' tb' ∧ BitsRow (w4.setCell ⟨wb, lv, Option.none⟩ (.slice (some ⟨g, 0, Option.none⟩) (p + 1) cap)) o' rb M) ∧
      w4.cell? ⟨wb, lv, Option.none⟩ = some (.slice va p vc) ∧ w4.frozen? ⟨wb, lv, Option.none⟩ = false := by
  rw [← hf] at hgr hat
  rw [World.size_alloc] at hat
  have hwb : wb < w.heap.size := lt_of_block h.top
  have e4 : w4.heap[wb]? = w.heap[wb]? := by
    rw [hgr.block wb (by rw [World.size_alloc]; have := b2.size; omega) (fun e => by
      have := h.cur.2 wb e.symm
      rw [h.own] at this
      omega), Below.heap_alloc _ _ _ (by have := b2.size; omega)]
    exact b2.block wb hwb
  obtain ⟨s1, s2⟩ := h.step hl hp b2 h0 ht hown hgr hat
  refine ⟨⟨_, _, _, _, _, s1, br.keep s2 (by omega) hM⟩, ?_, ?_⟩
  · rw [World.cell?_of_block (w := w) (a := ⟨wb, lv, Option.none⟩) e4, ← hf]
    exact h.top.cs lv hl
  · exact Joins.unfrozen_of_block (e4.trans h.top) lv
theorem three_one (a b c : Value) (ha : a.oneCell' = true) (hb : b.oneCell' = true) (hc : c.oneCell' = true) : ∀ u ∈ [a, b, c], u.oneCell' = true := by
  intro u hu
  simp only [List.mem_cons, List.not_mem_nil, or_false] at hu
  rcases hu with rfl | rfl | rfl
  · exact ha
  · exact hb
  · exact hc
/-- a level more -/
theorem Mk.next (h : Mk w0 w o0 o wb lv (2 ^ lv) f S sc tb) (hl : lv < 9) : ∃ S' sc', Mk w0 w o0 o wb (lv + 1) 0 f S' sc' tb := by
  obtain ⟨g, cap, hf, _, hg⟩ := own_form h.cur.1 (Nat.two_pow_pos lv)
  have hc := h.cur
  rw [hf] at hc
  have hn := h.none (lv + 1) (by omega)
  refine ⟨fun l => if l = lv then g else S l, fun l => if l = lv then cap else sc l, h.u, h.lo, h.n5, h.new, h.top, h.own, fun l hll => ?_, fun l hll => h.none l (by omega), fun l hll q hq => ?_, fun l hll => ?_, fun l q hl9 hq hlq => h.tree l q hl9 hq ?_, by rw [hn]; exact ⟨World.ownsRow_nil _ _ _ _, by simp [Value.ownBlock]⟩, fun l hll => by rw [hn]; simp [Value.ownBlock]⟩
  · by_cases e : l = lv
    · subst e
      unfold shV
      rw [hf]
      simp only [if_true]
    · rw [h.full l (by omega)]
      unfold shV
      simp only [if_neg e]
  · by_cases e : l = lv
    · subst e
      rw [if_pos rfl]
      obtain ⟨a1, a2, a3⟩ := shCells_get l (tb l) (2 ^ l) q hq
      exact ⟨owns_cell hc.1 _ _ a1, owns_cell hc.1 _ _ a2, owns_cell hc.1 _ _ a3⟩
    · rw [if_neg e]
      exact h.row l (by omega) q hq
  · by_cases e : l = lv
    · subst e
      show o (if l = l then g else S l) = 2
      rw [if_pos rfl]
      exact hc.2 g rfl
    · show o (if l = lv then g else S l) = 2
      rw [if_neg e]
      exact h.so l (by omega)
  · by_cases e : l = lv
    · subst e
      exact .inr ⟨rfl, hq⟩
    · exact .inl (by omega)
theorem Mk.wave (h : Mk w0 w o0 o wb 9 p f S sc tb) : IsWave w o wb S sc tb [0] 0 := by
  refine ⟨⟨?_, h.own, fun lv hl q hq => h.row lv hl q hq, fun lv hl => h.so lv hl, fun lv hl q hq => h.tree lv q hl hq (.inl hl)⟩, by simp⟩
  have ht := h.top
  unfold WaveTop at ht ⊢
  rw [h.full 0 (by omega), h.full 1 (by omega), h.full 2 (by omega), h.full 3 (by omega), h.full 4 (by omega), h.full 5 (by omega), h.full 6 (by omega), h.full 7 (by omega), h.full 8 (by omega)] at ht
  exact ht
end
end Go.Proofs.YtnadgcgnediakaaGreatDoor
namespace Go.Proofs.YtnadgcgnediakaaGreatDoor
open Go.ChangeShapes Go.WideShapes Go.ChangeAt Go.RowKit Go.Deep

theorem likeC_step {l : List Bool} {b : Bool} {k k' : Nat} (hk : l.getD k false = b) (h : k < k') : likeC l b k < likeC l b k' := by
  have h1 := cnt_mono (fun i => l.getD i false == b) (show k + 1 ≤ k' from h)
  unfold likeC
  rw [Wd.cnt, hk, beq_self_eq_true, Bool.toNat_true] at h1
  omega
theorem likeC_inj {l : List Bool} {b : Bool} {k k' : Nat} (hk : l.getD k false = b) (hk' : l.getD k' false = b) (h : likeC l b k = likeC l b k') : k = k' := by
  rcases Nat.lt_trichotomy k k' with hl | he | hl
  · have := likeC_step hk hl
    omega
  · exact he
  · have := likeC_step hk' hl
    omega

section
variable {o o' : Nat → Nat} {x : Nat}
theorem Owned.re {w : World} {c : Nat} {e : TypeId} {size : Nat} {v : Value} {n : Nat} {xs : List Value} (h : Owned w o c e size v n xs) (hr : ∀ b, o b ≠ x → o' b = o b) (hc : c ≠ x) : Owned w o' c e size v n xs :=
  ⟨h.1, fun k hk => by rw [hr k (by rw [h.2 k hk]; exact hc)]; exact h.2 k hk⟩
theorem re_eq {b c : Nat} (hr : ∀ b, o b ≠ x → o' b = o b) (h : o b = c) (hc : c ≠ x) : o' b = c := by rw [hr b (by rw [h]; exact hc)]; exact h
theorem IsTree.re {w : World} {c tb : Nat} {l : List Bool} (h : IsTree w o c tb l) (hr : ∀ b, o b ≠ x → o' b = o b) (hx : x < 10) (hc : 10 ≤ c) : IsTree w o' c tb l := by
  have h5 : c ≠ x := by omega
  have h6 : c + 1 ≠ x := by omega
  rcases h with ⟨h1, ab, nb, bb, kb, lc, kc, fv, vis, h⟩ | ⟨h1, ⟨ab, vis, h⟩ | ⟨ab, nb, kb, fb, lc, kc, fc, y, vis, h⟩⟩
  · exact .inl ⟨h1, ab, nb, bb, kb, lc, kc, fv, vis, ⟨h.t, h.a, h.n.re hr h5, h.k.re hr h6, h.f.re hr h6, h.b, re_eq hr h.ot h5, re_eq hr h.oa h6, re_eq hr h.ob h5⟩⟩
  · exact .inr ⟨h1, .inl ⟨ab, vis, ⟨h.t, h.a, re_eq hr h.ot h5, re_eq hr h.oa h6⟩⟩⟩
  · exact .inr ⟨h1, .inr ⟨ab, nb, kb, fb, lc, kc, fc, y, vis, ⟨h.t, h.a, h.n.re hr h5, h.k.re hr h6, h.f.re hr h6, re_eq hr h.ot h5, re_eq hr h.oa h6⟩⟩⟩
theorem IsSh.re {w : World} {wb n : Nat} {S sc : Nat → Nat} {tb : Nat → Nat → Nat} {B : Nat → Nat → List Bool} {vis : Int} (h : IsSh w o wb n S sc tb B vis) (hr : ∀ b, o b ≠ x → o' b = o b) (hx : x < 10) (h1 : x ≠ 1) (h2 : x ≠ 2) : IsSh w o' wb n S sc tb B vis :=
  ⟨h.top, re_eq hr h.own (Ne.symm h1), h.row, fun lv hl => re_eq hr (h.so lv hl) (Ne.symm h2), fun lv hl p hp => (h.tree lv hl p hp).re hr hx (code_ge _ _)⟩
end

/-- what the closure reads -/
def SC (g t s m sb lb : Nat) (wz : World) : Prop := wz.cell? ⟨g, 0, none⟩ = some (.pointer (some ⟨t, 0, none⟩)) ∧ wz.cell? ⟨sb, 0, none⟩ = some (.int .i64 s) ∧ wz.cell? ⟨lb, 0, none⟩ = some (.int .i64 m)
theorem SC.set {g t s m sb lb jb : Nat} {wz : World} (h : SC g t s m sb lb wz) (h1 : jb ≠ g ∧ jb ≠ sb ∧ jb ≠ lb) (v : Value) : SC g t s m sb lb (wz.setCell ⟨jb, 0, none⟩ v) := by
  obtain ⟨a, b, c⟩ := h
  have ne : ∀ {x : Nat}, jb ≠ x → (⟨jb, 0, none⟩ : Addr) ≠ ⟨x, 0, none⟩ := by
    intro x hx e
    exact hx (congrArg Addr.block e)
  refine ⟨?_, ?_, ?_⟩
  · rw [World.cell?_setCell_other _ _ _ _ (ne h1.1)]; exact a
  · rw [World.cell?_setCell_other _ _ _ _ (ne h1.2.1)]; exact b
  · rw [World.cell?_setCell_other _ _ _ _ (ne h1.2.2)]; exact c
set_option maxHeartbeats 2000000 in
theorem sel1_any (o : Nat → Nat) (c tb lv p jb sb lb s m k j : Nat) (l : List Bool) (w : World) (h : IsTree w o c tb l) (hT : Tab w) (h0 : o 0 = 0) (hs : s < 257) (hm : m < 9) (hk : k < l.length) (hb : l.getD k false = bitN s m) (hj : likeC l (bitN s m) k = j) (hc : 10 ≤ c)
    (cj : w.heap[jb]? = some (.cells #[.int .i64 j] 3 (0, 0))) (oj : o jb = 5) (os : o sb = 0) (ol : o lb = 0) (cs : w.cell? ⟨sb, 0, none⟩ = some (.int .i64 s)) (cl' : w.cell? ⟨lb, 0, none⟩ = some (.int .i64 m)) :
    Calls Tryz.prog 154 #[shelfV tb lv p, .pointer (some ⟨jb, 0, none⟩), .pointer (some ⟨sb, 0, none⟩), .pointer (some ⟨lb, 0, none⟩)] w fun e w' => e = .returned (.tuple #[]) ∧
      ∃ o', Upd o (cl c) w w' o' ∧ IsTree w' o' c tb l ∧ w'.heap[jb]? = some (.cells #[.int .i64 k] 3 (0, 0)) ∧ o' jb = 5 := by
  have jl : jb < w.heap.size := lt_of_block cj
  have sl : sb < w.heap.size := cell_lt cs
  have ll : lb < w.heap.size := cell_lt cl'
  have TS : ∀ wx, wx.heap = (w.alloc (.cells #[.pointer (some ⟨tb, 0, none⟩), .int .i64 lv, .int .i64 p] 155)).heap → wx.os = w.os → wx.tape = w.tape → wx.output = w.output → Calls Tryz.prog 155 #[.pointer (some ⟨tb, 0, none⟩), .int .i64 j, .bool (bitN s m)] wx fun e w' => e = .returned (.int .i64 k) ∧ ∃ o', Upd o (cl c) w w' o' ∧ IsTree w' o' c tb l ∧ w'.heap[jb]? = some (.cells #[.int .i64 j] 3 (0, 0)) ∧ o' jb = 5 ∧ w'.cell? ⟨w.heap.size, 0, none⟩ = some (.pointer (some ⟨tb, 0, none⟩)) ∧ w'.cell? ⟨sb, 0, none⟩ = some (.int .i64 s) ∧ w'.cell? ⟨lb, 0, none⟩ = some (.int .i64 m) := by
    intro wx e1 e2 e3 e4
    have ux : Upd o (fun _ => False) w wx (ext o w.heap.size 0) := by
      have u0 := (Upd.start o (fun _ => False) w 0).alloc (.cells #[.pointer (some ⟨tb, 0, none⟩), .int .i64 lv, .int .i64 p] 155)
      exact ⟨e2, e3, e4, by rw [e1]; exact u0.size, u0.own, fun b hb' hn => by rw [e1]; exact u0.same b hb' hn⟩
    have tx := h.keep ux (by simp) (by simp)
    have hTx := hT.upd ux (by simp)
    have hjx := ux.heap cj (by simp)
    have hlt : likeC l (bitN s m) k < likeC l (bitN s m) l.length := likeC_step hb hk
    obtain ⟨k', q1, q2, q3, q4⟩ := tsel_any (ext o w.heap.size 0) c tb l j (bitN s m) wx hTx (by rw [ext_old hT.lt, h0]; unfold tr; omega) tx (by omega)
    obtain rfl : k' = k := likeC_inj q2 hb (q3.trans hj.symm)
    refine q4.mono ?_
    rintro e w' ⟨rfl, o', u', t'⟩
    have hj' := u'.heap hjx.1 (by rw [hjx.2, oj]; unfold tr; omega)
    have hsx := ux.own sb sl
    have hlx := ux.own lb ll
    have hb0 : wx.heap[w.heap.size]? = some (.cells #[.pointer (some ⟨tb, 0, none⟩), .int .i64 lv, .int .i64 p] 155 (0, 0)) := by rw [e1]; exact heap_alloc_new w _
    have hb1 := (u'.heap hb0 (by rw [ext_new (Nat.le_refl _)]; unfold tr; omega)).1
    refine ⟨rfl, o', (ux.mono (d := cl c) (by simp)).trans u' (fun _ h => .inl h), t', hj'.1, hj'.2.trans (hjx.2.trans oj), by rw [Joins.cell_of_block hb1]; rfl, ?_, ?_⟩
    · rw [World.cell?_of_block (w := wx) (u'.same sb (Nat.lt_of_lt_of_le sl ux.size) (by rw [hsx, os]; unfold tr; omega)), World.cell?_of_block (w := w) (ux.same sb sl (by simp))]
      exact cs
    · rw [World.cell?_of_block (w := wx) (u'.same lb (Nat.lt_of_lt_of_le ll ux.size) (by rw [hlx, ol]; unfold tr; omega)), World.cell?_of_block (w := w) (ux.same lb ll (by simp))]
      exact cl'
  have SB := Lib.hid (fun wx => sbit_any s m hs hm wx)
  have T1 := Lib.hid (TS (w.alloc (.cells #[.pointer (some ⟨tb, 0, none⟩), .int .i64 lv, .int .i64 p] 155)).drew rfl rfl rfl rfl)
  obtain ⟨W, hW⟩ : ∃ W, W = w.alloc (.cells #[.pointer (some ⟨tb, 0, none⟩), .int .i64 lv, .int .i64 p] 155) := ⟨_, rfl⟩
  have s0 : W.cell? ⟨w.heap.size, 0, none⟩ = some (.pointer (some ⟨tb, 0, none⟩)) := by rw [hW, Joins.cell_of_block (heap_alloc_new w _)]; rfl
  have s1 : W.cell? ⟨sb, 0, none⟩ = some (.int .i64 s) := by rw [hW, World.cell?_of_block (w := w) (Below.heap_alloc _ _ _ sl)]; exact cs
  have s2 : W.cell? ⟨lb, 0, none⟩ = some (.int .i64 m) := by rw [hW, World.cell?_of_block (w := w) (Below.heap_alloc _ _ _ ll)]; exact cl'
  have cj1 : W.cell? ⟨jb, 0, none⟩ = some (.int .i64 j) := by rw [hW, World.cell?_of_block (w := w) (Below.heap_alloc _ _ _ jl), Joins.cell_of_block cj]; rfl
  have fj1 : W.frozen? ⟨jb, 0, none⟩ = false := by rw [hW]; exact Joins.unfrozen_of_block ((Below.heap_alloc w _ _ jl).trans cj) _
  rw [← hW] at T1
  have HW := Lib.hid hW
  have OJ := Lib.hid oj
  have F0 := Lib.hid (show SC w.heap.size tb s m sb lb W from ⟨s0, s1, s2⟩)
  have NE := Lib.hid (show jb ≠ w.heap.size ∧ jb ≠ sb ∧ jb ≠ lb from ⟨by omega, fun e => by rw [e] at oj; omega, fun e => by rw [e] at oj; omega⟩)
  clear TS h hT h0 hb hj cj oj hk os ol cs cl' s0 s1 s2
  unfold shelfV
  go_enter Tryz.func154, Tryz.ntmps154
  go_wp2_with fail
  rw [← HW.out]
  clear HW hW
  refine wp_region_held_drew (S := (fun wz => wz.cell? ⟨w.heap.size, 0, none⟩ = some (.pointer (some ⟨tb, 0, none⟩)) ∧ wz.cell? ⟨sb, 0, none⟩ = some (.int .i64 s) ∧ wz.cell? ⟨lb, 0, none⟩ = some (.int .i64 m))) (by kernel_rfl) F0.out (fun hHeld => ?_)
  refine wpAnyH_take (i := 0) (oi := _) (v := ?v0) rfl (by kernel_rfl) (by kernel_rfl) (by kernel_rfl) (fun _ _ _ h => h) (Or.inl ⟨by rfl, ?hy0⟩) hHeld ?rest0
  case hy0 =>
    intro w1 hSw
    obtain ⟨q1, q2, q3⟩ := hSw
    go_simp
    try (with_reducible rfl)
  try simp only [Act.put, List.setIfInBounds_toArray]
  refine wpAnyH_take (i := 1) (oi := _) (v := ?v1) rfl (by kernel_rfl) (by kernel_rfl) (by kernel_rfl) (fun _ _ _ h => h) (Or.inl ⟨by rfl, ?hy1⟩) hHeld ?rest1
  case hy1 =>
    intro w1 hSw
    obtain ⟨q1, q2, q3⟩ := hSw
    go_simp
    try (with_reducible rfl)
  try simp only [Act.put]
  refine wpAnyH_take (i := 3) (oi := _) (v := ?v3) rfl (by kernel_rfl) (by kernel_rfl) (by kernel_rfl) (fun _ _ _ h => h) (Or.inl ⟨by rfl, ?hy3⟩) hHeld ?rest3
  case hy3 =>
    intro w1 hSw
    obtain ⟨q1, q2, q3⟩ := hSw
    go_simp
    try (with_reducible rfl)
  try simp only [Act.put]
  refine wpAnyH_take (i := 4) (oi := _) (v := ?v4) rfl (by kernel_rfl) (by kernel_rfl) (by kernel_rfl) (fun _ _ _ h => h) (Or.inl ⟨by rfl, ?hy4⟩) hHeld ?rest4
  case hy4 =>
    intro w1 hSw
    obtain ⟨q1, q2, q3⟩ := hSw
    go_simp
    try (with_reducible rfl)
  try simp only [Act.put]
  refine wpAnyH_ready (rs := [2, 5]) (by kernel_rfl) (by simp) ?_
  refine (AllReadyH.cons (o := _) rfl (fun K hK => ?_) (AllReadyH.cons (o := _) rfl (fun K hK => ?_) AllReadyH.nil))
  · go_simp
    refine hK.out _ _ F0.out (fun hHeld => ?_)
    clear hK K
    try simp only [Act.put, List.setIfInBounds_toArray, List.set_cons_zero, List.set_cons_succ]
    refine wpAnyH_ready (rs := [5]) (by kernel_rfl) (by simp) ?_
    refine (AllReadyH.cons (o := _) rfl (fun K hK => ?_) AllReadyH.nil)
    go_simp
    go_at_call 156
    refine (SB.out _).mono ?_
    rintro e w' ⟨rfl, rfl⟩
    go_wp2_with fail
    refine hK.out _ _ F0.out (fun hHeld => ?_)
    clear hK K
    try simp only [Act.put, List.setIfInBounds_toArray, List.set_cons_zero, List.set_cons_succ]
    refine wpAnyH_ready (rs := [6]) (by kernel_rfl) (by simp) ?_
    refine (AllReadyH.cons (o := _) rfl (fun K hK => ?_) AllReadyH.nil)
    go_simp
    go_at_call 155
    refine T1.out.mono ?_
    rintro e w2 ⟨rfl, o2, u2, t2, j2, oj2, s2⟩
    have f2 := Joins.unfrozen_of_block j2 0
    have c2 : w2.cell? ⟨jb, 0, none⟩ = some (.int .i64 j) := (by rw [Joins.cell_of_block j2]; rfl)
    have U2 := Lib.hid u2
    have T2 := Lib.hid t2
    have J2 := Lib.hid j2
    have OJ2 := Lib.hid oj2
    have F2 := Lib.hid (show SC w.heap.size tb s m sb lb w2 from s2)
    clear u2 t2 j2 oj2 s2
    go_wp2_with fail
    refine hK.out _ _ F2.out (fun hHeld => ?_)
    clear hK K
    try simp only [Act.put, List.setIfInBounds_toArray, List.set_cons_zero, List.set_cons_succ]
    refine wpAnyH_ready (rs := [7]) (by kernel_rfl) (by simp) ?_
    refine (AllReadyH.cons (o := _) rfl (fun K hK => ?_) AllReadyH.nil)
    go_simp
    refine hK.out _ _ (F2.out.set NE.out _) (fun hHeld => ?_)
    clear hK K
    try simp only [Act.put, List.setIfInBounds_toArray, List.set_cons_zero, List.set_cons_succ]
    refine wpAnyH_done (by kernel_rfl) ?_ _
    go_wp2_with fail
    go_end0
    exact ⟨rfl, o2, (U2.out.set _ (.inr (.inr OJ.out))), T2.out.keep (d := fun x => x = 5) ((Upd.refl o2 _ w2).set _ (.inr OJ2.out)) (by omega) (by omega), Joins.block_setCell J2.out _, OJ2.out⟩
  · go_simp
    go_at_call 156
    refine (SB.out _).mono ?_
    rintro e w' ⟨rfl, rfl⟩
    go_wp2_with fail
    refine hK.out _ _ F0.out (fun hHeld => ?_)
    clear hK K
    try simp only [Act.put, List.setIfInBounds_toArray, List.set_cons_zero, List.set_cons_succ]
    refine wpAnyH_ready (rs := [2]) (by kernel_rfl) (by simp) ?_
    refine (AllReadyH.cons (o := _) rfl (fun K hK => ?_) AllReadyH.nil)
    go_simp
    refine hK.out _ _ F0.out (fun hHeld => ?_)
    clear hK K
    try simp only [Act.put, List.setIfInBounds_toArray, List.set_cons_zero, List.set_cons_succ]
    refine wpAnyH_ready (rs := [6]) (by kernel_rfl) (by simp) ?_
    refine (AllReadyH.cons (o := _) rfl (fun K hK => ?_) AllReadyH.nil)
    go_simp
    go_at_call 155
    refine T1.out.mono ?_
    rintro e w2 ⟨rfl, o2, u2, t2, j2, oj2, s2⟩
    have f2 := Joins.unfrozen_of_block j2 0
    have c2 : w2.cell? ⟨jb, 0, none⟩ = some (.int .i64 j) := (by rw [Joins.cell_of_block j2]; rfl)
    have U2 := Lib.hid u2
    have T2 := Lib.hid t2
    have J2 := Lib.hid j2
    have OJ2 := Lib.hid oj2
    have F2 := Lib.hid (show SC w.heap.size tb s m sb lb w2 from s2)
    clear u2 t2 j2 oj2 s2
    go_wp2_with fail
    refine hK.out _ _ F2.out (fun hHeld => ?_)
    clear hK K
    try simp only [Act.put, List.setIfInBounds_toArray, List.set_cons_zero, List.set_cons_succ]
    refine wpAnyH_ready (rs := [7]) (by kernel_rfl) (by simp) ?_
    refine (AllReadyH.cons (o := _) rfl (fun K hK => ?_) AllReadyH.nil)
    go_simp
    refine hK.out _ _ (F2.out.set NE.out _) (fun hHeld => ?_)
    clear hK K
    try simp only [Act.put, List.setIfInBounds_toArray, List.set_cons_zero, List.set_cons_succ]
    refine wpAnyH_done (by kernel_rfl) ?_ _
    go_wp2_with fail
    go_end0
    exact ⟨rfl, o2, (U2.out.set _ (.inr (.inr OJ.out))), T2.out.keep (d := fun x => x = 5) ((Upd.refl o2 _ w2).set _ (.inr OJ2.out)) (by omega) (by omega), Joins.block_setCell J2.out _, OJ2.out⟩

/-- look, with Select's closure -/
theorem wlook_sel (o : Nat → Nat) (wb n jb sb lb s m k q : Nat) (S sc : Nat → Nat) (tb : Nat → Nat → Nat) (L : List Nat) (vis : Int) (w : World) (h : IsSh w o wb n S sc tb (bitsOf L) vis) (hT : Tab w) (h0 : o 0 = 0) (hs : s < 257) (hm : m < 9) (hk : k < L.length) (hsk : L.getD k 0 = s) (hq : q = pathN s m)
    (cj : w.heap[jb]? = some (.cells #[.int .i64 (posN L k s (m + 1))] 3 (0, 0))) (oj : o jb = 5) (cs : w.cell? ⟨sb, 0, none⟩ = some (.int .i64 s)) (os : o sb = 0) (cl' : w.cell? ⟨lb, 0, none⟩ = some (.int .i64 m)) (ol : o lb = 0) :
    Calls Tryz.prog 133 #[.pointer (some ⟨wb, 0, none⟩), shelfV (tb m q) m q, .func (.func 154) #[] #[.pointer (some ⟨jb, 0, none⟩), .pointer (some ⟨sb, 0, none⟩), .pointer (some ⟨lb, 0, none⟩)]] w fun e w' => e = .returned (.tuple #[]) ∧
      ∃ o' vis', Upd o (lk (code m q)) w w' o' ∧ IsSh w' o' wb n S sc tb (bitsOf L) vis' ∧ w'.heap[jb]? = some (.cells #[.int .i64 (posN L k s m)] 3 (0, 0)) ∧ o' jb = 5 := by
  have hc := code_ge m q
  have hq2 : q < 2 ^ m := by rw [hq]; exact path_lt s m hs (by omega)
  have hbit := bits_at (lv := m) hk hsk
  have hps := pos_succ (L := L) (k := k) (s := s) (lv := m) hm
  have jl := lt_of_block cj
  have sl := cell_lt cs
  have ll := cell_lt cl'
  rw [← hq] at hbit hps
  have u1 : Upd o (fun _ => False) w (w.alloc (.cells #[.pointer (some ⟨tb m q, 0, none⟩), .int .i64 m, .int .i64 q] 155)) (ext o w.heap.size 0) := (Upd.start o (fun _ => False) w 0).alloc _
  have hcl := sel1_any (ext o w.heap.size 0) (code m q) (tb m q) m q jb sb lb s m (posN L k s m) (posN L k s (m + 1)) (bitsOf L m q) (w.alloc (.cells #[.pointer (some ⟨tb m q, 0, none⟩), .int .i64 m, .int .i64 q] 155))
    ((h.tree m hm q hq2).keep u1 (by simp) (by simp)) (hT.upd u1 (by simp)) ((ext_old hT.lt).trans h0) hs hm hbit.1 hbit.2 (by rw [likeC_like]; exact hps) hc ((Below.heap_alloc _ _ _ jl).trans cj) ((ext_old jl).trans oj) ((ext_old sl).trans os) ((ext_old ll).trans ol)
    (by rw [World.cell?_of_block (w := w) (Below.heap_alloc _ _ _ sl)]; exact cs) (by rw [World.cell?_of_block (w := w) (Below.heap_alloc _ _ _ ll)]; exact cl')
  refine (look_any 154 #[.pointer (some ⟨jb, 0, none⟩), .pointer (some ⟨sb, 0, none⟩), .pointer (some ⟨lb, 0, none⟩)] o (code m q) (tb m q) m q wb n (shV S sc) vis (bitsOf L m q)
    (fun w' o' => w'.heap[jb]? = some (.cells #[.int .i64 (posN L k s m)] 3 (0, 0)) ∧ o' jb = 5) w hc enter154 h.top h.own hcl
    (fun w' o' v hq' how => ⟨by
      rw [heap_drew, Below.heap_setCell _ _ _ _ (show jb ≠ wb from fun e => by have := h.own; rw [e] at oj; omega)]
      exact hq'.1, hq'.2⟩)).mono ?_
  rintro e w' ⟨rfl, o', vis', u', t', top', how', hj', oj'⟩
  refine ⟨rfl, o', vis', u', ?_, hj', oj'⟩
  have h2 : ¬ lk (code m q) 2 := by unfold lk cl tr; omega
  refine ⟨top', how', fun a ha b hb => ?_, fun a ha => (u'.own _ (h.S_lt ha)).trans (h.so a ha), fun a ha b hb => ?_⟩
  · have e : ∀ i, w'.cell? ⟨S a, i, none⟩ = w.cell? ⟨S a, i, none⟩ := fun i => World.cell?_of_block (a := ⟨S a, i, none⟩) (u'.same (S a) (h.S_lt ha) (by rw [h.so a ha]; exact h2))
    rw [e, e, e]
    exact h.row a ha b hb
  · by_cases he : a = m ∧ b = q
    · obtain ⟨rfl, rfl⟩ := he
      exact t'
    · have hab := code_ge a b
      refine (h.tree a ha b hb).keep u' ?_ ?_
      · intro hx
        unfold lk cl tr at hx
        exact he (code_inj hb hq2 (by omega))
      · intro hx
        unfold lk cl tr at hx
        exact he (code_inj hb hq2 (by omega))

/-- behind so many levels of Select -/
structure SelRel (o : Nat → Nat) (w : World) (wb jb k s : Nat) (S sc : Nat → Nat) (tb : Nat → Nat → Nat) (L : List Nat) (m lb : Nat) (wr : World) : Prop where
  ex : ∃ o_r v_r, (∀ b, o_r b = 5 → b = jb) ∧ Upd o gv w wr o_r ∧ IsSh wr o_r wb L.length S sc tb (bitsOf L) v_r ∧ wr.heap[jb]? = some (.cells #[.int .i64 (posN L k s m)] 3 (0, 0)) ∧ o_r jb = 5 ∧
    wr.heap[jb + 1]? = some (.cells #[.int .i64 s] 3 (0, 0)) ∧ o_r (jb + 1) = 0 ∧ Tab wr ∧ o_r 0 = 0 ∧ wr.heap[lb]? = some (.cells #[.int .i64 ((m : Int) - 1)] 3 (0, 0)) ∧ o_r lb = 0 ∧ jb + 1 < lb
  le : m ≤ 9
/-- a new level -/
theorem SelRel.step {o o3 : Nat → Nat} {w w3 : World} {wb jb k s : Nat} {S sc : Nat → Nat} {tb : Nat → Nat → Nat} {L : List Nat} {m : Nat} {v3 : Int} {w4 : World} (_hj : w.heap.size ≤ jb) (h5 : ∀ b, b < w3.heap.size → o3 b = 5 → b = jb) (u3 : Upd o gv w w3 o3) (sh : IsSh w3 o3 wb L.length S sc tb (bitsOf L) v3)
    (j3 : w3.heap[jb]? = some (.cells #[.int .i64 (posN L k s m)] 3 (0, 0))) (oj : o3 jb = 5) (s3 : w3.heap[jb + 1]? = some (.cells #[.int .i64 s] 3 (0, 0))) (os : o3 (jb + 1) = 0) (hT : Tab w3) (h0 : o3 0 = 0) (uu : Upd o3 (fun _ => False) w3 w4 (ext o3 w3.heap.size 0)) (hl : w4.heap[w3.heap.size]? = some (.cells #[.int .i64 ((m : Int) - 1)] 3 (0, 0))) (hm : m ≤ 9) :
    SelRel o w wb jb k s S sc tb L m w3.heap.size w4 := by
  have jl := lt_of_block j3
  have sl := lt_of_block s3
  refine ⟨⟨ext o3 w3.heap.size 0, v3, fun b hb => ?_, u3.trans uu (fun _ h => h.elim), sh.keep uu (by simp) (by simp) (by simp), (uu.heap j3 (by simp)).1, (ext_old jl).trans oj, (uu.heap s3 (by simp)).1, (ext_old sl).trans os, hT.upd uu (by simp), (ext_old hT.lt).trans h0, hl, ext_new (Nat.le_refl _), sl⟩, hm⟩
  by_cases hlt : b < w3.heap.size
  · exact h5 b hlt ((ext_old (c := 0) hlt).symm.trans hb)
  · rw [ext_new (by omega)] at hb
    omega
theorem sel_next {o o_r o3 : Nat → Nat} {w wr w3 : World} {wb jb k s c : Nat} {S sc : Nat → Nat} {tb : Nat → Nat → Nat} {L : List Nat} {m : Nat} {v3 : Int} (h5 : No5 o) (hj : w.heap.size ≤ jb) (ru : Upd o gv w wr o_r) (rsb : wr.heap[jb + 1]? = some (.cells #[.int .i64 s] 3 (0, 0))) (rob : o_r (jb + 1) = 0) (rT : Tab wr) (r0 : o_r 0 = 0)
    (hc : 10 ≤ c) (u3 : Upd o_r (lk c) wr.drew w3 o3) (_r5 : ∀ b, o_r b = 5 → b = jb) (s3 : IsSh w3 o3 wb L.length S sc tb (bitsOf L) v3) (j3 : w3.heap[jb]? = some (.cells #[.int .i64 (posN L k s m)] 3 (0, 0))) (oj3 : o3 jb = 5) (hm : m ≤ 9) :
    ∀ w4, (∀ o', Upd o' (fun _ => False) w3 w4 (ext o' w3.heap.size 0)) → w4.heap[w3.heap.size]? = some (.cells #[.int .i64 ((m : Int) - 1)] 3 (0, 0)) → SelRel o w wb jb k s S sc tb L m w3.heap.size w4 := by
  intro w4 uu hl
  have hsz := ru.size
  have hlk : ¬ lk c 0 := by unfold lk cl tr; omega
  have u3' : Upd o_r (lk c) wr w3 o3 := ((Upd.refl o_r (lk c) wr).drew).trans u3 (fun _ h => h)
  have s1 := u3'.heap rsb (by rw [rob]; exact hlk)
  have hjn : ∀ b, b ≠ jb → (if b = jb then 5 else clean o3 b) = clean o3 b := fun b hb => if_neg hb
  have hcj : clean o3 jb = 0 := by unfold clean; rw [if_pos oj3]
  have uw : Upd o gv w w3 (fun b => if b = jb then 5 else clean o3 b) := by
    refine (ru.trans' (d := lk c) u3' (fun b hb hd => ?_)).reown fun b hb => ?_
    · have := h5 b
      unfold lk cl tr at hd
      unfold gv
      omega
    · rw [hjn b (by omega)]
      have e : o3 b = o b := (u3'.own b (Nat.lt_of_lt_of_le hb hsz)).trans (ru.own b hb)
      exact clean_ne e (h5 b)
  have hz : 0 < wr.heap.size := rT.lt
  have jne : (0 : Nat) ≠ jb := fun e => by rw [← e, (u3'.own 0 hz).trans r0] at oj3; omega
  refine SelRel.step (o3 := fun b => if b = jb then 5 else clean o3 b) (v3 := v3) hj (fun b _ hb => ?_) uw ((s3.clean).re (x := 0) (fun b hb => ?_) (by omega) (by omega) (by omega)) j3 (if_pos rfl) s1.1 ?_ (rT.upd u3' (by rw [r0]; exact hlk)) ?_ (uu _) hl hm
  · by_cases e : b = jb
    · exact e
    · rw [hjn b e] at hb
      exact absurd hb (clean_no5 o3 b)
  · exact hjn b (fun e => hb (by rw [e]; exact hcj))
  · exact (hjn (jb + 1) (by omega)).trans (clean_ne (s1.2.trans rob) (by omega))
  · exact (hjn 0 jne).trans (clean_ne ((u3'.own 0 hz).trans r0) (by omega))
set_option maxHeartbeats 4000000 in
set_option maxRecDepth 20000 in
theorem wselect_any (o : Nat → Nat) (wb k s : Nat) (S sc : Nat → Nat) (tb : Nat → Nat → Nat) (L : List Nat) (vis : Int) (w : World) (h : IsWave w o wb S sc tb L vis) (h5 : No5 o) (hT : Tab w) (h0 : o 0 = 0) (hk : k < L.length) (hL : L.length < 1000) (hs : s < 257) (hsk : L.getD k 0 = s) :
    Calls Tryz.prog 102 #[.pointer (some ⟨wb, 0, none⟩), .int .i64 (posN L k s 9), .int .i64 s] w fun e w' => e = .returned (.int .i64 k) ∧ ∃ o' vis', No5 o' ∧ Upd o gv w w' o' ∧ IsWave w' o' wb S sc tb L vis' := by
  obtain ⟨j9, hj9⟩ : ∃ j9, j9 = posN L k s 9 := ⟨_, rfl⟩
  rw [← hj9]
  have hjl : j9 < posN L L.length s 9 := by
    rw [hj9]
    have e := split_at L k 0 hk
    rw [hsk] at e
    rw [pos_nine, pos_nine, List.take_length]
    conv => rhs; rw [e, List.filter_append, List.filter_cons, beq_self_eq_true, if_pos rfl, List.length_append, List.length_cons]
    omega
  obtain ⟨n9, hn9⟩ : ∃ n9, n9 = posN L L.length s 9 := ⟨_, rfl⟩
  rw [← hn9] at hjl
  -- behind the boxes
  obtain ⟨W, hW⟩ : ∃ W, W = (w.alloc (.cells #[.int .i64 j9] 3)).alloc (.cells #[.int .i64 s] 3) := ⟨_, rfl⟩
  have uW : Upd o (fun _ => False) w W (own1 o w.heap.size 6) := by
    rw [hW]
    exact (((Upd.refl o _ _).alloc _).alloc _).reown fun b hb => own1_old hb
  have szW : W.heap.size = w.heap.size + 2 := by rw [hW]; simp
  have wW : IsWave W (own1 o w.heap.size 6) wb S sc tb L vis := ⟨h.sh.keep uW (by simp) (by simp) (by simp), h.sym⟩
  have jW : W.heap[w.heap.size]? = some (.cells #[.int .i64 j9] 3 (0, 0)) := by
    rw [hW]
    exact (Below.heap_alloc _ _ _ (by simp)).trans (heap_alloc_new w _)
  have sW : W.heap[w.heap.size + 1]? = some (.cells #[.int .i64 s] 3 (0, 0)) := by
    rw [hW]
    exact heap_alloc2_new w _ _
  have RK : Calls Tryz.prog 152 #[.pointer (some ⟨wb, 0, none⟩), .int .i64 L.length, .int .i64 s] W.drew fun e w' => e = .returned (.int .i64 n9) ∧ ∃ o' vis', (∀ b, o' b = 5 → b = w.heap.size) ∧ Upd o gv w w' o' ∧ IsSh w' o' wb L.length S sc tb (bitsOf L) vis' ∧ w'.heap[w.heap.size]? = some (.cells #[.int .i64 j9] 3 (0, 0)) ∧ o' w.heap.size = 5 ∧ w'.heap[w.heap.size + 1]? = some (.cells #[.int .i64 s] 3 (0, 0)) ∧ o' (w.heap.size + 1) = 0 ∧ Tab w' ∧ o' 0 = 0 ∧ w.heap.size + 1 < w'.heap.size := by
    have uq : Upd (own1 o w.heap.size 6) (fun _ => False) W W.drew (own1 o w.heap.size 6) := (Upd.refl _ _ _).drew
    have wq : IsWave W.drew (own1 o w.heap.size 6) wb S sc tb L vis := ⟨wW.sh.keep uq (by simp) (by simp) (by simp), h.sym⟩
    refine (wcount_any (own1 o w.heap.size 6) wb L.length s S sc tb L vis W.drew wq (own1_no5 h5 (by omega)) (Nat.le_refl _) hL hs).mono ?_
    rintro e w' ⟨rfl, o', vis', h5', u', wv'⟩
    have hj := u'.heap (b := w.heap.size) (x := .cells #[.int .i64 j9] 3 (0, 0)) jW (by rw [own1_new]; unfold gv; omega)
    have o1s : own1 o w.heap.size 6 (w.heap.size + 1) = 0 := by unfold own1; rw [if_neg (by omega), ext_new (by omega)]
    have hs1 := u'.heap (b := w.heap.size + 1) (x := .cells #[.int .i64 s] 3 (0, 0)) sW (by rw [o1s]; unfold gv; omega)
    have hj6 : o' w.heap.size = 6 := hj.2.trans (own1_new _ _ _)
    have uw := (uW.drew.mono (d := gv) (by simp)).trans u' (fun _ h => h)
    refine ⟨by rw [hn9], fun b => if b = w.heap.size then 5 else o' b, vis', ?_, uw.reown fun b hb => ?_, wv'.sh.re (x := 6) (fun b hb => ?_) (by omega) (by omega) (by omega), hj.1, ?_, hs1.1, ?_, hT.upd uw (by rw [h0]; unfold gv; omega), ?_, lt_of_block hs1.1⟩
    · intro b hb
      try dsimp only at hb
      split at hb
      · assumption
      · exact absurd hb (h5' b)
    · try dsimp only
      rw [if_neg (by omega)]
      exact uw.own b hb
    · try dsimp only
      rw [if_neg (fun e => hb (by rw [e]; exact hj6))]
    · try dsimp only
      rw [if_pos rfl]
    · try dsimp only
      rw [if_neg (by omega)]
      exact hs1.2.trans o1s
    · try dsimp only
      have hl := hT.lt
      rw [if_neg (by omega)]
      exact (uw.own 0 hl).trans h0
  have RKH := Lib.hid RK
  have z := fun i hi => h.sh.top.cs i hi
  have c9 : W.cell? ⟨wb, 9, none⟩ = some (.int .i64 L.length) := wW.sh.top.c9
  have cj : W.cell? ⟨w.heap.size, 0, none⟩ = some (.int .i64 j9) := by rw [Joins.cell_of_block jW]; rfl
  have cs : W.cell? ⟨w.heap.size + 1, 0, none⟩ = some (.int .i64 s) := by rw [Joins.cell_of_block sW]; rfl
  have HW := Lib.hid hW
  have H5 := Lib.hid h5
  have SYM := Lib.hid h.sym
  have HJ9 := Lib.hid hj9
  have HSK := Lib.hid hsk
  have dk : decide ((j9 : Int) < 0) = false := by simp
  have dj : decide (n9 ≤ j9) = false := decide_eq_false (by omega)
  clear RK h h5 hT h0 hsk hj9 hn9 uW szW wW jW sW z hW
  go_enter Tryz.func102, Tryz.ntmps102
  go_wp2_with fail
  rw [← HW.out]
  have JC := Lib.hid (show W.cell? ⟨w.heap.size, 0, none⟩ = some (.int .i64 j9) ∧ W.cell? ⟨wb, 9, none⟩ = some (.int .i64 L.length) ∧ W.cell? ⟨w.heap.size + 1, 0, none⟩ = some (.int .i64 s) from ⟨cj, c9, cs⟩)
  go_region_held3 (fun wz => wz.cell? ⟨w.heap.size, 0, none⟩ = some (.int .i64 j9) ∧ wz.cell? ⟨wb, 9, none⟩ = some (.int .i64 L.length) ∧ wz.cell? ⟨w.heap.size + 1, 0, none⟩ = some (.int .i64 s)) (first | exact JC.out | exact J2.out) (first | (go_at_call 152; refine RKH.out.mono ?_; rintro e w2 ⟨rfl, o2, v2, h52, u2, s2, j2, oj2, sb2, ob2, t2, o02, l2⟩; have J2 := Lib.hid (show w2.cell? ⟨w.heap.size, 0, none⟩ = some (.int .i64 j9) ∧ w2.cell? ⟨wb, 9, none⟩ = some (.int .i64 L.length) ∧ w2.cell? ⟨w.heap.size + 1, 0, none⟩ = some (.int .i64 s) from ⟨by rw [Joins.cell_of_block j2]; rfl, s2.top.c9, by rw [Joins.cell_of_block sb2]; rfl⟩)))
  go_wp2_with fail
  go_loopg [7] 9 (fun gg s7 wr => ∃ lb, s7 = .pointer (some ⟨lb, 0, none⟩) ∧ SelRel o w wb w.heap.size k s S sc tb L gg lb wr)
  case atStart =>
    refine ⟨_, rfl, ?_⟩
    rw [HJ9.out] at j2
    exact SelRel.step (m := 9) (Nat.le_refl _) (fun b _ h => h52 b h) u2 s2 j2 oj2 sb2 ob2 t2 o02 ((Upd.start o2 (fun _ => False) w2 0).alloc _) (heap_alloc_new w2 _) (Nat.le_refl _)
  case round =>
    obtain ⟨lb, rfl, ⟨o_r, v_r, r5, ru, rs, rj, roj, rsb, rob, rT, r0, rlb, rol, rlt⟩, rle⟩ := hrel
    clear j2 oj2 sb2 ob2 t2 o02 l2 s2 u2 h52 cj cs c9 RKH J2 JC dj dk hjl
    have jl : w.heap.size < wr.heap.size := lt_of_block rj
    have SZ := Lib.hid (show w.heap.size < wr.heap.size from jl)
    rcases gk with _ | m
    · have c0 : wr.cell? ⟨lb, 0, none⟩ = some (.int .i64 (-1)) := by rw [Joins.cell_of_block rlb]; rfl
      have cj : wr.cell? ⟨w.heap.size, 0, none⟩ = some (.int .i64 k) := by
        rw [Joins.cell_of_block rj, pos_zero SYM.out hs (Nat.le_of_lt hk)]; rfl
      have RU := Lib.hid ru
      have RS := Lib.hid rs
      have R5 := Lib.hid r5
      clear ru rs r5 rj roj rsb rob rT r0 rlb rol rlt
      go_wp2_with fail
      go_ret
      exact ⟨rfl, clean o_r, v_r, clean_no5 _, Upd.clean RU.out H5.out, ⟨RS.out.clean, SYM.out⟩⟩
    · have em : (((m + 1 : Nat) : Int) - 1) = (m : Nat) := by omega
      rw [em] at rlb
      have c0 : wr.cell? ⟨lb, 0, none⟩ = some (.int .i64 (m : Nat)) := by rw [Joins.cell_of_block rlb]; rfl
      have cs : wr.cell? ⟨w.heap.size + 1, 0, none⟩ = some (.int .i64 s) := by rw [Joins.cell_of_block rsb]; rfl
      have hm9 : m < 9 := by omega
      obtain ⟨q, hq⟩ : ∃ q, q = pathN s m := ⟨_, rfl⟩
      have hq2 : q < 2 ^ m := by rw [hq]; exact path_lt s m hs (by omega)
      obtain ⟨N, hN⟩ : ∃ N, N = 2 ^ m := ⟨_, rfl⟩
      have hqN : q < N := by omega
      have hNle : N ≤ 256 := by rw [hN]; exact Nat.pow_le_pow_right (by omega) (show m ≤ 8 by omega)
      have hmz : (m : Int) < 9 := by omega
      have ct := rs.top.cs m hm9
      have hsh : shV S sc m = .slice (some ⟨S m, 0, none⟩) N (sc m) := by rw [hN]; rfl
      rw [hsh] at ct
      obtain ⟨r0', r1, r2⟩ := rs.row m hm9 q hq2
      have PA := Lib.hid (fun wx => spath_any s m hs hm9 wx)
      have F0 := Lib.hid (show (wr.cell? ⟨lb, 0, none⟩ = some (.int .i64 (m : Nat)) ∧ wr.cell? ⟨w.heap.size + 1, 0, none⟩ = some (.int .i64 s) ∧ wr.cell? ⟨wb, m, none⟩ = some (.slice (some ⟨S m, 0, none⟩) N (sc m)) ∧ wr.cell? ⟨S m, q * 3, none⟩ = some (.pointer (some ⟨tb m q, 0, none⟩)) ∧ wr.cell? ⟨S m, q * 3 + 1, none⟩ = some (.int .i64 m) ∧ wr.cell? ⟨S m, q * 3 + 2, none⟩ = some (.int .i64 q)) from ⟨c0, cs, ct, r0', r1, r2⟩)
      have LK := Lib.hid (wlook_sel o_r wb L.length w.heap.size (w.heap.size + 1) lb s m k q S sc tb L v_r wr.drew (rs.keep (d := fun _ => False) ((Upd.refl _ _ _).drew) (by simp) (by simp) (by simp)) (rT.upd ((Upd.refl o_r (fun _ => False) wr).drew) (by simp)) r0 hs hm9 hk HSK.out hq rj roj cs rob c0 rol)
      have NX := Lib.hid (fun (w3 : World) o3 v3 u3 s3 j3 oj3 => sel_next (o := o) (w := w) (w3 := w3) (wb := wb) (k := k) (S := S) (sc := sc) (tb := tb) (L := L) (m := m) (o3 := o3) (v3 := v3) H5.out (Nat.le_refl _) ru rsb rob rT r0 (code_ge m q) u3 r5 s3 j3 oj3 (by omega))
      have FN := Lib.hid (fun (w3 : World) o3 v3 (u3 : Upd o_r (lk (code m q)) wr.drew w3 o3) (s3 : IsSh w3 o3 wb L.length S sc tb (bitsOf L) v3) =>
        (show (wr.heap.size ≤ w3.heap.size ∧ w3.frozen? ⟨lb, 0, none⟩ = false) ∧ w3.cell? ⟨lb, 0, none⟩ = some (.int .i64 (m : Nat)) ∧ w3.cell? ⟨w.heap.size + 1, 0, none⟩ = some (.int .i64 s) ∧ w3.cell? ⟨wb, m, none⟩ = some (.slice (some ⟨S m, 0, none⟩) N (sc m)) ∧ w3.cell? ⟨S m, q * 3, none⟩ = some (.pointer (some ⟨tb m q, 0, none⟩)) ∧ w3.cell? ⟨S m, q * 3 + 1, none⟩ = some (.int .i64 m) ∧ w3.cell? ⟨S m, q * 3 + 2, none⟩ = some (.int .i64 q) from by
          have hlk : ¬ lk (code m q) 0 := by have := code_ge m q; unfold lk cl tr; omega
          have a1 := (u3.heap (b := lb) rlb (by rw [rol]; exact hlk)).1
          have a2 := (u3.heap (b := w.heap.size + 1) rsb (by rw [rob]; exact hlk)).1
          have a3 := s3.top.cs m hm9
          rw [hsh] at a3
          exact ⟨⟨u3.size, Joins.unfrozen_of_block a1 0⟩, by rw [Joins.cell_of_block a1]; rfl, by rw [Joins.cell_of_block a2]; rfl, a3, s3.row m hm9 q hq2⟩))
      rw [← hq] at PA
      unfold shelfV at LK
      clear ru rs r5 rj roj rsb rob rT r0 rlb rol rlt hq hq2 hN hsh em
      go_wp2_with fail
      go_region_held3 (fun wz => wz.cell? ⟨lb, 0, none⟩ = some (.int .i64 (m : Nat)) ∧ wz.cell? ⟨w.heap.size + 1, 0, none⟩ = some (.int .i64 s) ∧ wz.cell? ⟨wb, m, none⟩ = some (.slice (some ⟨S m, 0, none⟩) N (sc m)) ∧ wz.cell? ⟨S m, q * 3, none⟩ = some (.pointer (some ⟨tb m q, 0, none⟩)) ∧ wz.cell? ⟨S m, q * 3 + 1, none⟩ = some (.int .i64 m) ∧ wz.cell? ⟨S m, q * 3 + 2, none⟩ = some (.int .i64 q)) (first | exact F0.out | exact F3.out.2) (first | (go_at_call 153; refine (PA.out _).mono ?_; rintro e w' ⟨rfl, rfl⟩) | (go_at_call 133; refine LK.out.mono ?_; rintro e w3 ⟨rfl, o3, v3, u3, s3, j3, oj3⟩; have F3 := Lib.hid (FN.out w3 o3 v3 u3 s3); have N3 := Lib.hid (NX.out w3 o3 v3 u3 s3 j3 oj3); clear u3 s3 j3 oj3))
      all_goals
        obtain ⟨⟨z3, f3⟩, l3, _⟩ := F3.out
        have Z3 := Lib.hid z3
        clear F0 c0 cs ct r0' r1 r2 LK NX FN PA
        go_wp2_with fail
      all_goals go_roundg m
      all_goals first
        | omega
        | exact ⟨_, rfl, N3.out _ (fun o' => (Upd.start o' (fun _ => False) w3 0).alloc _) (heap_alloc_new w3 _)⟩
end Go.Proofs.YtnadgcgnediakaaGreatDoor
