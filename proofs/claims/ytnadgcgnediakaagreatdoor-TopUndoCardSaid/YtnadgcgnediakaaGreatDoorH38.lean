/- What is found in the text 'banana'. The walk of script.Run over the four steps of told. -/
import Derived.Test.YtnadgcgnediakaaGreatDoorH37
import Derived.Test.YtnadgcgnediakaaGreatDoorH35
import Derived.Test.YtnadgcgnediakaaGreatDoorH34
import Derived.Test.YtnadgcgnediakaaGreatDoorH06
namespace Go.Proofs.YtnadgcgnediakaaGreatDoor
open Wd

/-- rows hang on the letters alone -/
theorem ix_cnt {n : Nat} {s ix : Nat → Nat} (hr : Wd.Rows n ix) (hc : Wd.Cons n s ix) (h0 : s n = 0) (hs : ∀ p, p < n → 0 < s p) (p : Nat) (hp : p ≤ n) : ix p = cnt (fun q => lessR n s n q p) (n + 1) := by
  have h1 : cnt (fun q => lessR n s n q p) (n + 1) = cnt (fun q => decide (ix q < ix p)) (n + 1) := cnt_congr _ fun q hq => by
    have := less_rows hr hc h0 hs n q p (by omega) hp (by omega)
    rw [Bool.eq_iff_iff, this, decide_eq_true_eq]
  have h2 := cnt_bij (n + 1) ix (fun r => decide (r < ix p)) (fun i hi => by have := hr.lt i (by omega); omega) (fun i j hi hj e => hr.inj i j (by omega) (by omega) e)
  have h3 := cnt_lt (ix p) (n + 1)
  have := hr.lt p hp
  rw [h1, h2, h3]
  omega
def zB : Nat → Fin 256 := fun j => if j = 0 then 98 else if j = 2 then 110 else if j = 4 then 110 else 97
def zA : Nat → Fin 256 := fun j => if j = 1 then 110 else 97
def sB : Nat → Nat := sInM Z0 0 zB 6
def lB : List Nat := [98, 111, 111, 99, 0, 98, 98]
def cB : Nat → Nat := fun i => cnt (fun q => decide (sB q = i)) 7
section
variable {ix : Nat → Nat} {L : List Nat} {C : Nat → Nat} {all : Nat}
theorem ban_ix (ar : Arr 6 sB ix L C all) (hc : Wd.Cons 6 sB ix) : ix 0 = 4 ∧ ix 1 = 3 ∧ ix 2 = 6 ∧ ix 3 = 2 ∧ ix 4 = 5 ∧ ix 5 = 1 ∧ ix 6 = 0 := by
  have h := fun p hp => ix_cnt ar.rows hc ar.s0 ar.sp p hp
  refine ⟨?_, ?_, ?_, ?_, ?_, ?_, ?_⟩
  · rw [h 0 (by omega)]; decide
  · rw [h 1 (by omega)]; decide
  · rw [h 2 (by omega)]; decide
  · rw [h 3 (by omega)]; decide
  · rw [h 4 (by omega)]; decide
  · rw [h 5 (by omega)]; decide
  · rw [h 6 (by omega)]; decide
theorem ban_L (ar : Arr 6 sB ix L C all) (hc : Wd.Cons 6 sB ix) : L = lB := by
  obtain ⟨h0, h1, h2, h3, h4, h5, h6⟩ := ban_ix ar hc
  have g := ar.isL
  have g0 := g 0 (by omega)
  have g1 := g 1 (by omega)
  have g2 := g 2 (by omega)
  have g3 := g 3 (by omega)
  have g4 := g 4 (by omega)
  have g5 := g 5 (by omega)
  have g6 := g 6 (by omega)
  rw [show nx 6 0 = 1 by decide, h1, show sB 0 = 99 by decide] at g0
  rw [show nx 6 1 = 2 by decide, h2, show sB 1 = 98 by decide] at g1
  rw [show nx 6 2 = 3 by decide, h3, show sB 2 = 111 by decide] at g2
  rw [show nx 6 3 = 4 by decide, h4, show sB 3 = 98 by decide] at g3
  rw [show nx 6 4 = 5 by decide, h5, show sB 4 = 111 by decide] at g4
  rw [show nx 6 5 = 6 by decide, h6, show sB 5 = 98 by decide] at g5
  rw [show nx 6 6 = 0 by decide, h0, show sB 6 = 0 by decide] at g6
  have hl := ar.len
  match L, hl with
  | [a, b, c, d, e, f, k], _ =>
    simp at g0 g1 g2 g3 g4 g5 g6
    subst g0 g1 g2 g3 g4 g5 g6
    rfl
theorem ban_C (ar : Arr 6 sB ix L C all) : C = cB := funext ar.cC
set_option maxRecDepth 100000 in
theorem ban_nar : narN lB cB 6 (came 3 zA 3) = (2, 4) := by decide +kernel
theorem ban_found (ar : Arr 6 sB ix L C all) (hc : Wd.Cons 6 sB ix) : narN L C 6 (came 3 zA 3) = (2, 4) := by
  rw [ban_L ar hc, ban_C ar]
  exact ban_nar
theorem ban_places (ar : Arr 6 sB ix L C all) (hc : Wd.Cons 6 sB ix) (pl : Nat → Nat) (hpl : ∀ r, r ≤ 6 → pl r ≤ 6 ∧ ix (pl r) = r) : (placesZ pl 2 2).mergeSort (fun x y => decide (x ≤ y)) = [1, 3] := by
  obtain ⟨h0, h1, h2, h3, h4, h5, h6⟩ := ban_ix ar hc
  have e2 : pl 2 = 3 := ar.rows.inj _ _ (hpl 2 (by omega)).1 (by omega) (by rw [(hpl 2 (by omega)).2, h3])
  have e3 : pl 3 = 1 := ar.rows.inj _ _ (hpl 3 (by omega)).1 (by omega) (by rw [(hpl 3 (by omega)).2, h1])
  have : placesZ pl 2 2 = [3, 1] := by
    unfold placesZ
    simp [List.range_succ, e2, e3]
  rw [this]
  simp [List.mergeSort, List.MergeSort.Internal.splitInTwo]
theorem ban_piece : pieceV sB 1 3 = [.int .u8 97, .int .u8 110, .int .u8 97] := by kernel_rfl
end
end Go.Proofs.YtnadgcgnediakaaGreatDoor
namespace Go.Proofs.YtnadgcgnediakaaGreatDoor
open Go.ChangeShapes Go.WideShapes Go.ChangeAt Go.RowKit Go.Deep

theorem info30 : (Tryz.prog.info? 30).map (fun i => (i.zero, i.size, i.bytes)) = some (some (.agg #[.int .i64 0, .int .i64 0, .slice none 0 0, .slice none 0 0]), 4, 64) := by kernel_rfl
/-- a row of answers beside a live text -/
structure Sit (o : Nat → Nat) (w : World) (A : At) (lb pb rate sb most N : Nat) (ix : Nat → Nat) (S : Nat → Bool) (L : List Nat) (C : Nat → Nat) (all : Nat) (v : Value) (k : Nat) (xs : List Value) (wr : World) (o' : Nat → Nat) : Prop where
  u : Upd o gl w wr o'
  li : IsLive wr o' A lb pb rate N ix S L C all
  st : wr.heap[sb]? = some (stC lb most)
  os : o' sb = 3
  ow : Owned wr o' 6 30 4 v k xs
  nb : ∀ g, v.ownBlock = some g → w.heap.size ≤ g
section
variable {o : Nat → Nat} {w wr w2 : World} {A : At} {lb pb rate sb most N N' : Nat} {ix ix' : Nat → Nat} {S S' : Nat → Bool} {L L' : List Nat} {C C' : Nat → Nat} {all all' : Nat} {v : Value} {k : Nat} {xs : List Value} {o' o2 : Nat → Nat}
theorem Sit.alloc (h : Sit o w A lb pb rate sb most N ix S L C all v k xs wr o') (x : Obj) : Sit o w A lb pb rate sb most N ix S L C all v k xs (wr.alloc x) (ext o' wr.heap.size 6) := by
  have uu : Upd o' (fun _ => False) wr (wr.alloc x) (ext o' wr.heap.size 6) := (Upd.start o' _ wr 6).alloc x
  have s := uu.heap h.st (by simp)
  exact ⟨h.u.trans uu (fun _ h => h.elim), h.li.keep uu (ext_no5 h.li.n5 _ (by omega)) (by simp), s.1, s.2.trans h.os, h.ow.keep uu (by simp), h.nb⟩
theorem Sit.call (h : Sit o w A lb pb rate sb most N ix S L C all v k xs wr o') (u : Upd o' gl wr w2 o2) (kk : IsLive w2 o2 A lb pb rate N' ix' S' L' C' all') : Sit o w A lb pb rate sb most N' ix' S' L' C' all' v k xs w2 o2 := by
  have s := u.heap h.st (by rw [h.os]; unfold gl; omega)
  exact ⟨h.u.trans u (fun _ h => h), kk, s.1, s.2.trans h.os, h.ow.keep u (by unfold gl; omega), h.nb⟩
theorem Sit.app (h : Sit o w A lb pb rate sb most N ix S L C all v k xs wr o') {v' : Value} {m : Nat} {ys : List Value} (hown : w2.ownsRow 0 30 4 v' m ys) (hgr : wr.grownBy w2 v.ownBlock) (hat : ∀ g, v'.ownBlock = some g → v.ownBlock = some g ∨ wr.heap.size ≤ g) : Sit o w A lb pb rate sb most N ix S L C all v' m ys w2 (ext o' wr.heap.size 6) := by
  have uu : Upd o' (fun x => x = 6) wr w2 (ext o' wr.heap.size 6) := (Upd.start o' _ wr 6).grown hgr (fun b hb => .inr (h.ow.2 b hb))
  have s := uu.heap h.st (by rw [h.os]; omega)
  refine ⟨(h.u.ext 6).grown hgr (fun b hb => .inl (h.nb b hb)), h.li.keep uu (ext_no5 h.li.n5 _ (by omega)) (by omega), s.1, s.2.trans h.os, ⟨hown, fun g hg => ?_⟩, fun g hg => ?_⟩
  · rcases hat g hg with e | e
    · rw [ext_old (ownBlock_lt h.ow.1 e)]; exact h.ow.2 g e
    · exact ext_new e
  · rcases hat g hg with e | e
    · exact h.nb g e
    · have := h.u.size; omega
/-- another row beside it -/
theorem Sit.far (h : Sit o w A lb pb rate sb most N ix S L C all v k xs wr o') {e : TypeId} {size n : Nat} {v' : Value} {ys : List Value} (ho : Owned wr o' 6 e size v' n ys) (hne : e ≠ 30) (hgr : wr.grownBy w2 v.ownBlock) : Owned w2 (ext o' wr.heap.size 6) 6 e size v' n ys := by
  refine ⟨owns_same ho.1 fun j hj => hgr.block j (ownBlock_lt ho.1 hj) ?_, fun j hj => (ext_old (ownBlock_lt ho.1 hj)).trans (ho.2 j hj)⟩
  intro e2
  rcases ho.1.2 with ⟨hv, _⟩ | ⟨g, cap, cur, rfl, _, hg, _⟩
  · rw [hv] at hj; simp [Value.ownBlock] at hj
  · have : g = j := by simpa [Value.ownBlock] using hj
    subst this
    exact owns_ne h.ow.1 hg (fun e => hne e.symm) e2.symm
/-- what lies there from before -/
theorem Sit.old (h : Sit o w A lb pb rate sb most N ix S L C all v k xs wr o') {b : Nat} (hb : b < w.heap.size) (h6 : o b = 6) : wr.heap[b]? = w.heap[b]? ∧ o' b = 6 :=
  ⟨h.u.same b hb (by rw [h6]; unfold gl; omega), (h.u.own b hb).trans h6⟩
end
/-- bytes in a block of their own -/
theorem bySl_block {w : World} {b n : Nat} {z : Nat → Fin 256} {cs : Array Value} {t : TypeId} {fr : Nat × Nat} (hb : w.heap[b]? = some (.cells cs t fr)) (hcs : cs.toList = byV z n) (c : Nat) : BySl w (.slice (some ⟨b, 0, none⟩) n c) (byV z n) := by
  refine ⟨fun u hu => ?_, .inr (.inl ⟨b, 0, c, by rw [byV_len], lt_of_block hb, fun j u hu => ?_⟩)⟩
  · unfold byV at hu
    obtain ⟨j, _, rfl⟩ := List.mem_map.1 hu
    rfl
  · rw [Joins.cell_of_block hb]
    show cs[0 + j]? = some u
    rw [Nat.zero_add, ← Array.getElem?_toList, hcs]
    exact hu
theorem mine_block {o : Nat → Nat} {b n c : Nat} (h : o b = 6) : Mine o (.slice (some ⟨b, 0, none⟩) n c) := by
  intro b' off m c' e _
  cases e
  rw [h]
  unfold gl
  omega
def banC : Array Value := #[.int .u8 98, .int .u8 97, .int .u8 110, .int .u8 97, .int .u8 110, .int .u8 97]
def anaC : Array Value := #[.int .u8 97, .int .u8 110, .int .u8 97]
theorem banC_eq : banC.toList = byV zB 6 := by kernel_rfl
theorem anaC_eq : anaC.toList = byV zA 3 := by kernel_rfl
theorem nil_bySl (w : World) (z : Nat → Fin 256) : BySl w (.slice none 0 0) (byV z 0) := ⟨by simp [byV], .inl ⟨rfl, rfl⟩⟩
theorem four_one (a b c d : Value) (ha : a.oneCell' = true) (hb : b.oneCell' = true) (hc : c.oneCell' = true) (hd : d.oneCell' = true) : ∀ u ∈ [a, b, c, d], u.oneCell' = true := by
  intro u hu
  simp only [List.mem_cons, List.not_mem_nil, or_false] at hu
  rcases hu with rfl | rfl | rfl | rfl
  · exact ha
  · exact hb
  · exact hc
  · exact hd
/-- the four steps -/
def stepsC (H : Nat) : Array Value := #[.int .i64 1, .int .i64 0, .int .i64 0, .slice (some ⟨H, 0, none⟩) 6 6, .int .i64 6, .int .i64 0, .int .i64 0, .slice (some ⟨H + 1, 0, none⟩) 3 3, .int .i64 7, .int .i64 0, .int .i64 0, .slice (some ⟨H + 2, 0, none⟩) 3 3, .int .i64 5, .int .i64 1, .int .i64 3, .slice none 0 0]
set_option maxRecDepth 20000 in
set_option maxHeartbeats 4000000 in
theorem run_ban (o : Nat → Nat) (w : World) (A : At) (lb pb sb H : Nat) (h : IsLive w o A lb pb 4 0 Z0 S0 [0] C0 1) (hs : w.heap[sb]? = some (stC lb 20)) (os : o sb = 3)
    (f0 f1 f2 : Nat × Nat) (b0 : w.heap[H]? = some (.cells banC 5 f0)) (b1 : w.heap[H + 1]? = some (.cells anaC 5 f1)) (b2 : w.heap[H + 2]? = some (.cells anaC 5 f2)) (b3 : w.heap[H + 3]? = some (.cells (stepsC H) 33 (0, 0))) (ob : o H = 6 ∧ o (H + 1) = 6 ∧ o (H + 2) = 6 ∧ o (H + 3) = 6) :
    Calls Tryz.prog 12 #[.pointer (some ⟨sb, 0, none⟩), .slice (some ⟨H + 3, 0, none⟩) 4 4] w fun e w' => ∃ g c v2 v3 ix S L C o', e = .returned (.slice (some ⟨g, 0, none⟩) 4 c) ∧ Arr 6 sB ix L C 7 ∧ Wd.Cons 6 sB ix ∧ Wd.Cov S 6 4 ∧
      Sit o w A lb pb 4 sb 20 6 ix S L C 7 (.slice (some ⟨g, 0, none⟩) 4 c) 4 [.int .i64 0, .int .i64 0, .slice none 0 0, .slice none 0 0, .int .i64 0, .int .i64 2, .slice none 0 0, .slice none 0 0, .int .i64 0, .int .i64 2, .slice none 0 0, v2, .int .i64 0, .int .i64 0, v3, .slice none 0 0] w' o' ∧
      w'.ownsRow 0 3 1 v2 2 [.int .i64 1, .int .i64 3] ∧ w'.ownsRow 0 5 1 v3 3 [.int .u8 97, .int .u8 110, .int .u8 97] := by
  have ST0 := Lib.hid (show Sit o w A lb pb 4 sb 20 0 Z0 S0 [0] C0 1 (.slice none 0 0) 0 [] w o from ⟨Upd.refl _ _ _, h, hs, os, ⟨World.ownsRow_nil _ _ _ _, by simp [Value.ownBlock]⟩, by simp [Value.ownBlock]⟩)
  have B0 := Lib.hid b0
  have B1 := Lib.hid b1
  have B2 := Lib.hid b2
  have B3 := Lib.hid b3
  have OB := Lib.hid ob
  have R3 := Lib.hid (show ∀ wr : World, wr.heap[H + 3]? = w.heap[H + 3]? → ∀ j u, (stepsC H)[j]? = some u → wr.cell? ⟨H + 3, j, none⟩ = some u from fun wr e j u hu => by rw [World.cell?_of_block (w := w) (a := ⟨H + 3, j, none⟩) e, Joins.cell_of_block b3]; exact hu)
  obtain ⟨i30, hi, hz0, hz1, hz2⟩ := info_parts info30
  have HI := Lib.hid (And.intro hi (And.intro hz0 (And.intro hz1 hz2)))
  have c0 : (w).cell? ⟨H + 3, 0, none⟩ = some (.int .i64 1) := R3.out w rfl 0 _ rfl
  have c1 : (w).cell? ⟨H + 3, 1, none⟩ = some (.int .i64 0) := R3.out w rfl 1 _ rfl
  have c2 : (w).cell? ⟨H + 3, 2, none⟩ = some (.int .i64 0) := R3.out w rfl 2 _ rfl
  have c3 : (w).cell? ⟨H + 3, 3, none⟩ = some (.slice (some ⟨H, 0, none⟩) 6 6) := R3.out w rfl 3 _ rfl
  clear h hs os b0 b1 b2 b3 ob hi hz0 hz1 hz2
  go_enter Tryz.func12, Tryz.ntmps12
  go_wp2_with fail
  go_enter Tryz.func32, Tryz.ntmps32
  go_wp2_with fail
  refine wp_loop_rounds 5 ?_
  rw [rounds_succ]
  go_wp2_with fail
  have s1 := ST0.out.alloc (.cells #[.int .i64 1, .int .i64 0, .int .i64 0, .slice (some ⟨H, 0, none⟩) 6 6] 33)
  obtain ⟨W1, hW1⟩ : ∃ W1, W1 = w.alloc (.cells #[.int .i64 1, .int .i64 0, .int .i64 0, .slice (some ⟨H, 0, none⟩) 6 6] 33) := ⟨_, rfl⟩
  rw [← hW1] at s1 ⊢
  have k0 := s1.old (lt_of_block B0.out) OB.out.1
  have IN := Lib.hid (sdo_ins s1.li s1.st s1.os arr0 cons0 (cov0 4 (by omega)) 6 (by omega) (by omega) (by omega) 0 (by omega) (by omega) (by omega) 0 (.slice (some ⟨H, 0, none⟩) 6 6) zB (bySl_block (k0.1.trans B0.out) banC_eq 6) (mine_block k0.2))
  have S1 := Lib.hid s1
  clear s1 k0 hW1 c0 c1 c2 c3
  refine IN.out.mono ?_
  rintro e w2 ⟨rfl, ix, S, L, C, ar, hc, hcov, o2, u2, k2⟩
  have AR := Lib.hid (show Arr 6 sB ix L C 7 from ar)
  have CO := Lib.hid (show Wd.Cons 6 sB ix from hc)
  have CV := Lib.hid (show Wd.Cov S 6 4 from hcov)
  have S2 := Lib.hid (S1.out.call u2 k2)
  clear ar hc hcov u2 k2
  have A0 := Lib.hid (S2.out.alloc (.cells #[.int .i64 0, .int .i64 0, .slice none 0 0, .slice none 0 0] 30))
  unfold resV
  go_wp2_with (first | (at_builtin; go_loud (refine wpList_append_where _ rfl _ _ 48 rfl 30 i30 _ 4 64 Tryz.underlying48 HI.out.1 HI.out.2.1 HI.out.2.2.1 HI.out.2.2.2 rfl (by decide) (.slice none 0 0) 0 [] rfl A0.out.ow.1 ⟨w2.heap.size, 0, none⟩ 1 1 [.int .i64 0, .int .i64 0, .slice none 0 0, .slice none 0 0] rfl rfl (new_four w2 _ _ _ _ 30) (four_one _ _ _ _ rfl rfl rfl rfl) (by decide) (by decide) ?_)) | fail)
  intro v1 w3 hown hgr hat
  obtain ⟨g1, p1, rfl, _, _⟩ := own_form hown (by omega)
  have T1 := Lib.hid (A0.out.app hown hgr (by simpa only [World.size_alloc] using hat))
  clear hown hgr hat
  have kq := T1.out.old (lt_of_block B3.out) OB.out.2.2.2
  have c0 : w3.cell? ⟨H + 3, 4, none⟩ = some (.int .i64 6) := R3.out w3 kq.1 4 _ rfl
  have c1 : w3.cell? ⟨H + 3, 5, none⟩ = some (.int .i64 0) := R3.out w3 kq.1 5 _ rfl
  have c2 : w3.cell? ⟨H + 3, 6, none⟩ = some (.int .i64 0) := R3.out w3 kq.1 6 _ rfl
  have c3 : w3.cell? ⟨H + 3, 7, none⟩ = some (.slice (some ⟨H + 1, 0, none⟩) 3 3) := R3.out w3 kq.1 7 _ rfl
  clear kq
  go_wp2_with fail
  rw [rounds_succ]
  go_wp2_with fail
  have s1 := T1.out.alloc (.cells #[.int .i64 6, .int .i64 0, .int .i64 0, .slice (some ⟨H + 1, 0, none⟩) 3 3] 33)
  obtain ⟨X1, hX1⟩ : ∃ X, X = w3.alloc (.cells #[.int .i64 6, .int .i64 0, .int .i64 0, .slice (some ⟨H + 1, 0, none⟩) 3 3] 33) := ⟨_, rfl⟩
  rw [← hX1] at s1 ⊢
  have k0 := s1.old (lt_of_block B1.out) OB.out.2.1
  have IN := Lib.hid (show Calls Tryz.prog 7 #[.pointer (some ⟨sb, 0, none⟩), stepV 6 0 0 (.slice (some ⟨H + 1, 0, none⟩) 3 3)] X1 fun e w' => e = .returned (resV 0 2 (.slice none 0 0) (.slice none 0 0)) ∧ RdL _ X1 A lb pb 4 6 ix S L C 7 w' from by
    have h := sdo_count s1.li s1.st s1.os AR.out (by omega) 0 0 (.slice (some ⟨H + 1, 0, none⟩) 3 3) 3 zA (bySl_block (k0.1.trans B1.out) anaC_eq 3) (by omega)
    rw [ban_found AR.out CO.out] at h
    exact h)
  have P1 := Lib.hid s1
  clear s1 k0 hX1 c0 c1 c2 c3
  refine IN.out.mono ?_
  rintro e w4 ⟨rfl, o4, u4, k4⟩
  have Q1 := Lib.hid (P1.out.call u4 k4)
  clear u4 k4
  have A1 := Lib.hid (Q1.out.alloc (.cells #[.int .i64 0, .int .i64 2, .slice none 0 0, .slice none 0 0] 30))
  unfold resV
  go_wp2_with (first | (at_builtin; go_loud (refine wpList_append_where _ rfl _ _ 48 rfl 30 i30 _ 4 64 Tryz.underlying48 HI.out.1 HI.out.2.1 HI.out.2.2.1 HI.out.2.2.2 rfl (by decide) (.slice (some ⟨g1, 0, none⟩) 1 p1) 1 [.int .i64 0, .int .i64 0, .slice none 0 0, .slice none 0 0] rfl A1.out.ow.1 ⟨w4.heap.size, 0, none⟩ 1 1 [.int .i64 0, .int .i64 2, .slice none 0 0, .slice none 0 0] rfl rfl (new_four w4 _ _ _ _ 30) (four_one _ _ _ _ rfl rfl rfl rfl) (by decide) (by decide) ?_)) | fail)
  intro v2 w5 hown hgr hat
  obtain ⟨g2, p2, rfl, _, _⟩ := own_form hown (by omega)
  have T2 := Lib.hid (A1.out.app hown hgr (by simpa only [World.size_alloc] using hat))
  clear hown hgr hat
  have kq := T2.out.old (lt_of_block B3.out) OB.out.2.2.2
  have c0 : w5.cell? ⟨H + 3, 8, none⟩ = some (.int .i64 7) := R3.out w5 kq.1 8 _ rfl
  have c1 : w5.cell? ⟨H + 3, 9, none⟩ = some (.int .i64 0) := R3.out w5 kq.1 9 _ rfl
  have c2 : w5.cell? ⟨H + 3, 10, none⟩ = some (.int .i64 0) := R3.out w5 kq.1 10 _ rfl
  have c3 : w5.cell? ⟨H + 3, 11, none⟩ = some (.slice (some ⟨H + 2, 0, none⟩) 3 3) := R3.out w5 kq.1 11 _ rfl
  clear kq
  go_wp2_with fail
  rw [rounds_succ]
  go_wp2_with fail
  have s2 := T2.out.alloc (.cells #[.int .i64 7, .int .i64 0, .int .i64 0, .slice (some ⟨H + 2, 0, none⟩) 3 3] 33)
  obtain ⟨X2, hX2⟩ : ∃ X, X = w5.alloc (.cells #[.int .i64 7, .int .i64 0, .int .i64 0, .slice (some ⟨H + 2, 0, none⟩) 3 3] 33) := ⟨_, rfl⟩
  rw [← hX2] at s2 ⊢
  have k0 := s2.old (lt_of_block B2.out) OB.out.2.2.1
  obtain ⟨pl, hpl⟩ := AR.out.place
  have IN := Lib.hid (show Calls Tryz.prog 7 #[.pointer (some ⟨sb, 0, none⟩), stepV 7 0 0 (.slice (some ⟨H + 2, 0, none⟩) 3 3)] X2 fun e w' => ∃ v, e = .returned (resV 0 2 (.slice none 0 0) v) ∧ StV _ X2 A lb pb 4 6 ix S L C 7 3 1 v 2 [.int .i64 1, .int .i64 3] w' from by
    have h := sdo_loc s2.li s2.st s2.os AR.out (by omega) 0 0 (.slice (some ⟨H + 2, 0, none⟩) 3 3) 3 zA (bySl_block (k0.1.trans B2.out) anaC_eq 3) (by omega) CO.out CV.out.z pl hpl
    rw [ban_found AR.out CO.out] at h
    simp only [Nat.reduceSub] at h
    rw [ban_places AR.out CO.out pl hpl] at h
    exact h)
  have P2 := Lib.hid s2
  clear s2 k0 hX2 c0 c1 c2 c3
  refine IN.out.mono ?_
  rintro e w6 ⟨v, rfl, o6, u6, k6, own6, nb6⟩
  obtain ⟨pa, pc, rfl⟩ := own_shape own6.1
  have Q2 := Lib.hid (P2.out.call u6 k6)
  have F2 := Lib.hid (own6.keep (o1 := ext o6 w6.heap.size 6) (d := fun _ => False) ((Upd.start o6 _ w6 6).alloc (.cells #[.int .i64 0, .int .i64 2, .slice none 0 0, .slice pa 2 pc] 30)) (by simp))
  clear u6 k6 own6 nb6
  have A2 := Lib.hid (Q2.out.alloc (.cells #[.int .i64 0, .int .i64 2, .slice none 0 0, .slice pa 2 pc] 30))
  unfold resV
  go_wp2_with (first | (at_builtin; go_loud (refine wpList_append_where _ rfl _ _ 48 rfl 30 i30 _ 4 64 Tryz.underlying48 HI.out.1 HI.out.2.1 HI.out.2.2.1 HI.out.2.2.2 rfl (by decide) (.slice (some ⟨g2, 0, none⟩) 2 p2) 2 [.int .i64 0, .int .i64 0, .slice none 0 0, .slice none 0 0, .int .i64 0, .int .i64 2, .slice none 0 0, .slice none 0 0] rfl A2.out.ow.1 ⟨w6.heap.size, 0, none⟩ 1 1 [.int .i64 0, .int .i64 2, .slice none 0 0, .slice pa 2 pc] rfl rfl (new_four w6 _ _ _ _ 30) (four_one _ _ _ _ rfl rfl rfl rfl) (by decide) (by decide) ?_)) | fail)
  intro v3 w7 hown hgr hat
  obtain ⟨g3, p3, rfl, _, _⟩ := own_form hown (by omega)
  have T3 := Lib.hid (A2.out.app hown hgr (by simpa only [World.size_alloc] using hat))
  have F3 := Lib.hid (A2.out.far F2.out (by decide) hgr)
  clear hown hgr hat
  have kq := T3.out.old (lt_of_block B3.out) OB.out.2.2.2
  have c0 : w7.cell? ⟨H + 3, 12, none⟩ = some (.int .i64 5) := R3.out w7 kq.1 12 _ rfl
  have c1 : w7.cell? ⟨H + 3, 13, none⟩ = some (.int .i64 1) := R3.out w7 kq.1 13 _ rfl
  have c2 : w7.cell? ⟨H + 3, 14, none⟩ = some (.int .i64 3) := R3.out w7 kq.1 14 _ rfl
  have c3 : w7.cell? ⟨H + 3, 15, none⟩ = some (.slice none 0 0) := R3.out w7 kq.1 15 _ rfl
  clear kq
  go_wp2_with fail
  rw [rounds_succ]
  go_wp2_with fail
  have s3 := T3.out.alloc (.cells #[.int .i64 5, .int .i64 1, .int .i64 3, .slice none 0 0] 33)
  obtain ⟨X3, hX3⟩ : ∃ X, X = w7.alloc (.cells #[.int .i64 5, .int .i64 1, .int .i64 3, .slice none 0 0] 33) := ⟨_, rfl⟩
  rw [← hX3] at s3 ⊢
  have f3 := F3.out.keep (o1 := ext (ext (ext o6 w6.heap.size 6) (w6.alloc (.cells #[.int .i64 0, .int .i64 2, .slice none 0 0, .slice pa 2 pc] 30)).heap.size 6) w7.heap.size 6) (w1 := X3) (d := fun _ => False) (by rw [hX3]; exact (Upd.start _ _ w7 6).alloc _) (by simp)
  have IN := Lib.hid (show Calls Tryz.prog 7 #[.pointer (some ⟨sb, 0, none⟩), stepV 5 1 3 (.slice none 0 0)] X3 fun e w' => ∃ v, e = .returned (resV 0 0 v (.slice none 0 0)) ∧ StV _ X3 A lb pb 4 6 ix S L C 7 5 1 v 3 [.int .u8 97, .int .u8 110, .int .u8 97] w' from by
    have h := sdo_take s3.li s3.st s3.os AR.out (by omega) CO.out 1 3 (by omega) (.slice none 0 0) 0 zA (nil_bySl _ _)
    rw [ban_piece] at h
    exact h)
  have P3 := Lib.hid s3
  have F4 := Lib.hid f3
  clear s3 hX3 c0 c1 c2 c3 f3
  refine IN.out.mono ?_
  rintro e w8 ⟨v, rfl, o8, u8, k8, own8, nb8⟩
  obtain ⟨ta, tc, rfl⟩ := own_shape own8.1
  have Q3 := Lib.hid (P3.out.call u8 k8)
  have f5 := F4.out.keep u8 (by unfold gl; omega)
  have F5 := Lib.hid (f5.keep (o1 := ext o8 w8.heap.size 6) (d := fun _ => False) ((Upd.start o8 _ w8 6).alloc (.cells #[.int .i64 0, .int .i64 0, .slice ta 3 tc, .slice none 0 0] 30)) (by simp))
  have F6 := Lib.hid (own8.keep (o1 := ext o8 w8.heap.size 6) (d := fun _ => False) ((Upd.start o8 _ w8 6).alloc (.cells #[.int .i64 0, .int .i64 0, .slice ta 3 tc, .slice none 0 0] 30)) (by simp))
  clear u8 k8 own8 nb8 f5
  have A3 := Lib.hid (Q3.out.alloc (.cells #[.int .i64 0, .int .i64 0, .slice ta 3 tc, .slice none 0 0] 30))
  unfold resV
  go_wp2_with (first | (at_builtin; go_loud (refine wpList_append_where _ rfl _ _ 48 rfl 30 i30 _ 4 64 Tryz.underlying48 HI.out.1 HI.out.2.1 HI.out.2.2.1 HI.out.2.2.2 rfl (by decide) (.slice (some ⟨g3, 0, none⟩) 3 p3) 3 [.int .i64 0, .int .i64 0, .slice none 0 0, .slice none 0 0, .int .i64 0, .int .i64 2, .slice none 0 0, .slice none 0 0, .int .i64 0, .int .i64 2, .slice none 0 0, .slice pa 2 pc] rfl A3.out.ow.1 ⟨w8.heap.size, 0, none⟩ 1 1 [.int .i64 0, .int .i64 0, .slice ta 3 tc, .slice none 0 0] rfl rfl (new_four w8 _ _ _ _ 30) (four_one _ _ _ _ rfl rfl rfl rfl) (by decide) (by decide) ?_)) | fail)
  intro v4 w9 hown hgr hat
  obtain ⟨g4, p4, rfl, _, _⟩ := own_form hown (by omega)
  have T4 := Lib.hid (A3.out.app hown hgr (by simpa only [World.size_alloc] using hat))
  have F7 := Lib.hid (A3.out.far F5.out (by decide) hgr)
  have F8 := Lib.hid (A3.out.far F6.out (by decide) hgr)
  clear hown hgr hat
  go_wp2_with fail
  rw [rounds_succ]
  go_wp2_with fail
  go_ret
  exact ⟨g4, p4, .slice pa 2 pc, .slice ta 3 tc, ix, S, L, C, _, rfl, AR.out, CO.out, CV.out, T4.out, F7.out.1, F8.out.1⟩
end Go.Proofs.YtnadgcgnediakaaGreatDoor
