/- A region of a loop's body over an iterator: as anywhere else. The walk of find.Rows. The walks of find.Count, where.All. The walk of store.Do: a block put in; what only reads. -/
import Derived.Test.YtnadgcgnediakaaGreatDoorH32
import Derived.Test.YtnadgcgnediakaaGreatDoorH29
import Derived.TacticsIn
import Derived.RegionIn
import Derived.Shelf.Lay
import Derived.Deep.RegionHeld3
import Derived.Test.YtnadgcgnediakaaGreatDoorH24
namespace Go.Proofs.YtnadgcgnediakaaGreatDoor
open Go.ChangeShapes Go.WideShapes Go.ChangeAt Go.RowKit Go.Deep Go.Shelf

section
variable {P : Program} {ops : Array Oper} {Q : Exit → Act → World → Prop} {md : Region.Mode} {l n : Nat}
theorem oper_round {o : Oper} {a : Act} {w : World} {K : Act → World → Prop} (hd : ∀ c, o.op ≠ .defer c) (h : o.wp P a w K Q) : o.wpIn (Fence.wide.inRound l) n P a w K Q := by
  refine ⟨fun _ _ => trivial, ?_⟩
  rw [Oper.semAt_eq _ _ _ hd]
  unfold Oper.wp at h
  generalize (execOp a.eval o).run P w = r at h ⊢
  cases r with
  | ok x w' =>
    cases x <;> simp only [Oper.upon, Oper.uponIn] at h ⊢ <;>
      first
        | exact h
        | exact ⟨fun h => (by cases h), CallsIn.inRound l (callsIn_wide.2 h)⟩
        | exact ⟨fun h => (by cases h), fun c cs _ => by obtain ⟨v, w2, r, s⟩ := h c cs; exact ⟨v, w2, r, stepsIn_wide.2 s⟩⟩
  | halt x w' => cases x <;> simp only [Oper.upon, Oper.uponIn] at h ⊢ <;> exact h
theorem wpOp_round {i : Nat} {a : Act} {w : World} {K : Act → World → Prop} (hd : ∀ o, ops[i]? = some o → ∀ c, o.op ≠ .defer c) (hq : ¬ LetsOut Q) (h : wpOp P ops Q i K a w) : wpOpIn (Fence.wide.inRound l) n P ops Q i K a w := by
  unfold wpOp at h
  unfold wpOpIn
  cases ho : ops[i]? with
  | none =>
    rw [ho] at h
    exact h
  | some o =>
    rw [ho] at h
    simp only at h ⊢
    split
    · rename_i hw
      rw [if_pos hw] at h
      rcases h with h | h
      · exact oper_round (hd o ho) h
      · exact absurd h.2 hq
    · rename_i hw
      rw [if_neg hw] at h
      exact ⟨fun _ _ => trivial, h⟩
theorem wpAny_round (hd : ∀ (i : Nat) (o : Oper), ops[i]? = some o → ∀ c, o.op ≠ .defer c) (hq : ¬ LetsOut Q) : ∀ (fuel : Nat) (listed : Array Bool) (a : Act) (w : World), wpAny P md ops Q fuel listed a w → wpAnyIn (Fence.wide.inRound l) n P md ops Q fuel listed a w
  | 0, _, _, _, h => h
  | fuel + 1, _, _, _, h => ⟨h.1, fun i hi => wpOp_round (hd i) hq (wpOp_mono (fun a' w' h' => wpAny_round hd hq fuel _ a' w' h') (h.2 i hi))⟩
/-- no operation of these defers -/
def noDefer (ops : Array Oper) : Bool := ops.all fun o => match o.op with | .defer _ => false | _ => true
theorem noDefer_spec (h : noDefer ops = true) : ∀ (i : Nat) (o : Oper), ops[i]? = some o → ∀ c, o.op ≠ .defer c := by
  intro i o ho c hc
  unfold noDefer at h
  rw [Array.all_eq_true] at h
  obtain ⟨hi, rfl⟩ := Array.getElem?_eq_some_iff.1 ho
  have := h i hi
  rw [hc] at this
  simp at this
theorem wpIn_region_round {id : Nat} {a : Act} {w : World} (S : World → Prop) (hm : P.follows .mixedOrders = true) (hd : noDefer ops = true) (hq : ¬ LetsOut Q) (hS : S w.drew) (h : S w.drew → wpAnyH P .any ops Q S ops.size (Array.replicate ops.size false) a w.drew) : (Code.region id ops true).wpIn (Fence.wide.inRound l) n P Q a w :=
  wpIn_region_any hm (wpAny_round (noDefer_spec hd) hq _ _ _ _ (wpAny_of_held _ _ _ _ (h hS)))
end
end Go.Proofs.YtnadgcgnediakaaGreatDoor
namespace Go.Proofs.YtnadgcgnediakaaGreatDoor
open Go.ChangeShapes Go.WideShapes Go.ChangeAt Go.RowKit Go.Deep Go.Shelf
attribute [local go_sem] Oper.semAt_some

section
variable (o : Nat → Nat) (w : World) (A : At) (lb pb rate N : Nat) (ix : Nat → Nat) (S : Nat → Bool) (L : List Nat) (C : Nat → Nat) (all : Nat)
/-- a live text beside a loop over an iterator: its two variables, other blocks -/
def RdB (b1 b2 v1 v2 : Nat) (rest : List (Nat × Obj)) (W : World) : Prop := ∃ o', Upd o gl w W o' ∧ IsLive W o' A lb pb rate N ix S L C all ∧ (∀ b, w.heap.size ≤ b → ¬ IsCells W b → o' b = 6) ∧
  (W.heap[b1]? = some (.cells #[.int .i64 v1] 3 (0, 0)) ∧ o' b1 = 6) ∧ (W.heap[b2]? = some (.cells #[.int .i64 v2] 3 (0, 0)) ∧ o' b2 = 6) ∧ ∀ p ∈ rest, W.heap[p.1]? = some p.2 ∧ p.2.isCells = true ∧ o' p.1 = 6
end
theorem isCells_of {w : World} {b : Nat} {x : Obj} (h : w.heap[b]? = some x) (hx : x.isCells = true) : IsCells w b := by
  cases x with
  | cells c t f => exact ⟨c, t, f, h⟩
  | _ => simp [Obj.isCells] at hx
theorem not_isCells {w : World} {b : Nat} {x : Obj} (h : w.heap[b]? = some x) (hx : x.isCells = false) : ¬ IsCells w b := by
  rintro ⟨c, t, f, hh⟩
  rw [h] at hh
  rw [Option.some.inj hh] at hx
  simp [Obj.isCells] at hx
section
variable {o : Nat → Nat} {w W : World} {A : At} {lb pb rate N : Nat} {ix : Nat → Nat} {S : Nat → Bool} {L : List Nat} {C : Nat → Nat} {all : Nat} {b1 b2 v1 v2 : Nat} {rest : List (Nat × Obj)}
/-- made up of an owner's map -/
theorem RdB.mk {o' : Nat → Nat} (u : Upd o gl w W o') (k : IsLive W o' A lb pb rate N ix S L C all) (h1 : W.heap[b1]? = some (.cells #[.int .i64 v1] 3 (0, 0)) ∧ o' b1 = 6) (h2 : W.heap[b2]? = some (.cells #[.int .i64 v2] 3 (0, 0)) ∧ o' b2 = 6)
    (hr : ∀ p ∈ rest, W.heap[p.1]? = some p.2 ∧ p.2.isCells = true ∧ o' p.1 = 6) : RdB o w A lb pb rate N ix S L C all b1 b2 v1 v2 rest W := by
  refine ⟨tidy w W o', u.reown fun b hb => (tidy_old hb).trans (u.own b hb), k.re2 (fun b hb => tidy_cells hb) (tidy_no5 k.n5), fun b hb hn => tidy_other (by omega) hn, ⟨h1.1, (tidy_cells ⟨_, _, _, h1.1⟩).trans h1.2⟩, ⟨h2.1, (tidy_cells ⟨_, _, _, h2.1⟩).trans h2.2⟩, fun p hp => ?_⟩
  obtain ⟨q1, q2, q3⟩ := hr p hp
  exact ⟨q1, q2, (tidy_cells (isCells_of q1 q2)).trans q3⟩
theorem RdB.rd (h : RdB o w A lb pb rate N ix S L C all b1 b2 v1 v2 rest W) : RdL o w A lb pb rate N ix S L C all W := by
  obtain ⟨o', u, k, _⟩ := h
  exact ⟨o', u, k⟩
theorem RdB.x1 (h : RdB o w A lb pb rate N ix S L C all b1 b2 v1 v2 rest W) : W.heap[b1]? = some (.cells #[.int .i64 v1] 3 (0, 0)) := by
  obtain ⟨o', u, k, t, q, _⟩ := h
  exact q.1
theorem RdB.x2 (h : RdB o w A lb pb rate N ix S L C all b1 b2 v1 v2 rest W) : W.heap[b2]? = some (.cells #[.int .i64 v2] 3 (0, 0)) := by
  obtain ⟨o', u, k, t, _, q, _⟩ := h
  exact q.1
theorem RdB.xr (h : RdB o w A lb pb rate N ix S L C all b1 b2 v1 v2 rest W) : ∀ p ∈ rest, W.heap[p.1]? = some p.2 := by
  obtain ⟨o', u, k, t, _, _, q⟩ := h
  exact fun p hp => (q p hp).1
/-- behind a call that leaves the text as it is -/
theorem RdB.call {f : FuncId} {args : Array Value} {P : Ending → Prop} (h : RdB o w A lb pb rate N ix S L C all b1 b2 v1 v2 rest W) (hk : ∀ o', IsLive W o' A lb pb rate N ix S L C all → Calls Tryz.prog f args W fun e w' => P e ∧ RdL o' W A lb pb rate N ix S L C all w') :
    Calls Tryz.prog f args W fun e w' => P e ∧ RdB o w A lb pb rate N ix S L C all b1 b2 v1 v2 rest w' ∧ KeepsFrom w.heap.size W w' := by
  obtain ⟨o', u, k, t, h1, h2, hr⟩ := h
  refine (hk o' k).mono ?_
  rintro e w' ⟨hp, o2, u2, k2⟩
  have n6 : ¬ gl 6 := by unfold gl; omega
  have q1 := u2.heap h1.1 (by rw [h1.2]; exact n6)
  have q2 := u2.heap h2.1 (by rw [h2.2]; exact n6)
  refine ⟨hp, RdB.mk (u.trans u2 (fun _ h => h)) k2 ⟨q1.1, q1.2.trans h1.2⟩ ⟨q2.1, q2.2.trans h2.2⟩ (fun p hp => ?_), ⟨u2.size, fun b x hB hx hc => ?_⟩⟩
  · obtain ⟨r1, r2, r3⟩ := hr p hp
    have q := u2.heap r1 (by rw [r3]; exact n6)
    exact ⟨q.1, r2, q.2.trans r3⟩
  · have := t b hB (not_isCells hx hc)
    exact (u2.same b (lt_of_block hx) (by rw [this]; exact n6)).trans hx
theorem RdB.set1 (h : RdB o w A lb pb rate N ix S L C all b1 b2 v1 v2 rest W) (hb : w.heap.size ≤ b1) (h12 : b1 ≠ b2) (hn : ∀ p ∈ rest, p.1 ≠ b1) (v : Nat) : RdB o w A lb pb rate N ix S L C all b1 b2 v v2 rest (W.setCell ⟨b1, 0, none⟩ (.int .i64 v)) := by
  obtain ⟨o', u, k, t, h1, h2, hr⟩ := h
  have uu : Upd o' (· = 6) W (W.setCell ⟨b1, 0, none⟩ (.int .i64 v)) o' := (Upd.refl o' _ W).set _ (.inr h1.2)
  have ne : ∀ b, b ≠ b1 → (W.setCell ⟨b1, 0, none⟩ (.int .i64 v)).heap[b]? = W.heap[b]? := fun b hb => Below.heap_setCell _ _ _ _ hb
  exact RdB.mk (u.set _ (.inl hb)) (k.keep uu k.n5 (by omega)) ⟨Joins.block_setCell h1.1 _, h1.2⟩ ⟨(ne _ (Ne.symm h12)).trans h2.1, h2.2⟩ (fun p hp => ⟨(ne _ (hn p hp)).trans (hr p hp).1, (hr p hp).2⟩)
theorem RdB.set2 (h : RdB o w A lb pb rate N ix S L C all b1 b2 v1 v2 rest W) (hb : w.heap.size ≤ b2) (h12 : b1 ≠ b2) (hn : ∀ p ∈ rest, p.1 ≠ b2) (v : Nat) : RdB o w A lb pb rate N ix S L C all b1 b2 v1 v rest (W.setCell ⟨b2, 0, none⟩ (.int .i64 v)) := by
  obtain ⟨o', u, k, t, h1, h2, hr⟩ := h
  have uu : Upd o' (· = 6) W (W.setCell ⟨b2, 0, none⟩ (.int .i64 v)) o' := (Upd.refl o' _ W).set _ (.inr h2.2)
  have ne : ∀ b, b ≠ b2 → (W.setCell ⟨b2, 0, none⟩ (.int .i64 v)).heap[b]? = W.heap[b]? := fun b hb => Below.heap_setCell _ _ _ _ hb
  exact RdB.mk (u.set _ (.inl hb)) (k.keep uu k.n5 (by omega)) ⟨(ne _ h12).trans h1.1, h1.2⟩ ⟨Joins.block_setCell h2.1 _, h2.2⟩ (fun p hp => ⟨(ne _ (hn p hp)).trans (hr p hp).1, (hr p hp).2⟩)
theorem RdB.drew (h : RdB o w A lb pb rate N ix S L C all b1 b2 v1 v2 rest W) : RdB o w A lb pb rate N ix S L C all b1 b2 v1 v2 rest W.drew := by
  obtain ⟨o', u, k, t, h1, h2, hr⟩ := h
  exact RdB.mk u.drew (k.keep (d := fun _ => False) ((Upd.refl o' _ W).drew) k.n5 (by simp)) h1 h2 hr
theorem RdB.drewN (h : RdB o w A lb pb rate N ix S L C all b1 b2 v1 v2 rest W) (n : Nat) : RdB o w A lb pb rate N ix S L C all b1 b2 v1 v2 rest (W.drewN n) := by
  obtain ⟨o', u, k, t, h1, h2, hr⟩ := h
  exact RdB.mk (u.drewN n) (k.keep (d := fun _ => False) ((Upd.refl o' _ W).drewN n) k.n5 (by simp)) h1 h2 hr
/-- the law's and the iterator's own blocks -/
theorem RdB.own (B : Nat) (hB : w.heap.size ≤ B) {β : Type} (f g : β → Nat) : OwnFrom B (fun s W => RdB o w A lb pb rate N ix S L C all b1 b2 (f s) (g s) rest W) := by
  intro s X Y row h hg hrow
  obtain ⟨o', u, k, t, h1, h2, hr⟩ := h
  have n5 := k.n5
  have uu : Upd o' (· = 6) X Y (ext o' X.heap.size 6) := (Upd.start o' (· = 6) X 6).grown hg (fun b hb => by
    obtain ⟨q1, x, q2, q3⟩ := hrow b hb
    exact .inr (t b (by omega) (not_isCells q2 q3)))
  have same : ∀ b, IsCells X b → Y.heap[b]? = X.heap[b]? := fun b hb => hg.block b (by obtain ⟨c, t, f, hh⟩ := hb; exact lt_of_block hh) (fun e => by
    obtain ⟨q1, x, q2, q3⟩ := hrow b e.symm
    exact not_isCells q2 q3 hb)
  have old : ∀ {b : Nat}, IsCells X b → ext o' X.heap.size 6 b = o' b := fun {b} hb => ext_old (by obtain ⟨c, t, f, hh⟩ := hb; exact lt_of_block hh)
  refine RdB.mk ((u.ext 6).grown hg (fun b hb => .inl (by have := (hrow b hb).1; omega))) (k.keep uu (ext_no5 n5 _ (by omega)) (by omega)) ⟨(same _ ⟨_, _, _, h1.1⟩).trans h1.1, (old ⟨_, _, _, h1.1⟩).trans h1.2⟩ ⟨(same _ ⟨_, _, _, h2.1⟩).trans h2.1, (old ⟨_, _, _, h2.1⟩).trans h2.2⟩ (fun p hp => ?_)
  obtain ⟨r1, r2, r3⟩ := hr p hp
  have hc := isCells_of r1 r2
  exact ⟨(same _ hc).trans r1, r2, (old hc).trans r3⟩
end
theorem kf_sets {B B' : Nat} {W w4 : World} (h : KeepsFrom B W w4) (hB : B ≤ B') (a b : Addr) (u v : Value) : KeepsFrom B' W ((w4.setCell a u).setCell b v) := by
  have k3 := (h.trans ((KeepsOthers.setCell w4 a u).from B)).trans ((KeepsOthers.setCell (w4.setCell a u) b v).from B)
  exact ⟨k3.size, fun k y hk hy hc => k3.same k y (by omega) hy hc⟩
/-- a step of the search -/
def narS (L : List Nat) (C : Nat → Nat) (q : Nat × Nat) (p : Nat × Fin 256) : Nat × Nat := (sumC C (p.2.1 + 1) + posN L q.1 (p.2.1 + 1) 9, sumC C (p.2.1 + 1) + posN L q.2 (p.2.1 + 1) 9)
def narN (L : List Nat) (C : Nat → Nat) (N : Nat) (pre : List (Nat × Fin 256)) : Nat × Nat := pre.foldl (narS L C) (0, N + 1)
theorem narN_snoc (L : List Nat) (C : Nat → Nat) (N : Nat) (pre : List (Nat × Fin 256)) (x : Nat × Fin 256) : narN L C N (pre ++ [x]) = narS L C (narN L C N pre) x := by
  unfold narN
  rw [List.foldl_append]
  rfl
theorem posN_mono (L : List Nat) (b : Nat) {j k : Nat} (h : j ≤ k) (hk : k ≤ L.length) : posN L j b 9 ≤ posN L k b 9 := by
  rw [posN_cnt L b j (by omega), posN_cnt L b k hk]
  exact cnt_mono _ h
theorem narS_ok {N : Nat} {s ix : Nat → Nat} {L : List Nat} {C : Nat → Nat} {all : Nat} (ar : Arr N s ix L C all) (q : Nat × Nat) (x : Nat × Fin 256) (h : q.1 ≤ q.2 ∧ q.2 ≤ N + 1) : (narS L C q x).1 ≤ (narS L C q x).2 ∧ (narS L C q x).2 ≤ N + 1 := by
  have hlen := ar.len
  unfold narS
  refine ⟨Nat.add_le_add_left (posN_mono L _ h.1 (by omega)) _, ?_⟩
  simp only
  have h1 : posN L q.2 (x.2.1 + 1) 9 ≤ posN L (N + 1) (x.2.1 + 1) 9 := posN_mono L _ h.2 (by omega)
  have h2 : posN L (N + 1) (x.2.1 + 1) 9 = C (x.2.1 + 1) := by rw [posN_cnt L _ _ (by omega)]; exact ar.cnt_all _
  have h3 : sumC C (x.2.1 + 1) + C (x.2.1 + 1) = sumC C (x.2.1 + 2) := rfl
  have h4 := sumC_cnt C s N ar.cC (x.2.1 + 2)
  have h5 := Wd.cnt_le (fun q => decide (s q < x.2.1 + 2)) (N + 1)
  omega
theorem narN_ok {N : Nat} {s ix : Nat → Nat} {L : List Nat} {C : Nat → Nat} {all : Nat} (ar : Arr N s ix L C all) (pre : List (Nat × Fin 256)) : (narN L C N pre).1 ≤ (narN L C N pre).2 ∧ (narN L C N pre).2 ≤ N + 1 := by
  have key : ∀ (pre : List (Nat × Fin 256)) (q : Nat × Nat), q.1 ≤ q.2 ∧ q.2 ≤ N + 1 → (pre.foldl (narS L C) q).1 ≤ (pre.foldl (narS L C) q).2 ∧ (pre.foldl (narS L C) q).2 ≤ N + 1 := by
    intro pre
    induction pre with
    | nil => exact fun q h => h
    | cons x r ih => exact fun q h => ih _ (narS_ok ar q x h)
  exact key pre _ ⟨Nat.zero_le _, Nat.le_refl _⟩
section
variable {o : Nat → Nat} {w wz : World} {A : At} {lb pb rate N : Nat} {s ix : Nat → Nat} {S : Nat → Bool} {L : List Nat} {C : Nat → Nat} {all : Nat}
theorem lnarrow_w (h : RdL o w A lb pb rate N ix S L C all wz) (ar : Arr N s ix L C all) (hN : N ≤ 128) (lo hi b : Nat) (h1 : lo ≤ hi) (h2 : hi ≤ N + 1) (hb : b < 257) : Calls Tryz.prog 105 #[.pointer (some ⟨A.wk, 0, none⟩), .int .i64 lo, .int .i64 hi, .int .i64 b] wz fun e w' => e = .returned (.tuple #[.int .i64 (sumC C b + posN L lo b 9 : Nat), .int .i64 (sumC C b + posN L hi b 9 : Nat)]) ∧ RdL o w A lb pb rate N ix S L C all w' := by
  obtain ⟨o', u, k⟩ := h
  have hlen := ar.len
  refine (knarrow_any o' A L C all lo hi b wz k.wk h1 (by omega) (by omega) (ar.c_lt (by omega)) hb).mono ?_
  rintro e w' ⟨rfl, o2, u2, k2⟩
  exact ⟨rfl, o2, u.trans u2 (fun _ h => gv_gl h), k.walked u2 (fun x hx => by unfold gv; omega) k2⟩
set_option maxRecDepth 100000 in
set_option maxHeartbeats 2000000 in
theorem frows_any (h : IsLive w o A lb pb rate N ix S L C all) (ar : Arr N s ix L C all) (hN : N ≤ 120) (qb qc n : Nat) (dv : Value) (z : Nat → Fin 256) (hq : w.cell? ⟨qb, 0, none⟩ = some dv) (hd : BySl w dv ((List.range n).map fun j => .int .u8 ((z j).1 : Nat))) (hn : n < 1000) :
    Calls Tryz.prog 47 #[.pointer (some ⟨lb, 0, none⟩), .slice (some ⟨qb, 0, none⟩) 1 qc] w fun e w' => e = .returned (.tuple #[.int .i64 (narN L C N (came n z n)).1, .int .i64 (narN L C N (came n z n)).2]) ∧ RdL o w A lb pb rate N ix S L C all w' := by
  refine (callsIn_wide (n := 20)).1 ?_
  have hlen := ar.len
  obtain ⟨W0, hW0⟩ : ∃ W0, W0 = w.alloc (.cells #[.pointer (some ⟨lb, 0, none⟩)] 50) := ⟨_, rfl⟩
  have r0 : RdL o w A lb pb rate N ix S L C all W0 := by rw [hW0]; exact (RdL.refl h).alloc _
  have LL0 := Lib.hid ((callsIn_wide (n := 19)).2 (llen_any r0 ar.len (by omega)))
  -- the variables' world
  obtain ⟨W1, hW1⟩ : ∃ W1, W1 = (W0.alloc (.cells #[.int .i64 0] 3)).alloc (.cells #[.int .i64 ((N : Int) + 1)] 3) := ⟨_, rfl⟩
  have hs0 : W0.heap.size = w.heap.size + 1 := by rw [hW0]; simp
  have hs1 : W1.heap.size = w.heap.size + 3 := by rw [hW1]; simp [hs0]
  have hb1 : ∀ b, b < w.heap.size → W1.heap[b]? = w.heap[b]? := fun b hb => by
    rw [hW1, Below.heap_alloc _ _ _ (by simp; omega), Below.heap_alloc _ _ _ (by omega), hW0, Below.heap_alloc _ _ _ hb]
  have x0 : W1.heap[w.heap.size]? = some (.cells #[.pointer (some ⟨lb, 0, none⟩)] 50 (0, 0)) := by
    rw [hW1, Below.heap_alloc _ _ _ (by simp; omega), Below.heap_alloc _ _ _ (by omega), hW0]
    exact heap_alloc_new w _
  have x1 : W1.heap[W0.heap.size]? = some (.cells #[.int .i64 (0 : Nat)] 3 (0, 0)) := by
    rw [hW1, Below.heap_alloc _ _ _ (by simp)]
    exact heap_alloc_new W0 _
  have x2 : W1.heap[W0.heap.size + 1]? = some (.cells #[.int .i64 (N + 1 : Nat)] 3 (0, 0)) := by
    have := heap_alloc2_new W0 (.cells #[.int .i64 0] 3) (.cells #[.int .i64 ((N : Int) + 1)] 3)
    rw [hW1, show ((N + 1 : Nat) : Int) = (N : Int) + 1 by omega]
    exact this
  have u1 : Upd o (fun _ => False) w W1 (ext o w.heap.size 6) := by
    rw [hW1, hW0]
    exact (((Upd.start o (fun _ => False) w 6).alloc _).alloc _).alloc _
  have k1 : IsLive W1 (ext o w.heap.size 6) A lb pb rate N ix S L C all := h.keep u1 (ext_no5 h.n5 _ (by omega)) (by simp)
  have hql : qb < w.heap.size := cell_lt hq
  have bs1 : BySl W1 dv ((List.range n).map fun j => .int .u8 ((z j).1 : Nat)) := hd.same (by omega) hb1
  have CA := Lib.hid ((callsIn_wide (n := 19)).2 (concat_any qb qc 1 (fun _ => dv) (fun _ => (List.range n).map fun j => .int .u8 ((z j).1 : Nat)) W1 (by omega) (fun j hj => by
    obtain rfl : j = 0 := by omega
    rw [World.cell?_of_block (w := w) (hb1 qb hql)]
    exact hq) (by omega) (fun j _ => bs1) (by simp [flat]; omega)))
  have HW0 := Lib.hid hW0
  have HW1 := Lib.hid hW1
  have U1 := Lib.hid u1
  have K1 := Lib.hid k1
  have X := Lib.hid (And.intro x0 (And.intro x1 x2))
  have HS1 := Lib.hid (And.intro hs0 hs1)
  have AR := Lib.hid ar
  clear hd hq h ar r0 hs0 hs1 hb1 x0 x1 x2 u1 k1 bs1 hW0 hW1
  refine callsIn_of_wp_marks Tryz.func47 rfl trivial ?_ rfl
  simp only [Tryz.ntmps47, List.size_toArray, List.length_cons, List.length_nil, Nat.reduceAdd, Nat.reduceSub, Array.replicate_succ, Array.replicate_zero, List.push_toArray, List.append_toArray, List.nil_append, List.cons_append]
  gi_wp2
  rw [← HW0.out]
  refine ⟨trivial, LL0.out.mono ?_⟩
  rintro e w' ⟨rfl, rfl⟩
  gi_wp2
  rw [← HW1.out]
  refine ⟨trivial, CA.out.mono ?_⟩
  rintro e w2 ⟨dv2, rfl, hb2, ho2⟩
  have hfl : flat (fun _ => (List.range n).map fun j => (.int .u8 ((z j).1 : Nat) : Value)) 1 = (List.range n).map fun j => .int .u8 ((z j).1 : Nat) := by simp [flat]
  rw [hfl] at ho2
  have hln : ((List.range n).map fun j => (.int .u8 ((z j).1 : Nat) : Value)).length = n := by simp
  rw [hln] at ho2
  obtain ⟨da, dc, hdv⟩ := own_shape ho2
  subst hdv
  gi_wp2
  refine ⟨trivial, (back_in Fence.wide 19 trivial rfl da n dc w2).mono ?_⟩
  rintro e w3 ⟨rfl, hw3⟩
  -- the loop's world
  obtain ⟨x0, x1, x2⟩ := X.out
  have y : ∀ b, b < W1.heap.size → w3.heap[b]? = W1.heap[b]? := fun b hb => by
    rw [hw3, Below.heap_alloc _ _ _ (Nat.lt_of_lt_of_le hb hb2.size)]
    exact hb2.block b hb
  have hs0 := HS1.out.1
  have hs1 := HS1.out.2
  have u3 : Upd (ext o w.heap.size 6) (fun _ => False) W1 w3 (ext (ext o w.heap.size 6) W1.heap.size 6) := by
    rw [hw3]
    exact ((Upd.start _ (fun _ => False) W1 6).belowN hb2).alloc _
  have k3 := K1.out.keep u3 (ext_no5 K1.out.n5 _ (by omega)) (by simp)
  have xB : w3.heap[w2.heap.size]? = some (.cells #[.slice da n dc] 22 (0, 0)) := by rw [hw3]; exact heap_alloc_new w2 _
  have lB : W1.heap.size ≤ w2.heap.size := hb2.size
  have mk3 : ∀ rest : List (Nat × Obj), (∀ p ∈ rest, w3.heap[p.1]? = some p.2 ∧ p.2.isCells = true ∧ (W1.heap.size ≤ p.1 ∨ p.1 = w.heap.size)) → RdB o w A lb pb rate N ix S L C all W0.heap.size (W0.heap.size + 1) 0 (N + 1) rest w3 := by
    intro rest hr
    have old : ∀ b, w.heap.size ≤ b → b < W1.heap.size → ext (ext o w.heap.size 6) W1.heap.size 6 b = 6 := fun b h1 h2 => (ext_old h2).trans (ext_new h1)
    refine RdB.mk ((U1.out.mono (d := gl) (by simp)).trans u3 (fun _ h => h.elim)) k3 ⟨(y _ (lt_of_block x1)).trans x1, old _ (by omega) (by omega)⟩ ⟨(y _ (lt_of_block x2)).trans x2, old _ (by omega) (by omega)⟩ (fun p hp => ?_)
    obtain ⟨q1, q2, q3⟩ := hr p hp
    refine ⟨q1, q2, ?_⟩
    rcases q3 with q3 | q3
    · exact ext_new q3
    · rw [q3]; exact old _ (Nat.le_refl _) (by omega)
  have x03 := (y _ (lt_of_block x0)).trans x0
  have l3 : w2.heap.size < w3.heap.size := lt_of_block xB
  have cB : w3.cell? ⟨w2.heap.size, 0, none⟩ = some (.slice da n dc) := by rw [Joins.cell_of_block xB]; rfl
  have sq : ∃ (gb : Nat) (rest : List (Nat × Obj)), (∀ p ∈ rest, w3.heap[p.1]? = some p.2 ∧ p.2.isCells = true ∧ (W1.heap.size ≤ p.1 ∨ p.1 = w.heap.size)) ∧ (w.heap.size, .cells #[.pointer (some ⟨lb, 0, none⟩)] 50 (0, 0)) ∈ rest ∧ (∀ k, k = w2.heap.size ∨ k = gb → ∃ x, (k, x) ∈ rest) ∧
      SeqStopsK Fence.wide (20 - 1) Tryz.prog 158 #[.pointer (some ⟨w2.heap.size, 0, none⟩)] (fun x : Nat × Fin 256 => #[Value.int .i64 (x.1 : Nat), Value.int .u8 (x.2.1 : Nat)]) (KpS w2.heap.size gb) (fun ys => ys = came n z n) (fun pre => ∃ k, k ≤ n ∧ pre = came n z k) n w3 := by
    rcases ho2.2 with ⟨hnil, h0⟩ | ⟨gb, cap, cur, hsl, hgb, hgc, _, _, _, htk⟩
    · cases hnil
      refine ⟨w2.heap.size, [(w.heap.size, .cells #[.pointer (some ⟨lb, 0, none⟩)] 50 (0, 0)), (w2.heap.size, .cells #[.slice none 0 0] 22 (0, 0))], ?_, by simp, ?_, back_stops_nil Fence.wide 19 trivial rfl w2.heap.size w2.heap.size z w3 l3 cB⟩
      · intro p hp
        simp only [List.mem_cons, List.not_mem_nil, or_false] at hp
        rcases hp with rfl | rfl
        · exact ⟨x03, rfl, .inr rfl⟩
        · exact ⟨xB, rfl, .inl lB⟩
      · rintro k (rfl | rfl) <;> exact ⟨_, by simp; exact .inr rfl⟩
    · cases hsl
      have hg3 : w3.heap[gb]? = some (.cells cur 5 (0, 0)) := by rw [hw3, Below.heap_alloc _ _ _ (lt_of_block hgc)]; exact hgc
      refine ⟨gb, [(w.heap.size, .cells #[.pointer (some ⟨lb, 0, none⟩)] 50 (0, 0)), (w2.heap.size, .cells #[.slice (some ⟨gb, 0, none⟩) n dc] 22 (0, 0)), (gb, .cells cur 5 (0, 0))], ?_, by simp, ?_, back_stops Fence.wide 19 trivial rfl (by omega) w2.heap.size gb n dc z (by omega) w3 l3 cB (lt_of_block hg3) (fun j hj => ?_)⟩
      · intro p hp
        simp only [List.mem_cons, List.not_mem_nil, or_false] at hp
        rcases hp with rfl | rfl | rfl
        · exact ⟨x03, rfl, .inr rfl⟩
        · exact ⟨xB, rfl, .inl lB⟩
        · exact ⟨hg3, rfl, .inl hgb⟩
      · rintro k (rfl | rfl)
        · exact ⟨_, by simp; exact .inr (.inl rfl)⟩
        · exact ⟨_, by simp; exact .inr (.inr rfl)⟩
      · rw [Joins.cell_of_block hg3, ← Array.getElem?_toList]
        have : (cur.toList.take (n * 1))[j]? = some (.int .u8 ((z j).1 : Nat)) := by rw [htk]; simp [hj]
        rwa [List.getElem?_take_of_lt (by omega)] at this
  obtain ⟨gb, rest, hr1, hr2, hr3, SQ⟩ := sq
  have R3 := mk3 rest hr1
  have ne1 : ∀ p ∈ rest, p.1 ≠ W0.heap.size := fun p hp => by rcases (hr1 p hp).2.2 with h | h <;> omega
  have ne2 : ∀ p ∈ rest, p.1 ≠ W0.heap.size + 1 := fun p hp => by rcases (hr1 p hp).2.2 with h | h <;> omega
  have l0 : w.heap.size ≤ w3.heap.size := by omega
  have NE1 := Lib.hid ne1
  have NE2 := Lib.hid ne2
  obtain ⟨B1, hB1⟩ : ∃ B1, B1 = W0.heap.size := ⟨_, rfl⟩
  rw [← hB1] at R3 NE1 NE2
  have BL := Lib.hid (show w.heap.size ≤ B1 ∧ w.heap.size ≤ B1 + 1 by omega)
  have HB1 := Lib.hid hB1
  clear x0 x1 x2 y u3 k3 xB lB mk3 x03 l3 cB hr1 hb2 ho2 hfl hln hw3 LL0 CA K1 U1 X HW0 HW1 hs0 hs1 hB1 ne1 ne2
  have hro : Fence.wide.round = none := rfl
  gi_wp2
  rw [← HB1.out]
  refine wpIn_rangeFunc_ownG hro (by omega) (gf := 158) (lb := #[.pointer (some ⟨w2.heap.size, 0, none⟩)]) rfl trivial (enters_of Tryz.func158 (by kernel_rfl) rfl) SQ KpS.trans (fun W l ob ob' _ h1 h2 _ => KpS.put W l ob ob' h1 h2) (Below.refl _ _) (fun _ => rfl)
    (fun pre W => RdB o w A lb pb rate N ix S L C all B1 (B1 + 1) (narN L C N pre).1 (narN L C N pre).2 rest W)
    (fun _ _ _ => False)
    (RdB.own w3.heap.size l0 (fun pre => (narN L C N pre).1) (fun pre => (narN L C N pre).2))
    (fun _ _ _ _ _ hs _ _ => hs)
    R3
    (fun x => { tmps := #[.pointer (some ⟨lb, 0, none⟩), .slice (some ⟨qb, 0, none⟩) 1 qc, .pointer (some ⟨w.heap.size, 0, none⟩), undef, .int .i64 0, .int .i64 0, .pointer (some ⟨B1, 0, none⟩), .pointer (some ⟨B1 + 1, 0, none⟩), undef, .int .u8 (x.2.1 : Nat), .pointer (some ⟨lb, 0, none⟩), .bool false, .pointer (some ⟨lb, 0, none⟩), .int .i64 N, .int .i64 ((N : Int) + 1), .slice (some ⟨qb, 0, none⟩) 1 qc, .slice da n dc, .func (.func 158) #[] #[.pointer (some ⟨w2.heap.size, 0, none⟩)], .int .i64 (x.1 : Nat), .int .u8 (x.2.1 : Nat), undef, undef, undef, undef, undef, undef, undef, undef, undef, undef, undef, undef, undef, undef], defers := [] }) ?assign ?body ?done ?stop
  case assign =>
    intro l x W K hK
    gi_wp2
    exact hK
  case body =>
    rintro l pre x W hR _
    obtain ⟨hlo, hhi⟩ := narN_ok AR.out pre
    have hx2 : x.2.1 < 256 := x.2.2
    have SO := Lib.hid (fun wy => sof_any x.2.1 hx2 wy)
    have NA := Lib.hid (fun (Wy : World) (hy : RdB o w A lb pb rate N ix S L C all B1 (B1 + 1) (narN L C N pre).1 (narN L C N pre).2 rest Wy) => hy.call (fun o' k => lnarrow_w (RdL.refl k) AR.out (by omega) (narN L C N pre).1 (narN L C N pre).2 (x.2.1 + 1) hlo hhi (by omega)))
    have c0 : W.cell? ⟨w.heap.size, 0, none⟩ = some (.pointer (some ⟨lb, 0, none⟩)) := by rw [Joins.cell_of_block (hR.xr _ hr2)]; rfl
    have c1 : W.cell? ⟨B1, 0, none⟩ = some (.int .i64 (narN L C N pre).1) := by rw [Joins.cell_of_block hR.x1]; rfl
    have c2 : W.cell? ⟨B1 + 1, 0, none⟩ = some (.int .i64 (narN L C N pre).2) := by rw [Joins.cell_of_block hR.x2]; rfl
    have d0 := hR.rd.c0
    have HR := Lib.hid hR.drew
    have HP := Lib.hid (narN_snoc L C N pre x)
    unfold narS at HP
    have HKp := Lib.hid (show ∀ (w4 : World) v1 v2, RdB o w A lb pb rate N ix S L C all B1 (B1 + 1) v1 v2 rest w4 → KpS w2.heap.size gb W w4 from fun w4 v1 v2 r4 k hk _ => by
      obtain ⟨y, hy⟩ := hr3 k hk
      exact (r4.xr _ hy).trans (hR.xr _ hy).symm)
    have SS := Lib.hid (show ∀ (w4 : World) v1 v2, RdB o w A lb pb rate N ix S L C all B1 (B1 + 1) v1 v2 rest w4 → w4.cell? ⟨w.heap.size, 0, none⟩ = some (.pointer (some ⟨lb, 0, none⟩)) ∧ w4.cell? ⟨lb, 0, none⟩ = some (.pointer (some ⟨A.wk, 0, none⟩)) from fun w4 v1 v2 r4 => ⟨by rw [Joins.cell_of_block (r4.xr _ hr2)]; rfl, r4.rd.c0⟩)
    have HS := Lib.hid (show W.cell? ⟨w.heap.size, 0, none⟩ = some (.pointer (some ⟨lb, 0, none⟩)) ∧ W.cell? ⟨lb, 0, none⟩ = some (.pointer (some ⟨A.wk, 0, none⟩)) from ⟨c0, d0⟩)
    generalize narN L C N pre = q at c1 c2 NA HR HP hlo hhi
    have FIN := Lib.hid (show ∀ w4 : World, RdB o w A lb pb rate N ix S L C all B1 (B1 + 1) q.1 q.2 rest w4 → KeepsFrom w.heap.size W.drew w4 →
        KeepsFrom w3.heap.size W ((w4.setCell ⟨B1, 0, none⟩ (.int .i64 ((sumC C (x.2.1 + 1) : Nat) + (posN L q.1 (x.2.1 + 1) 9 : Nat)))).setCell ⟨B1 + 1, 0, none⟩ (.int .i64 ((sumC C (x.2.1 + 1) : Nat) + (posN L q.2 (x.2.1 + 1) 9 : Nat)))) ∧
        KpS w2.heap.size gb W ((w4.setCell ⟨B1, 0, none⟩ (.int .i64 ((sumC C (x.2.1 + 1) : Nat) + (posN L q.1 (x.2.1 + 1) 9 : Nat)))).setCell ⟨B1 + 1, 0, none⟩ (.int .i64 ((sumC C (x.2.1 + 1) : Nat) + (posN L q.2 (x.2.1 + 1) 9 : Nat)))) ∧
        RdB o w A lb pb rate N ix S L C all B1 (B1 + 1) (narN L C N (pre ++ [x])).1 (narN L C N (pre ++ [x])).2 rest ((w4.setCell ⟨B1, 0, none⟩ (.int .i64 ((sumC C (x.2.1 + 1) : Nat) + (posN L q.1 (x.2.1 + 1) 9 : Nat)))).setCell ⟨B1 + 1, 0, none⟩ (.int .i64 ((sumC C (x.2.1 + 1) : Nat) + (posN L q.2 (x.2.1 + 1) 9 : Nat)))) from fun w4 r4 kf => by
      have f := (r4.set1 BL.out.1 (by omega) NE1.out (sumC C (x.2.1 + 1) + posN L q.1 (x.2.1 + 1) 9)).set2 BL.out.2 (by omega) NE2.out (sumC C (x.2.1 + 1) + posN L q.2 (x.2.1 + 1) 9)
      rw [HP.out]
      rw [show ((sumC C (x.2.1 + 1) + posN L q.1 (x.2.1 + 1) 9 : Nat) : Int) = (sumC C (x.2.1 + 1) : Nat) + (posN L q.1 (x.2.1 + 1) 9 : Nat) by omega, show ((sumC C (x.2.1 + 1) + posN L q.2 (x.2.1 + 1) 9 : Nat) : Int) = (sumC C (x.2.1 + 1) : Nat) + (posN L q.2 (x.2.1 + 1) 9 : Nat) by omega] at f
      have k2 : KeepsFrom w.heap.size W w4 := ⟨kf.size, kf.same⟩
      exact ⟨kf_sets k2 l0 _ _ _ _, HKp.out _ _ _ f, f⟩)
    have hmx : Tryz.prog.follows .mixedOrders = true := by kernel_rfl
    clear hR SQ
    gi_wp2
    refine wpIn_region_round (fun wz => wz.cell? ⟨w.heap.size, 0, none⟩ = some (.pointer (some ⟨lb, 0, none⟩)) ∧ wz.cell? ⟨lb, 0, none⟩ = some (.pointer (some ⟨A.wk, 0, none⟩))) hmx (by kernel_rfl) (fun h => by obtain ⟨_, _, h⟩ := h; exact h) HS.out (fun hHeld => ?_)
    refine wpAnyH_take (i := 0) (oi := _) (v := ?_) rfl (by kernel_rfl) (by kernel_rfl) (by kernel_rfl) (fun _ _ _ h => h) (Or.inl ⟨by rfl, ?_⟩) (by assumption) ?_
    rotate_left
    · (intro wz hSw; (try dsimp only at hSw); go_simp; try with_reducible rfl)
    try simp only [Act.put, List.setIfInBounds_toArray]
    refine wpAnyH_take (i := 1) (oi := _) (v := ?_) rfl (by kernel_rfl) (by kernel_rfl) (by kernel_rfl) (fun _ _ _ h => h) (Or.inl ⟨by rfl, ?_⟩) (by assumption) ?_
    rotate_left
    · (intro wz hSw; (try dsimp only at hSw); go_simp; try with_reducible rfl)
    try simp only [Act.put]
    refine wpAnyH_take (i := 2) (oi := _) (v := ?_) rfl (by kernel_rfl) (by kernel_rfl) (by kernel_rfl) (fun _ _ _ h => h) (Or.inl ⟨by rfl, ?_⟩) (by assumption) ?_
    rotate_left
    · (intro wz hSw; (try dsimp only at hSw); go_simp; try with_reducible rfl)
    try simp only [Act.put]
    refine wpAnyH_take (i := 3) (oi := _) (v := ?_) rfl (by kernel_rfl) (by kernel_rfl) (by kernel_rfl) (fun _ _ _ h => h) (Or.inl ⟨by rfl, ?_⟩) (by assumption) ?_
    rotate_left
    · (intro wz hSw; (try dsimp only at hSw); go_simp; try with_reducible rfl)
    try simp only [Act.put]
    refine wpAnyH_take (i := 6) (oi := _) (v := ?_) rfl (by kernel_rfl) (by kernel_rfl) (by kernel_rfl) (fun _ _ _ h => h) (Or.inl ⟨by rfl, ?_⟩) (by assumption) ?_
    rotate_left
    · (intro wz hSw; (try dsimp only at hSw); go_simp; try with_reducible rfl)
    try simp only [Act.put]
    refine wpAnyH_ready (rs := [4, 5, 7]) (by kernel_rfl) (by simp) ?_
    refine AllReadyH.cons rfl (fun K hK => ?_) ?_
    · go_simp
      refine hK.out _ _ ?_ (fun hHeld2 => ?_)
      · first | exact HS.out | exact hHeld
      clear hK K hHeld2
      refine wpAnyH_ready (rs := [5, 7]) (by kernel_rfl) (by simp) ?_
      refine AllReadyH.cons rfl (fun K hK => ?_) ?_
      · go_simp
        refine hK.out _ _ ?_ (fun hHeld2 => ?_)
        · first | exact HS.out | exact hHeld
        clear hK K hHeld2
        refine wpAnyH_ready (rs := [7]) (by kernel_rfl) (by simp) ?_
        refine AllReadyH.cons rfl (fun K hK => ?_) ?_
        · go_simp
          go_wp2_with (go_at_call 88; refine (SO.out _).mono ?_; rintro e w' ⟨rfl, rfl⟩)
          refine hK.out _ _ ?_ (fun hHeld2 => ?_)
          · first | exact HS.out | exact hHeld
          clear hK K hHeld2
          refine wpAnyH_ready (rs := [8]) (by kernel_rfl) (by simp) ?_
          refine AllReadyH.cons rfl (fun K hK => ?_) AllReadyH.nil
          go_simp
          go_wp2_with (go_at_call 105; refine (NA.out _ HR.out).mono ?_; rintro e w4 ⟨rfl, r4, kf4⟩; have e1 : w4.cell? ⟨B1, 0, none⟩ = some (.int .i64 q.1) := (by rw [Joins.cell_of_block r4.x1]; rfl); have e2 : w4.cell? ⟨B1 + 1, 0, none⟩ = some (.int .i64 q.2) := (by rw [Joins.cell_of_block r4.x2]; rfl); have f1 := Joins.unfrozen_of_block r4.x1 0; have f2 := Joins.unfrozen_of_block r4.x2 0; have s4 := SS.out w4 _ _ r4; have R4 := Lib.hid r4; have KF4 := Lib.hid kf4; clear r4 kf4)
          refine hK.out _ _ s4 (fun hHeld4 => ?_)
          clear hK K
          refine wpAnyH_take (i := 9) (oi := _) (v := ?_) rfl (by kernel_rfl) (by kernel_rfl) (by kernel_rfl) (fun _ _ _ h => h) (Or.inl ⟨by rfl, ?_⟩) (by assumption) ?_
          rotate_left
          · (intro wz hSw; (try dsimp only at hSw); go_simp; try with_reducible rfl)
          try simp only [Act.put, List.setIfInBounds_toArray]
          refine wpAnyH_take (i := 10) (oi := _) (v := ?_) rfl (by kernel_rfl) (by kernel_rfl) (by kernel_rfl) (fun _ _ _ h => h) (Or.inl ⟨by rfl, ?_⟩) (by assumption) ?_
          rotate_left
          · (intro wz hSw; (try dsimp only at hSw); go_simp; try with_reducible rfl)
          try simp only [Act.put]
          refine wpAnyH_take (i := 11) (oi := _) (v := ?_) rfl (by kernel_rfl) (by kernel_rfl) (by kernel_rfl) (fun _ _ _ h => h) (Or.inl ⟨by rfl, ?_⟩) (by assumption) ?_
          rotate_left
          · (intro wz hSw; (try dsimp only at hSw); go_simp; try with_reducible rfl)
          try simp only [Act.put]
          refine wpAnyH_ready (rs := [12]) (by kernel_rfl) (by simp) ?_
          refine AllReadyH.cons rfl (fun K hK => ?_) AllReadyH.nil
          go_simp
          refine hK.out _ _ ?_ (fun hHeld12 => ?_)
          · exact SS.out _ _ _ (R4.out.set1 BL.out.1 (by omega) NE1.out _)
          clear hK K
          refine wpAnyH_ready (rs := [13]) (by kernel_rfl) (by simp) ?_
          refine AllReadyH.cons rfl (fun K hK => ?_) AllReadyH.nil
          go_simp
          refine hK.out _ _ ?_ (fun hHeld13 => ?_)
          · exact SS.out _ _ _ ((R4.out.set1 BL.out.1 (by omega) NE1.out _).set2 BL.out.2 (by omega) NE2.out _)
          clear hK K
          refine wpAnyH_done (by kernel_rfl) ?_ _
          exact FIN.out w4 R4.out KF4.out
        exact AllReadyH.nil
      refine AllReadyH.cons rfl (fun K hK => ?_) ?_
      · go_simp
        go_wp2_with (go_at_call 88; refine (SO.out _).mono ?_; rintro e w' ⟨rfl, rfl⟩)
        refine hK.out _ _ ?_ (fun hHeld2 => ?_)
        · first | exact HS.out | exact hHeld
        clear hK K hHeld2
        refine wpAnyH_ready (rs := [5]) (by kernel_rfl) (by simp) ?_
        refine AllReadyH.cons rfl (fun K hK => ?_) ?_
        · go_simp
          refine hK.out _ _ ?_ (fun hHeld2 => ?_)
          · first | exact HS.out | exact hHeld
          clear hK K hHeld2
          refine wpAnyH_ready (rs := [8]) (by kernel_rfl) (by simp) ?_
          refine AllReadyH.cons rfl (fun K hK => ?_) AllReadyH.nil
          go_simp
          go_wp2_with (go_at_call 105; refine (NA.out _ HR.out).mono ?_; rintro e w4 ⟨rfl, r4, kf4⟩; have e1 : w4.cell? ⟨B1, 0, none⟩ = some (.int .i64 q.1) := (by rw [Joins.cell_of_block r4.x1]; rfl); have e2 : w4.cell? ⟨B1 + 1, 0, none⟩ = some (.int .i64 q.2) := (by rw [Joins.cell_of_block r4.x2]; rfl); have f1 := Joins.unfrozen_of_block r4.x1 0; have f2 := Joins.unfrozen_of_block r4.x2 0; have s4 := SS.out w4 _ _ r4; have R4 := Lib.hid r4; have KF4 := Lib.hid kf4; clear r4 kf4)
          refine hK.out _ _ s4 (fun hHeld4 => ?_)
          clear hK K
          refine wpAnyH_take (i := 9) (oi := _) (v := ?_) rfl (by kernel_rfl) (by kernel_rfl) (by kernel_rfl) (fun _ _ _ h => h) (Or.inl ⟨by rfl, ?_⟩) (by assumption) ?_
          rotate_left
          · (intro wz hSw; (try dsimp only at hSw); go_simp; try with_reducible rfl)
          try simp only [Act.put, List.setIfInBounds_toArray]
          refine wpAnyH_take (i := 10) (oi := _) (v := ?_) rfl (by kernel_rfl) (by kernel_rfl) (by kernel_rfl) (fun _ _ _ h => h) (Or.inl ⟨by rfl, ?_⟩) (by assumption) ?_
          rotate_left
          · (intro wz hSw; (try dsimp only at hSw); go_simp; try with_reducible rfl)
          try simp only [Act.put]
          refine wpAnyH_take (i := 11) (oi := _) (v := ?_) rfl (by kernel_rfl) (by kernel_rfl) (by kernel_rfl) (fun _ _ _ h => h) (Or.inl ⟨by rfl, ?_⟩) (by assumption) ?_
          rotate_left
          · (intro wz hSw; (try dsimp only at hSw); go_simp; try with_reducible rfl)
          try simp only [Act.put]
          refine wpAnyH_ready (rs := [12]) (by kernel_rfl) (by simp) ?_
          refine AllReadyH.cons rfl (fun K hK => ?_) AllReadyH.nil
          go_simp
          refine hK.out _ _ ?_ (fun hHeld12 => ?_)
          · exact SS.out _ _ _ (R4.out.set1 BL.out.1 (by omega) NE1.out _)
          clear hK K
          refine wpAnyH_ready (rs := [13]) (by kernel_rfl) (by simp) ?_
          refine AllReadyH.cons rfl (fun K hK => ?_) AllReadyH.nil
          go_simp
          refine hK.out _ _ ?_ (fun hHeld13 => ?_)
          · exact SS.out _ _ _ ((R4.out.set1 BL.out.1 (by omega) NE1.out _).set2 BL.out.2 (by omega) NE2.out _)
          clear hK K
          refine wpAnyH_done (by kernel_rfl) ?_ _
          exact FIN.out w4 R4.out KF4.out
        exact AllReadyH.nil
      exact AllReadyH.nil
    refine AllReadyH.cons rfl (fun K hK => ?_) ?_
    · go_simp
      refine hK.out _ _ ?_ (fun hHeld2 => ?_)
      · first | exact HS.out | exact hHeld
      clear hK K hHeld2
      refine wpAnyH_ready (rs := [4, 7]) (by kernel_rfl) (by simp) ?_
      refine AllReadyH.cons rfl (fun K hK => ?_) ?_
      · go_simp
        refine hK.out _ _ ?_ (fun hHeld2 => ?_)
        · first | exact HS.out | exact hHeld
        clear hK K hHeld2
        refine wpAnyH_ready (rs := [7]) (by kernel_rfl) (by simp) ?_
        refine AllReadyH.cons rfl (fun K hK => ?_) ?_
        · go_simp
          go_wp2_with (go_at_call 88; refine (SO.out _).mono ?_; rintro e w' ⟨rfl, rfl⟩)
          refine hK.out _ _ ?_ (fun hHeld2 => ?_)
          · first | exact HS.out | exact hHeld
          clear hK K hHeld2
          refine wpAnyH_ready (rs := [8]) (by kernel_rfl) (by simp) ?_
          refine AllReadyH.cons rfl (fun K hK => ?_) AllReadyH.nil
          go_simp
          go_wp2_with (go_at_call 105; refine (NA.out _ HR.out).mono ?_; rintro e w4 ⟨rfl, r4, kf4⟩; have e1 : w4.cell? ⟨B1, 0, none⟩ = some (.int .i64 q.1) := (by rw [Joins.cell_of_block r4.x1]; rfl); have e2 : w4.cell? ⟨B1 + 1, 0, none⟩ = some (.int .i64 q.2) := (by rw [Joins.cell_of_block r4.x2]; rfl); have f1 := Joins.unfrozen_of_block r4.x1 0; have f2 := Joins.unfrozen_of_block r4.x2 0; have s4 := SS.out w4 _ _ r4; have R4 := Lib.hid r4; have KF4 := Lib.hid kf4; clear r4 kf4)
          refine hK.out _ _ s4 (fun hHeld4 => ?_)
          clear hK K
          refine wpAnyH_take (i := 9) (oi := _) (v := ?_) rfl (by kernel_rfl) (by kernel_rfl) (by kernel_rfl) (fun _ _ _ h => h) (Or.inl ⟨by rfl, ?_⟩) (by assumption) ?_
          rotate_left
          · (intro wz hSw; (try dsimp only at hSw); go_simp; try with_reducible rfl)
          try simp only [Act.put, List.setIfInBounds_toArray]
          refine wpAnyH_take (i := 10) (oi := _) (v := ?_) rfl (by kernel_rfl) (by kernel_rfl) (by kernel_rfl) (fun _ _ _ h => h) (Or.inl ⟨by rfl, ?_⟩) (by assumption) ?_
          rotate_left
          · (intro wz hSw; (try dsimp only at hSw); go_simp; try with_reducible rfl)
          try simp only [Act.put]
          refine wpAnyH_take (i := 11) (oi := _) (v := ?_) rfl (by kernel_rfl) (by kernel_rfl) (by kernel_rfl) (fun _ _ _ h => h) (Or.inl ⟨by rfl, ?_⟩) (by assumption) ?_
          rotate_left
          · (intro wz hSw; (try dsimp only at hSw); go_simp; try with_reducible rfl)
          try simp only [Act.put]
          refine wpAnyH_ready (rs := [12]) (by kernel_rfl) (by simp) ?_
          refine AllReadyH.cons rfl (fun K hK => ?_) AllReadyH.nil
          go_simp
          refine hK.out _ _ ?_ (fun hHeld12 => ?_)
          · exact SS.out _ _ _ (R4.out.set1 BL.out.1 (by omega) NE1.out _)
          clear hK K
          refine wpAnyH_ready (rs := [13]) (by kernel_rfl) (by simp) ?_
          refine AllReadyH.cons rfl (fun K hK => ?_) AllReadyH.nil
          go_simp
          refine hK.out _ _ ?_ (fun hHeld13 => ?_)
          · exact SS.out _ _ _ ((R4.out.set1 BL.out.1 (by omega) NE1.out _).set2 BL.out.2 (by omega) NE2.out _)
          clear hK K
          refine wpAnyH_done (by kernel_rfl) ?_ _
          exact FIN.out w4 R4.out KF4.out
        exact AllReadyH.nil
      refine AllReadyH.cons rfl (fun K hK => ?_) ?_
      · go_simp
        go_wp2_with (go_at_call 88; refine (SO.out _).mono ?_; rintro e w' ⟨rfl, rfl⟩)
        refine hK.out _ _ ?_ (fun hHeld2 => ?_)
        · first | exact HS.out | exact hHeld
        clear hK K hHeld2
        refine wpAnyH_ready (rs := [4]) (by kernel_rfl) (by simp) ?_
        refine AllReadyH.cons rfl (fun K hK => ?_) ?_
        · go_simp
          refine hK.out _ _ ?_ (fun hHeld2 => ?_)
          · first | exact HS.out | exact hHeld
          clear hK K hHeld2
          refine wpAnyH_ready (rs := [8]) (by kernel_rfl) (by simp) ?_
          refine AllReadyH.cons rfl (fun K hK => ?_) AllReadyH.nil
          go_simp
          go_wp2_with (go_at_call 105; refine (NA.out _ HR.out).mono ?_; rintro e w4 ⟨rfl, r4, kf4⟩; have e1 : w4.cell? ⟨B1, 0, none⟩ = some (.int .i64 q.1) := (by rw [Joins.cell_of_block r4.x1]; rfl); have e2 : w4.cell? ⟨B1 + 1, 0, none⟩ = some (.int .i64 q.2) := (by rw [Joins.cell_of_block r4.x2]; rfl); have f1 := Joins.unfrozen_of_block r4.x1 0; have f2 := Joins.unfrozen_of_block r4.x2 0; have s4 := SS.out w4 _ _ r4; have R4 := Lib.hid r4; have KF4 := Lib.hid kf4; clear r4 kf4)
          refine hK.out _ _ s4 (fun hHeld4 => ?_)
          clear hK K
          refine wpAnyH_take (i := 9) (oi := _) (v := ?_) rfl (by kernel_rfl) (by kernel_rfl) (by kernel_rfl) (fun _ _ _ h => h) (Or.inl ⟨by rfl, ?_⟩) (by assumption) ?_
          rotate_left
          · (intro wz hSw; (try dsimp only at hSw); go_simp; try with_reducible rfl)
          try simp only [Act.put, List.setIfInBounds_toArray]
          refine wpAnyH_take (i := 10) (oi := _) (v := ?_) rfl (by kernel_rfl) (by kernel_rfl) (by kernel_rfl) (fun _ _ _ h => h) (Or.inl ⟨by rfl, ?_⟩) (by assumption) ?_
          rotate_left
          · (intro wz hSw; (try dsimp only at hSw); go_simp; try with_reducible rfl)
          try simp only [Act.put]
          refine wpAnyH_take (i := 11) (oi := _) (v := ?_) rfl (by kernel_rfl) (by kernel_rfl) (by kernel_rfl) (fun _ _ _ h => h) (Or.inl ⟨by rfl, ?_⟩) (by assumption) ?_
          rotate_left
          · (intro wz hSw; (try dsimp only at hSw); go_simp; try with_reducible rfl)
          try simp only [Act.put]
          refine wpAnyH_ready (rs := [12]) (by kernel_rfl) (by simp) ?_
          refine AllReadyH.cons rfl (fun K hK => ?_) AllReadyH.nil
          go_simp
          refine hK.out _ _ ?_ (fun hHeld12 => ?_)
          · exact SS.out _ _ _ (R4.out.set1 BL.out.1 (by omega) NE1.out _)
          clear hK K
          refine wpAnyH_ready (rs := [13]) (by kernel_rfl) (by simp) ?_
          refine AllReadyH.cons rfl (fun K hK => ?_) AllReadyH.nil
          go_simp
          refine hK.out _ _ ?_ (fun hHeld13 => ?_)
          · exact SS.out _ _ _ ((R4.out.set1 BL.out.1 (by omega) NE1.out _).set2 BL.out.2 (by omega) NE2.out _)
          clear hK K
          refine wpAnyH_done (by kernel_rfl) ?_ _
          exact FIN.out w4 R4.out KF4.out
        exact AllReadyH.nil
      exact AllReadyH.nil
    refine AllReadyH.cons rfl (fun K hK => ?_) ?_
    · go_simp
      go_wp2_with (go_at_call 88; refine (SO.out _).mono ?_; rintro e w' ⟨rfl, rfl⟩)
      refine hK.out _ _ ?_ (fun hHeld2 => ?_)
      · first | exact HS.out | exact hHeld
      clear hK K hHeld2
      refine wpAnyH_ready (rs := [4, 5]) (by kernel_rfl) (by simp) ?_
      refine AllReadyH.cons rfl (fun K hK => ?_) ?_
      · go_simp
        refine hK.out _ _ ?_ (fun hHeld2 => ?_)
        · first | exact HS.out | exact hHeld
        clear hK K hHeld2
        refine wpAnyH_ready (rs := [5]) (by kernel_rfl) (by simp) ?_
        refine AllReadyH.cons rfl (fun K hK => ?_) ?_
        · go_simp
          refine hK.out _ _ ?_ (fun hHeld2 => ?_)
          · first | exact HS.out | exact hHeld
          clear hK K hHeld2
          refine wpAnyH_ready (rs := [8]) (by kernel_rfl) (by simp) ?_
          refine AllReadyH.cons rfl (fun K hK => ?_) AllReadyH.nil
          go_simp
          go_wp2_with (go_at_call 105; refine (NA.out _ HR.out).mono ?_; rintro e w4 ⟨rfl, r4, kf4⟩; have e1 : w4.cell? ⟨B1, 0, none⟩ = some (.int .i64 q.1) := (by rw [Joins.cell_of_block r4.x1]; rfl); have e2 : w4.cell? ⟨B1 + 1, 0, none⟩ = some (.int .i64 q.2) := (by rw [Joins.cell_of_block r4.x2]; rfl); have f1 := Joins.unfrozen_of_block r4.x1 0; have f2 := Joins.unfrozen_of_block r4.x2 0; have s4 := SS.out w4 _ _ r4; have R4 := Lib.hid r4; have KF4 := Lib.hid kf4; clear r4 kf4)
          refine hK.out _ _ s4 (fun hHeld4 => ?_)
          clear hK K
          refine wpAnyH_take (i := 9) (oi := _) (v := ?_) rfl (by kernel_rfl) (by kernel_rfl) (by kernel_rfl) (fun _ _ _ h => h) (Or.inl ⟨by rfl, ?_⟩) (by assumption) ?_
          rotate_left
          · (intro wz hSw; (try dsimp only at hSw); go_simp; try with_reducible rfl)
          try simp only [Act.put, List.setIfInBounds_toArray]
          refine wpAnyH_take (i := 10) (oi := _) (v := ?_) rfl (by kernel_rfl) (by kernel_rfl) (by kernel_rfl) (fun _ _ _ h => h) (Or.inl ⟨by rfl, ?_⟩) (by assumption) ?_
          rotate_left
          · (intro wz hSw; (try dsimp only at hSw); go_simp; try with_reducible rfl)
          try simp only [Act.put]
          refine wpAnyH_take (i := 11) (oi := _) (v := ?_) rfl (by kernel_rfl) (by kernel_rfl) (by kernel_rfl) (fun _ _ _ h => h) (Or.inl ⟨by rfl, ?_⟩) (by assumption) ?_
          rotate_left
          · (intro wz hSw; (try dsimp only at hSw); go_simp; try with_reducible rfl)
          try simp only [Act.put]
          refine wpAnyH_ready (rs := [12]) (by kernel_rfl) (by simp) ?_
          refine AllReadyH.cons rfl (fun K hK => ?_) AllReadyH.nil
          go_simp
          refine hK.out _ _ ?_ (fun hHeld12 => ?_)
          · exact SS.out _ _ _ (R4.out.set1 BL.out.1 (by omega) NE1.out _)
          clear hK K
          refine wpAnyH_ready (rs := [13]) (by kernel_rfl) (by simp) ?_
          refine AllReadyH.cons rfl (fun K hK => ?_) AllReadyH.nil
          go_simp
          refine hK.out _ _ ?_ (fun hHeld13 => ?_)
          · exact SS.out _ _ _ ((R4.out.set1 BL.out.1 (by omega) NE1.out _).set2 BL.out.2 (by omega) NE2.out _)
          clear hK K
          refine wpAnyH_done (by kernel_rfl) ?_ _
          exact FIN.out w4 R4.out KF4.out
        exact AllReadyH.nil
      refine AllReadyH.cons rfl (fun K hK => ?_) ?_
      · go_simp
        refine hK.out _ _ ?_ (fun hHeld2 => ?_)
        · first | exact HS.out | exact hHeld
        clear hK K hHeld2
        refine wpAnyH_ready (rs := [4]) (by kernel_rfl) (by simp) ?_
        refine AllReadyH.cons rfl (fun K hK => ?_) ?_
        · go_simp
          refine hK.out _ _ ?_ (fun hHeld2 => ?_)
          · first | exact HS.out | exact hHeld
          clear hK K hHeld2
          refine wpAnyH_ready (rs := [8]) (by kernel_rfl) (by simp) ?_
          refine AllReadyH.cons rfl (fun K hK => ?_) AllReadyH.nil
          go_simp
          go_wp2_with (go_at_call 105; refine (NA.out _ HR.out).mono ?_; rintro e w4 ⟨rfl, r4, kf4⟩; have e1 : w4.cell? ⟨B1, 0, none⟩ = some (.int .i64 q.1) := (by rw [Joins.cell_of_block r4.x1]; rfl); have e2 : w4.cell? ⟨B1 + 1, 0, none⟩ = some (.int .i64 q.2) := (by rw [Joins.cell_of_block r4.x2]; rfl); have f1 := Joins.unfrozen_of_block r4.x1 0; have f2 := Joins.unfrozen_of_block r4.x2 0; have s4 := SS.out w4 _ _ r4; have R4 := Lib.hid r4; have KF4 := Lib.hid kf4; clear r4 kf4)
          refine hK.out _ _ s4 (fun hHeld4 => ?_)
          clear hK K
          refine wpAnyH_take (i := 9) (oi := _) (v := ?_) rfl (by kernel_rfl) (by kernel_rfl) (by kernel_rfl) (fun _ _ _ h => h) (Or.inl ⟨by rfl, ?_⟩) (by assumption) ?_
          rotate_left
          · (intro wz hSw; (try dsimp only at hSw); go_simp; try with_reducible rfl)
          try simp only [Act.put, List.setIfInBounds_toArray]
          refine wpAnyH_take (i := 10) (oi := _) (v := ?_) rfl (by kernel_rfl) (by kernel_rfl) (by kernel_rfl) (fun _ _ _ h => h) (Or.inl ⟨by rfl, ?_⟩) (by assumption) ?_
          rotate_left
          · (intro wz hSw; (try dsimp only at hSw); go_simp; try with_reducible rfl)
          try simp only [Act.put]
          refine wpAnyH_take (i := 11) (oi := _) (v := ?_) rfl (by kernel_rfl) (by kernel_rfl) (by kernel_rfl) (fun _ _ _ h => h) (Or.inl ⟨by rfl, ?_⟩) (by assumption) ?_
          rotate_left
          · (intro wz hSw; (try dsimp only at hSw); go_simp; try with_reducible rfl)
          try simp only [Act.put]
          refine wpAnyH_ready (rs := [12]) (by kernel_rfl) (by simp) ?_
          refine AllReadyH.cons rfl (fun K hK => ?_) AllReadyH.nil
          go_simp
          refine hK.out _ _ ?_ (fun hHeld12 => ?_)
          · exact SS.out _ _ _ (R4.out.set1 BL.out.1 (by omega) NE1.out _)
          clear hK K
          refine wpAnyH_ready (rs := [13]) (by kernel_rfl) (by simp) ?_
          refine AllReadyH.cons rfl (fun K hK => ?_) AllReadyH.nil
          go_simp
          refine hK.out _ _ ?_ (fun hHeld13 => ?_)
          · exact SS.out _ _ _ ((R4.out.set1 BL.out.1 (by omega) NE1.out _).set2 BL.out.2 (by omega) NE2.out _)
          clear hK K
          refine wpAnyH_done (by kernel_rfl) ?_ _
          exact FIN.out w4 R4.out KF4.out
        exact AllReadyH.nil
      exact AllReadyH.nil
    exact AllReadyH.nil

  case done =>
    rintro D ys W hD rfl hR hK
    have c1 : W.cell? ⟨B1, 0, none⟩ = some (.int .i64 (narN L C N (came n z n)).1) := by rw [Joins.cell_of_block hR.x1]; rfl
    have c2 : W.cell? ⟨B1 + 1, 0, none⟩ = some (.int .i64 (narN L C N (came n z n)).2) := by rw [Joins.cell_of_block hR.x2]; rfl
    have RF := Lib.hid (fun nq => ((RdB.own (rest := rest) w3.heap.size l0 (β := Unit) (fun _ => (narN L C N (came n z n)).1) (fun _ => (narN L C N (came n z n)).2)).putObj (s := ()) (.deferred none) (hR.drewN nq) hD (show (W.drewN nq).heap[D]? = _ from hK) rfl).rd)
    generalize hq : narN L C N (came n z n) = q at c1 c2
    have HQ := Lib.hid hq
    clear hq hR
    gi_wp2
    refine wpIn_wide.2 ?_
    go_quiet (fail)
    have hK2 : (W.drewN nq).heap[D]? = some (.deferred (some [])) := hK
    gi_wp2
    refine ⟨by simp, .inl ⟨_, _, rfl, run_takeDeferred hK2, ?_⟩⟩
    exact ⟨_, results_tmp2 rfl _ _ _, by rw [HQ.out]; rfl, RF.out nq⟩
  case stop =>
    rintro D c pre W _ _ h _
    exact h.elim
end
end Go.Proofs.YtnadgcgnediakaaGreatDoor
namespace Go.Proofs.YtnadgcgnediakaaGreatDoor
open Go.ChangeShapes Go.WideShapes Go.ChangeAt Go.RowKit Go.Deep Go.Shelf

def intsI (zs : List Int) : List Value := zs.map fun z => .int .i64 z
/-- the library's sort of numbers -/
theorem isort_any (w : World) (g c : Nat) (zs : List Int) (ho : w.ownsRow 0 3 1 (.slice (some ⟨g, 0, none⟩) zs.length c) zs.length (intsI zs)) (hn : zs.length < 1000) :
    Calls Tryz.prog 49 #[.slice (some ⟨g, 0, none⟩) zs.length c] w fun e w' => e = .returned (.tuple #[]) ∧ w.grownBy w' (some g) ∧ w'.ownsRow 0 3 1 (.slice (some ⟨g, 0, none⟩) zs.length c) zs.length (intsI (zs.mergeSort fun x y => decide (x ≤ y))) := by
  obtain ⟨cur, hcu, hc1, hc2, hc3, hc4⟩ := owns_row ho
  have hH : Go.Sort.Holds (Value.int .i64) w g 0 zs.toArray := by
    intro j hj
    have hj' : j < zs.length := by simpa using hj
    refine ⟨?_, owns_free ho _⟩
    rw [Nat.zero_add, owns_cell ho j (.int .i64 zs[j]) (by simp [intsI, hj'])]
    simp [hj']
  have R := Any.slices_Sort_int Tryz.sortI g 0 c zs w hH (lt_of_block hcu) (by omega)
  change Calls Tryz.prog 49 _ _ _ at R
  refine R.mono ?_
  rintro e w' ⟨rfl, m, os, rfl⟩
  have hp : (zs.mergeSort fun x y => decide (x ≤ y)).length = zs.length := List.length_mergeSort _
  refine ⟨rfl, grownBy_sortedK (n := m) (os := os) _, by simp [intsI, hp], .inr ⟨g, c, _, rfl, Nat.zero_le _, heap_sortedK (n := m) (os := os) _ hcu, hc1, hc2, by simp [Go.Sort.putCells]; simpa using hc3, ?_⟩⟩
  have ht := take_putCellsK (enc := Value.int .i64) cur (zs.mergeSort fun x y => decide (x ≤ y)) (by rw [hp]; omega)
  rw [hp] at ht
  rw [Nat.mul_one]
  exact ht
theorem isort_none (a : Option Addr) (c : Nat) (w : World) : Calls Tryz.prog 49 #[.slice a 0 c] w fun e w' => e = .returned (.tuple #[]) ∧ w' = w := Any.slices_Sort_int_none Tryz.sortI a c w
section
variable {o : Nat → Nat} {w wz : World} {A : At} {lb pb rate N : Nat} {ix : Nat → Nat} {S : Nat → Bool} {L : List Nat} {C : Nat → Nat} {all : Nat} {e : TypeId} {size : Nat} {v : Value} {n t : Nat} {xs : List Value} {x : Obj}
theorem StV.grow2 (h : StV o w A lb pb rate N ix S L C all e size v n xs wz) {g cap m : Nat} {news : List Value} {w3 : World} (hown : w3.ownsRow 0 e size (.slice (some ⟨g, 0, none⟩) m cap) m news) (hg : wz.grownBy w3 v.ownBlock) (hat : v.ownBlock = some g ∨ wz.heap.size ≤ g) :
    StV o w A lb pb rate N ix S L C all e size (.slice (some ⟨g, 0, none⟩) m cap) m news w3 := by
  obtain ⟨o', u, k, r, q⟩ := h
  have uu : Upd o' (fun x => x = 6) wz w3 (ext o' wz.heap.size 6) := (Upd.start o' _ wz 6).grown hg (fun b hb => .inr (r.2 b hb))
  have hb : w.heap.size ≤ g := by
    rcases hat with h1 | h1
    · exact q g h1
    · exact Nat.le_trans u.size h1
  refine ⟨_, ?_, k.keep uu (ext_no5 k.n5 _ (by omega)) (by omega), ⟨hown, fun b hb' => ?_⟩, fun b hb' => ?_⟩
  · have u2 := u.ext 6
    exact u2.grown hg (fun b hb => .inl (q b hb))
  · cases hb'
    rcases hat with h1 | h1
    · rw [ext_old (ownBlock_lt r.1 h1)]
      exact r.2 g h1
    · exact ext_new h1
  · cases hb'
    exact hb
end
section
variable {o : Nat → Nat} {w wz : World} {A : At} {lb pb rate N : Nat} {s ix : Nat → Nat} {S : Nat → Bool} {L : List Nat} {C : Nat → Nat} {all : Nat}
theorem fcount_any (h : IsLive w o A lb pb rate N ix S L C all) (ar : Arr N s ix L C all) (hN : N ≤ 120) (qb qc n : Nat) (dv : Value) (z : Nat → Fin 256) (hq : w.cell? ⟨qb, 0, none⟩ = some dv) (hd : BySl w dv ((List.range n).map fun j => .int .u8 ((z j).1 : Nat))) (hn : n < 1000) :
    Calls Tryz.prog 17 #[.pointer (some ⟨lb, 0, none⟩), .slice (some ⟨qb, 0, none⟩) 1 qc] w fun e w' => e = .returned (.int .i64 ((narN L C N (came n z n)).2 - (narN L C N (came n z n)).1 : Nat)) ∧ RdL o w A lb pb rate N ix S L C all w' := by
  have FR := Lib.hid (frows_any h ar hN qb qc n dv z hq hd hn)
  obtain ⟨h1, h2⟩ := narN_ok ar (came n z n)
  generalize narN L C N (came n z n) = q at FR h1 h2 ⊢
  have E := Lib.hid (show (q.2 : Int) - q.1 = (q.2 - q.1 : Nat) by omega)
  clear h ar hq hd
  obtain ⟨lo, hi⟩ := q
  simp only at FR E h1 h2 ⊢
  go_enter Tryz.func17, Tryz.ntmps17
  go_wp2_with fail
  refine FR.out.mono ?_
  rintro e w' ⟨rfl, r⟩
  have R := Lib.hid r
  clear r
  go_wp2_with fail
  go_ret
  exact ⟨ret_int E.out, R.out⟩
/-- the place of a row -/
theorem Arr.place (ar : Arr N s ix L C all) : ∃ pl : Nat → Nat, ∀ r, r ≤ N → pl r ≤ N ∧ ix (pl r) = r := by
  have hb : ∀ i, i < N + 1 → ix i < N + 1 := fun i hi => by have := ar.rows.lt i (by omega); omega
  have hi : ∀ i j, i < N + 1 → j < N + 1 → ix i = ix j → i = j := fun i j h1 h2 => ar.rows.inj i j (by omega) (by omega)
  refine ⟨fun r => if h : r ≤ N then (Wd.surj (N + 1) ix hb hi r (by omega)).choose else 0, fun r hr => ?_⟩
  simp only [hr, dite_true]
  have := (Wd.surj (N + 1) ix hb hi r (by omega)).choose_spec
  exact ⟨by omega, this.2⟩
def placesZ (pl : Nat → Nat) (lo m : Nat) : List Int := (List.range m).map fun i => (pl (lo + i) : Int)
theorem placesZ_snoc (pl : Nat → Nat) (lo m : Nat) : intsI (placesZ pl lo (m + 1)) = intsI (placesZ pl lo m) ++ [.int .i64 (pl (lo + m))] := by
  unfold placesZ intsI
  rw [List.range_succ, List.map_append, List.map_append]
  rfl
theorem placesZ_len (pl : Nat → Nat) (lo m : Nat) : (placesZ pl lo m).length = m := by unfold placesZ; rw [List.length_map, List.length_range]
set_option maxRecDepth 20000 in
set_option maxHeartbeats 2000000 in
theorem where_any (h : IsLive w o A lb pb rate N ix S L C all) (ar : Arr N s ix L C all) (hc : Wd.Cons N s ix) (hS : S 0 = true) (hN : N ≤ 120) (pl : Nat → Nat) (hpl : ∀ r, r ≤ N → pl r ≤ N ∧ ix (pl r) = r) (qb qc n : Nat) (dv : Value) (z : Nat → Fin 256) (hq : w.cell? ⟨qb, 0, none⟩ = some dv) (hd : BySl w dv ((List.range n).map fun j => .int .u8 ((z j).1 : Nat))) (hn : n < 1000) :
    Calls Tryz.prog 18 #[.pointer (some ⟨lb, 0, none⟩), .slice (some ⟨qb, 0, none⟩) 1 qc] w fun e w' => ∃ v, e = .returned v ∧ StV o w A lb pb rate N ix S L C all 3 1 v ((narN L C N (came n z n)).2 - (narN L C N (came n z n)).1)
      (intsI ((placesZ pl (narN L C N (came n z n)).1 ((narN L C N (came n z n)).2 - (narN L C N (came n z n)).1)).mergeSort fun x y => decide (x ≤ y))) w' := by
  have FR := Lib.hid (frows_any h ar hN qb qc n dv z hq hd hn)
  have PO := Lib.hid (fun (wy : World) o' (hy : IsLive wy o' A lb pb rate N ix S L C all) r (hr : r ≤ N) => (hpl r hr).2 ▸ lpos_any (RdL.refl hy) ar hc (by omega) hS (pl r) (hpl r hr).1)
  obtain ⟨h1, h2⟩ := narN_ok ar (came n z n)
  generalize narN L C N (came n z n) = q at FR h1 h2 ⊢
  obtain ⟨lo, hi⟩ := q
  simp only at FR h1 h2 ⊢
  obtain ⟨m, hm⟩ : ∃ m, hi - lo = m := ⟨_, rfl⟩
  have HM := Lib.hid (show lo + m = hi by omega)
  rw [hm]
  clear hm
  obtain ⟨i0, hi', hz0, hz1, hz2⟩ := info_parts info3
  have HI := Lib.hid (And.intro hi' (And.intro hz0 (And.intro hz1 hz2)))
  clear h ar hc hS hpl hq hd hi' hz0 hz1 hz2
  go_enter Tryz.func18, Tryz.ntmps18
  go_wp2_with fail
  refine FR.out.mono ?_
  rintro e w1 ⟨rfl, r1⟩
  have V1 := Lib.hid (StV.start r1 3 1)
  clear r1 FR
  go_wp2_with fail
  go_loopg [7, 8] m (fun gg s7 s8 wr => ∃ j : Nat, j ≤ m ∧ m - j ≤ gg ∧ s8 = .int .i64 (lo + j : Nat) ∧ Aside (StV o w A lb pb rate N ix S L C all 3 1 s7 j (intsI (placesZ pl lo j)) wr))
  case atStart => exact ⟨0, Nat.zero_le _, by omega, rfl, (V1.out : StV o w A lb pb rate N ix S L C all 3 1 _ 0 [] _)⟩
  case round =>
    obtain ⟨j, hj, hg, rfl, vv⟩ := hrel
    have hmm := HM.out
    by_cases hlt : j < m
    · have hjz : decide (lo + j < hi) = true := decide_eq_true (by omega)
      obtain ⟨va, vc, hv⟩ := own_shape vv.out.row
      subst hv
      have P1 := Lib.hid (vv.out.call (fun o' k => PO.out wr o' k (lo + j) (by omega)))
      have PV := Lib.hid (placesZ_snoc pl lo j)
      obtain ⟨r, hr⟩ : ∃ r, lo + j = r := ⟨_, rfl⟩
      have ER := Lib.hid (show ((lo + (j + 1) : Nat) : Int) = (r : Int) + 1 by omega)
      have hrb : r ≤ N + 1 := by omega
      have hjb : j < 200 := by omega
      rw [hr] at P1 PV hjz ⊢
      generalize pl r = u at P1 PV
      clear vv hr hmm
      go_wp2_with fail
      refine P1.out.mono ?_
      rintro e w2 ⟨rfl, v2⟩
      have R2 := Lib.hid (v2.alloc (.cells #[.int .i64 (u : Nat)] 3))
      clear v2 P1
      go_wp2_with (first | (at_builtin; go_loud (refine wpList_append_where _ rfl _ _ 28 rfl 3 i0 (.int .i64 0) 1 8 Tryz.underlying28 HI.out.1 HI.out.2.1 HI.out.2.2.1 HI.out.2.2.2 rfl (by decide) _ _ _ rfl R2.out.val.row ⟨w2.heap.size, 0, none⟩ 1 1 [.int .i64 (u : Nat)] rfl rfl (one_at R2.out.tmp) (one_int _ _) (by unfold maxLen; omega) (by omega) ?_)) | fail)
      intro v3 w3 hown hgr hwh
      obtain ⟨g, c, rfl, _, _⟩ := own_form hown (by omega)
      rw [← PV.out] at hown
      have V3 := Lib.hid (R2.out.val.grow2 hown hgr (by
        rcases hwh g rfl with h | h
        · exact .inl h
        · exact .inr (by simpa using h)))
      clear hown hgr hwh R2
      go_wp2_with fail
      go_roundg (m - (j + 1))
      case measure => omega
      case rel => exact ⟨j + 1, by omega, Nat.le_refl _, by rw [ER.out], V3.out⟩
    · have : j = m := by omega
      subst this
      have hjz : decide (lo + j < hi) = false := decide_eq_false (by omega)
      have hjb : j < 200 := by omega
      obtain ⟨va, vc, hv⟩ := own_shape vv.out.row
      subst hv
      have V := Lib.hid vv.out
      have HL := Lib.hid (placesZ_len pl lo j)
      obtain ⟨r, hr⟩ : ∃ r, lo + j = r := ⟨_, rfl⟩
      rw [hr] at hjz ⊢
      clear hmm hr vv
      rcases Nat.eq_zero_or_pos j with rfl | h0
      · have SN := Lib.hid (isort_none va vc wr)
        go_wp2_with fail
        refine SN.out.mono ?_
        rintro e w4 ⟨rfl, rfl⟩
        go_wp2_with fail
        go_ret
        refine ⟨_, rfl, ?_⟩
        have e0 : (placesZ pl lo 0).mergeSort (fun x y => decide (x ≤ y)) = placesZ pl lo 0 := by simp [placesZ]
        rw [e0]
        exact V.out
      · obtain ⟨g, c, hg', _, _⟩ := own_form V.out.row h0
        cases hg'
        have IS := Lib.hid (HL.out ▸ isort_any wr g vc (placesZ pl lo j) (by rw [HL.out]; exact V.out.row) (by rw [HL.out]; omega))
        go_wp2_with fail
        refine IS.out.mono ?_
        rintro e w4 ⟨rfl, hgr, hro⟩
        have V4 := Lib.hid (V.out.grow hro hgr (.inl rfl))
        clear hgr hro IS
        go_wp2_with fail
        go_ret
        exact ⟨_, rfl, V4.out⟩
end
end Go.Proofs.YtnadgcgnediakaaGreatDoor
namespace Go.Proofs.YtnadgcgnediakaaGreatDoor
open Go.ChangeShapes Go.WideShapes Go.ChangeAt Go.RowKit Go.Deep

/-- a block of four cells, written -/
def set4 (w : World) (g : Nat) (a b c d : Value) : World := (((w.setCell ⟨g, 0, none⟩ a).setCell ⟨g, 1, none⟩ b).setCell ⟨g, 2, none⟩ c).setCell ⟨g, 3, none⟩ d
theorem set4_heap {w : World} {g : Nat} {x0 x1 x2 x3 : Value} {t : TypeId} (h : w.heap[g]? = some (.cells #[x0, x1, x2, x3] t (0, 0))) (a b c d : Value) : (set4 w g a b c d).heap[g]? = some (.cells #[a, b, c, d] t (0, 0)) :=
  Joins.block_setCell (i := 3) (Joins.block_setCell (i := 2) (Joins.block_setCell (i := 1) (Joins.block_setCell (i := 0) h a) b) c) d
theorem set4_upd {o o' : Nat → Nat} {c' : Nat → Prop} {w w' : World} (u : Upd o c' w w' o') {g : Nat} (hg : w.heap.size ≤ g ∨ c' (o g)) (a b c d : Value) : Upd o c' w (set4 w' g a b c d) o' :=
  (((u.set (a := ⟨g, 0, none⟩) a hg).set (a := ⟨g, 1, none⟩) b hg).set (a := ⟨g, 2, none⟩) c hg).set (a := ⟨g, 3, none⟩) d hg
def resV (code n : Int) (d p : Value) : Value := .agg #[.int .i64 code, .int .i64 n, d, p]
def stepV (kind a k : Int) (dv : Value) : Value := .agg #[.int .i64 kind, .int .i64 a, .int .i64 k, dv]
def stepC (kind a k : Int) (dv : Value) : Obj := .cells #[.int .i64 kind, .int .i64 a, .int .i64 k, dv] 33
def resC : Obj := .cells #[.int .i64 0, .int .i64 0, .slice none 0 0, .slice none 0 0] 30
theorem resC_cells {w : World} {g : Nat} (h : w.heap[g]? = some resC) : (w.cell? ⟨g, 0, none⟩ = some (.int .i64 0) ∧ w.cell? ⟨g, 1, none⟩ = some (.int .i64 0) ∧ w.cell? ⟨g, 2, none⟩ = some (.slice none 0 0) ∧ w.cell? ⟨g, 3, none⟩ = some (.slice none 0 0)) ∧
    (w.frozen? ⟨g, 0, none⟩ = false ∧ w.frozen? ⟨g, 1, none⟩ = false ∧ w.frozen? ⟨g, 2, none⟩ = false ∧ w.frozen? ⟨g, 3, none⟩ = false) := by
  unfold resC at h
  exact ⟨⟨by rw [Joins.cell_of_block h]; rfl, by rw [Joins.cell_of_block h]; rfl, by rw [Joins.cell_of_block h]; rfl, by rw [Joins.cell_of_block h]; rfl⟩, Joins.unfrozen_of_block h 0, Joins.unfrozen_of_block h 1, Joins.unfrozen_of_block h 2, Joins.unfrozen_of_block h 3⟩
/-- what a drawn statement of Do reads -/
def SS (sb lb g : Nat) (dv : Value) (wz : World) : Prop := wz.cell? ⟨sb, 0, none⟩ = some (.pointer (some ⟨lb, 0, none⟩)) ∧ wz.cell? ⟨g, 3, none⟩ = some dv
theorem SS.heap {sb lb g : Nat} {dv : Value} {wz wx : World} (h : SS sb lb g dv wz) (h1 : wx.heap[sb]? = wz.heap[sb]?) (h2 : wx.heap[g]? = wz.heap[g]?) : SS sb lb g dv wx :=
  ⟨by rw [World.cell?_of_block (w := wz) h1]; exact h.1, by rw [World.cell?_of_block (w := wz) h2]; exact h.2⟩
theorem SS.set {sb lb g r : Nat} {dv : Value} {wz : World} (h : SS sb lb g dv wz) (h1 : r ≠ sb) (h2 : r ≠ g) (a b c d : Value) : SS sb lb g dv (set4 wz r a b c d) := by
  have e : ∀ x, x ≠ r → (set4 wz r a b c d).heap[x]? = wz.heap[x]? := by
    intro x hx
    unfold set4
    rw [Below.heap_setCell _ _ _ _ hx, Below.heap_setCell _ _ _ _ hx, Below.heap_setCell _ _ _ _ hx, Below.heap_setCell _ _ _ _ hx]
  exact h.heap (e _ (Ne.symm h1)) (e _ (Ne.symm h2))
section
variable {o : Nat → Nat} {w : World} {A : At} {lb pb rate N sb most : Nat} {s ix : Nat → Nat} {S : Nat → Bool} {L : List Nat} {C : Nat → Nat} {all : Nat}
theorem RdL.res {o2 : Nat → Nat} {w' : World} (u : Upd o gl w w' o2) (k : IsLive w' o2 A lb pb rate N ix S L C all) {g : Nat} (hg : w.heap.size ≤ g) (h6 : o2 g = 6) (a b c d : Value) : RdL o w A lb pb rate N ix S L C all (set4 w' g a b c d) :=
  ⟨o2, set4_upd u (.inl hg) a b c d, k.keep (d := fun x => x = 6) (set4_upd (Upd.refl o2 _ w') (.inr h6) a b c d) k.n5 (by omega)⟩
theorem Grows.res {w' : World} {o1 : Nat → Nat} {W : World} (h : Grows o1 W A lb pb rate N s all w') (u1 : Upd o gl w W o1) {g : Nat} (hg : w.heap.size ≤ g) (hl : g < W.heap.size) (h6 : o1 g = 6) (a b c d : Value) : Grows o w A lb pb rate N s all (set4 w' g a b c d) := by
  obtain ⟨ix, S, L, C, h1, h2, h3, o2, u, k⟩ := h
  exact ⟨ix, S, L, C, h1, h2, h3, RdL.res (u1.trans u (fun _ h => h)) k hg ((u.own g hl).trans h6) a b c d⟩
theorem set4_ne {wz : World} {r x : Nat} (hx : x ≠ r) (a b c d : Value) : (set4 wz r a b c d).heap[x]? = wz.heap[x]? := by
  unfold set4
  rw [Below.heap_setCell _ _ _ _ hx, Below.heap_setCell _ _ _ _ hx, Below.heap_setCell _ _ _ _ hx, Below.heap_setCell _ _ _ _ hx]
theorem StV.res {e : TypeId} {size n B : Nat} {v : Value} {xs : List Value} {o2 : Nat → Nat} {w' : World} (u : Upd o gl w w' o2) (k : IsLive w' o2 A lb pb rate N ix S L C all) (ow : Owned w' o2 6 e size v n xs) (hv : ∀ g, v.ownBlock = some g → B ≤ g) {r : Nat} (hr : w.heap.size ≤ r) (hrB : r < B) (h6 : o2 r = 6) (a b c d : Value) :
    StV o w A lb pb rate N ix S L C all e size v n xs (set4 w' r a b c d) :=
  ⟨o2, set4_upd u (.inl hr) a b c d, k.keep (d := fun x => x = 6) (set4_upd (Upd.refl o2 _ w') (.inr h6) a b c d) k.n5 (by omega), ⟨owns_same ow.1 fun j hj => set4_ne (by have := hv j hj; omega) _ _ _ _, ow.2⟩, fun g hg => by have := hv g hg; omega⟩
/-- the call's own two blocks -/
structure TwoB (o : Nat → Nat) (w : World) (st : Obj) (W : World) : Prop where
  u : Upd o (fun _ => False) w W (ext o w.heap.size 6)
  sz : W.heap.size = w.heap.size + 2
  st : W.heap[w.heap.size]? = some st
  rs : W.heap[w.heap.size + 1]? = some resC
theorem TwoB.mk' (o : Nat → Nat) (w : World) (x : Obj) : TwoB o w x ((w.alloc x).alloc resC) :=
  ⟨((Upd.start o _ w 6).alloc _).alloc _, by simp, by rw [Below.heap_alloc _ _ _ (by simp)]; exact heap_alloc_new w x, by have := heap_alloc_new (w.alloc x) resC; simpa using this⟩
set_option maxHeartbeats 2000000 in
theorem sdo_ins (h : IsLive w o A lb pb rate N ix S L C all) (hs : w.heap[sb]? = some (stC lb most)) (os : o sb = 3) (ar : Arr N s ix L C all) (hc : Wd.Cons N s ix) (hcov : Wd.Cov S N rate) (n : Nat) (hN : N + n ≤ 110) (hr1 : 1 ≤ rate) (hr2 : rate ≤ 64) (a : Nat) (ha : a ≤ N) (hm : N + n ≤ most) (hm2 : most < 1000)
    (k : Int) (dv : Value) (z : Nat → Fin 256) (hd : BySl w dv (byV z n)) (od : Mine o dv) :
    Calls Tryz.prog 7 #[.pointer (some ⟨sb, 0, none⟩), stepV 1 a k dv] w fun e w' => e = .returned (resV 0 0 (.slice none 0 0) (.slice none 0 0)) ∧ Grows o w A lb pb rate (N + n) (sInM s a z n) (all + n) w' := by
  have tw := TwoB.mk' o w (stepC 1 a k dv)
  obtain ⟨W, hW⟩ : ∃ W, W = (w.alloc (stepC 1 a k dv)).alloc resC := ⟨_, rfl⟩
  rw [← hW] at tw
  have hs1 := tw.u.heap hs (by simp)
  have hb2 : BySl W dv (byV z n) := hd.same tw.u.size (fun b hb => tw.u.same b hb (by simp))
  have od1 : Mine (ext o w.heap.size 6) dv := by
    rintro b off m c rfl hm0
    rcases hd.2 with ⟨e, _⟩ | ⟨b2, off2, c2, e, hb, _⟩ | ⟨ad, c2, e, _⟩
    · cases e
    · cases e
      rw [ext_old hb]
      exact od _ _ _ _ rfl hm0
    · cases e
      unfold ext
      split
      · exact od _ _ _ _ rfl hm0
      · unfold gl; omega
  have SE := Lib.hid (sedit_any (h.keep tw.u (ext_no5 h.n5 _ (by omega)) (by simp)) hs1.1 (hs1.2.trans os) ar hc hcov n hN hr1 hr2 a ha hm hm2 k dv z hb2 od1)
  have TW := Lib.hid tw
  have st := tw.st
  unfold stepC at st
  have c0 : W.cell? ⟨w.heap.size, 0, none⟩ = some (.int .i64 1) := by rw [Joins.cell_of_block st]; rfl
  have c1 : W.cell? ⟨w.heap.size, 1, none⟩ = some (.int .i64 a) := by rw [Joins.cell_of_block st]; rfl
  have c2 : W.cell? ⟨w.heap.size, 2, none⟩ = some (.int .i64 k) := by rw [Joins.cell_of_block st]; rfl
  have c3 : W.cell? ⟨w.heap.size, 3, none⟩ = some dv := by rw [Joins.cell_of_block st]; rfl
  obtain ⟨da, dn, dc, rfl⟩ : ∃ da dn dc, dv = .slice da dn dc := by
    rcases hd.2 with ⟨e, e2⟩ | ⟨b, off, c, e, _⟩ | ⟨ad, c, e, _⟩
    · exact ⟨_, _, _, e⟩
    · exact ⟨_, _, _, e⟩
    · exact ⟨_, _, _, e⟩
  unfold stepC resC at hW
  have HW := Lib.hid hW
  have hsz : (w.alloc (.cells #[.int .i64 1, .int .i64 a, .int .i64 k, .slice da dn dc] 33)).heap.size = w.heap.size + 1 := by simp
  clear h hs os ar hc hcov hd od tw hs1 hb2 od1 st hW
  unfold stepV resV
  go_enter Tryz.func7, Tryz.ntmps7
  go_wp2_with fail
  rw [← HW.out]
  clear HW
  refine SE.out.mono ?_
  rintro e w2 ⟨rfl, g⟩
  obtain ⟨o2, u2, _⟩ := g.upd
  have hr := (u2.heap TW.out.rs (by rw [ext_new (by omega)]; unfold gl; omega)).1
  have G := Lib.hid g
  have R := Lib.hid hr
  obtain ⟨⟨x0, x1, x2, x3⟩, ⟨f0, f1, f2, f3⟩⟩ := resC_cells hr
  clear g u2 hr SE c0 c1 c2 c3
  go_wp2_with fail
  try simp only [Exit.inBlock, Exit.then]
  refine bodyPost_ret (results_cell_row rfl _ _ (w.heap.size + 1) 30 #[.int .i64 0, .int .i64 0, .slice none 0 0, .slice none 0 0] (0, 0) _ rfl (set4_heap R.out _ _ _ _) Tryz.underlying30 rfl (by kernel_rfl)) rfl ?_
  exact ⟨rfl, G.out.res (TW.out.u.mono (by simp)) (by omega) (by rw [TW.out.sz]; omega) (ext_new (by omega)) _ _ _ _⟩
theorem sdo_len (h : IsLive w o A lb pb rate N ix S L C all) (hs : w.heap[sb]? = some (stC lb most)) (ar : Arr N s ix L C all) (hN : N ≤ 110) (a k : Int) (dv : Value) (n : Nat) (z : Nat → Fin 256) (hd : BySl w dv (byV z n)) :
    Calls Tryz.prog 7 #[.pointer (some ⟨sb, 0, none⟩), stepV 4 a k dv] w fun e w' => e = .returned (resV 0 N (.slice none 0 0) (.slice none 0 0)) ∧ RdL o w A lb pb rate N ix S L C all w' := by
  have tw := TwoB.mk' o w (stepC 4 a k dv)
  obtain ⟨W, hW⟩ : ∃ W, W = (w.alloc (stepC 4 a k dv)).alloc resC := ⟨_, rfl⟩
  rw [← hW] at tw
  have hs1 := tw.u.heap hs (by simp)
  have hb2 : BySl W dv (byV z n) := hd.same tw.u.size (fun b hb => tw.u.same b hb (by simp))
  have k1 := h.keep tw.u (ext_no5 h.n5 _ (by omega)) (by simp)
  have K1 := Lib.hid k1
  have r1 := RdL.refl k1
  have LL := Lib.hid (llen_any r1 ar.len (by omega))
  have TW := Lib.hid tw
  have st := tw.st
  have hr := tw.rs
  unfold stepC at st
  have s0 := stC_0 hs1.1
  have s1 := stC_1 hs1.1
  have c0 : W.cell? ⟨w.heap.size, 0, none⟩ = some (.int .i64 4) := by rw [Joins.cell_of_block st]; rfl
  have c1 : W.cell? ⟨w.heap.size, 1, none⟩ = some (.int .i64 a) := by rw [Joins.cell_of_block st]; rfl
  have c2 : W.cell? ⟨w.heap.size, 2, none⟩ = some (.int .i64 k) := by rw [Joins.cell_of_block st]; rfl
  have c3 : W.cell? ⟨w.heap.size, 3, none⟩ = some dv := by rw [Joins.cell_of_block st]; rfl
  obtain ⟨da, dn, dc, rfl⟩ : ∃ da dn dc, dv = .slice da dn dc := by
    rcases hd.2 with ⟨e, e2⟩ | ⟨b, off, c, e, _⟩ | ⟨ad, c, e, _⟩
    · exact ⟨_, _, _, e⟩
    · exact ⟨_, _, _, e⟩
    · exact ⟨_, _, _, e⟩
  unfold stepC resC at hW
  have z0 := s0
  rw [hW] at z0
  have HW := Lib.hid hW
  have hsz : (w.alloc (.cells #[.int .i64 4, .int .i64 a, .int .i64 k, .slice da dn dc] 33)).heap.size = w.heap.size + 1 := by simp
  obtain ⟨⟨x0, x1, x2, x3⟩, ⟨f0, f1, f2, f3⟩⟩ := resC_cells hr
  have R := Lib.hid hr
  clear h hs ar hd tw hs1 hb2 k1 r1 st hr hW
  unfold stepV resV
  go_enter Tryz.func7, Tryz.ntmps7
  go_wp2_with fail
  rw [← HW.out]
  clear HW
  refine LL.out.mono ?_
  rintro e w2 ⟨rfl, rfl⟩
  go_wp2_with fail
  try simp only [Exit.inBlock, Exit.then]
  refine bodyPost_ret (results_cell_row rfl _ _ (w.heap.size + 1) 30 #[.int .i64 0, .int .i64 N, .slice none 0 0, .slice none 0 0] (0, 0) _ rfl (set4_heap R.out _ _ _ _) Tryz.underlying30 rfl (by kernel_rfl)) rfl ?_
  exact ⟨rfl, RdL.res (TW.out.u.mono (by simp)) K1.out (by omega) (ext_new (by omega)) _ _ _ _⟩
end
end Go.Proofs.YtnadgcgnediakaaGreatDoor
