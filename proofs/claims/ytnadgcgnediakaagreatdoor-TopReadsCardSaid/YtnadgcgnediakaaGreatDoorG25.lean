/- Owners matter at cells alone. What makes an empty text: SortFunc of one, Clone of one, sorted.Rows, sorted.Last. -/
import Derived.Test.YtnadgcgnediakaaGreatDoorG23
import Derived.Test.YtnadgcgnediakaaGreatDoorG22
namespace Go.Proofs.YtnadgcgnediakaaGreatDoor
open Go.ChangeShapes Go.WideShapes Go.ChangeAt Go.RowKit Go.Deep

def IsCells (w : World) (b : Nat) : Prop := ∃ cs t f, w.heap[b]? = some (.cells cs t f)
theorem cells_of_cell {w : World} {b i : Nat} {v : Value} (h : w.cell? ⟨b, i, none⟩ = some v) : IsCells w b := by
  unfold World.cell? at h
  split at h
  · rename_i c t f hh
    exact ⟨c, t, f, hh⟩
  · simp at h
section
variable {w : World} {o o' : Nat → Nat}
theorem Owned.re2 {c : Nat} {e : TypeId} {size : Nat} {v : Value} {n : Nat} {xs : List Value} (h : Owned w o c e size v n xs) (hr : ∀ b, IsCells w b → o' b = o b) : Owned w o' c e size v n xs := by
  refine ⟨h.1, fun k hk => ?_⟩
  rw [hr k ?_]
  · exact h.2 k hk
  · rcases h.1.2 with ⟨hv, _⟩ | ⟨g, cap, cur, hv, hb, hg, _⟩
    · rw [hv] at hk
      simp [Value.ownBlock] at hk
    · rw [hv] at hk
      have : g = k := by simpa [Value.ownBlock] using hk
      subst this
      exact ⟨_, _, _, hg⟩
theorem IsTree.re2 {c tb : Nat} {l : List Bool} (h : IsTree w o c tb l) (hr : ∀ b, IsCells w b → o' b = o b) : IsTree w o' c tb l := by
  have q : ∀ {b : Nat} {x : Nat} {cs t f}, w.heap[b]? = some (.cells cs t f) → o b = x → o' b = x := fun hb hx => (hr _ ⟨_, _, _, hb⟩).trans hx
  rcases h with ⟨h1, ab, nb, bb, kb, lc, kc, fv, vis, h⟩ | ⟨h1, ⟨ab, vis, h⟩ | ⟨ab, nb, kb, fb, lc, kc, fc, y, vis, h⟩⟩
  · obtain ⟨w0, w1, hb, _⟩ := h.b
    exact .inl ⟨h1, ab, nb, bb, kb, lc, kc, fv, vis, ⟨h.t, h.a, h.n.re2 hr, h.k.re2 hr, h.f.re2 hr, h.b, q h.t h.ot, q h.a h.oa, q hb h.ob⟩⟩
  · exact .inr ⟨h1, .inl ⟨ab, vis, ⟨h.t, h.a, q h.t h.ot, q h.a h.oa⟩⟩⟩
  · exact .inr ⟨h1, .inr ⟨ab, nb, kb, fb, lc, kc, fc, y, vis, ⟨h.t, h.a, h.n.re2 hr, h.k.re2 hr, h.f.re2 hr, q h.t h.ot, q h.a h.oa⟩⟩⟩
theorem IsSh.re2 {wb n : Nat} {S sc : Nat → Nat} {tb : Nat → Nat → Nat} {B : Nat → Nat → List Bool} {vis : Int} (h : IsSh w o wb n S sc tb B vis) (hr : ∀ b, IsCells w b → o' b = o b) : IsSh w o' wb n S sc tb B vis :=
  ⟨h.top, (hr _ ⟨_, _, _, h.top⟩).trans h.own, h.row, fun lv hl => (hr _ (cells_of_cell (h.row lv hl 0 (Nat.two_pow_pos _)).1)).trans (h.so lv hl), fun lv hl p hp => (h.tree lv hl p hp).re2 hr⟩
theorem IsWalk.re2 {A : At} {L : List Nat} {C : Nat → Nat} {all : Nat} (h : IsWalk w o A L C all) (hr : ∀ b, IsCells w b → o' b = o b) (n5 : No5 o') : IsWalk w o' A L C all := by
  obtain ⟨vis, wv⟩ := h.wave
  obtain ⟨cur, hc, _⟩ := h.tally.row
  exact ⟨h.k, (hr _ ⟨_, _, _, h.k⟩).trans h.ok, ⟨vis, ⟨wv.sh.re2 hr, wv.sym⟩⟩, h.tally, (hr _ ⟨_, _, _, hc⟩).trans h.ot, n5⟩
theorem IsFree.re2 {ap n : Nat} {ord : List Nat} (h : IsFree w o ap n ord) (hr : ∀ b, IsCells w b → o' b = o b) : IsFree w o' ap n ord := by
  obtain ⟨oa, tv, fv, fl, ar, tk, fr, r⟩ := h
  exact ⟨(hr _ ⟨_, _, _, ar⟩).trans oa, tv, fv, fl, ar, tk.re2 hr, fr.re2 hr, r⟩
theorem IsPerm.re2 {pb N : Nat} {ix : Nat → Nat} {S : Nat → Bool} (h : IsPerm w o pb N ix S) (hr : ∀ b, IsCells w b → o' b = o b) : IsPerm w o' pb N ix S := by
  obtain ⟨ap, lv, ov, rf, pf, n, ord, h1, h2⟩ := h
  exact ⟨ap, lv, ov, rf, pf, n, ord, ⟨h1.c, (hr _ ⟨_, _, _, h1.c⟩).trans h1.ob, h1.ar.re2 hr, h1.ls.re2 hr, h1.od.re2 hr, h1.nd, h1.lt, h1.ln⟩, h2⟩
theorem IsLive.re2 {A : At} {lb pb rate N : Nat} {ix : Nat → Nat} {S : Nat → Bool} {L : List Nat} {C : Nat → Nat} {all : Nat} (h : IsLive w o A lb pb rate N ix S L C all) (hr : ∀ b, IsCells w b → o' b = o b) (n5 : No5 o') : IsLive w o' A lb pb rate N ix S L C all := by
  obtain ⟨m, hl⟩ := h.l
  exact ⟨⟨m, hl⟩, (hr _ ⟨_, _, _, hl⟩).trans h.ol, h.wk.re2 hr n5, h.pm.re2 hr, h.tab, (hr 0 (cells_of_cell (h.tab 0 (by decide)))).trans h.o0⟩
end
/-- nothing but cells is a live text's -/
noncomputable def tidy (w0 : World) (W : World) (o : Nat → Nat) : Nat → Nat := by
  classical
  exact fun b => if b < w0.heap.size ∨ IsCells W b then o b else 6
theorem tidy_old {w0 W : World} {o : Nat → Nat} {b : Nat} (h : b < w0.heap.size) : tidy w0 W o b = o b := by
  unfold tidy
  exact if_pos (.inl h)
theorem tidy_cells {w0 W : World} {o : Nat → Nat} {b : Nat} (h : IsCells W b) : tidy w0 W o b = o b := by
  unfold tidy
  exact if_pos (.inr h)
theorem tidy_other {w0 W : World} {o : Nat → Nat} {b : Nat} (h : ¬ b < w0.heap.size) (h2 : ¬ IsCells W b) : tidy w0 W o b = 6 := by
  unfold tidy
  exact if_neg (fun x => x.elim h h2)
theorem tidy_no5 {w0 W : World} {o : Nat → Nat} (h : No5 o) : No5 (tidy w0 W o) := by
  intro b
  unfold tidy
  split
  · exact h b
  · omega
end Go.Proofs.YtnadgcgnediakaaGreatDoor
namespace Go.Proofs.YtnadgcgnediakaaGreatDoor
open Go.ChangeShapes Go.WideShapes Go.ChangeAt Go.RowKit Go.Deep

set_option maxRecDepth 20000 in
set_option maxHeartbeats 1000000 in
theorem len64_one (w : World) : Calls Tryz.prog 169 #[.int .u64 1] w fun e w' => (∃ n : Int, e = .returned (.int .i64 n)) ∧ w' = w := by
  go_enter Tryz.func169, Tryz.ntmps169
  go_wp2_with fail
  go_ret
  exact ⟨⟨_, rfl⟩, rfl⟩
theorem len_one (w : World) : Calls Tryz.prog 108 #[.int .u64 1] w fun e w' => (∃ n : Int, e = .returned (.int .i64 n)) ∧ w' = w := by
  have L := Lib.hid (len64_one w)
  go_enter Tryz.func108, Tryz.ntmps108
  go_wp2_with fail
  refine L.out.mono ?_
  rintro e w' ⟨⟨n, rfl⟩, rfl⟩
  go_wp2_with fail
  go_ret
  exact ⟨⟨n, rfl⟩, rfl⟩
theorem insf_one (b c : Nat) (fv : Value) (w : World) : Calls Tryz.prog 177 #[.slice (some ⟨b, 0, none⟩) 1 c, .int .i64 0, .int .i64 1, fv] w fun e w' => e = .returned (.tuple #[]) ∧ w' = w := by
  go_enter Tryz.func177, Tryz.ntmps177
  go_wp2_with fail
  refine wp_loop_rounds 1 ?_
  rw [rounds_succ]
  go_wp2_with fail
  go_end0
  exact ⟨rfl, rfl⟩
set_option maxHeartbeats 1000000 in
theorem pdqf_one (b c : Nat) (n : Int) (fv : Value) (w : World) : Calls Tryz.prog 124 #[.slice (some ⟨b, 0, none⟩) 1 c, .int .i64 0, .int .i64 1, .int .i64 n, fv] w fun e w' => e = .returned (.tuple #[]) ∧ w' = w := by
  have L := Lib.hid (insf_one b c fv w)
  go_enter Tryz.func124, Tryz.ntmps124
  go_wp2_with fail
  refine wp_loop_rounds 1 ?_
  rw [rounds_succ]
  go_wp2_with fail
  refine L.out.mono ?_
  rintro e w' ⟨rfl, rfl⟩
  go_wp2_with fail
  refine bodyPost_ret (results_none rfl _ _ _) rfl ?_
  exact ⟨rfl, rfl⟩
theorem sortf_one (b c : Nat) (fv : Value) (w : World) : Calls Tryz.prog 72 #[.slice (some ⟨b, 0, none⟩) 1 c, fv] w fun e w' => e = .returned (.tuple #[]) ∧ w' = w := by
  have L := Lib.hid (len_one w)
  have P := Lib.hid (fun n => pdqf_one b c n fv w)
  go_enter Tryz.func72, Tryz.ntmps72
  go_wp2_with fail
  refine L.out.mono ?_
  rintro e w' ⟨⟨n, rfl⟩, rfl⟩
  go_wp2_with fail
  refine (P.out n).mono ?_
  rintro e w' ⟨rfl, rfl⟩
  go_wp2_with fail
  go_end0
  exact ⟨rfl, rfl⟩
set_option maxRecDepth 20000 in
set_option maxHeartbeats 1000000 in
theorem clone_one (b c : Nat) (w : World) (hb : w.cell? ⟨b, 0, none⟩ = some (.int .i64 0)) :
    Calls Tryz.prog 69 #[.slice (some ⟨b, 0, none⟩) 1 c] w fun e w' => ∃ g c', e = .returned (.slice (some ⟨g, 0, none⟩) 1 c') ∧ Below w.heap.size w w' ∧ w'.ownsRow w.heap.size 3 1 (.slice (some ⟨g, 0, none⟩) 1 c') 1 [.int .i64 0] := by
  obtain ⟨i0, hi, hz0, hz1, hz2⟩ := info_parts info3
  have bl := cell_lt hb
  have he : ∀ W : World, (binOp .eql 28 (.slice (some ⟨b, 0, none⟩) 1 c) (.slice none 0 0)).run Tryz.prog W = .ok (.bool false) W := fun _ => rfl
  have ob : (w.alloc (.cells #[] 3)).ownsRow w.heap.size 3 1 (.slice (some ⟨w.heap.size, 0, none⟩) 0 0) 0 [] := World.ownsRow_lit w #[] 0 (Nat.le_refl _) (by unfold maxLen; omega) rfl
  have nw : ∀ (j : Nat) (u : Value), [Value.int .i64 0][j]? = some u → (w.alloc (.cells #[] 3)).cell? ((⟨b, 0, none⟩ : Addr).add j) = some u := by
    intro j u hu
    match j, hu with
    | 0, hu =>
      simp only [List.getElem?_cons_zero, Option.some.injEq] at hu
      subst hu
      rw [show (⟨b, 0, none⟩ : Addr).add 0 = ⟨b, 0, none⟩ from by simp [Addr.add], World.cell?_of_block (w := w) (Below.heap_alloc _ _ _ bl)]
      exact hb
    | j + 1, hu => simp at hu
  go_enter Tryz.func69, Tryz.ntmps69
  go_wp2_with (first | (at_builtin; go_loud (refine wpList_append_own _ rfl _ _ 28 rfl w.heap.size 3 i0 (.int .i64 0) 1 8 Tryz.underlying28 hi hz0 hz1 hz2 rfl (by decide) _ 0 _ rfl ob ⟨b, 0, none⟩ 1 c [.int .i64 0] rfl rfl nw (one_int .i64 0) (by unfold maxLen; omega) (by omega) (by simp) ?_)) | fail)
  intro v1 w4 hown hgr _
  obtain ⟨g, c', rfl, h1, h2⟩ := own_form hown (by omega)
  go_wp2_with fail
  go_ret
  exact ⟨g, c', rfl, (Joins.below_alloc1 w _).grown hgr (by simp) (by simp [Value.ownBlock]), hown⟩
end Go.Proofs.YtnadgcgnediakaaGreatDoor
