/- Owners matter at cells alone. What makes an empty text: SortFunc of one, Clone of one, sorted.Rows, sorted.Last. The walk of arena.Free at one number of the samples' arena. The closures of perm.RowOut, PosOut at one pair. The walk of num.Fixed: four bytes, the lowest first. The walk of num.Put at numbers below 16384: one byte or two. The walk of run.Of: a list of letters as runs. The walk of run.Put: the runs as bytes. -/
import Derived.Test.YtnadgcgnediakaaGreatDoorH24
import Derived.Test.YtnadgcgnediakaaGreatDoorH23
import Derived.Test.YtnadgcgnediakaaGreatDoorH21
import Derived.Test.YtnadgcgnediakaaGreatDoorH22
import Derived.Test.YtnadgcgnediakaaGreatDoorH07
import Derived.Test.YtnadgcgnediakaaGreatDoorH14
import Derived.Maps.AppendAt
namespace Go.Proofs.YtnadgcgnediakaaGreatDoor
open Go.ChangeShapes Go.WideShapes Go.ChangeAt Go.RowKit Go.Deep

def IsCells (w : World) (b : Nat) : Prop := ∃ cs t f, w.heap[b]? = some (.cells cs t f)
theorem cells_of_cell {w : World} {b i : Nat} {v : Value} (h : w.cell? ⟨b, i, none⟩ = some v) : IsCells w b := by
  unfold World.cell? at h
  split at h
  · rename_i c t f hh
    exact ⟨c, t, f, hh⟩
  · simp at h
section
variable {w : World} {o o' : Nat → Nat}
theorem Owned.re2 {c : Nat} {e : TypeId} {size : Nat} {v : Value} {n : Nat} {xs : List Value} (h : Owned w o c e size v n xs) (hr : ∀ b, IsCells w b → o' b = o b) : Owned w o' c e size v n xs := by
  refine ⟨h.1, fun k hk => ?_⟩
  rw [hr k ?_]
  · exact h.2 k hk
  · rcases h.1.2 with ⟨hv, _⟩ | ⟨g, cap, cur, hv, hb, hg, _⟩
    · rw [hv] at hk
      simp [Value.ownBlock] at hk
    · rw [hv] at hk
      have : g = k := by simpa [Value.ownBlock] using hk
      subst this
      exact ⟨_, _, _, hg⟩
theorem IsTree.re2 {c tb : Nat} {l : List Bool} (h : IsTree w o c tb l) (hr : ∀ b, IsCells w b → o' b = o b) : IsTree w o' c tb l := by
  have q : ∀ {b : Nat} {x : Nat} {cs t f}, w.heap[b]? = some (.cells cs t f) → o b = x → o' b = x := fun hb hx => (hr _ ⟨_, _, _, hb⟩).trans hx
  rcases h with ⟨h1, ab, nb, bb, kb, lc, kc, fv, vis, h⟩ | ⟨h1, ⟨ab, vis, h⟩ | ⟨ab, nb, kb, fb, lc, kc, fc, y, vis, h⟩⟩
  · obtain ⟨w0, w1, hb, _⟩ := h.b
    exact .inl ⟨h1, ab, nb, bb, kb, lc, kc, fv, vis, ⟨h.t, h.a, h.n.re2 hr, h.k.re2 hr, h.f.re2 hr, h.b, q h.t h.ot, q h.a h.oa, q hb h.ob⟩⟩
  · exact .inr ⟨h1, .inl ⟨ab, vis, ⟨h.t, h.a, q h.t h.ot, q h.a h.oa⟩⟩⟩
  · exact .inr ⟨h1, .inr ⟨ab, nb, kb, fb, lc, kc, fc, y, vis, ⟨h.t, h.a, h.n.re2 hr, h.k.re2 hr, h.f.re2 hr, q h.t h.ot, q h.a h.oa⟩⟩⟩
theorem IsSh.re2 {wb n : Nat} {S sc : Nat → Nat} {tb : Nat → Nat → Nat} {B : Nat → Nat → List Bool} {vis : Int} (h : IsSh w o wb n S sc tb B vis) (hr : ∀ b, IsCells w b → o' b = o b) : IsSh w o' wb n S sc tb B vis :=
  ⟨h.top, (hr _ ⟨_, _, _, h.top⟩).trans h.own, h.row, fun lv hl => (hr _ (cells_of_cell (h.row lv hl 0 (Nat.two_pow_pos _)).1)).trans (h.so lv hl), fun lv hl p hp => (h.tree lv hl p hp).re2 hr⟩
theorem IsWalk.re2 {A : At} {L : List Nat} {C : Nat → Nat} {all : Nat} (h : IsWalk w o A L C all) (hr : ∀ b, IsCells w b → o' b = o b) (n5 : No5 o') : IsWalk w o' A L C all := by
  obtain ⟨vis, wv⟩ := h.wave
  obtain ⟨cur, hc, _⟩ := h.tally.row
  exact ⟨h.k, (hr _ ⟨_, _, _, h.k⟩).trans h.ok, ⟨vis, ⟨wv.sh.re2 hr, wv.sym⟩⟩, h.tally, (hr _ ⟨_, _, _, hc⟩).trans h.ot, n5⟩
theorem IsFree.re2 {ap n : Nat} {ord : List Nat} (h : IsFree w o ap n ord) (hr : ∀ b, IsCells w b → o' b = o b) : IsFree w o' ap n ord := by
  obtain ⟨oa, tv, fv, fl, ar, tk, fr, r⟩ := h
  exact ⟨(hr _ ⟨_, _, _, ar⟩).trans oa, tv, fv, fl, ar, tk.re2 hr, fr.re2 hr, r⟩
theorem IsPerm.re2 {pb N : Nat} {ix : Nat → Nat} {S : Nat → Bool} (h : IsPerm w o pb N ix S) (hr : ∀ b, IsCells w b → o' b = o b) : IsPerm w o' pb N ix S := by
  obtain ⟨ap, lv, ov, rf, pf, n, ord, h1, h2⟩ := h
  exact ⟨ap, lv, ov, rf, pf, n, ord, ⟨h1.c, (hr _ ⟨_, _, _, h1.c⟩).trans h1.ob, h1.ar.re2 hr, h1.ls.re2 hr, h1.od.re2 hr, h1.nd, h1.lt, h1.ln⟩, h2⟩
theorem IsLive.re2 {A : At} {lb pb rate N : Nat} {ix : Nat → Nat} {S : Nat → Bool} {L : List Nat} {C : Nat → Nat} {all : Nat} (h : IsLive w o A lb pb rate N ix S L C all) (hr : ∀ b, IsCells w b → o' b = o b) (n5 : No5 o') : IsLive w o' A lb pb rate N ix S L C all := by
  obtain ⟨m, hl⟩ := h.l
  exact ⟨⟨m, hl⟩, (hr _ ⟨_, _, _, hl⟩).trans h.ol, h.wk.re2 hr n5, h.pm.re2 hr, h.tab, (hr 0 (cells_of_cell (h.tab 0 (by decide)))).trans h.o0⟩
end
/-- nothing but cells is a live text's -/
noncomputable def tidy (w0 : World) (W : World) (o : Nat → Nat) : Nat → Nat := by
  classical
  exact fun b => if b < w0.heap.size ∨ IsCells W b then o b else 6
theorem tidy_old {w0 W : World} {o : Nat → Nat} {b : Nat} (h : b < w0.heap.size) : tidy w0 W o b = o b := by
  unfold tidy
  exact if_pos (.inl h)
theorem tidy_cells {w0 W : World} {o : Nat → Nat} {b : Nat} (h : IsCells W b) : tidy w0 W o b = o b := by
  unfold tidy
  exact if_pos (.inr h)
theorem tidy_other {w0 W : World} {o : Nat → Nat} {b : Nat} (h : ¬ b < w0.heap.size) (h2 : ¬ IsCells W b) : tidy w0 W o b = 6 := by
  unfold tidy
  exact if_neg (fun x => x.elim h h2)
theorem tidy_no5 {w0 W : World} {o : Nat → Nat} (h : No5 o) : No5 (tidy w0 W o) := by
  intro b
  unfold tidy
  split
  · exact h b
  · omega
end Go.Proofs.YtnadgcgnediakaaGreatDoor
namespace Go.Proofs.YtnadgcgnediakaaGreatDoor
open Go.ChangeShapes Go.WideShapes Go.ChangeAt Go.RowKit Go.Deep

set_option maxRecDepth 20000 in
set_option maxHeartbeats 1000000 in
theorem len64_one (w : World) : Calls Tryz.prog 169 #[.int .u64 1] w fun e w' => (∃ n : Int, e = .returned (.int .i64 n)) ∧ w' = w := by
  go_enter Tryz.func169, Tryz.ntmps169
  go_wp2_with fail
  go_ret
  exact ⟨⟨_, rfl⟩, rfl⟩
theorem len_one (w : World) : Calls Tryz.prog 108 #[.int .u64 1] w fun e w' => (∃ n : Int, e = .returned (.int .i64 n)) ∧ w' = w := by
  have L := Lib.hid (len64_one w)
  go_enter Tryz.func108, Tryz.ntmps108
  go_wp2_with fail
  refine L.out.mono ?_
  rintro e w' ⟨⟨n, rfl⟩, rfl⟩
  go_wp2_with fail
  go_ret
  exact ⟨⟨n, rfl⟩, rfl⟩
theorem insf_one (b c : Nat) (fv : Value) (w : World) : Calls Tryz.prog 177 #[.slice (some ⟨b, 0, none⟩) 1 c, .int .i64 0, .int .i64 1, fv] w fun e w' => e = .returned (.tuple #[]) ∧ w' = w := by
  go_enter Tryz.func177, Tryz.ntmps177
  go_wp2_with fail
  refine wp_loop_rounds 1 ?_
  rw [rounds_succ]
  go_wp2_with fail
  go_end0
  exact ⟨rfl, rfl⟩
set_option maxHeartbeats 1000000 in
theorem pdqf_one (b c : Nat) (n : Int) (fv : Value) (w : World) : Calls Tryz.prog 124 #[.slice (some ⟨b, 0, none⟩) 1 c, .int .i64 0, .int .i64 1, .int .i64 n, fv] w fun e w' => e = .returned (.tuple #[]) ∧ w' = w := by
  have L := Lib.hid (insf_one b c fv w)
  go_enter Tryz.func124, Tryz.ntmps124
  go_wp2_with fail
  refine wp_loop_rounds 1 ?_
  rw [rounds_succ]
  go_wp2_with fail
  refine L.out.mono ?_
  rintro e w' ⟨rfl, rfl⟩
  go_wp2_with fail
  refine bodyPost_ret (results_none rfl _ _ _) rfl ?_
  exact ⟨rfl, rfl⟩
theorem sortf_one (b c : Nat) (fv : Value) (w : World) : Calls Tryz.prog 72 #[.slice (some ⟨b, 0, none⟩) 1 c, fv] w fun e w' => e = .returned (.tuple #[]) ∧ w' = w := by
  have L := Lib.hid (len_one w)
  have P := Lib.hid (fun n => pdqf_one b c n fv w)
  go_enter Tryz.func72, Tryz.ntmps72
  go_wp2_with fail
  refine L.out.mono ?_
  rintro e w' ⟨⟨n, rfl⟩, rfl⟩
  go_wp2_with fail
  refine (P.out n).mono ?_
  rintro e w' ⟨rfl, rfl⟩
  go_wp2_with fail
  go_end0
  exact ⟨rfl, rfl⟩
set_option maxRecDepth 20000 in
set_option maxHeartbeats 1000000 in
theorem clone_one (b c : Nat) (w : World) (hb : w.cell? ⟨b, 0, none⟩ = some (.int .i64 0)) :
    Calls Tryz.prog 69 #[.slice (some ⟨b, 0, none⟩) 1 c] w fun e w' => ∃ g c', e = .returned (.slice (some ⟨g, 0, none⟩) 1 c') ∧ Below w.heap.size w w' ∧ w'.ownsRow w.heap.size 3 1 (.slice (some ⟨g, 0, none⟩) 1 c') 1 [.int .i64 0] := by
  obtain ⟨i0, hi, hz0, hz1, hz2⟩ := info_parts info3
  have bl := cell_lt hb
  have he : ∀ W : World, (binOp .eql 28 (.slice (some ⟨b, 0, none⟩) 1 c) (.slice none 0 0)).run Tryz.prog W = .ok (.bool false) W := fun _ => rfl
  have ob : (w.alloc (.cells #[] 3)).ownsRow w.heap.size 3 1 (.slice (some ⟨w.heap.size, 0, none⟩) 0 0) 0 [] := World.ownsRow_lit w #[] 0 (Nat.le_refl _) (by unfold maxLen; omega) rfl
  have nw : ∀ (j : Nat) (u : Value), [Value.int .i64 0][j]? = some u → (w.alloc (.cells #[] 3)).cell? ((⟨b, 0, none⟩ : Addr).add j) = some u := by
    intro j u hu
    match j, hu with
    | 0, hu =>
      simp only [List.getElem?_cons_zero, Option.some.injEq] at hu
      subst hu
      rw [show (⟨b, 0, none⟩ : Addr).add 0 = ⟨b, 0, none⟩ from by simp [Addr.add], World.cell?_of_block (w := w) (Below.heap_alloc _ _ _ bl)]
      exact hb
    | j + 1, hu => simp at hu
  go_enter Tryz.func69, Tryz.ntmps69
  go_wp2_with (first | (at_builtin; go_loud (refine wpList_append_own _ rfl _ _ 28 rfl w.heap.size 3 i0 (.int .i64 0) 1 8 Tryz.underlying28 hi hz0 hz1 hz2 rfl (by decide) _ 0 _ rfl ob ⟨b, 0, none⟩ 1 c [.int .i64 0] rfl rfl nw (one_int .i64 0) (by unfold maxLen; omega) (by omega) (by simp) ?_)) | fail)
  intro v1 w4 hown hgr _
  obtain ⟨g, c', rfl, h1, h2⟩ := own_form hown (by omega)
  go_wp2_with fail
  go_ret
  exact ⟨g, c', rfl, (Joins.below_alloc1 w _).grown hgr (by simp) (by simp [Value.ownBlock]), hown⟩
end Go.Proofs.YtnadgcgnediakaaGreatDoor
namespace Go.Proofs.YtnadgcgnediakaaGreatDoor
open Go.ChangeShapes Go.WideShapes Go.ChangeAt Go.RowKit Go.Deep

theorem free_one (o : Nat → Nat) (c g tb tc n k lb : Nat) (fv : Value) (xs : List Value) (fl : List Nat) (w : World) (h : ArenaIs w g (.slice (some ⟨tb, 0, none⟩) n tc) fv) (hg : o g = c)
    (ht : Owned w o c 4 1 (.slice (some ⟨tb, 0, none⟩) n tc) n xs) (hf : Owned w o c 3 1 fv fl.length (intsV fl)) (hl : w.heap[lb]? = some (.cells #[.int .i64 k] 3 (0, 0)))
    (hx : xs[k]? = some (.bool true)) (hkn : k < n) (_hn : n < 1000) (hfl : fl.length < 1000) :
    Calls Tryz.prog 194 #[.pointer (some ⟨g, 0, none⟩), .slice (some ⟨lb, 0, none⟩) 1 1] w fun e w' => e = .returned (.int .i64 0) ∧ Upd o (· = c) w w' (ext o w.heap.size c) ∧
      ∃ fv', ArenaIs w' g (.slice (some ⟨tb, 0, none⟩) n tc) fv' ∧ Owned w' (ext o w.heap.size c) c 4 1 (.slice (some ⟨tb, 0, none⟩) n tc) n (xs.set k (.bool false)) ∧ Owned w' (ext o w.heap.size c) c 3 1 fv' (fl ++ [k]).length (intsV (fl ++ [k])) := by
  obtain ⟨fa, fc, rfl⟩ := own_shape hf.1
  have c0 := h.c0
  have c1 := h.c1
  have f1 := h.f 1
  have t0 := owns_cell ht.1 k _ hx
  have ft := owns_free ht.1 k
  have l0 : w.cell? ⟨lb, 0, none⟩ = some (.int .i64 k) := by rw [Joins.cell_of_block hl]; rfl
  have hlt : g < w.heap.size := lt_of_block h
  have ne2 : tb ≠ g := by
    have := owns_ne ht.1 h (by decide); simpa [Value.ownBlock] using this
  have ne3 : tb ≠ lb := by
    have := owns_ne ht.1 hl (by decide); simpa [Value.ownBlock] using this
  have is0 := is_any g tb n tc (.slice fa fl.length fc) k true w h hkn t0
  have IS := Lib.hid is0
  have TB : o tb = c := ht.2 tb rfl
  have tlt : tb < w.heap.size := ownBlock_lt ht.1 rfl
  have c0' : (w.setCell ⟨tb, k, none⟩ (.bool false)).cell? ⟨lb, 0, none⟩ = some (.int .i64 k) := by
    rw [World.cell?_setCell_other _ _ _ _ (by intro x; exact ne3 (congrArg Addr.block x))]; exact l0
  have own1 : (w.setCell ⟨tb, k, none⟩ (.bool false)).ownsRow 0 3 1 (.slice fa fl.length fc) fl.length (intsV fl) := by
    refine owns_other hf.1 ?_ _
    intro he
    obtain ⟨cur, hc1, _⟩ := owns_row ht.1
    exact owns_ne hf.1 hc1 (by decide) he
  have src : ∀ (j : Nat) (u : Value), [Value.int .i64 k][j]? = some u → (w.setCell ⟨tb, k, none⟩ (.bool false)).cell? ((⟨lb, 0, none⟩ : Addr).add j) = some u := by
    intro j u hu
    match j, hu with
    | 0, hu =>
      simp only [List.getElem?_cons_zero, Option.some.injEq] at hu
      subst hu
      rw [show (⟨lb, 0, none⟩ : Addr).add 0 = ⟨lb, 0, none⟩ from by simp [Addr.add]]
      exact c0'
    | j + 1, hu => simp at hu
  have A1 : ArenaIs (w.setCell ⟨tb, k, none⟩ (.bool false)) g (.slice (some ⟨tb, 0, none⟩) n tc) (.slice fa fl.length fc) := (Below.heap_setCell _ _ _ _ (fun x => ne2 x.symm)).trans h
  have T1 := owns_set ht.1 k (.bool false)
  have H := Lib.hid h
  have HA := Lib.hid A1
  have HT := Lib.hid T1
  have HF := Lib.hid hf
  have HTB := Lib.hid TB
  have HG := Lib.hid hg
  have OW := Lib.hid own1
  have SR := Lib.hid src
  clear h ht hf TB ne3 hg is0 src own1 A1 T1 c0' hl
  obtain ⟨i0, hi, hz0, hz1, hz2⟩ := info_parts info3
  go_enter Tryz.func194, Tryz.ntmps194
  go_wp2_with fail
  refine wp_loop_rounds 2 ?_
  rw [rounds_succ]
  go_wp2_with (go_at_call 216; refine IS.out.mono ?_; rintro e w' ⟨rfl, rfl⟩)
  rw [rounds_succ]
  go_wp2_with (first | (at_builtin; go_loud (refine wpList_append_where _ (by rfl) (.tmp 48) (.tmp 49) 28 rfl 3 i0 (.int .i64 0) 1 8 Tryz.underlying28 hi hz0 hz1 hz2 rfl (by decide) _ _ _ rfl OW.out ⟨lb, 0, none⟩ 1 1 [.int .i64 k] rfl rfl SR.out (one_int _ _) (by unfold maxLen; omega) (by omega) ?_)) | fail)
  intro v1 w1 hown hgr hwh
  obtain ⟨fb, fc1, hv, hb, hlt2⟩ := own_form hown (by omega)
  rw [hv]
  have flt : ∀ k, (Value.slice fa fl.length fc).ownBlock = some k → k < w.heap.size := fun k hk => ownBlock_lt HF.out.1 hk
  have fne : (Value.slice fa fl.length fc).ownBlock ≠ some g := owns_ne HF.out.1 H.out (by decide)
  have fne2 : (Value.slice fa fl.length fc).ownBlock ≠ some tb := by
    obtain ⟨cur, hc1, _⟩ := owns_row HT.out
    exact owns_ne OW.out hc1 (by decide)
  have A1 : ArenaIs w1 g (.slice (some ⟨tb, 0, none⟩) n tc) (.slice fa fl.length fc) := (hgr.block g (by rw [World.size_setCell]; exact hlt) (fun x => fne x.symm)).trans HA.out
  have T1 : w1.ownsRow 0 4 1 (.slice (some ⟨tb, 0, none⟩) n tc) n (xs.set k (.bool false)) := owns_same HT.out fun k hk => by
    simp [Value.ownBlock] at hk
    subst hk
    exact hgr.block tb (by rw [World.size_setCell]; exact tlt) (fun x => fne2 x.symm)
  have U1 : Upd o (· = c) w w1 (ext o w.heap.size c) := ((Upd.start o _ w c).set _ (.inr HTB.out)).grown hgr (fun k hk => .inr (HF.out.2 k hk))
  have fown : ext o w.heap.size c fb = c := by
    rcases hwh fb (by rw [hv]; rfl) with hh | hh
    · rw [ext_old (flt fb hh)]
      exact HF.out.2 fb hh
    · exact ext_new hh
  rw [hv] at hown
  have O1 := Lib.hid hown
  have B1 := Lib.hid A1
  have V1 := Lib.hid U1
  have W1 := Lib.hid T1
  have d0 := A1.c0
  have d1 := A1.c1
  have d2 := A1.c2
  have g1 := A1.f 1
  have hne : fb ≠ g := by
    have := owns_ne hown A1 (by decide); simpa [Value.ownBlock] using this
  clear hv hown hgr hwh A1 U1 c0 c1 T1 f1 hi hz0 hz1 hz2
  go_wp2_with fail
  go_ret
  have e9 : intsV fl ++ [.int .i64 k] = intsV (fl ++ [k]) := by unfold intsV; rw [List.map_append]; rfl
  rw [e9] at O1
  refine ⟨rfl, V1.out.set _ (.inr HG.out), .slice (some ⟨fb, 0, none⟩) (fl.length + 1) fc1, Joins.block_setCell B1.out _, ⟨?_, ?_⟩, ?_, ?_⟩
  · exact owns_other W1.out (a := ⟨g, 1, none⟩) (by simp [Value.ownBlock]; exact ne2) _
  · intro k hk
    simp [Value.ownBlock] at hk
    subst hk
    exact (ext_old tlt).trans HTB.out
  · rw [List.length_append]
    exact owns_other O1.out (a := ⟨g, 1, none⟩) (by simp [Value.ownBlock]; exact hne) _
  · intro k hk
    simp [Value.ownBlock] at hk
    subst hk
    exact fown
theorem takenV_del (n k : Nat) (ord : List Nat) (hk : k ∉ ord) (hkn : k < n) : (takenV n (k :: ord)).set k (.bool false) = takenV n ord := by
  apply List.ext_getElem?
  intro i
  by_cases hi : i < n
  · by_cases e : i = k
    · subst e
      rw [List.getElem?_set_self (by rw [takenV_len]; exact hi), takenV_get n ord i hi, decide_eq_false hk]
    · rw [List.getElem?_set_ne (fun x => e x.symm), takenV_get n _ i hi, takenV_get n ord i hi]
      simp [e]
  · rw [List.getElem?_eq_none (by rw [List.length_set, takenV_len]; omega), List.getElem?_eq_none (by rw [takenV_len]; omega)]
/-- a sample's number given back -/
theorem pfree_any (o : Nat → Nat) (ap n k lb : Nat) (ord : List Nat) (w : World) (h : IsFree w o ap n (k :: ord)) (hk : k ∉ ord) (hkn : k < n) (hn : n < 1000) (hl : w.heap[lb]? = some (.cells #[.int .i64 k] 3 (0, 0))) :
    Calls Tryz.prog 194 #[.pointer (some ⟨ap, 0, none⟩), .slice (some ⟨lb, 0, none⟩) 1 1] w fun e w' => e = .returned (.int .i64 0) ∧ Upd o (· = 7) w w' (ext o w.heap.size 7) ∧ IsFree w' (ext o w.heap.size 7) ap n ord := by
  obtain ⟨oa, tv, fv, fl, ar, tk, fr, nd, hfl, hlen⟩ := h
  obtain ⟨tb, tc, rfl, _, _⟩ := own_form tk.1 (by omega)
  have hlen' : ord.length + 1 + fl.length = n := hlen
  refine (free_one o 7 ap tb tc n k lb fv _ fl w ar oa tk fr hl (by rw [takenV_get n _ k hkn]; simp) hkn hn (by omega)).mono ?_
  rintro e w' ⟨rfl, u, fv', ar', tk', fr'⟩
  rw [takenV_del n k ord hk hkn] at tk'
  refine ⟨rfl, u, (ext_old (lt_of_block ar)).trans oa, _, fv', fl ++ [k], ar', tk', fr', ?_, ?_, ?_⟩
  · rw [List.nodup_append]
    refine ⟨nd, by simp, ?_⟩
    intro a ha b hb e
    rw [List.mem_singleton] at hb
    subst hb e
    exact (hfl _ ha).2 (by simp)
  · intro x hx
    rcases List.mem_append.1 hx with hx | hx
    · exact ⟨(hfl x hx).1, fun h => (hfl x hx).2 (List.mem_cons_of_mem _ h)⟩
    · rw [List.mem_singleton] at hx
      subst hx
      exact ⟨hkn, hk⟩
  · rw [List.length_append]
    simp
    omega
end Go.Proofs.YtnadgcgnediakaaGreatDoor
namespace Go.Proofs.YtnadgcgnediakaaGreatDoor
open Go.ChangeShapes Go.WideShapes Go.ChangeAt Go.RowKit Go.Deep

theorem rowout1_any (cb row lb lc n : Nat) (W : World) (rf pf : Nat → Nat) (k : Nat) (hk : k < n) (h : W.ownsRow 0 44 2 (.slice (some ⟨lb, 0, none⟩) n lc) n (cells2 rf pf n)) (hc : W.cell? ⟨cb, 0, none⟩ = some (.int .i64 row)) (hb : rf k < 1000) :
    Calls Tryz.prog 142 (#[.pointer (some ⟨lb, k * 2, none⟩)] ++ #[.pointer (some ⟨cb, 0, none⟩)]) W fun e W' => e = .returned (.tuple #[]) ∧ Only lb W W' ∧ W'.ownsRow 0 44 2 (.slice (some ⟨lb, 0, none⟩) n lc) n (cells2 (upd rf k (Wd.outr (rf k) row)) (upd pf k (pf k)) n) := by
  obtain ⟨d1, d2, f1, f2⟩ := owns_pair h hk
  have H := Lib.hid h
  have HK := Lib.hid hk
  by_cases hle : row < rf k
  · have e : Wd.outr (rf k) row = rf k - 1 := by unfold Wd.outr; rw [if_pos hle]
    rw [e]
    have S := Lib.hid (fun q => owns_pair1 (owns_drew (q := q) h) hk (rf k - 1))
    clear h e
    generalize hr : rf k = r at d1 hle hb S ⊢
    clear hr
    have e2 : (r : Int) - 1 = (r - 1 : Nat) := by omega
    go_enter Tryz.func142, Tryz.ntmps142
    go_wp2_with fail
    go_quiet (fail)
    go_wp2_with fail
    go_end0
    exact ⟨rfl, ((Only.refl lb W).drewN _).set _ _, by
      exact S.out _⟩
  · have e : Wd.outr (rf k) row = rf k := by unfold Wd.outr; rw [if_neg hle]
    rw [e]
    clear e
    have S := Lib.hid (fun q => owns_pair0 (owns_drew (q := q) h) k)
    clear h
    go_enter Tryz.func142, Tryz.ntmps142
    go_wp2_with fail
    go_quiet (fail)
    go_wp2_with fail
    go_end0
    exact ⟨rfl, (Only.refl lb W).drewN _, S.out _⟩
theorem posout1_any (cb row lb lc n : Nat) (W : World) (rf pf : Nat → Nat) (k : Nat) (hk : k < n) (h : W.ownsRow 0 44 2 (.slice (some ⟨lb, 0, none⟩) n lc) n (cells2 rf pf n)) (hc : W.cell? ⟨cb, 0, none⟩ = some (.int .i64 row)) (hb : pf k < 1000) :
    Calls Tryz.prog 144 (#[.pointer (some ⟨lb, k * 2, none⟩)] ++ #[.pointer (some ⟨cb, 0, none⟩)]) W fun e W' => e = .returned (.tuple #[]) ∧ Only lb W W' ∧ W'.ownsRow 0 44 2 (.slice (some ⟨lb, 0, none⟩) n lc) n (cells2 (upd rf k (rf k)) (upd pf k (Wd.outr (pf k) row)) n) := by
  obtain ⟨d1, d2, f1, f2⟩ := owns_pair h hk
  have H := Lib.hid h
  have HK := Lib.hid hk
  by_cases hle : row < pf k
  · have e : Wd.outr (pf k) row = pf k - 1 := by unfold Wd.outr; rw [if_pos hle]
    rw [e]
    have S := Lib.hid (fun q => owns_pair2 (owns_drew (q := q) h) hk (pf k - 1))
    clear h e
    generalize hr : pf k = r at d2 hle hb S ⊢
    clear hr
    have e2 : (r : Int) - 1 = (r - 1 : Nat) := by omega
    go_enter Tryz.func144, Tryz.ntmps144
    go_wp2_with fail
    go_quiet (fail)
    go_wp2_with fail
    go_end0
    exact ⟨rfl, ((Only.refl lb W).drewN _).set _ _, by
      exact S.out _⟩
  · have e : Wd.outr (pf k) row = pf k := by unfold Wd.outr; rw [if_neg hle]
    rw [e]
    clear e
    have S := Lib.hid (fun q => owns_pair0 (owns_drew (q := q) h) k)
    clear h
    go_enter Tryz.func144, Tryz.ntmps144
    go_wp2_with fail
    go_quiet (fail)
    go_wp2_with fail
    go_end0
    exact ⟨rfl, (Only.refl lb W).drewN _, S.out _⟩
end Go.Proofs.YtnadgcgnediakaaGreatDoor
namespace Go.Proofs.YtnadgcgnediakaaGreatDoor
open Go.ChangeShapes Go.WideShapes Go.ChangeAt Go.RowKit Go.Deep

/-- numbers below 256 as bytes -/
def u8V (l : List Nat) : List Value := l.map fun (b : Nat) => .int .u8 (b : Nat)
theorem u8V_len (l : List Nat) : (u8V l).length = l.length := List.length_map _
theorem u8V_app (a b : List Nat) : u8V (a ++ b) = u8V a ++ u8V b := List.map_append
theorem u8V_one (b : Nat) : u8V [b] = [.int .u8 (b : Nat)] := rfl
def fixB (s : Nat) : Nat → List Nat
  | 0 => []
  | k + 1 => fixB s k ++ [s / 256 ^ k % 256]
theorem fixB_len (s : Nat) : ∀ k, (fixB s k).length = k
  | 0 => rfl
  | k + 1 => by rw [fixB, List.length_append, fixB_len s k]; rfl
set_option maxHeartbeats 1000000 in
theorem fixed_any (s : Nat) (hs : s < 4294967296) (w : World) :
    Calls Tryz.prog 56 #[.int .u32 s] w fun e w' => ∃ v, e = .returned v ∧ w'.ownsRow w.heap.size 5 1 v 4 (u8V (fixB s 4)) ∧ Below w.heap.size w w' := by
  obtain ⟨i0, hi, hz0, hz1, hz2⟩ := info_parts info5
  have HI := Lib.hid (And.intro hi (And.intro hz0 (And.intro hz1 hz2)))
  clear hi hz0 hz1 hz2
  have o0 := Lib.hid (World.ownsRow_nil w w.heap.size 5 1)
  go_enter Tryz.func56, Tryz.ntmps56
  go_wp2_with fail
  go_loopw [0, 3, 4] (fun t r i wr => ∃ k : Nat, k ≤ 4 ∧ i = .int .i64 k ∧ t = .int .u32 (s / 256 ^ k : Nat) ∧ (∃ a c, r = .slice a k c) ∧ Aside (wr.ownsRow w.heap.size 5 1 r k (u8V (fixB s k))) ∧ Below w.heap.size w wr) (fun _ _ i _ => 4 - (intOf i).toNat)
  case atStart => exact ⟨0, by omega, rfl, by simp, ⟨_, _, rfl⟩, o0.out, Below.refl _ _⟩
  case round =>
    obtain ⟨k, hk, rfl, rfl, ⟨ra, rc, rfl⟩, ow, bl⟩ := hrel
    have hz := bl.size
    have BB := Lib.hid bl
    clear bl
    obtain ⟨d, hd⟩ : ∃ d, s / 256 ^ k = d := ⟨_, rfl⟩
    have hdl : d < 4294967296 := by rw [← hd]; exact Nat.lt_of_le_of_lt (Nat.div_le_self _ _) hs
    by_cases hlt : k < 4
    · have hkz : decide ((k : Int) < 4) = true := decide_eq_true (by omega)
      rw [hd]
      obtain ⟨m, hm⟩ : ∃ m, d % 256 = m := ⟨_, rfl⟩
      obtain ⟨q, hq⟩ : ∃ q, d / 256 = q := ⟨_, rfl⟩
      have em : ((d : Int) % 256) = (m : Int) := by omega
      have ed : ((d : Int) / 256) = (q : Int) := by omega
      have hm2 : m < 256 := by omega
      have HM := Lib.hid hm
      have HQ := Lib.hid hq
      clear hm hq
      have HD := Lib.hid hd
      clear hd
      go_wp2_with (first | (at_builtin; go_loud (refine wpList_append_own _ rfl _ _ 22 rfl w.heap.size 5 i0 (.int .u8 0) 1 1 Tryz.underlying22 HI.out.1 HI.out.2.1 HI.out.2.2.1 HI.out.2.2.2 rfl (by decide) _ k _ rfl (own_alloc ow.out _) ⟨wr.heap.size, 0, none⟩ 1 1 [.int .u8 (m : Nat)] rfl rfl (new_one wr (.int .u8 (m : Nat)) 5) (one_int _ _) (by unfold maxLen; omega) (by omega) (alloc_lt BB.out.size) ?_)) | fail)
      intro v1 w4 hown hgr _
      obtain ⟨a1, c1, rfl⟩ := own_shape hown
      have B4 := Lib.hid ((BB.out.alloc BB.out.size _).grown hgr (alloc_lt BB.out.size) (fun j hj => (ow.out.lt j hj).1))
      have O4 := Lib.hid hown
      clear hown hgr ow
      go_wp2_with fail
      go_roundw
      case rel => exact ⟨k + 1, by omega, by go_num, by rw [Nat.pow_succ, ← Nat.div_div_eq_div_mul, HD.out, HQ.out], ⟨_, _, rfl⟩, by
        rw [fixB, u8V_app, u8V_one, HD.out, HM.out]
        exact O4.out, B4.out⟩
      case measure => simp [intOf]; omega
    · obtain rfl : k = 4 := by omega
      go_wp2_with fail
      go_ret
      exact ⟨_, rfl, ow.out, BB.out⟩
end Go.Proofs.YtnadgcgnediakaaGreatDoor
namespace Go.Proofs.YtnadgcgnediakaaGreatDoor
open Go.ChangeShapes Go.WideShapes Go.ChangeAt Go.RowKit Go.Deep

def putB (v : Nat) : List Nat := if v < 128 then [v] else [v / 128 + 128, v % 128]
def putL (vs : List Nat) : List Nat := vs.flatMap putB
theorem putB_len (v : Nat) : (putB v).length ≤ 2 := by unfold putB; split <;> simp
theorem putL_len : ∀ vs : List Nat, (putL vs).length ≤ 2 * vs.length
  | [] => by simp [putL]
  | v :: vs => by
    have h1 := putL_len vs
    have h2 := putB_len v
    unfold putL at h1 ⊢
    rw [List.flatMap_cons, List.length_append, List.length_cons]
    omega
theorem putL_take (vs : List Nat) (k v : Nat) (h : vs[k]? = some v) : putL (vs.take (k + 1)) = putL (vs.take k) ++ putB v := by
  obtain ⟨hk, rfl⟩ := List.getElem?_eq_some_iff.1 h
  unfold putL
  rw [List.take_succ_eq_append_getElem hk, List.flatMap_append]
  simp
theorem low7 (v : Nat) (h : v < 128) : bits .and .u8 (v : Int) 127 = (v : Int) := by
  have e := u8_and_nat v 127 (by omega) (by omega)
  rw [show (127 : Nat) = 2 ^ 7 - 1 from rfl, Nat.and_two_pow_sub_one_eq_mod] at e
  rw [Nat.mod_eq_of_lt (by omega)] at e
  exact e
theorem low7m (v : Nat) : bits .and .u8 ((v % 256 : Nat) : Int) 127 = ((v % 128 : Nat) : Int) := by
  have e := u8_and_nat (v % 256) 127 (by omega) (by omega)
  rw [show (127 : Nat) = 2 ^ 7 - 1 from rfl, Nat.and_two_pow_sub_one_eq_mod] at e
  refine e.trans ?_
  congr 1
  omega
theorem high7 (q : Nat) (h : q < 128) : bits .or .u8 (q : Int) 128 = ((q + 128 : Nat) : Int) := by
  have e := u8_or_nat q 128 (by omega) (by omega)
  have h2 : ∀ x : Fin 128, x.1 ||| 128 = x.1 + 128 := by decide
  rw [h2 ⟨q, h⟩] at e
  exact e
set_option maxRecDepth 20000 in
set_option maxHeartbeats 2000000 in
theorem nput_any (vs : List Nat) (hv : ∀ (i v : Nat), vs[i]? = some v → v < 16384) (hl : vs.length ≤ 400) (w : World) (b : Nat) (hb : b < w.heap.size) (hc : ∀ (i v : Nat), vs[i]? = some v → w.cell? ⟨b, i, none⟩ = some (.int .u64 (v : Nat))) (n : Nat) (hn : vs.length = n) (c : Nat) :
    Calls Tryz.prog 54 #[.slice (some ⟨b, 0, none⟩) n c] w fun e w' => ∃ v, e = .returned v ∧ w'.ownsRow w.heap.size 5 1 v (putL vs).length (u8V (putL vs)) ∧ Below w.heap.size w w' := by
  obtain ⟨i0, hi, hz0, hz1, hz2⟩ := info_parts info5
  have HI := Lib.hid (And.intro hi (And.intro hz0 (And.intro hz1 hz2)))
  clear hi hz0 hz1 hz2
  have o0 := Lib.hid (World.ownsRow_nil w w.heap.size 5 1)
  have HV := Lib.hid hv
  have HC := Lib.hid hc
  have HN := Lib.hid hn
  have HLen := Lib.hid (show ∀ k, (putL (vs.take k)).length ≤ 800 from fun k => by
    have h1 := putL_len (vs.take k)
    have h2 : (vs.take k).length ≤ vs.length := List.length_take_le' _ _
    omega)
  clear hv hc
  go_enter Tryz.func54, Tryz.ntmps54
  go_wp2_with fail
  go_loopw [3, 9] (fun r i wr => ∃ k : Nat, k ≤ n ∧ i = .int .i64 k ∧ (∃ a c, r = .slice a (putL (vs.take k)).length c) ∧ Aside (wr.ownsRow w.heap.size 5 1 r (putL (vs.take k)).length (u8V (putL (vs.take k)))) ∧ Below w.heap.size w wr) (fun _ i _ => n - (intOf i).toNat)
  case atStart => exact ⟨0, by omega, rfl, ⟨_, _, rfl⟩, o0.out, Below.refl _ _⟩
  case round =>
    obtain ⟨k, hk, rfl, ⟨ra, rc, rfl⟩, ow, bl⟩ := hrel
    have hz := bl.size
    have BB := Lib.hid bl
    by_cases hlt : k < n
    · obtain ⟨v, hvk⟩ : ∃ v, vs[k]? = some v := ⟨_, List.getElem?_eq_getElem (by have := HN.out; omega)⟩
      have hv1 := HV.out k v hvk
      have c0 : wr.cell? ⟨b, k, none⟩ = some (.int .u64 (v : Nat)) := (bl.cell (p := ⟨b, k, none⟩) hb).trans (HC.out k v hvk)
      have PT := Lib.hid (putL_take vs k v hvk)
      have L0 := Lib.hid (HLen.out k)
      clear bl hvk
      by_cases h128 : v < 128
      · have hd : decide ((128 : Int) ≤ (v : Int)) = false := decide_eq_false (by omega)
        have ea : bits .and .u8 (v : Int) 127 = (v : Int) := low7 v h128
        go_wp2_with fail
        refine wp_loop_rounds 1 ?_
        rw [rounds_succ]
        go_wp2_with fail
        refine wp_loop_rounds 1 ?_
        rw [rounds_succ]
        go_wp2_with (first | (at_builtin; go_loud (refine wpList_append_own _ rfl _ _ 22 rfl w.heap.size 5 i0 (.int .u8 0) 1 1 Tryz.underlying22 HI.out.1 HI.out.2.1 HI.out.2.2.1 HI.out.2.2.2 rfl (by decide) _ _ _ rfl (own_alloc ow.out _) ⟨wr.heap.size, 0, none⟩ 1 1 [.int .u8 _] rfl rfl (new_one wr _ 5) (one_int _ _) (by unfold maxLen; have := L0.out; omega) (by have := L0.out; omega) (alloc_lt BB.out.size) ?_)) | fail)
        intro v1 w4 hown hgr _
        obtain ⟨a1, c1, rfl⟩ := own_shape hown
        have B4 := Lib.hid ((BB.out.alloc BB.out.size _).grown hgr (alloc_lt BB.out.size) (fun j hj => (ow.out.lt j hj).1))
        have O4 := Lib.hid hown
        clear hown hgr ow
        go_wp2_with fail
        go_roundw
        case rel =>
          have e : putL (vs.take (k + 1)) = putL (vs.take k) ++ [v] := by rw [PT.out]; unfold putB; rw [if_pos h128]
          have el : (putL (vs.take (k + 1))).length = (putL (vs.take k)).length + 1 := by rw [e, List.length_append]; rfl
          refine ⟨k + 1, by omega, by go_num, ⟨_, _, by rw [el]⟩, ?_, B4.out⟩
          rw [el, e, u8V_app, u8V_one]
          have := O4.out
          exact this
        case measure => simp [intOf]; omega
      · have hd : decide ((128 : Int) ≤ (v : Int)) = true := decide_eq_true (by omega)
        obtain ⟨q, hq⟩ : ∃ q, v / 128 = q := ⟨_, rfl⟩
        obtain ⟨m, hm⟩ : ∃ m, v % 256 = m := ⟨_, rfl⟩
        obtain ⟨r, hr⟩ : ∃ r, v % 128 = r := ⟨_, rfl⟩
        obtain ⟨x, hx⟩ : ∃ x, q + 128 = x := ⟨_, rfl⟩
        have hq2 : q < 128 := by omega
        have e1 : (v : Int) / 128 = (q : Int) := by omega
        have em : (v : Int) % 256 = (m : Int) := by omega
        have hd2 : decide ((128 : Int) ≤ (q : Int)) = false := decide_eq_false (by omega)
        have ea : bits .and .u8 (m : Int) 127 = (r : Int) := by
          have := low7m v
          rw [hm, hr] at this
          exact this
        have eo : bits .or .u8 (q : Int) 128 = (x : Int) := by
          have := high7 q hq2
          rw [hx] at this
          exact this
        have hm2 : m < 256 := by omega
        have PB := Lib.hid (show putB v = [x, r] from by unfold putB; rw [if_neg h128, hq, hx, hr])
        clear hq hm hr hx
        go_wp2_with fail
        refine wp_loop_rounds 2 ?_
        rw [rounds_succ]
        go_wp2_with fail
        rw [rounds_succ]
        go_wp2_with fail
        refine wp_loop_rounds 2 ?_
        rw [rounds_succ]
        go_wp2_with (first | (at_builtin; go_loud (refine wpList_append_own _ rfl _ _ 22 rfl w.heap.size 5 i0 (.int .u8 0) 1 1 Tryz.underlying22 HI.out.1 HI.out.2.1 HI.out.2.2.1 HI.out.2.2.2 rfl (by decide) _ _ _ rfl (own_alloc ow.out _) ⟨wr.heap.size, 0, none⟩ 1 1 [.int .u8 _] rfl rfl (new_one wr _ 5) (one_int _ _) (by unfold maxLen; have := L0.out; omega) (by have := L0.out; omega) (alloc_lt BB.out.size) ?_)) | fail)
        intro v1 w4 hown hgr _
        obtain ⟨a1, c1, rfl⟩ := own_shape hown
        have B4 := Lib.hid ((BB.out.alloc BB.out.size _).grown hgr (alloc_lt BB.out.size) (fun j hj => (ow.out.lt j hj).1))
        have O4 := Lib.hid hown
        clear hown hgr ow
        go_wp2_with fail
        rw [rounds_succ]
        go_wp2_with (first | (at_builtin; go_loud (refine wpList_append_own _ rfl _ _ 22 rfl w.heap.size 5 i0 (.int .u8 0) 1 1 Tryz.underlying22 HI.out.1 HI.out.2.1 HI.out.2.2.1 HI.out.2.2.2 rfl (by decide) _ _ _ rfl (own_alloc O4.out _) ⟨w4.heap.size, 0, none⟩ 1 1 [.int .u8 _] rfl rfl (new_one w4 _ 5) (one_int _ _) (by unfold maxLen; have := L0.out; omega) (by have := L0.out; omega) (alloc_lt B4.out.size) ?_)) | fail)
        intro v2 w5 hown hgr _
        obtain ⟨a2, c2, rfl⟩ := own_shape hown
        have B5 := Lib.hid ((B4.out.alloc B4.out.size _).grown hgr (alloc_lt B4.out.size) (fun j hj => (O4.out.lt j hj).1))
        have O5 := Lib.hid hown
        clear hown hgr
        go_wp2_with fail
        go_roundw
        case rel =>
          have e : putL (vs.take (k + 1)) = putL (vs.take k) ++ [x, r] := by rw [PT.out, PB.out]
          have el : (putL (vs.take (k + 1))).length = (putL (vs.take k)).length + 1 + 1 := by rw [e, List.length_append]; rfl
          refine ⟨k + 1, by omega, by go_num, ⟨_, _, by rw [el]⟩, ?_, B5.out⟩
          rw [el, e, u8V_app]
          have := O5.out
          exact this
        case measure => simp [intOf]; omega
    · obtain rfl : k = n := by omega
      have hL : vs.take k = vs := List.take_of_length_le (by have := HN.out; omega)
      have OW := Lib.hid ow.out
      clear ow
      go_wp2_with fail
      go_ret
      refine ⟨_, rfl, ?_, BB.out⟩
      have := OW.out
      rw [hL] at this ⊢
      exact this
end Go.Proofs.YtnadgcgnediakaaGreatDoor
namespace Go.Proofs.YtnadgcgnediakaaGreatDoor
open Go.ChangeShapes Go.WideShapes Go.ChangeAt Go.RowKit Go.Deep

theorem info146 : (Tryz.prog.info? 146).map (fun i => (i.zero, i.size, i.bytes)) = some (some (.agg #[.int .i64 0, .int .i64 0]), 2, 16) := by kernel_rfl
def runAdd (rs : List (Nat × Nat)) (s : Nat) : List (Nat × Nat) := match rs.getLast? with
  | none => [(s, 1)]
  | some p => if p.1 = s then rs.dropLast ++ [(s, p.2 + 1)] else rs ++ [(s, 1)]
def runL (L : List Nat) : List (Nat × Nat) := L.foldl runAdd []
def runV (rs : List (Nat × Nat)) : List Value := rs.flatMap fun p => [.int .i64 (p.1 : Nat), .int .i64 (p.2 : Nat)]
theorem runV_len : ∀ rs, (runV rs).length = rs.length * 2
  | [] => rfl
  | p :: rs => by
    have h := runV_len rs
    unfold runV at h ⊢
    rw [List.flatMap_cons, List.length_append, h]
    simp
    omega
theorem runV_app (a b : List (Nat × Nat)) : runV (a ++ b) = runV a ++ runV b := List.flatMap_append
theorem runAdd_nil (s : Nat) : runAdd [] s = [(s, 1)] := rfl
theorem runAdd_same (r0 : List (Nat × Nat)) (a c : Nat) : runAdd (r0 ++ [(a, c)]) a = r0 ++ [(a, c + 1)] := by
  unfold runAdd
  simp
theorem runAdd_new (r0 : List (Nat × Nat)) (a c s : Nat) (h : a ≠ s) : runAdd (r0 ++ [(a, c)]) s = r0 ++ [(a, c)] ++ [(s, 1)] := by
  unfold runAdd
  simp [h]
theorem runL_take (L : List Nat) (k s : Nat) (h : L[k]? = some s) : runL (L.take (k + 1)) = runAdd (runL (L.take k)) s := by
  obtain ⟨hk, rfl⟩ := List.getElem?_eq_some_iff.1 h
  unfold runL
  rw [List.take_succ_eq_append_getElem hk, List.foldl_append]
  rfl
/-- what the runs of k letters are: no more than k, none longer than k, letters of the list -/
structure RunB (rs : List (Nat × Nat)) (k B : Nat) : Prop where
  n : rs.length ≤ k
  c : ∀ p, p ∈ rs → p.2 ≤ k ∧ p.1 < B
theorem runB_add {rs : List (Nat × Nat)} {k B s : Nat} (h : RunB rs k B) (hs : s < B) : RunB (runAdd rs s) (k + 1) B := by
  rcases List.eq_nil_or_concat rs with rfl | ⟨r0, ⟨a, c⟩, rfl⟩
  · rw [runAdd_nil]
    exact ⟨by simp, fun p hp => by simp at hp; subst hp; exact ⟨by simp, hs⟩⟩
  · rw [List.concat_eq_append] at h ⊢
    have hn := h.n
    rw [List.length_append] at hn
    simp at hn
    by_cases e : a = s
    · subst e
      rw [runAdd_same]
      refine ⟨by simp; omega, fun p hp => ?_⟩
      rcases List.mem_append.1 hp with hp | hp
      · have := h.c p (List.mem_append_left _ hp); exact ⟨by omega, this.2⟩
      · have := h.c (a, c) (by simp)
        simp at hp
        subst hp
        exact ⟨by have := this.1; simp at this ⊢; omega, hs⟩
    · rw [runAdd_new _ _ _ _ e]
      refine ⟨by simp; omega, fun p hp => ?_⟩
      rcases List.mem_append.1 hp with hp | hp
      · have := h.c p hp; exact ⟨by omega, this.2⟩
      · simp at hp
        subst hp
        exact ⟨by simp, hs⟩
set_option maxRecDepth 20000 in
set_option maxHeartbeats 2000000 in
theorem rof_any (L : List Nat) (hL : L.length ≤ 200) (hB : ∀ (i s : Nat), L[i]? = some s → s < 257) (w : World) (b : Nat) (hb : b < w.heap.size) (hc : ∀ (i s : Nat), L[i]? = some s → w.cell? ⟨b, i, none⟩ = some (.int .i64 (s : Nat))) (n : Nat) (hn : L.length = n) (c : Nat) :
    Calls Tryz.prog 115 #[.slice (some ⟨b, 0, none⟩) n c] w fun e w' => ∃ v, e = .returned v ∧ w'.ownsRow w.heap.size 146 2 v (runL L).length (runV (runL L)) ∧ Below w.heap.size w w' ∧ RunB (runL L) n 257 := by
  obtain ⟨i0, hi, hz0, hz1, hz2⟩ := info_parts info146
  have HI := Lib.hid (And.intro hi (And.intro hz0 (And.intro hz1 hz2)))
  clear hi hz0 hz1 hz2
  have o0 := Lib.hid (World.ownsRow_nil w w.heap.size 146 2)
  have HV := Lib.hid hB
  have HC := Lib.hid hc
  have HN := Lib.hid hn
  clear hB hc
  go_enter Tryz.func115, Tryz.ntmps115
  go_wp2_with fail
  go_loopw [3, 9] (fun r i wr => ∃ k : Nat, k ≤ n ∧ i = .int .i64 k ∧ (∃ a c, r = .slice a (runL (L.take k)).length c) ∧ Aside (wr.ownsRow w.heap.size 146 2 r (runL (L.take k)).length (runV (runL (L.take k)))) ∧ Below w.heap.size w wr ∧ RunB (runL (L.take k)) k 257) (fun _ i _ => n - (intOf i).toNat)
  case atStart => exact ⟨0, by omega, rfl, ⟨_, _, rfl⟩, o0.out, Below.refl _ _, ⟨by simp [runL], by simp [runL]⟩⟩
  case round =>
    obtain ⟨k, hk, rfl, ⟨ra, rc, rfl⟩, ow, bl, rb⟩ := hrel
    have hz := bl.size
    have BB := Lib.hid bl
    by_cases hlt : k < n
    · obtain ⟨s, hsk⟩ : ∃ s, L[k]? = some s := ⟨_, List.getElem?_eq_getElem (by have := HN.out; omega)⟩
      have hs1 := HV.out k s hsk
      have c0 : wr.cell? ⟨b, k, none⟩ = some (.int .i64 (s : Nat)) := (bl.cell (p := ⟨b, k, none⟩) hb).trans (HC.out k s hsk)
      have RT := Lib.hid (runL_take L k s hsk)
      have RN := Lib.hid (runB_add rb hs1)
      have hrn := rb.n
      have hrc := rb.c
      have hkn : k < 200 := by have := HN.out; omega
      clear bl hsk rb
      generalize runL (L.take k) = rs at *
      rcases List.eq_nil_or_concat rs with rfl | ⟨r0, ⟨a, x⟩, rfl⟩
      · have OW := Lib.hid ow.out
        simp only [List.length_nil] at OW ⊢
        clear ow hrn hrc
        go_wp2_with (first | (at_builtin; go_loud (refine wpList_append_own _ rfl _ _ 143 rfl w.heap.size 146 i0 (.agg #[.int .i64 0, .int .i64 0]) 2 16 Tryz.underlying143 HI.out.1 HI.out.2.1 HI.out.2.2.1 HI.out.2.2.2 rfl (by decide) _ _ _ rfl (own_alloc OW.out _) ⟨wr.heap.size, 0, none⟩ 1 1 [.int .i64 s, .int .i64 1] rfl rfl (new_two wr _ _ 146) (two_int _ _ _) (by unfold maxLen; omega) (by omega) (alloc_lt BB.out.size) ?_)) | fail)
        intro v1 w4 hown hgr _
        obtain ⟨a1, c1, rfl⟩ := own_shape hown
        have B4 := Lib.hid ((BB.out.alloc BB.out.size _).grown hgr (alloc_lt BB.out.size) (fun j hj => (OW.out.lt j hj).1))
        have O4 := Lib.hid hown
        clear hown hgr
        go_wp2_with fail
        go_roundw
        case rel =>
          refine ⟨k + 1, by omega, by go_num, ?_⟩
          rw [RT.out]
          exact ⟨⟨_, _, rfl⟩, O4.out, B4.out, RN.out⟩
        case measure => simp [intOf]; omega
      · rw [List.concat_eq_append] at *
        obtain ⟨m, hm⟩ : ∃ m, r0.length = m := ⟨_, rfl⟩
        have hl : (r0 ++ [(a, x)]).length = m + 1 := by rw [List.length_append, hm]; rfl
        rw [hl] at ow hrn ⊢
        have hx := hrc (a, x) (by simp)
        obtain ⟨g, gc, hv, hg1, hg2⟩ := own_form ow.out (by omega)
        rw [hv] at ow ⊢
        have rv : runV (r0 ++ [(a, x)]) = runV r0 ++ [.int .i64 (a : Nat), .int .i64 (x : Nat)] := runV_app _ _
        have d0 : wr.cell? ⟨g, m * 2, none⟩ = some (.int .i64 (a : Nat)) := owns_cell ow.out _ _ (by rw [rv, List.getElem?_append_right (by rw [runV_len, hm]; exact Nat.le_refl _), runV_len, hm, Nat.sub_self]; rfl)
        have d1 : wr.cell? ⟨g, m * 2 + 1, none⟩ = some (.int .i64 (x : Nat)) := owns_cell ow.out _ _ (by rw [rv, List.getElem?_append_right (by rw [runV_len, hm]; omega), runV_len, hm, show m * 2 + 1 - m * 2 = 1 from by omega]; rfl)
        have f1 := owns_free ow.out (m * 2 + 1)
        have OW := Lib.hid ow.out
        have HX := Lib.hid hx
        have HRV := Lib.hid rv
        have HM := Lib.hid hm
        have HL := Lib.hid hl
        clear ow hrc hx rv hm hv hl
        by_cases ea : a = s
        · subst ea
          have hd : ((a : Int) == (a : Int)) = true := by simp
          have hxs : x < 1000 := by have := HX.out.1; simp at this; omega
          go_wp2_with fail
          go_roundw
          case rel =>
            have e : runL (L.take (k + 1)) = r0 ++ [(a, x + 1)] := RT.out.trans (runAdd_same r0 a x)
            have el : (runL (L.take (k + 1))).length = m + 1 := by rw [e, List.length_append, HM.out]; rfl
            have ev : (runV (r0 ++ [(a, x)])).set (m * 2 + 1) (.int .i64 (x + 1 : Nat)) = runV (r0 ++ [(a, x + 1)]) := by
              rw [HRV.out, runV_app, List.set_append_right _ _ (by rw [runV_len, HM.out]; omega), runV_len, HM.out, show m * 2 + 1 - m * 2 = 1 from by omega]
              rfl
            have o5 := owns_set OW.out (m * 2 + 1) (.int .i64 (x + 1 : Nat))
            rw [ev] at o5
            refine ⟨k + 1, by omega, by go_num, ⟨_, _, by rw [el]⟩, ?_, BB.out.setCell (p := ⟨g, m * 2 + 1, none⟩) hg1 _, by rw [RT.out]; exact RN.out⟩
            rw [el, e]
            exact o5
          case measure => simp [intOf]; omega
        · have hd : ((a : Int) == (s : Int)) = false := by simp; omega
          go_wp2_with (first | (at_builtin; go_loud (refine wpList_append_own _ rfl _ _ 143 rfl w.heap.size 146 i0 (.agg #[.int .i64 0, .int .i64 0]) 2 16 Tryz.underlying143 HI.out.1 HI.out.2.1 HI.out.2.2.1 HI.out.2.2.2 rfl (by decide) _ _ _ rfl (own_alloc OW.out _) ⟨wr.heap.size, 0, none⟩ 1 1 [.int .i64 s, .int .i64 1] rfl rfl (new_two wr _ _ 146) (two_int _ _ _) (by unfold maxLen; omega) (by omega) (alloc_lt BB.out.size) ?_)) | fail)
          intro v1 w4 hown hgr _
          obtain ⟨a1, c1, rfl⟩ := own_shape hown
          have B4 := Lib.hid ((BB.out.alloc BB.out.size _).grown hgr (alloc_lt BB.out.size) (fun j hj => (OW.out.lt j hj).1))
          have O4 := Lib.hid hown
          clear hown hgr
          go_wp2_with fail
          go_roundw
          case rel =>
            refine ⟨k + 1, by omega, by go_num, ?_⟩
            have e : runL (L.take (k + 1)) = (r0 ++ [(a, x)]) ++ [(s, 1)] := RT.out.trans (runAdd_new r0 a x s ea)
            have el : (runL (L.take (k + 1))).length = m + 1 + 1 := by rw [e, List.length_append, HL.out]; rfl
            refine ⟨⟨_, _, by rw [el]⟩, ?_, B4.out, by rw [RT.out]; exact RN.out⟩
            rw [el, e, runV_app]
            exact O4.out
          case measure => simp [intOf]; omega
    · obtain rfl : k = n := by omega
      have hL : L.take k = L := List.take_of_length_le (by have := HN.out; omega)
      have OW := Lib.hid ow.out
      have RB := Lib.hid rb
      clear ow rb bl
      go_wp2_with fail
      go_ret
      refine ⟨_, rfl, ?_, BB.out, ?_⟩
      · have := OW.out
        rw [hL] at this ⊢
        exact this
      · have := RB.out
        rw [hL] at this
        exact this
end Go.Proofs.YtnadgcgnediakaaGreatDoor
namespace Go.Proofs.YtnadgcgnediakaaGreatDoor
open Go.ChangeShapes Go.WideShapes Go.ChangeAt Go.RowKit Go.Deep

def rputL (rs : List (Nat × Nat)) : List Nat := rs.flatMap fun p => putL [p.1, p.2]
theorem putL_pos (v : Nat) (vs : List Nat) : 0 < (putL (v :: vs)).length := by
  unfold putL putB
  rw [List.flatMap_cons, List.length_append]
  split
  · simp; omega
  · simp; omega
theorem u8V_one_cell (l : List Nat) : ∀ u ∈ u8V l, u.oneCell' = true := by
  intro u hu
  unfold u8V at hu
  obtain ⟨b, _, rfl⟩ := List.mem_map.1 hu
  rfl
theorem runV_get : ∀ (rs : List (Nat × Nat)) (k : Nat) (p : Nat × Nat), rs[k]? = some p → (runV rs)[k * 2]? = some (.int .i64 (p.1 : Nat)) ∧ (runV rs)[k * 2 + 1]? = some (.int .i64 (p.2 : Nat))
  | [], k, p, h => by simp at h
  | q :: rs, 0, p, h => by
    simp at h
    subst h
    exact ⟨rfl, rfl⟩
  | q :: rs, k + 1, p, h => by
    have ih := runV_get rs k p (by simpa using h)
    have e : runV (q :: rs) = .int .i64 (q.1 : Nat) :: .int .i64 (q.2 : Nat) :: runV rs := rfl
    rw [e, show (k + 1) * 2 = k * 2 + 1 + 1 from by omega]
    exact ih
theorem rputL_take (rs : List (Nat × Nat)) (k : Nat) (p : Nat × Nat) (h : rs[k]? = some p) : rputL (rs.take (k + 1)) = rputL (rs.take k) ++ putL [p.1, p.2] := by
  obtain ⟨hk, rfl⟩ := List.getElem?_eq_some_iff.1 h
  unfold rputL
  rw [List.take_succ_eq_append_getElem hk, List.flatMap_append]
  simp
theorem rputL_len : ∀ rs : List (Nat × Nat), (rputL rs).length ≤ 4 * rs.length
  | [] => by simp [rputL]
  | p :: rs => by
    have h1 := rputL_len rs
    have h2 := putL_len [p.1, p.2]
    unfold rputL at h1 ⊢
    rw [List.flatMap_cons, List.length_append, List.length_cons]
    simp at h2
    omega
theorem own_base {w : World} {base base' size n : Nat} {e : TypeId} {v : Value} {xs : List Value} (h : w.ownsRow base e size v n xs) (hb : base' ≤ base) : w.ownsRow base' e size v n xs :=
  ⟨h.1, h.2.imp_right fun ⟨g, cap, cur, e, hg, r⟩ => ⟨g, cap, cur, e, Nat.le_trans hb hg, r⟩⟩
/-- one number laid -/
theorem nput_one (v : Nat) (hv : v < 16384) (w : World) : Calls Tryz.prog 54 #[.slice (some ⟨w.heap.size, 0, none⟩) 1 1] (w.alloc (.cells #[.int .u64 (v : Nat)] 94)) fun e w' => ∃ r, e = .returned r ∧ w'.ownsRow w.heap.size 5 1 r (putL [v]).length (u8V (putL [v])) ∧ Below w.heap.size w w' := by
  refine (nput_any [v] (fun i x h => ?_) (by simp) _ w.heap.size (by simp) (fun i x h => ?_) 1 rfl 1).mono ?_
  · match i, h with
    | 0, h => simp at h; omega
    | i + 1, h => simp at h
  · match i, h with
    | 0, h =>
      simp at h
      subst h
      rw [Joins.cell_of_block (heap_alloc_new w _)]
      rfl
    | i + 1, h => simp at h
  · rintro e w' ⟨r, rfl, o1, b1⟩
    exact ⟨r, rfl, own_base o1 (by simp), ((Below.refl w.heap.size w).alloc (Nat.le_refl _) _).trans (b1.mono (by simp))⟩
/-- two numbers laid -/
theorem nput_two (v u : Nat) (hv : v < 16384) (hu : u < 16384) (w : World) : Calls Tryz.prog 54 #[.slice (some ⟨w.heap.size, 0, none⟩) 2 2] (w.alloc (.cells #[.int .u64 (v : Nat), .int .u64 (u : Nat)] 94)) fun e w' => ∃ r, e = .returned r ∧ w'.ownsRow w.heap.size 5 1 r (putL [v, u]).length (u8V (putL [v, u])) ∧ Below w.heap.size w w' := by
  refine (nput_any [v, u] (fun i x h => ?_) (by simp) _ w.heap.size (by simp) (fun i x h => ?_) 2 rfl 2).mono ?_
  · match i, h with
    | 0, h => simp at h; omega
    | 1, h => simp at h; omega
    | i + 2, h => simp at h
  · match i, h with
    | 0, h =>
      simp at h
      subst h
      rw [Joins.cell_of_block (heap_alloc_new w _)]
      rfl
    | 1, h =>
      simp at h
      subst h
      rw [Joins.cell_of_block (heap_alloc_new w _)]
      rfl
    | i + 2, h => simp at h
  · rintro e w' ⟨r, rfl, o1, b1⟩
    exact ⟨r, rfl, own_base o1 (by simp), ((Below.refl w.heap.size w).alloc (Nat.le_refl _) _).trans (b1.mono (by simp))⟩
/-- at 'append(s, x...)' of bytes that the call owns -/
theorem wpList_app_u8 {ops : Array Oper} {rest : List Oper} {o : Oper} {a : Act} {Q : Exit → Act → World → Prop} {w : World} (hgd : o.guard = none) (s x : Operand) (ho : o.op = .call { callee := .builtin .append, args := #[s, x], argTypes := #[22, 22] })
    (base n1 : Nat) (v : Value) (l1 : List Nat) (hs : a.eval s = v) (hown : w.ownsRow base 5 1 v n1 (u8V l1)) (b2 g n2 c2 : Nat) (l2 : List Nat) (hx : a.eval x = .slice (some ⟨g, 0, none⟩) n2 c2) (ho2 : w.ownsRow b2 5 1 (.slice (some ⟨g, 0, none⟩) n2 c2) n2 (u8V l2))
    (hn : n1 + n2 ≤ 1000000) (hb : base ≤ w.heap.size)
    (h : ∀ v' w' a' c', v' = .slice a' (n1 + n2) c' → w'.ownsRow base 5 1 v' (n1 + n2) (u8V (l1 ++ l2)) → w.grownBy w' v.ownBlock → (v'.ownBlock = v.ownBlock ∨ v'.ownBlock = some w.heap.size) → wpList Tryz.prog ops Q rest (a.put o.dst v') w') : wpList Tryz.prog ops Q (o :: rest) a w := by
  obtain ⟨i0, hi, hz0, hz1, hz2⟩ := info_parts info5
  refine wpList_append_own_at w hgd s x 22 ho base 5 i0 (.int .u8 0) 1 1 Tryz.underlying22 hi hz0 hz1 hz2 rfl (by decide) v n1 _ hs hown ⟨g, 0, none⟩ n2 c2 (u8V l2) hx ho2.1 (ho2.cells rfl) (u8V_one_cell _) (by unfold maxLen; omega) (by omega) hb ?_
  intro v' w' h1 h2 _ h3
  obtain ⟨a', c', e⟩ := own_shape h1
  refine h v' w' a' c' e ?_ h2 h3
  rw [u8V_app]
  exact h1
set_option maxRecDepth 20000 in
set_option maxHeartbeats 2000000 in
theorem rput_any (L : List Nat) (hL : L.length ≤ 200) (hB : ∀ (i s : Nat), L[i]? = some s → s < 257) (w : World) (b : Nat) (hb : b < w.heap.size) (hc : ∀ (i s : Nat), L[i]? = some s → w.cell? ⟨b, i, none⟩ = some (.int .i64 (s : Nat))) (n : Nat) (hn : L.length = n) (c : Nat) :
    Calls Tryz.prog 51 #[.slice (some ⟨b, 0, none⟩) n c] w fun e w' => ∃ v, e = .returned (.tuple #[v, .int .i64 0]) ∧ w'.ownsRow w.heap.size 5 1 v (putL [(runL L).length] ++ rputL (runL L)).length (u8V (putL [(runL L).length] ++ rputL (runL L))) ∧ Below w.heap.size w w' ∧ RunB (runL L) n 257 := by
  have RO := Lib.hid (rof_any L hL hB w b hb hc n hn c)
  have NP := Lib.hid nput_one
  clear hB hc
  go_enter Tryz.func51, Tryz.ntmps51
  go_wp2_with fail
  refine RO.out.mono ?_
  rintro e w1 ⟨v, rfl, ow, bl, rb⟩
  obtain ⟨m, hm⟩ : ∃ m, (runL L).length = m := ⟨_, rfl⟩
  have hmn : m ≤ n := hm ▸ rb.n
  rw [hm] at ow
  obtain ⟨va, vc, rfl⟩ := own_shape ow
  have OW := Lib.hid ow
  have BL := Lib.hid bl
  have RB := Lib.hid rb
  have HM := Lib.hid hm
  have hm2 : m < 16384 := by omega
  have N1 := Lib.hid (nput_one m hm2 w1)
  clear ow bl rb hm RO
  go_wp2_with fail
  refine N1.out.mono ?_
  rintro e w2 ⟨r, rfl, o2, b2⟩
  obtain ⟨r2, rc, rfl⟩ := own_shape o2
  have O2 := Lib.hid o2
  have B2 := Lib.hid b2
  clear o2 b2 N1
  have HLe := Lib.hid (show ∀ k, (putL [m] ++ rputL ((runL L).take k)).length ≤ 1000 from fun k => by
    have h1 := rputL_len ((runL L).take k)
    have h2 : ((runL L).take k).length ≤ (runL L).length := List.length_take_le' _ _
    have h3 := putL_len [m]
    have h4 := HM.out
    rw [List.length_append]
    simp at h3
    omega)
  go_wp2_with fail
  go_loopw [5, 17] (fun r i wr => ∃ (k n1 : Nat) (l1 : List Nat), k ≤ m ∧ i = .int .i64 k ∧ (∃ a c, r = .slice a n1 c) ∧ Aside (l1 = putL [m] ++ rputL ((runL L).take k) ∧ n1 = l1.length) ∧ Aside (wr.ownsRow w1.heap.size 5 1 r n1 (u8V l1)) ∧ Below w1.heap.size w1 wr) (fun _ i _ => m - (intOf i).toNat)
  case atStart =>
    have e0 : putL [m] ++ rputL ((runL L).take 0) = putL [m] := by simp [rputL]
    exact ⟨0, _, putL [m], by omega, rfl, ⟨_, _, rfl⟩, ⟨e0.symm, rfl⟩, O2.out, B2.out⟩
  case round =>
    obtain ⟨k, n1, l1, hk, rfl, ⟨ra, rc2, rfl⟩, el, ob, bl⟩ := hrel
    have BB := Lib.hid bl
    have EL := Lib.hid el.out
    have hn1 : n1 ≤ 1000 := by
      have h1 := HLe.out k
      rw [← EL.out.1, ← EL.out.2] at h1
      exact h1
    clear el
    by_cases hlt : k < m
    · obtain ⟨p, hpk⟩ : ∃ p, (runL L)[k]? = some p := ⟨_, List.getElem?_eq_getElem (by have := HM.out; omega)⟩
      have hp := RB.out.c p (List.mem_of_getElem? hpk)
      obtain ⟨g, gc, hv, hg1, hg2⟩ := own_form OW.out (by omega)
      cases hv
      have d0 : wr.cell? ⟨g, k * 2, none⟩ = some (.int .i64 (p.1 : Nat)) := (bl.cell (p := ⟨g, k * 2, none⟩) hg2).trans (owns_cell OW.out _ _ (runV_get _ _ _ hpk).1)
      have d1 : wr.cell? ⟨g, k * 2 + 1, none⟩ = some (.int .i64 (p.2 : Nat)) := (bl.cell (p := ⟨g, k * 2 + 1, none⟩) hg2).trans (owns_cell OW.out _ _ (runV_get _ _ _ hpk).2)
      have PT := Lib.hid (rputL_take (runL L) k p hpk)
      have IS := Lib.hid (fun wx => sis_sym p.1 hp.2 wx)
      have hp1 : p.1 < 16384 := by omega
      have hp2 : p.2 < 16384 := by omega
      have N2 := Lib.hid (nput_two p.1 p.2 hp1 hp2 (wr.alloc (.cells #[.int .i64 (p.1 : Nat), .int .i64 (p.2 : Nat)] 146)))
      clear bl hpk hp
      obtain ⟨ps, pc⟩ := p
      simp only at d0 d1 IS hp1 hp2 N2
      obtain ⟨l2, hl2⟩ : ∃ l, putL [ps, pc] = l := ⟨_, rfl⟩
      obtain ⟨n2, hn2⟩ : ∃ n, l2.length = n := ⟨_, rfl⟩
      have h20 : 0 < n2 := by rw [← hn2, ← hl2]; exact putL_pos _ _
      have h24 : n2 ≤ 4 := by
        have := putL_len [ps, pc]
        rw [hl2, hn2] at this
        simpa using this
      rw [hl2, hn2, World.size_alloc] at N2
      have HL2 := Lib.hid (And.intro hl2 hn2)
      clear hl2 hn2
      go_wp2_with (first | (go_at_call 99; refine (IS.out _).mono ?_; rintro e w' ⟨rfl, rfl⟩) | fail)
      have OB := Lib.hid ob.out
      clear ob d0 d1
      with_reducible refine N2.out.mono ?_
      rintro e w4 ⟨r4, rfl, o4, b4⟩
      obtain ⟨g4, c4, rfl, hg3, hg4⟩ := own_form o4 h20
      have h4 := b4.size
      simp only [World.size_alloc] at h4
      have ob4 := owns_same' OB.out (w1 := w4) (fun j hj => (b4.block j (by omega)).trans (Below.heap_alloc _ _ _ hj))
      have B4 := Lib.hid (show Below w1.heap.size w1 w4 from (BB.out.alloc BB.out.size _).trans (b4.mono (by have := BB.out.size; omega)))
      have OB4 := Lib.hid ob4
      have O4 := Lib.hid o4
      clear b4 o4 ob4
      go_wp2_with (first | (at_builtin; go_loud (refine wpList_app_u8 rfl _ _ rfl w1.heap.size n1 _ l1 rfl OB4.out _ g4 n2 c4 l2 rfl O4.out (by omega) B4.out.size ?_)) | fail)
      intro v5 w5 a5 c5 e5 hown hgr _
      subst e5
      have B5 := Lib.hid (B4.out.grown hgr B4.out.size (fun j hj => (OB4.out.lt j hj).1))
      have O5 := Lib.hid hown
      clear hown hgr
      go_wp2_with fail
      go_roundw
      case rel =>
        refine ⟨k + 1, n1 + n2, l1 ++ l2, by omega, by go_num, ⟨_, _, rfl⟩, ⟨?_, ?_⟩, O5.out, B5.out⟩
        · rw [EL.out.1, ← HL2.out.1, PT.out, List.append_assoc]
        · rw [List.length_append, EL.out.2, HL2.out.2]
      case measure => simp [intOf]; omega
    · obtain rfl : k = m := by omega
      have hT : (runL L).take k = runL L := List.take_of_length_le (by have := HM.out; omega)
      have OB := Lib.hid ob.out
      clear ob bl
      go_wp2_with fail
      go_ret2
      have hf := OB.out
      rw [EL.out.2, EL.out.1, hT] at hf
      rw [HM.out]
      exact ⟨_, by simp [EL.out.2, EL.out.1, hT], own_base hf BL.out.size, BL.out.trans (BB.out.mono BL.out.size), RB.out⟩
end Go.Proofs.YtnadgcgnediakaaGreatDoor
