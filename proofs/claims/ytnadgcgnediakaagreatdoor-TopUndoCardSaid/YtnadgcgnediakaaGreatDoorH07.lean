/- The walks of arena. The walk of arena.Take: the first node; the node that was given back. The walk of arena.Free at one node. The walk of arena.Take where nothing was ever given back. -/
import Derived.Test.YtnadgcgnediakaaGreatDoorH06
import Derived.Deep.RegionWith
import Derived.BigRegion
import Derived.Deep.QuietTactic
import Derived.BigQuiet
namespace Go.Proofs.YtnadgcgnediakaaGreatDoor
open Go.ChangeShapes Go.WideShapes Go.ChangeAt Go.RowKit Go.Deep

theorem info4 : (Tryz.prog.info? 4).map (fun i => (i.zero, i.size, i.bytes)) = some (some (.bool false), 1, 1) := by kernel_rfl
theorem info3 : (Tryz.prog.info? 3).map (fun i => (i.zero, i.size, i.bytes)) = some (some (.int .i64 0), 1, 8) := by kernel_rfl

/-- the cells of an arena -/
def ArenaIs (w : World) (g : Nat) (tv fv : Value) : Prop := w.heap[g]? = some (.cells #[tv, fv, .int .i64 268435456] 162 (0, 0))
theorem ArenaIs.c0 {w : World} {g : Nat} {tv fv : Value} (h : ArenaIs w g tv fv) : w.cell? ⟨g, 0, none⟩ = some tv := by rw [Joins.cell_of_block h]; rfl
theorem ArenaIs.c1 {w : World} {g : Nat} {tv fv : Value} (h : ArenaIs w g tv fv) : w.cell? ⟨g, 1, none⟩ = some fv := by rw [Joins.cell_of_block h]; rfl
theorem ArenaIs.c2 {w : World} {g : Nat} {tv fv : Value} (h : ArenaIs w g tv fv) : w.cell? ⟨g, 2, none⟩ = some (.int .i64 268435456) := by rw [Joins.cell_of_block h]; rfl
theorem ArenaIs.f {w : World} {g : Nat} {tv fv : Value} (h : ArenaIs w g tv fv) (i : Nat) : w.frozen? ⟨g, i, none⟩ = false := Joins.unfrozen_of_block h i

theorem alive_any (g : Nat) (ta fa : Option Addr) (tn tc fn fc : Nat) (w : World) (h : ArenaIs w g (.slice ta tn tc) (.slice fa fn fc)) (h1 : fn ≤ tn) (h2 : tn < 1000) :
    Calls Tryz.prog 130 #[.pointer (some ⟨g, 0, none⟩)] w fun e w' => e = .returned (.int .i64 (tn - fn : Nat)) ∧ ∃ n, w' = w.drewN n := by
  have c0 := h.c0
  have c1 := h.c1
  have e : ((tn - fn : Nat) : Int) = (tn : Int) - fn := by omega
  have E := Lib.hid e
  clear h e
  go_enter Tryz.func130, Tryz.ntmps130
  go_wp2_with fail
  go_quiet (fail)
  go_wp2_with fail
  go_ret
  exact ⟨by rw [E.out]; rfl, _, rfl⟩

theorem is_any (g : Nat) (tb : Nat) (tn tc : Nat) (fv : Value) (k : Nat) (b : Bool) (w : World) (h : ArenaIs w g (.slice (some ⟨tb, 0, none⟩) tn tc) fv) (hk : k < tn) (hc : w.cell? ⟨tb, k, none⟩ = some (.bool b)) :
    Calls Tryz.prog 216 #[.pointer (some ⟨g, 0, none⟩), .int .i64 k] w fun e w' => e = .returned (.bool b) ∧ w = w' := by
  have c0 := h.c0
  clear h
  go_enter Tryz.func216, Tryz.ntmps216
  go_wp2_with fail
  go_ret
  exact ⟨rfl, rfl⟩

theorem anew_any (w : World) : Calls Tryz.prog 67 #[.int .i64 268435456] w fun e w' => e = .returned (.pointer (some ⟨w.heap.size, 0, none⟩)) ∧ w' = w.alloc (.cells #[.slice none 0 0, .slice none 0 0, .int .i64 268435456] 162) := by
  go_enter Tryz.func67, Tryz.ntmps67
  go_wp2_with fail
  go_ret
  exact ⟨rfl, rfl⟩
end Go.Proofs.YtnadgcgnediakaaGreatDoor
namespace Go.Proofs.YtnadgcgnediakaaGreatDoor
open Go.ChangeShapes Go.WideShapes Go.ChangeAt Go.RowKit Go.Deep

theorem cut_hi28 (a : Option Addr) (len cap k : Nat) (h : k ≤ cap) (w : World) :
    (Instr.slice 28 (.slice a len cap) none (some (.int .i64 k)) none).run Tryz.prog w = .ok (.slice (if cap = 0 then a else a.map (·.add (0 * 1))) (k - 0) (cap - 0)) w := by
  have hs : (sizeOf (Tryz.prog.elem 28)).run Tryz.prog w = .ok 1 w := by
    have hi : (Tryz.prog.info? (Tryz.prog.elem 28)).map (·.size) = some 1 := by kernel_rfl
    obtain ⟨i, hi1, hi2⟩ := Option.map_eq_some_iff.1 hi
    simp [sizeOf, typeInfo, hi1, hi2]
  rw [run_slice_h w 28 a len cap (by kernel_rfl) .i64 k (by omega) (by omega), hs]
  simp [Result.andThen, sliced]
theorem take_first (o : Nat → Nat) (c g : Nat) (w : World) (h : ArenaIs w g (.slice none 0 0) (.slice none 0 0)) (hg : o g = c) :
    Calls Tryz.prog 75 #[.pointer (some ⟨g, 0, none⟩)] w fun e w' => e = .returned (.tuple #[.int .i64 0, .int .i64 0]) ∧ Upd o (· = c) w w' (ext o w.heap.size c) ∧
      ∃ tv, ArenaIs w' g tv (.slice none 0 0) ∧ Owned w' (ext o w.heap.size c) c 4 1 tv 1 [.bool true] := by
  have c0 := h.c0
  have c1 := h.c1
  have c2 := h.c2
  have f0 := h.f 0
  have al := fun wx hx => alive_any g none none 0 0 0 0 wx hx (by omega) (by omega)
  have AL := Lib.hid al
  have hlt : g < w.heap.size := lt_of_block h
  have H := Lib.hid h
  clear al h
  obtain ⟨i0, hi, hz0, hz1, hz2⟩ := info_parts info4
  go_enter Tryz.func75, Tryz.ntmps75
  go_wp2_with fail
  go_quiet (first | (go_at_call 130; refine Calls.quiet_of (AL.out _ ?_); exact H.out))
  have hm : w.heap.size ≤ ((w.drewN nq).alloc (.cells #[.bool true] 4)).heap.size := by rw [World.size_alloc]; exact Nat.le_succ _
  go_wp2_with (first | (at_builtin; go_loud (refine wpList_append_own _ rfl _ _ 101 rfl w.heap.size 4 i0 (.bool false) 1 1 Tryz.underlying101 hi hz0 hz1 hz2 rfl (by decide) _ _ _ rfl (World.ownsRow_nil _ _ _ _) ⟨w.heap.size, 0, none⟩ 1 1 [.bool true] rfl rfl (new_one (w.drewN nq) (.bool true) 4) (one_bool true) (by decide) (by decide) hm ?_)) | fail)
  intro v1 w1 hown hgr _
  obtain ⟨tb, tc, hv, hb, hlt2⟩ := own_form hown (by omega)
  rw [hv]
  have A1 : ArenaIs w1 g (.slice none 0 0) (.slice none 0 0) := (hgr.block g (alloc_lt hlt) (by simp [Value.ownBlock])).trans ((Below.heap_alloc _ _ _ hlt).trans H.out)
  have U1 : Upd o (· = c) w w1 (ext o w.heap.size c) := (((Upd.start o _ w c).drewN nq).alloc _).grown hgr (by simp [Value.ownBlock])
  rw [hv] at hown
  have O1 := Lib.hid hown
  have B1 := Lib.hid A1
  have V1 := Lib.hid U1
  have d0 := A1.c0
  have d1 := A1.c1
  have d2 := A1.c2
  have f1 := A1.f 0
  have hne : tb ≠ g := by omega
  clear hv hown hgr A1 U1 c0 c1 c2 f0 hi hz0 hz1 hz2
  go_wp2_with fail
  go_ret2
  refine ⟨rfl, V1.out.set _ (.inr hg), _, Joins.block_setCell B1.out _, ?_, ?_⟩
  · have := owns_base (owns_other O1.out (a := ⟨g, 0, none⟩) (by simp [Value.ownBlock]; exact hne) (.slice (some ⟨tb, 0, none⟩) 1 tc)) (Nat.zero_le _)
    simpa using this
  · intro k hk
    simp [Value.ownBlock] at hk
    subst hk
    exact ext_new hb

theorem take_again (o : Nat → Nat) (c g tb tc fb fc : Nat) (w : World) (h : ArenaIs w g (.slice (some ⟨tb, 0, none⟩) 1 tc) (.slice (some ⟨fb, 0, none⟩) 1 fc)) (hg : o g = c)
    (ht : Owned w o c 4 1 (.slice (some ⟨tb, 0, none⟩) 1 tc) 1 [.bool false]) (hf : Owned w o c 3 1 (.slice (some ⟨fb, 0, none⟩) 1 fc) 1 [.int .i64 0]) :
    Calls Tryz.prog 75 #[.pointer (some ⟨g, 0, none⟩)] w fun e w' => e = .returned (.tuple #[.int .i64 0, .int .i64 0]) ∧ Upd o (· = c) w w' (ext o w.heap.size c) ∧
      ArenaIs w' g (.slice (some ⟨tb, 0, none⟩) 1 tc) (.slice (some ⟨fb, 0, none⟩) 0 fc) ∧ Owned w' (ext o w.heap.size c) c 4 1 (.slice (some ⟨tb, 0, none⟩) 1 tc) 1 [.bool true] ∧ Owned w' (ext o w.heap.size c) c 3 1 (.slice (some ⟨fb, 0, none⟩) 0 fc) 0 [] := by
  have c0 := h.c0
  have c1 := h.c1
  have c2 := h.c2
  have f1 := h.f 1
  have al := fun wx hx => alive_any g (some ⟨tb, 0, none⟩) (some ⟨fb, 0, none⟩) 1 tc 1 fc wx hx (by omega) (by omega)
  have AL := Lib.hid al
  have hlt : g < w.heap.size := lt_of_block h
  have H := Lib.hid h
  have t0 := owns_cell ht.1 0 _ rfl
  have ff0 := owns_cell hf.1 0 _ rfl
  have ft := owns_free ht.1 0
  obtain ⟨cur, hc1, hc2, hc3, hc4, hc5⟩ := owns_row hf.1
  have ne1 : fb ≠ g := by
    have := owns_ne hf.1 h (by decide); simpa [Value.ownBlock] using this
  have ne2 : tb ≠ g := by
    have := owns_ne ht.1 h (by decide); simpa [Value.ownBlock] using this
  have ne3 : tb ≠ fb := by
    have := owns_ne ht.1 hc1 (by decide); simpa [Value.ownBlock] using this
  have hs : ∀ wx, (Instr.slice 28 (.slice (some ⟨fb, 0, none⟩) 1 fc) none (some (.int .i64 0)) none).run Tryz.prog wx = .ok (.slice (some ⟨fb, 0, none⟩) 0 fc) wx := by
    intro wx
    refine (cut_hi28 (some ⟨fb, 0, none⟩) 1 fc 0 (by omega) wx).trans ?_
    congr 2
    split <;> simp [Addr.add]
  have HT := Lib.hid ht
  have HF := Lib.hid hf
  have TB : o tb = c := ht.2 tb rfl
  have tlt : tb < w.heap.size := ownBlock_lt ht.1 rfl
  have flt : fb < w.heap.size := ownBlock_lt hf.1 rfl
  have FB : o fb = c := hf.2 fb rfl
  have HTB := Lib.hid TB
  have HFB := Lib.hid FB
  have NE := Lib.hid ne3
  have HG := Lib.hid hg
  clear al h ht hf hc1 hc2 hc3 hc4 hc5 TB FB ne3 hg
  go_enter Tryz.func75, Tryz.ntmps75
  go_wp2_with fail
  go_quiet (first | (go_at_call 130; refine Calls.quiet_of (AL.out _ ?_); exact H.out))
  go_wp2_with fail
  go_ret2
  refine ⟨rfl, (((Upd.start o _ w c).drewN nq).set _ (.inr HG.out)).set _ (.inr HTB.out), ?_, ⟨?_, ?_⟩, ⟨?_, ?_⟩⟩
  · have := Joins.block_setCell (i := 1) H.out (.slice (some ⟨fb, 0, none⟩) 0 fc)
    exact (Below.heap_setCell _ _ _ _ (by exact fun x => ne2 x.symm)).trans this
  · have := owns_set (owns_other HT.out.1 (a := ⟨g, 1, none⟩) (by simp [Value.ownBlock]; exact ne2) (.slice (some ⟨fb, 0, none⟩) 0 fc)) 0 (.bool true)
    exact this
  · intro k hk
    simp [Value.ownBlock] at hk
    subst hk
    exact (ext_old tlt).trans HTB.out
  · have h2 := owns_other (owns_other HF.out.1 (a := ⟨g, 1, none⟩) (by simp [Value.ownBlock]; exact ne1) (.slice (some ⟨fb, 0, none⟩) 0 fc)) (a := ⟨tb, 0, none⟩) (by simp [Value.ownBlock]; exact fun x => NE.out x.symm) (.bool true)
    obtain ⟨cur, q1, q2, q3, q4, q5⟩ := owns_row h2
    exact ⟨rfl, .inr ⟨fb, fc, cur, rfl, Nat.zero_le _, q1, Nat.zero_le _, q3, q4, by simp⟩⟩
  · intro k hk
    simp [Value.ownBlock] at hk
    subst hk
    exact (ext_old flt).trans HFB.out
end Go.Proofs.YtnadgcgnediakaaGreatDoor
namespace Go.Proofs.YtnadgcgnediakaaGreatDoor
open Go.ChangeShapes Go.WideShapes Go.ChangeAt Go.RowKit Go.Deep

theorem own_shape {w : World} {base size n : Nat} {e : TypeId} {v : Value} {xs : List Value} (h : w.ownsRow base e size v n xs) : ∃ a cap, v = .slice a n cap := by
  rcases h.2 with ⟨rfl, rfl⟩ | ⟨g, cap, cur, rfl, _⟩
  · exact ⟨_, _, rfl⟩
  · exact ⟨_, _, rfl⟩

theorem free_any (o : Nat → Nat) (c g tb tc lb : Nat) (fv : Value) (w : World) (h : ArenaIs w g (.slice (some ⟨tb, 0, none⟩) 1 tc) fv) (hg : o g = c)
    (ht : Owned w o c 4 1 (.slice (some ⟨tb, 0, none⟩) 1 tc) 1 [.bool true]) (hf : Owned w o c 3 1 fv 0 []) (hl : w.heap[lb]? = some (.cells #[.int .i64 0] 3 (0, 0))) :
    Calls Tryz.prog 194 #[.pointer (some ⟨g, 0, none⟩), .slice (some ⟨lb, 0, none⟩) 1 1] w fun e w' => e = .returned (.int .i64 0) ∧ Upd o (· = c) w w' (ext o w.heap.size c) ∧
      ∃ fb fc, ArenaIs w' g (.slice (some ⟨tb, 0, none⟩) 1 tc) (.slice (some ⟨fb, 0, none⟩) 1 fc) ∧ Owned w' (ext o w.heap.size c) c 4 1 (.slice (some ⟨tb, 0, none⟩) 1 tc) 1 [.bool false] ∧ Owned w' (ext o w.heap.size c) c 3 1 (.slice (some ⟨fb, 0, none⟩) 1 fc) 1 [.int .i64 0] := by
  obtain ⟨fa, fc, rfl⟩ := own_shape hf.1
  have c0 := h.c0
  have c1 := h.c1
  have f1 := h.f 1
  have t0 := owns_cell ht.1 0 _ rfl
  have ft := owns_free ht.1 0
  have l0 : w.cell? ⟨lb, 0, none⟩ = some (.int .i64 0) := by rw [Joins.cell_of_block hl]; rfl
  have hlt : g < w.heap.size := lt_of_block h
  have ne2 : tb ≠ g := by
    have := owns_ne ht.1 h (by decide); simpa [Value.ownBlock] using this
  have ne3 : tb ≠ lb := by
    have := owns_ne ht.1 hl (by decide); simpa [Value.ownBlock] using this
  have is0 := is_any g tb 1 tc (.slice fa 0 fc) 0 true w h (by omega) t0
  have IS := Lib.hid is0
  have TB : o tb = c := ht.2 tb rfl
  have tlt : tb < w.heap.size := ownBlock_lt ht.1 rfl
  have c0' : (w.setCell ⟨tb, 0, none⟩ (.bool false)).cell? ⟨lb, 0, none⟩ = some (.int .i64 0) := by
    rw [World.cell?_setCell_other _ _ _ _ (by intro x; exact ne3 (congrArg Addr.block x))]; exact l0
  have own1 : (w.setCell ⟨tb, 0, none⟩ (.bool false)).ownsRow 0 3 1 (.slice fa 0 fc) 0 [] := by
    refine owns_other hf.1 ?_ _
    intro he
    obtain ⟨cur, hc1, _⟩ := owns_row ht.1
    exact owns_ne hf.1 hc1 (by decide) he
  have src : ∀ (j : Nat) (u : Value), [Value.int .i64 0][j]? = some u → (w.setCell ⟨tb, 0, none⟩ (.bool false)).cell? ((⟨lb, 0, none⟩ : Addr).add j) = some u := by
    intro j u hu
    match j, hu with
    | 0, hu =>
      simp only [List.getElem?_cons_zero, Option.some.injEq] at hu
      subst hu
      rw [show (⟨lb, 0, none⟩ : Addr).add 0 = ⟨lb, 0, none⟩ from by simp [Addr.add]]
      exact c0'
    | j + 1, hu => simp at hu
  have A1 : ArenaIs (w.setCell ⟨tb, 0, none⟩ (.bool false)) g (.slice (some ⟨tb, 0, none⟩) 1 tc) (.slice fa 0 fc) := (Below.heap_setCell _ _ _ _ (fun x => ne2 x.symm)).trans h
  have T1 := owns_set ht.1 0 (.bool false)
  have H := Lib.hid h
  have HA := Lib.hid A1
  have HT := Lib.hid T1
  have HF := Lib.hid hf
  have HTB := Lib.hid TB
  have HG := Lib.hid hg
  have OW := Lib.hid own1
  have SR := Lib.hid src
  clear h ht hf TB ne3 hg is0 src own1 A1 T1 c0' hl
  obtain ⟨i0, hi, hz0, hz1, hz2⟩ := info_parts info3
  go_enter Tryz.func194, Tryz.ntmps194
  go_wp2_with fail
  refine wp_loop_rounds 2 ?_
  rw [rounds_succ]
  go_wp2_with (go_at_call 216; refine IS.out.mono ?_; rintro e w' ⟨rfl, rfl⟩)
  rw [rounds_succ]
  go_wp2_with (first | (at_builtin; go_loud (refine wpList_append_where _ (by rfl) (.tmp 48) (.tmp 49) 28 rfl 3 i0 (.int .i64 0) 1 8 Tryz.underlying28 hi hz0 hz1 hz2 rfl (by decide) _ _ _ rfl OW.out ⟨lb, 0, none⟩ 1 1 [.int .i64 0] rfl rfl SR.out (one_int _ _) (by decide) (by decide) ?_)) | fail)
  intro v1 w1 hown hgr hwh
  obtain ⟨fb, fc1, hv, hb, hlt2⟩ := own_form hown (by omega)
  rw [hv]
  have flt : ∀ k, (Value.slice fa 0 fc).ownBlock = some k → k < w.heap.size := fun k hk => ownBlock_lt HF.out.1 hk
  have fne : (Value.slice fa 0 fc).ownBlock ≠ some g := owns_ne HF.out.1 H.out (by decide)
  have fne2 : (Value.slice fa 0 fc).ownBlock ≠ some tb := by
    obtain ⟨cur, hc1, _⟩ := owns_row HT.out
    exact owns_ne OW.out hc1 (by decide)
  have A1 : ArenaIs w1 g (.slice (some ⟨tb, 0, none⟩) 1 tc) (.slice fa 0 fc) := (hgr.block g (by rw [World.size_setCell]; exact hlt) (fun x => fne x.symm)).trans HA.out
  have T1 : w1.ownsRow 0 4 1 (.slice (some ⟨tb, 0, none⟩) 1 tc) 1 [.bool false] := owns_same HT.out fun k hk => by
    simp [Value.ownBlock] at hk
    subst hk
    exact hgr.block tb (by rw [World.size_setCell]; exact tlt) (fun x => fne2 x.symm)
  have U1 : Upd o (· = c) w w1 (ext o w.heap.size c) := ((Upd.start o _ w c).set _ (.inr HTB.out)).grown hgr (fun k hk => .inr (HF.out.2 k hk))
  have fown : ext o w.heap.size c fb = c := by
    rcases hwh fb (by rw [hv]; rfl) with hh | hh
    · rw [ext_old (flt fb hh)]
      exact HF.out.2 fb hh
    · exact ext_new hh
  rw [hv] at hown
  have O1 := Lib.hid hown
  have B1 := Lib.hid A1
  have V1 := Lib.hid U1
  have W1 := Lib.hid T1
  have d0 := A1.c0
  have d1 := A1.c1
  have d2 := A1.c2
  have g1 := A1.f 1
  have hne : fb ≠ g := by
    have := owns_ne hown A1 (by decide); simpa [Value.ownBlock] using this
  clear hv hown hgr hwh A1 U1 c0 c1 T1 f1 hi hz0 hz1 hz2
  go_wp2_with fail
  go_ret
  refine ⟨rfl, V1.out.set _ (.inr HG.out), fb, fc1, Joins.block_setCell B1.out _, ⟨?_, ?_⟩, ?_, ?_⟩
  · exact owns_other W1.out (a := ⟨g, 1, none⟩) (by simp [Value.ownBlock]; exact ne2) _
  · intro k hk
    simp [Value.ownBlock] at hk
    subst hk
    exact (ext_old tlt).trans HTB.out
  · exact owns_other O1.out (a := ⟨g, 1, none⟩) (by simp [Value.ownBlock]; exact hne) _
  · intro k hk
    simp [Value.ownBlock] at hk
    subst hk
    exact fown
end Go.Proofs.YtnadgcgnediakaaGreatDoor
namespace Go.Proofs.YtnadgcgnediakaaGreatDoor
open Go.ChangeShapes Go.WideShapes Go.ChangeAt Go.RowKit Go.Deep

theorem take_more (o : Nat → Nat) (c g n : Nat) (tv : Value) (xs : List Value) (w : World) (h : ArenaIs w g tv (.slice none 0 0)) (hg : o g = c) (ht : Owned w o c 4 1 tv n xs) (hn : n < 1000) :
    Calls Tryz.prog 75 #[.pointer (some ⟨g, 0, none⟩)] w fun e w' => e = .returned (.tuple #[.int .i64 n, .int .i64 0]) ∧ Upd o (· = c) w w' (ext o w.heap.size c) ∧
      ∃ tv', ArenaIs w' g tv' (.slice none 0 0) ∧ Owned w' (ext o w.heap.size c) c 4 1 tv' (n + 1) (xs ++ [.bool true]) := by
  obtain ⟨ta, tc, rfl⟩ := own_shape ht.1
  have c0 := h.c0
  have c1 := h.c1
  have c2 := h.c2
  have f0 := h.f 0
  have al := fun wx hx => alive_any g ta none n tc 0 0 wx hx (by omega) (by omega)
  have AL := Lib.hid al
  have hlt : g < w.heap.size := lt_of_block h
  have H := Lib.hid h
  have HT := Lib.hid ht
  have HG := Lib.hid hg
  have hne : (Value.slice ta n tc).ownBlock ≠ some g := owns_ne ht.1 h (by decide)
  have NE := Lib.hid hne
  have e28 : ((n : Int) == 268435456) = false := by simp; omega
  have own1 : ∀ nq, ((w.drewN nq).alloc (.cells #[.bool true] 4)).ownsRow 0 4 1 (.slice ta n tc) n xs := fun nq => owns_same ht.1 fun k hk => Below.heap_alloc (w.drewN nq) _ k (ownBlock_lt ht.1 hk)
  have OW := Lib.hid own1
  clear al h ht hg own1 hne
  obtain ⟨i0, hi, hz0, hz1, hz2⟩ := info_parts info4
  go_enter Tryz.func75, Tryz.ntmps75
  go_wp2_with fail
  go_quiet (first | (go_at_call 130; refine Calls.quiet_of (AL.out _ ?_); exact H.out))
  go_wp2_with (first | (at_builtin; go_loud (refine wpList_append_where _ (by rfl) (.tmp 53) (.tmp 54) 101 rfl 4 i0 (.bool false) 1 1 Tryz.underlying101 hi hz0 hz1 hz2 rfl (by decide) _ _ _ rfl (OW.out nq) ⟨w.heap.size, 0, none⟩ 1 1 [.bool true] rfl rfl (new_one (w.drewN nq) (.bool true) 4) (one_bool true) (by unfold maxLen; omega) (by omega) ?_)) | fail)
  intro v1 w1 hown hgr hwh
  obtain ⟨tb, tc2, hv, hb, hlt2⟩ := own_form hown (by omega)
  rw [hv]
  have A1 : ArenaIs w1 g (.slice ta n tc) (.slice none 0 0) := (hgr.block g (alloc_lt hlt) (fun x => NE.out x.symm)).trans ((Below.heap_alloc _ _ _ hlt).trans H.out)
  have U1 : Upd o (· = c) w w1 (ext o w.heap.size c) := (((Upd.start o _ w c).drewN nq).alloc _).grown hgr (fun k hk => .inr (HT.out.2 k hk))
  have town : ext o w.heap.size c tb = c := by
    rcases hwh tb (by rw [hv]; rfl) with hh | hh
    · rw [ext_old (ownBlock_lt HT.out.1 hh)]
      exact HT.out.2 tb hh
    · exact ext_new (Nat.le_trans (Nat.le_succ _) (by simpa using hh))
  rw [hv] at hown
  have O1 := Lib.hid hown
  have B1 := Lib.hid A1
  have V1 := Lib.hid U1
  have d0 := A1.c0
  have d1 := A1.c1
  have d2 := A1.c2
  have f1 := A1.f 0
  have hne2 : tb ≠ g := by
    have := owns_ne hown A1 (by decide); simpa [Value.ownBlock] using this
  have TO := Lib.hid town
  clear hv hown hgr hwh A1 U1 c0 c1 c2 f0 hi hz0 hz1 hz2 town
  go_wp2_with fail
  go_ret2
  refine ⟨by simp, V1.out.set _ (.inr HG.out), _, Joins.block_setCell B1.out _, ?_, ?_⟩
  · exact owns_other O1.out (a := ⟨g, 0, none⟩) (by simp [Value.ownBlock]; exact hne2) _
  · intro k hk
    simp [Value.ownBlock] at hk
    subst hk
    exact TO.out
end Go.Proofs.YtnadgcgnediakaaGreatDoor
