/- slices.Delete at the order of the samples: one place is taken out. The walk of perm.gone: a sample is taken out. The walks of perm.Drop, RowOut, PosOut. The walks of perm.RowOut, PosOut, whole. A row and a place of the samples go out. The walks of tally.Add and walk.Count at minus one; the live text's count lowered. The walk of live.Delete. -/
import Derived.Test.YtnadgcgnediakaaGreatDoorH16
import Derived.Test.YtnadgcgnediakaaGreatDoorH21
import Derived.Test.YtnadgcgnediakaaGreatDoorH22
import Derived.Test.YtnadgcgnediakaaGreatDoorH25
import Derived.BigRegion
import Derived.Deep.RegionHeld3
import Derived.Test.YtnadgcgnediakaaGreatDoorH23
import Derived.Test.YtnadgcgnediakaaGreatDoorH14
import Derived.Test.YtnadgcgnediakaaGreatDoorH24
namespace Go.Proofs.YtnadgcgnediakaaGreatDoor
open Go.ChangeShapes Go.WideShapes Go.ChangeAt Go.RowKit Go.Deep Go.Sort

def toI (ord : List Nat) : List Int := ord.map fun (k : Nat) => (k : Int)
theorem toI_len (ord : List Nat) : (toI ord).length = ord.length := List.length_map _
theorem ints_holds {w : World} {ob oc : Nat} {ord : List Nat} (h : w.ownsRow 0 3 1 (.slice (some ⟨ob, 0, none⟩) ord.length oc) ord.length (intsV ord)) : Go.Sort.Holds (Value.int .i64) w ob 0 (toI ord).toArray := by
  intro j hj
  have hj' : j < ord.length := by simpa [toI_len] using hj
  refine ⟨?_, owns_free h _⟩
  rw [Nat.zero_add, owns_cell h j _ (intsV_get ord j hj'), getElem!_pos _ j hj]
  simp [toI]
theorem intsV_erase (ord : List Nat) (c : Nat) (hc : c < ord.length) : ((((toI ord).take c ++ (toI ord).drop (c + 1) ++ List.replicate (c + 1 - c) 0).map (Value.int .i64)).take (ord.length - 1)) = intsV (ord.eraseIdx c) := by
  rw [List.map_append, List.take_append_of_le_length (by simp [toI_len]; omega), List.take_of_length_le (by simp [toI_len]; omega)]
  rw [List.eraseIdx_eq_take_drop_succ]
  unfold intsV toI
  simp [List.map_take, List.map_drop]
  rfl
set_option maxRecDepth 20000 in
theorem del_any (w : World) (ob oc c : Nat) (ord : List Nat) (ho : w.ownsRow 0 3 1 (.slice (some ⟨ob, 0, none⟩) ord.length oc) ord.length (intsV ord)) (hc : c < ord.length) :
    Calls Tryz.prog 195 #[.slice (some ⟨ob, 0, none⟩) ord.length oc, .int .i64 c, .int .i64 (c + 1 : Nat)] w fun e w' => e = .returned (.slice (some ⟨ob, 0, none⟩) (ord.length - 1) oc) ∧ w.grownBy w' (some ob) ∧
      w'.ownsRow 0 3 1 (.slice (some ⟨ob, 0, none⟩) (ord.length - 1) oc) (ord.length - 1) (intsV (ord.eraseIdx c)) := by
  obtain ⟨cur, hcu, hc1, hc2, hc3, hc4⟩ := owns_row ho
  have hH := ints_holds ho
  have R := Any.slices_Delete_int Tryz.lays2_23 ob 0 oc c (c + 1) (toI ord) w hH (by rw [toI_len]; exact hc1) (by unfold maxLen at hc2; omega) (by omega) (by rw [toI_len]; exact hc)
  rw [toI_len, show c + 1 - c = 1 from by omega] at R
  change Calls Tryz.prog 195 _ _ _ at R
  refine R.mono ?_
  rintro e w' ⟨rfl, q, rfl⟩
  have hb := heap_sortedK (enc := Value.int .i64) (n := q) (os := #[]) (((toI ord).take c ++ (toI ord).drop (c + 1) ++ List.replicate 1 0).toArray) hcu
  have hg := grownBy_sortedK (enc := Value.int .i64) (w := w) (g := ob) (n := q) (os := #[]) (((toI ord).take c ++ (toI ord).drop (c + 1) ++ List.replicate 1 0).toArray)
  unfold Go.Proofs.sortWorld at hb hg
  rw [Go.Sort.grow_empty] at hb hg
  refine ⟨rfl, hg, ?_⟩
  have ht := take_putCellsK (enc := Value.int .i64) cur ((toI ord).take c ++ (toI ord).drop (c + 1) ++ List.replicate 1 0) (by simp [toI_len]; omega)
  have he := intsV_erase ord c hc
  rw [show c + 1 - c = 1 from by omega, ← ht, List.take_take] at he
  refine ⟨by rw [intsV_len, List.length_eraseIdx_of_lt hc]; omega, .inr ⟨ob, oc, _, rfl, Nat.zero_le _, hb, by omega, hc2, by simpa [putCells] using hc3, ?_⟩⟩
  rw [← he]
  congr 1
  simp [toI_len]
  omega
end Go.Proofs.YtnadgcgnediakaaGreatDoor
namespace Go.Proofs.YtnadgcgnediakaaGreatDoor
open Go.ChangeShapes Go.WideShapes Go.ChangeAt Go.RowKit Go.Deep

def GC (pb ap ob c k : Nat) (ov : Value) (wz : World) : Prop := wz.cell? ⟨pb, 0, none⟩ = some (.pointer (some ⟨ap, 0, none⟩)) ∧ wz.cell? ⟨pb, 2, none⟩ = some ov ∧ wz.cell? ⟨ob, c, none⟩ = some (.int .i64 k)
theorem GC.alloc {pb ap ob c k : Nat} {ov : Value} {wz : World} (h : GC pb ap ob c k ov wz) (x : Obj) : GC pb ap ob c k ov (wz.alloc x) := by
  obtain ⟨h0, h1, h2⟩ := h
  exact ⟨(World.cell?_alloc_lt _ _ _ (cell_lt h0)).trans h0, (World.cell?_alloc_lt _ _ _ (cell_lt h1)).trans h1, (World.cell?_alloc_lt _ _ _ (cell_lt h2)).trans h2⟩

/-- a sample's place in the order is taken out, its number given back: the tail -/
theorem gone_tail {o o2 : Nat → Nat} {pb ap ob oc c n : Nat} {lv : Value} {rf pf : Nat → Nat} {ord : List Nat} {rows places : Nat} {w w2 w3 : World} (h : IsPB w o pb ap lv (.slice (some ⟨ob, 0, none⟩) ord.length oc) rf pf n ord rows places) (hc : c < ord.length)
    (u : Upd o (fun x => x = 9 ∨ x = 7) w w2 o2) (p : IsP0 w2 o2 pb ap lv (.slice (some ⟨ob, 0, none⟩) ord.length oc) rf pf n ord rows places) (fr : IsFree w2 o2 ap n (ord.eraseIdx c)) (hg : w2.grownBy w3 (some ob)) (hr : w3.ownsRow 0 3 1 (.slice (some ⟨ob, 0, none⟩) (ord.length - 1) oc) (ord.length - 1) (intsV (ord.eraseIdx c))) :
    w3.cell? ⟨pb, 2, none⟩ = some (.slice (some ⟨ob, 0, none⟩) ord.length oc) ∧ w3.frozen? ⟨pb, 2, none⟩ = false ∧
      Upd o (fun x => x = 9 ∨ x = 7) w (w3.setCell ⟨pb, 2, none⟩ (.slice (some ⟨ob, 0, none⟩) (ord.length - 1) oc)) o2 ∧ IsPB (w3.setCell ⟨pb, 2, none⟩ (.slice (some ⟨ob, 0, none⟩) (ord.length - 1) oc)) o2 pb ap lv (.slice (some ⟨ob, 0, none⟩) (ord.length - 1) oc) rf pf n (ord.eraseIdx c) rows places := by
  have oob : o2 ob = 9 := p.od.2 ob rfl
  have pbl := lt_of_block p.c
  have ne1 : ob ≠ pb := fun e => owns_ne p.od.1 p.c (by decide) (by simp [Value.ownBlock, e])
  obtain ⟨cur, hcu, _⟩ := owns_row p.od.1
  have nel : lv.ownBlock ≠ some ob := owns_ne p.ls.1 hcu (by decide)
  have nep : lv.ownBlock ≠ some pb := owns_ne p.ls.1 p.c (by decide)
  have sm : ∀ k, k < w2.heap.size → k ≠ ob → w3.heap[k]? = w2.heap[k]? := fun k hk hne => hg.block k hk (fun e => hne (Option.some.inj e))
  have hc3 := (sm pb pbl (fun e => ne1 e.symm)).trans p.c
  have ug : Upd o2 (· = 9) w2 w3 o2 := (Upd.refl o2 (· = 9) w2).grown hg (fun k hk => .inr (by cases hk; exact oob))
  have us : Upd o2 (· = 9) w2 (w3.setCell ⟨pb, 2, none⟩ (.slice (some ⟨ob, 0, none⟩) (ord.length - 1) oc)) o2 := ug.set _ (.inr p.ob)
  have hlen : (ord.eraseIdx c).length = ord.length - 1 := List.length_eraseIdx_of_lt hc
  refine ⟨by rw [Joins.cell_of_block hc3]; rfl, Joins.unfrozen_of_block hc3 _, u.trans us (fun _ h => .inl h), ⟨Joins.block_setCell hc3 _, p.ob, fr.keep us (by omega), ⟨owns_other (owns_same p.ls.1 fun k hk => sm k (ownBlock_lt p.ls.1 hk) (fun e => nel (by rw [hk, e]))) nep _, p.ls.2⟩, ⟨by rw [hlen]; exact owns_other hr (by simp [Value.ownBlock]; exact ne1) _, fun k hk => p.od.2 k (by simpa [Value.ownBlock] using hk)⟩, ?_, ?_, by have := h.ln; omega⟩⟩
  · exact h.nd.sublist (List.eraseIdx_sublist _ _)
  · exact fun k hk => h.lt k ((List.eraseIdx_sublist _ _).subset hk)

set_option maxHeartbeats 1000000 in
theorem pgone_any (o : Nat → Nat) (pb ap : Nat) (lv ov : Value) (rf pf : Nat → Nat) (n c : Nat) (ord : List Nat) (rows places : Nat) (w : World) (h : IsPB w o pb ap lv ov rf pf n ord rows places) (hc : c < ord.length) (hn : n < 1000) :
    Calls Tryz.prog 143 #[.pointer (some ⟨pb, 0, none⟩), .int .i64 c] w fun e w' => e = .returned (.tuple #[]) ∧ ∃ o' ov', (No5 o → No5 o') ∧ Upd o (fun x => x = 9 ∨ x = 7) w w' o' ∧ IsPB w' o' pb ap lv ov' rf pf n (ord.eraseIdx c) rows places := by
  obtain ⟨ob, oc, hov, _, hob⟩ := own_form h.od.1 (by omega)
  subst hov
  have hln := h.ln
  have hk : ord[c] ∈ ord := List.getElem_mem hc
  have hp : (ord[c] :: ord.eraseIdx c).Perm ord := by
    rw [List.eraseIdx_eq_take_drop_succ]
    conv => rhs; rw [← List.take_append_drop c ord, List.drop_eq_getElem_cons hc]
    exact List.perm_middle.symm
  have hkn := h.lt _ hk
  have hni : ord[c] ∉ ord.eraseIdx c := (List.nodup_cons.1 (hp.nodup_iff.2 h.nd)).1
  have u1 : Upd o nothing w (w.drew.alloc (.cells #[.int .i64 (ord[c] : Nat)] 3)) (ext o w.heap.size 0) := ((Upd.start o nothing w 0).drewN 1).alloc _
  have h1 := h.keep u1 (by unfold nothing; exact id) (by unfold nothing; exact id)
  have hb : (w.drew.alloc (.cells #[.int .i64 (ord[c] : Nat)] 3)).heap[w.heap.size]? = some (.cells #[.int .i64 (ord[c] : Nat)] 3 (0, 0)) := heap_alloc_new w.drew _
  have fr := pfree_any (ext o w.heap.size 0) ap n ord[c] w.heap.size (ord.eraseIdx c) _ (h1.ar.perm hp) hni hkn hn hb
  have FR := Lib.hid (show Calls Tryz.prog 194 #[.pointer (some ⟨ap, 0, none⟩), .slice (some ⟨w.heap.size, 0, none⟩) 1 1] (w.drew.alloc (.cells #[.int .i64 (ord[c] : Nat)] 3)) fun e w2 => e = .returned (.int .i64 0) ∧ ∃ o2, (No5 o → No5 o2) ∧ Upd o (fun x => x = 9 ∨ x = 7) w w2 o2 ∧ IsP0 w2 o2 pb ap lv (.slice (some ⟨ob, 0, none⟩) ord.length oc) rf pf n ord rows places ∧ IsFree w2 o2 ap n (ord.eraseIdx c) ∧ GC pb ap ob c ord[c] (.slice (some ⟨ob, 0, none⟩) ord.length oc) w2 from fr.mono (by
    rintro e w2 ⟨rfl, u2, f2⟩
    have p2 := h1.p0.keep u2 (by omega)
    exact ⟨rfl, _, fun h5 => ext_no5 (ext_no5 h5 _ (by omega)) _ (by omega), (u1.mono (fun _ h => h.elim)).trans u2 (fun _ h => .inr h), p2, f2, p2.c0, p2.c2, owns_cell p2.od.1 c _ (intsV_get ord c hc)⟩))
  have F0 := Lib.hid (show GC pb ap ob c ord[c] (.slice (some ⟨ob, 0, none⟩) ord.length oc) w from ⟨h.c0, h.c2, owns_cell h.od.1 c _ (intsV_get ord c hc)⟩)
  have DL := Lib.hid (fun w hw => del_any w ob oc c ord hw hc)
  have H := Lib.hid h
  have hc1 : c < 1000 := by omega
  clear h1 fr hb u1 h hp hni hk hkn
  generalize ord[c] = k at FR F0
  go_enter Tryz.func143, Tryz.ntmps143
  go_wp2_with fail
  go_region_held3 (fun wz => wz.cell? ⟨pb, 0, none⟩ = some (.pointer (some ⟨ap, 0, none⟩)) ∧ wz.cell? ⟨pb, 2, none⟩ = some (.slice (some ⟨ob, 0, none⟩) ord.length oc) ∧ wz.cell? ⟨ob, c, none⟩ = some (.int .i64 k)) (first | exact F0.out | exact F0.out.alloc _ | exact F2.out) (first | (go_at_call 194; refine FR.out.mono ?_; rintro e w2 ⟨rfl, o2, n2, u2, p2, f2, g2⟩; have F2 := Lib.hid g2; have N2 := Lib.hid n2; have U2 := Lib.hid u2; have P2 := Lib.hid p2; have R2 := Lib.hid f2; clear n2 u2 p2 f2 g2))
  have d2 := P2.out.c2
  have D2 := Lib.hid (DL.out w2 P2.out.od.1)
  push_cast at D2
  have GT := Lib.hid (fun w3 => gone_tail (w3 := w3) H.out hc U2.out P2.out R2.out)
  go_wp2_with fail
  refine D2.out.mono ?_
  rintro e w3 ⟨rfl, hg, hr⟩
  obtain ⟨e3, f3, u3, p3⟩ := GT.out w3 hg hr
  have U3 := Lib.hid u3
  have P3 := Lib.hid p3
  clear u3 p3 hg hr
  go_wp2_with fail
  go_end0
  exact ⟨rfl, o2, _, N2.out, U3.out, P3.out⟩
end Go.Proofs.YtnadgcgnediakaaGreatDoor
namespace Go.Proofs.YtnadgcgnediakaaGreatDoor
open Go.ChangeShapes Go.WideShapes Go.ChangeAt Go.RowKit Go.Deep

theorem mem_erase_nodup {ord : List Nat} (nd : ord.Nodup) {c : Nat} (hc : c < ord.length) (k : Nat) : k ∈ ord.eraseIdx c ↔ k ∈ ord ∧ k ≠ ord[c] := by
  have hp : (ord[c] :: ord.eraseIdx c).Perm ord := by
    rw [List.eraseIdx_eq_take_drop_succ]
    conv => rhs; rw [← List.take_append_drop c ord, List.drop_eq_getElem_cons hc]
    exact List.perm_middle.symm
  have hni : ord[c] ∉ ord.eraseIdx c := (List.nodup_cons.1 (hp.nodup_iff.2 nd)).1
  constructor
  · intro h
    exact ⟨hp.mem_iff.1 (List.mem_cons_of_mem _ h), fun e => hni (e ▸ h)⟩
  · rintro ⟨h, hne⟩
    rcases List.mem_cons.1 (hp.mem_iff.2 h) with e | h
    · exact absurd e hne
    · exact h

theorem pdrop_any (o : Nat → Nat) (pb ap : Nat) (lv ov : Value) (rf pf : Nat → Nat) (n : Nat) (ord : List Nat) (rows places row : Nat) (w : World) (h : IsPB w o pb ap lv ov rf pf n ord rows places) (hs : ord.Pairwise fun a b => rf a < rf b) (hn : n < 1000) :
    Calls Tryz.prog 140 #[.pointer (some ⟨pb, 0, none⟩), .int .i64 row] w fun e w' => ∃ v, e = .returned v ∧ ∃ o' ov' ord', (No5 o → No5 o') ∧ Upd o (fun x => x = 9 ∨ x = 7) w w' o' ∧ IsPB w' o' pb ap lv ov' rf pf n ord' rows places ∧ ord'.Sublist ord ∧ ∀ k, k ∈ ord' ↔ k ∈ ord ∧ rf k ≠ row := by
  have PA := pat_any o pb ap lv ov rf pf n ord rows places row w h hs hn
  have PG := Lib.hid (fun w1 o1 (h1 : IsPB w1 o1 pb ap lv ov rf pf n ord rows places) c hc => pgone_any o1 pb ap lv ov rf pf n c ord rows places w1 h1 hc hn)
  have H := Lib.hid h
  have FS := Lib.hid (found_spec hs row)
  rcases FS.out with ⟨hc, h1, h2⟩ | ⟨h1, h2⟩
  · have hm : ∀ k, k ∈ ord.eraseIdx (cntB ord rf row) ↔ k ∈ ord ∧ rf k ≠ row := fun k => by
      rw [mem_erase_nodup h.nd hc]
      constructor
      · rintro ⟨q1, q2⟩
        refine ⟨q1, fun e => q2 ?_⟩
        obtain ⟨i, hi, rfl⟩ := List.getElem_of_mem q1
        rcases Nat.lt_trichotomy i (cntB ord rf row) with hl | rfl | hl
        · have := List.pairwise_iff_getElem.1 hs i _ hi hc hl
          omega
        · rfl
        · have := List.pairwise_iff_getElem.1 hs _ i hc hi hl
          omega
      · rintro ⟨q1, q2⟩
        exact ⟨q1, fun e => q2 (by rw [e]; exact h1)⟩
    have HM := Lib.hid hm
    rw [h2] at PA
    have PAH := Lib.hid PA
    generalize cntB ord rf row = c at PAH HM hc
    clear PA h hs hm h1 h2 FS
    go_enter Tryz.func140, Tryz.ntmps140
    go_wp2_with fail
    refine PAH.out.mono ?_
    rintro e w1 ⟨rfl, u1⟩
    have h1 := H.out.keep u1 (by unfold nothing; exact id) (by unfold nothing; exact id)
    have G1 := Lib.hid (PG.out w1 _ h1 c hc)
    have U1 := Lib.hid u1
    clear u1 h1
    go_wp2_with fail
    refine G1.out.mono ?_
    rintro e w2 ⟨rfl, o2, ov2, n2, u2, p2⟩
    have N2 := Lib.hid n2
    have U2 := Lib.hid u2
    have P2 := Lib.hid p2
    clear n2 u2 p2
    go_wp2_with fail
    go_ret
    exact ⟨_, rfl, o2, ov2, _, fun h5 => N2.out (ext_no5 h5 _ (by omega)), (U1.out.mono (fun _ h => h.elim)).trans U2.out (fun _ h => h), P2.out, List.eraseIdx_sublist _ _, HM.out⟩
  · have hm : ∀ k, k ∈ ord ↔ k ∈ ord ∧ rf k ≠ row := fun k => ⟨fun q => ⟨q, h1 k q⟩, fun q => q.1⟩
    have HM := Lib.hid hm
    rw [h2] at PA
    have PAH := Lib.hid PA
    clear PA h hs hm h1 h2 FS
    go_enter Tryz.func140, Tryz.ntmps140
    go_wp2_with fail
    refine PAH.out.mono ?_
    rintro e w1 ⟨rfl, u1⟩
    have h1 := H.out.keep u1 (by unfold nothing; exact id) (by unfold nothing; exact id)
    have P1 := Lib.hid h1
    have U1 := Lib.hid u1
    clear u1 h1
    go_wp2_with fail
    go_ret
    exact ⟨_, rfl, _, ov, ord, fun h5 => ext_no5 h5 _ (by omega), U1.out.mono (fun _ h => h.elim), P1.out, List.Sublist.refl _, HM.out⟩
end Go.Proofs.YtnadgcgnediakaaGreatDoor
namespace Go.Proofs.YtnadgcgnediakaaGreatDoor
open Go.ChangeShapes Go.WideShapes Go.ChangeAt Go.RowKit Go.Deep

theorem prowout_key (o2 : Nat → Nat) (pb ap cb : Nat) (lv ov : Value) (rf pf : Nat → Nat) (n : Nat) (ord : List Nat) (rows places row r : Nat) (w2 : World) (h : IsPB w2 o2 pb ap lv ov rf pf n ord rows places) (hn : n < 1000) (hcb : w2.cell? ⟨cb, 0, none⟩ = some (.int .i64 row)) (hoc : o2 cb = 0) (hb : ∀ k, k ∈ ord → rf k < 1000) :
    Calls Tryz.prog 141 #[.pointer (some ⟨pb, 0, none⟩), .func (.func 142) #[] #[.pointer (some ⟨cb, 0, none⟩)]] (w2.setCell ⟨pb, 3, none⟩ (.int .i64 (r : Nat))) fun e w' => e = .returned (.tuple #[]) ∧ Upd o2 (· = 9) w2 w' o2 ∧
      ∃ rf' pf', IsPB w' o2 pb ap lv ov rf' pf' n ord r places ∧ ∀ k, k ∈ ord → rf' k = Wd.outr (rf k) row ∧ pf' k = pf k := by
  have h2 := h.setRows r
  have hcp : cb ≠ pb := fun e => by have := h.ob; rw [← e, hoc] at this; omega
  have hcb2 : (w2.setCell ⟨pb, 3, none⟩ (.int .i64 (r : Nat))).cell? ⟨cb, 0, none⟩ = some (.int .i64 row) := by
    rw [World.cell?_of_block (w := w2) (Below.heap_setCell _ _ _ _ hcp)]
    exact hcb
  have u2 : Upd o2 (· = 9) w2 (w2.setCell ⟨pb, 3, none⟩ (.int .i64 (r : Nat))) o2 := (Upd.refl o2 (· = 9) w2).set (a := ⟨pb, 3, none⟩) (.int .i64 (r : Nat)) (.inr h.ob)
  have eg : ∀ (args : Array Value) (wx : World), (callFunc 142 args).run Tryz.prog wx = .ok (.enter 142 args) wx := Go.Proofs.enters_of Tryz.func142 (by kernel_rfl) rfl
  have hln := h.ln
  by_cases hne : ord = []
  · subst hne
    obtain ⟨oa, oc, hov⟩ := own_shape h.od.1
    simp only [List.length_nil] at hov
    subst hov
    refine (peach_none _ pb oa oc _ h2.c2).mono ?_
    rintro e w' ⟨rfl, rfl⟩
    exact ⟨rfl, u2, rf, pf, h2, by simp⟩
  · have hpos : 0 < ord.length := List.length_pos_iff.2 hne
    obtain ⟨lb, lc, hlv, _, hlb⟩ := own_form h.ls.1 (by omega)
    subst hlv
    have hne2 : cb ≠ lb := fun e => by have := h.ls.2 lb rfl; rw [← e, hoc] at this; omega
    refine (peach_any 142 #[.pointer (some ⟨cb, 0, none⟩)] (fun W => W.cell? ⟨cb, 0, none⟩ = some (.int .i64 row)) (fun r => Wd.outr r row) id (fun r _ => r < 1000) _ pb ap lb lc ov rf pf n ord r places _ eg
      (fun W rf pf k hk hW hc hb => rowout1_any cb row lb lc n W rf pf k hk hW hc hb) (fun W W' hO hc => by rw [World.cell?_of_block (w := W) (hO.same _ hne2)]; exact hc) hcb2 hb h2 hn (by omega)).mono ?_
    rintro e w' ⟨rfl, o3, ls⟩
    refine ⟨rfl, u2.only o3 (.inr ?_), _, _, h2.each o3 ls, fun k hk => ⟨?_, ?_⟩⟩
    · exact h.ls.2 lb rfl
    · rw [eachF_all _ _ _ _ (Nat.le_refl _) k hk]
    · rw [eachF_all _ _ _ _ (Nat.le_refl _) k hk]; rfl
theorem pposout_key (o2 : Nat → Nat) (pb ap cb : Nat) (lv ov : Value) (rf pf : Nat → Nat) (n : Nat) (ord : List Nat) (rows places row r : Nat) (w2 : World) (h : IsPB w2 o2 pb ap lv ov rf pf n ord rows places) (hn : n < 1000) (hcb : w2.cell? ⟨cb, 0, none⟩ = some (.int .i64 row)) (hoc : o2 cb = 0) (hb : ∀ k, k ∈ ord → pf k < 1000) :
    Calls Tryz.prog 141 #[.pointer (some ⟨pb, 0, none⟩), .func (.func 144) #[] #[.pointer (some ⟨cb, 0, none⟩)]] (w2.setCell ⟨pb, 4, none⟩ (.int .i64 (r : Nat))) fun e w' => e = .returned (.tuple #[]) ∧ Upd o2 (· = 9) w2 w' o2 ∧
      ∃ rf' pf', IsPB w' o2 pb ap lv ov rf' pf' n ord rows r ∧ ∀ k, k ∈ ord → rf' k = rf k ∧ pf' k = Wd.outr (pf k) row := by
  have h2 := h.setPlaces r
  have hcp : cb ≠ pb := fun e => by have := h.ob; rw [← e, hoc] at this; omega
  have hcb2 : (w2.setCell ⟨pb, 4, none⟩ (.int .i64 (r : Nat))).cell? ⟨cb, 0, none⟩ = some (.int .i64 row) := by
    rw [World.cell?_of_block (w := w2) (Below.heap_setCell _ _ _ _ hcp)]
    exact hcb
  have u2 : Upd o2 (· = 9) w2 (w2.setCell ⟨pb, 4, none⟩ (.int .i64 (r : Nat))) o2 := (Upd.refl o2 (· = 9) w2).set (a := ⟨pb, 4, none⟩) (.int .i64 (r : Nat)) (.inr h.ob)
  have eg : ∀ (args : Array Value) (wx : World), (callFunc 144 args).run Tryz.prog wx = .ok (.enter 144 args) wx := Go.Proofs.enters_of Tryz.func144 (by kernel_rfl) rfl
  have hln := h.ln
  by_cases hne : ord = []
  · subst hne
    obtain ⟨oa, oc, hov⟩ := own_shape h.od.1
    simp only [List.length_nil] at hov
    subst hov
    refine (peach_none _ pb oa oc _ h2.c2).mono ?_
    rintro e w' ⟨rfl, rfl⟩
    exact ⟨rfl, u2, rf, pf, h2, by simp⟩
  · have hpos : 0 < ord.length := List.length_pos_iff.2 hne
    obtain ⟨lb, lc, hlv, _, hlb⟩ := own_form h.ls.1 (by omega)
    subst hlv
    have hne2 : cb ≠ lb := fun e => by have := h.ls.2 lb rfl; rw [← e, hoc] at this; omega
    refine (peach_any 144 #[.pointer (some ⟨cb, 0, none⟩)] (fun W => W.cell? ⟨cb, 0, none⟩ = some (.int .i64 row)) id (fun r => Wd.outr r row) (fun _ r => r < 1000) _ pb ap lb lc ov rf pf n ord rows r _ eg
      (fun W rf pf k hk hW hc hb => posout1_any cb row lb lc n W rf pf k hk hW hc hb) (fun W W' hO hc => by rw [World.cell?_of_block (w := W) (hO.same _ hne2)]; exact hc) hcb2 hb h2 hn (by omega)).mono ?_
    rintro e w' ⟨rfl, o3, ls⟩
    refine ⟨rfl, u2.only o3 (.inr ?_), _, _, h2.each o3 ls, fun k hk => ⟨?_, ?_⟩⟩
    · exact h.ls.2 lb rfl
    · rw [eachF_all _ _ _ _ (Nat.le_refl _) k hk]; rfl
    · rw [eachF_all _ _ _ _ (Nat.le_refl _) k hk]
theorem prowout_any (o : Nat → Nat) (pb ap : Nat) (lv ov : Value) (rf pf : Nat → Nat) (n : Nat) (ord : List Nat) (rows places row : Nat) (w : World) (h : IsPB w o pb ap lv ov rf pf n ord rows places) (hs : ord.Pairwise fun a b => rf a < rf b) (hn : n < 1000) (hr : row < rows) (hR : rows < 1000) (hb : ∀ k, k ∈ ord → rf k < 1000) :
    Calls Tryz.prog 83 #[.pointer (some ⟨pb, 0, none⟩), .int .i64 row] w fun e w' => e = .returned (.int .i64 0) ∧ ∃ o' ov' ord' rf' pf', (No5 o → No5 o') ∧ Upd o (fun x => x = 9 ∨ x = 7) w w' o' ∧ IsPB w' o' pb ap lv ov' rf' pf' n ord' (rows - 1) places ∧
      ord'.Sublist ord ∧ (∀ k, k ∈ ord' ↔ k ∈ ord ∧ rf k ≠ row) ∧ ∀ k, k ∈ ord' → rf' k = Wd.outr (rf k) row ∧ pf' k = pf k := by
  have hpl := lt_of_block h.c
  have key : ∀ q, Calls Tryz.prog 140 #[.pointer (some ⟨pb, 0, none⟩), .int .i64 row] ((w.alloc (.cells #[.int .i64 row] 3)).drewN q) fun e w' => ∃ v, e = .returned v ∧ ∃ o' ov' ord', (No5 o → No5 o') ∧ Upd o (fun x => x = 9 ∨ x = 7) w w' o' ∧ IsPB w' o' pb ap lv ov' rf pf n ord' rows places ∧
      ord'.Sublist ord ∧ (∀ k, k ∈ ord' ↔ k ∈ ord ∧ rf k ≠ row) ∧ w'.cell? ⟨w.heap.size, 0, none⟩ = some (.int .i64 row) ∧ o' w.heap.size = 0 := by
    intro q
    have u1 : Upd o nothing w ((w.alloc (.cells #[.int .i64 row] 3)).drewN q) (ext o w.heap.size 0) := ((Upd.start o _ w 0).alloc _).drewN q
    have h1 := h.keep u1 (by unfold nothing; exact id) (by unfold nothing; exact id)
    have hcb : ((w.alloc (.cells #[.int .i64 row] 3)).drewN q).heap[w.heap.size]? = some (.cells #[.int .i64 row] 3 (0, 0)) := heap_alloc_new w _
    refine (pdrop_any _ pb ap lv ov rf pf n ord rows places row _ h1 hs hn).mono ?_
    rintro e w2 ⟨v, rfl, o2, ov2, ord2, n2, u2, p2, sl, hm⟩
    have k2 := u2.heap hcb (by rw [ext_new (Nat.le_refl _)]; omega)
    exact ⟨v, rfl, o2, ov2, ord2, fun h5 => n2 (ext_no5 h5 _ (by omega)), (u1.mono (fun _ h => h.elim)).trans u2 (fun _ h => h), p2, sl, hm, by rw [Joins.cell_of_block k2.1]; rfl, k2.2.trans (ext_new (Nat.le_refl _))⟩
  have K := Lib.hid key
  have c3 := h.c3
  have HB := Lib.hid hb
  have hrz : (row : Int) < (rows : Int) := by omega
  have t0 : decide (rows ≤ row) = false := decide_eq_false (by omega)
  have er : (rows : Int) - 1 = ((rows - 1 : Nat) : Int) := by omega
  clear key h hb hs
  go_enter Tryz.func83, Tryz.ntmps83
  go_wp2_with fail
  go_quiet (fail)
  go_wp2_with fail
  refine (K.out nq).mono ?_
  rintro e w2 ⟨v, rfl, o2, ov2, ord2, n2, u2, p2, sl, hm, k2, q2⟩
  have KK := Lib.hid (prowout_key o2 pb ap w.heap.size lv ov2 rf pf n ord2 rows places row (rows - 1) w2 p2 hn k2 q2 (fun k hk => HB.out k ((hm k).1 hk).1))
  have d3 := p2.c3
  have g3 := p2.f 3
  have N2 := Lib.hid n2
  have U2 := Lib.hid u2
  have S2 := Lib.hid sl
  have M2 := Lib.hid hm
  clear n2 u2 p2 sl hm k2 q2
  go_wp2_with fail
  refine KK.out.mono ?_
  rintro e w3 ⟨rfl, u3, rf', pf', p3, h3⟩
  have U3 := Lib.hid u3
  have P3 := Lib.hid p3
  have H3 := Lib.hid h3
  clear u3 p3 h3
  go_wp2_with fail
  go_ret
  exact ⟨rfl, o2, ov2, ord2, rf', pf', N2.out, U2.out.trans U3.out (fun _ h => .inl h), P3.out, S2.out, M2.out, H3.out⟩
theorem pposout_any (o : Nat → Nat) (pb ap : Nat) (lv ov : Value) (rf pf : Nat → Nat) (n : Nat) (ord : List Nat) (rows places pos : Nat) (w : World) (h : IsPB w o pb ap lv ov rf pf n ord rows places) (hn : n < 1000) (hr : pos < places) (hR : places < 1000) (hb : ∀ k, k ∈ ord → pf k < 1000) (hi : ∀ a ∈ ord, ∀ b ∈ ord, pf a = pf b → a = b) :
    Calls Tryz.prog 84 #[.pointer (some ⟨pb, 0, none⟩), .int .i64 pos] w fun e w' => e = .returned (.int .i64 0) ∧ ∃ o' ov' ord' rf' pf', (No5 o → No5 o') ∧ Upd o (fun x => x = 9 ∨ x = 7) w w' o' ∧ IsPB w' o' pb ap lv ov' rf' pf' n ord' rows (places - 1) ∧
      ord'.Sublist ord ∧ (∀ k, k ∈ ord' ↔ k ∈ ord ∧ pf k ≠ pos) ∧ ∀ k, k ∈ ord' → rf' k = rf k ∧ pf' k = Wd.outr (pf k) pos := by
  have hpl := lt_of_block h.c
  have hln := h.ln
  have key : ∀ q, Calls Tryz.prog 74 #[.pointer (some ⟨pb, 0, none⟩), .int .i64 pos] ((w.alloc (.cells #[.int .i64 pos] 3)).drewN q) fun e w1 => e = .returned (.int .i64 (hasB ord pf pos)) ∧ ∃ o1, (No5 o → No5 o1) ∧ Upd o (fun x => x = 9 ∨ x = 7) w w1 o1 ∧ IsPB w1 o1 pb ap lv ov rf pf n ord rows places ∧
      w1.heap[w.heap.size]? = some (.cells #[.int .i64 pos] 3 (0, 0)) ∧ o1 w.heap.size = 0 := by
    intro q
    have u1 : Upd o nothing w ((w.alloc (.cells #[.int .i64 pos] 3)).drewN q) (ext o w.heap.size 0) := ((Upd.start o _ w 0).alloc _).drewN q
    have h1 := h.keep u1 (by unfold nothing; exact id) (by unfold nothing; exact id)
    have hcb : ((w.alloc (.cells #[.int .i64 pos] 3)).drewN q).heap[w.heap.size]? = some (.cells #[.int .i64 pos] 3 (0, 0)) := heap_alloc_new w _
    refine (phas_any _ pb ap lv ov rf pf n ord rows places pos _ h1 hn).mono ?_
    rintro e w1 ⟨rfl, u2⟩
    have k2 := u2.heap hcb (by unfold nothing; exact id)
    exact ⟨rfl, _, fun h5 => ext_no5 (ext_no5 h5 _ (by omega)) _ (by omega), (u1.mono (fun _ h => h.elim)).trans u2 (fun _ h => h.elim), h1.keep u2 (by unfold nothing; exact id) (by unfold nothing; exact id), k2.1, k2.2.trans (ext_new (Nat.le_refl _))⟩
  have PG := Lib.hid (fun w1 o1 (h1 : IsPB w1 o1 pb ap lv ov rf pf n ord rows places) c hc => pgone_any o1 pb ap lv ov rf pf n c ord rows places w1 h1 hc hn)
  have ND := Lib.hid h.nd
  have c3 := h.c4
  have HB := Lib.hid hb
  have HI := Lib.hid hi
  have hrz : (pos : Int) < (places : Int) := by omega
  have t0 : decide (places ≤ pos) = false := decide_eq_false (by omega)
  have er : (places : Int) - 1 = ((places - 1 : Nat) : Int) := by omega
  rcases has_spec ord pf pos with ⟨j, hj, h1, h2⟩ | ⟨h1, h2⟩
  · rw [h1] at key
    have hm : ∀ k, k ∈ ord.eraseIdx j ↔ k ∈ ord ∧ pf k ≠ pos := fun k => by
      rw [mem_erase_nodup h.nd hj]
      constructor
      · rintro ⟨q1, q2⟩
        exact ⟨q1, fun e => q2 (hi k q1 _ (List.getElem_mem hj) (e.trans h2.symm))⟩
      · rintro ⟨q1, q2⟩
        exact ⟨q1, fun e => q2 (by rw [e]; exact h2)⟩
    have HM := Lib.hid hm
    have K := Lib.hid key
    have tj : decide ((0 : Int) ≤ (j : Int)) = true := decide_eq_true (by omega)
    clear key h hb hi h1 h2 hm
    go_enter Tryz.func84, Tryz.ntmps84
    go_wp2_with fail
    go_quiet (fail)
    go_wp2_with fail
    refine (K.out nq).mono ?_
    rintro e w1 ⟨rfl, o1, n1, u1, p1, k1, q1⟩
    have G1 := Lib.hid (PG.out w1 o1 p1 j hj)
    have N1 := Lib.hid n1
    have U1 := Lib.hid u1
    have K1 := Lib.hid k1
    have Q1 := Lib.hid q1
    clear n1 u1 p1 k1 q1
    go_wp2_with fail
    refine G1.out.mono ?_
    rintro e w2 ⟨rfl, o2, ov2, n2, u2, p2⟩
    have k2 := u2.heap K1.out (by rw [Q1.out]; omega)
    have KK := Lib.hid (pposout_key o2 pb ap w.heap.size lv ov2 rf pf n _ rows places pos (places - 1) w2 p2 hn (by rw [Joins.cell_of_block k2.1]; rfl) (k2.2.trans Q1.out) (fun k hk => HB.out k ((HM.out k).1 hk).1))
    have d3 := p2.c4
    have g3 := p2.f 4
    have N2 := Lib.hid n2
    have U2 := Lib.hid u2
    clear n2 u2 p2 k2
    go_wp2_with fail
    refine KK.out.mono ?_
    rintro e w3 ⟨rfl, u3, rf', pf', p3, h3⟩
    have U3 := Lib.hid u3
    have P3 := Lib.hid p3
    have H3 := Lib.hid h3
    clear u3 p3 h3
    go_wp2_with fail
    go_ret
    exact ⟨rfl, o2, ov2, _, rf', pf', fun h5 => N2.out (N1.out h5), (U1.out.trans U2.out (fun _ h => h)).trans U3.out (fun _ h => .inl h), P3.out, List.eraseIdx_sublist _ _, HM.out, H3.out⟩
  · rw [h2] at key
    have hm : ∀ k, k ∈ ord ↔ k ∈ ord ∧ pf k ≠ pos := fun k => ⟨fun q => ⟨q, h1 k q⟩, fun q => q.1⟩
    have HM := Lib.hid hm
    have K := Lib.hid key
    clear key h hb hi h1 h2 hm
    go_enter Tryz.func84, Tryz.ntmps84
    go_wp2_with fail
    go_quiet (fail)
    go_wp2_with fail
    refine (K.out nq).mono ?_
    rintro e w2 ⟨rfl, o2, n2, u2, p2, k2, q2⟩
    have KK := Lib.hid (pposout_key o2 pb ap w.heap.size lv ov rf pf n _ rows places pos (places - 1) w2 p2 hn (by rw [Joins.cell_of_block k2]; rfl) q2 (fun k hk => HB.out k hk))
    have d3 := p2.c4
    have g3 := p2.f 4
    have N2 := Lib.hid n2
    have U2 := Lib.hid u2
    clear n2 u2 p2 k2 q2
    go_wp2_with fail
    refine KK.out.mono ?_
    rintro e w3 ⟨rfl, u3, rf', pf', p3, h3⟩
    have U3 := Lib.hid u3
    have P3 := Lib.hid p3
    have H3 := Lib.hid h3
    clear u3 p3 h3
    go_wp2_with fail
    go_ret
    exact ⟨rfl, o2, ov, ord, rf', pf', N2.out, U2.out.trans U3.out (fun _ h => .inl h), P3.out, List.Sublist.refl _, HM.out, H3.out⟩
end Go.Proofs.YtnadgcgnediakaaGreatDoor
namespace Go.Proofs.YtnadgcgnediakaaGreatDoor
open Go.ChangeShapes Go.WideShapes Go.ChangeAt Go.RowKit Go.Deep

theorem Wd.bkp_outr {at_ p : Nat} (h : p ≠ at_) : Wd.bkp at_ (Wd.outr p at_) = p := by
  unfold Wd.bkp Wd.outr
  by_cases h1 : at_ < p
  · rw [if_pos h1, if_neg (by omega)]; omega
  · rw [if_neg h1, if_pos (by omega)]
theorem Wd.outr_bkp (at_ p : Nat) : Wd.outr (Wd.bkp at_ p) at_ = p := by
  unfold Wd.bkp Wd.outr
  by_cases h1 : p < at_
  · rw [if_pos h1, if_neg (by omega)]
  · rw [if_neg h1, if_pos (by omega)]; omega
theorem Wd.outS_bkp (S : Nat → Bool) (at_ p : Nat) : Wd.outS S at_ p = S (Wd.bkp at_ p) := by unfold Wd.outS Wd.bkp; split <;> rfl
section
variable {w : World} {o : Nat → Nat} {pb N : Nat} {ix : Nat → Nat} {S : Nat → Bool}
theorem prowout_s (h : IsPerm w o pb (N + 1) ix S) (hr : Wd.Rows (N + 1) ix) (hN : N ≤ 128) (at_ : Nat) (ha : at_ ≤ N) :
    Calls Tryz.prog 83 #[.pointer (some ⟨pb, 0, none⟩), .int .i64 (ix at_)] w fun e w' => e = .returned (.int .i64 0) ∧ ∃ o', (No5 o → No5 o') ∧ Upd o (fun x => x = 9 ∨ x = 7) w w' o' ∧
      ∀ wx oz, Upd o' (fun _ => False) w' wx oz → Calls Tryz.prog 84 #[.pointer (some ⟨pb, 0, none⟩), .int .i64 at_] wx fun e w2 => e = .returned (.int .i64 0) ∧ ∃ o2, (No5 oz → No5 o2) ∧ Upd oz (fun x => x = 9 ∨ x = 7) wx w2 o2 ∧ IsPerm w2 o2 pb N (Wd.ixOut ix at_) (Wd.outS S at_) := by
  obtain ⟨ap, lv, ov, rf, pf, n, ord, h1, h2⟩ := h
  have hn := h2.n
  have hix := hr.lt at_ (by omega)
  refine (prowout_any o pb ap lv ov rf pf n ord _ _ (ix at_) w h1 h2.s (by omega) (by omega) (by omega) (fun k hk => by rw [(h2.r k hk).2]; have := hr.lt _ (h2.r k hk).1; omega)).mono ?_
  rintro e w' ⟨rfl, o', ov', ord', rf', pf', n5, u, hb, sl, hm, he⟩
  refine ⟨rfl, o', n5, u, fun wx oz uz => ?_⟩
  have e0 : ∀ k, k ∈ ord' → k ∈ ord ∧ pf k ≠ at_ := fun k hk => ⟨((hm k).1 hk).1, fun e => ((hm k).1 hk).2 (by rw [(h2.r k ((hm k).1 hk).1).2, e])⟩
  refine (pposout_any oz pb ap lv ov' rf' pf' n ord' _ _ at_ wx (hb.keep uz (by simp) (by simp)) (by omega) (by omega) (by omega) (fun k hk => by rw [(he k hk).2]; have := (h2.r k (e0 k hk).1).1; omega) (fun a q1 b q2 q3 => h2.inj a (e0 a q1).1 b (e0 b q2).1 (by rw [(he a q1).2, (he b q2).2] at q3; exact q3))).mono ?_
  rintro e w2 ⟨rfl, o2, ov2, ord2, rf2, pf2, n52, u2, hb2, sl2, hm2, he2⟩
  have m2 : ∀ k, k ∈ ord2 ↔ k ∈ ord ∧ pf k ≠ at_ := fun k => by
    rw [hm2 k]
    constructor
    · rintro ⟨q1, _⟩
      exact e0 k q1
    · rintro ⟨q1, q2⟩
      have hk : k ∈ ord' := (hm k).2 ⟨q1, fun e => q2 (hr.inj _ _ (h2.r k q1).1 (by omega) (by rw [← (h2.r k q1).2, e]))⟩
      exact ⟨hk, by rw [(he k hk).2]; exact q2⟩
  have e1 : ∀ k, k ∈ ord2 → rf2 k = Wd.outr (rf k) (ix at_) ∧ pf2 k = Wd.outr (pf k) at_ := fun k hk => by
    have hk' := ((hm2 k).1 hk).1
    exact ⟨by rw [(he2 k hk).1, (he k hk').1], by rw [(he2 k hk).2, (he k hk').2]⟩
  have ne : ∀ k, k ∈ ord2 → rf k ≠ ix at_ := fun k hk => ((hm k).1 ((hm2 k).1 hk).1).2
  refine ⟨rfl, o2, n52, u2, ap, lv, ov2, rf2, pf2, n, ord2, hb2, ⟨hn, ?_, fun k hk => ?_, fun p hp => ?_⟩⟩
  · exact (h2.s.sublist (sl2.trans sl)).imp_of_mem fun {a b} ha' hb' hab => by rw [(e1 a ha').1, (e1 b hb').1]; exact (Wd.outr_lt (ne a ha') (ne b hb')).2 hab
  · obtain ⟨q1, q2⟩ := e1 k hk
    obtain ⟨q3, q4⟩ := (m2 k).1 hk
    obtain ⟨r1, r2⟩ := h2.r k q3
    refine ⟨by rw [q2]; exact Wd.outr_le r1 (by omega) q4, ?_⟩
    rw [q1, q2, r2]
    unfold Wd.ixOut
    rw [Wd.bkp_outr q4]
  · rw [Wd.outS_bkp, h2.m _ (Wd.bkp_le hp)]
    constructor
    · rintro ⟨k, r1, r2⟩
      have hk := (m2 k).2 ⟨r1, by rw [r2]; exact Wd.bkp_ne _ _⟩
      exact ⟨k, hk, by rw [(e1 k hk).2, r2, Wd.outr_bkp]⟩
    · rintro ⟨k, r1, r2⟩
      obtain ⟨q3, q4⟩ := (m2 k).1 r1
      exact ⟨k, q3, by rw [← r2, (e1 k r1).2, Wd.bkp_outr q4]⟩
end
end Go.Proofs.YtnadgcgnediakaaGreatDoor
namespace Go.Proofs.YtnadgcgnediakaaGreatDoor
open Go.ChangeShapes Go.WideShapes Go.ChangeAt Go.RowKit Go.Deep

theorem IsTally.put {w : World} {g s : Nat} {C : Nat → Nat} {all : Nat} (h : IsTally w g C all) (hs : s < 257) (v u : Nat) :
    IsTally ((w.setCell ⟨g, s, none⟩ (.int .i64 (v : Nat))).setCell ⟨g, 257, none⟩ (.int .i64 (u : Nat))).drew g (fun i => if i = s then v else C i) u := by
  obtain ⟨cur, h1, h2, h3, h4⟩ := h.row
  refine ⟨(cur.setIfInBounds s (.int .i64 (v : Nat))).setIfInBounds 257 (.int .i64 (u : Nat)), ?_, by simpa using h2, fun i hi => ?_, ?_⟩
  · rw [heap_drew]
    exact Joins.block_setCell (Joins.block_setCell h1 _) _
  · rw [Array.getElem?_setIfInBounds_ne (by omega)]
    by_cases e : i = s
    · subst e
      rw [Array.getElem?_setIfInBounds_self_of_lt (by omega), if_pos rfl]
    · rw [Array.getElem?_setIfInBounds_ne (by omega), if_neg e]
      exact h3 i hi
  · rw [Array.getElem?_setIfInBounds_self_of_lt (by simp; omega)]

theorem tsub_any (g s : Nat) (C : Nat → Nat) (all : Nat) (w : World) (h : IsTally w g C (all + 1)) (hs : s < 257) (hC : C s < 1000) (hC0 : 0 < C s) (ha : all < 1000) :
    Calls Tryz.prog 139 #[.pointer (some ⟨g, 0, none⟩), .int .i64 s, .int .i64 (-1)] w fun e w' => e = .returned (.int .i64 0) ∧ Only g w w' ∧ IsTally w' g (fun i => if i = s then C s - 1 else C i) all := by
  have c := h.c s hs
  have a := h.a
  have f1 := h.f s
  have f2 := h.f 257
  have SI := Lib.hid (fun wx => sis_sym s hs wx)
  have H := Lib.hid (h.put hs (C s - 1) all)
  obtain ⟨m, hm⟩ : ∃ m, C s = m + 1 := ⟨C s - 1, by omega⟩
  rw [hm] at c H hC ⊢
  rw [show m + 1 - 1 = m from by omega] at H ⊢
  have e1 : (m : Int) + 1 + -1 = (m : Int) := by omega
  have e2 : (all : Int) + 1 + -1 = (all : Int) := by omega
  clear h hm hC0
  go_enter Tryz.func139, Tryz.ntmps139
  go_wp2_with (go_at_call 99; refine (SI.out _).mono ?_; rintro e w' ⟨rfl, rfl⟩)
  go_region
  all_goals go_wp2_with fail
  all_goals go_ret
  all_goals exact ⟨rfl, (((Only.refl g w).set s _).set 257 _).drew, H.out⟩
theorem ksub_any (o : Nat → Nat) (A : At) (L : List Nat) (C : Nat → Nat) (all s : Nat) (w : World) (h : IsWalk w o A L C (all + 1)) (hs : s < 257) (hC : C s < 1000) (hC0 : 0 < C s) (ha : all < 1000) :
    Calls Tryz.prog 82 #[.pointer (some ⟨A.wk, 0, none⟩), .int .i64 s, .int .i64 (-1)] w fun e w' => e = .returned (.tuple #[]) ∧ Upd o (· = 4) w w' o ∧ IsWalk w' o A L (fun i => if i = s then C s - 1 else C i) all := by
  have c1 := h.c1
  have TA := Lib.hid (tsub_any A.ty s C all w h.tally hs hC hC0 ha)
  have H := Lib.hid h
  clear h
  go_enter Tryz.func82, Tryz.ntmps82
  go_wp2_with fail
  refine TA.out.mono ?_
  rintro e w2 ⟨rfl, on, t2⟩
  have u2 : Upd o (· = 4) w w2 o := (Upd.refl o _ w).only on (.inr H.out.ot)
  have U2 := Lib.hid u2
  have T2 := Lib.hid t2
  clear on t2 u2
  go_wp2_with fail
  go_end0
  refine ⟨rfl, U2.out, ?_⟩
  obtain ⟨vis, wv⟩ := H.out.wave
  have k := U2.out.heap H.out.k (by rw [H.out.ok]; omega)
  exact ⟨k.1, H.out.ok, ⟨vis, ⟨wv.sh.keep U2.out (by omega) (by omega) (by omega), wv.sym⟩⟩, T2.out, H.out.ot, H.out.n5⟩
section
variable {o : Nat → Nat} {w wz : World} {A : At} {lb pb rate N : Nat} {s ix : Nat → Nat} {S : Nat → Bool} {L : List Nat} {C : Nat → Nat} {all : Nat}
theorem lsub_w (h : RdL o w A lb pb rate N ix S L C (all + 1) wz) (b : Nat) (hb : b < 257) (hC : C b < 1000) (hC0 : 0 < C b) (ha : all < 1000) : Calls Tryz.prog 82 #[.pointer (some ⟨A.wk, 0, none⟩), .int .i64 b, .int .i64 (-1)] wz fun e w' => e = .returned (.tuple #[]) ∧ RdL o w A lb pb rate N ix S L (fun i => if i = b then C b - 1 else C i) all w' := by
  obtain ⟨o', u, k⟩ := h
  refine (ksub_any o' A L C all b wz k.wk hb hC hC0 ha).mono ?_
  rintro e w' ⟨rfl, u2, k2⟩
  exact ⟨rfl, o', u.trans u2 (fun x hx => by unfold gl; omega), k.walked u2 (fun x hx => by omega) k2⟩
theorem lrowout_w (h : RdL o w A lb pb rate (N + 1) ix S L C all wz) (hr : Wd.Rows (N + 1) ix) (hN : N ≤ 128) (at_ : Nat) (ha : at_ ≤ N) : Calls Tryz.prog 83 #[.pointer (some ⟨pb, 0, none⟩), .int .i64 (ix at_)] wz fun e w' => e = .returned (.int .i64 0) ∧ w'.cell? ⟨lb, 1, none⟩ = some (.pointer (some ⟨pb, 0, none⟩)) ∧
    Calls Tryz.prog 84 #[.pointer (some ⟨pb, 0, none⟩), .int .i64 at_] w' fun e w2 => e = .returned (.int .i64 0) ∧ RdL o w A lb pb rate N (Wd.ixOut ix at_) (Wd.outS S at_) L C all w2 := by
  obtain ⟨o', u, k⟩ := h
  refine (prowout_s k.pm hr hN at_ ha).mono ?_
  rintro e w' ⟨rfl, o2, n2, u2, hx⟩
  obtain ⟨m, hl⟩ := k.l
  have kl := u2.heap hl (by rw [k.ol]; omega)
  refine ⟨rfl, by rw [Joins.cell_of_block kl.1]; rfl, ?_⟩
  refine (hx w' _ (Upd.refl _ _ _)).mono ?_
  rintro e w2 ⟨rfl, o3, n3, u3, pm⟩
  have u4 := u2.trans u3 (fun _ h => h)
  exact ⟨rfl, _, u.trans u4 (fun x hx => by unfold gl; omega), k.permed u4 (n3 (n2 k.n5)) (by omega) pm⟩
end
end Go.Proofs.YtnadgcgnediakaaGreatDoor
namespace Go.Proofs.YtnadgcgnediakaaGreatDoor
open Go.ChangeShapes Go.WideShapes Go.ChangeAt Go.RowKit Go.Deep

theorem lout_none (c : Nat) (w : World) : Calls Tryz.prog 86 #[.int .i64 (-1), .int .i64 c] w fun e w' => e = .returned (.int .i64 (-1)) ∧ w = w' := by
  go_enter Tryz.func86, Tryz.ntmps86
  go_wp2_with fail
  go_ret
  exact ⟨rfl, rfl⟩
section
variable {o : Nat → Nat} {w wz : World} {A : At} {lb pb rate N : Nat} {s ix : Nat → Nat} {S : Nat → Bool} {L : List Nat} {C : Nat → Nat} {all : Nat}
set_option maxRecDepth 20000 in
set_option maxHeartbeats 2000000 in
theorem ldelete_any (h : RdL o w A lb pb rate (N + 1) ix S L C (all + 1) wz) (ar : Arr (N + 1) s ix L C (all + 1)) (hc : Wd.Cons (N + 1) s ix) (hcov : Wd.Cov S (N + 1) rate) (hN : N ≤ 110) (hr1 : 1 ≤ rate) (hr2 : rate ≤ 64) (at_ : Nat) (ha : at_ ≤ N) :
    Calls Tryz.prog 39 #[.pointer (some ⟨lb, 0, none⟩), .int .i64 at_] wz fun e w' => e = .returned (.int .i64 0) ∧ ∃ ix' S' L' C', Arr N (Wd.sOut s at_) ix' L' C' all ∧ Wd.Cons N (Wd.sOut s at_) ix' ∧ Wd.Cov S' N rate ∧ RdL o w A lb pb rate N ix' S' L' C' all w' := by
  have hlen := ar.len
  have hk := ar.rows.lt at_ (by omega)
  have hn := ar.rows.lt (at_ + 1) (by omega)
  have hal := ar.al
  have hcl := fun i => ar.c_lt (show N + 1 < 900 by omega) i
  have hlk := ar.l_lt _ hk
  obtain ⟨arD, hsat, hCp⟩ := ar.del at_ ha
  have hsb := ar.sb at_ (by omega)
  have l1 : (L.eraseIdx (ix (at_ + 1))).length = N + 1 := by rw [List.length_eraseIdx_of_lt (by omega)]; omega
  have l2 : ((L.eraseIdx (ix (at_ + 1))).insertIdx (ix (at_ + 1)) (L.getD (ix at_) 0)).length = N + 2 := by rw [List.length_insertIdx_of_le_length (by omega)]; omega
  have reo : ∀ a : Int, (∀ e, at_ = e + 1 → a = (Wd.outr (ix e) (ix at_) : Nat)) → Reord N (Wd.sOut s at_) (Wd.ixOut ix at_) at_ (Wd.outr (ix (at_ + 1)) (ix at_)) a := by
    intro a he
    refine ⟨Wd.out_fst ar.rows hc ha, ?_⟩
    rcases Nat.eq_zero_or_pos at_ with h0 | h0
    · exact .inl ⟨h0, Wd.out_but ar.rows hc ha (Nat.le_refl _) (by unfold Wd.nx; rw [if_pos rfl, h0])⟩
    · obtain ⟨e, rfl⟩ : ∃ e, at_ = e + 1 := ⟨at_ - 1, by omega⟩
      refine .inr ⟨e, rfl, by omega, ?_, ?_, Wd.out_but ar.rows hc ha (by omega) (nx_lt (by omega))⟩
      · unfold Wd.ixOut Wd.bkp
        rw [if_neg (by omega)]
      · rw [he e rfl]
        unfold Wd.ixOut Wd.bkp
        rw [if_pos (by omega)]
  have LLn := Lib.hid (llen_any h hlen (by omega))
  have LAS := Lib.hid (lasks_any h at_ N ha)
  have LRW := Lib.hid (fun wy (hy : RdL o w A lb pb rate (N + 1) ix S L C (all + 1) wy) => lrow_any (wz := wy) hy ar hc (by omega) at_ (by omega))
  have LON := Lib.hid (fun wy (hy : RdL o w A lb pb rate (N + 1) ix S L C (all + 1) wy) => lon_w (wz := wy) hy ar hc (by omega) at_ (by omega))
  have LA := Lib.hid (fun wy (hy : RdL o w A lb pb rate (N + 1) ix S L C (all + 1) wy) (h0 : 0 < at_) => lahead_any (wz := wy) hy at_ (ix at_) h0 (by omega) (by omega) hcl)
  have LG1 := Lib.hid (fun wy (hy : RdL o w A lb pb rate (N + 1) ix S L C (all + 1) wy) => hsat ▸ lget_w (wz := wy) hy (ix (at_ + 1)) (by omega))
  have LG2 := Lib.hid (fun wy (hy : RdL o w A lb pb rate (N + 1) ix S L C (all + 1) wy) => lget_w (wz := wy) hy (ix at_) (by omega))
  have LC := Lib.hid (fun wy (hy : RdL o w A lb pb rate (N + 1) ix S L C (all + 1) wy) => lchange_w (wz := wy) hy (ix (at_ + 1)) (L.getD (ix at_) 0) (by omega) (by omega) hlk)
  have LCU := Lib.hid (fun wy (hy : RdL o w A lb pb rate (N + 1) ix S ((L.eraseIdx (ix (at_ + 1))).insertIdx (ix (at_ + 1)) (L.getD (ix at_) 0)) C (all + 1) wy) => lcut_w (wz := wy) hy (ix at_) (by omega) (by omega))
  have LCN := Lib.hid (fun L' wy (hy : RdL o w A lb pb rate (N + 1) ix S L' C (all + 1) wy) => lsub_w (wz := wy) hy (s at_) (by omega) (hcl _) hCp (by omega))
  have LRI := Lib.hid (fun L' C' wy (hy : RdL o w A lb pb rate (N + 1) ix S L' C' all wy) => lrowout_w (wz := wy) hy ar.rows (by omega) at_ ha)
  have LR := Lib.hid (fun wy hy a hre => lreorder_any (o := o) (w := w) (A := A) (lb := lb) (pb := pb) (rate := rate) (S := Wd.outS S at_) (wz := wy) hy arD (by omega) at_ (Wd.outr (ix (at_ + 1)) (ix at_)) a ha hre)
  have LF := Lib.hid (fun wy ix' L' (hy : RdL o w A lb pb rate N ix' (Wd.outS S at_) L' (fun i => if i = s at_ then C (s at_) - 1 else C i) all wy) ar' hc' => lfill_any (s := Wd.sOut s at_) (wz := wy) hy ar' hc' (by omega) hr1 hr2 at_ ha (Wd.out_edited hcov hr1 ha))
  have hah : ∀ e, at_ = e + 1 → backN L C (ix at_) = ix e := by
    intro e he
    have := ar.back_cons hc e (by omega)
    rw [nx_lt (by omega)] at this
    rw [he]
    exact this
  have RE := Lib.hid reo
  have HAH := Lib.hid hah
  have HIX := Lib.hid (fun e (he : e ≤ N) => ar.rows.lt e (by omega))
  have OU := Lib.hid (fun wy => lout_any (ix (at_ + 1)) (ix at_) (by omega) wy)
  clear h ar hc hcov arD reo hah hcl hlk hsat hCp hsb
  go_enter Tryz.func39, Tryz.ntmps39
  go_wp2_with (go_at_call 15; refine LLn.out.mono ?_; rintro e w' ⟨rfl, rfl⟩)
  refine LAS.out.mono ?_
  rintro e w1 ⟨rfl, r1⟩
  have R1 := Lib.hid (LRW.out w1 r1)
  clear r1
  go_wp2_with fail
  refine R1.out.mono ?_
  rintro e w2 ⟨rfl, r2⟩
  have d0 := r2.c0
  have O2 := Lib.hid (LON.out w2 r2)
  clear r2 R1
  generalize hcu : Wd.outr (ix (at_ + 1)) (ix at_) = cu at *
  generalize hold : L.getD (ix at_) 0 = old at *
  generalize hL1 : (L.eraseIdx (ix (at_ + 1))).insertIdx (ix (at_ + 1)) old = L1 at *
  generalize hsa : s at_ = sa at *
  generalize hnr : ix (at_ + 1) = nr at *
  clear hL1 hold hcu hsa hnr
  generalize hk2 : ix at_ = k at *
  have HK := Lib.hid hk2
  clear hk2 l1 l2 LRW LAS LLn
  go_wp2_with fail
  refine O2.out.mono ?_
  rintro e w3 ⟨rfl, r3⟩
  have AH : Calls Tryz.prog 78 #[.pointer (some ⟨lb, 0, none⟩), .int .i64 at_, .int .i64 k] w3 fun e w' => ∃ ah : Int, e = .returned (.int .i64 ah) ∧ RdL o w A lb pb rate (N + 1) ix S L C (all + 1) w' ∧
      ∀ wy, Calls Tryz.prog 86 #[.int .i64 ah, .int .i64 k] wy fun e w' => (∃ a : Int, e = .returned (.int .i64 a) ∧ Reord N (Wd.sOut s at_) (Wd.ixOut ix at_) at_ cu a) ∧ wy = w' := by
    rcases Nat.eq_zero_or_pos at_ with h0 | h0
    · have h1 := lahead_zero (lb := lb) (wz := w3) k
      rw [show (0 : Int) = (at_ : Int) by omega] at h1
      refine h1.mono ?_
      rintro e w' ⟨rfl, rfl⟩
      refine ⟨-1, rfl, r3, fun wy => (lout_none k wy).mono ?_⟩
      rintro e w' ⟨rfl, rfl⟩
      exact ⟨⟨-1, rfl, RE.out _ (fun e he => by omega)⟩, rfl⟩
    · obtain ⟨e, he⟩ : ∃ e, at_ = e + 1 := ⟨at_ - 1, by omega⟩
      have hb1 := HAH.out e he
      have hb2 := HIX.out e (by omega)
      refine (LA.out w3 r3 h0).mono ?_
      rintro e' w' ⟨rfl, r⟩
      refine ⟨_, rfl, r, fun wy => ?_⟩
      rw [hb1]
      refine (lout_any (ix e) k (by omega) wy).mono ?_
      rintro e' w' ⟨rfl, rfl⟩
      exact ⟨⟨_, rfl, RE.out _ (fun e2 he2 => by
        obtain rfl : e2 = e := by omega
        rfl)⟩, rfl⟩
  have AHH := Lib.hid AH
  clear AH r3 O2 d0 RE HAH HIX LA LON
  go_wp2_with fail
  refine AHH.out.mono ?_
  rintro e w4 ⟨ah, rfl, r4, hin⟩
  have IN := Lib.hid hin
  have d0 := r4.c0
  have k0 := r4.k0
  have C4 := Lib.hid (LG1.out w4 r4)
  clear r4 hin AHH LG1
  go_wp2_with fail
  refine C4.out.mono ?_
  rintro e w5 ⟨rfl, r5⟩
  have d0 := r5.c0
  have k0 := r5.k0
  have T5 := Lib.hid (LG2.out w5 r5)
  clear r5 C4 LG2
  go_wp2_with fail
  refine T5.out.mono ?_
  rintro e w6 ⟨rfl, r6⟩
  have d0 := r6.c0
  have P6 := Lib.hid (LC.out w6 r6)
  clear r6 T5 LC k0
  go_wp2_with fail
  refine P6.out.mono ?_
  rintro e w7 ⟨rfl, r7⟩
  have d0 := r7.c0
  have P7 := Lib.hid (LCU.out w7 r7)
  clear r7 P6 LCU
  go_wp2_with fail
  refine P7.out.mono ?_
  rintro e w8 ⟨rfl, r8⟩
  have d0 := r8.c0
  have P8 := Lib.hid (LCN.out _ w8 r8)
  clear r8 P7 LCN
  go_wp2_with fail
  refine P8.out.mono ?_
  rintro e w9 ⟨rfl, r9⟩
  have d1 := r9.c1
  have P9 := Lib.hid (LRI.out _ _ w9 r9)
  clear r9 P8 LRI d0
  go_wp2_with fail
  refine P9.out.mono ?_
  rintro e w10 ⟨rfl, d9, c9⟩
  have P10 := Lib.hid c9
  clear c9 P9 d1
  go_wp2_with fail
  refine P10.out.mono ?_
  rintro e w11 ⟨rfl, r11⟩
  have R11 := Lib.hid r11
  clear r11 P10 d9
  go_wp2_with (go_at_call 86; with_reducible refine (OU.out _).mono ?_; rintro e w' ⟨rfl, rfl⟩)
  refine (IN.out _).mono ?_
  rintro e w' ⟨⟨a, rfl, hre⟩, rfl⟩
  have P12 := Lib.hid (LR.out w11 R11.out a hre)
  clear hre IN LR
  go_wp2_with fail
  refine P12.out.mono ?_
  rintro e w12 ⟨rfl, ix', L', ar', hc', r12⟩
  have P13 := Lib.hid (LF.out w12 ix' L' r12 ar' hc')
  have AR := Lib.hid ar'
  have HC := Lib.hid hc'
  clear ar' hc' r12 P12 LF R11
  go_wp2_with fail
  refine P13.out.mono ?_
  rintro e w13 ⟨rfl, S', cov', r13⟩
  have R13 := Lib.hid r13
  have CV := Lib.hid cov'
  clear r13 cov' P13
  go_wp2_with fail
  go_ret
  exact ⟨rfl, ix', S', L', _, AR.out, HC.out, CV.out, R13.out⟩
end
end Go.Proofs.YtnadgcgnediakaaGreatDoor
