/- The walk of wave.Get. The walk of wave.Rank. The walk of wave.Insert. The walk of wave.Delete. -/
import Derived.Test.YtnadgcgnediakaaGreatDoorH11
import Derived.Deep.Cut
import Derived.Deep.RegionHeld3
import Derived.Deep.CutRange
import Derived.Deep.LoopGhost
namespace Go.Proofs.YtnadgcgnediakaaGreatDoor
open Go.ChangeShapes Go.WideShapes Go.ChangeAt Go.RowKit Go.Deep

/-- an owner's number for one new block -/
def own1 (o : Nat → Nat) (n d : Nat) : Nat → Nat := fun b => if b = n then d else ext o n 0 b
theorem own1_old {o : Nat → Nat} {n d b : Nat} (h : b < n) : own1 o n d b = o b := by unfold own1; rw [if_neg (by omega), ext_old h]
theorem own1_new (o : Nat → Nat) (n d : Nat) : own1 o n d n = d := by unfold own1; rw [if_pos rfl]
theorem own1_no5 {o : Nat → Nat} {n d : Nat} (h : No5 o) (hd : d ≠ 5) : No5 (own1 o n d) := by
  intro b
  unfold own1 ext
  split
  · exact hd
  · split
    · exact h b
    · omega

theorem WaveTop.cs {w : World} {wb n : Nat} {sh : Nat → Value} {vis : Int} (h : WaveTop w wb sh n vis) (i : Nat) (hi : i < 9) : w.cell? ⟨wb, i, none⟩ = some (sh i) := by
  refine nine (P := fun i => w.cell? ⟨wb, i, none⟩ = some (sh i)) i hi ?_ ?_ ?_ ?_ ?_ ?_ ?_ ?_ ?_ <;> (rw [Joins.cell_of_block h]; rfl)

/-- a shelf's own cells -/
abbrev shelfC (tb lv p : Nat) : Obj := .cells #[.pointer (some ⟨tb, 0, none⟩), .int .i64 lv, .int .i64 p] 155
/-- look, with Get's closure -/
theorem wlook_get (o : Nat → Nat) (wb n kb ki m q : Nat) (S sc : Nat → Nat) (tb : Nat → Nat → Nat) (B : Nat → Nat → List Bool) (vis : Int) (w : World) (h : IsSh w o wb n S sc tb B vis) (h5 : No5 o)
    (hm : m < 9) (hq : q < 2 ^ m) (hk : w.heap[kb]? = some (.cells #[.int .i64 ki] 3 (0, 0))) (ok : o kb = 6) (hlt : ki < (B m q).length) :
    Calls Tryz.prog 133 #[.pointer (some ⟨wb, 0, none⟩), shelfV (tb m q) m q, .func (.func 134) #[] #[.pointer (some ⟨kb, 0, none⟩), .pointer (some ⟨w.heap.size + 1, 0, none⟩)]] ((w.alloc (shelfC (tb m q) m q)).alloc (.cells #[.bool false] 4)) fun e w' =>
      e = .returned (.tuple #[]) ∧ ∃ o' vis', No5 o' ∧ Upd o (wv (code m q)) w w' o' ∧ IsTree w' o' (code m q) (tb m q) (B m q) ∧ WaveTop w' wb (shV S sc) n vis' ∧
        w'.heap[w.heap.size]? = some (shelfC (tb m q) m q) ∧ w'.heap[w.heap.size + 1]? = some (.cells #[.bool ((B m q).getD ki false)] 4) ∧ w'.heap[kb]? = some (.cells #[.int .i64 ki] 3 (0, 0)) ∧ o' kb = 6 ∧ o' w.heap.size = 0 ∧ o' (w.heap.size + 1) = 0 := by
  have hc := code_ge m q
  have kl := lt_of_block hk
  have wl := lt_of_block h.top
  have sz : ((w.alloc (shelfC (tb m q) m q)).alloc (.cells #[.bool false] 4)).heap.size = w.heap.size + 2 := by simp
  have U2 : Upd o (fun _ => False) w ((w.alloc (shelfC (tb m q) m q)).alloc (.cells #[.bool false] 4)) (ownV o w.heap.size (w.heap.size + 1)) := by
    refine (((Upd.refl o _ w).alloc _).alloc _).reown fun x hx => ?_
    unfold ownV; rw [if_pos hx]
  have hs2 := h.keep U2 (by simp) (by simp) (by simp)
  have hk2 := (U2.heap hk (by simp)).1
  have ok2 : ownV o w.heap.size (w.heap.size + 1) kb = 6 := (U2.own kb kl).trans ok
  have hv2 : ((w.alloc (shelfC (tb m q) m q)).alloc (.cells #[.bool false] 4)).heap[w.heap.size + 1]? = some (.cells #[.bool false] 4 (0, 0)) := heap_alloc2_new w _ _
  have hs1 : ((w.alloc (shelfC (tb m q) m q)).alloc (.cells #[.bool false] 4)).heap[w.heap.size]? = some (shelfC (tb m q) m q) := (Below.heap_alloc _ _ _ (by simp)).trans (heap_alloc_new w _)
  have ov2 : ownV o w.heap.size (w.heap.size + 1) (w.heap.size + 1) = 5 := by unfold ownV; rw [if_neg (by omega), if_pos rfl]
  have os2 : ownV o w.heap.size (w.heap.size + 1) w.heap.size = 0 := by unfold ownV; rw [if_neg (by omega), if_neg (by omega)]
  have ext3 : ∀ b, b < w.heap.size + 2 → ext (ownV o w.heap.size (w.heap.size + 1)) ((w.alloc (shelfC (tb m q) m q)).alloc (.cells #[.bool false] 4)).heap.size 0 b = ownV o w.heap.size (w.heap.size + 1) b := fun b hb => ext_old (by rw [sz]; exact hb)
  have hal : ∀ (b : Nat) (y : Obj), ((w.alloc (shelfC (tb m q) m q)).alloc (.cells #[.bool false] 4)).heap[b]? = some y → (((w.alloc (shelfC (tb m q) m q)).alloc (.cells #[.bool false] 4)).alloc (shelfC (tb m q) m q)).heap[b]? = some y := fun b y hy => (Below.heap_alloc _ _ _ (lt_of_block hy)).trans hy
  have hcl := get1_any (ext (ownV o w.heap.size (w.heap.size + 1)) ((w.alloc (shelfC (tb m q) m q)).alloc (.cells #[.bool false] 4)).heap.size 0) (code m q) (tb m q) m q kb (w.heap.size + 1) ki (B m q) false
    (((w.alloc (shelfC (tb m q) m q)).alloc (.cells #[.bool false] 4)).alloc (shelfC (tb m q) m q)) (ext_keep (hs2.tree m hm q hq) (fun b hb => Below.heap_alloc _ _ _ hb)) hlt hc
    (by rw [Joins.cell_of_block (hal _ _ hk2)]; rfl) (hal _ _ hv2) ((ext3 _ (by omega)).trans ov2)
  refine (look_any 134 #[.pointer (some ⟨kb, 0, none⟩), .pointer (some ⟨w.heap.size + 1, 0, none⟩)] _ (code m q) (tb m q) m q wb n (shV S sc) vis (B m q)
    (fun w' o' => w'.heap[w.heap.size + 1]? = some (.cells #[.bool ((B m q).getD ki false)] 4 (0, 0)) ∧ o' (w.heap.size + 1) = 5) _ hc enter134 hs2.top hs2.own hcl
    (fun w' o' v hq' how => ⟨by
      rw [heap_drew, Below.heap_setCell _ _ _ _ (show w.heap.size + 1 ≠ wb by omega)]
      exact hq'.1, hq'.2⟩)).mono ?_
  rintro e w3 ⟨rfl, o3, vis3, u3, t3, top3, how3, hb3, hb5⟩
  have n6 : ¬ lk (code m q) 6 := by unfold lk cl tr; omega
  have n0 : ¬ lk (code m q) 0 := by unfold lk cl tr; omega
  have hk3 := u3.heap hk2 (by rw [ok2]; exact n6)
  have hs3 := u3.heap hs1 (by rw [os2]; exact n0)
  refine ⟨rfl, Go.Proofs.YtnadgcgnediakaaGreatDoor.clean o3, vis3, clean_no5 _, Upd.clean ((U2.mono (d := wv (code m q)) (by simp)).trans' (d := lk (code m q)) u3 ?_) h5, t3.clean hc, top3, hs3.1, hb3, hk3.1, clean_ne (hk3.2.trans ok2) (by omega), clean_ne (hs3.2.trans os2) (by omega), ?_⟩
  · intro b _ hl
    rcases hl with (h | h) | h
    · exact .inl h
    · exact absurd h (h5 b)
    · exact .inr h
  · unfold Go.Proofs.YtnadgcgnediakaaGreatDoor.clean
    rw [if_pos hb5]

/-- rank on a shelf, some new blocks later -/
theorem wrank_sh (o : Nat → Nat) (wb n ki m q : Nat) (b : Bool) (S sc : Nat → Nat) (tb : Nat → Nat → Nat) (B : Nat → Nat → List Bool) (vis : Int) (w wx : World) (h : IsSh w o wb n S sc tb B vis) (h5 : No5 o)
    (hm : m < 9) (hq : q < 2 ^ m) (hle : ki ≤ (B m q).length) (hb : Below w.heap.size w wx) :
    Calls Tryz.prog 136 #[.pointer (some ⟨wb, 0, none⟩), shelfV (tb m q) m q, .int .i64 ki, .bool b] wx fun e w' => e = .returned (.int .i64 (likeL (B m q) ki b)) ∧
      ∃ o' vis', No5 o' ∧ Upd o (wv (code m q)) w w' o' ∧ IsSh w' o' wb n S sc tb B vis' := by
  have ux : Upd o (fun _ => False) w wx o := (Upd.refl _ _ _).belowN hb
  have sx := h.keep ux (by simp) (by simp) (by simp)
  refine (wrank_any o (code m q) (tb m q) m q wb n ki b (shV S sc) vis (B m q) wx (code_ge _ _) h5 sx.top sx.own (sx.tree m hm q hq) hle).mono ?_
  rintro e w4 ⟨rfl, o4, vis4, h54, u4, t4, top4⟩
  refine ⟨rfl, o4, vis4, h54, (ux.mono (by simp)).trans u4 (fun _ h => h), (sx.upd u4 hm hq t4 top4).bits (fun a _ b _ => ?_)⟩
  by_cases e : a = m ∧ b = q
  · obtain ⟨rfl, rfl⟩ := e; simp
  · rw [if_neg e]

/-- what the drawing statement reads again and again: the shelf's copy, the bit -/
def FC (g t m q : Nat) (b : Bool) (wz : World) : Prop := wz.cell? ⟨g, 0, none⟩ = some (.pointer (some ⟨t, 0, none⟩)) ∧ wz.cell? ⟨g, 1, none⟩ = some (.int .i64 m) ∧ wz.cell? ⟨g, 2, none⟩ = some (.int .i64 q) ∧ wz.cell? ⟨g + 1, 0, none⟩ = some (.bool b)
theorem FC.set {g t m q : Nat} {b : Bool} {wz : World} (h : FC g t m q b wz) {k : Nat} (hk : k < g) (v : Value) : FC g t m q b (wz.setCell ⟨k, 0, none⟩ v) := by
  obtain ⟨h0, h1, h2, h3⟩ := h
  have ne : ∀ (x i : Nat), g ≤ x → (⟨k, 0, none⟩ : Addr) ≠ ⟨x, i, none⟩ := by
    intro x i hx e
    have := congrArg Addr.block e
    simp at this
    omega
  refine ⟨?_, ?_, ?_, ?_⟩
  · rw [World.cell?_setCell_other _ _ _ _ (ne _ _ (Nat.le_refl _))]; exact h0
  · rw [World.cell?_setCell_other _ _ _ _ (ne _ _ (Nat.le_refl _))]; exact h1
  · rw [World.cell?_setCell_other _ _ _ _ (ne _ _ (Nat.le_refl _))]; exact h2
  · rw [World.cell?_setCell_other _ _ _ _ (ne _ _ (Nat.le_succ _))]; exact h3
theorem FC.alloc {g t m q : Nat} {b : Bool} {wz : World} (h : FC g t m q b wz) (x : Obj) : FC g t m q b (wz.alloc x) := by
  obtain ⟨h0, h1, h2, h3⟩ := h
  exact ⟨(World.cell?_alloc_lt _ _ _ (cell_lt h0)).trans h0, (World.cell?_alloc_lt _ _ _ (cell_lt h1)).trans h1, (World.cell?_alloc_lt _ _ _ (cell_lt h2)).trans h2, (World.cell?_alloc_lt _ _ _ (cell_lt h3)).trans h3⟩

set_option maxRecDepth 100000 in
set_option maxHeartbeats 6000000 in
theorem wget_any (o : Nat → Nat) (wb k s : Nat) (S sc : Nat → Nat) (tb : Nat → Nat → Nat) (L : List Nat) (vis : Int) (w : World) (h : IsWave w o wb S sc tb L vis) (h5 : No5 o) (hk : k < L.length) (hs : L.getD k 0 = s) :
    Calls Tryz.prog 79 #[.pointer (some ⟨wb, 0, none⟩), .int .i64 k] w fun e w' => e = .returned (.tuple #[.int .i64 s, .int .i64 0]) ∧ ∃ o' vis', No5 o' ∧ Upd o gv w w' o' ∧ IsWave w' o' wb S sc tb L vis' := by
  have wl := lt_of_block h.sh.top
  -- the box of k, nobody's but this call's
  have hv0 := h.sh.visit 0
  have u1 : Upd o gv w ((w.setCell ⟨wb, 10, none⟩ (.int .i64 0)).alloc (.cells #[.int .i64 k] 3)) (own1 o w.heap.size 6) := (((Upd.refl o gv w).set _ (.inr (.inl h.sh.own))).alloc _).reown fun b hb => own1_old hb
  have hv := hv0.keep (d := fun _ => False) (w' := (w.setCell ⟨wb, 10, none⟩ (.int .i64 0)).alloc (.cells #[.int .i64 k] 3)) (o' := own1 o w.heap.size 6) (((Upd.refl o _ _).alloc _).reown fun b hb => own1_old (by rw [World.size_setCell] at hb; exact hb)) (by simp) (by simp) (by simp)
  have c9 := h.sh.top.c9
  have c10 := h.sh.top.c10
  have f10 := h.sh.top.f 10
  have d9 := hv.top.c9
  have z0 := h.sh.top.cs 0 (by omega)
  have z1 := h.sh.top.cs 1 (by omega)
  have z2 := h.sh.top.cs 2 (by omega)
  have z3 := h.sh.top.cs 3 (by omega)
  have z4 := h.sh.top.cs 4 (by omega)
  have z5 := h.sh.top.cs 5 (by omega)
  have z6 := h.sh.top.cs 6 (by omega)
  have z7 := h.sh.top.cs 7 (by omega)
  have z8 := h.sh.top.cs 8 (by omega)
  have ix := idx9 (shV S sc)
  have dk : decide ((k : Int) < 0) = false := by simp
  have dk2 : decide (L.length ≤ k) = false := decide_eq_false (by omega)
  have c0 : ((w.setCell ⟨wb, 10, none⟩ (.int .i64 0)).alloc (.cells #[.int .i64 k] 3)).cell? ⟨w.heap.size, 0, none⟩ = some (.int .i64 k) := by
    have := World.cell?_alloc_new (w.setCell ⟨wb, 10, none⟩ (.int .i64 0)) #[.int .i64 k] 3 0
    rw [World.size_setCell] at this
    exact this
  have kb0 : ((w.setCell ⟨wb, 10, none⟩ (.int .i64 0)).alloc (.cells #[.int .i64 k] 3)).heap[w.heap.size]? = some (.cells #[.int .i64 k] 3 (0, 0)) := by
    have := heap_alloc_new (w.setCell ⟨wb, 10, none⟩ (.int .i64 0)) (.cells #[.int .i64 k] 3)
    rw [World.size_setCell] at this
    exact this
  have KB := Lib.hid kb0
  clear kb0
  have HV := Lib.hid hv
  have HS := Lib.hid hs
  have U1 := Lib.hid u1
  have H5 := Lib.hid h5
  have SYM := Lib.hid h.sym
  have hsb : s < 257 := h.sym s (by rw [← hs, List.getD_eq_getElem?_getD, List.getElem?_eq_getElem hk]; exact List.getElem_mem hk)
  have SB := Lib.hid hsb
  clear hv0 hv u1 h5 hs h hsb
  go_enter Tryz.func79, Tryz.ntmps79
  go_wp2_with fail
  go_quiet (fail)
  go_wp2_with fail
  go_loopw [30, 6] (fun i p wr => ∃ m : Nat, m ≤ 9 ∧ i = .int .i64 m ∧ p = .int .i64 (pathN s m) ∧ ∃ (o_r : Nat → Nat) (vr : Int), No5 o_r ∧ Upd o gv w wr o_r ∧ IsSh wr o_r wb L.length S sc tb (bitsOf L) vr ∧
      wr.heap[w.heap.size]? = some (.cells #[.int .i64 (posN L k s m)] 3 (0, 0)) ∧ o_r w.heap.size = 6) (fun i _ _ => 9 - (intOf i).toNat)
  case atStart =>
    have hs257 : s < 257 := SB.out
    refine ⟨0, by omega, rfl, by rw [path_zero s hs257]; rfl, own1 o w.heap.size 6, 0, own1_no5 H5.out (by omega), U1.out.drewN _, HV.out.keep (d := fun _ => False) ((Upd.refl _ _ _).drewN _) (by simp) (by simp) (by simp), ?_, own1_new _ _ _⟩
    rw [pos_zero SYM.out SB.out (Nat.le_of_lt hk)]
    exact KB.out
  case round =>
    obtain ⟨m, hm, rfl, rfl, o_r, vr, hr5, hru, hrs, hrk, hrko⟩ := hrel
    by_cases hm9 : m < 9
    · obtain ⟨q, hq⟩ : ∃ q, q = pathN s m := ⟨_, rfl⟩
      obtain ⟨ki, hki⟩ : ∃ ki, ki = posN L k s m := ⟨_, rfl⟩
      have hq2 : q < 2 ^ m := by rw [hq]; exact path_lt s m SB.out (by omega)
      have hbit := bits_at (lv := m) hk HS.out
      rw [← hq, ← hki] at hbit
      obtain ⟨N, hN⟩ : ∃ N, N = 2 ^ m := ⟨_, rfl⟩
      have hqN : q < N := by omega
      have hNle : N ≤ 256 := by rw [hN]; exact Nat.pow_le_pow_right (by omega) (show m ≤ 8 by omega)
      have ixm := ix m hm9 wr
      have hsh : shV S sc m = .slice (some ⟨S m, 0, none⟩) N (sc m) := by rw [hN]; rfl
      rw [hsh] at ixm
      obtain ⟨r0, r1, r2⟩ := hrs.row m hm9 q hq2
      have lg := wlook_get o_r wb L.length w.heap.size ki m q S sc tb (bitsOf L) vr wr hrs hr5 hm9 hq2 (by rw [hki]; exact hrk) hrko hbit.1
      rw [hbit.2] at lg
      have LG := Lib.hid lg
      have L0 := Lib.hid (lt_of_block hrk)
      have HQ := Lib.hid hq
      have HKI := Lib.hid hki
      have HRS := Lib.hid hrs
      have HRU := Lib.hid hru
      have HR5 := Lib.hid hr5
      have HBT := Lib.hid hbit
      have HQ2 := Lib.hid hq2
      have sl := hrs.S_lt hm9
      have mN : (m : Int) < 9 := by omega
      rw [← hq]
      unfold shelfV at LG
      clear hq hki hN hsh lg hrs hru hr5 hbit hq2 hrk hrko z0 z1 z2 z3 z4 z5 z6 z7 z8 ix c9 c10 f10 d9 c0
      go_wp2_with fail
      refine LG.out.mono ?_
      rintro e w3 ⟨rfl, o3, vis3, h53, u3, t3, top3, hx3, hb3, hk3, ok3, ox3, ob3⟩
      have sh3 := (HRS.out.upd u3 hm9 HQ2.out t3 top3).bits (B' := bitsOf L) (fun a _ b _ => by
        by_cases e : a = m ∧ b = q
        · obtain ⟨rfl, rfl⟩ := e; simp
        · rw [if_neg e])
      have RK : ∀ wx, Below w3.heap.size w3 wx → Calls Tryz.prog 136 #[.pointer (some ⟨wb, 0, none⟩), shelfV (tb m q) m q, .int .i64 ki, .bool (bitN s m)] wx fun e w4 => e = .returned (.int .i64 (posN L k s (m + 1))) ∧
          ∃ o4 vis4, No5 o4 ∧ Upd o gv w w4 o4 ∧ IsSh w4 o4 wb L.length S sc tb (bitsOf L) vis4 ∧ w4.heap[w.heap.size]? = some (.cells #[.int .i64 ki] 3 (0, 0)) ∧ o4 w.heap.size = 6 ∧
            w4.heap[wr.heap.size]? = some (shelfC (tb m q) m q) ∧ w4.heap[wr.heap.size + 1]? = some (.cells #[.bool (bitN s m)] 4) := by
        intro wx hb
        refine (wrank_sh o3 wb L.length ki m q (bitN s m) S sc tb (bitsOf L) vis3 w3 wx sh3 h53 hm9 HQ2.out (Nat.le_of_lt HBT.out.1) hb).mono ?_
        rintro e w4 ⟨rfl, o4, vis4, h54, u4, sh4⟩
        have n6 : ¬ wv (code m q) 6 := by have := code_ge m q; unfold wv tr; omega
        have n0 : ¬ wv (code m q) 0 := by have := code_ge m q; unfold wv tr; omega
        have k4 := u4.heap hk3 (by rw [ok3]; exact n6)
        refine ⟨?_, o4, vis4, h54, (HRU.out.trans u3 (fun _ h => gv_wv h)).trans u4 (fun _ h => gv_wv h), sh4, k4.1, k4.2.trans ok3, (u4.heap hx3 (by rw [ox3]; exact n0)).1, (u4.heap hb3 (by rw [ob3]; exact n0)).1⟩
        have := pos_succ (L := L) (k := k) (s := s) (lv := m) hm9
        rw [← HQ.out, ← HKI.out] at this
        rw [this]
      have RK0 := Lib.hid (RK w3.drew ((Below.refl _ _).drew))
      have RK1 := Lib.hid (RK (w3.alloc (shelfC (tb m q) m q)).drew ((Joins.below_alloc1 w3 _).drew))
      have hq1000 : q < 1000 := by omega
      have SN := Lib.hid (fun wx => snext_any (tb m q) m q (bitN s m) hq1000 wx)
      have kc : w3.cell? ⟨w.heap.size, 0, none⟩ = some (.int .i64 ki) := by rw [Joins.cell_of_block hk3]; rfl
      have x0 : w3.cell? ⟨wr.heap.size, 0, none⟩ = some (.pointer (some ⟨tb m q, 0, none⟩)) := by rw [Joins.cell_of_block hx3]; rfl
      have x1 : w3.cell? ⟨wr.heap.size, 1, none⟩ = some (.int .i64 m) := by rw [Joins.cell_of_block hx3]; rfl
      have x2 : w3.cell? ⟨wr.heap.size, 2, none⟩ = some (.int .i64 q) := by rw [Joins.cell_of_block hx3]; rfl
      have xb : w3.cell? ⟨wr.heap.size + 1, 0, none⟩ = some (.bool (bitN s m)) := by rw [Joins.cell_of_block hb3]; rfl
      have F3 := Lib.hid (show FC wr.heap.size (tb m q) m q (bitN s m) w3 from ⟨x0, x1, x2, xb⟩)
      have l1 : w.heap.size < w3.heap.size := lt_of_block hk3
      have l0 : w.heap.size < wr.heap.size := L0.out
      have l2 : wr.heap.size < w3.heap.size := lt_of_block hx3
      have l3 : wr.heap.size + 1 < w3.heap.size := lt_of_block hb3
      have HN := Lib.hid hqN
      unfold shelfV at RK0 RK1 SN
      clear RK sh3 u3 t3 top3 hx3 hb3 hk3 ok3 ox3 ob3 h53 r0 r1 r2 ixm sl LG
      go_wp2_with fail
      refine wp_region_held_drew (S := (fun wz => wz.cell? ⟨wr.heap.size, 0, none⟩ = some (.pointer (some ⟨tb m q, 0, none⟩)) ∧ wz.cell? ⟨wr.heap.size, 1, none⟩ = some (.int .i64 m) ∧ wz.cell? ⟨wr.heap.size, 2, none⟩ = some (.int .i64 q) ∧ wz.cell? ⟨wr.heap.size + 1, 0, none⟩ = some (.bool (bitN s m)))) (by kernel_rfl) F3.out (fun hHeld => ?_)
      refine wpAnyH_take (i := 0) (oi := _) (v := ?v0) rfl (by kernel_rfl) (by kernel_rfl) (by kernel_rfl) (fun _ _ _ h => h) (Or.inl ⟨by rfl, ?hy0⟩) hHeld ?rest0
      case hy0 =>
        intro w1 hSw
        obtain ⟨q1, q2, q3, q4⟩ := hSw
        go_simp
        try (with_reducible rfl)
      try simp only [Act.put, List.setIfInBounds_toArray]
      refine wpAnyH_take (i := 1) (oi := _) (v := ?v1) rfl (by kernel_rfl) (by kernel_rfl) (by kernel_rfl) (fun _ _ _ h => h) (Or.inl ⟨by rfl, ?hy1⟩) hHeld ?rest1
      case hy1 =>
        intro w1 hSw
        obtain ⟨q1, q2, q3, q4⟩ := hSw
        go_simp
        try (with_reducible rfl)
      try simp only [Act.put]
      refine wpAnyH_take (i := 3) (oi := _) (v := ?v3) rfl (by kernel_rfl) (by kernel_rfl) (by kernel_rfl) (fun _ _ _ h => h) (Or.inl ⟨by rfl, ?hy3⟩) hHeld ?rest3
      case hy3 =>
        intro w1 hSw
        obtain ⟨q1, q2, q3, q4⟩ := hSw
        go_simp
        try (with_reducible rfl)
      try simp only [Act.put]
      refine wpAnyH_take (i := 5) (oi := _) (v := ?v5) rfl (by kernel_rfl) (by kernel_rfl) (by kernel_rfl) (fun _ _ _ h => h) (Or.inl ⟨by rfl, ?hy5⟩) hHeld ?rest5
      case hy5 =>
        intro w1 hSw
        obtain ⟨q1, q2, q3, q4⟩ := hSw
        go_simp
        try (with_reducible rfl)
      try simp only [Act.put]
      refine wpAnyH_take (i := 6) (oi := _) (v := ?v6) rfl (by kernel_rfl) (by kernel_rfl) (by kernel_rfl) (fun _ _ _ h => h) (Or.inl ⟨by rfl, ?hy6⟩) hHeld ?rest6
      case hy6 =>
        intro w1 hSw
        obtain ⟨q1, q2, q3, q4⟩ := hSw
        go_simp
        try (with_reducible rfl)
      try simp only [Act.put]
      refine wpAnyH_ready (rs := [2]) (by kernel_rfl) (by simp) ?_
      refine (AllReadyH.cons (o := _) rfl (fun K hK => ?_) AllReadyH.nil)
      go_simp
      refine hK.out _ _ F3.out (fun hHeld => ?_)
      clear hK K
      try simp only [Act.put, List.setIfInBounds_toArray, List.set_cons_zero, List.set_cons_succ]
      refine wpAnyH_ready (rs := [4]) (by kernel_rfl) (by simp) ?_
      refine (AllReadyH.cons (o := _) rfl (fun K hK => ?_) AllReadyH.nil)
      go_simp
      go_at_call 136
      refine RK0.out.mono ?_
      rintro e w4 ⟨rfl, o4, vis4, h54, u4, sh4, hk4, ok4, hx4, hb4⟩
      have kc4 : w4.cell? ⟨w.heap.size, 0, none⟩ = some (.int .i64 ki) := (by rw [Joins.cell_of_block hk4]; rfl)
      have fk4 := Joins.unfrozen_of_block hk4 0
      have y0 : w4.cell? ⟨wr.heap.size, 0, none⟩ = some (.pointer (some ⟨tb m q, 0, none⟩)) := (by rw [Joins.cell_of_block hx4]; rfl)
      have y1 : w4.cell? ⟨wr.heap.size, 1, none⟩ = some (.int .i64 m) := (by rw [Joins.cell_of_block hx4]; rfl)
      have y2 : w4.cell? ⟨wr.heap.size, 2, none⟩ = some (.int .i64 q) := (by rw [Joins.cell_of_block hx4]; rfl)
      have yb : w4.cell? ⟨wr.heap.size + 1, 0, none⟩ = some (.bool (bitN s m)) := (by rw [Joins.cell_of_block hb4]; rfl)
      have l4 : w.heap.size < w4.heap.size := lt_of_block hk4
      have F4 := Lib.hid (show FC wr.heap.size (tb m q) m q (bitN s m) w4 from ⟨y0, y1, y2, yb⟩)
      have H54 := Lib.hid h54
      have U4 := Lib.hid u4
      have SH4 := Lib.hid sh4
      have HK4 := Lib.hid hk4
      have OK4 := Lib.hid ok4
      clear h54 u4 sh4 hk4 ok4 hx4 hb4
      go_wp2_with fail
      refine hK.out _ _ F4.out (fun hHeld => ?_)
      clear hK K
      try simp only [Act.put, List.setIfInBounds_toArray, List.set_cons_zero, List.set_cons_succ]
      refine wpAnyH_ready (rs := [7]) (by kernel_rfl) (by simp) ?_
      refine (AllReadyH.cons (o := _) rfl (fun K hK => ?_) AllReadyH.nil)
      go_simp
      go_at_call 137
      refine (SN.out _).mono ?_
      rintro e w' ⟨rfl, rfl⟩
      go_wp2_with fail
      refine hK.out _ _ (F4.out.alloc _) (fun hHeld => ?_)
      clear hK K
      try simp only [Act.put, List.setIfInBounds_toArray, List.set_cons_zero, List.set_cons_succ]
      refine wpAnyH_ready (rs := [8]) (by kernel_rfl) (by simp) ?_
      refine (AllReadyH.cons (o := _) rfl (fun K hK => ?_) AllReadyH.nil)
      go_simp
      refine hK.out _ _ ((F4.out.set L0.out _).alloc _) (fun hHeld => ?_)
      clear hK K
      try simp only [Act.put, List.setIfInBounds_toArray, List.set_cons_zero, List.set_cons_succ]
      refine wpAnyH_ready (rs := [9]) (by kernel_rfl) (by simp) ?_
      refine (AllReadyH.cons (o := _) rfl (fun K hK => ?_) AllReadyH.nil)
      go_simp
      refine hK.out _ _ ((F4.out.set L0.out _).alloc _) (fun hHeld => ?_)
      clear hK K
      try simp only [Act.put, List.setIfInBounds_toArray, List.set_cons_zero, List.set_cons_succ]
      refine wpAnyH_done (by kernel_rfl) ?_ _
      all_goals clear F3 RK0 RK1 SN x0 x1 x2 xb kc
      all_goals go_wp2_with fail
      all_goals go_roundw
      case rel =>
        have hk7 := Joins.block_setCell (i := 0) HK4.out (.int .i64 (posN L k s (m + 1)))
        have u7 : Upd o gv w ((w4.setCell ⟨w.heap.size, 0, none⟩ (.int .i64 (posN L k s (m + 1)))).alloc (shelfC (tb m q) m q)) o4 := (U4.out.set (a := ⟨w.heap.size, 0, none⟩) _ (.inl (Nat.le_refl _))).alloc _
        have s7 : IsSh ((w4.setCell ⟨w.heap.size, 0, none⟩ (.int .i64 (posN L k s (m + 1)))).alloc (shelfC (tb m q) m q)) o4 wb L.length S sc tb (bitsOf L) vis4 := SH4.out.keep (d := fun x => x = 6) (((Upd.refl o4 _ w4).set (a := ⟨w.heap.size, 0, none⟩) _ (.inr OK4.out)).alloc _) (by omega) (by omega) (by omega)
        have k7 : ((w4.setCell ⟨w.heap.size, 0, none⟩ (.int .i64 (posN L k s (m + 1)))).alloc (shelfC (tb m q) m q)).heap[w.heap.size]? = some (.cells #[.int .i64 (posN L k s (m + 1))] 3 (0, 0)) := (Below.heap_alloc _ _ _ (by rw [World.size_setCell]; exact l4)).trans hk7
        have p7 : Value.int .i64 (2 * (q : Int) + ((bitN s m).toNat : Int)) = .int .i64 (pathN s (m + 1)) := by
          rw [path_succ _ _ hm9, ← HQ.out]
          simp
        exact ⟨m + 1, by omega, by go_num, p7, o4, vis4, H54.out, u7, s7, k7, OK4.out⟩
      case measure => simp [intOf]; omega
    · have hm9' : m = 9 := by omega
      subst hm9'
      have HRS := Lib.hid hrs
      have HRU := Lib.hid hru
      have HR5 := Lib.hid hr5
      clear hrs hru hr5 hrk hrko ix z0 z1 z2 z3 z4 z5 z6 z7 z8 c9 c10 f10 d9 c0
      go_wp2_with fail
      go_ret2
      exact ⟨by simp [path_nine], o_r, vr, HR5.out, HRU.out, ⟨HRS.out, SYM.out⟩⟩
end Go.Proofs.YtnadgcgnediakaaGreatDoor
namespace Go.Proofs.YtnadgcgnediakaaGreatDoor
open Go.ChangeShapes Go.WideShapes Go.ChangeAt Go.RowKit Go.Deep

/-- a shelf's row -/
def RC (g t m q : Nat) (wz : World) : Prop := wz.cell? ⟨g, q * 3, none⟩ = some (.pointer (some ⟨t, 0, none⟩)) ∧ wz.cell? ⟨g, q * 3 + 1, none⟩ = some (.int .i64 m) ∧ wz.cell? ⟨g, q * 3 + 2, none⟩ = some (.int .i64 q)

set_option maxHeartbeats 6000000 in
set_option maxRecDepth 20000 in
theorem wcount_any (o : Nat → Nat) (wb k s : Nat) (S sc : Nat → Nat) (tb : Nat → Nat → Nat) (L : List Nat) (vis : Int) (w : World) (h : IsWave w o wb S sc tb L vis) (h5 : No5 o) (hk : k ≤ L.length) (_hL : L.length < 1000) (hs : s < 257) :
    Calls Tryz.prog 152 #[.pointer (some ⟨wb, 0, none⟩), .int .i64 k, .int .i64 s] w fun e w' => e = .returned (.int .i64 (posN L k s 9)) ∧ ∃ o' vis', No5 o' ∧ Upd o gv w w' o' ∧ IsWave w' o' wb S sc tb L vis' := by
  have hv := h.sh.visit 0
  have c9 := h.sh.top.c9
  have c10 := h.sh.top.c10
  have f10 := h.sh.top.f 10
  have z0 := h.sh.top.cs 0 (by omega)
  have z1 := h.sh.top.cs 1 (by omega)
  have z2 := h.sh.top.cs 2 (by omega)
  have z3 := h.sh.top.cs 3 (by omega)
  have z4 := h.sh.top.cs 4 (by omega)
  have z5 := h.sh.top.cs 5 (by omega)
  have z6 := h.sh.top.cs 6 (by omega)
  have z7 := h.sh.top.cs 7 (by omega)
  have z8 := h.sh.top.cs 8 (by omega)
  have ix := idx9 (shV S sc)
  have m1 : max (k : Int) 0 = k := by omega
  have m2 : min (k : Int) (L.length : Int) = k := by omega
  have SI := Lib.hid (fun wx => sis_sym s hs wx)
  have HV := Lib.hid hv
  have U1 := Lib.hid ((Upd.refl o gv w).set (a := ⟨wb, 10, none⟩) (.int .i64 0) (.inr (.inl h.sh.own)))
  have H5 := Lib.hid h5
  have SYM := Lib.hid h.sym
  have HS := Lib.hid hs
  clear hv h5 h hs
  go_enter Tryz.func152, Tryz.ntmps152
  go_wp2_with (go_at_call 99; refine (SI.out _).mono ?_; rintro e w' ⟨rfl, rfl⟩)
  go_loopw [28, 1] (fun i p wr => ∃ m : Nat, m ≤ 9 ∧ i = .int .i64 m ∧ p = .int .i64 (posN L k s m) ∧ ∃ (o_r : Nat → Nat) (vr : Int), No5 o_r ∧ Upd o gv w wr o_r ∧ IsSh wr o_r wb L.length S sc tb (bitsOf L) vr) (fun i _ _ => 9 - (intOf i).toNat)
  case atStart =>
    exact ⟨0, by omega, rfl, by rw [pos_zero SYM.out HS.out hk], o, 0, H5.out, U1.out, HV.out⟩
  case round =>
    obtain ⟨m, hm, rfl, rfl, o_r, vr, hr5, hru, hrs⟩ := hrel
    by_cases hm9 : m < 9
    · obtain ⟨q, hq⟩ : ∃ q, q = pathN s m := ⟨_, rfl⟩
      obtain ⟨ki, hki⟩ : ∃ ki, ki = posN L k s m := ⟨_, rfl⟩
      have hq2 : q < 2 ^ m := by rw [hq]; exact path_lt s m HS.out (by omega)
      have hle : ki ≤ (bitsOf L m q).length := by rw [hq, hki]; exact pos_le L k s m
      obtain ⟨N, hN⟩ : ∃ N, N = 2 ^ m := ⟨_, rfl⟩
      have hqN : q < N := by omega
      have hNle : N ≤ 256 := by rw [hN]; exact Nat.pow_le_pow_right (by omega) (show m ≤ 8 by omega)
      have ixm := ix m hm9 wr
      have hsh : shV S sc m = .slice (some ⟨S m, 0, none⟩) N (sc m) := by rw [hN]; rfl
      rw [hsh] at ixm
      obtain ⟨r0, r1, r2⟩ := hrs.row m hm9 q hq2
      have RC0 := Lib.hid (show RC (S m) (tb m q) m q wr from ⟨r0, r1, r2⟩)
      have PA := Lib.hid (fun wx => spath_any s m HS.out hm9 wx)
      have BI := Lib.hid (fun wx => sbit_any s m HS.out hm9 wx)
      have RK : Calls Tryz.prog 136 #[.pointer (some ⟨wb, 0, none⟩), shelfV (tb m q) m q, .int .i64 ki, .bool (bitN s m)] wr.drew fun e w4 => e = .returned (.int .i64 (posN L k s (m + 1))) ∧
          ∃ o4 vis4, No5 o4 ∧ Upd o gv w w4 o4 ∧ IsSh w4 o4 wb L.length S sc tb (bitsOf L) vis4 := by
        refine (wrank_sh o_r wb L.length ki m q (bitN s m) S sc tb (bitsOf L) vr wr wr.drew hrs hr5 hm9 hq2 hle ((Below.refl _ _).drew)).mono ?_
        rintro e w4 ⟨rfl, o4, vis4, h54, u4, sh4⟩
        refine ⟨?_, o4, vis4, h54, hru.trans u4 (fun _ h => gv_wv h), sh4⟩
        have := pos_succ (L := L) (k := k) (s := s) (lv := m) hm9
        rw [← hq, ← hki] at this
        rw [this]
      have RKH := Lib.hid RK
      have HQ2 := Lib.hid hq2
      rw [← hq] at PA
      rw [← hki]
      unfold shelfV at RKH
      have HQ := Lib.hid hq
      clear hq hki hN hsh hrs hru hr5 hq2 z0 z1 z2 z3 z4 z5 z6 z7 z8 ix c9 c10 f10 RK m1 m2
      go_wp2_with fail
      go_region_held3 (fun wz => wz.cell? ⟨S m, q * 3, none⟩ = some (.pointer (some ⟨tb m q, 0, none⟩)) ∧ wz.cell? ⟨S m, q * 3 + 1, none⟩ = some (.int .i64 m) ∧ wz.cell? ⟨S m, q * 3 + 2, none⟩ = some (.int .i64 q)) (first | exact RC0.out | exact R4.out) (first | (go_at_call 153; refine (PA.out _).mono ?_; rintro e w' ⟨rfl, rfl⟩) | (go_at_call 156; refine (BI.out _).mono ?_; rintro e w' ⟨rfl, rfl⟩) | (go_at_call 136; refine RKH.out.mono ?_; rintro e w4 ⟨rfl, o4, vis4, h54, u4, sh4⟩; have R4 := Lib.hid (sh4.row m hm9 q HQ2.out); have H54 := Lib.hid h54; have U4 := Lib.hid u4; have SH4 := Lib.hid sh4; clear h54 u4 sh4))
      all_goals go_wp2_with fail
      all_goals go_roundw
      case rel => exact ⟨m + 1, by omega, by go_num, rfl, o4, vis4, H54.out, U4.out, SH4.out⟩
      case measure => simp [intOf]; omega
    · have hm9' : m = 9 := by omega
      subst hm9'
      have HRS := Lib.hid hrs
      have HRU := Lib.hid hru
      have HR5 := Lib.hid hr5
      clear hrs hru hr5 ix z0 z1 z2 z3 z4 z5 z6 z7 z8 c9 c10 f10
      go_wp2_with fail
      go_ret
      exact ⟨rfl, o_r, vr, HR5.out, HRU.out, ⟨HRS.out, SYM.out⟩⟩
end Go.Proofs.YtnadgcgnediakaaGreatDoor
namespace Go.Proofs.YtnadgcgnediakaaGreatDoor
open Go.ChangeShapes Go.WideShapes Go.ChangeAt Go.RowKit Go.Deep

/-- look, with Insert's closure -/
theorem wlook_ins (o : Nat → Nat) (wb n kb ki m q xg vg : Nat) (b : Bool) (S sc : Nat → Nat) (tb : Nat → Nat → Nat) (B : Nat → Nat → List Bool) (vis : Int) (w wx : World) (h : IsSh w o wb n S sc tb B vis) (h5 : No5 o)
    (hm : m < 9) (hq : q < 2 ^ m) (hk : w.heap[kb]? = some (.cells #[.int .i64 ki] 3 (0, 0))) (ok : o kb = 6) (hle : ki ≤ (B m q).length) (hl : (B m q).length < 128)
    (hb : Below w.heap.size w wx) (hx : wx.heap[xg]? = some (shelfC (tb m q) m q)) (hv : wx.heap[vg]? = some (.cells #[.bool b] 4 (0, 0))) (xge : w.heap.size ≤ xg) (vge : w.heap.size ≤ vg) :
    Calls Tryz.prog 133 #[.pointer (some ⟨wb, 0, none⟩), shelfV (tb m q) m q, .func (.func 196) #[] #[.pointer (some ⟨kb, 0, none⟩), .pointer (some ⟨vg, 0, none⟩)]] wx fun e w' =>
      e = .returned (.tuple #[]) ∧ ∃ o' vis', No5 o' ∧ Upd o (wv (code m q)) w w' o' ∧ IsTree w' o' (code m q) (tb m q) ((B m q).insertIdx ki b) ∧ WaveTop w' wb (shV S sc) n vis' ∧
        w'.heap[xg]? = some (shelfC (tb m q) m q) ∧ w'.heap[vg]? = some (.cells #[.bool b] 4) ∧ w'.heap[kb]? = some (.cells #[.int .i64 ki] 3 (0, 0)) ∧ o' kb = 6 ∧ o' xg = 0 ∧ o' vg = 0 := by
  have hc := code_ge m q
  have kl := lt_of_block hk
  have U2 : Upd o (fun _ => False) w wx (ext o w.heap.size 0) := ((Upd.refl o _ w).belowN hb).reown fun x hx => ext_old hx
  have hs2 := h.keep U2 (by simp) (by simp) (by simp)
  have hk2 := (U2.heap hk (by simp)).1
  have ok2 : ext o w.heap.size 0 kb = 6 := (U2.own kb kl).trans ok
  have ov2 : ext o w.heap.size 0 vg = 0 := ext_new vge
  have os2 : ext o w.heap.size 0 xg = 0 := ext_new xge
  have hal : ∀ (x : Nat) (y : Obj), wx.heap[x]? = some y → (wx.alloc (shelfC (tb m q) m q)).heap[x]? = some y := fun x y hy => (Below.heap_alloc _ _ _ (lt_of_block hy)).trans hy
  have hcl := ins1_any (ext (ext o w.heap.size 0) wx.heap.size 0) (code m q) (tb m q) m q kb vg ki b (B m q)
    (wx.alloc (shelfC (tb m q) m q)) (ext_keep (hs2.tree m hm q hq) (fun b hb => Below.heap_alloc _ _ _ hb)) hle hl hc
    (by rw [Joins.cell_of_block (hal _ _ hk2)]; rfl) (by rw [Joins.cell_of_block (hal _ _ hv)]; rfl)
  refine (look_any 196 #[.pointer (some ⟨kb, 0, none⟩), .pointer (some ⟨vg, 0, none⟩)] _ (code m q) (tb m q) m q wb n (shV S sc) vis ((B m q).insertIdx ki b)
    (fun _ _ => True) _ hc enter196 hs2.top hs2.own (hcl.mono fun e w' ⟨h1, o', h2, h3⟩ => ⟨h1, o', h2, h3, trivial⟩) (fun _ _ _ _ _ => trivial)).mono ?_
  rintro e w3 ⟨rfl, o3, vis3, u3, t3, top3, how3, _⟩
  have n6 : ¬ lk (code m q) 6 := by unfold lk cl tr; omega
  have n0 : ¬ lk (code m q) 0 := by unfold lk cl tr; omega
  have hk3 := u3.heap hk2 (by rw [ok2]; exact n6)
  have hs3 := u3.heap hx (by rw [os2]; exact n0)
  have hv3 := u3.heap hv (by rw [ov2]; exact n0)
  refine ⟨rfl, Go.Proofs.YtnadgcgnediakaaGreatDoor.clean o3, vis3, clean_no5 _, Upd.clean ((U2.mono (d := wv (code m q)) (by simp)).trans' (d := lk (code m q)) u3 ?_) h5, t3.clean hc, top3, hs3.1, hv3.1, hk3.1, clean_ne (hk3.2.trans ok2) (by omega), clean_ne (hs3.2.trans os2) (by omega), clean_ne (hv3.2.trans ov2) (by omega)⟩
  intro b _ hl
  rcases hl with (h | h) | h
  · exact .inl h
  · exact absurd h (h5 b)
  · exact .inr h

theorem RC.alloc {g t m q : Nat} {wz : World} (h : RC g t m q wz) (x : Obj) : RC g t m q (wz.alloc x) := by
  obtain ⟨h0, h1, h2⟩ := h
  exact ⟨(World.cell?_alloc_lt _ _ _ (cell_lt h0)).trans h0, (World.cell?_alloc_lt _ _ _ (cell_lt h1)).trans h1, (World.cell?_alloc_lt _ _ _ (cell_lt h2)).trans h2⟩
theorem like_ins (l : List Bool) (k : Nat) (b x : Bool) (hk : k ≤ l.length) : likeL (l.insertIdx k x) k b = likeL l k b := by
  rw [like_take _ _ _ (by rw [List.length_insertIdx_of_le_length hk]; omega), like_take _ _ _ hk, ins_split x k l hk]
  rw [List.take_append_of_le_length (by rw [List.length_take]; omega), List.take_take, Nat.min_self]
/-- the bits, the first levels edited -/
def mixB (L L' : List Nat) (m a b : Nat) : List Bool := if a < m then bitsOf L' a b else bitsOf L a b
theorem WaveTop.count {w : World} {wb n n' : Nat} {sh : Nat → Value} {vis : Int} (h : WaveTop w wb sh n vis) : WaveTop (w.setCell ⟨wb, 9, none⟩ (.int .i64 n')) wb sh n' vis := Joins.block_setCell h _
theorem IsSh.count {w : World} {o : Nat → Nat} {wb n : Nat} {S sc : Nat → Nat} {tb : Nat → Nat → Nat} {B : Nat → Nat → List Bool} {vis : Int} (h : IsSh w o wb n S sc tb B vis) (n' : Nat) : IsSh (w.setCell ⟨wb, 9, none⟩ (.int .i64 n')) o wb n' S sc tb B vis := by
  have u : Upd o (· = 1) w (w.setCell ⟨wb, 9, none⟩ (.int .i64 n')) o := (Upd.refl o _ w).set _ (.inr h.own)
  refine ⟨h.top.count, h.own, fun lv hl p hp => ?_, h.so, fun lv hl p hp => (h.tree lv hl p hp).keep u (by have := code_ge lv p; omega) (by have := code_ge lv p; omega)⟩
  have e : ∀ i, (w.setCell ⟨wb, 9, none⟩ (.int .i64 n')).cell? ⟨S lv, i, none⟩ = w.cell? ⟨S lv, i, none⟩ := fun i => World.cell?_of_block (a := ⟨S lv, i, none⟩) (u.same (S lv) (h.S_lt hl) (by rw [h.so lv hl]; omega))
  rw [e, e, e]
  exact h.row lv hl p hp

set_option maxRecDepth 20000 in
set_option maxHeartbeats 2000000 in
theorem wins_any (o : Nat → Nat) (wb k s : Nat) (S sc : Nat → Nat) (tb : Nat → Nat → Nat) (L : List Nat) (vis : Int) (w : World) (h : IsWave w o wb S sc tb L vis) (h5 : No5 o) (hk : k ≤ L.length) (hL : L.length < 128) (hs : s < 257) :
    Calls Tryz.prog 147 #[.pointer (some ⟨wb, 0, none⟩), .int .i64 k, .int .i64 s] w fun e w' => e = .returned (.int .i64 0) ∧ ∃ o' vis', No5 o' ∧ Upd o gv w w' o' ∧ IsWave w' o' wb S sc tb (L.insertIdx k s) vis' := by
  have wl := lt_of_block h.sh.top
  have hv0 := h.sh.visit 0
  have u1 : Upd o gv w ((w.setCell ⟨wb, 10, none⟩ (.int .i64 0)).alloc (.cells #[.int .i64 k] 3)) (own1 o w.heap.size 6) := (((Upd.refl o gv w).set _ (.inr (.inl h.sh.own))).alloc _).reown fun b hb => own1_old hb
  have hv := hv0.keep (d := fun _ => False) (w' := (w.setCell ⟨wb, 10, none⟩ (.int .i64 0)).alloc (.cells #[.int .i64 k] 3)) (o' := own1 o w.heap.size 6) (((Upd.refl o _ _).alloc _).reown fun b hb => own1_old (by rw [World.size_setCell] at hb; exact hb)) (by simp) (by simp) (by simp)
  have c9 := h.sh.top.c9
  have c10 := h.sh.top.c10
  have f10 := h.sh.top.f 10
  have d9 := hv.top.c9
  have z0 := h.sh.top.cs 0 (by omega)
  have z1 := h.sh.top.cs 1 (by omega)
  have z2 := h.sh.top.cs 2 (by omega)
  have z3 := h.sh.top.cs 3 (by omega)
  have z4 := h.sh.top.cs 4 (by omega)
  have z5 := h.sh.top.cs 5 (by omega)
  have z6 := h.sh.top.cs 6 (by omega)
  have z7 := h.sh.top.cs 7 (by omega)
  have z8 := h.sh.top.cs 8 (by omega)
  have ix := idx9 (shV S sc)
  have dk : decide ((k : Int) < 0) = false := by simp
  have dk2 : decide (L.length < k) = false := decide_eq_false (by omega)
  have c0 : ((w.setCell ⟨wb, 10, none⟩ (.int .i64 0)).alloc (.cells #[.int .i64 k] 3)).cell? ⟨w.heap.size, 0, none⟩ = some (.int .i64 k) := by
    have := World.cell?_alloc_new (w.setCell ⟨wb, 10, none⟩ (.int .i64 0)) #[.int .i64 k] 3 0
    rw [World.size_setCell] at this
    exact this
  have kb0 : ((w.setCell ⟨wb, 10, none⟩ (.int .i64 0)).alloc (.cells #[.int .i64 k] 3)).heap[w.heap.size]? = some (.cells #[.int .i64 k] 3 (0, 0)) := by
    have := heap_alloc_new (w.setCell ⟨wb, 10, none⟩ (.int .i64 0)) (.cells #[.int .i64 k] 3)
    rw [World.size_setCell] at this
    exact this
  have KB := Lib.hid kb0
  have HV := Lib.hid hv
  have U1 := Lib.hid u1
  have H5 := Lib.hid h5
  have SYM := Lib.hid h.sym
  have HS := Lib.hid hs
  have SI := Lib.hid (fun wx => sis_sym s hs wx)
  have OWB := Lib.hid h.sh.own
  clear kb0 hv0 hv u1 h5 hs h
  go_enter Tryz.func147, Tryz.ntmps147
  go_wp2_with (go_at_call 99; refine (SI.out _).mono ?_; rintro e w' ⟨rfl, rfl⟩)
  go_quiet (fail)
  go_wp2_with fail
  go_loopg [35] 9 (fun g i wr => ∃ m : Nat, m + g = 9 ∧ i = .int .i64 m ∧ ∃ (o_r : Nat → Nat) (vr : Int), No5 o_r ∧ Upd o gv w wr o_r ∧ IsSh wr o_r wb L.length S sc tb (mixB L (L.insertIdx k s) m) vr ∧
      wr.heap[w.heap.size]? = some (.cells #[.int .i64 (posN L k s m)] 3 (0, 0)) ∧ o_r w.heap.size = 6)
  case atStart =>
    refine ⟨0, by omega, rfl, own1 o w.heap.size 6, 0, own1_no5 H5.out (by omega), U1.out.drewN _, (HV.out.keep (d := fun _ => False) ((Upd.refl _ _ _).drewN _) (by simp) (by simp) (by simp)).bits (fun a _ b _ => by unfold mixB; rw [if_neg (by omega)]), ?_, own1_new _ _ _⟩
    rw [pos_zero SYM.out HS.out hk]
    exact KB.out
  case round =>
    obtain ⟨m, hm, rfl, o_r, vr, hr5, hru, hrs, hrk, hrko⟩ := hrel
    by_cases hm9 : m < 9
    · obtain ⟨q, hq⟩ : ∃ q, q = pathN s m := ⟨_, rfl⟩
      obtain ⟨ki, hki⟩ : ∃ ki, ki = posN L k s m := ⟨_, rfl⟩
      have hq2 : q < 2 ^ m := by rw [hq]; exact path_lt s m HS.out (by omega)
      have hB : mixB L (L.insertIdx k s) m m q = bitsOf L m q := by unfold mixB; rw [if_neg (by omega)]
      have hle : ki ≤ (mixB L (L.insertIdx k s) m m q).length := by rw [hB, hq, hki]; exact pos_le L k s m
      have hl128 : (mixB L (L.insertIdx k s) m m q).length < 128 := by rw [hB]; exact Nat.lt_of_le_of_lt (bits_len L m q) hL
      obtain ⟨N, hN⟩ : ∃ N, N = 2 ^ m := ⟨_, rfl⟩
      have hqN : q < N := by omega
      have hNle : N ≤ 256 := by rw [hN]; exact Nat.pow_le_pow_right (by omega) (show m ≤ 8 by omega)
      have ixm := ix m hm9 wr
      have hsh : shV S sc m = .slice (some ⟨S m, 0, none⟩) N (sc m) := by rw [hN]; rfl
      rw [hsh] at ixm
      obtain ⟨r0, r1, r2⟩ := hrs.row m hm9 q hq2
      have RC0 := Lib.hid (show RC (S m) (tb m q) m q wr from ⟨r0, r1, r2⟩)
      have PA := Lib.hid (fun wx => spath_any s m HS.out hm9 wx)
      have BI := Lib.hid (fun wx => sbit_any s m HS.out hm9 wx)
      rw [← hq] at PA
      rw [← hki] at hrk
      have LD := Lib.hid (fun xg vg wx => wlook_ins o_r wb L.length w.heap.size ki m q xg vg (bitN s m) S sc tb (mixB L (L.insertIdx k s) m) vr wr wx hrs hr5 hm9 hq2 hrk hrko hle hl128)
      have L0 := Lib.hid (lt_of_block hrk)
      have HQ := Lib.hid hq
      have HKI := Lib.hid hki
      have HRS := Lib.hid hrs
      have HRU := Lib.hid hru
      have HQ2 := Lib.hid hq2
      have HB := Lib.hid hB
      have HLE := Lib.hid hle
      clear hq hki hN hsh hrs hru hr5 hq2 hrk hrko hle hl128 hB z0 z1 z2 z3 z4 z5 z6 z7 z8 ix c9 c10 f10 d9 c0
      go_upto_region 11 with fail
      go_cut [9, 10] from 36 to 57 (fun s9 s10 wx => ∃ xg vg : Nat, s9 = .pointer (some ⟨xg, 0, none⟩) ∧ s10 = .pointer (some ⟨vg, 0, none⟩) ∧ wx.heap[xg]? = some (shelfC (tb m q) m q) ∧ wx.heap[vg]? = some (.cells #[.bool (bitN s m)] 4 (0, 0)) ∧ wr.heap.size ≤ xg ∧ wr.heap.size ≤ vg ∧ Below wr.heap.size wr wx)
      case first =>
        go_region_held3 (fun wz => wz.cell? ⟨S m, q * 3, none⟩ = some (.pointer (some ⟨tb m q, 0, none⟩)) ∧ wz.cell? ⟨S m, q * 3 + 1, none⟩ = some (.int .i64 m) ∧ wz.cell? ⟨S m, q * 3 + 2, none⟩ = some (.int .i64 q)) (first | exact RC0.out | exact RC0.out.alloc _ | exact (RC0.out.alloc _).alloc _) (first | (go_at_call 153; refine (PA.out _).mono ?_; rintro e w' ⟨rfl, rfl⟩) | (go_at_call 156; refine (BI.out _).mono ?_; rintro e w' ⟨rfl, rfl⟩))
        all_goals go_wp2_with fail
        all_goals go_meet
        all_goals first | exact ⟨wr.heap.size, wr.heap.size + 1, rfl, rfl, (Below.heap_alloc _ _ _ (by simp)).trans (heap_alloc_new wr _), heap_alloc2_new wr _ _, Nat.le_refl _, Nat.le_succ _, (Joins.below_alloc2 wr _ _).drew⟩ | exact ⟨wr.heap.size + 1, wr.heap.size, rfl, rfl, heap_alloc2_new wr _ _, (Below.heap_alloc _ _ _ (by simp)).trans (heap_alloc_new wr _), Nat.le_succ _, Nat.le_refl _, (Joins.below_alloc2 wr _ _).drew⟩
      case rest =>
        obtain ⟨xg, vg, rfl, rfl, hx, hv, xge, vge, hbw⟩ := hcut
        have lg := LD.out xg vg wc hbw hx hv xge vge
        unfold shelfV at lg
        have LG := Lib.hid lg
        have x0 : wc.cell? ⟨xg, 0, none⟩ = some (.pointer (some ⟨tb m q, 0, none⟩)) := by rw [Joins.cell_of_block hx]; rfl
        have x1 : wc.cell? ⟨xg, 1, none⟩ = some (.int .i64 m) := by rw [Joins.cell_of_block hx]; rfl
        have x2 : wc.cell? ⟨xg, 2, none⟩ = some (.int .i64 q) := by rw [Joins.cell_of_block hx]; rfl
        clear LD lg hx hv hbw xge vge RC0 PA BI r0 r1 r2 ixm
        go_wp2_with fail
        refine LG.out.mono ?_
        rintro e w3 ⟨rfl, o3, vis3, h53, u3, t3, top3, hx3, hb3, hk3, ok3, ox3, ob3⟩
        have sh3 := HRS.out.upd u3 hm9 HQ2.out t3 top3
        have sh3' := sh3.bits (B' := mixB L (L.insertIdx k s) (m + 1)) (fun a ha b hb => by
          unfold mixB
          by_cases e : a = m ∧ b = q
          · obtain ⟨rfl, rfl⟩ := e
            simp only [and_self, if_true]
            rw [if_neg (by omega), if_pos (by omega), HQ.out, HKI.out]
            exact (bits_ins hk).symm
          · rw [if_neg e]
            by_cases hlt : a < m
            · rw [if_pos hlt, if_pos (by omega)]
            · rw [if_neg hlt]
              by_cases ham : a = m
              · subst ham
                rw [if_pos (by omega)]
                exact (bits_ins_other hk (fun h => e ⟨rfl, h.trans HQ.out.symm⟩)).symm
              · rw [if_neg (by omega)])
        have hBm : mixB L (L.insertIdx k s) (m + 1) m q = (bitsOf L m q).insertIdx ki (bitN s m) := by
          unfold mixB
          rw [if_pos (by omega), HQ.out, HKI.out]
          exact bits_ins hk
        have hle2 : ki ≤ (bitsOf L m q).length := by have := HLE.out; rw [HB.out] at this; exact this
        have rk := wrank_sh o3 wb L.length ki m q (bitN s m) S sc tb (mixB L (L.insertIdx k s) (m + 1)) vis3 w3 w3 sh3' h53 hm9 HQ2.out (by rw [hBm, List.length_insertIdx_of_le_length hle2]; omega) (Below.refl _ _)
        rw [hBm, like_ins _ _ _ _ hle2] at rk
        have hps : likeL (bitsOf L m q) ki (bitN s m) = posN L k s (m + 1) := by
          have := pos_succ (L := L) (k := k) (s := s) (lv := m) hm9
          rw [← HQ.out, ← HKI.out] at this
          exact this
        rw [hps] at rk
        unfold shelfV at rk
        have RK := Lib.hid rk
        have n6 : ¬ wv (code m q) 6 := by have := code_ge m q; unfold wv tr; omega
        have y0 : w3.cell? ⟨xg, 0, none⟩ = some (.pointer (some ⟨tb m q, 0, none⟩)) := by rw [Joins.cell_of_block hx3]; rfl
        have y1 : w3.cell? ⟨xg, 1, none⟩ = some (.int .i64 m) := by rw [Joins.cell_of_block hx3]; rfl
        have y2 : w3.cell? ⟨xg, 2, none⟩ = some (.int .i64 q) := by rw [Joins.cell_of_block hx3]; rfl
        have yb : w3.cell? ⟨vg, 0, none⟩ = some (.bool (bitN s m)) := by rw [Joins.cell_of_block hb3]; rfl
        have kc : w3.cell? ⟨w.heap.size, 0, none⟩ = some (.int .i64 ki) := by rw [Joins.cell_of_block hk3]; rfl
        have HK3 := Lib.hid hk3
        have OK3 := Lib.hid ok3
        have U3 := Lib.hid (HRU.out.trans u3 (fun _ h => gv_wv h))
        clear rk hps hle2 hBm sh3' sh3 h53 u3 t3 top3 hx3 hb3 hk3 ok3 ox3 ob3 x0 x1 x2 LG
        go_wp2_with fail
        refine RK.out.mono ?_
        rintro e w4 ⟨rfl, o4, vis4, h54, u4, sh4⟩
        have k4 := u4.heap HK3.out (by rw [OK3.out]; exact n6)
        have kc4 : w4.cell? ⟨w.heap.size, 0, none⟩ = some (.int .i64 ki) := by rw [Joins.cell_of_block k4.1]; rfl
        have fk4 := Joins.unfrozen_of_block k4.1 0
        have K4 := Lib.hid k4.1
        have OK4 := Lib.hid (k4.2.trans OK3.out)
        have U4 := Lib.hid (U3.out.trans u4 (fun _ h => gv_wv h))
        have H54 := Lib.hid h54
        have SH4 := Lib.hid sh4
        clear k4 u4 h54 sh4 RK y0 y1 y2 yb kc
        go_wp2_with fail
        go_roundg (gk - 1)
        case measure => omega
        case rel =>
          exact ⟨m + 1, by omega, by go_num, o4, vis4, H54.out, U4.out.set (a := ⟨w.heap.size, 0, none⟩) _ (.inl (Nat.le_refl _)), SH4.out.keep (d := fun x => x = 6) ((Upd.refl o4 _ w4).set (a := ⟨w.heap.size, 0, none⟩) _ (.inr OK4.out)) (by omega) (by omega) (by omega), Joins.block_setCell (i := 0) K4.out _, OK4.out⟩
    · have hm9' : m = 9 := by omega
      subst hm9'
      have d9 := hrs.top.c9
      have f9 := hrs.top.f 9
      have HRS := Lib.hid (hrs.count (L.length + 1))
      have HRU := Lib.hid hru
      have HR5 := Lib.hid hr5
      clear hrs hru hr5 hrk hrko ix z0 z1 z2 z3 z4 z5 z6 z7 z8 c9 c10 f10 c0
      go_wp2_with fail
      go_ret
      refine ⟨rfl, o_r, vr, HR5.out, ?_, ⟨?_, ?_⟩⟩
      · exact HRU.out.set _ (.inr (.inl OWB.out))
      · rw [List.length_insertIdx_of_le_length hk]
        have e : ((L.length + 1 : Nat) : Int) = (L.length : Int) + 1 := by omega
        have := HRS.out.bits (B' := bitsOf (L.insertIdx k s)) (fun a ha b _ => by unfold mixB; rw [if_pos (by omega)])
        rw [e] at this
        exact this
      · intro x hx
        rw [ins_split s k L hk, List.mem_append, List.mem_cons] at hx
        rcases hx with h | rfl | h
        · exact SYM.out x (List.mem_of_mem_take h)
        · exact HS.out
        · exact SYM.out x (List.mem_of_mem_drop h)
end Go.Proofs.YtnadgcgnediakaaGreatDoor
namespace Go.Proofs.YtnadgcgnediakaaGreatDoor
open Go.ChangeShapes Go.WideShapes Go.ChangeAt Go.RowKit Go.Deep

/-- behind a call that may have written one variable besides -/
structure UpdX (o : Nat → Nat) (c : Nat → Prop) (v : Nat) (w w' : World) (o' : Nat → Nat) : Prop where
  os : w'.os = w.os
  tape : w'.tape = w.tape
  output : w'.output = w.output
  size : w.heap.size ≤ w'.heap.size
  own : ∀ b, b < w.heap.size → o' b = o b
  same : ∀ b, b < w.heap.size → ¬ c (o b) → b ≠ v → w'.heap[b]? = w.heap[b]?
theorem Upd.transX {o o1 o2 : Nat → Nat} {c d : Nat → Prop} {w w1 w2 : World} {v : Nat} (h : Upd o c w w1 o1) (g : UpdX o1 d v w1 w2 o2) (hd : ∀ x, d x → c x) (hv : w.heap.size ≤ v) : Upd o c w w2 o2 :=
  ⟨g.os.trans h.os, g.tape.trans h.tape, g.output.trans h.output, Nat.le_trans h.size g.size, fun b hb => (g.own b (Nat.lt_of_lt_of_le hb h.size)).trans (h.own b hb),
   fun b hb hc => (g.same b (Nat.lt_of_lt_of_le hb h.size) (by rw [h.own b hb]; exact fun x => hc (hd _ x)) (by omega)).trans (h.same b hb hc)⟩
theorem UpdX.heap {o o1 : Nat → Nat} {c : Nat → Prop} {w w1 : World} {v : Nat} (h : UpdX o c v w w1 o1) {b : Nat} {x : Obj} (hb : w.heap[b]? = some x) (hc : ¬ c (o b)) (hv : b ≠ v) : w1.heap[b]? = some x ∧ o1 b = o b :=
  ⟨(h.same b (lt_of_block hb) hc hv).trans hb, h.own b (lt_of_block hb)⟩

theorem Owned.to {w : World} {o o' : Nat → Nat} {c : Nat} {e : TypeId} {size : Nat} {v : Value} {n : Nat} {xs : List Value} (h : Owned w o c e size v n xs) (ho : ∀ b, o b = c → o' b = c) : Owned w o' c e size v n xs := ⟨h.1, fun k hk => ho k (h.2 k hk)⟩
theorem IsTree.to {w : World} {o o' : Nat → Nat} {c tb : Nat} {l : List Bool} (h : IsTree w o c tb l) (ho : ∀ b, o b = c → o' b = c) (ho1 : ∀ b, o b = c + 1 → o' b = c + 1) : IsTree w o' c tb l := by
  rcases h with ⟨h1, ab, nb, bb, kb, lc, kc, fv, vis, h⟩ | ⟨h1, ⟨ab, vis, h⟩ | ⟨ab, nb, kb, fb, lc, kc, fc, x, vis, h⟩⟩
  · exact .inl ⟨h1, ab, nb, bb, kb, lc, kc, fv, vis, ⟨h.t, h.a, h.n.to ho, h.k.to ho1, h.f.to ho1, h.b, ho _ h.ot, ho1 _ h.oa, ho _ h.ob⟩⟩
  · exact .inr ⟨h1, .inl ⟨ab, vis, ⟨h.t, h.a, ho _ h.ot, ho1 _ h.oa⟩⟩⟩
  · exact .inr ⟨h1, .inr ⟨ab, nb, kb, fb, lc, kc, fc, x, vis, ⟨h.t, h.a, h.n.to ho, h.k.to ho1, h.f.to ho1, ho _ h.ot, ho1 _ h.oa⟩⟩⟩

/-- look, with Delete's closure -/
theorem wlook_del (o : Nat → Nat) (wb n kb ki m q xg vg : Nat) (S sc : Nat → Nat) (tb : Nat → Nat → Nat) (B : Nat → Nat → List Bool) (vis : Int) (w : World) (h : IsSh w o wb n S sc tb B vis) (h5 : No5 o)
    (hm : m < 9) (hq : q < 2 ^ m) (hk : w.heap[kb]? = some (.cells #[.int .i64 ki] 3 (0, 0))) (ok : o kb = 6) (hlt : ki < (B m q).length)
    (hx : w.heap[xg]? = some (shelfC (tb m q) m q)) (hv : w.heap[vg]? = some (.cells #[.bool false] 4 (0, 0))) (ox : o xg = 0) (ov : o vg = 0) (hne : xg ≠ vg) :
    Calls Tryz.prog 133 #[.pointer (some ⟨wb, 0, none⟩), shelfV (tb m q) m q, .func (.func 192) #[] #[.pointer (some ⟨kb, 0, none⟩), .pointer (some ⟨vg, 0, none⟩)]] w fun e w' =>
      e = .returned (.tuple #[]) ∧ ∃ o' vis', No5 o' ∧ UpdX o (wv (code m q)) vg w w' o' ∧ IsTree w' o' (code m q) (tb m q) ((B m q).eraseIdx ki) ∧ WaveTop w' wb (shV S sc) n vis' ∧
        w'.heap[xg]? = some (shelfC (tb m q) m q) ∧ w'.heap[vg]? = some (.cells #[.bool ((B m q).getD ki false)] 4) ∧ w'.heap[kb]? = some (.cells #[.int .i64 ki] 3 (0, 0)) ∧ o' kb = 6 := by
  have hc := code_ge m q
  have kl := lt_of_block hk
  have vl := lt_of_block hv
  have wl := lt_of_block h.top
  have hto : ∀ b d, o b = d → d ≠ 0 → (fun b => if b = vg then 5 else o b) b = d := fun b d hb hd => by
    have : b ≠ vg := by rintro rfl; omega
    simp only [if_neg this]; exact hb
  have t5 : IsTree w (fun b => if b = vg then 5 else o b) (code m q) (tb m q) (B m q) := (h.tree m hm q hq).to (fun b hb => hto b _ hb (by omega)) (fun b hb => hto b _ hb (by omega))
  have ok5 : (fun b => if b = vg then 5 else o b) kb = 6 := hto kb 6 ok (by omega)
  have ov5 : (fun b => if b = vg then 5 else o b) vg = 5 := by simp
  have ox5 : (fun b => if b = vg then 5 else o b) xg = 0 := by simp only [if_neg hne]; exact ox
  have hal : ∀ (x : Nat) (y : Obj), w.heap[x]? = some y → (w.alloc (shelfC (tb m q) m q)).heap[x]? = some y := fun x y hy => (Below.heap_alloc _ _ _ (lt_of_block hy)).trans hy
  have hcl := del1_any (ext (fun b => if b = vg then 5 else o b) w.heap.size 0) (code m q) (tb m q) m q kb vg ki (B m q) false
    (w.alloc (shelfC (tb m q) m q)) (ext_keep t5 (fun b hb => Below.heap_alloc _ _ _ hb)) hlt hc
    (by rw [Joins.cell_of_block (hal _ _ hk)]; rfl) (hal _ _ hv) ((ext_old vl).trans ov5)
  refine (look_any 192 #[.pointer (some ⟨kb, 0, none⟩), .pointer (some ⟨vg, 0, none⟩)] (fun b => if b = vg then 5 else o b) (code m q) (tb m q) m q wb n (shV S sc) vis ((B m q).eraseIdx ki)
    (fun w' o' => w'.heap[vg]? = some (.cells #[.bool ((B m q).getD ki false)] 4 (0, 0)) ∧ o' vg = 5) _ hc enter192 h.top (hto wb 1 h.own (by omega)) hcl
    (fun w' o' v hq' how => ⟨by
      have : vg ≠ wb := by rintro rfl; omega
      rw [heap_drew, Below.heap_setCell _ _ _ _ this]
      exact hq'.1, hq'.2⟩)).mono ?_
  rintro e w3 ⟨rfl, o3, vis3, u3, t3, top3, how3, hb3, hb5⟩
  have n6 : ¬ lk (code m q) 6 := by unfold lk cl tr; omega
  have n0 : ¬ lk (code m q) 0 := by unfold lk cl tr; omega
  have hk3 := u3.heap hk (by have e : (if kb = vg then 5 else o kb) = 6 := ok5
                             rw [e]; exact n6)
  have hs3 := u3.heap hx (by have e : (if xg = vg then 5 else o xg) = 0 := ox5
                             rw [e]; exact n0)
  refine ⟨rfl, Go.Proofs.YtnadgcgnediakaaGreatDoor.clean o3, vis3, clean_no5 _, ⟨u3.os, u3.tape, u3.output, u3.size, fun b hb => ?_, fun b hb hcb hbv => ?_⟩, t3.clean hc, top3, hs3.1, hb3, hk3.1, clean_ne (hk3.2.trans ok5) (by omega)⟩
  · have e1 := u3.own b hb
    unfold Go.Proofs.YtnadgcgnediakaaGreatDoor.clean
    by_cases e : b = vg
    · subst e
      rw [if_pos (by rw [e1]; simp), ov]
    · rw [e1]
      simp only [if_neg e]
      rw [if_neg (h5 b)]
  · refine u3.same b hb ?_
    simp only [if_neg hbv]
    rintro ((h | h) | h)
    · exact hcb (.inl h)
    · exact h5 b h
    · exact hcb (.inr h)

theorem IsSh.updX {w w' : World} {o o' : Nat → Nat} {wb n : Nat} {S sc : Nat → Nat} {tb : Nat → Nat → Nat} {B : Nat → Nat → List Bool} {vis vis' : Int} (h : IsSh w o wb n S sc tb B vis) {lv p v : Nat} {l : List Bool} (u : UpdX o (wv (code lv p)) v w w' o') (hv : o v = 0) (hl : lv < 9) (hp : p < 2 ^ lv) (t : IsTree w' o' (code lv p) (tb lv p) l) (top : WaveTop w' wb (shV S sc) n vis') :
    IsSh w' o' wb n S sc tb (fun a b => if a = lv ∧ b = p then l else B a b) vis' := by
  have u2 : Upd o (fun x => wv (code lv p) x ∨ x = 0) w w' o' := ⟨u.os, u.tape, u.output, u.size, u.own, fun b hb hc => u.same b hb (fun x => hc (.inl x)) (by rintro rfl; exact hc (.inr hv))⟩
  have h2 : ¬ (wv (code lv p) 2 ∨ (2 : Nat) = 0) := by have := code_ge lv p; unfold wv tr; omega
  refine ⟨top, (u.own wb (lt_of_block h.top)).trans h.own, fun a ha b hb => ?_, fun a ha => (u.own _ (h.S_lt ha)).trans (h.so a ha), fun a ha b hb => ?_⟩
  · have e : ∀ i, w'.cell? ⟨S a, i, none⟩ = w.cell? ⟨S a, i, none⟩ := fun i => World.cell?_of_block (a := ⟨S a, i, none⟩) (u2.same (S a) (h.S_lt ha) (by rw [h.so a ha]; exact h2))
    rw [e, e, e]
    exact h.row a ha b hb
  · by_cases he : a = lv ∧ b = p
    · obtain ⟨rfl, rfl⟩ := he
      simp only [and_self, if_true]
      exact t
    · rw [if_neg he]
      refine (h.tree a ha b hb).keep u2 ?_ ?_
      · intro hx
        have := code_ge a b
        unfold wv tr at hx
        exact he (code_inj hb hp (by omega))
      · intro hx
        have := code_ge a b
        unfold wv tr at hx
        exact he (code_inj hb hp (by omega))

set_option maxRecDepth 20000 in
set_option maxHeartbeats 2000000 in
theorem wdel_any (o : Nat → Nat) (wb k s : Nat) (S sc : Nat → Nat) (tb : Nat → Nat → Nat) (L : List Nat) (vis : Int) (w : World) (h : IsWave w o wb S sc tb L vis) (h5 : No5 o) (hk : k < L.length) (hL : L.length < 1000) (hs : L.getD k 0 = s) :
    Calls Tryz.prog 138 #[.pointer (some ⟨wb, 0, none⟩), .int .i64 k] w fun e w' => e = .returned (.tuple #[.int .i64 s, .int .i64 0]) ∧ ∃ o' vis', No5 o' ∧ Upd o gv w w' o' ∧ IsWave w' o' wb S sc tb (L.eraseIdx k) vis' := by
  have wl := lt_of_block h.sh.top
  have hsb : s < 257 := h.sym s (by rw [← hs, List.getD_eq_getElem?_getD, List.getElem?_eq_getElem hk]; exact List.getElem_mem hk)
  have hv0 := h.sh.visit 0
  have u1 : Upd o gv w ((w.setCell ⟨wb, 10, none⟩ (.int .i64 0)).alloc (.cells #[.int .i64 k] 3)) (own1 o w.heap.size 6) := (((Upd.refl o gv w).set _ (.inr (.inl h.sh.own))).alloc _).reown fun b hb => own1_old hb
  have hv := hv0.keep (d := fun _ => False) (w' := (w.setCell ⟨wb, 10, none⟩ (.int .i64 0)).alloc (.cells #[.int .i64 k] 3)) (o' := own1 o w.heap.size 6) (((Upd.refl o _ _).alloc _).reown fun b hb => own1_old (by rw [World.size_setCell] at hb; exact hb)) (by simp) (by simp) (by simp)
  have c9 := h.sh.top.c9
  have c10 := h.sh.top.c10
  have f10 := h.sh.top.f 10
  have d9 := hv.top.c9
  have z0 := h.sh.top.cs 0 (by omega)
  have z1 := h.sh.top.cs 1 (by omega)
  have z2 := h.sh.top.cs 2 (by omega)
  have z3 := h.sh.top.cs 3 (by omega)
  have z4 := h.sh.top.cs 4 (by omega)
  have z5 := h.sh.top.cs 5 (by omega)
  have z6 := h.sh.top.cs 6 (by omega)
  have z7 := h.sh.top.cs 7 (by omega)
  have z8 := h.sh.top.cs 8 (by omega)
  have ix := idx9 (shV S sc)
  have dk : decide ((k : Int) < 0) = false := by simp
  have dk2 : decide (L.length ≤ k) = false := decide_eq_false (by omega)
  have c0 : ((w.setCell ⟨wb, 10, none⟩ (.int .i64 0)).alloc (.cells #[.int .i64 k] 3)).cell? ⟨w.heap.size, 0, none⟩ = some (.int .i64 k) := by
    have := World.cell?_alloc_new (w.setCell ⟨wb, 10, none⟩ (.int .i64 0)) #[.int .i64 k] 3 0
    rw [World.size_setCell] at this
    exact this
  have kb0 : ((w.setCell ⟨wb, 10, none⟩ (.int .i64 0)).alloc (.cells #[.int .i64 k] 3)).heap[w.heap.size]? = some (.cells #[.int .i64 k] 3 (0, 0)) := by
    have := heap_alloc_new (w.setCell ⟨wb, 10, none⟩ (.int .i64 0)) (.cells #[.int .i64 k] 3)
    rw [World.size_setCell] at this
    exact this
  have KB := Lib.hid kb0
  have HV := Lib.hid hv
  have U1 := Lib.hid u1
  have H5 := Lib.hid h5
  have SYM := Lib.hid h.sym
  have HS := Lib.hid hs
  have SB := Lib.hid hsb
  have OWB := Lib.hid h.sh.own
  clear kb0 hv0 hv u1 h5 hs h hsb
  go_enter Tryz.func138, Tryz.ntmps138
  go_wp2_with fail
  go_quiet (fail)
  go_wp2_with fail
  go_loopg [31, 6] 9 (fun g i p wr => ∃ m : Nat, m + g = 9 ∧ i = .int .i64 m ∧ p = .int .i64 (pathN s m) ∧ ∃ (o_r : Nat → Nat) (vr : Int), No5 o_r ∧ Upd o gv w wr o_r ∧ IsSh wr o_r wb L.length S sc tb (mixB L (L.eraseIdx k) m) vr ∧
      wr.heap[w.heap.size]? = some (.cells #[.int .i64 (posN L k s m)] 3 (0, 0)) ∧ o_r w.heap.size = 6)
  case atStart =>
    refine ⟨0, by omega, rfl, by rw [path_zero s SB.out]; rfl, own1 o w.heap.size 6, 0, own1_no5 H5.out (by omega), U1.out.drewN _, (HV.out.keep (d := fun _ => False) ((Upd.refl _ _ _).drewN _) (by simp) (by simp) (by simp)).bits (fun a _ b _ => by unfold mixB; rw [if_neg (by omega)]), ?_, own1_new _ _ _⟩
    rw [pos_zero SYM.out SB.out (Nat.le_of_lt hk)]
    exact KB.out
  case round =>
    obtain ⟨m, hm, rfl, rfl, o_r, vr, hr5, hru, hrs, hrk, hrko⟩ := hrel
    by_cases hm9 : m < 9
    · obtain ⟨q, hq⟩ : ∃ q, q = pathN s m := ⟨_, rfl⟩
      obtain ⟨ki, hki⟩ : ∃ ki, ki = posN L k s m := ⟨_, rfl⟩
      obtain ⟨b, hb⟩ : ∃ b, bitN s m = b := ⟨_, rfl⟩
      have hq2 : q < 2 ^ m := by rw [hq]; exact path_lt s m SB.out (by omega)
      have hB : mixB L (L.eraseIdx k) m m q = bitsOf L m q := by unfold mixB; rw [if_neg (by omega)]
      have hbit := bits_at (lv := m) hk HS.out
      rw [← hq, ← hki, hb] at hbit
      have hps : likeL (bitsOf L m q) ki b = posN L k s (m + 1) := by
        have := pos_succ (L := L) (k := k) (s := s) (lv := m) hm9
        rw [← hq, ← hki, hb] at this
        exact this
      have hblen : (bitsOf L m q).length < 1000 := Nat.lt_of_le_of_lt (bits_len L m q) hL
      obtain ⟨N, hN⟩ : ∃ N, N = 2 ^ m := ⟨_, rfl⟩
      have hqN : q < N := by omega
      have hNle : N ≤ 256 := by rw [hN]; exact Nat.pow_le_pow_right (by omega) (show m ≤ 8 by omega)
      have ixm := ix m hm9 wr
      have hsh : shV S sc m = .slice (some ⟨S m, 0, none⟩) N (sc m) := by rw [hN]; rfl
      rw [hsh] at ixm
      obtain ⟨r0, r1, r2⟩ := hrs.row m hm9 q hq2
      rw [← hki] at hrk
      have l0 := lt_of_block hrk
      have kc : wr.cell? ⟨w.heap.size, 0, none⟩ = some (.int .i64 ki) := by rw [Joins.cell_of_block hrk]; rfl
      -- the world with the two variables
      have ub : Upd o_r (fun _ => False) wr ((wr.alloc (shelfC (tb m q) m q)).alloc (.cells #[.bool false] 4)) (ext o_r wr.heap.size 0) := (((Upd.refl o_r _ wr).alloc _).alloc _).reown fun x hx => ext_old hx
      have sb := hrs.keep ub (by simp) (by simp) (by simp)
      have h5b : No5 (ext o_r wr.heap.size 0) := by
        intro x; unfold ext; split
        · exact hr5 x
        · omega
      have rk := wrank_sh (ext o_r wr.heap.size 0) wb L.length ki m q true S sc tb (mixB L (L.eraseIdx k) m) vr _ _ sb h5b hm9 hq2 (by rw [hB]; exact Nat.le_of_lt hbit.1) (Below.refl _ _)
      rw [hB] at rk
      unfold shelfV at rk
      have RK := Lib.hid rk
      have hx1 : ((wr.alloc (shelfC (tb m q) m q)).alloc (.cells #[.bool false] 4)).heap[wr.heap.size]? = some (shelfC (tb m q) m q) := (Below.heap_alloc _ _ _ (by simp)).trans (heap_alloc_new wr _)
      have hv1 : ((wr.alloc (shelfC (tb m q) m q)).alloc (.cells #[.bool false] 4)).heap[wr.heap.size + 1]? = some (.cells #[.bool false] 4 (0, 0)) := heap_alloc2_new wr _ _
      have hk1 := (ub.heap hrk (by simp)).1
      have ok1 : ext o_r wr.heap.size 0 w.heap.size = 6 := (ext_old l0).trans hrko
      have UB := Lib.hid (hru.trans ub (by simp))
      have HX1 := Lib.hid hx1
      have HV1 := Lib.hid hv1
      have HK1 := Lib.hid hk1
      have OK1 := Lib.hid ok1
      have HQ := Lib.hid hq
      have HKI := Lib.hid hki
      have HQ2 := Lib.hid hq2
      have HB := Lib.hid hB
      have HBT := Lib.hid hbit
      have HPS := Lib.hid hps
      have HBB := Lib.hid hb
      have hlk : likeL (bitsOf L m q) ki true ≤ ki := rankL_k _ _
      have hkl : ki < 1000 := by have := hbit.1; omega
      have l0' := l0
      rw [← hq]
      have SN := Lib.hid (fun b wx => snext_any (tb m q) m q b (by omega) wx)
      clear hq hki hN hsh rk hrs hru hr5 hq2 hrk hrko hB hbit hps hblen sb ub h5b hx1 hv1 hk1 ok1 z0 z1 z2 z3 z4 z5 z6 z7 z8 ix c9 c10 f10 d9 c0 hb
      cases b
      case false =>
        have hval : (ki : Int) - ((likeL (bitsOf L m q) ki true : Nat) : Int) = (posN L k s (m + 1) : Nat) := by
          have h1 := HPS.out
          have h2 : likeL (bitsOf L m q) ki false = ki - likeL (bitsOf L m q) ki true := rfl
          omega
        have HVAL := Lib.hid hval
        clear hval
        go_wp2_with fail
        refine RK.out.mono ?_
        rintro e w4 ⟨rfl, o4, vis4, h54, u4, sh4⟩
        have n0 : ¬ wv (code m q) 0 := by have := code_ge m q; unfold wv tr; omega
        have n6 : ¬ wv (code m q) 6 := by have := code_ge m q; unfold wv tr; omega
        have hx4 := u4.heap HX1.out (by rw [ext_new (Nat.le_refl _)]; exact n0)
        have hv4 := u4.heap HV1.out (by rw [ext_new (Nat.le_succ _)]; exact n0)
        have hk4 := u4.heap HK1.out (by rw [OK1.out]; exact n6)
        have ov4 : o4 (wr.heap.size + 1) = 0 := hv4.2.trans (ext_new (Nat.le_succ _))
        have ox4 : o4 wr.heap.size = 0 := hx4.2.trans (ext_new (Nat.le_refl _))
        have ld := wlook_del o4 wb L.length w.heap.size ki m q wr.heap.size (wr.heap.size + 1) S sc tb (mixB L (L.eraseIdx k) m) vis4 w4 sh4 h54 hm9 HQ2.out hk4.1 (hk4.2.trans OK1.out) (by rw [HB.out]; exact HBT.out.1) hx4.1 hv4.1 ox4 ov4 (by omega)
        rw [HB.out, HBT.out.2] at ld
        unfold shelfV at ld
        have LD := Lib.hid ld
        have y0 : w4.cell? ⟨wr.heap.size, 0, none⟩ = some (.pointer (some ⟨tb m q, 0, none⟩)) := by rw [Joins.cell_of_block hx4.1]; rfl
        have y1 : w4.cell? ⟨wr.heap.size, 1, none⟩ = some (.int .i64 m) := by rw [Joins.cell_of_block hx4.1]; rfl
        have y2 : w4.cell? ⟨wr.heap.size, 2, none⟩ = some (.int .i64 q) := by rw [Joins.cell_of_block hx4.1]; rfl
        have U4 := Lib.hid (UB.out.trans u4 (fun _ h => gv_wv h))
        have SH4 := Lib.hid sh4
        have OV4 := Lib.hid ov4
        clear u4 sh4 h54 hx4 hv4 hk4 ox4 ov4 ld RK r0 r1 r2 ixm
        go_wp2_with fail
        refine LD.out.mono ?_
        rintro e w5 ⟨rfl, o5, vis5, h55, u5, t5, top5, hx5, hv5, hk5, ok5⟩
        have sh5 := (SH4.out.updX u5 OV4.out hm9 HQ2.out t5 top5).bits (B' := mixB L (L.eraseIdx k) (m + 1)) (fun a ha b hb => by
          unfold mixB
          by_cases e : a = m ∧ b = q
          · obtain ⟨rfl, rfl⟩ := e
            simp only [and_self, if_true]
            rw [if_pos (by omega), HQ.out, HKI.out]
            exact (bits_del hk HS.out).symm
          · rw [if_neg e]
            by_cases hlt : a < m
            · rw [if_pos hlt, if_pos (by omega)]
            · rw [if_neg hlt]
              by_cases ham : a = m
              · subst ham
                rw [if_pos (by omega)]
                exact (bits_del_other hk HS.out (fun h => e ⟨rfl, h.trans HQ.out.symm⟩)).symm
              · rw [if_neg (by omega)])
        have U5 := Lib.hid (U4.out.transX u5 (fun _ h => gv_wv h) (by omega))
        have SH5 := Lib.hid sh5
        have H55 := Lib.hid h55
        have HK5 := Lib.hid hk5
        have OK5 := Lib.hid ok5
        have x0 : w5.cell? ⟨wr.heap.size, 0, none⟩ = some (.pointer (some ⟨tb m q, 0, none⟩)) := by rw [Joins.cell_of_block hx5]; rfl
        have x1 : w5.cell? ⟨wr.heap.size, 1, none⟩ = some (.int .i64 m) := by rw [Joins.cell_of_block hx5]; rfl
        have x2 : w5.cell? ⟨wr.heap.size, 2, none⟩ = some (.int .i64 q) := by rw [Joins.cell_of_block hx5]; rfl
        have xb : w5.cell? ⟨wr.heap.size + 1, 0, none⟩ = some (.bool false) := by rw [Joins.cell_of_block hv5]; rfl
        have xk : w5.cell? ⟨w.heap.size, 0, none⟩ = some (.int .i64 ki) := by rw [Joins.cell_of_block hk5]; rfl
        have fk := Joins.unfrozen_of_block hk5 0
        have l1 : w.heap.size < w5.heap.size := lt_of_block hk5
        have l2 : wr.heap.size < w5.heap.size := lt_of_block hx5
        have l3 : wr.heap.size + 1 < w5.heap.size := lt_of_block hv5
        have hval := HVAL.out
        have SNb := Lib.hid (SN.out false)
        unfold shelfV at SNb
        clear sh5 h55 u5 t5 top5 hx5 hv5 hk5 ok5 y0 y1 y2 LD SN
        go_wp2_with (go_at_call 137; refine (SNb.out _).mono ?_; rintro e w' ⟨rfl, rfl⟩)
        go_roundg (gk - 1)
        case measure => omega
        case rel =>
          have k7 : ((w5.setCell ⟨w.heap.size, 0, none⟩ (.int .i64 (posN L k s (m + 1)))).alloc (shelfC (tb m q) m q)).heap[w.heap.size]? = some (.cells #[.int .i64 (posN L k s (m + 1))] 3 (0, 0)) := (Below.heap_alloc _ _ _ (by rw [World.size_setCell]; exact l1)).trans (Joins.block_setCell (i := 0) HK5.out _)
          have u7 : Upd o gv w ((w5.setCell ⟨w.heap.size, 0, none⟩ (.int .i64 (posN L k s (m + 1)))).alloc (shelfC (tb m q) m q)) o5 := (U5.out.set (a := ⟨w.heap.size, 0, none⟩) _ (.inl (Nat.le_refl _))).alloc _
          have s7 : IsSh ((w5.setCell ⟨w.heap.size, 0, none⟩ (.int .i64 (posN L k s (m + 1)))).alloc (shelfC (tb m q) m q)) o5 wb L.length S sc tb (mixB L (L.eraseIdx k) (m + 1)) vis5 := SH5.out.keep (d := fun x => x = 6) (((Upd.refl o5 _ w5).set (a := ⟨w.heap.size, 0, none⟩) _ (.inr OK5.out)).alloc _) (by omega) (by omega) (by omega)
          have p7 : 2 * q + (false).toNat = pathN s (m + 1) := by rw [path_succ _ _ hm9, ← HQ.out, HBB.out]
          refine ⟨m + 1, by omega, by go_num, ?_, o5, vis5, H55.out, u7, s7, k7, OK5.out⟩
          rw [← p7]
          first | rfl | simp
      case true =>
        have hval : ((likeL (bitsOf L m q) ki true : Nat) : Int) = (posN L k s (m + 1) : Nat) := by rw [HPS.out]
        have HVAL := Lib.hid hval
        clear hval
        go_wp2_with fail
        refine RK.out.mono ?_
        rintro e w4 ⟨rfl, o4, vis4, h54, u4, sh4⟩
        have n0 : ¬ wv (code m q) 0 := by have := code_ge m q; unfold wv tr; omega
        have n6 : ¬ wv (code m q) 6 := by have := code_ge m q; unfold wv tr; omega
        have hx4 := u4.heap HX1.out (by rw [ext_new (Nat.le_refl _)]; exact n0)
        have hv4 := u4.heap HV1.out (by rw [ext_new (Nat.le_succ _)]; exact n0)
        have hk4 := u4.heap HK1.out (by rw [OK1.out]; exact n6)
        have ov4 : o4 (wr.heap.size + 1) = 0 := hv4.2.trans (ext_new (Nat.le_succ _))
        have ox4 : o4 wr.heap.size = 0 := hx4.2.trans (ext_new (Nat.le_refl _))
        have ld := wlook_del o4 wb L.length w.heap.size ki m q wr.heap.size (wr.heap.size + 1) S sc tb (mixB L (L.eraseIdx k) m) vis4 w4 sh4 h54 hm9 HQ2.out hk4.1 (hk4.2.trans OK1.out) (by rw [HB.out]; exact HBT.out.1) hx4.1 hv4.1 ox4 ov4 (by omega)
        rw [HB.out, HBT.out.2] at ld
        unfold shelfV at ld
        have LD := Lib.hid ld
        have y0 : w4.cell? ⟨wr.heap.size, 0, none⟩ = some (.pointer (some ⟨tb m q, 0, none⟩)) := by rw [Joins.cell_of_block hx4.1]; rfl
        have y1 : w4.cell? ⟨wr.heap.size, 1, none⟩ = some (.int .i64 m) := by rw [Joins.cell_of_block hx4.1]; rfl
        have y2 : w4.cell? ⟨wr.heap.size, 2, none⟩ = some (.int .i64 q) := by rw [Joins.cell_of_block hx4.1]; rfl
        have U4 := Lib.hid (UB.out.trans u4 (fun _ h => gv_wv h))
        have SH4 := Lib.hid sh4
        have OV4 := Lib.hid ov4
        clear u4 sh4 h54 hx4 hv4 hk4 ox4 ov4 ld RK r0 r1 r2 ixm
        go_wp2_with fail
        refine LD.out.mono ?_
        rintro e w5 ⟨rfl, o5, vis5, h55, u5, t5, top5, hx5, hv5, hk5, ok5⟩
        have sh5 := (SH4.out.updX u5 OV4.out hm9 HQ2.out t5 top5).bits (B' := mixB L (L.eraseIdx k) (m + 1)) (fun a ha b hb => by
          unfold mixB
          by_cases e : a = m ∧ b = q
          · obtain ⟨rfl, rfl⟩ := e
            simp only [and_self, if_true]
            rw [if_pos (by omega), HQ.out, HKI.out]
            exact (bits_del hk HS.out).symm
          · rw [if_neg e]
            by_cases hlt : a < m
            · rw [if_pos hlt, if_pos (by omega)]
            · rw [if_neg hlt]
              by_cases ham : a = m
              · subst ham
                rw [if_pos (by omega)]
                exact (bits_del_other hk HS.out (fun h => e ⟨rfl, h.trans HQ.out.symm⟩)).symm
              · rw [if_neg (by omega)])
        have U5 := Lib.hid (U4.out.transX u5 (fun _ h => gv_wv h) (by omega))
        have SH5 := Lib.hid sh5
        have H55 := Lib.hid h55
        have HK5 := Lib.hid hk5
        have OK5 := Lib.hid ok5
        have x0 : w5.cell? ⟨wr.heap.size, 0, none⟩ = some (.pointer (some ⟨tb m q, 0, none⟩)) := by rw [Joins.cell_of_block hx5]; rfl
        have x1 : w5.cell? ⟨wr.heap.size, 1, none⟩ = some (.int .i64 m) := by rw [Joins.cell_of_block hx5]; rfl
        have x2 : w5.cell? ⟨wr.heap.size, 2, none⟩ = some (.int .i64 q) := by rw [Joins.cell_of_block hx5]; rfl
        have xb : w5.cell? ⟨wr.heap.size + 1, 0, none⟩ = some (.bool true) := by rw [Joins.cell_of_block hv5]; rfl
        have xk : w5.cell? ⟨w.heap.size, 0, none⟩ = some (.int .i64 ki) := by rw [Joins.cell_of_block hk5]; rfl
        have fk := Joins.unfrozen_of_block hk5 0
        have l1 : w.heap.size < w5.heap.size := lt_of_block hk5
        have l2 : wr.heap.size < w5.heap.size := lt_of_block hx5
        have l3 : wr.heap.size + 1 < w5.heap.size := lt_of_block hv5
        have hval := HVAL.out
        have SNb := Lib.hid (SN.out true)
        unfold shelfV at SNb
        clear sh5 h55 u5 t5 top5 hx5 hv5 hk5 ok5 y0 y1 y2 LD SN
        go_wp2_with (go_at_call 137; refine (SNb.out _).mono ?_; rintro e w' ⟨rfl, rfl⟩)
        go_roundg (gk - 1)
        case measure => omega
        case rel =>
          have k7 : ((w5.setCell ⟨w.heap.size, 0, none⟩ (.int .i64 (posN L k s (m + 1)))).alloc (shelfC (tb m q) m q)).heap[w.heap.size]? = some (.cells #[.int .i64 (posN L k s (m + 1))] 3 (0, 0)) := (Below.heap_alloc _ _ _ (by rw [World.size_setCell]; exact l1)).trans (Joins.block_setCell (i := 0) HK5.out _)
          have u7 : Upd o gv w ((w5.setCell ⟨w.heap.size, 0, none⟩ (.int .i64 (posN L k s (m + 1)))).alloc (shelfC (tb m q) m q)) o5 := (U5.out.set (a := ⟨w.heap.size, 0, none⟩) _ (.inl (Nat.le_refl _))).alloc _
          have s7 : IsSh ((w5.setCell ⟨w.heap.size, 0, none⟩ (.int .i64 (posN L k s (m + 1)))).alloc (shelfC (tb m q) m q)) o5 wb L.length S sc tb (mixB L (L.eraseIdx k) (m + 1)) vis5 := SH5.out.keep (d := fun x => x = 6) (((Upd.refl o5 _ w5).set (a := ⟨w.heap.size, 0, none⟩) _ (.inr OK5.out)).alloc _) (by omega) (by omega) (by omega)
          have p7 : 2 * q + (true).toNat = pathN s (m + 1) := by rw [path_succ _ _ hm9, ← HQ.out, HBB.out]
          refine ⟨m + 1, by omega, by go_num, ?_, o5, vis5, H55.out, u7, s7, k7, OK5.out⟩
          rw [← p7]
          first | rfl | simp
    · have hm9' : m = 9 := by omega
      subst hm9'
      have d9 := hrs.top.c9
      have f9 := hrs.top.f 9
      have HRS := Lib.hid (hrs.count (L.length - 1))
      have HRU := Lib.hid hru
      have HR5 := Lib.hid hr5
      have e : (L.length : Int) - 1 = ((L.length - 1 : Nat) : Int) := by omega
      have E := Lib.hid e
      clear hrs hru hr5 hrk hrko ix z0 z1 z2 z3 z4 z5 z6 z7 z8 c9 c10 f10 c0 e
      go_wp2_with fail
      go_ret2
      refine ⟨by simp [path_nine], o_r, vr, HR5.out, ?_, ⟨?_, ?_⟩⟩
      · exact HRU.out.set _ (.inr (.inl OWB.out))
      · rw [List.length_eraseIdx_of_lt hk]
        have := HRS.out.bits (B' := bitsOf (L.eraseIdx k)) (fun a ha b _ => by unfold mixB; rw [if_pos (by omega)])
        rw [← E.out] at this
        exact this
      · intro x hx
        exact SYM.out x (List.mem_of_mem_eraseIdx hx)
end Go.Proofs.YtnadgcgnediakaaGreatDoor
