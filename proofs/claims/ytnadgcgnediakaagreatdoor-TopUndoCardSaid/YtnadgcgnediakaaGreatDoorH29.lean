/- The walk of slices.Concat at bytes. The walk of store.edit where a block is put in. -/
import Derived.Test.YtnadgcgnediakaaGreatDoorH18
import Derived.Test.YtnadgcgnediakaaGreatDoorH24
import Derived.Laws.AppendOwnNone
import Derived.Test.YtnadgcgnediakaaGreatDoorH23
import Derived.BigQuiet
namespace Go.Proofs.YtnadgcgnediakaaGreatDoor
open Go.ChangeShapes Go.WideShapes Go.ChangeAt Go.RowKit Go.Deep

/-- a slice's value reads as these cells, nil let in -/
def BySl (w : World) (v : Value) (xs : List Value) : Prop := (∀ u ∈ xs, u.oneCell' = true) ∧ ((v = .slice none 0 0 ∧ xs = []) ∨ (∃ b off c, v = .slice (some ⟨b, off, none⟩) xs.length c ∧ b < w.heap.size ∧ ∀ (j : Nat) (u : Value), xs[j]? = some u → w.cell? ⟨b, off + j, none⟩ = some u) ∨ ∃ ad c, v = .slice (some ad) 0 c ∧ xs = [])
theorem BySl.same {w w' : World} {v : Value} {xs : List Value} (h : BySl w v xs) (hs : w.heap.size ≤ w'.heap.size) (hb : ∀ b, b < w.heap.size → w'.heap[b]? = w.heap[b]?) : BySl w' v xs := by
  refine ⟨h.1, ?_⟩
  rcases h.2 with h | ⟨b, off, c, h1, h2, h3⟩ | h
  · exact .inl h
  · exact .inr (.inl ⟨b, off, c, h1, by omega, fun j u hu => by rw [World.cell?_of_block (w := w) (hb b h2)]; exact h3 j u hu⟩)
  · exact .inr (.inr h)
def flat (X : Nat → List Value) : Nat → List Value
  | 0 => []
  | k + 1 => flat X k ++ X k
theorem flat_mono (X : Nat → List Value) {a b : Nat} (h : a ≤ b) : (flat X a).length ≤ (flat X b).length := by
  induction b with
  | zero => obtain rfl : a = 0 := by omega
            exact Nat.le_refl _
  | succ b ih =>
    by_cases e : a = b + 1
    · subst e; exact Nat.le_refl _
    · have := ih (by omega)
      simp only [flat, List.length_append]
      omega
theorem concat_zero (w : World) : Calls Tryz.prog 33 #[.slice none 0 0] w fun e w' => e = .returned (.slice none 0 0) ∧ w' = w := by
  have GR := Lib.hid (Any8.slices_Grow_room Tryz.growL none 0 0 0 w (by omega) (by omega) (by omega) (by omega))
  have GR2 := GR.out
  change Calls Tryz.prog 64 _ _ _ at GR2
  have GH := Lib.hid GR2
  clear GR GR2
  go_enter Tryz.func33, Tryz.ntmps33
  go_wp2_with fail
  refine wp_loop_rounds 1 ?_
  rw [rounds_succ]
  go_wp2_with fail
  refine GH.out.mono ?_
  rintro e w' ⟨rfl, rfl⟩
  go_wp2_with fail
  refine wp_loop_rounds 1 ?_
  rw [rounds_succ]
  go_wp2_with fail
  go_ret
  exact ⟨rfl, rfl⟩
theorem bysl_shape {w : World} {v : Value} {xs : List Value} (h : BySl w v xs) : ∃ a c, v = .slice a xs.length c := by
  rcases h.2 with ⟨rfl, rfl⟩ | ⟨b, off, c, rfl, _⟩ | ⟨ad, c, rfl, rfl⟩
  · exact ⟨_, _, rfl⟩
  · exact ⟨_, _, rfl⟩
  · exact ⟨_, _, rfl⟩
theorem zero5 (k : Nat) : (Builtin.zeroCells (Value.int .u8 0).cells k).size = k := by
  rw [size_zeroCells]
  simp [Value.cells]
set_option maxRecDepth 20000 in
set_option maxHeartbeats 2000000 in
theorem concat_any (pb pc m : Nat) (vs : Nat → Value) (X : Nat → List Value) (w : World) (hm : m < 1000) (hp : ∀ j, j < m → w.cell? ⟨pb, j, none⟩ = some (vs j)) (hpl : pb < w.heap.size) (hX : ∀ j, j < m → BySl w (vs j) (X j)) (ht : (flat X m).length < 100000) :
    Calls Tryz.prog 33 #[.slice (some ⟨pb, 0, none⟩) m pc] w fun e w' => ∃ v, e = .returned v ∧ Below w.heap.size w w' ∧ w'.ownsRow w.heap.size 5 1 v (flat X m).length (flat X m) := by
  have GRR := Lib.hid (show Calls Tryz.prog 64 #[.slice none 0 0, .int .i64 (0 : Nat)] w _ from Any8.slices_Grow_room Tryz.growL none 0 0 0 w (by omega) (by omega) (by omega) (by omega))
  obtain ⟨i0, hi, hz0, hz1, hz2⟩ := info_parts info5
  have GRG := Lib.hid (fun (n : Nat) (hn : 0 < n) (hn2 : n < 100000) => (show Calls Tryz.prog 64 #[.slice none 0 0, .int .i64 n] w _ from Any8.slices_Grow_grow Tryz.growL i0 (.int .u8 0) hi hz0 (by rw [hz1]; omega) none 0 0 n [] w (by omega) (by omega) (by rw [hz2]; omega) (by omega) (by simp) (fun _ => rfl) (fun a h => by cases h)))
  have GC : ∀ n : Nat, n < 100000 → Calls Tryz.prog 64 #[.slice none 0 0, .int .i64 n] w fun e w' => ∃ a cp, e = .returned (.slice a 0 cp) ∧ Below w.heap.size w w' ∧ w'.ownsRow w.heap.size 5 1 (.slice a 0 cp) 0 [] := by
    intro n hn
    rcases Nat.eq_zero_or_pos n with rfl | h0
    · refine GRR.out.mono ?_
      rintro e w' ⟨rfl, rfl⟩
      exact ⟨none, 0, rfl, Below.refl _ _, World.ownsRow_nil _ _ _ _⟩
    · refine (GRG.out n h0 hn).mono ?_
      rintro e w' ⟨rfl, rfl⟩
      refine ⟨_, _, rfl, ((Below.refl _ w).drew).alloc (Nat.le_refl _) _, ⟨rfl, .inr ⟨w.heap.size, _, _, rfl, Nat.le_refl _, heap_alloc_new w.drew _, Nat.zero_le _, grownCap_le_maxLen _ _ _ _ (by unfold maxLen; omega), ?_, by simp⟩⟩⟩
      have := grownCap_ge w (0 + n) 0 (Tryz.growL_ren.t 25)
      rw [Nat.zero_add] at this
      rw [Array.size_append, Array.size_append, zero5, zero5]
      simp
      omega
  have GCH := Lib.hid GC
  have HI := Lib.hid (And.intro hi (And.intro hz0 (And.intro hz1 hz2)))
  clear GC
  have HP := Lib.hid hp
  have HX := Lib.hid hX
  have MO := Lib.hid (fun k (hk : k ≤ m) => flat_mono X hk)
  have HT := Lib.hid ht
  have FS := Lib.hid (fun k => (show flat X (k + 1) = flat X k ++ X k from rfl))
  have HPL := Lib.hid hpl
  clear hi hz0 hz1 hz2 hp hX ht hpl
  go_enter Tryz.func33, Tryz.ntmps33
  go_wp2_with fail
  go_loopg [3, 11] m (fun gg s3 s11 wr => ∃ k : Nat, k + gg = m ∧ s11 = .int .i64 k ∧ s3 = .int .i64 (flat X k).length ∧ wr = w)
  case atStart => exact ⟨0, by omega, rfl, rfl, rfl⟩
  case round =>
    obtain ⟨k, hk, rfl, rfl, hwr⟩ := hrel
    obtain rfl : w = wr := hwr.symm
    by_cases hlt : k < m
    · have hkz : decide ((k : Int) < (m : Nat)) = true := decide_eq_true (by omega)
      have c1 := HP.out k hlt
      obtain ⟨a1, cp1, hv⟩ := bysl_shape (HX.out k hlt)
      rw [hv] at c1
      have b1 := MO.out (k + 1) (by omega)
      have b2 := HT.out
      have e1 := FS.out k
      have e2 : ((flat X k).length : Int) + (X k).length = (flat X (k + 1)).length := by rw [e1, List.length_append]; omega
      have b3 : (flat X k).length < 100000 := by rw [e1, List.length_append] at b1; omega
      have b4 : (X k).length < 100000 := by rw [e1, List.length_append] at b1; omega
      have E2 := Lib.hid e2
      clear hv e1 e2 b1 b2
      generalize (X k).length = n1 at c1 E2 b4
      generalize (flat X k).length = n2 at E2 b3 ⊢
      go_wp2_with fail
      go_roundg (gk - 1)
      case measure => omega
      case rel => exact ⟨k + 1, by omega, by go_num, by rw [E2.out], rfl⟩
    · obtain rfl : k = m := by omega
      have ht := HT.out
      have GC1 := Lib.hid (GCH.out _ ht)
      clear GCH GRR GRG
      have HK := Lib.hid hm
      clear ht hlt
      go_wp2_with fail
      refine GC1.out.mono ?_
      rintro e w1 ⟨a, cp, rfl, hb1, ho1⟩
      have B1 := Lib.hid hb1
      have O1 := Lib.hid ho1
      clear hb1 ho1 GC1
      go_wp2_with fail
      go_loopg [6, 27] k (fun gg s6 s27 wx => ∃ j : Nat, j + gg = k ∧ s27 = .int .i64 j ∧ Aside (Below w.heap.size w wx) ∧ Aside (wx.ownsRow w.heap.size 5 1 s6 (flat X j).length (flat X j)))
      case atStart => exact ⟨0, by omega, rfl, (B1.out : Below _ _ _), (O1.out : World.ownsRow _ _ _ _ _ _ _)⟩
      case round =>
        obtain ⟨j, hj, rfl, hbx, hox⟩ := hrel
        by_cases hlt : j < k
        · have hkz : decide ((j : Int) < (k : Nat)) = true := decide_eq_true (by omega)
          have hbel := hbx.out
          have c1 : wr.cell? ⟨pb, j, none⟩ = some (vs j) := (hbel.cell (p := ⟨pb, j, none⟩) HPL.out).trans (HP.out j hlt)
          have bs := (HX.out j hlt).same hbel.size (fun b hb => hbel.block b hb)
          have b1 := MO.out (j + 1) (by omega)
          have b2 := HT.out
          have e1 := FS.out j
          have b3 : (flat X j).length + (X j).length < 100000 := by rw [e1, List.length_append] at b1; omega
          have hsz := hbel.size
          obtain ⟨va, vc, hva⟩ := own_shape hox.out
          subst hva
          have OX := Lib.hid hox.out
          have BX := Lib.hid hbel
          have NEW := Lib.hid (fun v1 (w2 : World) (ho : w2.ownsRow w.heap.size 5 1 v1 ((flat X j).length + (X j).length) (flat X j ++ X j)) => (show w2.ownsRow w.heap.size 5 1 v1 (flat X (j + 1)).length (flat X (j + 1)) from by rw [e1, List.length_append]; exact ho))
          rcases bs.2 with ⟨hv, hx0⟩ | ⟨b, off, c, hv, hbl, hcl⟩ | ⟨ad, c, hv, hx0⟩
          · rw [hv] at c1
            clear bs e1 hv hbel b1 b2
            go_wp2_with (first | (at_builtin; go_loud (refine wpList_append_own_none rfl _ _ 22 rfl w.heap.size 5 i0 1 Tryz.underlying22 HI.out.1 _ _ _ rfl OX.out rfl ?_)) | fail)
            go_roundg (gk - 1)
            case measure => omega
            case rel => exact ⟨j + 1, by omega, by go_num, (BX.out : Below w.heap.size w _), (NEW.out _ _ (by rw [hx0]; simpa using OX.out) : World.ownsRow _ _ _ _ _ _ _)⟩
          · rw [hv] at c1
            have NX := Lib.hid (show ∀ (i : Nat) (u : Value), (X j)[i]? = some u → wr.cell? ((⟨b, off, none⟩ : Addr).add i) = some u from fun i u hu => by
              rw [show (⟨b, off, none⟩ : Addr).add i = ⟨b, off + i, none⟩ from by unfold Addr.add; split <;> simp_all]
              exact hcl i u hu)
            have ONE := Lib.hid bs.1
            clear bs e1 hv hbel b1 b2 hcl
            go_wp2_with (first | (at_builtin; go_loud (refine wpList_append_own _ rfl _ _ 22 rfl w.heap.size 5 i0 (.int .u8 0) 1 1 Tryz.underlying22 HI.out.1 HI.out.2.1 HI.out.2.2.1 HI.out.2.2.2 rfl (by decide) _ _ _ rfl OX.out ⟨b, off, none⟩ _ c (X j) rfl (by simp) NX.out ONE.out (by unfold maxLen; omega) (by omega) hsz ?_)) | fail)
            intro v1 w2 hown hgr _
            have N1 := Lib.hid (NEW.out v1 w2 hown)
            have B2 := Lib.hid (show Below w.heap.size w w2 from BX.out.grown hgr BX.out.size (fun k hk => (OX.out.lt k hk).1))
            clear hown hgr
            go_wp2_with fail
            go_roundg (gk - 1)
            case measure => omega
            case rel => exact ⟨j + 1, by omega, by go_num, (B2.out : Below w.heap.size w _), N1.out⟩
          · rw [hv] at c1
            have NN := Lib.hid (NEW.out)
            rw [hx0] at NN b3
            clear bs e1 hv hbel b1 b2
            go_wp2_with (first | (at_builtin; go_loud (refine wpList_append_own _ rfl _ _ 22 rfl w.heap.size 5 i0 (.int .u8 0) 1 1 Tryz.underlying22 HI.out.1 HI.out.2.1 HI.out.2.2.1 HI.out.2.2.2 rfl (by decide) _ _ _ rfl OX.out ad 0 c [] rfl (by simp) (by simp) (by simp) (by unfold maxLen; simp at b3; omega) (by simp at b3; omega) hsz ?_)) | fail)
            intro v1 w2 hown hgr _
            have N1 := Lib.hid (NN.out v1 w2 (by simpa using hown))
            have B2 := Lib.hid (show Below w.heap.size w w2 from BX.out.grown hgr BX.out.size (fun k hk => (OX.out.lt k hk).1))
            clear hown hgr
            go_wp2_with fail
            go_roundg (gk - 1)
            case measure => omega
            case rel => exact ⟨j + 1, by omega, by go_num, (B2.out : Below w.heap.size w _), N1.out⟩
        · obtain rfl : j = k := by omega
          go_wp2_with fail
          go_ret
          exact ⟨_, rfl, hbx.out, hox.out⟩
end Go.Proofs.YtnadgcgnediakaaGreatDoor
namespace Go.Proofs.YtnadgcgnediakaaGreatDoor
open Go.ChangeShapes Go.WideShapes Go.ChangeAt Go.RowKit Go.Deep

/-- letters with the first bytes of a block put in -/
def sInM (s : Nat → Nat) (a : Nat) (z : Nat → Fin 256) : Nat → Nat → Nat
  | 0 => s
  | j + 1 => Wd.sIn (sInM s a z j) (a + j) ((z j).1 + 1)
/-- a block's bytes -/
def byV (z : Nat → Fin 256) (n : Nat) : List Value := (List.range n).map fun j => .int .u8 ((z j).1 : Nat)
theorem byV_get (z : Nat → Fin 256) (n j : Nat) (h : j < n) : (byV z n)[j]? = some (.int .u8 ((z j).1 : Nat)) := by
  unfold byV
  rw [List.getElem?_map, List.getElem?_range h]
  rfl
theorem byV_len (z : Nat → Fin 256) (n : Nat) : (byV z n).length = n := by unfold byV; simp
/-- a slice of the caller's own -/
def Mine (o : Nat → Nat) (v : Value) : Prop := ∀ b off m c, v = .slice (some ⟨b, off, none⟩) m c → 0 < m → ¬ gl (o b)
/-- how far a text has grown -/
def Grows (o : Nat → Nat) (w : World) (A : At) (lb pb rate N : Nat) (s : Nat → Nat) (all : Nat) (wr : World) : Prop :=
  ∃ ix S L C, Arr N s ix L C all ∧ Wd.Cons N s ix ∧ Wd.Cov S N rate ∧ RdL o w A lb pb rate N ix S L C all wr
section
variable {o : Nat → Nat} {w : World} {A : At} {lb pb rate N sb most : Nat} {s ix : Nat → Nat} {S : Nat → Bool} {L : List Nat} {C : Nat → Nat} {all : Nat}
theorem Grows.upd {wr : World} (h : Grows o w A lb pb rate N s all wr) : ∃ o', Upd o gl w wr o' ∧ No5 o' := by
  obtain ⟨_, _, _, _, _, _, _, o', u, k⟩ := h
  exact ⟨o', u, k.n5⟩
theorem Grows.from {o1 : Nat → Nat} {w1 wr : World} (h : Grows o1 w1 A lb pb rate N s all wr) (u : Upd o gl w w1 o1) : Grows o w A lb pb rate N s all wr := by
  obtain ⟨ix, S, L, C, h1, h2, h3, o', u', k⟩ := h
  exact ⟨ix, S, L, C, h1, h2, h3, o', u.trans u' (fun _ h => h), k⟩
theorem Grows.drewN {wr : World} (h : Grows o w A lb pb rate N s all wr) (m : Nat) : Grows o w A lb pb rate N s all (wr.drewN m) := by
  obtain ⟨ix, S, L, C, h1, h2, h3, h4⟩ := h
  exact ⟨ix, S, L, C, h1, h2, h3, h4.drewN m⟩
theorem Grows.insert {wr : World} (h : Grows o w A lb pb rate N s all wr) (hN : N ≤ 110) (hr1 : 1 ≤ rate) (hr2 : rate ≤ 64) (a b : Nat) (ha : a ≤ N) (hb : b < 256) :
    Calls Tryz.prog 41 #[.pointer (some ⟨lb, 0, none⟩), .int .i64 a, .int .u8 b] wr fun e w' => e = .returned (.int .i64 0) ∧ Grows o w A lb pb rate (N + 1) (Wd.sIn s a (b + 1)) (all + 1) w' := by
  obtain ⟨ix, S, L, C, h1, h2, h3, h4⟩ := h
  exact (linsert_any h4 h1 h2 h3 hN hr1 hr2 a b ha hb).mono fun e w' ⟨q, ix', S', L', C', r⟩ => ⟨q, ix', S', L', C', r⟩
theorem BySl.cell_at {wz : World} {dv : Value} {z : Nat → Fin 256} {n : Nat} (h : BySl wz dv (byV z n)) {j : Nat} (hj : j < n) : ∃ b off c, dv = .slice (some ⟨b, off, none⟩) n c ∧ b < wz.heap.size ∧ wz.cell? ⟨b, off + j, none⟩ = some (.int .u8 ((z j).1 : Nat)) := by
  rcases h.2 with ⟨_, h⟩ | ⟨b, off, c, h1, h2, h3⟩ | ⟨_, _, _, h⟩
  · have := byV_len z n
    rw [h] at this
    simp at this
    omega
  · exact ⟨b, off, c, by rw [h1, byV_len], h2, h3 j _ (byV_get z n j hj)⟩
  · have := byV_len z n
    rw [h] at this
    simp at this
    omega
set_option maxHeartbeats 2000000 in
theorem sedit_any (h : IsLive w o A lb pb rate N ix S L C all) (hs : w.heap[sb]? = some (stC lb most)) (os : o sb = 3) (ar : Arr N s ix L C all) (hc : Wd.Cons N s ix) (hcov : Wd.Cov S N rate) (n : Nat) (hN : N + n ≤ 110) (hr1 : 1 ≤ rate) (hr2 : rate ≤ 64) (a : Nat) (ha : a ≤ N) (hm : N + n ≤ most) (hm2 : most < 1000)
    (k : Int) (dv : Value) (z : Nat → Fin 256) (hd : BySl w dv (byV z n)) (od : Mine o dv) :
    Calls Tryz.prog 14 #[.pointer (some ⟨sb, 0, none⟩), .agg #[.int .i64 1, .int .i64 a, .int .i64 k, dv]] w fun e w' => e = .returned (.int .i64 0) ∧ Grows o w A lb pb rate (N + n) (sInM s a z n) (all + n) w' := by
  obtain ⟨W, hW⟩ : ∃ W, W = w.alloc (.cells #[.int .i64 1, .int .i64 a, .int .i64 k, dv] 33) := ⟨_, rfl⟩
  have u1 : Upd o gl w W (ext o w.heap.size 6) := by rw [hW]; exact (Upd.start o gl w 6).alloc _
  have u1' : Upd o (fun _ => False) w W (ext o w.heap.size 6) := by rw [hW]; exact (Upd.start o (fun _ => False) w 6).alloc _
  have k1 : IsLive W (ext o w.heap.size 6) A lb pb rate N ix S L C all := h.keep u1' (ext_no5 h.n5 _ (by omega)) (by simp)
  have hbx : W.heap[w.heap.size]? = some (.cells #[.int .i64 1, .int .i64 a, .int .i64 k, dv] 33 (0, 0)) := by rw [hW]; exact heap_alloc_new w _
  have hs1 := u1'.heap hs (by simp)
  have G0 : Grows (ext o w.heap.size 6) W A lb pb rate (N + 0) (sInM s a z 0) (all + 0) W := ⟨ix, S, L, C, ar, hc, hcov, RdL.refl k1⟩
  have hd1 : BySl W dv (byV z n) := hd.same u1'.size (fun b hb => u1'.same b hb (by simp))
  have od1 : Mine (ext o w.heap.size 6) dv := by
    rintro b off m c rfl hm0
    rcases hd.2 with ⟨e, _⟩ | ⟨b2, off2, c2, e, hb, _⟩ | ⟨ad, c2, e, _⟩
    · cases e
    · cases e
      rw [ext_old hb]
      exact od _ _ _ _ rfl hm0
    · cases e
      unfold ext
      split
      · exact od _ _ _ _ rfl hm0
      · unfold gl; omega
  have HAS := Lib.hid (shas_any (RdL.refl k1) hs1.1 ar.len (by omega) a 0)
  have hq : hasQ N a 0 = true := by unfold hasQ; simp; omega
  rw [hq] at HAS
  have LL := Lib.hid (show ∀ nq, Calls Tryz.prog 15 #[.pointer (some ⟨lb, 0, none⟩)] (W.drewN nq) fun e w' => e = .returned (.int .i64 N) ∧ ∃ m, w' = (W.drewN nq).drewN m from fun nq => (llen_any ((RdL.refl k1).drewN nq) ar.len (by omega)).mono fun e w' ⟨h1, h2⟩ => ⟨h1, 0, h2.symm⟩)
  have U1 := Lib.hid u1
  have BX := Lib.hid (And.intro hbx (show ext o w.heap.size 6 w.heap.size = 6 from ext_new (Nat.le_refl _)))
  have ST := Lib.hid (And.intro hs1.1 (hs1.2.trans os))
  have G := Lib.hid G0
  have OD := Lib.hid od1
  have BD := Lib.hid hd1
  have HW := Lib.hid hW
  have c0 : W.cell? ⟨w.heap.size, 0, none⟩ = some (.int .i64 1) := by rw [Joins.cell_of_block hbx]; rfl
  have c1 : W.cell? ⟨w.heap.size, 1, none⟩ = some (.int .i64 a) := by rw [Joins.cell_of_block hbx]; rfl
  have c2 : W.cell? ⟨w.heap.size, 2, none⟩ = some (.int .i64 k) := by rw [Joins.cell_of_block hbx]; rfl
  have c3 : W.cell? ⟨w.heap.size, 3, none⟩ = some dv := by rw [Joins.cell_of_block hbx]; rfl
  have s0 := stC_0 hs1.1
  have s1 := stC_1 hs1.1
  have hmN : IntKind.i64.wrap ((most : Int) - N) = most - N := by rw [IntKind.wrap_i64]; omega
  have hlt : decide ((most : Int) - N < n) = false := decide_eq_false (by omega)
  obtain ⟨da, dn, dc, hdv, hda⟩ : ∃ da dn dc, dv = .slice da dn dc ∧ dn = n := by
    rcases hd.2 with ⟨e, e2⟩ | ⟨b, off, c, e, _⟩ | ⟨ad, c, e, e2⟩
    · refine ⟨_, _, _, e, ?_⟩
      have := byV_len z n
      rw [e2] at this
      exact this
    · exact ⟨_, _, _, e, byV_len z n⟩
    · refine ⟨_, _, _, e, ?_⟩
      have := byV_len z n
      rw [e2] at this
      exact this
  subst hdv hda
  clear h hs os ar hc hcov hd od u1 u1' k1 hbx hs1 G0 hd1 od1 hq
  go_enter Tryz.func14, Tryz.ntmps14
  go_wp2_with fail
  rw [← HW.out]
  clear HW hW
  refine HAS.out.mono ?_
  rintro e w' ⟨rfl, rfl⟩
  go_wp2_with fail
  go_quiet (first | (go_at_call 15; exact Calls.quiet_of (LL.out _)))
  go_wp2_with fail
  go_loopg [65] dn (fun gg s65 wr => ∃ j : Nat, j + gg = dn ∧ s65 = .int .i64 j ∧ Aside (Grows (ext o w.heap.size 6) W A lb pb rate (N + j) (sInM s a z j) (all + j) wr))
  case atStart => exact ⟨0, by omega, rfl, (G.out.drewN nq : Grows _ _ _ _ _ _ _ _ _ _)⟩
  case round =>
    obtain ⟨j, hj, rfl, g⟩ := hrel
    clear c0 c1 c2 c3 s0 s1
    by_cases hjn : j < dn
    · have hjz : decide ((j : Int) < (dn : Int)) = true := decide_eq_true (by omega)
      obtain ⟨o2, u2, _⟩ := g.out.upd
      have hbx := (u2.heap BX.out.1 (by rw [BX.out.2]; unfold gl; omega)).1
      have hst := (u2.heap ST.out.1 (by rw [ST.out.2]; unfold gl; omega)).1
      obtain ⟨b, off, c, hdv, hbl, hcl⟩ := BD.out.cell_at hjn
      cases hdv
      have d0 : wr.cell? ⟨b, off + j, none⟩ = some (.int .u8 ((z j).1 : Nat)) := by rw [World.cell?_of_block (w := W) (u2.same b hbl (OD.out _ _ _ _ rfl (by omega)))]; exact hcl
      have c0 : wr.cell? ⟨w.heap.size, 0, none⟩ = some (.int .i64 1) := by rw [Joins.cell_of_block hbx]; rfl
      have c1 : wr.cell? ⟨w.heap.size, 1, none⟩ = some (.int .i64 a) := by rw [Joins.cell_of_block hbx]; rfl
      have s0 := stC_0 hst
      have LI := Lib.hid (((g.out.drewN 1).insert (by omega) hr1 hr2 (a + j) (z j).1 (by omega) (z j).2))
      have hwa : IntKind.i64.wrap ((a : Int) + j) = (a + j : Nat) := by rw [IntKind.wrap_i64]; omega
      obtain ⟨zb, hzb⟩ : ∃ zb, zb = (z j).1 := ⟨_, rfl⟩
      rw [← hzb] at d0 LI
      have HZ := Lib.hid (show ∀ w3, Grows (ext o w.heap.size 6) W A lb pb rate (N + j + 1) (Wd.sIn (sInM s a z j) (a + j) (zb + 1)) (all + j + 1) w3 → Grows (ext o w.heap.size 6) W A lb pb rate (N + (j + 1)) (sInM s a z (j + 1)) (all + (j + 1)) w3 by rw [hzb]; intro w3 h; exact h)
      clear hzb
      clear g u2 hbx hst hcl
      go_wp2_with fail
      go_region_with (first | (go_at_call 41; refine LI.out.mono ?_; rintro e w3 ⟨rfl, g3⟩; have G3 := Lib.hid g3; clear g3))
      all_goals go_wp2_with fail
      all_goals go_roundg (gk - 1)
      all_goals first
        | omega
        | exact ⟨j + 1, by omega, by go_num, HZ.out _ G3.out⟩
    · have hjz : decide ((j : Int) < (dn : Int)) = false := decide_eq_false (by omega)
      obtain rfl : j = dn := by omega
      go_wp2_with fail
      go_ret
      exact ⟨rfl, g.out.from U1.out⟩
end
end Go.Proofs.YtnadgcgnediakaaGreatDoor
