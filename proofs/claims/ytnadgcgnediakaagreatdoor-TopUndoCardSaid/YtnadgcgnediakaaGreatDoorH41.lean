/- Plain: what is put in and taken out leaves the letters as they were; the bytes of a snapshot. Bytes beside a live text: rows of their own. The walk of snap.part. The walk of snap.Save. The walk of store.Save. -/
import Derived.Test.YtnadgcgnediakaaGreatDoorH40
import Derived.Test.YtnadgcgnediakaaGreatDoorH14
import Derived.Test.YtnadgcgnediakaaGreatDoorH25
import Derived.Test.YtnadgcgnediakaaGreatDoorH38
import Derived.Test.YtnadgcgnediakaaGreatDoorH29
import Derived.Test.YtnadgcgnediakaaGreatDoorH24
import Derived.Test.YtnadgcgnediakaaGreatDoorH23
import Derived.Lib.SlBytesConst
import Derived.Deep.RegionHeld3
namespace Go.Proofs.YtnadgcgnediakaaGreatDoor
open Go.ChangeShapes Go.WideShapes Go.ChangeAt Go.RowKit Go.Deep

theorem sInM_val (s : Nat → Nat) (a : Nat) (z : Nat → Fin 256) : ∀ n p, sInM s a z n p = if p < a then s p else if p < a + n then (z (p - a)).1 + 1 else s (p - n)
  | 0, p => by
    show s p = _
    by_cases h : p < a
    · rw [if_pos h]
    · rw [if_neg h, if_neg (by omega)]
      rfl
  | n + 1, p => by
    have ih := sInM_val s a z n
    show Wd.sIn (sInM s a z n) (a + n) ((z n).1 + 1) p = _
    unfold Wd.sIn
    rw [ih, ih]
    by_cases h1 : p < a
    · rw [if_pos (by omega), if_pos h1, if_pos h1]
    · rw [if_neg h1]
      by_cases h2 : p < a + n
      · rw [if_pos h2, if_pos h2, if_neg h1, if_pos (by omega)]
      · rw [if_neg h2]
        by_cases h3 : p = a + n
        · have e1 : p < a + (n + 1) := by omega
          have e2 : p - a = n := by omega
          rw [if_pos h3, if_neg h1, if_pos e1, e2]
        · have e1 : ¬ p < a + (n + 1) := by omega
          have e2 : ¬ p - 1 < a := by omega
          have e3 : ¬ p - 1 < a + n := by omega
          have e4 : p - 1 - n = p - (n + 1) := by omega
          rw [if_neg h3, if_neg h1, if_neg e1, if_neg e2, if_neg e3, e4]
theorem sOutM_val (s : Nat → Nat) (a : Nat) : ∀ n p, sOutM s a n p = if p < a then s p else s (p + n)
  | 0, p => by
    show s p = _
    split <;> rfl
  | n + 1, p => by
    have ih := sOutM_val s a n
    show Wd.sOut (sOutM s a n) a p = _
    unfold Wd.sOut
    rw [ih]
    unfold Wd.bkp
    by_cases h1 : p < a
    · rw [if_pos h1, if_pos h1, if_pos h1]
    · rw [if_neg h1, if_neg h1, if_neg (by omega), show p + 1 + n = p + (n + 1) by omega]
/-- what is put in and taken out again -/
theorem out_in (s : Nat → Nat) (a : Nat) (z : Nat → Fin 256) (n : Nat) : sOutM (sInM s a z n) a n = s := by
  funext p
  rw [sOutM_val, sInM_val, sInM_val]
  by_cases h1 : p < a
  · rw [if_pos h1, if_pos h1]
  · rw [if_neg h1, if_neg (by omega), if_neg (by omega), show p + n - n = p by omega]
/-- bytes -/
def Byt (l : List Nat) : Prop := ∀ b, b ∈ l → b < 256
theorem Byt.app {a b : List Nat} (h : Byt a) (k : Byt b) : Byt (a ++ b) := fun x hx => (List.mem_append.1 hx).elim (h x) (k x)
theorem byt_put : ∀ (vs : List Nat), (∀ v, v ∈ vs → v < 16384) → Byt (putL vs)
  | [], _ => by intro x hx; simp [putL] at hx
  | v :: vs, h => by
    have h1 := byt_put vs fun x hx => h x (List.mem_cons_of_mem _ hx)
    have h2 := h v List.mem_cons_self
    have e : putL (v :: vs) = putB v ++ putL vs := rfl
    rw [e]
    refine Byt.app ?_ h1
    unfold putB
    split
    · intro x hx
      simp at hx
      omega
    · intro x hx
      simp at hx
      omega
theorem byt_fix (s : Nat) : ∀ k, Byt (fixB s k)
  | 0 => by intro x hx; simp [fixB] at hx
  | k + 1 => by
    rw [fixB]
    refine Byt.app (byt_fix s k) fun x hx => ?_
    simp at hx
    omega
theorem byt_rput : ∀ (rs : List (Nat × Nat)), (∀ p, p ∈ rs → p.1 < 16384 ∧ p.2 < 16384) → Byt (rputL rs)
  | [], _ => by intro x hx; simp [rputL] at hx
  | p :: rs, h => by
    have h1 := byt_rput rs fun x hx => h x (List.mem_cons_of_mem _ hx)
    have h2 := h p List.mem_cons_self
    have e : rputL (p :: rs) = putL [p.1, p.2] ++ rputL rs := rfl
    rw [e]
    refine Byt.app (byt_put _ fun v hv => ?_) h1
    simp at hv
    omega
/-- bytes' sum -/
def crcN (l : List Nat) : Nat := (Crc.more 0#32 (l.map (BitVec.ofNat 8))).toNat
theorem crcN_lt (l : List Nat) : crcN l < 4294967296 := (Crc.more 0#32 (l.map (BitVec.ofNat 8))).isLt
/-- a part -/
def partB (l : List Nat) : List Nat := putL [l.length] ++ (l ++ fixB (crcN l) 4)
theorem partB_len (l : List Nat) : (partB l).length ≤ l.length + 6 := by
  have h := putL_len [l.length]
  have h2 := fixB_len (crcN l) 4
  unfold partB
  rw [List.length_append, List.length_append]
  simp at h
  omega
theorem byt_part {l : List Nat} (h : Byt l) (hl : l.length < 16384) : Byt (partB l) :=
  (byt_put _ fun v hv => by simp at hv; omega).app (h.app (byt_fix _ _))
/-- the sampled rows' bytes -/
def secL (ix : Nat → Nat) (rate : Nat) : Nat → List Nat
  | 0 => []
  | k + 1 => secL ix rate k ++ putL [ix (k * rate)]
theorem secL_len (ix : Nat → Nat) (rate : Nat) : ∀ k, (secL ix rate k).length ≤ 2 * k
  | 0 => Nat.le_refl _
  | k + 1 => by
    have h1 := secL_len ix rate k
    have h2 := putL_len [ix (k * rate)]
    rw [secL, List.length_append]
    simp at h2
    omega
theorem secL_congr {ix iy : Nat → Nat} {rate : Nat} : ∀ k, (∀ j, j < k → ix (j * rate) = iy (j * rate)) → secL ix rate k = secL iy rate k
  | 0, _ => rfl
  | k + 1, h => by rw [secL, secL, secL_congr k (fun j hj => h j (by omega)), h k (by omega)]
theorem byt_sec {ix : Nat → Nat} {rate : Nat} : ∀ k, (∀ j, j < k → ix (j * rate) < 16384) → Byt (secL ix rate k)
  | 0, _ => by intro x hx; simp [secL] at hx
  | k + 1, h => by
    rw [secL]
    refine (byt_sec k fun j hj => h j (by omega)).app (byt_put _ fun v hv => ?_)
    simp at hv
    have := h k (by omega)
    omega
def firL (L : List Nat) : List Nat := putL [(runL L).length] ++ rputL (runL L)
def bodyB (L : List Nat) (ix : Nat → Nat) (N most rate : Nat) : List Nat := [83, 75, 82, 49] ++ putL [most, rate, N] ++ partB (firL L) ++ partB (secL ix rate (N / rate + 1))
/-- a snapshot -/
def saveB (L : List Nat) (ix : Nat → Nat) (N most rate : Nat) : List Nat := bodyB L ix N most rate ++ fixB (crcN (bodyB L ix N most rate)) 4
/-- the letters alone tell the snapshot -/
theorem saveB_uniq {N most rate : Nat} {s ix iy : Nat → Nat} {L M : List Nat} {C D : Nat → Nat} {all al2 : Nat} (h1 : Arr N s ix L C all) (h2 : Arr N s iy M D al2) (c1 : Wd.Cons N s ix) (c2 : Wd.Cons N s iy) : saveB L ix N most rate = saveB M iy N most rate := by
  have hix : ∀ p, p ≤ N → ix p = iy p := fun p hp => by rw [ix_cnt h1.rows c1 h1.s0 h1.sp p hp, ix_cnt h2.rows c2 h2.s0 h2.sp p hp]
  have hL : L = M := by
    refine List.ext_getElem (h1.len.trans h2.len.symm) fun r hr1 hr2 => ?_
    have hrN : r ≤ N := by have := h1.len; omega
    obtain ⟨pl, hpl⟩ := h1.place
    obtain ⟨p, hp, e⟩ : ∃ p, p ≤ N ∧ ix (Wd.nx N p) = r := by
      have := hpl r (by omega)
      by_cases h0 : pl r = 0
      · exact ⟨N, Nat.le_refl _, by rw [show Wd.nx N N = 0 from by unfold Wd.nx; rw [if_pos rfl], ← h0]; exact this.2⟩
      · exact ⟨pl r - 1, by omega, by rw [show Wd.nx N (pl r - 1) = pl r from by unfold Wd.nx; rw [if_neg (by omega)]; omega]; exact this.2⟩
    have e1 := h1.isL p hp
    have e2 := h2.isL p hp
    have hn : Wd.nx N p ≤ N := by unfold Wd.nx; split <;> omega
    rw [← hix _ hn] at e2
    rw [e] at e1 e2
    simp only [List.getD_eq_getElem?_getD] at e1 e2
    rw [List.getElem?_eq_getElem hr1] at e1
    rw [List.getElem?_eq_getElem hr2] at e2
    exact e1.trans e2.symm
  subst hL
  have hs : secL ix rate (N / rate + 1) = secL iy rate (N / rate + 1) := secL_congr _ fun j hj => hix _ (by
    have := Nat.div_mul_le_self N rate
    have := Nat.mul_le_mul_right rate (show j ≤ N / rate by omega)
    omega)
  unfold saveB bodyB
  rw [hs]
end Go.Proofs.YtnadgcgnediakaaGreatDoor
namespace Go.Proofs.YtnadgcgnediakaaGreatDoor
open Go.ChangeShapes Go.WideShapes Go.ChangeAt Go.RowKit Go.Deep

/-- a row of bytes as a slice -/
theorem own_bysl {w : World} {base n : Nat} {v : Value} {l : List Nat} (h : w.ownsRow base 5 1 v n (u8V l)) : BySl w v (u8V l) := by
  refine ⟨u8V_one_cell l, ?_⟩
  have hn : (u8V l).length = n := by have := h.1; rw [Nat.mul_one] at this; exact this
  rcases h.2 with ⟨e, h0⟩ | ⟨g, cap, cur, e, hb, hg, _⟩
  · rw [h0] at hn
    exact .inl ⟨e, List.eq_nil_of_length_eq_zero hn⟩
  · subst e
    refine .inr (.inl ⟨g, 0, cap, by rw [hn], lt_of_block hg, fun j u hu => ?_⟩)
    rw [Nat.zero_add]
    exact owns_cell h j u hu
theorem W_ofNat (b : Nat) (h : b < 256) : Ck.W (BitVec.ofNat 8 b) = (b : Nat) := by
  unfold Ck.W
  rw [BitVec.toNat_ofNat, Nat.mod_eq_of_lt (by omega)]
/-- a row of bytes as a part of a sum -/
theorem own_part {w : World} {base n c : Nat} {a : Option Addr} {l : List Nat} (h : w.ownsRow base 5 1 (.slice a n c) n (u8V l)) (hb : Byt l) (hn : n ≤ 1000000) : Ck.Part.at w w.heap.size ⟨a, n, c, l.map (BitVec.ofNat 8)⟩ := by
  have hl : l.length = n := by have := h.1; rw [Nat.mul_one, u8V_len] at this; exact this
  refine ⟨⟨by rw [List.length_map]; exact hl, fun h0 => ?_⟩, by show n ≤ _; omega⟩
  obtain ⟨g, cap, e, hg1, hg2⟩ := own_form h h0
  cases e
  refine ⟨g, 0, rfl, hg2, fun i x hi => ?_⟩
  rw [List.getElem?_map] at hi
  obtain ⟨b, hb1, hb2⟩ := Option.map_eq_some_iff.1 hi
  subst hb2
  rw [W_ofNat b (hb b (List.mem_of_getElem? hb1)), Nat.zero_add]
  refine owns_cell h i _ ?_
  unfold u8V
  rw [List.getElem?_map, hb1]
  rfl
/-- the sum of one row -/
theorem csum_any (l : List Nat) (w : World) (base n c : Nat) (a : Option Addr) (h : w.ownsRow base 5 1 (.slice a n c) n (u8V l)) (hb : Byt l) (hn : n ≤ 1000000) :
    Calls Tryz.prog 57 #[.slice (some ⟨w.heap.size, 0, none⟩) 1 1] (w.alloc (.cells #[.slice a n c] 22)) fun e w' => e = .returned (.int .u32 (crcN l : Nat)) ∧ Below w.heap.size w w' := by
  refine (Ck.of_one ⟨a, n, c, l.map (BitVec.ofNat 8)⟩ _ w.heap.size (by simp) (own_part (own_alloc h _) hb hn) (by rw [Joins.cell_of_block (heap_alloc_new w _)]; rfl)).mono ?_
  rintro e w' ⟨rfl, b⟩
  exact ⟨rfl, ((Below.refl w.heap.size w).alloc (Nat.le_refl _) _).trans (b.mono (by simp))⟩
theorem BySl.alloc {w : World} {v : Value} {xs : List Value} (h : BySl w v xs) (x : Obj) : BySl (w.alloc x) v xs := h.same (by simp) fun b hb => Below.heap_alloc _ _ _ hb
/-- three rows in one -/
theorem cat3 (w : World) (v0 v1 v2 : Value) (l0 l1 l2 : List Nat) (h0 : BySl w v0 (u8V l0)) (h1 : BySl w v1 (u8V l1)) (h2 : BySl w v2 (u8V l2)) (ht : l0.length + l1.length + l2.length < 100000) :
    Calls Tryz.prog 33 #[.slice (some ⟨w.heap.size, 0, none⟩) 3 3] (w.alloc (.cells #[v0, v1, v2] 22)) fun e w' => ∃ v, e = .returned v ∧ Below w.heap.size w w' ∧ w'.ownsRow w.heap.size 5 1 v (l0 ++ (l1 ++ l2)).length (u8V (l0 ++ (l1 ++ l2))) := by
  have hf : flat (fun j => if j = 0 then u8V l0 else if j = 1 then u8V l1 else u8V l2) 3 = u8V (l0 ++ (l1 ++ l2)) := by
    rw [u8V_app, u8V_app]
    simp [flat]
  have hl : (u8V (l0 ++ (l1 ++ l2))).length = (l0 ++ (l1 ++ l2)).length := u8V_len _
  have hg : (w.alloc (.cells #[v0, v1, v2] 22)).heap[w.heap.size]? = some (.cells #[v0, v1, v2] 22 (0, 0)) := heap_alloc_new w _
  refine (concat_any w.heap.size 3 3 (fun j => if j = 0 then v0 else if j = 1 then v1 else v2) (fun j => if j = 0 then u8V l0 else if j = 1 then u8V l1 else u8V l2) _ (by omega) (fun j hj => ?_) (by simp) (fun j hj => ?_) (by rw [hf, hl]; simp only [List.length_append]; omega)).mono ?_
  · match j, hj with
    | 0, _ => rw [Joins.cell_of_block hg]; rfl
    | 1, _ => rw [Joins.cell_of_block hg]; rfl
    | 2, _ => rw [Joins.cell_of_block hg]; rfl
  · match j, hj with
    | 0, _ => exact h0.alloc _
    | 1, _ => exact h1.alloc _
    | 2, _ => exact h2.alloc _
  · rintro e w' ⟨v, rfl, b, r⟩
    rw [hf, hl] at r
    exact ⟨v, rfl, ((Below.refl w.heap.size w).alloc (Nat.le_refl _) _).trans (b.mono (by simp)), own_base r (by simp)⟩
/-- four rows in one -/
theorem cat4 (w : World) (v0 v1 v2 v3 : Value) (l0 l1 l2 l3 : List Nat) (h0 : BySl w v0 (u8V l0)) (h1 : BySl w v1 (u8V l1)) (h2 : BySl w v2 (u8V l2)) (h3 : BySl w v3 (u8V l3)) (ht : l0.length + l1.length + l2.length + l3.length < 100000) :
    Calls Tryz.prog 33 #[.slice (some ⟨w.heap.size, 0, none⟩) 4 4] (w.alloc (.cells #[v0, v1, v2, v3] 22)) fun e w' => ∃ v, e = .returned v ∧ Below w.heap.size w w' ∧ w'.ownsRow w.heap.size 5 1 v (l0 ++ l1 ++ l2 ++ l3).length (u8V (l0 ++ l1 ++ l2 ++ l3)) := by
  have hf : flat (fun j => if j = 0 then u8V l0 else if j = 1 then u8V l1 else if j = 2 then u8V l2 else u8V l3) 4 = u8V (l0 ++ l1 ++ l2 ++ l3) := by
    rw [u8V_app, u8V_app, u8V_app]
    simp [flat]
  have hl : (u8V (l0 ++ l1 ++ l2 ++ l3)).length = (l0 ++ l1 ++ l2 ++ l3).length := u8V_len _
  have hg : (w.alloc (.cells #[v0, v1, v2, v3] 22)).heap[w.heap.size]? = some (.cells #[v0, v1, v2, v3] 22 (0, 0)) := heap_alloc_new w _
  refine (concat_any w.heap.size 4 4 (fun j => if j = 0 then v0 else if j = 1 then v1 else if j = 2 then v2 else v3) (fun j => if j = 0 then u8V l0 else if j = 1 then u8V l1 else if j = 2 then u8V l2 else u8V l3) _ (by omega) (fun j hj => ?_) (by simp) (fun j hj => ?_) (by rw [hf, hl]; simp only [List.length_append]; omega)).mono ?_
  · match j, hj with
    | 0, _ => rw [Joins.cell_of_block hg]; rfl
    | 1, _ => rw [Joins.cell_of_block hg]; rfl
    | 2, _ => rw [Joins.cell_of_block hg]; rfl
    | 3, _ => rw [Joins.cell_of_block hg]; rfl
  · match j, hj with
    | 0, _ => exact h0.alloc _
    | 1, _ => exact h1.alloc _
    | 2, _ => exact h2.alloc _
    | 3, _ => exact h3.alloc _
  · rintro e w' ⟨v, rfl, b, r⟩
    rw [hf, hl] at r
    exact ⟨v, rfl, ((Below.refl w.heap.size w).alloc (Nat.le_refl _) _).trans (b.mono (by simp)), own_base r (by simp)⟩
section
variable {o : Nat → Nat} {w wz : World} {A : At} {lb pb rate N : Nat} {ix : Nat → Nat} {S : Nat → Bool} {L : List Nat} {C : Nat → Nat} {all : Nat} {e : TypeId} {size : Nat} {v : Value} {n : Nat} {xs : List Value}
theorem StV.below (h : StV o w A lb pb rate N ix S L C all e size v n xs wz) {wx : World} (hb : Below wz.heap.size wz wx) : StV o w A lb pb rate N ix S L C all e size v n xs wx := by
  obtain ⟨o', u, k, r, q⟩ := h
  have u2 : Upd o' (fun _ => False) wz wx o' := (Upd.refl o' _ wz).belowN hb
  exact ⟨o', u.trans u2 (fun _ h => h.elim), k.keep u2 k.n5 (by simp), r.keep u2 (by simp), q⟩
/-- a new row -/
theorem RdL.new (h : RdL o w A lb pb rate N ix S L C all wz) {wx : World} (hb : Below wz.heap.size wz wx) (hr : wx.ownsRow wz.heap.size e size v n xs) : StV o w A lb pb rate N ix S L C all e size v n xs wx := by
  obtain ⟨o', u, k⟩ := h
  have u2 : Upd o' (fun _ => False) wz wx (ext o' wz.heap.size 6) := (Upd.start o' _ wz 6).belowN hb
  refine ⟨_, u.trans u2 (fun _ h => h.elim), k.keep u2 (ext_no5 k.n5 _ (by omega)) (by simp), ⟨owns_base hr (Nat.zero_le _), fun g hg => ext_new (hr.lt g hg).1⟩, fun g hg => ?_⟩
  have := (hr.lt g hg).1
  have := u.size
  omega
/-- it has grown, wherever it lies -/
theorem StV.app (h : StV o w A lb pb rate N ix S L C all e size v n xs wz) {v' : Value} {m : Nat} {news : List Value} {w3 : World} (hown : w3.ownsRow 0 e size v' m news) (hg : wz.grownBy w3 v.ownBlock) (hat : v'.ownBlock = v.ownBlock ∨ v'.ownBlock = some wz.heap.size) :
    StV o w A lb pb rate N ix S L C all e size v' m news w3 := by
  obtain ⟨o', u, k, r, q⟩ := h
  have uu : Upd o' (fun x => x = 6) wz w3 (ext o' wz.heap.size 6) := (Upd.start o' _ wz 6).grown hg (fun b hb => .inr (r.2 b hb))
  refine ⟨_, ?_, k.keep uu (ext_no5 k.n5 _ (by omega)) (by omega), ⟨hown, fun b hb' => ?_⟩, fun b hb' => ?_⟩
  · have u2 := u.ext 6
    exact u2.grown hg (fun b hb => .inl (q b hb))
  · rcases hat with h1 | h1
    · rw [h1] at hb'
      rw [ext_old (ownBlock_lt r.1 hb')]
      exact r.2 b hb'
    · rw [h1] at hb'
      cases hb'
      exact ext_new (Nat.le_refl _)
  · rcases hat with h1 | h1
    · rw [h1] at hb'
      exact q b hb'
    · rw [h1] at hb'
      cases hb'
      exact u.size
end
end Go.Proofs.YtnadgcgnediakaaGreatDoor
namespace Go.Proofs.YtnadgcgnediakaaGreatDoor
open Go.ChangeShapes Go.WideShapes Go.ChangeAt Go.RowKit Go.Deep

set_option maxHeartbeats 1000000 in
theorem spart_any (l : List Nat) (hb : Byt l) (w : World) (base n c : Nat) (a : Option Addr) (h : w.ownsRow base 5 1 (.slice a n c) n (u8V l)) (hn : n < 16384) :
    Calls Tryz.prog 55 #[.slice a n c] w fun e w' => ∃ v, e = .returned v ∧ w'.ownsRow w.heap.size 5 1 v (partB l).length (u8V (partB l)) ∧ Below w.heap.size w w' := by
  have hl : l.length = n := by have := h.1; rw [Nat.mul_one, u8V_len] at this; exact this
  have NP := Lib.hid (nput_one n hn w)
  have HB := Lib.hid hb
  have H := Lib.hid h
  have HL := Lib.hid hl
  have FX := Lib.hid (fixed_any (crcN l) (crcN_lt l))
  clear hb h hl
  go_enter Tryz.func55, Tryz.ntmps55
  go_wp2_with fail
  refine NP.out.mono ?_
  rintro e w1 ⟨r, rfl, o1, b1⟩
  obtain ⟨a1, c1, rfl⟩ := own_shape o1
  obtain ⟨m1, hm1⟩ : ∃ m, (putL [n]).length = m := ⟨_, rfl⟩
  have hm2 := putL_len [n]
  rw [hm1] at o1 hm2
  have O1 := Lib.hid o1
  have B1 := Lib.hid b1
  have M1 := Lib.hid hm1
  have H1 := Lib.hid (owns_same' H.out b1.block)
  have CS := Lib.hid (csum_any l w1 base n c a H1.out HB.out (by omega))
  clear o1 b1 NP
  rw [hm1]
  clear hm1
  go_wp2_with fail
  refine CS.out.mono ?_
  rintro e w2 ⟨rfl, b2⟩
  obtain ⟨x, hx⟩ : ∃ x, crcN l = x := ⟨_, rfl⟩
  have hx2 : x < 4294967296 := hx ▸ crcN_lt l
  have X := Lib.hid hx
  rw [hx] at FX ⊢
  have B2 := Lib.hid b2
  clear b2 CS hx
  go_wp2_with fail
  refine (FX.out w2).mono ?_
  rintro e w3 ⟨r3, rfl, o3, b3⟩
  obtain ⟨a3, c3, rfl⟩ := own_shape o3
  have B3 := Lib.hid b3
  have B23 := Lib.hid (B2.out.trans (b3.mono B2.out.size))
  have O3 := Lib.hid o3
  have C3 := Lib.hid (cat3 w3 _ _ _ (putL [n]) l (fixB x 4) (own_bysl (owns_same' O1.out B23.out.block)) (own_bysl (owns_same' H1.out B23.out.block)) (own_bysl O3.out) (by
    have := HL.out
    have := M1.out
    have := fixB_len x 4
    simp at hm2
    omega))
  clear b3 o3 FX
  go_wp2_with fail
  refine C3.out.mono ?_
  rintro e w4 ⟨v, rfl, b4, r4⟩
  have B4 := Lib.hid (B1.out.trans ((B23.out.trans (b4.mono B23.out.size)).mono B1.out.size))
  have S4 := Lib.hid (Nat.le_trans B1.out.size B23.out.size)
  obtain ⟨l4, hl4⟩ : ∃ l4, putL [n] ++ (l ++ fixB x 4) = l4 := ⟨_, rfl⟩
  rw [hl4] at r4
  obtain ⟨n4, hn4⟩ : ∃ n4, l4.length = n4 := ⟨_, rfl⟩
  rw [hn4] at r4
  have L4 := Lib.hid (And.intro hl4 hn4)
  have R4 := Lib.hid r4
  obtain ⟨a4, c4, rfl⟩ := own_shape r4
  clear hl4 hn4
  clear b4 r4 C3
  go_wp2_with fail
  go_ret
  refine ⟨_, rfl, ?_, B4.out⟩
  unfold partB
  rw [X.out, HL.out, L4.out.1, L4.out.2]
  exact own_base R4.out S4.out
end Go.Proofs.YtnadgcgnediakaaGreatDoor
namespace Go.Proofs.YtnadgcgnediakaaGreatDoor
open Go.ChangeShapes Go.WideShapes Go.ChangeAt Go.RowKit Go.Deep

/-- three numbers laid -/
theorem nput_three (a b c : Nat) (ha : a < 16384) (hb : b < 16384) (hc : c < 16384) (w : World) : Calls Tryz.prog 54 #[.slice (some ⟨w.heap.size, 0, none⟩) 3 3] (w.alloc (.cells #[.int .u64 (a : Nat), .int .u64 (b : Nat), .int .u64 (c : Nat)] 94)) fun e w' => ∃ r, e = .returned r ∧ w'.ownsRow w.heap.size 5 1 r (putL [a, b, c]).length (u8V (putL [a, b, c])) ∧ Below w.heap.size w w' := by
  refine (nput_any [a, b, c] (fun i x h => ?_) (by simp) _ w.heap.size (by simp) (fun i x h => ?_) 3 rfl 3).mono ?_
  · match i, h with
    | 0, h => simp at h; omega
    | 1, h => simp at h; omega
    | 2, h => simp at h; omega
    | i + 3, h => simp at h
  · match i, h with
    | 0, h =>
      simp at h
      subst h
      rw [Joins.cell_of_block (heap_alloc_new w _)]
      rfl
    | 1, h =>
      simp at h
      subst h
      rw [Joins.cell_of_block (heap_alloc_new w _)]
      rfl
    | 2, h =>
      simp at h
      subst h
      rw [Joins.cell_of_block (heap_alloc_new w _)]
      rfl
    | i + 3, h => simp at h
  · rintro e w' ⟨r, rfl, o1, b1⟩
    exact ⟨r, rfl, own_base o1 (by simp), ((Below.refl w.heap.size w).alloc (Nat.le_refl _) _).trans (b1.mono (by simp))⟩
theorem conv_mark (w : World) : (convert 22 22 (.slice (some ⟨w.heap.size, 0, none⟩) 4 4)).run Tryz.prog (w.alloc (.cells #[.int .u8 83, .int .u8 75, .int .u8 82, .int .u8 49] 5)) = .ok (.slice (some ⟨w.heap.size, 0, none⟩) 4 4) (w.alloc (.cells #[.int .u8 83, .int .u8 75, .int .u8 82, .int .u8 49] 5 (4, 5))) :=
  Lib.run_convert_bytes_const (P := Tryz.prog) w 22 5 _ 4 4 Tryz.underlying22 Tryz.underlying5
/-- the literal's row -/
theorem bysl_mark (w : World) : BySl (w.alloc (.cells #[.int .u8 83, .int .u8 75, .int .u8 82, .int .u8 49] 5 (4, 5))) (.slice (some ⟨w.heap.size, 0, none⟩) 4 4) (u8V [83, 75, 82, 49]) := by
  refine ⟨u8V_one_cell _, .inr (.inl ⟨w.heap.size, 0, 4, rfl, by simp, fun j u hu => ?_⟩)⟩
  rw [Joins.cell_of_block (heap_alloc_new w _)]
  match j, hu with
  | 0, hu => simpa [u8V] using hu
  | 1, hu => simpa [u8V] using hu
  | 2, hu => simpa [u8V] using hu
  | 3, hu => simpa [u8V] using hu
  | j + 4, hu => simp [u8V] at hu
theorem BySl.below {w w' : World} {v : Value} {xs : List Value} (h : BySl w v xs) (b : Below w.heap.size w w') : BySl w' v xs := h.same b.size b.block
theorem firL_byt {L : List Nat} {n : Nat} (h : RunB (runL L) n 257) (hn : n < 16384) : Byt (firL L) := by
  refine (byt_put _ fun v hv => ?_).app (byt_rput _ fun p hp => ?_)
  · simp at hv
    have := h.n
    omega
  · have := h.c p hp
    omega
theorem firL_len {L : List Nat} {n : Nat} (h : RunB (runL L) n 257) : (firL L).length ≤ 2 + 4 * n := by
  have h1 := putL_len [(runL L).length]
  have h2 := rputL_len (runL L)
  have h3 := h.n
  unfold firL
  rw [List.length_append]
  simp at h1
  omega
section
variable {o : Nat → Nat} {w : World} {A : At} {lb pb rate N : Nat} {s ix : Nat → Nat} {S : Nat → Bool} {L : List Nat} {C : Nat → Nat} {all : Nat}
theorem RdL.from {o1 : Nat → Nat} {w1 wr : World} (h : RdL o1 w1 A lb pb rate N ix S L C all wr) (u : Upd o gl w w1 o1) : RdL o w A lb pb rate N ix S L C all wr := by
  obtain ⟨o', u', k⟩ := h
  exact ⟨o', u.trans u' (fun _ h => h), k⟩
set_option maxRecDepth 20000 in
set_option maxHeartbeats 4000000 in
theorem ssave_any (h : IsLive w o A lb pb rate N ix S L C all) (ar : Arr N s ix L C all) (hc : Wd.Cons N s ix) (hN : N ≤ 110) (hr1 : 1 ≤ rate) (hr2 : rate ≤ 64) (most : Nat) (hm : N ≤ most) (hm2 : most < 16384) :
    Calls Tryz.prog 20 #[.pointer (some ⟨lb, 0, none⟩), .int .i64 most] w fun e w' => ∃ v, e = .returned (.tuple #[v, .int .i64 0]) ∧ StV o w A lb pb rate N ix S L C all 5 1 v (saveB L ix N most rate).length (u8V (saveB L ix N most rate)) w' := by
  have hlen := ar.len
  have LL0 := Lib.hid (llen_any (RdL.refl h) ar.len (by omega))
  have LA := Lib.hid (llast_any (RdL.refl h) (by omega) (by omega))
  have d1 : decide ((most : Int) < (N : Int)) = false := decide_eq_false (by omega)
  have d2 : decide ((2147483648 : Int) < (most : Int)) = false := decide_eq_false (by omega)
  have AR := Lib.hid ar
  have HC := Lib.hid hc
  have hB : ∀ (i x : Nat), L[i]? = some x → x < 257 := fun i x hx => by
    have hi := (List.getElem?_eq_some_iff.1 hx).1
    have := ar.l_lt i (by omega)
    rwa [List.getD_eq_getElem?_getD, hx] at this
  have HB := Lib.hid hB
  clear h ar hc hB
  rw [hlen] at LA
  have HNL := Lib.hid hlen
  clear hlen
  go_enter Tryz.func20, Tryz.ntmps20
  go_wp2_with fail
  refine LL0.out.mono ?_
  rintro e w' ⟨rfl, rfl⟩
  go_wp2_with fail
  refine LA.out.mono ?_
  rintro e w1 ⟨g, rfl, rd1, hg, hb1⟩
  have RP := Lib.hid (rput_any L (by have := HNL.out; omega) HB.out w1 g (lt_of_block hb1) (fun i x hx => by
    obtain ⟨hi, e⟩ := List.getElem?_eq_some_iff.1 hx
    rw [Joins.cell_of_block hb1, List.getElem?_toArray, intsV_get L i hi, e]) (N + 1) HNL.out (N + 1))
  have RD1 := Lib.hid rd1
  clear rd1 hb1 LL0 LA
  go_wp2_with fail
  with_reducible refine RP.out.mono ?_
  rintro e w2 ⟨v1, rfl, o1, b2, rb⟩
  have o1' : w2.ownsRow w1.heap.size 5 1 v1 (firL L).length (u8V (firL L)) := by
    unfold firL
    exact o1
  have FB := Lib.hid (firL_byt rb (by omega))
  have fl := firL_len rb
  obtain ⟨f, hf⟩ : ∃ f, firL L = f := ⟨_, rfl⟩
  obtain ⟨nf, hnf⟩ : ∃ n, f.length = n := ⟨_, rfl⟩
  have V1 := RD1.out.new b2 o1'
  rw [hf, hnf] at V1
  rw [hf] at FB
  rw [hf, hnf] at fl
  obtain ⟨o2, u2, k2, r1, q1⟩ := V1
  obtain ⟨a1, c1, rfl⟩ := own_shape r1.1
  have HF := Lib.hid (And.intro hf hnf)
  have U2 := Lib.hid u2
  have K2 := Lib.hid k2
  have R1 := Lib.hid r1
  clear o1 o1' b2 rb hf hnf u2 k2 r1 q1 RP
  go_wp2_with fail
  go_loopw [8, 9] (fun sec pos wr => ∃ (k p n1 : Nat) (l1 : List Nat), pos = .int .i64 p ∧ (∃ a c, sec = .slice a n1 c) ∧ Aside (p = k * rate ∧ l1 = secL ix rate k ∧ n1 = l1.length ∧ (k = 0 ∨ (k - 1) * rate ≤ N)) ∧ Aside (StV o2 w2 A lb pb rate N ix S L C all 5 1 sec n1 (u8V l1) wr)) (fun _ pos _ => N + 1 - (intOf pos).toNat)
  case atStart => exact ⟨0, 0, 0, [], rfl, ⟨_, _, rfl⟩, ⟨by simp, rfl, rfl, .inl rfl⟩, StV.start (RdL.refl K2.out) 5 1⟩
  case round =>
    obtain ⟨k, p, n1, l1, rfl, ⟨a3, c3, rfl⟩, ek, sv⟩ := hrel
    have EK := Lib.hid ek.out
    have SV := Lib.hid sv.out
    have hk : k ≤ 111 := by
      rcases EK.out.2.2.2 with h | h
      · omega
      · have := Nat.mul_le_mul_left (k - 1) hr1
        omega
    have hn1 : n1 ≤ 222 := by
      have := secL_len ix rate k
      rw [← EK.out.2.1, ← EK.out.2.2.1] at this
      omega
    have hp1 : p ≤ 200 := by
      rw [EK.out.1]
      rcases EK.out.2.2.2 with h | h
      · subst h; omega
      · have : k * rate ≤ (k - 1) * rate + rate := by
          rw [← Nat.succ_mul]
          exact Nat.mul_le_mul_right _ (by omega)
        omega
    clear ek sv
    have LL := Lib.hid (llen_any SV.out.rd HNL.out (by omega))
    by_cases hlt : p ≤ N
    · have hd : decide ((p : Int) ≤ (N : Int)) = true := decide_eq_true (by omega)
      have RW := Lib.hid (SV.out.call (fun o' k' => lrow_any (RdL.refl k') AR.out HC.out (by omega) p hlt))
      have hix := AR.out.rows.lt p hlt
      obtain ⟨m, hmx⟩ : ∃ m, ix p = m := ⟨_, rfl⟩
      rw [hmx] at RW hix
      have HM := Lib.hid hmx
      clear hmx
      go_wp2_with fail
      refine LL.out.mono ?_
      rintro e w' ⟨rfl, rfl⟩
      go_wp2_with fail
      refine RW.out.mono ?_
      rintro e w3 ⟨rfl, sv3⟩
      have NP := Lib.hid (nput_one m (by omega) w3)
      have S3 := Lib.hid sv3
      clear sv3 RW LL
      go_wp2_with fail
      refine NP.out.mono ?_
      rintro e w4 ⟨r, rfl, o4, b4⟩
      obtain ⟨l2, hl2⟩ : ∃ l, putL [m] = l := ⟨_, rfl⟩
      obtain ⟨n2, hn2⟩ : ∃ n, l2.length = n := ⟨_, rfl⟩
      have h20 : 0 < n2 := by rw [← hn2, ← hl2]; exact putL_pos _ _
      have h24 : n2 ≤ 2 := by
        have := putL_len [m]
        rw [hl2, hn2] at this
        simpa using this
      rw [hl2, hn2] at o4
      have HL2 := Lib.hid (And.intro hl2 hn2)
      obtain ⟨g4, c4, rfl, hg3, hg4⟩ := own_form o4 h20
      have S4 := Lib.hid (S3.out.below b4)
      have O4 := Lib.hid o4
      clear hl2 hn2 o4 b4 NP
      go_wp2_with (first | (at_builtin; go_loud (refine wpList_app_u8 rfl _ _ rfl 0 n1 _ l1 rfl S4.out.row _ g4 n2 c4 l2 rfl O4.out (by omega) (Nat.zero_le _) ?_)) | fail)
      intro v5 w5 a5 c5 e5 hown hgr hat
      subst e5
      have S5 := Lib.hid (S4.out.app hown hgr hat)
      have LR := Lib.hid (lrate_any S5.out.rd)
      clear hown hgr hat
      go_wp2_with fail
      refine LR.out.mono ?_
      rintro e w' ⟨rfl, rfl⟩
      go_wp2_with fail
      go_roundw
      case rel =>
        refine ⟨k + 1, p + rate, n1 + n2, l1 ++ l2, by go_num, ⟨_, _, rfl⟩, ⟨?_, ?_, ?_, .inr ?_⟩, S5.out⟩
        · rw [EK.out.1, Nat.succ_mul]
        · rw [secL, ← EK.out.1, ← EK.out.2.1, HM.out, HL2.out.1]
        · rw [List.length_append, EK.out.2.2.1, HL2.out.2]
        · rw [Nat.add_sub_cancel, ← EK.out.1]; exact hlt
      case measure => simp [intOf]; omega
    · have hd : decide ((p : Int) ≤ (N : Int)) = false := decide_eq_false (by omega)
      have hkN : k = N / rate + 1 := by
        have h1 := EK.out.1
        rcases EK.out.2.2.2 with h | h
        · subst h; omega
        · have h3 : N / rate < k := (Nat.div_lt_iff_lt_mul hr1).2 (by omega)
          have h4 : k - 1 ≤ N / rate := (Nat.le_div_iff_mul_le hr1).2 h
          omega
      have SB := Lib.hid (show Byt l1 by
        rw [EK.out.2.1]
        refine byt_sec k fun j hj => ?_
        have hjN : j * rate ≤ N := by
          have h4 : j ≤ N / rate := by omega
          exact (Nat.le_div_iff_mul_le hr1).1 h4
        have := AR.out.rows.lt _ hjN
        omega)
      have KN := Lib.hid hkN
      clear hkN
      have LR := Lib.hid (lrate_any SV.out.rd)
      have NP := Lib.hid (nput_three most rate N hm2 (by omega) (by omega) wr)
      have F1 := Lib.hid (show wr.ownsRow 0 5 1 (.slice a1 nf c1) nf (u8V f) from by
        obtain ⟨o', u, _⟩ := SV.out
        exact (R1.out.keep u (by unfold gl; omega)).1)
      have F2 := Lib.hid SV.out.row
      have RDW := Lib.hid (SV.out.rd.from U2.out)
      go_wp2_with fail
      refine LL.out.mono ?_
      rintro e w' ⟨rfl, rfl⟩
      go_wp2_with fail
      refine LR.out.mono ?_
      rintro e w' ⟨rfl, rfl⟩
      go_wp2_with fail
      refine LL.out.mono ?_
      rintro e w' ⟨rfl, rfl⟩
      go_wp2_with fail
      refine NP.out.mono ?_
      rintro e w6 ⟨r6, rfl, o6, b6⟩
      obtain ⟨a6, c6, rfl⟩ := own_shape o6
      obtain ⟨l6, hl6⟩ : ∃ l, putL [most, rate, N] = l := ⟨_, rfl⟩
      obtain ⟨n6, hn6⟩ : ∃ n, l6.length = n := ⟨_, rfl⟩
      have h6 : n6 ≤ 6 := by
        have := putL_len [most, rate, N]
        rw [hl6, hn6] at this
        simpa using this
      have SB6 := Lib.hid (show Byt l6 from by
        rw [← hl6]
        exact byt_put _ fun v hv => by simp at hv; omega)
      rw [hl6, hn6] at o6 ⊢
      have HL6 := Lib.hid (And.intro hl6 hn6)
      have O6 := Lib.hid o6
      have B6 := Lib.hid b6
      have B7 := Lib.hid (b6.alloc b6.size (.cells #[.int .u8 83, .int .u8 75, .int .u8 82, .int .u8 49] 5 (4, 5)))
      have MK := Lib.hid (bysl_mark w6)
      have kc := conv_mark w6
      have PA := Lib.hid (spart_any f FB.out _ 0 nf c1 a1 (owns_same' F1.out B7.out.block) (by omega))
      clear hl6 hn6 o6 b6 NP LR LL
      go_wp2_with fail
      refine PA.out.mono ?_
      rintro e w8 ⟨r8, rfl, o8, b8⟩
      obtain ⟨a8, c8, rfl⟩ := own_shape o8
      obtain ⟨n8, hn8⟩ : ∃ n, (partB f).length = n := ⟨_, rfl⟩
      have h8 : n8 ≤ nf + 6 := by
        have := partB_len f
        rw [hn8, HF.out.2] at this
        exact this
      rw [hn8] at o8 ⊢
      have N8 := Lib.hid hn8
      have O8 := Lib.hid o8
      have B8 := Lib.hid (B7.out.trans (b8.mono B7.out.size))
      have B78 := Lib.hid b8
      have PB := Lib.hid (spart_any l1 SB.out w8 0 n1 c3 a3 (owns_same' F2.out B8.out.block) (by omega))
      clear hn8 o8 b8 PA
      go_wp2_with fail
      with_reducible refine PB.out.mono ?_
      rintro e w9 ⟨r9, rfl, o9, b9⟩
      obtain ⟨a9, c9, rfl⟩ := own_shape o9
      obtain ⟨n9, hn9⟩ : ∃ n, (partB l1).length = n := ⟨_, rfl⟩
      have h9 : n9 ≤ n1 + 6 := by
        have := partB_len l1
        rw [hn9, ← EK.out.2.2.1] at this
        exact this
      rw [hn9] at o9 ⊢
      have N9 := Lib.hid hn9
      have O9 := Lib.hid o9
      have B9 := Lib.hid (B8.out.trans (b9.mono B8.out.size))
      have B79 := Lib.hid (B78.out.trans (b9.mono B78.out.size))
      have B69 := Lib.hid ((Below.refl w6.heap.size w6).alloc (Nat.le_refl _) (.cells #[.int .u8 83, .int .u8 75, .int .u8 82, .int .u8 49] 5 (4, 5)) |>.trans (B79.out.mono (by simp)))
      have C4 := Lib.hid (cat4 w9 (.slice (some ⟨w6.heap.size, 0, none⟩) 4 4) (.slice a6 n6 c6) (.slice a8 n8 c8) (.slice a9 n9 c9) [83, 75, 82, 49] l6 (partB f) (partB l1) (MK.out.below B79.out) ((own_bysl O6.out).below B69.out) ((own_bysl O8.out).below b9) (own_bysl O9.out) (by
        have := HL6.out.2
        have := N8.out
        have := N9.out
        simp only [List.length_cons, List.length_nil]
        omega))
      clear hn9 o9 b9 PB
      go_wp2_with fail
      refine C4.out.mono ?_
      rintro e w10 ⟨v10, rfl, b10, o10⟩
      have hbb : Byt ([83, 75, 82, 49] ++ l6 ++ partB f ++ partB l1) := by
        refine ((Byt.app (fun x hx => ?_) SB6.out).app (byt_part FB.out (by have := HF.out.2; omega))).app (byt_part SB.out (by have := EK.out.2.2.1; omega))
        simp at hx
        omega
      obtain ⟨B, hBe⟩ : ∃ B, [83, 75, 82, 49] ++ l6 ++ partB f ++ partB l1 = B := ⟨_, rfl⟩
      obtain ⟨nb, hnb⟩ : ∃ n, B.length = n := ⟨_, rfl⟩
      have hnb2 : nb ≤ 10000 := by
        rw [← hnb, ← hBe]
        have := HL6.out.2
        have := N8.out
        have := N9.out
        simp only [List.length_append, List.length_cons, List.length_nil]
        omega
      rw [hBe] at o10 hbb
      rw [hnb] at o10
      obtain ⟨a10, c10, rfl⟩ := own_shape o10
      have BE := Lib.hid (And.intro hBe hnb)
      have O10 := Lib.hid o10
      have B10 := Lib.hid (B9.out.trans (b10.mono B9.out.size))
      have B910 := Lib.hid b10
      have CS := Lib.hid (csum_any B w10 w9.heap.size nb c10 a10 O10.out hbb (by omega))
      clear hBe hnb hbb o10 b10 C4
      go_wp2_with fail
      refine CS.out.mono ?_
      rintro e w11 ⟨rfl, b11⟩
      obtain ⟨x, hx⟩ : ∃ x, crcN B = x := ⟨_, rfl⟩
      have hx2 : x < 4294967296 := hx ▸ crcN_lt B
      have X := Lib.hid hx
      have FX := Lib.hid (fixed_any x hx2 w11)
      rw [hx]
      have B11 := Lib.hid b11
      clear b11 hx CS
      go_wp2_with fail
      refine FX.out.mono ?_
      rintro e w12 ⟨r12, rfl, o12, b12⟩
      obtain ⟨g12, c12, rfl, _, _⟩ := own_form o12 (by omega)
      have B1012 := Lib.hid (B11.out.trans (b12.mono B11.out.size))
      have B12 := Lib.hid (B10.out.trans (B1012.out.mono B10.out.size))
      have O12 := Lib.hid o12
      have P12 := Lib.hid (owns_same' O10.out B1012.out.block)
      have Z12 := Lib.hid (Nat.le_trans B910.out.size B1012.out.size)
      clear o12 b12 FX
      go_wp2_with (first | (at_builtin; go_loud (refine wpList_app_u8 rfl _ _ rfl w9.heap.size nb _ B rfl P12.out _ g12 4 c12 (fixB x 4) rfl O12.out (by omega) Z12.out ?_)) | fail)
      intro v13 w13 a13 c13 e13 hown hgr _
      subst e13
      have B13 := Lib.hid (B12.out.grown hgr B12.out.size (fun j hj => by have := (P12.out.lt j hj).1; have := B9.out.size; omega))
      have O13 := Lib.hid hown
      clear hown hgr
      have eS : saveB L ix N most rate = B ++ fixB x 4 := by
        unfold saveB bodyB
        rw [HF.out.1, ← KN.out, ← EK.out.2.1, HL6.out.1, BE.out.1, X.out]
      have nS : (saveB L ix N most rate).length = nb + 4 := by
        rw [eS, List.length_append, BE.out.2, fixB_len]
      have ES := Lib.hid (And.intro eS nS)
      clear eS nS
      go_wp2_with fail
      go_ret2
      refine ⟨_, rfl, ?_⟩
      rw [ES.out.2, ES.out.1]
      exact RDW.out.new B13.out (own_base O13.out B9.out.size)
end
end Go.Proofs.YtnadgcgnediakaaGreatDoor
namespace Go.Proofs.YtnadgcgnediakaaGreatDoor
open Go.ChangeShapes Go.WideShapes Go.ChangeAt Go.RowKit Go.Deep

section
variable {o : Nat → Nat} {w : World} {A : At} {lb pb rate N sb most : Nat} {s ix : Nat → Nat} {S : Nat → Bool} {L : List Nat} {C : Nat → Nat} {all : Nat} {e : TypeId} {size : Nat} {v : Value} {n : Nat} {xs : List Value}
theorem StV.from {o1 : Nat → Nat} {w1 wr : World} (h : StV o1 w1 A lb pb rate N ix S L C all e size v n xs wr) (u : Upd o gl w w1 o1) : StV o w A lb pb rate N ix S L C all e size v n xs wr := by
  obtain ⟨o', u', k, r, q⟩ := h
  exact ⟨o', u.trans u' (fun _ h => h), k, r, fun g hg => by have := q g hg; have := u.size; omega⟩
set_option maxHeartbeats 1000000 in
theorem stsave_any (h : IsLive w o A lb pb rate N ix S L C all) (hs : w.heap[sb]? = some (stC lb most)) (os : o sb = 3) (ar : Arr N s ix L C all) (hc : Wd.Cons N s ix) (hN : N ≤ 110) (hr1 : 1 ≤ rate) (hr2 : rate ≤ 64) (hm : N ≤ most) (hm2 : most < 16384) :
    Calls Tryz.prog 8 #[.pointer (some ⟨sb, 0, none⟩)] w fun e w' => ∃ v, e = .returned (.tuple #[v, .int .i64 0]) ∧ StV o w A lb pb rate N ix S L C all 5 1 v (saveB L ix N most rate).length (u8V (saveB L ix N most rate)) w' := by
  have u1 : Upd o (fun _ => False) w w.drew o := (Upd.refl _ _ _).drew
  have SV := Lib.hid (ssave_any (h.keep u1 h.n5 (by simp)) ar hc hN hr1 hr2 most hm hm2)
  obtain ⟨l, hl⟩ : ∃ l, saveB L ix N most rate = l := ⟨_, rfl⟩
  rw [hl] at SV ⊢
  have F0 := Lib.hid (And.intro (stC_0 hs) (stC_1 hs))
  have FK := Lib.hid (show ∀ (v : Value) (w' : World), StV o w.drew A lb pb rate N ix S L C all 5 1 v l.length (u8V l) w' → w'.cell? ⟨sb, 0, none⟩ = some (.pointer (some ⟨lb, 0, none⟩)) ∧ w'.cell? ⟨sb, 1, none⟩ = some (.int .i64 most) from fun v w' hv => by
    obtain ⟨o', u, _⟩ := hv
    have r := (u.heap (show w.drew.heap[sb]? = some (stC lb most) from hs) (by rw [os]; unfold gl; omega)).1
    exact ⟨stC_0 r, stC_1 r⟩)
  have U1 := Lib.hid (u1.mono (d := gl) (fun _ h => h.elim))
  obtain ⟨n, hn⟩ : ∃ n, l.length = n := ⟨_, rfl⟩
  rw [hn] at SV FK ⊢
  clear h hs os ar hc u1 hl hn
  go_enter Tryz.func8, Tryz.ntmps8
  go_wp2_with fail
  go_region_held3 (fun wz => wz.cell? ⟨sb, 0, none⟩ = some (.pointer (some ⟨lb, 0, none⟩)) ∧ wz.cell? ⟨sb, 1, none⟩ = some (.int .i64 most)) (first | exact F0.out | exact F1.out) (first | (go_at_call 20; with_reducible refine SV.out.mono ?_; rintro e w2 ⟨v, rfl, s2⟩; have F1 := Lib.hid (FK.out v w2 s2); have S2 := Lib.hid s2; clear s2; go_wp2_with fail))
  all_goals go_wp2_with fail
  all_goals go_ret2
  all_goals exact ⟨_, rfl, S2.out.from U1.out⟩
end
end Go.Proofs.YtnadgcgnediakaaGreatDoor
