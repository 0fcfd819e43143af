/- What a store's answers are beside the reference's: plain facts. The walk of the statement's Fine: is a store what a text is? -/
import Derived.Test.YtnadgcgnediakaaGreatDoorH31
import Derived.Test.YtnadgcgnediakaaGreatDoorH23
import Derived.Test.YtnadgcgnediakaaGreatDoorH14
import Derived.Test.YtnadgcgnediakaaGreatDoorH36
namespace Go.Proofs.YtnadgcgnediakaaGreatDoor
open Wd

theorem IsR.at {ix : Nat → Nat} {N : Nat} {Q : List Nat} (h : IsR ix N 0 Q) (hr : Wd.Rows N ix) (hl : Q.length = N + 1) (j : Nat) (hj : j < Q.length) : ix Q[j] = j := by
  have mono : ∀ a b (ha : a < Q.length) (hb : b < Q.length), a < b → ix Q[a] < ix Q[b] := fun a b ha hb hab => List.pairwise_iff_getElem.1 h.1 a b ha hb hab
  have lo : ∀ a (ha : a < Q.length), a ≤ ix Q[a] := by
    intro a
    induction a with
    | zero => intro _; omega
    | succ a ih =>
      intro ha
      have := ih (by omega)
      have := mono a (a + 1) (by omega) ha (by omega)
      omega
  have hi : ∀ d (hd : d < Q.length), ix (Q[Q.length - 1 - d]'(by omega)) ≤ N - d := by
    intro d
    induction d with
    | zero => intro _; exact hr.lt _ ((h.2 _).1 (List.getElem_mem _)).2
    | succ d ih =>
      intro hd
      have h1 := ih (by omega)
      have h2 := mono (Q.length - 1 - (d + 1)) (Q.length - 1 - d) (by omega) (by omega) (by omega)
      omega
  have h1 := lo j hj
  have h2 := hi (N - j) (by omega)
  have e : Q.length - 1 - (N - j) = j := by omega
  simp only [e] at h2
  omega
theorem IsR.place {ix : Nat → Nat} {N : Nat} {Q : List Nat} (h : IsR ix N 0 Q) (hr : Wd.Rows N ix) (hl : Q.length = N + 1) (p : Nat) (hp : p ≤ N) : ∃ hj : ix p < Q.length, Q[ix p] = p := by
  have hlt := hr.lt p hp
  refine ⟨by omega, ?_⟩
  have := h.at hr hl (ix p) (by omega)
  exact hr.inj _ _ ((h.2 _).1 (List.getElem_mem _)).2 hp this
theorem Cons.congr {N : Nat} {s s' ix : Nat → Nat} (h : Wd.Cons N s ix) (hs : ∀ p, p ≤ N → s p = s' p) : Wd.Cons N s' ix := by
  intro p q hp hq
  rw [h p q hp hq]
  unfold Wd.kl
  rw [hs p hp, hs q hq]
theorem Arr.congr {N : Nat} {s s' ix : Nat → Nat} {L : List Nat} {C : Nat → Nat} {all : Nat} (h : Arr N s ix L C all) (hs : ∀ p, p ≤ N → s p = s' p) : Arr N s' ix L C all :=
  ⟨h.rows, h.len, fun p hp => (h.isL p hp).trans (hs p hp), fun i => by rw [h.cC]; exact cnt_congr _ (fun q hq => by rw [hs q (by omega)]), h.al, fun p hp => by rw [← hs p hp]; exact h.sb p hp, by rw [← hs N (Nat.le_refl _)]; exact h.s0, fun p hp => by rw [← hs p (by omega)]; exact h.sp p hp⟩
theorem Arr.head {N : Nat} {ix : Nat → Nat} {L : List Nat} {C : Nat → Nat} {all : Nat} {t : ByteArray} (h : Arr N (symS t) ix L C all) {Q : List Nat} (hq : IsR ix N 0 Q) (hl : Q.length = N + 1) (j : Nat) (hj : j < Q.length) : L.getD j 0 = hdS t Q[j] := by
  have e := hq.at h.rows hl j hj
  have hle := ((hq.2 _).1 (List.getElem_mem hj)).2
  generalize Q[j] = q at e hle
  unfold hdS
  by_cases h0 : q = 0
  · subst h0
    rw [if_pos rfl]
    have := h.isL N (Nat.le_refl _)
    rw [show Wd.nx N N = 0 from if_pos rfl, e, h.s0] at this
    exact this
  · rw [if_neg h0]
    have := h.isL (q - 1) (by omega)
    rw [show Wd.nx N (q - 1) = q from by unfold Wd.nx; rw [if_neg (by omega)]; omega, e] at this
    exact this
theorem shLev_mem (L : List Nat) (lv p n : Nat) (h : n ∈ shLev L lv p) : 0 < n ∧ n ≤ L.length := by
  unfold shLev at h
  rw [List.mem_filter] at h
  obtain ⟨h1, h2⟩ := h
  obtain ⟨q, _, rfl⟩ := List.mem_map.1 h1
  exact ⟨by simpa using h2, bits_len L lv q⟩
theorem shAll_mem (L : List Nat) (lv n : Nat) (h : n ∈ shAll L lv) : 0 < n ∧ n ≤ L.length := by
  unfold shAll at h
  obtain ⟨v, _, h⟩ := List.mem_flatMap.1 h
  exact shLev_mem L v _ n h
theorem bits_top (L : List Nat) (h : ∀ x ∈ L, x < 257) : (bitsOf L 0 0).length = L.length := by
  unfold bitsOf
  rw [List.length_map]
  congr 1
  rw [List.filter_eq_self]
  intro x hx
  rw [path_zero x (h x hx)]
  rfl
theorem shAll_head (L : List Nat) (h : ∀ x ∈ L, x < 257) (h0 : 0 < L.length) : ∀ lv, 0 < lv → ∃ r, shAll L lv = L.length :: r
  | 0, hl => absurd hl (Nat.not_lt_zero _)
  | 1, _ => by
    refine ⟨[], ?_⟩
    rw [shAll_succ]
    have e : shAll L 0 = [] := rfl
    have hb := bits_top L h
    rw [e, List.nil_append, show 2 ^ 0 = 0 + 1 from rfl, shLev_yes L 0 0 (by omega), hb]
    rfl
  | lv + 2, _ => by
    obtain ⟨r, hr⟩ := shAll_head L h h0 (lv + 1) (by omega)
    exact ⟨r ++ shLev L (lv + 1) (2 ^ (lv + 1)), by rw [shAll_succ, hr]; rfl⟩
theorem pairs_at {ix : Nat → Nat} {N : Nat} {S : Nat → Bool} {Q : List (Nat × Nat)} (h : IsPairs ix N S Q) (_hr : Wd.Rows N ix) :
    (∀ i, i < Q.length → (Q.getD i (0, 0)).2 ≤ N ∧ (Q.getD i (0, 0)).1 = ix (Q.getD i (0, 0)).2) ∧ (∀ i, i + 1 < Q.length → (Q.getD i (0, 0)).1 < (Q.getD (i + 1) (0, 0)).1) ∧ (∀ p, p ≤ N → (S p = true ↔ ∃ i, i < Q.length ∧ (Q.getD i (0, 0)).2 = p)) := by
  have g : ∀ i (hi : i < Q.length), Q.getD i (0, 0) = Q[i] := fun i hi => by rw [List.getD_eq_getElem?_getD, List.getElem?_eq_getElem hi]; rfl
  refine ⟨fun i hi => ?_, fun i hi => ?_, fun p hp => ?_⟩
  · rw [g i hi]
    have := (h.2 Q[i]).1 (List.getElem_mem _)
    exact ⟨this.1, this.2.2⟩
  · rw [g i (by omega), g (i + 1) hi]
    exact List.pairwise_iff_getElem.1 h.1 i (i + 1) (by omega) hi (by omega)
  · constructor
    · intro hs
      have := (h.2 (ix p, p)).2 ⟨hp, hs, rfl⟩
      obtain ⟨i, hi, e⟩ := List.getElem_of_mem this
      exact ⟨i, hi, by rw [g i hi, e]⟩
    · rintro ⟨i, hi, e⟩
      rw [g i hi] at e
      have := (h.2 Q[i]).1 (List.getElem_mem _)
      rw [← e]
      exact this.2.1
end Go.Proofs.YtnadgcgnediakaaGreatDoor
namespace Go.Proofs.YtnadgcgnediakaaGreatDoor
open Go.ChangeShapes Go.WideShapes Go.ChangeAt Go.RowKit Go.Deep

theorem field46 (a b c d : Int) (w : World) : (Instr.field 46 (.agg #[.int .i64 a, .int .i64 b, .int .i64 c, .int .i64 d]) 3).run Tryz.prog w = .ok (.int .i64 d) w := by
  have hi : (Tryz.prog.info? 3).map (fun i => i.size) = some 1 := by kernel_rfl
  obtain ⟨i, hi1, hi2⟩ := Option.map_eq_some_iff.1 hi
  simp [Instr.field, run_underlying Tryz.underlying46, go_sem, asAgg]
section
variable {o : Nat → Nat} {w : World} {A : At} {lb pb rate N sb most : Nat} {ix : Nat → Nat} {S : Nat → Bool} {L : List Nat} {C : Nat → Nat} {all : Nat}
set_option maxRecDepth 20000 in
set_option maxHeartbeats 2000000 in
theorem fine_any (h : IsLive w o A lb pb rate N ix S L C all) (hs : w.heap[sb]? = some (stC lb most)) (os : o sb = 3) (t : ByteArray) (ht : t.size = N) (ar : Arr N (symS t) ix L C all) (hc : Wd.Cons N (symS t) ix) (hcov : Wd.Cov S N rate) (hr1 : 1 ≤ rate) (hN : N ≤ 110) :
    Calls Tryz.prog 9 #[.pointer (some ⟨sb, 0, none⟩), .string t] w fun e w' => e = .returned (.bool true) ∧ RdL o w A lb pb rate N ix S L C all w' := by
  have RW := Lib.hid (fun wx => rows_any t N ht (by omega) ix ar.rows hc wx)
  have RL := Lib.hid (fun wx => rlast_any t N ht (by omega) ix ar.rows hc wx)
  have H := Lib.hid h
  have HS := Lib.hid hs
  have OS := Lib.hid os
  have AR := Lib.hid ar
  have COV := Lib.hid hcov
  have LN := Lib.hid ar.len
  clear h hs os ar hc hcov
  go_enter Tryz.func9, Tryz.ntmps9
  go_wp2_with fail
  refine (RW.out w).mono ?_
  rintro e w1 ⟨rg, rc, R, rfl, b1, r1, hR, hRl⟩
  have u1 : Upd o (fun _ => False) w w1 (ext o w.heap.size 6) := (Upd.start o _ w 6).belowN b1
  have K1 := Lib.hid (H.out.keep u1 (ext_no5 H.out.n5 _ (by omega)) (by simp))
  have st1 := u1.heap HS.out (by simp)
  have SL := Lib.hid (slast_any (RdL.refl K1.out) st1.1 (by have := LN.out; omega) (by have := LN.out; omega))
  rw [LN.out] at SL
  have rgo : ext o w.heap.size 6 rg = 6 := ext_new (r1.lt rg rfl).1
  have RO := Lib.hid rgo
  have RC := Lib.hid r1
  have U1 := Lib.hid u1
  have ST1 := Lib.hid st1
  have IR := Lib.hid hR
  clear b1 r1 u1 st1 rgo hR
  go_wp2_with fail
  refine SL.out.mono ?_
  rintro e w2 ⟨lg, rfl, ⟨o2, u2, k2⟩, hlg, hlb⟩
  have ST2 := Lib.hid (u2.heap ST1.out.1 (by rw [ST1.out.2, OS.out]; unfold gl; omega)).1
  have RG2 := Lib.hid (show w2.heap[rg]? = w1.heap[rg]? from u2.same rg (RC.out.lt rg rfl).2 (by rw [RO.out]; unfold gl; omega))
  have U2 := Lib.hid ((U1.out.mono (d := gl) (fun _ h => h.elim)).trans u2 (fun _ h => h))
  have K2 := Lib.hid k2
  have LB := Lib.hid hlb
  clear u2 k2 hlb hlg
  go_wp2_with fail
  refine (RL.out w2).mono ?_
  rintro e w3 ⟨qg, qc, Q, rfl, b3, r3, hQ, hQl⟩
  have ha : ∀ j, j < N + 1 → w3.cell? ⟨lg, j, none⟩ = some (.int .i64 (L.getD j 0 : Nat)) := fun j hj => by
    rw [World.cell?_of_block (w := w2) (b3.block lg (lt_of_block LB.out)), Joins.cell_of_block LB.out]
    show (intsV L).toArray[j]? = _
    rw [List.getElem?_toArray, intsV_get L j (by have := LN.out; omega), List.getD_eq_getElem?_getD, List.getElem?_eq_getElem (by have := LN.out; omega)]
    rfl
  have hb : ∀ j, j < N + 1 → w3.cell? ⟨qg, j, none⟩ = some (.int .i64 (L.getD j 0 : Nat)) := fun j hj => by
    rw [owns_cell r3 j _ (intsV_get _ j (by rw [List.length_map]; omega)), List.getElem_map, AR.out.head hQ hQl j (by omega)]
  have SM := Lib.hid (same_any lg qg (N + 1) qc (N + 1) (fun j => L.getD j 0) w3 (by omega) ha hb)
  have B3 := Lib.hid b3
  clear ha hb b3 r3 hQ
  go_wp2_with fail
  refine SM.out.mono ?_
  rintro e w4 ⟨rfl, k4, hw4⟩
  have b4 : Below w2.heap.size w2 w4 := by rw [hw4]; exact ⟨B3.out.os, B3.out.tape, B3.out.output, B3.out.size, B3.out.block⟩
  have rd4 : RdL o w A lb pb rate N ix S L C all w4 := RdL.below ⟨o2, U2.out, K2.out⟩ b4
  have st4 : w4.heap[sb]? = some (stC lb most) := (b4.block sb (lt_of_block ST2.out)).trans ST2.out
  have rg4 : w4.heap[rg]? = w1.heap[rg]? := (b4.block rg (by
    obtain ⟨cur, hc, _⟩ := owns_row RC.out
    exact lt_of_block (RG2.out.trans hc))).trans RG2.out
  have SP := Lib.hid (spairs_any rd4 st4)
  have RD4 := Lib.hid rd4
  have ST4 := Lib.hid st4
  have RG4 := Lib.hid rg4
  clear hw4 b4 rd4 st4 rg4
  go_wp2_with fail
  refine SP.out.mono ?_
  rintro e w5 ⟨v, P, rfl, hP, hPl, b5, o5⟩
  have hP0 : 0 < P.length := by
    have := (hP.2 (ix 0, 0)).2 ⟨Nat.zero_le _, COV.out.z, rfl⟩
    exact List.length_pos_of_mem this
  obtain ⟨pg, pc, rfl, _, _⟩ := own_form o5 hP0
  have rg5 : w5.heap[rg]? = w1.heap[rg]? := (b5.block rg (by
    obtain ⟨cur, hc, _⟩ := owns_row RC.out
    exact lt_of_block (RG4.out.trans hc))).trans RG4.out
  have rd5 : RdL o w A lb pb rate N ix S L C all w5 := RD4.out.below b5
  have st5 : w5.heap[sb]? = some (stC lb most) := (b5.block sb (lt_of_block ST4.out)).trans ST4.out
  obtain ⟨q1, q2, q3⟩ := pairs_at hP AR.out.rows
  have SR := Lib.hid (srate_any rd5 st5)
  have SA := Lib.hid (sampled_any pg pc rg rc P.length (N + 1) rate (fun i => (P.getD i (0, 0)).1) (fun i => (P.getD i (0, 0)).2) S w5 hP0 (by omega) (by omega) (by omega)
    (fun i hi => by
      obtain ⟨g1, g2⟩ := pcells_get P i hi
      have e : P.getD i (0, 0) = P[i] := by rw [List.getD_eq_getElem?_getD, List.getElem?_eq_getElem hi]; rfl
      show w5.cell? ⟨pg, i * 2, none⟩ = some (Value.int .i64 ((P.getD i (0, 0)).1 : Nat)) ∧ w5.cell? ⟨pg, i * 2 + 1, none⟩ = some (Value.int .i64 ((P.getD i (0, 0)).2 : Nat))
      rw [e]
      exact ⟨owns_cell o5 _ _ g1, owns_cell o5 _ _ g2⟩)
    (fun i hi => by
      obtain ⟨h1, h2⟩ := q1 i hi
      have hrow := AR.out.rows.lt _ h1
      obtain ⟨hj, hp⟩ := IR.out.place AR.out.rows hRl _ h1
      refine ⟨by show (P.getD i (0, 0)).1 < N + 1; omega, by show (P.getD i (0, 0)).2 < N + 1; omega, ?_⟩
      show w5.cell? ⟨rg, (P.getD i (0, 0)).1, none⟩ = some (.int .i64 ((P.getD i (0, 0)).2 : Nat))
      rw [World.cell?_of_block (w := w1) (a := ⟨rg, (P.getD i (0, 0)).1, none⟩) rg5, h2, owns_cell RC.out _ _ (intsV_get R _ hj), hp])
    q2 (fun p hp => q3 p (by omega)) COV.out.z (fun i hi => gpS_lt COV.out hr1 i hi))
  have RD5 := Lib.hid rd5
  have ST5 := Lib.hid st5
  clear hP b5 o5 rg5 rd5 st5 q1 q2 q3
  go_wp2_with fail
  refine SR.out.mono ?_
  rintro e w' ⟨rfl, rfl⟩
  go_wp2_with fail
  refine SA.out.mono ?_
  rintro e w6 ⟨rfl, b6⟩
  have rd6 : RdL o w A lb pb rate N ix S L C all w6 := RD5.out.below b6
  have st6 : w6.heap[sb]? = some (stC lb most) := (b6.block sb (lt_of_block ST5.out)).trans ST5.out
  have SS := Lib.hid (sshapes_any rd6 st6 (by have := LN.out; omega))
  have RD6 := Lib.hid rd6
  have MEM := Lib.hid (shAll_mem L 9)
  have LEN := Lib.hid (shAll_len L 9)
  obtain ⟨hd, hhd⟩ := shAll_head L (fun x hx => by
    obtain ⟨i, hi, rfl⟩ := List.getElem_of_mem hx
    have := AR.out.l_lt i (by have := LN.out; omega)
    rwa [List.getD_eq_getElem?_getD, List.getElem?_eq_getElem hi] at this) (by have := LN.out; omega) 9 (by omega)
  obtain ⟨ls, hls⟩ : ∃ ls, ls = shAll L 9 := ⟨_, rfl⟩
  rw [← hls] at SS MEM LEN hhd
  rw [LN.out] at hhd MEM
  have HD := Lib.hid hhd
  clear rd6 st6 b6 hhd hls
  go_wp2_with fail
  refine SS.out.mono ?_
  rintro e w7 ⟨v, rfl, b7, o7⟩
  obtain ⟨m, hm⟩ : ∃ m, m = ls.length := ⟨_, rfl⟩
  have hm0 : 0 < ls.length := by rw [HD.out]; simp
  obtain ⟨sg, sc, rfl, _, _⟩ := own_form o7 hm0
  have hml : m ≤ 511 := by have := LEN.out; omega
  rw [← hm] at o7
  have RD7 := Lib.hid (RD6.out.below b7)
  have TR := Lib.hid (trees_any w6.heap.size sg sc ls m (N + 1) w7 o7 hm.symm (fun n hn => by have := MEM.out n hn; omega) ⟨hd, HD.out⟩)
  have SU := Lib.hid (fun w8 (hb : Below w7.heap.size w7 w8) => sum_any w6.heap.size sg sc ls m w8 (owns_same' o7 hb.block) hm.symm (by omega) (fun n hn => by have := MEM.out n hn; omega))
  have ND := Lib.hid (nodes_any N (by omega))
  rw [← hm]
  have dn : decide ((m : Int) ≤ (9 * (8 * (N + 1) / 128 + 1024) : Nat)) = true := decide_eq_true (by omega)
  have dn2 : decide ((m : Int) ≤ 9 * (8 * ((N : Int) + 1) / 128 + 1024)) = true := decide_eq_true (by omega)
  have HM := Lib.hid hm
  clear o7 b7 hm hm0
  go_wp2_with fail
  refine TR.out.mono ?_
  rintro e w8 ⟨rfl, b8⟩
  have SU8 := Lib.hid (SU.out w8 b8)
  have RD8 := Lib.hid (RD7.out.below b8)
  clear b8
  go_wp2_with fail
  refine SU8.out.mono ?_
  rintro e w9 ⟨rfl, b9⟩
  have RD9 := Lib.hid (RD8.out.below b9)
  clear b9
  have hf := field46 (sumL ls m) 0 m m
  go_wp2_with fail
  refine (ND.out _).mono ?_
  rintro e w' ⟨rfl, hw⟩
  obtain rfl : w9 = w' := hw.symm
  clear hw
  go_wp2_with fail
  go_ret
  exact ⟨rfl, RD9.out⟩
end
end Go.Proofs.YtnadgcgnediakaaGreatDoor
