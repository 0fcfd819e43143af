/- The walks of live.Row, Pos. The walks of live.add, fill. The walk of live.reorder. The walk of live.Insert. A caller's own row beside a live text. The walk of take.Piece. -/
import Derived.Test.YtnadgcgnediakaaGreatDoorH23
import Derived.Test.YtnadgcgnediakaaGreatDoorH14
import Derived.Deep.AppendLies
namespace Go.Proofs.YtnadgcgnediakaaGreatDoor
open Go.ChangeShapes Go.WideShapes Go.ChangeAt Go.RowKit Go.Deep

section
variable {o : Nat → Nat} {w wz : World} {A : At} {lb pb rate N : Nat} {s ix : Nat → Nat} {S : Nat → Bool} {L : List Nat} {C : Nat → Nat} {all : Nat}
theorem RdL.quiet (h : RdL o w A lb pb rate N ix S L C all wz) : ∃ o', Upd o gl w wz o' ∧ IsLive wz o' A lb pb rate N ix S L C all ∧ ∀ w', Upd o' nothing wz w' (ext o' wz.heap.size 0) → RdL o w A lb pb rate N ix S L C all w' := by
  obtain ⟨o', u, k⟩ := h
  exact ⟨o', u, k, fun w' u' => ⟨_, u.trans u' (fun _ h => h.elim), k.keep u' (ext_no5 k.n5 _ (by omega)) (by unfold nothing; simp)⟩⟩
theorem lnext_w (h : RdL o w A lb pb rate N ix S L C all wz) (pos : Nat) : Calls Tryz.prog 96 #[.pointer (some ⟨pb, 0, none⟩), .int .i64 pos] wz fun e w' => ∃ v, e = .returned (.int .i64 v) ∧ Wd.IsNext S N pos v ∧ RdL o w A lb pb rate N ix S L C all w' := by
  obtain ⟨o', u, k, q⟩ := h.quiet
  exact (pnext_s k.pm pos).mono fun e w' ⟨v, h1, h2, h3⟩ => ⟨v, h1, h2, q w' h3⟩
theorem lprow_w (h : RdL o w A lb pb rate N ix S L C all wz) (pos : Nat) (hp : pos ≤ N) : Calls Tryz.prog 97 #[.pointer (some ⟨pb, 0, none⟩), .int .i64 pos] wz fun e w' => e = .returned (.int .i64 (if S pos = true then (ix pos : Nat) else -1)) ∧ RdL o w A lb pb rate N ix S L C all w' := by
  obtain ⟨o', u, k, q⟩ := h.quiet
  exact (prow_s k.pm pos hp).mono fun e w' ⟨h1, h2⟩ => ⟨h1, q w' h2⟩
theorem lppos_w (h : RdL o w A lb pb rate N ix S L C all wz) (hr : Wd.Rows N ix) (p : Nat) (hp : p ≤ N) : Calls Tryz.prog 106 #[.pointer (some ⟨pb, 0, none⟩), .int .i64 (ix p)] wz fun e w' => e = .returned (.int .i64 (if S p = true then (p : Nat) else -1)) ∧ RdL o w A lb pb rate N ix S L C all w' := by
  obtain ⟨o', u, k, q⟩ := h.quiet
  exact (ppos_s k.pm hr p hp).mono fun e w' ⟨h1, h2⟩ => ⟨h1, q w' h2⟩
theorem lstep_w (h : RdL o w A lb pb rate N ix S L C all wz) (ar : Arr N s ix L C all) (hc : Wd.Cons N s ix) (hN : N ≤ 128) (p : Nat) (hp : p + 1 ≤ N) : Calls Tryz.prog 98 #[.pointer (some ⟨A.wk, 0, none⟩), .int .i64 (ix (p + 1))] wz fun e w' => e = .returned (.int .i64 (ix p)) ∧ RdL o w A lb pb rate N ix S L C all w' := by
  have h1 := ar.rows.lt (p + 1) hp
  have hlen := ar.len
  have e := ar.back_cons hc p (by omega)
  rw [show Wd.nx N p = p + 1 from by unfold Wd.nx; rw [if_neg (by omega)]] at e
  have hl := lback_w h (ix (p + 1)) (by omega) (by omega) (ar.c_lt (by omega))
  rw [e] at hl
  exact hl
set_option maxHeartbeats 1000000 in
theorem lrow_any (h : RdL o w A lb pb rate N ix S L C all wz) (ar : Arr N s ix L C all) (hc : Wd.Cons N s ix) (hN : N ≤ 128) (pos : Nat) (hp : pos ≤ N) :
    Calls Tryz.prog 43 #[.pointer (some ⟨lb, 0, none⟩), .int .i64 pos] wz fun e w' => e = .returned (.int .i64 (ix pos)) ∧ RdL o w A lb pb rate N ix S L C all w' := by
  have LL := Lib.hid (fun (wy : World) (hy : RdL o w A lb pb rate N ix S L C all wy) => llen_any hy ar.len (by omega))
  have LN := Lib.hid (lnext_w h pos)
  have PR := Lib.hid (fun (wy : World) (hy : RdL o w A lb pb rate N ix S L C all wy) (y : Nat) (hyN : y ≤ N) (hs : S y = true) => (if_pos hs (α := Int) (t := (ix y : Nat)) (e := -1)) ▸ lprow_w hy y hyN)
  have ST := Lib.hid (fun (wy : World) (hy : RdL o w A lb pb rate N ix S L C all wy) (p : Nat) (hpN : p + 1 ≤ N) => lstep_w hy ar hc hN p hpN)
  have EN := Lib.hid (ar.last hc)
  have LL0 := Lib.hid (LL.out _ h)
  have c1 := h.c1
  have H := Lib.hid h
  have hpn : decide ((N : Int) < pos) = false := decide_eq_false (by omega)
  have hpn2 : decide (N < pos) = false := decide_eq_false (by omega)
  clear h hc ar
  go_enter Tryz.func43, Tryz.ntmps43
  go_wp2_with (go_at_call 15; refine LL0.out.mono ?_; rintro e w' ⟨rfl, rfl⟩)
  refine LN.out.mono ?_
  rintro e w1 ⟨v, rfl, hv, r1⟩
  have key : ∀ (wr : World) (p : Nat), pos ≤ p → p ≤ N → RdL o w A lb pb rate N ix S L C all wr → True := fun _ _ _ _ _ => trivial
  rcases hv with ⟨y, hy1, hy2, hy3, rfl, hy4⟩ | ⟨hy1, rfl⟩
  · have d1 := r1.c1
    have PR1 := Lib.hid (PR.out w1 r1 y hy2 hy3)
    clear hy4 hy3
    go_wp2_with fail
    refine PR1.out.mono ?_
    rintro e w2 ⟨rfl, r2⟩
    have R2 := Lib.hid r2
    clear r2 r1 PR1 d1 key
    go_wp2_with fail
    go_loopg [5, 6] (y - pos) (fun gg s5 s6 wr => ∃ p : Nat, pos ≤ p ∧ p ≤ N ∧ p - pos ≤ gg ∧ s5 = .int .i64 p ∧ s6 = .int .i64 (ix p : Nat) ∧ Aside (RdL o w A lb pb rate N ix S L C all wr))
    case atStart => exact ⟨y, by omega, by omega, by omega, rfl, rfl, (R2.out : RdL o w A lb pb rate N ix S L C all _)⟩
    case round =>
      obtain ⟨p, hp1, hp2, hp3, rfl, rfl, rr⟩ := hrel
      by_cases hlt : pos < p
      · have d0 := rr.out.c0
        obtain ⟨q, rfl⟩ : ∃ q, p = q + 1 := ⟨p - 1, by omega⟩
        have SQ := Lib.hid (ST.out wr rr.out q hp2)
        have eq1 : ((q + 1 : Nat) : Int) - 1 = q := by omega
        have EQ := Lib.hid eq1
        have dlt : decide ((pos : Int) < ((q + 1 : Nat) : Int)) = true := decide_eq_true (by omega)
        generalize hu : ix (q + 1) = u at SQ
        have HU := Lib.hid hu
        clear eq1 hu
        go_wp2_with fail
        refine SQ.out.mono ?_
        rintro e w3 ⟨rfl, r3⟩
        have R3 := Lib.hid r3
        clear r3
        go_wp2_with fail
        go_roundg (q - pos)
        case measure => omega
        case rel => exact ⟨q, by omega, by omega, Nat.le_refl _, by go_num, rfl, (R3.out : RdL o w A lb pb rate N ix S L C all _)⟩
      · have : p = pos := by omega
        subst this
        go_wp2_with fail
        go_ret
        exact ⟨rfl, rr.out⟩
  · have R2 := Lib.hid r1
    clear r1 hy1 key
    go_wp2_with fail
    go_loopg [5, 6] (N - pos) (fun gg s5 s6 wr => ∃ p : Nat, pos ≤ p ∧ p ≤ N ∧ p - pos ≤ gg ∧ s5 = .int .i64 p ∧ s6 = .int .i64 (ix p : Nat) ∧ Aside (RdL o w A lb pb rate N ix S L C all wr))
    case atStart => exact ⟨N, by omega, by omega, by omega, rfl, by rw [EN.out]; rfl, (R2.out : RdL o w A lb pb rate N ix S L C all _)⟩
    case round =>
      obtain ⟨p, hp1, hp2, hp3, rfl, rfl, rr⟩ := hrel
      by_cases hlt : pos < p
      · have d0 := rr.out.c0
        obtain ⟨q, rfl⟩ : ∃ q, p = q + 1 := ⟨p - 1, by omega⟩
        have SQ := Lib.hid (ST.out wr rr.out q hp2)
        have eq1 : ((q + 1 : Nat) : Int) - 1 = q := by omega
        have EQ := Lib.hid eq1
        have dlt : decide ((pos : Int) < ((q + 1 : Nat) : Int)) = true := decide_eq_true (by omega)
        generalize hu : ix (q + 1) = u at SQ
        have HU := Lib.hid hu
        clear eq1 hu
        go_wp2_with fail
        refine SQ.out.mono ?_
        rintro e w3 ⟨rfl, r3⟩
        have R3 := Lib.hid r3
        clear r3
        go_wp2_with fail
        go_roundg (q - pos)
        case measure => omega
        case rel => exact ⟨q, by omega, by omega, Nat.le_refl _, by go_num, rfl, (R3.out : RdL o w A lb pb rate N ix S L C all _)⟩
      · have : p = pos := by omega
        subst this
        go_wp2_with fail
        go_ret
        exact ⟨rfl, rr.out⟩
set_option maxHeartbeats 1000000 in
theorem lpos_any (h : RdL o w A lb pb rate N ix S L C all wz) (ar : Arr N s ix L C all) (hc : Wd.Cons N s ix) (hN : N ≤ 128) (hS : S 0 = true) (p0 : Nat) (hp : p0 ≤ N) :
    Calls Tryz.prog 48 #[.pointer (some ⟨lb, 0, none⟩), .int .i64 (ix p0 : Nat)] wz fun e w' => e = .returned (.int .i64 p0) ∧ RdL o w A lb pb rate N ix S L C all w' := by
  have LL0 := Lib.hid (llen_any h ar.len (by omega))
  have PY := Lib.hid (fun (wy : World) (hy : RdL o w A lb pb rate N ix S L C all wy) (y : Nat) (hyN : y ≤ N) (hs : S y = true) => (if_pos hs (α := Int) (t := (y : Nat)) (e := -1)) ▸ lppos_w hy ar.rows y hyN)
  have PN := Lib.hid (fun (wy : World) (hy : RdL o w A lb pb rate N ix S L C all wy) (y : Nat) (hyN : y ≤ N) (hs : ¬ S y = true) => (if_neg hs (α := Int) (t := (y : Nat)) (e := -1)) ▸ lppos_w hy ar.rows y hyN)
  have ST := Lib.hid (fun (wy : World) (hy : RdL o w A lb pb rate N ix S L C all wy) (p : Nat) (hpN : p + 1 ≤ N) => lstep_w hy ar hc hN p hpN)
  have H := Lib.hid h
  have HS := Lib.hid hS
  have hb := ar.rows.lt p0 hp
  have hpn : decide ((N : Int) < (ix p0 : Nat)) = false := decide_eq_false (by omega)
  have hpn2 : decide (N < ix p0) = false := decide_eq_false (by omega)
  have U0 := Lib.hid (show ix p0 = ix p0 from rfl)
  clear h hc ar hS
  generalize hu0 : ix p0 = u0 at *
  have HU0 := Lib.hid hu0
  clear hu0
  go_enter Tryz.func48, Tryz.ntmps48
  go_wp2_with (go_at_call 15; refine LL0.out.mono ?_; rintro e w' ⟨rfl, rfl⟩)
  go_loopg [1, 5] p0 (fun gg s1 s5 wr => ∃ p : Nat, p ≤ p0 ∧ p ≤ gg ∧ s1 = .int .i64 (ix p : Nat) ∧ s5 = .int .i64 (p0 - p : Nat) ∧ Aside (RdL o w A lb pb rate N ix S L C all wr))
  case atStart => exact ⟨p0, Nat.le_refl _, Nat.le_refl _, by rw [HU0.out], by simp, (H.out : RdL o w A lb pb rate N ix S L C all _)⟩
  case round =>
    obtain ⟨p, hp1, hp2, rfl, rfl, rr⟩ := hrel
    have d1 := rr.out.c1
    by_cases hs : S p = true
    · have P1 := Lib.hid (PY.out wr rr.out p (by omega) hs)
      have P2 := Lib.hid (fun wy hy => PY.out wy hy p (by omega) hs)
      have E0 := Lib.hid (show (p : Int) + (p0 - p : Nat) = p0 by omega)
      obtain ⟨m, hm⟩ : ∃ m, p0 - p = m := ⟨_, rfl⟩
      have hm2 : m ≤ 128 := by omega
      rw [hm] at E0 ⊢
      generalize ix p = u at P1 P2
      clear hs hm rr
      go_wp2_with fail
      refine P1.out.mono ?_
      rintro e w3 ⟨rfl, r3⟩
      have d3 := r3.c1
      have P3 := Lib.hid (P2.out w3 r3)
      clear r3 P1 P2 d1
      go_wp2_with fail
      refine P3.out.mono ?_
      rintro e w4 ⟨rfl, r4⟩
      have R4 := Lib.hid r4
      clear r4
      go_wp2_with fail
      go_ret
      exact ⟨ret_int E0.out, R4.out⟩
    · obtain ⟨q, rfl⟩ : ∃ q, p = q + 1 := ⟨p - 1, by
        have : p ≠ 0 := fun e => hs (by rw [e]; exact HS.out)
        omega⟩
      have P1 := Lib.hid (PN.out wr rr.out (q + 1) (by omega) hs)
      have SQ := Lib.hid (fun wy hy => ST.out wy hy q (by omega))
      have E0 := Lib.hid (show ((p0 - (q + 1) : Nat) : Int) + 1 = (p0 - q : Nat) by omega)
      obtain ⟨m, hm⟩ : ∃ m, p0 - (q + 1) = m := ⟨_, rfl⟩
      have hm2 : m ≤ 128 := by omega
      rw [hm] at E0 ⊢
      generalize ix (q + 1) = u at P1 SQ
      clear hs hm rr
      go_wp2_with fail
      refine P1.out.mono ?_
      rintro e w3 ⟨rfl, r3⟩
      have d3 := r3.c0
      have P3 := Lib.hid (SQ.out w3 r3)
      clear r3 P1 SQ d1
      go_wp2_with fail
      refine P3.out.mono ?_
      rintro e w4 ⟨rfl, r4⟩
      have R4 := Lib.hid r4
      clear r4
      go_wp2_with fail
      go_roundg q
      case measure => omega
      case rel => exact ⟨q, by omega, Nat.le_refl _, rfl, by rw [E0.out], (R4.out : RdL o w A lb pb rate N ix S L C all _)⟩
end
end Go.Proofs.YtnadgcgnediakaaGreatDoor
namespace Go.Proofs.YtnadgcgnediakaaGreatDoor
open Go.ChangeShapes Go.WideShapes Go.ChangeAt Go.RowKit Go.Deep

section
variable {o : Nat → Nat} {w wz : World} {A : At} {lb pb rate N : Nat} {s ix : Nat → Nat} {S : Nat → Bool} {L : List Nat} {C : Nat → Nat} {all : Nat}
theorem ladd_w (h : RdL o w A lb pb rate N ix S L C all wz) (hr : Wd.Rows N ix) (hN : N ≤ 128) (pos : Nat) (hp : pos ≤ N) (hs : S pos = false) : Calls Tryz.prog 37 #[.pointer (some ⟨pb, 0, none⟩), .int .i64 (ix pos), .int .i64 pos] wz fun e w' => e = .returned (.int .i64 0) ∧ RdL o w A lb pb rate N ix (Wd.addS S pos) L C all w' := by
  obtain ⟨o', u, k⟩ := h
  refine (padd_s k.pm hr hN pos hp hs).mono ?_
  rintro e w' ⟨rfl, o2, h5, u2, pm⟩
  exact ⟨rfl, o2, u.trans u2 (fun x hx => by unfold gl; omega), k.permed u2 (h5 k.n5) (by omega) pm⟩
theorem ladd_any (h : RdL o w A lb pb rate N ix S L C all wz) (ar : Arr N s ix L C all) (hc : Wd.Cons N s ix) (hN : N ≤ 128) (pos : Nat) (hp : pos ≤ N) (hs : S pos = false) :
    Calls Tryz.prog 146 #[.pointer (some ⟨lb, 0, none⟩), .int .i64 pos] wz fun e w' => e = .returned (.tuple #[]) ∧ RdL o w A lb pb rate N ix (Wd.addS S pos) L C all w' := by
  have RW := Lib.hid (lrow_any h.drew ar hc hN pos hp)
  have AD := Lib.hid (fun wy (hy : RdL o w A lb pb rate N ix S L C all wy) => ladd_w (wz := wy) hy ar.rows hN pos hp hs)
  have C1 := Lib.hid h.c1
  have c1 := h.c1
  generalize ix pos = u at RW AD
  clear h ar hc hs
  go_enter Tryz.func146, Tryz.ntmps146
  go_wp2_with fail
  go_region_held3 (fun wz => wz.cell? ⟨lb, 1, none⟩ = some (.pointer (some ⟨pb, 0, none⟩))) (first | (with_reducible exact R4.out.c1) | (with_reducible exact R3.out.c1) | exact C1.out) (first | (go_at_call 43; refine RW.out.mono ?_; rintro e w3 ⟨rfl, r3⟩; have R3 := Lib.hid r3; clear r3) | (go_at_call 37; refine (AD.out _ R3.out).mono ?_; rintro e w4 ⟨rfl, r4⟩; have R4 := Lib.hid r4; clear r4))
  all_goals go_wp2_with fail
  all_goals go_end0
  all_goals exact ⟨rfl, R4.out⟩
set_option maxRecDepth 20000 in
set_option maxHeartbeats 1000000 in
theorem lfill_any (h : RdL o w A lb pb rate N ix S L C all wz) (ar : Arr N s ix L C all) (hc : Wd.Cons N s ix) (hN : N ≤ 128) (hr1 : 1 ≤ rate) (hr2 : rate ≤ 64) (at_ : Nat) (ha : at_ ≤ N) (hE : Wd.Edited (Wd.zeroS S) N rate at_) :
    Calls Tryz.prog 87 #[.pointer (some ⟨lb, 0, none⟩), .int .i64 at_] wz fun e w' => e = .returned (.tuple #[]) ∧ ∃ S', Wd.Cov S' N rate ∧ RdL o w A lb pb rate N ix S' L C all w' := by
  have PR := Lib.hid (lprow_w h 0 (Nat.zero_le _))
  have AD := Lib.hid (fun (S : Nat → Bool) wy (hy : RdL o w A lb pb rate N ix S L C all wy) pos hp hs => ladd_any (wz := wy) hy ar hc hN pos hp hs)
  have LL := Lib.hid (fun (S : Nat → Bool) wy (hy : RdL o w A lb pb rate N ix S L C all wy) => llen_any (wz := wy) hy ar.len (by omega))
  have NX := Lib.hid (fun (S : Nat → Bool) wy (hy : RdL o w A lb pb rate N ix S L C all wy) pos => lnext_w (wz := wy) hy pos)
  have c1 := h.c1
  have HE := Lib.hid hE
  clear h ar hc hE
  go_enter Tryz.func87, Tryz.ntmps87
  go_wp2_with fail
  refine PR.out.mono ?_
  rintro e w1 ⟨rfl, r1⟩
  by_cases hS : S 0 = true
  · have hz : Wd.zeroS S = S := by unfold Wd.zeroS; rw [if_pos hS]
    rw [hz] at HE
    rw [if_pos hS]
    obtain ⟨S1, hS1⟩ : ∃ S1, S1 = S := ⟨_, rfl⟩
    rw [← hS1] at HE r1
    obtain ⟨wx, hwx⟩ : ∃ wx, wx = w1 := ⟨_, rfl⟩
    subst hwx
    have RX0 := Lib.hid r1
    have d1 := r1.c1
    have d2 := r1.c2
    clear hz hS r1 c1 hS1
    go_wp2_with fail
    -- behind the first place
    have HS1 := Lib.hid (show Wd.Edited S1 N rate at_ from HE.out)
    have NX1 := Lib.hid (fun wy hy => NX.out S1 wy hy (at_ - 2 * rate))
    have m1 : max ((at_ : Int) - 2 * rate) 0 = (at_ - 2 * rate : Nat) := by omega
    have i1 : IntKind.i64.wrap (2 * (rate : Int)) = 2 * (rate : Int) := by rw [IntKind.wrap_i64]; omega
    have i2 : IntKind.i64.wrap ((at_ : Int) - 2 * (rate : Int)) = (at_ : Int) - 2 * (rate : Int) := by rw [IntKind.wrap_i64]; omega
    have C1 := Lib.hid (show wx.cell? ⟨lb, 1, none⟩ = some (.pointer (some ⟨pb, 0, none⟩)) ∧ wx.cell? ⟨lb, 2, none⟩ = some (.int .i64 rate) from ⟨d1, d2⟩)
    have RX := Lib.hid RX0.out.drew
    go_wp2_with fail
    go_region_held3 (fun wz => wz.cell? ⟨lb, 1, none⟩ = some (.pointer (some ⟨pb, 0, none⟩)) ∧ wz.cell? ⟨lb, 2, none⟩ = some (.int .i64 rate)) (first | (with_reducible exact ⟨R5.out.c1, R5.out.c2⟩) | exact C1.out) (first | (go_at_call 96; refine (NX1.out _ RX.out).mono ?_; rintro e w5 ⟨v5, rfl, hv5, r5⟩; have R5 := Lib.hid r5; have V5 := Lib.hid hv5; clear r5 hv5))
    obtain ⟨q0, hq0, hf0⟩ := HS1.out.first hr1 ha V5.out
    subst hq0
    have HF0 := Lib.hid hf0
    clear hf0 V5 m1 i1 i2 d1 d2 C1
    go_wp2_with fail
    go_loopg [4, 5] (N + 2) (fun gg s4 _ wr => ∃ (q : Nat) (S2 : Nat → Bool), s4 = .int .i64 q ∧ N + 2 - q ≤ gg ∧ Aside (Wd.Fill S2 N rate at_ q) ∧ Aside (RdL o w A lb pb rate N ix S2 L C all wr))
    case atStart => exact ⟨q0, S1, rfl, by omega, (HF0.out : Wd.Fill _ _ _ _ _), (R5.out : RdL o w A lb pb rate N ix S1 L C all _)⟩
    case round =>
      obtain ⟨q, S2, rfl, hg, fq, rr⟩ := hrel
      have Fq := Lib.hid fq.out
      have d2 := rr.out.c2
      have C2 := Lib.hid d2
      have RR := Lib.hid rr.out.drew
      have LL2 := Lib.hid (fun wy hy => LL.out S2 wy hy)
      have i3 : IntKind.i64.wrap ((at_ : Int) + (rate : Int)) = (at_ : Int) + (rate : Int) := by rw [IntKind.wrap_i64]; omega
      have hqb : q ≤ N + 1 := by rcases fq.out.q with h | h <;> omega
      obtain ⟨M, hM⟩ : ∃ M : Nat, M = min N (at_ + rate) := ⟨_, rfl⟩
      have hM1 : min (N : Int) ((at_ : Int) + (rate : Int)) = (M : Nat) := by omega
      have HM := Lib.hid hM
      clear fq hM
      go_wp2_with fail
      go_region_held3 (fun wz => wz.cell? ⟨lb, 2, none⟩ = some (.int .i64 rate)) (first | exact C2.out) (first | (go_at_call 15; refine (LL2.out _ RR.out).mono ?_; rintro e w' ⟨rfl, rfl⟩))
      clear i3 hM1 d2
      by_cases hqM : q ≤ M
      · have hqN : q ≤ N := by have := HM.out; omega
        have hqa : q ≤ at_ + rate := by have := HM.out; omega
        have d1 := RR.out.c1
        have nxq := NX.out S2 wr.drew RR.out (q + 1)
        rw [show ((q + 1 : Nat) : Int) = (q : Int) + 1 from by omega] at nxq
        have NXQ := Lib.hid nxq
        clear nxq
        go_wp2_with fail
        refine NXQ.out.mono ?_
        rintro e w3 ⟨v, rfl, hv, r3⟩
        have d2 := r3.c2
        have R3 := Lib.hid r3
        clear r3 d1
        rcases hv with ⟨y, hy1, hy2, hy3, rfl, hy4⟩ | ⟨hy1, rfl⟩
        · have HS := Lib.hid hy3
          have HN := Lib.hid hy4
          clear hy3 hy4
          by_cases hfar : q + rate < y
          · have t1 : decide ((rate : Int) < (y : Int) - (q : Int)) = true := decide_eq_true (by omega)
            have NQ := Fq.out.add hr1 hqN (show q + rate < y by omega) (.inl ⟨hy2, HS.out⟩) HN.out
            have A3 := Lib.hid (AD.out S2 w3 R3.out (q + rate) NQ.1 NQ.2.1)
            have F3 := Lib.hid NQ.2.2
            rw [show ((q + rate : Nat) : Int) = (q : Int) + rate from by omega] at A3
            clear NQ
            go_wp2_with fail
            refine A3.out.mono ?_
            rintro e w4 ⟨rfl, r4⟩
            have R4 := Lib.hid r4
            clear r4 A3
            go_wp2_with fail
            go_roundg (N + 2 - (q + rate))
            case measure => omega
            case rel => exact ⟨q + rate, _, by go_num, Nat.le_refl _, F3.out, (R4.out : RdL o w A lb pb rate N ix _ L C all _)⟩
          · have t1 : decide ((rate : Int) < (y : Int) - (q : Int)) = false := decide_eq_false (by omega)
            have F3 := Lib.hid (Fq.out.skip hqN (show q < y by omega) (by omega) (.inl ⟨hy2, HS.out⟩) HN.out)
            go_wp2_with fail
            go_roundg (N + 2 - (y))
            case measure => omega
            case rel => exact ⟨y, S2, by go_num, Nat.le_refl _, F3.out, (R3.out : RdL o w A lb pb rate N ix S2 L C all _)⟩
        · have HN := Lib.hid hy1
          clear hy1
          have L3 := Lib.hid (LL2.out w3 R3.out)
          by_cases hfar : q + rate < N + 1
          · have t1 : decide ((rate : Int) < (N : Int) + 1 - (q : Int)) = true := decide_eq_true (by omega)
            go_wp2_with (go_at_call 15; refine L3.out.mono ?_; rintro e w' ⟨rfl, rfl⟩)
            have NQ := Fq.out.add hr1 hqN (show q + rate < N + 1 by omega) (.inr rfl) (fun z h1 h2 => HN.out z h1 (by omega))
            have A3 := Lib.hid (AD.out S2 w3 R3.out (q + rate) NQ.1 NQ.2.1)
            have F3 := Lib.hid NQ.2.2
            rw [show ((q + rate : Nat) : Int) = (q : Int) + rate from by omega] at A3
            clear NQ
            refine A3.out.mono ?_
            rintro e w4 ⟨rfl, r4⟩
            have R4 := Lib.hid r4
            clear r4 A3
            go_wp2_with fail
            go_roundg (N + 2 - (q + rate))
            case measure => omega
            case rel => exact ⟨q + rate, _, by go_num, Nat.le_refl _, F3.out, (R4.out : RdL o w A lb pb rate N ix _ L C all _)⟩
          · have t1 : decide ((rate : Int) < (N : Int) + 1 - (q : Int)) = false := decide_eq_false (by omega)
            go_wp2_with (go_at_call 15; refine L3.out.mono ?_; rintro e w' ⟨rfl, rfl⟩)
            have F3 := Lib.hid (Fq.out.skip hqN (show q < N + 1 by omega) (by omega) (.inr rfl) (fun z h1 h2 => HN.out z h1 (by omega)))
            go_roundg (N + 2 - (N + 1))
            case measure => omega
            case rel => exact ⟨N + 1, S2, by go_num, Nat.le_refl _, F3.out, (R3.out : RdL o w A lb pb rate N ix S2 L C all _)⟩
      · have hd := Fq.out.done (by have := HM.out; omega)
        have HD := Lib.hid hd
        clear hd
        go_wp2_with fail
        go_end0
        exact ⟨rfl, S2, HD.out, RR.out⟩
  · have hz : Wd.zeroS S = Wd.addS S 0 := by unfold Wd.zeroS; rw [if_neg hS]
    rw [hz] at HE
    rw [if_neg hS]
    have A1 := Lib.hid (AD.out S w1 r1 0 (Nat.zero_le _) (by simpa using hS))
    clear hz hS r1 c1
    go_wp2_with fail
    refine A1.out.mono ?_
    rintro e wx ⟨rfl, rx⟩
    generalize Wd.addS S 0 = S1 at rx HE
    have RX0 := Lib.hid rx
    have d1 := rx.c1
    have d2 := rx.c2
    clear rx A1
    -- behind the first place
    have HS1 := Lib.hid (show Wd.Edited S1 N rate at_ from HE.out)
    have NX1 := Lib.hid (fun wy hy => NX.out S1 wy hy (at_ - 2 * rate))
    have m1 : max ((at_ : Int) - 2 * rate) 0 = (at_ - 2 * rate : Nat) := by omega
    have i1 : IntKind.i64.wrap (2 * (rate : Int)) = 2 * (rate : Int) := by rw [IntKind.wrap_i64]; omega
    have i2 : IntKind.i64.wrap ((at_ : Int) - 2 * (rate : Int)) = (at_ : Int) - 2 * (rate : Int) := by rw [IntKind.wrap_i64]; omega
    have C1 := Lib.hid (show wx.cell? ⟨lb, 1, none⟩ = some (.pointer (some ⟨pb, 0, none⟩)) ∧ wx.cell? ⟨lb, 2, none⟩ = some (.int .i64 rate) from ⟨d1, d2⟩)
    have RX := Lib.hid RX0.out.drew
    go_wp2_with fail
    go_region_held3 (fun wz => wz.cell? ⟨lb, 1, none⟩ = some (.pointer (some ⟨pb, 0, none⟩)) ∧ wz.cell? ⟨lb, 2, none⟩ = some (.int .i64 rate)) (first | (with_reducible exact ⟨R5.out.c1, R5.out.c2⟩) | exact C1.out) (first | (go_at_call 96; refine (NX1.out _ RX.out).mono ?_; rintro e w5 ⟨v5, rfl, hv5, r5⟩; have R5 := Lib.hid r5; have V5 := Lib.hid hv5; clear r5 hv5))
    obtain ⟨q0, hq0, hf0⟩ := HS1.out.first hr1 ha V5.out
    subst hq0
    have HF0 := Lib.hid hf0
    clear hf0 V5 m1 i1 i2 d1 d2 C1
    go_wp2_with fail
    go_loopg [4, 5] (N + 2) (fun gg s4 _ wr => ∃ (q : Nat) (S2 : Nat → Bool), s4 = .int .i64 q ∧ N + 2 - q ≤ gg ∧ Aside (Wd.Fill S2 N rate at_ q) ∧ Aside (RdL o w A lb pb rate N ix S2 L C all wr))
    case atStart => exact ⟨q0, S1, rfl, by omega, (HF0.out : Wd.Fill _ _ _ _ _), (R5.out : RdL o w A lb pb rate N ix S1 L C all _)⟩
    case round =>
      obtain ⟨q, S2, rfl, hg, fq, rr⟩ := hrel
      have Fq := Lib.hid fq.out
      have d2 := rr.out.c2
      have C2 := Lib.hid d2
      have RR := Lib.hid rr.out.drew
      have LL2 := Lib.hid (fun wy hy => LL.out S2 wy hy)
      have i3 : IntKind.i64.wrap ((at_ : Int) + (rate : Int)) = (at_ : Int) + (rate : Int) := by rw [IntKind.wrap_i64]; omega
      have hqb : q ≤ N + 1 := by rcases fq.out.q with h | h <;> omega
      obtain ⟨M, hM⟩ : ∃ M : Nat, M = min N (at_ + rate) := ⟨_, rfl⟩
      have hM1 : min (N : Int) ((at_ : Int) + (rate : Int)) = (M : Nat) := by omega
      have HM := Lib.hid hM
      clear fq hM
      go_wp2_with fail
      go_region_held3 (fun wz => wz.cell? ⟨lb, 2, none⟩ = some (.int .i64 rate)) (first | exact C2.out) (first | (go_at_call 15; refine (LL2.out _ RR.out).mono ?_; rintro e w' ⟨rfl, rfl⟩))
      clear i3 hM1 d2
      by_cases hqM : q ≤ M
      · have hqN : q ≤ N := by have := HM.out; omega
        have hqa : q ≤ at_ + rate := by have := HM.out; omega
        have d1 := RR.out.c1
        have nxq := NX.out S2 wr.drew RR.out (q + 1)
        rw [show ((q + 1 : Nat) : Int) = (q : Int) + 1 from by omega] at nxq
        have NXQ := Lib.hid nxq
        clear nxq
        go_wp2_with fail
        refine NXQ.out.mono ?_
        rintro e w3 ⟨v, rfl, hv, r3⟩
        have d2 := r3.c2
        have R3 := Lib.hid r3
        clear r3 d1
        rcases hv with ⟨y, hy1, hy2, hy3, rfl, hy4⟩ | ⟨hy1, rfl⟩
        · have HS := Lib.hid hy3
          have HN := Lib.hid hy4
          clear hy3 hy4
          by_cases hfar : q + rate < y
          · have t1 : decide ((rate : Int) < (y : Int) - (q : Int)) = true := decide_eq_true (by omega)
            have NQ := Fq.out.add hr1 hqN (show q + rate < y by omega) (.inl ⟨hy2, HS.out⟩) HN.out
            have A3 := Lib.hid (AD.out S2 w3 R3.out (q + rate) NQ.1 NQ.2.1)
            have F3 := Lib.hid NQ.2.2
            rw [show ((q + rate : Nat) : Int) = (q : Int) + rate from by omega] at A3
            clear NQ
            go_wp2_with fail
            refine A3.out.mono ?_
            rintro e w4 ⟨rfl, r4⟩
            have R4 := Lib.hid r4
            clear r4 A3
            go_wp2_with fail
            go_roundg (N + 2 - (q + rate))
            case measure => omega
            case rel => exact ⟨q + rate, _, by go_num, Nat.le_refl _, F3.out, (R4.out : RdL o w A lb pb rate N ix _ L C all _)⟩
          · have t1 : decide ((rate : Int) < (y : Int) - (q : Int)) = false := decide_eq_false (by omega)
            have F3 := Lib.hid (Fq.out.skip hqN (show q < y by omega) (by omega) (.inl ⟨hy2, HS.out⟩) HN.out)
            go_wp2_with fail
            go_roundg (N + 2 - (y))
            case measure => omega
            case rel => exact ⟨y, S2, by go_num, Nat.le_refl _, F3.out, (R3.out : RdL o w A lb pb rate N ix S2 L C all _)⟩
        · have HN := Lib.hid hy1
          clear hy1
          have L3 := Lib.hid (LL2.out w3 R3.out)
          by_cases hfar : q + rate < N + 1
          · have t1 : decide ((rate : Int) < (N : Int) + 1 - (q : Int)) = true := decide_eq_true (by omega)
            go_wp2_with (go_at_call 15; refine L3.out.mono ?_; rintro e w' ⟨rfl, rfl⟩)
            have NQ := Fq.out.add hr1 hqN (show q + rate < N + 1 by omega) (.inr rfl) (fun z h1 h2 => HN.out z h1 (by omega))
            have A3 := Lib.hid (AD.out S2 w3 R3.out (q + rate) NQ.1 NQ.2.1)
            have F3 := Lib.hid NQ.2.2
            rw [show ((q + rate : Nat) : Int) = (q : Int) + rate from by omega] at A3
            clear NQ
            refine A3.out.mono ?_
            rintro e w4 ⟨rfl, r4⟩
            have R4 := Lib.hid r4
            clear r4 A3
            go_wp2_with fail
            go_roundg (N + 2 - (q + rate))
            case measure => omega
            case rel => exact ⟨q + rate, _, by go_num, Nat.le_refl _, F3.out, (R4.out : RdL o w A lb pb rate N ix _ L C all _)⟩
          · have t1 : decide ((rate : Int) < (N : Int) + 1 - (q : Int)) = false := decide_eq_false (by omega)
            go_wp2_with (go_at_call 15; refine L3.out.mono ?_; rintro e w' ⟨rfl, rfl⟩)
            have F3 := Lib.hid (Fq.out.skip hqN (show q < N + 1 by omega) (by omega) (.inr rfl) (fun z h1 h2 => HN.out z h1 (by omega)))
            go_roundg (N + 2 - (N + 1))
            case measure => omega
            case rel => exact ⟨N + 1, S2, by go_num, Nat.le_refl _, F3.out, (R3.out : RdL o w A lb pb rate N ix S2 L C all _)⟩
      · have hd := Fq.out.done (by have := HM.out; omega)
        have HD := Lib.hid hd
        clear hd
        go_wp2_with fail
        go_end0
        exact ⟨rfl, S2, HD.out, RR.out⟩
end
end Go.Proofs.YtnadgcgnediakaaGreatDoor
namespace Go.Proofs.YtnadgcgnediakaaGreatDoor
open Go.ChangeShapes Go.WideShapes Go.ChangeAt Go.RowKit Go.Deep

section
variable {o : Nat → Nat} {w wz : World} {A : At} {lb pb rate N : Nat} {s ix : Nat → Nat} {S : Nat → Bool} {L : List Nat} {C : Nat → Nat} {all : Nat}
theorem RdL.k0 (h : RdL o w A lb pb rate N ix S L C all wz) : wz.cell? ⟨A.wk, 0, none⟩ = some (.pointer (some ⟨A.wb, 0, none⟩)) := h.choose_spec.2.wk.c0
theorem RdL.c3 (h : RdL o w A lb pb rate N ix S L C all wz) : ∃ mv : Int, wz.cell? ⟨lb, 3, none⟩ = some (.int .i64 mv) ∧ wz.frozen? ⟨lb, 3, none⟩ = false := by
  obtain ⟨o', u, k⟩ := h
  obtain ⟨m, hl⟩ := k.l
  exact ⟨m, by rw [Joins.cell_of_block hl]; rfl, Joins.unfrozen_of_block hl 3⟩
theorem RdL.moves (h : RdL o w A lb pb rate N ix S L C all wz) (v : Int) : RdL o w A lb pb rate N ix S L C all (wz.setCell ⟨lb, 3, none⟩ (.int .i64 v)) := by
  obtain ⟨o', u, k⟩ := h
  exact ⟨o', u.trans ((Upd.refl o' (· = 8) wz).set _ (.inr k.ol)) (fun x h => by unfold gl; omega), k.move v⟩
theorem lget_w (h : RdL o w A lb pb rate N ix S L C all wz) (row : Nat) (hr : row < L.length) : Calls Tryz.prog 79 #[.pointer (some ⟨A.wb, 0, none⟩), .int .i64 row] wz fun e w' => e = .returned (.tuple #[.int .i64 (L.getD row 0), .int .i64 0]) ∧ RdL o w A lb pb rate N ix S L C all w' := by
  obtain ⟨o', u, k⟩ := h
  obtain ⟨v, wv⟩ := k.wk.wave
  refine (wget_any o' A.wb row _ A.S A.sc A.tb L v wz wv k.n5 hr rfl).mono ?_
  rintro e w' ⟨rfl, o2, v2, h52, u2, wv2⟩
  exact ⟨rfl, o2, u.trans u2 (fun _ h => gv_gl h), k.walked u2 (fun x hx => by unfold gv; omega) (k.wk.waved u2 h52 wv2)⟩
theorem lcut_w (h : RdL o w A lb pb rate N ix S L C all wz) (row : Nat) (hr : row < L.length) (hL : L.length < 1000) : Calls Tryz.prog 81 #[.pointer (some ⟨A.wk, 0, none⟩), .int .i64 row] wz fun e w' => e = .returned (.int .i64 (L.getD row 0)) ∧ RdL o w A lb pb rate N ix S (L.eraseIdx row) C all w' := by
  obtain ⟨o', u, k⟩ := h
  refine (kcut_any o' A L C all row _ wz k.wk hr hL rfl).mono ?_
  rintro e w' ⟨rfl, o2, u2, k2⟩
  exact ⟨rfl, o2, u.trans u2 (fun _ h => gv_gl h), k.walked u2 (fun x hx => by unfold gv; omega) k2⟩
theorem lput_w (h : RdL o w A lb pb rate N ix S L C all wz) (row b : Nat) (hr : row ≤ L.length) (hL : L.length < 128) (hb : b < 257) : Calls Tryz.prog 90 #[.pointer (some ⟨A.wk, 0, none⟩), .int .i64 row, .int .i64 b] wz fun e w' => e = .returned (.tuple #[]) ∧ RdL o w A lb pb rate N ix S (L.insertIdx row b) C all w' := by
  obtain ⟨o', u, k⟩ := h
  refine (kput_any o' A L C all row b wz k.wk hr hL hb).mono ?_
  rintro e w' ⟨rfl, o2, u2, k2⟩
  exact ⟨rfl, o2, u.trans u2 (fun _ h => gv_gl h), k.walked u2 (fun x hx => by unfold gv; omega) k2⟩
theorem lmove_w (h : RdL o w A lb pb rate N ix S L C all wz) (hr : Wd.Rows N ix) (hN : N ≤ 128) (e1 t : Nat) (he : e1 ≤ N) (ht : t ≤ N) : Calls Tryz.prog 91 #[.pointer (some ⟨pb, 0, none⟩), .int .i64 (ix e1), .int .i64 t] wz fun e w' => e = .returned (.int .i64 0) ∧ RdL o w A lb pb rate N (Wd.moved ix e1 t) S L C all w' := by
  obtain ⟨o', u, k⟩ := h
  refine (pmove_s k.pm hr hN e1 t he ht).mono ?_
  rintro e w' ⟨rfl, u2, pm⟩
  exact ⟨rfl, _, u.trans u2 (fun x hx => by unfold gl; omega), k.permed u2 (ext_no5 k.n5 _ (by omega)) (by omega) pm⟩
theorem Arr.t_le (_h : Arr N s ix L C all) (e : Nat) (he : e ≤ N) : Wd.cnt (fun p => decide (Wd.kl N s ix p e)) (N + 1) ≤ N := by
  rw [Wd.cnt_split _ e N he, decide_eq_false (Wd.kl_irrefl _ _ _ _)]
  have := Wd.cnt_le (fun i => decide (Wd.kl N s ix (Wd.oth e i) e)) N
  simpa using this

/-- how far reordering has come -/
def Reord (N : Nat) (s ix : Nat → Nat) (at_ : Nat) (cur : Nat) (a : Int) : Prop := Wd.Fst N s ix ∧ ((at_ = 0 ∧ Wd.But N s ix N) ∨ ∃ e, at_ = e + 1 ∧ e + 1 ≤ N ∧ cur = ix (e + 1) ∧ a = (ix e : Nat) ∧ Wd.But N s ix e)
theorem Reord.zero {a : Int} {cur : Nat} (h : Reord N s ix 0 cur a) (ar : Arr N s ix L C all) : Wd.Cons N s ix := by
  obtain ⟨hf, h | ⟨e, h, _⟩⟩ := h
  · exact Wd.last_cons h.2 hf ar.s0 ar.sp
  · omega
theorem nx_lt {N e : Nat} (h : e < N) : Wd.nx N e = e + 1 := by unfold Wd.nx; rw [if_neg (by omega)]
/-- a round -/
theorem Reord.step {a : Int} {cur e : Nat} (h : Reord N s ix (e + 1) cur a) (ar : Arr N s ix L C all) :
    e + 1 ≤ N ∧ cur = ix (e + 1) ∧ a = (ix e : Nat) ∧ L.getD (ix (e + 1)) 0 = s e ∧ backN L C (ix (e + 1)) ≤ N ∧ (backN L C (ix (e + 1)) = ix e → Wd.Cons N s ix) ∧
      (e = 0 → Reord N s (Wd.moved ix e (backN L C (ix (e + 1)))) 0 (backN L C (ix (e + 1))) (-1)) ∧
      ∀ e1, e = e1 + 1 → L.getD (ix e) 0 = s e1 ∧ (s e = s e1 → ix (e + 1) < ix e → 0 < backN L C (ix e)) ∧ backN L C (ix e) ≤ N ∧
        Reord N s (Wd.moved ix e (backN L C (ix (e + 1)))) e (backN L C (ix (e + 1))) (Wd.inr (Wd.outr (if s e = s e1 then Wd.besideN (backN L C (ix e)) (ix (e + 1)) (ix e) else backN L C (ix e)) (ix e)) (backN L C (ix (e + 1))) : Nat) := by
  obtain ⟨hf, h | ⟨e', h1, h2, h3, h4, h5⟩⟩ := h
  · omega
  obtain rfl : e' = e := by omega
  have hnx := nx_lt (show e' < N by omega)
  have hb := ar.back e' (by omega)
  have ht := ar.t_le e' (by omega)
  have hl := ar.isL e' (by omega)
  simp only at hl
  rw [hnx] at hb hl
  rw [← hb] at ht
  have hfm := Wd.moved_fst ar.rows (show e' ≤ N by omega) h5 hf hb
  have me : Wd.moved ix e' (backN L C (ix (e' + 1))) e' = backN L C (ix (e' + 1)) := by unfold Wd.moved; rw [if_pos rfl]
  refine ⟨h2, h3, h4, hl, ht, fun he => Wd.still_cons ar.rows (by omega) h5 (by rw [← he, hb]), fun h0 => ?_, fun e1 he1 => ?_⟩
  · subst h0
    exact ⟨hfm, .inl ⟨rfl, Wd.moved_but ar.rows (by omega) (Nat.le_refl _) (by unfold Wd.nx; rw [if_pos rfl]) (by omega) h5 hb⟩⟩
  · subst he1
    have hnx1 := nx_lt (show e1 < N by omega)
    have hb1 := ar.back e1 (by omega)
    have hl1 := ar.isL e1 (by omega)
    have ht1 := ar.t_le e1 (by omega)
    simp only at hl1
    rw [hnx1] at hb1 hl1
    rw [← hb1] at ht1
    have hrow := Wd.next_row ar.rows (show e1 + 1 ≤ N by omega) (show e1 ≤ N by omega) (by omega) hnx1 h5 hf
    rw [hnx, ← hb1] at hrow
    refine ⟨hl1, fun q1 q2 => ?_, ht1, hfm, .inr ⟨e1, rfl, by omega, me.symm, ?_, Wd.moved_but ar.rows (by omega) (by omega) hnx1 (by omega) h5 hb⟩⟩
    · rw [hb1]
      have hk : Wd.kl N s ix (e1 + 1) e1 := .inr ⟨q1, by rw [hnx, hnx1]; exact q2⟩
      have := Wd.cnt_erase (fun p => decide (Wd.kl N s ix p e1)) (e1 + 1) (N + 1) (by omega) (by simpa using hk)
      omega
    · rw [hrow]
      unfold Wd.moved
      rw [if_neg (by omega)]
set_option maxRecDepth 20000 in
set_option maxHeartbeats 2000000 in
theorem lreorder_any (h : RdL o w A lb pb rate N ix S L C all wz) (ar : Arr N s ix L C all) (hN : N ≤ 120) (at_ cur : Nat) (a : Int) (haN : at_ ≤ N) (hR : Reord N s ix at_ cur a) :
    Calls Tryz.prog 85 #[.pointer (some ⟨lb, 0, none⟩), .int .i64 at_, .int .i64 cur, .int .i64 a] wz fun e w' => e = .returned (.tuple #[]) ∧ ∃ ix' L', Arr N s ix' L' C all ∧ Wd.Cons N s ix' ∧ RdL o w A lb pb rate N ix' S L' C all w' := by
  have H := Lib.hid h
  have AR := Lib.hid ar
  have RE := Lib.hid hR
  have HA := Lib.hid haN
  clear h ar hR haN
  go_enter Tryz.func85, Tryz.ntmps85
  go_wp2_with fail
  go_loopg [1, 2, 3] at_ (fun gg s1 s2 s3 wr => ∃ (cur : Nat) (a : Int) (ix' : Nat → Nat) (L' : List Nat), s1 = .int .i64 gg ∧ s2 = .int .i64 cur ∧ s3 = .int .i64 a ∧ Aside (gg ≤ N) ∧ Aside (Reord N s ix' gg cur a) ∧ Aside (Arr N s ix' L' C all) ∧ Aside (RdL o w A lb pb rate N ix' S L' C all wr))
  case atStart => exact ⟨cur, a, ix, L, rfl, rfl, rfl, HA.out, RE.out, AR.out, H.out⟩
  case round =>
    clear H AR RE HA
    obtain ⟨cur, a, ix', L', rfl, rfl, rfl, hgN, re, ar, rr⟩ := hrel
    rcases gk with _ | e
    · have HC := Lib.hid (re.out.zero ar.out)
      go_wp2_with fail
      go_end0
      exact ⟨rfl, ix', L', ar.out, HC.out, rr.out⟩
    · obtain ⟨he1, hcur, ha, hc, ht, hstill, hz, hmore⟩ := re.out.step ar.out
      subst hcur ha
      have hlen := ar.out.len
      have hvN := ar.out.rows.lt (e + 1) he1
      have huN := ar.out.rows.lt e (by omega)
      have hcl := ar.out.l_lt _ hvN
      have LT := Lib.hid (lto_any rr.out (ix' (e + 1)) (by omega) (by omega) (ar.out.c_lt (by omega)))
      have LG1 := Lib.hid (fun wy (hy : RdL o w A lb pb rate N ix' S L' C all wy) => hc ▸ lget_w hy (ix' (e + 1)) (by omega))
      have LG2 := Lib.hid (fun wy (hy : RdL o w A lb pb rate N ix' S L' C all wy) => lget_w hy (ix' e) (by omega))
      have LT2 := Lib.hid (fun wy (hy : RdL o w A lb pb rate N ix' S L' C all wy) => lto_any hy (ix' e) (by omega) (by omega) (ar.out.c_lt (by omega)))
      have CU := Lib.hid (fun wy (hy : RdL o w A lb pb rate N ix' S L' C all wy) => lcut_w hy (ix' e) (by omega) (by omega))
      have hdl := ar.out.l_lt _ huN
      have l1 : (L'.eraseIdx (ix' e)).length = N := by rw [List.length_eraseIdx_of_lt (by omega)]; omega
      have PU := Lib.hid (fun wy (hy : RdL o w A lb pb rate N ix' S (L'.eraseIdx (ix' e)) C all wy) => lput_w hy (backN L' C (ix' (e + 1))) (L'.getD (ix' e) 0) (by omega) (by omega) hdl)
      have MV := Lib.hid (fun L2 wy (hy : RdL o w A lb pb rate N ix' S L2 C all wy) => lmove_w hy ar.out.rows (by omega) e (backN L' C (ix' (e + 1))) (by omega) ht)
      have AM := Lib.hid (ar.out.move e (backN L' C (ix' (e + 1))) (by omega) ht)
      have HST := Lib.hid hstill
      have HZ := Lib.hid hz
      have HM := Lib.hid hmore
      clear hstill hz hmore hc l1 hdl hcl re
      go_wp2_with fail
      refine LT.out.mono ?_
      rintro e' w2 ⟨rfl, r2⟩
      generalize hTT : backN L' C (ix' (e + 1)) = T at *
      clear hTT
      generalize ix' (e + 1) = v at *
      by_cases hT : T = ix' e
      · have HC := Lib.hid (HST.out hT)
        subst hT
        have R2 := Lib.hid r2
        clear r2
        go_wp2_with fail
        refine bodyPost_ret (results_none rfl _ _ _) rfl ?_
        exact ⟨rfl, ix', L', ar.out, HC.out, R2.out⟩
      · generalize hU : ix' e = u at *
        have n1 : ((u : Int) == (T : Int)) = false := by simp; omega
        have n2 : (u == T) = false := by simp; omega
        have d0 := r2.c0
        have k0 := r2.k0
        have G1 := Lib.hid (LG1.out w2 r2)
        clear r2 hT
        generalize s e = c0 at G1 HM
        go_wp2_with fail
        refine G1.out.mono ?_
        rintro e' w3 ⟨rfl, r3⟩
        have d0 := r3.c0
        have k0 := r3.k0
        have G2 := Lib.hid (LG2.out w3 r3)
        clear r3
        generalize hD : L'.getD u 0 = dd at G2 PU AM HM CU
        clear hD
        go_wp2_with fail
        refine G2.out.mono ?_
        rintro e' w4 ⟨rfl, r4⟩
        have R4 := Lib.hid r4
        clear r4 G1 G2 d0 k0
        rcases e with _ | e1
        · have hq : Reord N s (Wd.moved ix' 0 T) 0 T (-1) := HZ.out rfl
          have HQ := Lib.hid hq
          clear hq
          have d0 := R4.out.c0
          have C0 := Lib.hid d0
          have R5 := Lib.hid R4.out.drew
          clear d0
          go_wp2_with fail
          go_region_held3 (fun wz => wz.cell? ⟨lb, 0, none⟩ = some (.pointer (some ⟨A.wk, 0, none⟩))) (first | (with_reducible exact R7.out.c0) | (with_reducible exact R6.out.c0) | exact C0.out) (first | (go_at_call 81; refine (CU.out _ R5.out).mono ?_; rintro e' w6 ⟨rfl, r6⟩; have R6 := Lib.hid r6; clear r6) | (go_at_call 90; refine (PU.out _ R6.out).mono ?_; rintro e' w7 ⟨rfl, r7⟩; have R7 := Lib.hid r7; clear r7))
          have d1 := R7.out.c1
          have M7 := Lib.hid (MV.out _ _ R7.out)
          go_wp2_with fail
          refine M7.out.mono ?_
          rintro e' w8 ⟨rfl, r8⟩
          obtain ⟨mv, c3, f3⟩ := r8.c3
          have R9 := Lib.hid (fun x => r8.moves x)
          clear r8 d1 M7
          go_wp2_with fail
          go_roundg 0
          case measure => omega
          case rel => exact ⟨T, -1, _, _, by simp, rfl, rfl, Nat.zero_le _, HQ.out, AM.out, R9.out _⟩
        · obtain ⟨hm1, hm2, hm3, hm4⟩ := HM.out e1 rfl
          have T2 := Lib.hid (LT2.out w4 R4.out)
          generalize hB : backN L' C u = bn at *
          clear hB
          have d0 := R4.out.c0
          have eg : decide ((1 : Int) < ((e1 + 1 + 1 : Nat) : Int)) = true := decide_eq_true (by omega)
          by_cases hcd : c0 = dd
          · have hbs : Wd.besideN bn v u < 900 := by unfold Wd.besideN Wd.inr; split <;> split <;> omega
            have B1 := Lib.hid (fun wy => lbeside_any bn v u (by omega) (hm2 (by omega)) wy)
            rw [if_pos (by omega)] at hm4
            generalize hN1 : Wd.besideN bn v u = nn at *
            have HQ := Lib.hid hm4
            have O1 := Lib.hid (fun wy => lout_any nn u (by omega) wy)
            have ho : Wd.outr nn u < 1000 := by unfold Wd.outr; split <;> omega
            have I1 := Lib.hid (fun wy => lin_any (Wd.outr nn u) T ho wy)
            clear hm1 hm2 hm3 hm4 hN1 hbs ho
            subst hcd
            go_wp2_with fail
            refine T2.out.mono ?_
            rintro e' w5 ⟨rfl, r5⟩
            have RB := Lib.hid r5
            clear r5 T2 d0
            go_wp2_with (go_at_call 145; refine (B1.out _).mono ?_; rintro e' w' ⟨rfl, rfl⟩)
            have d0 := RB.out.c0
            have C0 := Lib.hid d0
            have R5 := Lib.hid RB.out.drew
            clear d0
            go_wp2_with fail
            go_region_held3 (fun wz => wz.cell? ⟨lb, 0, none⟩ = some (.pointer (some ⟨A.wk, 0, none⟩))) (first | (with_reducible exact R7.out.c0) | (with_reducible exact R6.out.c0) | exact C0.out) (first | (go_at_call 81; refine (CU.out _ R5.out).mono ?_; rintro e' w6 ⟨rfl, r6⟩; have R6 := Lib.hid r6; clear r6) | (go_at_call 90; refine (PU.out _ R6.out).mono ?_; rintro e' w7 ⟨rfl, r7⟩; have R7 := Lib.hid r7; clear r7))
            have d1 := R7.out.c1
            have M7 := Lib.hid (MV.out _ _ R7.out)
            go_wp2_with fail
            refine M7.out.mono ?_
            rintro e' w8 ⟨rfl, r8⟩
            obtain ⟨mv, c3, f3⟩ := r8.c3
            have R9 := Lib.hid (fun x => r8.moves x)
            clear r8 d1 M7
            go_wp2_with (first | (go_at_call 86; refine (O1.out _).mono ?_; rintro e' w' ⟨rfl, rfl⟩) | (go_at_call 92; refine (I1.out _).mono ?_; rintro e' w' ⟨rfl, rfl⟩))
            go_roundg (e1 + 1)
            case measure => omega
            case rel => exact ⟨T, _, _, _, by go_num, rfl, rfl, (show e1 + 1 ≤ N by omega), HQ.out, AM.out, R9.out _⟩
          · have f1 : ((c0 : Int) == (dd : Int)) = false := by simp; omega
            have f2 : (c0 == dd) = false := by simp; omega
            rw [if_neg (by omega)] at hm4
            have HQ := Lib.hid hm4
            have O1 := Lib.hid (fun wy => lout_any bn u (by omega) wy)
            have ho : Wd.outr bn u < 1000 := by unfold Wd.outr; split <;> omega
            have I1 := Lib.hid (fun wy => lin_any (Wd.outr bn u) T ho wy)
            clear hm1 hm2 hm3 hm4 ho hcd
            go_wp2_with fail
            refine T2.out.mono ?_
            rintro e' w5 ⟨rfl, r5⟩
            have RB := Lib.hid r5
            clear r5 T2 d0
            have d0 := RB.out.c0
            have C0 := Lib.hid d0
            have R5 := Lib.hid RB.out.drew
            clear d0
            go_wp2_with fail
            go_region_held3 (fun wz => wz.cell? ⟨lb, 0, none⟩ = some (.pointer (some ⟨A.wk, 0, none⟩))) (first | (with_reducible exact R7.out.c0) | (with_reducible exact R6.out.c0) | exact C0.out) (first | (go_at_call 81; refine (CU.out _ R5.out).mono ?_; rintro e' w6 ⟨rfl, r6⟩; have R6 := Lib.hid r6; clear r6) | (go_at_call 90; refine (PU.out _ R6.out).mono ?_; rintro e' w7 ⟨rfl, r7⟩; have R7 := Lib.hid r7; clear r7))
            have d1 := R7.out.c1
            have M7 := Lib.hid (MV.out _ _ R7.out)
            go_wp2_with fail
            refine M7.out.mono ?_
            rintro e' w8 ⟨rfl, r8⟩
            obtain ⟨mv, c3, f3⟩ := r8.c3
            have R9 := Lib.hid (fun x => r8.moves x)
            clear r8 d1 M7
            go_wp2_with (first | (go_at_call 86; refine (O1.out _).mono ?_; rintro e' w' ⟨rfl, rfl⟩) | (go_at_call 92; refine (I1.out _).mono ?_; rintro e' w' ⟨rfl, rfl⟩))
            go_roundg (e1 + 1)
            case measure => omega
            case rel => exact ⟨T, _, _, _, by go_num, rfl, rfl, (show e1 + 1 ≤ N by omega), HQ.out, AM.out, R9.out _⟩
end
end Go.Proofs.YtnadgcgnediakaaGreatDoor
namespace Go.Proofs.YtnadgcgnediakaaGreatDoor
open Go.ChangeShapes Go.WideShapes Go.ChangeAt Go.RowKit Go.Deep

section
variable {o : Nat → Nat} {w wz : World} {A : At} {lb pb rate N : Nat} {s ix : Nat → Nat} {S : Nat → Bool} {L : List Nat} {C : Nat → Nat} {all : Nat}
theorem lchange_w (h : RdL o w A lb pb rate N ix S L C all wz) (row b : Nat) (hr : row < L.length) (hL : L.length < 128) (hb : b < 257) : Calls Tryz.prog 80 #[.pointer (some ⟨A.wk, 0, none⟩), .int .i64 row, .int .i64 b] wz fun e w' => e = .returned (.tuple #[]) ∧ RdL o w A lb pb rate N ix S ((L.eraseIdx row).insertIdx row b) C all w' := by
  obtain ⟨o', u, k⟩ := h
  refine (kchange_any o' A L C all row b wz k.wk hr hL hb).mono ?_
  rintro e w' ⟨rfl, o2, u2, k2⟩
  exact ⟨rfl, o2, u.trans u2 (fun _ h => gv_gl h), k.walked u2 (fun x hx => by unfold gv; omega) k2⟩
theorem lcount_w (h : RdL o w A lb pb rate N ix S L C all wz) (b : Nat) (hb : b < 257) (hC : C b < 1000) (ha : all < 1000) : Calls Tryz.prog 82 #[.pointer (some ⟨A.wk, 0, none⟩), .int .i64 b, .int .i64 1] wz fun e w' => e = .returned (.tuple #[]) ∧ RdL o w A lb pb rate N ix S L (fun i => if i = b then C b + 1 else C i) (all + 1) w' := by
  obtain ⟨o', u, k⟩ := h
  refine (kcount_any o' A L C all b wz k.wk hb hC ha).mono ?_
  rintro e w' ⟨rfl, u2, k2⟩
  exact ⟨rfl, o', u.trans u2 (fun x hx => by unfold gl; omega), k.walked u2 (fun x hx => by omega) k2⟩
theorem lrowin_w (h : RdL o w A lb pb rate N ix S L C all wz) (hr : Wd.Rows N ix) (hN : N ≤ 128) (row at_ : Nat) (hrow : row ≤ N + 1) (ha : at_ ≤ N) : Calls Tryz.prog 93 #[.pointer (some ⟨pb, 0, none⟩), .int .i64 row] wz fun e w' => e = .returned (.int .i64 0) ∧ w'.cell? ⟨lb, 1, none⟩ = some (.pointer (some ⟨pb, 0, none⟩)) ∧
    Calls Tryz.prog 94 #[.pointer (some ⟨pb, 0, none⟩), .int .i64 at_] w' fun e w2 => e = .returned (.int .i64 0) ∧ RdL o w A lb pb rate (N + 1) (Wd.ixIn ix at_ row) (Wd.inS S at_) L C all w2 := by
  obtain ⟨o', u, k⟩ := h
  refine (prowin_s k.pm hr hN row at_ hrow ha).mono ?_
  rintro e w' ⟨rfl, u2, hx⟩
  obtain ⟨m, hl⟩ := k.l
  have kl := u2.heap hl (by rw [k.ol]; omega)
  refine ⟨rfl, by rw [Joins.cell_of_block kl.1]; rfl, ?_⟩
  refine (hx w' _ (Upd.refl _ _ _)).mono ?_
  rintro e w2 ⟨rfl, u3, pm⟩
  have u4 := u2.trans u3 (fun _ h => h)
  exact ⟨rfl, _, u.trans u4 (fun x hx => by unfold gl; omega), k.permed u4 (ext_no5 (ext_no5 k.n5 _ (by omega)) _ (by omega)) (by omega) pm⟩
set_option maxRecDepth 20000 in
set_option maxHeartbeats 2000000 in
theorem linsert_any (h : RdL o w A lb pb rate N ix S L C all wz) (ar : Arr N s ix L C all) (hc : Wd.Cons N s ix) (hcov : Wd.Cov S N rate) (hN : N ≤ 110) (hr1 : 1 ≤ rate) (hr2 : rate ≤ 64) (at_ b : Nat) (ha : at_ ≤ N) (hb : b < 256) :
    Calls Tryz.prog 41 #[.pointer (some ⟨lb, 0, none⟩), .int .i64 at_, .int .u8 b] wz fun e w' => e = .returned (.int .i64 0) ∧ ∃ ix' S' L' C', Arr (N + 1) (Wd.sIn s at_ (b + 1)) ix' L' C' (all + 1) ∧ Wd.Cons (N + 1) (Wd.sIn s at_ (b + 1)) ix' ∧ Wd.Cov S' (N + 1) rate ∧ RdL o w A lb pb rate (N + 1) ix' S' L' C' (all + 1) w' := by
  have hlen := ar.len
  have hkN := ar.rows.lt at_ ha
  have hal := ar.al
  have hcl := fun i => ar.c_lt (show N < 900 by omega) i
  have hll := ar.l_lt _ hkN
  have hrowN := Wd.rowIn_le N s ix (b + 1) (ix at_)
  have arI := ar.ins hc at_ (b + 1) ha (by omega) (by omega)
  have hnew := ar.new_row at_ (b + 1) ha
  have hfst := Wd.in_fst (b := b + 1) (k := ix at_) ar.rows hc ha
  have l1 : (L.eraseIdx (ix at_)).length = N := by rw [List.length_eraseIdx_of_lt (by omega)]; omega
  have l2 : ((L.eraseIdx (ix at_)).insertIdx (ix at_) (b + 1)).length = N + 1 := by rw [List.length_insertIdx_of_le_length (by omega)]; omega
  have reo : ∀ a : Int, (∀ e, at_ = e + 1 → a = (Wd.inr (ix e) (Wd.rowIn N s ix (b + 1) (ix at_)) : Nat)) → Reord (N + 1) (Wd.sIn s at_ (b + 1)) (Wd.ixIn ix at_ (Wd.rowIn N s ix (b + 1) (ix at_))) at_ (Wd.rowIn N s ix (b + 1) (ix at_)) a := by
    intro a he
    refine ⟨hfst, ?_⟩
    rcases Nat.eq_zero_or_pos at_ with h0 | h0
    · exact .inl ⟨h0, Wd.in_but ar.rows hc ha (Nat.le_refl _) (by unfold Wd.nx; rw [if_pos rfl, h0])⟩
    · obtain ⟨e, rfl⟩ : ∃ e, at_ = e + 1 := ⟨at_ - 1, by omega⟩
      refine .inr ⟨e, rfl, by omega, (Wd.ixIn_at _ _ _).symm, ?_, Wd.in_but ar.rows hc ha (by omega) (nx_lt (by omega))⟩
      rw [he e rfl]
      unfold Wd.ixIn
      rw [if_pos (by omega)]
  have LLn := Lib.hid (llen_any h hlen (by omega))
  have LAS := Lib.hid (lasks_any h at_ N ha)
  have SO := Lib.hid (fun wy => sof_any b hb wy)
  have LRW := Lib.hid (fun wy (hy : RdL o w A lb pb rate N ix S L C all wy) => lrow_any (wz := wy) hy ar hc (by omega) at_ ha)
  have LG := Lib.hid (fun wy (hy : RdL o w A lb pb rate N ix S L C all wy) => lget_w (wz := wy) hy (ix at_) (by omega))
  have LA := Lib.hid (fun wy (hy : RdL o w A lb pb rate N ix S L C all wy) (h0 : 0 < at_) => lahead_any (wz := wy) hy at_ (ix at_) h0 (by omega) (by omega) hcl)
  have LC := Lib.hid (fun wy (hy : RdL o w A lb pb rate N ix S L C all wy) => lchange_w (wz := wy) hy (ix at_) (b + 1) (by omega) (by omega) (by omega))
  have LT := Lib.hid (fun wy (hy : RdL o w A lb pb rate N ix S ((L.eraseIdx (ix at_)).insertIdx (ix at_) (b + 1)) C all wy) => hnew ▸ lto_any (wz := wy) hy (ix at_) (by omega) (by omega) hcl)
  have LP := Lib.hid (fun wy (hy : RdL o w A lb pb rate N ix S ((L.eraseIdx (ix at_)).insertIdx (ix at_) (b + 1)) C all wy) => lput_w (wz := wy) hy (Wd.rowIn N s ix (b + 1) (ix at_)) (L.getD (ix at_) 0) (by omega) (by omega) hll)
  have LCN := Lib.hid (fun L' wy (hy : RdL o w A lb pb rate N ix S L' C all wy) => lcount_w (wz := wy) hy (b + 1) (by omega) (hcl _) (by omega))
  have LRI := Lib.hid (fun L' C' wy (hy : RdL o w A lb pb rate N ix S L' C' (all + 1) wy) => lrowin_w (wz := wy) hy ar.rows (by omega) (Wd.rowIn N s ix (b + 1) (ix at_)) at_ hrowN ha)
  have LR := Lib.hid (fun wy hy a hre => lreorder_any (o := o) (w := w) (A := A) (lb := lb) (pb := pb) (rate := rate) (S := Wd.inS S at_) (wz := wy) hy arI (by omega) at_ (Wd.rowIn N s ix (b + 1) (ix at_)) a (by omega) hre)
  have LF := Lib.hid (fun wy ix' L' (hy : RdL o w A lb pb rate (N + 1) ix' (Wd.inS S at_) L' (fun i => if i = b + 1 then C (b + 1) + 1 else C i) (all + 1) wy) ar' hc' => lfill_any (s := Wd.sIn s at_ (b + 1)) (wz := wy) hy ar' hc' (by omega) hr1 hr2 at_ (by omega) (Wd.in_edited hcov hr1 ha))
  have hah : ∀ e, at_ = e + 1 → backN L C (ix at_) = ix e := by
    intro e he
    have := ar.back_cons hc e (by omega)
    rw [nx_lt (by omega)] at this
    rw [he]
    exact this
  have RE := Lib.hid reo
  have HAH := Lib.hid hah
  have HIX := Lib.hid (fun e (he : e ≤ N) => ar.rows.lt e he)
  clear h ar hc hcov arI hnew hfst reo hah hcl hll
  go_enter Tryz.func41, Tryz.ntmps41
  go_wp2_with (go_at_call 15; refine LLn.out.mono ?_; rintro e w' ⟨rfl, rfl⟩)
  refine LAS.out.mono ?_
  rintro e w1 ⟨rfl, r1⟩
  have R1 := Lib.hid (LRW.out w1 r1)
  clear r1
  go_wp2_with (go_at_call 88; refine (SO.out _).mono ?_; rintro e w' ⟨rfl, rfl⟩)
  refine R1.out.mono ?_
  rintro e w2 ⟨rfl, r2⟩
  have d0 := r2.c0
  have k0 := r2.k0
  have G2 := Lib.hid (LG.out w2 r2)
  clear r2 R1
  generalize hrow : Wd.rowIn N s ix (b + 1) (ix at_) = row at *
  generalize hold : L.getD (ix at_) 0 = old at *
  generalize hL1 : (L.eraseIdx (ix at_)).insertIdx (ix at_) (b + 1) = L1 at *
  clear hL1 hold hrow
  generalize hk : ix at_ = k at *
  have HK := Lib.hid hk
  clear hk l1 l2 LRW LAS LLn
  go_wp2_with fail
  refine G2.out.mono ?_
  rintro e w3 ⟨rfl, r3⟩
  have AH : Calls Tryz.prog 78 #[.pointer (some ⟨lb, 0, none⟩), .int .i64 at_, .int .i64 k] w3 fun e w' => ∃ ah : Int, e = .returned (.int .i64 ah) ∧ RdL o w A lb pb rate N ix S L C all w' ∧
      ∀ wy, Calls Tryz.prog 92 #[.int .i64 ah, .int .i64 row] wy fun e w' => (∃ a : Int, e = .returned (.int .i64 a) ∧ Reord (N + 1) (Wd.sIn s at_ (b + 1)) (Wd.ixIn ix at_ row) at_ row a) ∧ wy = w' := by
    rcases Nat.eq_zero_or_pos at_ with h0 | h0
    · have h1 := lahead_zero (lb := lb) (wz := w3) k
      rw [show (0 : Int) = (at_ : Int) by omega] at h1
      refine h1.mono ?_
      rintro e w' ⟨rfl, rfl⟩
      refine ⟨-1, rfl, r3, fun wy => (lin_none row wy).mono ?_⟩
      rintro e w' ⟨rfl, rfl⟩
      exact ⟨⟨-1, rfl, RE.out _ (fun e he => by omega)⟩, rfl⟩
    · obtain ⟨e, he⟩ : ∃ e, at_ = e + 1 := ⟨at_ - 1, by omega⟩
      have hb1 := HAH.out e he
      have hb2 := HIX.out e (by omega)
      refine (LA.out w3 r3 h0).mono ?_
      rintro e' w' ⟨rfl, r⟩
      refine ⟨_, rfl, r, fun wy => ?_⟩
      rw [hb1]
      refine (lin_any (ix e) row (by omega) wy).mono ?_
      rintro e' w' ⟨rfl, rfl⟩
      exact ⟨⟨_, rfl, RE.out _ (fun e2 he2 => by
        obtain rfl : e2 = e := by omega
        rfl)⟩, rfl⟩
  have AHH := Lib.hid AH
  clear AH r3 G2 k0 d0 RE HAH HIX LA
  go_wp2_with fail
  refine AHH.out.mono ?_
  rintro e w4 ⟨ah, rfl, r4, hin⟩
  have IN := Lib.hid hin
  have d0 := r4.c0
  have C4 := Lib.hid (LC.out w4 r4)
  clear r4 hin AHH LG
  go_wp2_with fail
  refine C4.out.mono ?_
  rintro e w5 ⟨rfl, r5⟩
  have T5 := Lib.hid (LT.out w5 r5)
  clear r5 C4 d0 LC
  go_wp2_with fail
  refine T5.out.mono ?_
  rintro e w6 ⟨rfl, r6⟩
  have d0 := r6.c0
  have P6 := Lib.hid (LP.out w6 r6)
  clear r6 T5 LT
  go_wp2_with fail
  refine P6.out.mono ?_
  rintro e w7 ⟨rfl, r7⟩
  have d0 := r7.c0
  have P7 := Lib.hid (LCN.out _ w7 r7)
  clear r7 P6 LP
  go_wp2_with fail
  refine P7.out.mono ?_
  rintro e w8 ⟨rfl, r8⟩
  have d1 := r8.c1
  have P8 := Lib.hid (LRI.out _ _ w8 r8)
  clear r8 P7 LCN d0
  go_wp2_with fail
  refine P8.out.mono ?_
  rintro e w9 ⟨rfl, d9, c9⟩
  have P9 := Lib.hid c9
  clear c9 P8 LRI d1
  go_wp2_with fail
  refine P9.out.mono ?_
  rintro e w10 ⟨rfl, r10⟩
  have R10 := Lib.hid r10
  clear r10 P9 d9
  go_wp2_with fail
  refine (IN.out _).mono ?_
  rintro e w' ⟨⟨a, rfl, hre⟩, rfl⟩
  have P10 := Lib.hid (LR.out w10 R10.out a hre)
  clear hre IN LR
  go_wp2_with fail
  refine P10.out.mono ?_
  rintro e w11 ⟨rfl, ix', L', ar', hc', r11⟩
  have P11 := Lib.hid (LF.out w11 ix' L' r11 ar' hc')
  have AR := Lib.hid ar'
  have HC := Lib.hid hc'
  clear ar' hc' r11 P10 LF R10
  go_wp2_with fail
  refine P11.out.mono ?_
  rintro e w12 ⟨rfl, S', cov', r12⟩
  have R12 := Lib.hid r12
  have CV := Lib.hid cov'
  clear r12 cov' P11
  go_wp2_with fail
  go_ret
  exact ⟨rfl, ix', S', L', _, AR.out, HC.out, CV.out, R12.out⟩
end
end Go.Proofs.YtnadgcgnediakaaGreatDoor
namespace Go.Proofs.YtnadgcgnediakaaGreatDoor
open Go.ChangeShapes Go.WideShapes Go.ChangeAt Go.RowKit Go.Deep

section
variable (o : Nat → Nat) (w : World) (A : At) (lb pb rate N : Nat) (ix : Nat → Nat) (S : Nat → Bool) (L : List Nat) (C : Nat → Nat) (all : Nat) (e : TypeId) (size : Nat)
/-- a row that grows, new since w -/
def StV (v : Value) (n : Nat) (xs : List Value) (wz : World) : Prop := ∃ o', Upd o gl w wz o' ∧ IsLive wz o' A lb pb rate N ix S L C all ∧ Owned wz o' 6 e size v n xs ∧ ∀ g, v.ownBlock = some g → w.heap.size ≤ g
/-- beside it one block more -/
def StT (v : Value) (n : Nat) (xs : List Value) (t : Nat) (x : Obj) (wz : World) : Prop := ∃ o', Upd o gl w wz o' ∧ IsLive wz o' A lb pb rate N ix S L C all ∧ Owned wz o' 6 e size v n xs ∧ (∀ g, v.ownBlock = some g → w.heap.size ≤ g) ∧ wz.heap[t]? = some x ∧ o' t = 6
end
section
variable {o : Nat → Nat} {w wz : World} {A : At} {lb pb rate N : Nat} {ix : Nat → Nat} {S : Nat → Bool} {L : List Nat} {C : Nat → Nat} {all : Nat} {e : TypeId} {size : Nat} {v : Value} {n t : Nat} {xs : List Value} {x : Obj}
theorem StV.start (h : RdL o w A lb pb rate N ix S L C all wz) (e : TypeId) (size : Nat) : StV o w A lb pb rate N ix S L C all e size (.slice none 0 0) 0 [] wz := by
  obtain ⟨o', u, k⟩ := h
  exact ⟨o', u, k, ⟨World.ownsRow_nil _ _ _ _, by simp [Value.ownBlock]⟩, by simp [Value.ownBlock]⟩
theorem StV.rd (h : StV o w A lb pb rate N ix S L C all e size v n xs wz) : RdL o w A lb pb rate N ix S L C all wz := by
  obtain ⟨o', u, k, _⟩ := h
  exact ⟨o', u, k⟩
theorem StT.val (h : StT o w A lb pb rate N ix S L C all e size v n xs t x wz) : StV o w A lb pb rate N ix S L C all e size v n xs wz := by
  obtain ⟨o', u, k, r, g, _⟩ := h
  exact ⟨o', u, k, r, g⟩
theorem StT.tmp (h : StT o w A lb pb rate N ix S L C all e size v n xs t x wz) : wz.heap[t]? = some x := by
  obtain ⟨o', u, k, r, g, q, _⟩ := h
  exact q
theorem StV.row (h : StV o w A lb pb rate N ix S L C all e size v n xs wz) : wz.ownsRow 0 e size v n xs := by
  obtain ⟨o', u, k, r, _⟩ := h
  exact r.1
theorem StV.base (h : StV o w A lb pb rate N ix S L C all e size v n xs wz) : ∀ g, v.ownBlock = some g → w.heap.size ≤ g := by
  obtain ⟨o', u, k, r, q⟩ := h
  exact q
theorem StV.drew (h : StV o w A lb pb rate N ix S L C all e size v n xs wz) : StV o w A lb pb rate N ix S L C all e size v n xs wz.drew := by
  obtain ⟨o', u, k, r, q⟩ := h
  have uu : Upd o' (fun _ => False) wz wz.drew o' := (Upd.refl _ _ _).drew
  exact ⟨o', u.drew, k.keep uu k.n5 (by simp), r.keep uu (by simp), q⟩
theorem StV.alloc (h : StV o w A lb pb rate N ix S L C all e size v n xs wz) (x : Obj) : StT o w A lb pb rate N ix S L C all e size v n xs wz.heap.size x (wz.alloc x) := by
  obtain ⟨o', u, k, r, q⟩ := h
  have uu : Upd o' (fun _ => False) wz (wz.alloc x) (ext o' wz.heap.size 6) := (Upd.start o' _ wz 6).alloc x
  exact ⟨_, u.trans uu (fun _ h => h.elim), k.keep uu (ext_no5 k.n5 _ (by omega)) (by simp), r.keep uu (by simp), q, heap_alloc_new wz x, ext_new (Nat.le_refl _)⟩
/-- a call that leaves the text as it is -/
theorem StV.call {f : FuncId} {args : Array Value} {P : Ending → Prop} (h : StV o w A lb pb rate N ix S L C all e size v n xs wz) (hk : ∀ o', IsLive wz o' A lb pb rate N ix S L C all → Calls Tryz.prog f args wz fun e w' => P e ∧ RdL o' wz A lb pb rate N ix S L C all w') :
    Calls Tryz.prog f args wz fun e' w' => P e' ∧ StV o w A lb pb rate N ix S L C all e size v n xs w' := by
  obtain ⟨o', u, k, r, q⟩ := h
  refine (hk o' k).mono ?_
  rintro e' w' ⟨hp, o2, u2, k2⟩
  exact ⟨hp, o2, u.trans u2 (fun _ h => h), k2, r.keep u2 (by unfold gl; omega), q⟩
theorem StT.call {f : FuncId} {args : Array Value} {P : Ending → Prop} (h : StT o w A lb pb rate N ix S L C all e size v n xs t x wz) (hk : ∀ o', IsLive wz o' A lb pb rate N ix S L C all → Calls Tryz.prog f args wz fun e w' => P e ∧ RdL o' wz A lb pb rate N ix S L C all w') :
    Calls Tryz.prog f args wz fun e' w' => P e' ∧ StT o w A lb pb rate N ix S L C all e size v n xs t x w' := by
  obtain ⟨o', u, k, r, q, ht, ot⟩ := h
  refine (hk o' k).mono ?_
  rintro e' w' ⟨hp, o2, u2, k2⟩
  have h2 := u2.heap ht (by rw [ot]; unfold gl; omega)
  exact ⟨hp, o2, u.trans u2 (fun _ h => h), k2, r.keep u2 (by unfold gl; omega), q, h2.1, h2.2.trans ot⟩
/-- it has grown -/
theorem StV.grow (h : StV o w A lb pb rate N ix S L C all e size v n xs wz) {g cap m : Nat} {news : List Value} {w3 : World} (hown : w3.ownsRow 0 e size (.slice (some ⟨g, 0, none⟩) m cap) m news) (hg : wz.grownBy w3 v.ownBlock) (hat : v.ownBlock = some g ∨ g = wz.heap.size) :
    StV o w A lb pb rate N ix S L C all e size (.slice (some ⟨g, 0, none⟩) m cap) m news w3 := by
  obtain ⟨o', u, k, r, q⟩ := h
  have uu : Upd o' (fun x => x = 6) wz w3 (ext o' wz.heap.size 6) := (Upd.start o' _ wz 6).grown hg (fun b hb => .inr (r.2 b hb))
  have hb : w.heap.size ≤ g := by
    rcases hat with h1 | h1
    · exact q g h1
    · rw [h1]; exact u.size
  refine ⟨_, ?_, k.keep uu (ext_no5 k.n5 _ (by omega)) (by omega), ⟨hown, fun b hb' => ?_⟩, fun b hb' => ?_⟩
  · have u2 := u.ext 6
    exact u2.grown hg (fun b hb => .inl (q b hb))
  · cases hb'
    rcases hat with h1 | h1
    · rw [ext_old (ownBlock_lt r.1 h1)]
      exact r.2 g h1
    · exact ext_new (Nat.le_of_eq h1.symm)
  · cases hb'
    exact hb
end
end Go.Proofs.YtnadgcgnediakaaGreatDoor
namespace Go.Proofs.YtnadgcgnediakaaGreatDoor
open Go.ChangeShapes Go.WideShapes Go.ChangeAt Go.RowKit Go.Deep

theorem sbyte_any (b : Nat) (hb : b < 256) (w : World) : Calls Tryz.prog 44 #[.int .i64 (b + 1 : Nat)] w fun e w' => e = .returned (.tuple #[.int .u8 b, .bool true]) ∧ w = w' := by
  have SI := Lib.hid (fun wx => sis_sym (b + 1) (by omega) wx)
  have e0 : (((b + 1 : Nat) : Int) == 0) = false := by simp; omega
  have e1 : ((b + 1 : Nat) : Int) - 1 = b := by omega
  have e2 : IntKind.u8.wrap (b : Int) = b := by
    rw [IntKind.wrap_u8]
    omega
  have E := Lib.hid (And.intro e1 e2)
  obtain ⟨c, hc⟩ : ∃ c, b + 1 = c := ⟨_, rfl⟩
  rw [hc] at SI e0 E ⊢
  have hc2 : c ≤ 256 := by omega
  have hc3 : 0 < c := by omega
  clear e1 e2 hc
  go_enter Tryz.func44, Tryz.ntmps44
  go_wp2_with (go_at_call 99; refine (SI.out _).mono ?_; rintro e w' ⟨rfl, rfl⟩)
  go_ret2
  obtain ⟨e1, e2⟩ := E.out
  refine ⟨?_, rfl⟩
  show Ending.returned (.tuple #[.int .u8 (((c : Nat) : Int) - 1), .bool true]) = _
  rw [e1]
section
variable {o : Nat → Nat} {w wz : World} {A : At} {lb pb rate N : Nat} {s ix : Nat → Nat} {S : Nat → Bool} {L : List Nat} {C : Nat → Nat} {all : Nat}
theorem Arr.cnt_all (h : Arr N s ix L C all) (b : Nat) : Wd.cnt (fun r => decide (L.getD r 0 = b)) (N + 1) = C b := by
  have h1 := Wd.counts h.rows h.isL b (N + 1) (Nat.le_refl _)
  rw [h.cC b]
  have h2 : Wd.rowIn N s ix b (N + 1) = Wd.cnt (fun q => decide (s q < b)) (N + 1) + Wd.cnt (fun q => decide (s q = b)) (N + 1) := by
    unfold Wd.rowIn
    rw [← Wd.cnt_or]
    · apply Wd.cnt_congr
      intro i hi
      have := h.rows.lt _ (Wd.nx_le (n := N) (p := i) (by omega))
      rw [Bool.eq_iff_iff]
      simp only [Bool.or_eq_true, decide_eq_true_eq]
      omega
    · intro i _ hi
      simp only [decide_eq_true_eq] at hi
      simp only [decide_eq_false_iff_not]
      omega
  omega
theorem Arr.pos_lt (h : Arr N s ix L C all) (k b : Nat) (hk : k ≤ N) (hb : L.getD k 0 = b) : posN L k b 9 < C b := by
  rw [posN_cnt L b k (by rw [h.len]; omega), ← h.cnt_all b]
  have h1 := cnt_mono (fun r => decide (L.getD r 0 = b)) (show k + 1 ≤ N + 1 by omega)
  rw [Wd.cnt, hb, decide_eq_true rfl, Bool.toNat_true] at h1
  omega
theorem lfirst_w (h : RdL o w A lb pb rate N ix S L C all wz) (ar : Arr N s ix L C all) (hc : Wd.Cons N s ix) (hN : N ≤ 128) (p : Nat) (hp : p < N) : Calls Tryz.prog 45 #[.pointer (some ⟨A.wk, 0, none⟩), .int .i64 (ix p)] wz fun e w' => e = .returned (.int .i64 (s p)) ∧ wz = w' := by
  obtain ⟨o', u, k⟩ := h
  have h1 := ar.back_cons hc p (by omega)
  have h2 := ar.isL p (by omega)
  simp only at h2
  have h3 := ar.rows.lt p (by omega)
  have h4 := ar.rows.lt _ (Wd.nx_le (n := N) (p := p) (by omega))
  have h5 := ar.pos_lt _ _ h4 h2
  unfold backN at h1
  rw [h2] at h1
  have := ar.sb p (by omega)
  have hlen := ar.len
  exact kfirst_any o' A L C all (ix p) (s p) wz k.wk (by omega) (by omega) (by omega) (by omega) (by omega)
theorem lon_w (h : RdL o w A lb pb rate N ix S L C all wz) (ar : Arr N s ix L C all) (hc : Wd.Cons N s ix) (hN : N ≤ 128) (p : Nat) (hp : p < N) : Calls Tryz.prog 46 #[.pointer (some ⟨A.wk, 0, none⟩), .int .i64 (ix p)] wz fun e w' => e = .returned (.int .i64 (ix (p + 1))) ∧ RdL o w A lb pb rate N ix S L C all w' := by
  obtain ⟨o', u, k⟩ := h
  have h1 := ar.back_cons hc p (by omega)
  have h2 := ar.isL p (by omega)
  simp only at h2
  have h3 := ar.rows.lt p (by omega)
  have h4 := ar.rows.lt _ (Wd.nx_le (n := N) (p := p) (by omega))
  have h5 := ar.pos_lt _ _ h4 h2
  unfold backN at h1
  rw [h2] at h1
  rw [nx_lt hp] at h1 h2 h4 h5
  have := ar.sb p (by omega)
  have hlen := ar.len
  refine (kon_any o' A L C all (ix p) (s p) (ix (p + 1)) wz k.wk k.tab k.o0 (by omega) (by omega) (ar.c_lt (by omega)) (by omega) (by omega) h2 h1.symm h5).mono ?_
  rintro e w' ⟨rfl, o2, u2, k2⟩
  exact ⟨rfl, o2, u.trans u2 (fun _ h => gv_gl h), k.walked u2 (fun x hx => by unfold gv; omega) k2⟩
theorem one_at {w : World} {t : Nat} {c : Value} {ty : TypeId} (h : w.heap[t]? = some (.cells #[c] ty (0, 0))) : ∀ (j : Nat) (u : Value), [c][j]? = some u → w.cell? ((⟨t, 0, none⟩ : Addr).add j) = some u := by
  intro j u hu
  match j, hu with
  | 0, hu =>
    simp only [List.getElem?_cons_zero, Option.some.injEq] at hu
    subst hu
    rw [show (⟨t, 0, none⟩ : Addr).add 0 = ⟨t, 0, none⟩ from by simp [Addr.add], Joins.cell_of_block h]
    rfl
  | j + 1, hu => simp at hu
theorem info5 : (Tryz.prog.info? 5).map (fun i => (i.zero, i.size, i.bytes)) = some (some (.int .u8 0), 1, 1) := by kernel_rfl
/-- the letters of a piece -/
def pieceV (s : Nat → Nat) (at_ k : Nat) : List Value := (List.range k).map fun i => .int .u8 (s (at_ + i) - 1 : Nat)
theorem pieceV_snoc (s : Nat → Nat) (at_ k : Nat) : pieceV s at_ (k + 1) = pieceV s at_ k ++ [.int .u8 (s (at_ + k) - 1 : Nat)] := by
  unfold pieceV
  rw [List.range_succ, List.map_append]
  rfl
theorem ltake_bad (h : RdL o w A lb pb rate N ix S L C all wz) (ar : Arr N s ix L C all) (hN : N ≤ 128) (at_ n : Int) (hb : ¬ (0 ≤ at_ ∧ 0 ≤ n ∧ at_ ≤ N ∧ n ≤ N - at_)) :
    Calls Tryz.prog 16 #[.pointer (some ⟨lb, 0, none⟩), .int .i64 at_, .int .i64 n] wz fun e w' => e = .returned (.tuple #[.slice none 0 0, .int .i64 2]) ∧ wz = w' := by
  have LL := Lib.hid (llen_any h ar.len (by omega))
  clear h ar
  by_cases h1 : at_ < 0
  · go_enter Tryz.func16, Tryz.ntmps16
    go_wp2_with (go_at_call 15; refine LL.out.mono ?_; rintro e w' ⟨rfl, rfl⟩)
    go_ret2
    exact ⟨rfl, rfl⟩
  · by_cases h2 : n < 0
    · go_enter Tryz.func16, Tryz.ntmps16
      go_wp2_with (go_at_call 15; refine LL.out.mono ?_; rintro e w' ⟨rfl, rfl⟩)
      go_ret2
      exact ⟨rfl, rfl⟩
    · by_cases h3 : (N : Int) < at_
      · go_enter Tryz.func16, Tryz.ntmps16
        go_wp2_with (go_at_call 15; refine LL.out.mono ?_; rintro e w' ⟨rfl, rfl⟩)
        go_ret2
        exact ⟨rfl, rfl⟩
      · have h4 : (N : Int) - at_ < n := by omega
        go_enter Tryz.func16, Tryz.ntmps16
        go_wp2_with (go_at_call 15; refine LL.out.mono ?_; rintro e w' ⟨rfl, rfl⟩)
        go_ret2
        exact ⟨rfl, rfl⟩
set_option maxRecDepth 20000 in
set_option maxHeartbeats 2000000 in
theorem ltake_any (h : RdL o w A lb pb rate N ix S L C all wz) (ar : Arr N s ix L C all) (hc : Wd.Cons N s ix) (hN : N ≤ 128) (at_ n : Nat) (hn : at_ + n ≤ N) :
    Calls Tryz.prog 16 #[.pointer (some ⟨lb, 0, none⟩), .int .i64 at_, .int .i64 n] wz fun e w' => ∃ v, e = .returned (.tuple #[v, .int .i64 0]) ∧ StV o w A lb pb rate N ix S L C all 5 1 v n (pieceV s at_ n) w' := by
  have LL := Lib.hid (llen_any h ar.len (by omega))
  have RW := Lib.hid (lrow_any h ar hc hN at_ (by omega))
  have FI := Lib.hid (fun wy (hy : RdL o w A lb pb rate N ix S L C all wy) p hp => lfirst_w (s := s) (wz := wy) hy ar hc hN p hp)
  have ON := Lib.hid (fun p (hp : p < N) wy o' (hy : IsLive wy o' A lb pb rate N ix S L C all) => lon_w (s := s) (RdL.refl hy) ar hc hN p hp)
  have SBY := Lib.hid (fun p (hp : p < N) => And.intro (ar.sp p hp) (ar.sb p (by omega)))
  have h1 : decide ((N : Int) < at_) = false := decide_eq_false (by omega)
  have h1' : decide (N < at_) = false := decide_eq_false (by omega)
  have h2 : decide ((N : Int) - at_ < n) = false := decide_eq_false (by omega)
  clear h ar hc
  obtain ⟨i0, hi, hz0, hz1, hz2⟩ := info_parts info5
  have HI := Lib.hid (And.intro hi (And.intro hz0 (And.intro hz1 hz2)))
  clear hi hz0 hz1 hz2
  go_enter Tryz.func16, Tryz.ntmps16
  go_wp2_with (go_at_call 15; refine LL.out.mono ?_; rintro e w' ⟨rfl, rfl⟩)
  refine RW.out.mono ?_
  rintro e w1 ⟨rfl, r1⟩
  have V1 := Lib.hid (StV.start r1 5 1)
  clear r1 h1 h1' h2 LL RW
  go_wp2_with fail
  go_loopg [8, 9, 40] n (fun gg s8 s9 s40 wr => ∃ (j : Nat), j ≤ n ∧ n - j ≤ gg ∧ s40 = .int .i64 j ∧ s9 = .int .i64 (ix (at_ + j) : Nat) ∧ Aside (StV o w A lb pb rate N ix S L C all 5 1 s8 j (pieceV s at_ j) wr))
  case atStart => exact ⟨0, Nat.zero_le _, by omega, rfl, rfl, (V1.out : StV o w A lb pb rate N ix S L C all 5 1 _ 0 [] _)⟩
  case round =>
    obtain ⟨j, hj, hg, rfl, rfl, vv⟩ := hrel
    obtain ⟨va, vc, rfl⟩ := own_shape vv.out.row
    by_cases hlt : j < n
    · have hjz : decide ((j : Int) < (n : Nat)) = true := decide_eq_true (by omega)
      have F1 := Lib.hid (FI.out wr vv.out.rd (at_ + j) (by omega))
      have ON1 := Lib.hid (ON.out (at_ + j) (by omega))
      have hsp := SBY.out (at_ + j) (by omega)
      obtain ⟨c, hcs⟩ : ∃ c, s (at_ + j) = c + 1 := ⟨s (at_ + j) - 1, by omega⟩
      rw [hcs] at F1
      have SB := Lib.hid (fun wy => sbyte_any c (by omega) wy)
      have PV := Lib.hid (pieceV_snoc s at_ j)
      rw [hcs, Nat.add_sub_cancel] at PV
      have E1 := Lib.hid (show at_ + j + 1 = at_ + (j + 1) by omega)
      rw [E1.out] at ON1
      obtain ⟨u, hu⟩ : ∃ u, ix (at_ + j) = u := ⟨_, rfl⟩
      rw [hu] at F1 ON1 ⊢
      have d0 := vv.out.rd.c0
      clear hsp hcs hu
      go_wp2_with fail
      refine F1.out.mono ?_
      rintro e w' ⟨rfl, rfl⟩
      go_wp2_with (go_at_call 44; refine (SB.out _).mono ?_; rintro e w' ⟨rfl, rfl⟩)
      have V0 := Lib.hid vv.out.drew
      have CALL0 := Lib.hid (V0.out.call (ON1.out _))
      have CALLT := Lib.hid ((V0.out.alloc (.cells #[.int .u8 (c : Nat)] 5)).call (ON1.out _))
      have AP := Lib.hid (fun (wy : World) (vy : StV o w A lb pb rate N ix S L C all 5 1 (.slice va j vc) j (pieceV s at_ j) wy) g cap (w3 : World) hown hg hat => (PV.out ▸ vy.grow (w3 := w3) (g := g) (m := j + 1) (cap := cap) (news := pieceV s at_ j ++ [.int .u8 (c : Nat)]) hown hg hat : StV o w A lb pb rate N ix S L C all 5 1 (.slice (some ⟨g, 0, none⟩) (j + 1) cap) (j + 1) (pieceV s at_ (j + 1)) w3))
      have dA : (wr.alloc (.cells #[.int .u8 (c : Nat)] 5)).cell? ⟨lb, 0, none⟩ = some (.pointer (some ⟨A.wk, 0, none⟩)) := (V0.out.alloc (.cells #[.int .u8 (c : Nat)] 5)).val.rd.c0
      go_region_law (first | (refine step_append_lies _ rfl (.tmp 52) (.tmp 54) 22 rfl 0 5 i0 _ 1 1 Tryz.underlying22 HI.out.1 HI.out.2.1 HI.out.2.2.1 HI.out.2.2.2 rfl (by decide) (.slice va j vc) j (pieceV s at_ j) (by simp [Act.eval]) ((V0.out.alloc _).val).row ⟨wr.heap.size, 0, none⟩ 1 1 [.int .u8 (c : Nat)] (by simp [Act.eval]) rfl (new_one wr.drew (.int .u8 (c : Nat)) 5) (one_int _ _) (by decide) (by unfold maxLen; omega) (by omega) (Nat.zero_le _) _ rfl ?_; intro g cap w3 hown hgrow hat _; have V3 := Lib.hid (AP.out _ ((V0.out.alloc _).val) g cap w3 hown hgrow hat); have d3 := V3.out.rd.c0; clear hown hgrow hat) | (refine step_append_lies _ rfl (.tmp 52) (.tmp 54) 22 rfl 0 5 i0 _ 1 1 Tryz.underlying22 HI.out.1 HI.out.2.1 HI.out.2.2.1 HI.out.2.2.2 rfl (by decide) (.slice va j vc) j (pieceV s at_ j) (by simp [Act.eval, Act.put]) ((V2.out.alloc _).val).row ⟨w2.heap.size, 0, none⟩ 1 1 [.int .u8 (c : Nat)] (by simp [Act.eval, Act.put]) rfl (new_one w2 (.int .u8 (c : Nat)) 5) (one_int _ _) (by decide) (by unfold maxLen; omega) (by omega) (Nat.zero_le _) _ rfl ?_; intro g cap w3 hown hgrow hat _; have VF := Lib.hid (AP.out _ ((V2.out.alloc _).val) g cap w3 hown hgrow hat); clear hown hgrow hat) | (refine step_append_lies _ rfl (.tmp 52) (.tmp 54) 22 rfl 0 5 i0 _ 1 1 Tryz.underlying22 HI.out.1 HI.out.2.1 HI.out.2.2.1 HI.out.2.2.2 rfl (by decide) (.slice va j vc) j (pieceV s at_ j) (by simp [Act.eval, Act.put]) (VT2.out.val).row ⟨wr.heap.size, 0, none⟩ 1 1 [.int .u8 (c : Nat)] (by simp [Act.eval, Act.put]) rfl (one_at VT2.out.tmp) (one_int _ _) (by decide) (by unfold maxLen; omega) (by omega) (Nat.zero_le _) _ rfl ?_; intro g cap w3 hown hgrow hat _; have VF := Lib.hid (AP.out _ (VT2.out.val) g cap w3 hown hgrow hat); clear hown hgrow hat) | (go_simp; go_at_call 46; refine ((V3.out).call (ON1.out _)).mono ?_; rintro e w4 ⟨rfl, v4⟩; have VF := Lib.hid v4; clear v4) | (go_simp; go_at_call 46; refine CALLT.out.mono ?_; rintro e w2 ⟨rfl, v2⟩; have VT2 := Lib.hid v2; clear v2) | (go_simp; go_at_call 46; refine CALL0.out.mono ?_; rintro e w2 ⟨rfl, v2⟩; have V2 := Lib.hid v2; clear v2))
      all_goals go_wp2_with fail
      all_goals go_roundg (n - (j + 1))
      all_goals first
        | omega
        | exact ⟨j + 1, by omega, Nat.le_refl _, by go_num, rfl, VF.out⟩
    · have : j = n := by omega
      subst this
      go_wp2_with fail
      go_ret2
      exact ⟨_, rfl, vv.out⟩
end
end Go.Proofs.YtnadgcgnediakaaGreatDoor
