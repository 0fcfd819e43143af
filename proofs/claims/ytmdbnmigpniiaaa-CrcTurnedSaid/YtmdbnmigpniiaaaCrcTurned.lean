/- CrcTurned returns true for every two texts, place and turn, and writes nothing that was there; no conditions. -/
import Derived.Test.YtmdbnmigpniiaaaRows
import Derived.Test.YtmdbnmigpniiaaaDrawn
import Derived.WalkKit
import Derived.ProofKit
import Derived.OpenShut
import Derived.ShutString
import Derived.ChangeOld
import Derived.Below
namespace Go.Proofs.Ytmdbnmigpniiaaa.crcTurned
open Go.ChangeShapes Go.WideShapes Go.ChangeAt Go.RowKit
open Go.ChangeMaps (open_string shut_string)
set_option linter.unusedVariables false

theorem own : ownKnob Try.prog.godebug = none := by kernel_rfl
theorem laidOut : laidOutB Try.prog = true := by kernel_rfl

/-! ### the walk -/
/-- the claims on the slots of a statement that draws its order -/
def Claim5 (B0 : Nat) (a0 a1 b0 b1 : Option Addr) (n len0 cap0 len1 cap1 : Nat) (x y : List (BitVec 8)) (s : Nat) (v : Value) (w : World) : Prop :=
  match s with
  | 33 => Emp v
  | 38 => Emp v
  | 34 => v = .slice a0 len0 cap0
  | 39 => v = .slice a1 len1 cap1
  | 35 => v = .int .i64 n
  | 40 => v = .int .i64 n
  | 36 => v = .slice b0 n cap0
  | 41 => v = .slice b1 n cap1
  | 37 => OwnB B0 x n v w
  | 11 => OwnB B0 x n v w
  | 42 => OwnB B0 y n v w
  | 12 => OwnB B0 y n v w
  | _ => v = .bool true
theorem Claim5.grew {B0 : Nat} {a0 a1 b0 b1 : Option Addr} {n len0 cap0 len1 cap1 : Nat} {x y : List (BitVec 8)} (j : Nat) (v : Value) (p q : World) (g : Grew p q) (h : Claim5 B0 a0 a1 b0 b1 n len0 cap0 len1 cap1 x y j v p) : Claim5 B0 a0 a1 b0 b1 n len0 cap0 len1 cap1 x y j v q := by
  revert h
  unfold Claim5
  split <;> intro h <;> first | exact h | exact OwnB.grew h g

/-- the claims on the slots of a statement that draws its order -/
def Claim7 (g1 g2 n c1 c2 : Nat) (a0 a1 b0 b1 : Option Addr) (len0 cap0 len1 cap1 : Nat) (X A Y B : BitVec 32) (s : Nat) (v : Value) (w : World) : Prop :=
  match s with
  | 61 => v = .slice (some ⟨g1, 0, none⟩) n c1
  | 70 => v = .slice (some ⟨g2, 0, none⟩) n c2
  | 64 => v = .slice a0 len0 cap0
  | 73 => v = .slice a1 len1 cap1
  | 65 => v = .int .i64 n
  | 74 => v = .int .i64 n
  | 66 => v = .slice b0 n cap0
  | 75 => v = .slice b1 n cap1
  | 62 => Row1 (.slice (some ⟨g1, 0, none⟩) n c1) v w
  | 71 => Row1 (.slice (some ⟨g2, 0, none⟩) n c2) v w
  | 67 => Row1 (.slice b0 n cap0) v w
  | 76 => Row1 (.slice b1 n cap1) v w
  | 63 => v = .int .u32 (V X)
  | 68 => v = .int .u32 (V A)
  | 72 => v = .int .u32 (V Y)
  | 77 => v = .int .u32 (V B)
  | 69 => v = .int .u32 (V (X ^^^ A))
  | 13 => v = .int .u32 (V (X ^^^ A))
  | 78 => v = .int .u32 (V (Y ^^^ B))
  | 14 => v = .int .u32 (V (Y ^^^ B))
  | _ => v = .bool true
theorem Claim7.grew {g1 g2 n c1 c2 : Nat} {a0 a1 b0 b1 : Option Addr} {len0 cap0 len1 cap1 : Nat} {X A Y B : BitVec 32} (j : Nat) (v : Value) (p q : World) (g : Grew p q) (h : Claim7 g1 g2 n c1 c2 a0 a1 b0 b1 len0 cap0 len1 cap1 X A Y B j v p) : Claim7 g1 g2 n c1 c2 a0 a1 b0 b1 len0 cap0 len1 cap1 X A Y B j v q := by
  revert h
  unfold Claim7
  split <;> intro h <;> first | exact h | exact Row1.grew h g | exact Row2.grew h g

theorem turned_diff (bs : List (BitVec 8)) (k : Nat) (t c : BitVec 8) (h : bs[k]? = some c) : Crc.more 0#32 (bs.set k (c ^^^ t)) ^^^ Crc.more 0#32 bs = Crc.run 0#32 ((List.replicate bs.length 0#8).set k t) := by
  obtain ⟨hk, rfl⟩ := List.getElem?_eq_some_iff.1 h
  rw [Crc.more_diff _ _ _ (by rw [List.length_set]), Crc.diff_set bs k t hk]
theorem turned_zero (n k : Nat) (t : BitVec 8) (h : k < n) : (V (Crc.run 0#32 ((List.replicate n 0#8).set k t)) == 0) = (W t == 0) := by
  rw [Crc.run_single n k t h, Bool.eq_iff_iff, beq_iff_eq, beq_iff_eq, show (0 : Int) = V 0#32 from rfl, V_inj, Crc.single_zero]
  constructor
  · rintro rfl; rfl
  · intro h
    unfold W at h
    exact BitVec.eq_of_toNat_eq (by rw [show V 0#32 = 0 from rfl] at h; simp; omega)

/-- the two copies lie apart -/
def Dz (s k : Nat) (v v' : Value) : Prop := ((s = 37 ∨ s = 11) ∧ (k = 42 ∨ k = 12)) ∨ ((s = 42 ∨ s = 12) ∧ (k = 37 ∨ k = 11)) → v.ownBlock ≠ v'.ownBlock
theorem Dz.free (s : Nat) (h1 : s ≠ 37) (h2 : s ≠ 11) (h3 : s ≠ 42) (h4 : s ≠ 12) (k : Nat) (v v' : Value) : Dz s k v v' ∧ Dz k s v' v :=
  ⟨fun h => by omega, fun h => by omega⟩
theorem Claim5.block {B0 : Nat} {a0 a1 b0 b1 : Option Addr} {n len0 cap0 len1 cap1 : Nat} {x y : List (BitVec 8)} {k : Nat} {v : Value} {w : World} (h : Claim5 B0 a0 a1 b0 b1 n len0 cap0 len1 cap1 x y k v w) (hk : k = 37 ∨ k = 11 ∨ k = 42 ∨ k = 12) :
    ∃ g, v.ownBlock = some g ∧ g < w.heap.size := by
  rcases hk with rfl | rfl | rfl | rfl <;> exact OwnB.lt h
theorem Dz.new {B0 : Nat} {a0 a1 b0 b1 : Option Addr} {n len0 cap0 len1 cap1 : Nat} {x y : List (BitVec 8)} {s k : Nat} {v v' : Value} {w w' : World} {m : Nat} {cs : List (BitVec 8)} (ho : w'.ownsRow w.heap.size 5 1 v m (u8s cs))
    (h : Claim5 B0 a0 a1 b0 b1 n len0 cap0 len1 cap1 x y k v' w) : Dz s k v v' ∧ Dz k s v' v := by
  have hh : (k = 37 ∨ k = 11 ∨ k = 42 ∨ k = 12) → v.ownBlock ≠ v'.ownBlock := by
    intro hk e
    obtain ⟨g, hg, hlt⟩ := h.block hk
    have := (ho.lt g (e.trans hg)).1
    omega
  exact ⟨fun hd => hh (by omega), fun hd => fun e => hh (by omega) e.symm⟩

set_option maxHeartbeats 4000000 in
set_option maxRecDepth 100000 in
theorem walk (a0 : Option Addr) (len0 cap0 : Nat) (z0 : List Int) (a1 : Option Addr) (len1 cap1 : Nat) (z1 : List Int) (a2 : Int) (a3 : Int) (w : World) (w0 : IsRow .u8 w a0 len0 cap0 z0) (w1 : IsRow .u8 w a1 len1 cap1 z1) (w2 : (Lit.int .i64 a2).wf = true) (w3 : (Lit.int .u8 a3).wf = true) :
    Calls Try.prog 9 #[.slice a0 len0 cap0, .slice a1 len1 cap1, .int .i64 a2, .int .u8 a3] w fun e w' => e = .returned (.bool true) ∧ Below w.heap.size w w' := by
  obtain ⟨bs0, R0, lc0, cm0⟩ := rowBytes w0
  obtain ⟨bs1, R1, lc1, cm1⟩ := rowBytes w1
  obtain ⟨t, rfl⟩ := W_ex w3
  clear w0 w1 w2 w3
  go_enter Try.func9, Try.ntmps9
  go_upto_region 1 with (fail)
  go_cut [9] from 15 to 19 (fun t wx => (∃ n : Nat, n ≤ len0 ∧ n ≤ len1 ∧ t = .int .i64 n) ∧ w = wx)
  case first =>
    by_cases h1 : len0 ≤ len1
    · go_wp2_with fail
      go_meet
      exact ⟨⟨len0, by omega, by omega, rfl⟩, rfl⟩
    · go_wp2_with fail
      go_meet
      exact ⟨⟨len1, by omega, by omega, rfl⟩, rfl⟩
  case rest =>
    obtain ⟨⟨n, hn0, hn1, rfl⟩, rfl⟩ := hcut
    by_cases hn : 1 ≤ n
    · by_cases h100 : n ≤ 100
      · obtain ⟨x, x0, x1, ex⟩ := umod_ex a2 (n : Int) (by omega) (by omega)
        obtain ⟨k, rfl⟩ := Int.eq_ofNat_of_zero_le x0
        go_wp2_with fail
        rw [ex]
        clear ex
        obtain ⟨b0, hL0, RL0⟩ : ∃ aL, (∀ w, (Instr.slice 25 (.slice a0 len0 cap0) none (some (.int .i64 n)) none).run Try.prog w = .ok (.slice aL n cap0) w) ∧ IsBytes w w.heap.size aL n (bs0.take n) :=
          ⟨_, fun W => cut_hi a0 len0 cap0 n (by omega) W, by simpa using R0.cut 0 n (by omega) (by omega) lc0⟩
        obtain ⟨b1, hL1, RL1⟩ : ∃ aL, (∀ w, (Instr.slice 25 (.slice a1 len1 cap1) none (some (.int .i64 n)) none).run Try.prog w = .ok (.slice aL n cap1) w) ∧ IsBytes w w.heap.size aL n (bs1.take n) :=
          ⟨_, fun W => cut_hi a1 len1 cap1 n (by omega) W, by simpa using R1.cut 0 n (by omega) (by omega) lc1⟩
        refine Asserted.wp_region_planned2 (T := Claim5 w.heap.size a0 a1 b0 b1 n len0 cap0 len1 cap1 (bs0.take n) (bs1.take n)) (D := Dz) (R := Grew)
          [33, 34, 35, 36, 37, 38, 39, 40, 41, 42, 11, 12]
          [⟨[], none⟩, ⟨[], none⟩, ⟨[], none⟩, ⟨[34, 35], none⟩, ⟨[33, 36], none⟩, ⟨[], none⟩, ⟨[], none⟩, ⟨[], none⟩, ⟨[39, 40], none⟩, ⟨[38, 41], none⟩, ⟨[37], none⟩, ⟨[42], none⟩]
          (by kernel_rfl) (Grew.refl _) Grew.trans (fun j v x y g h => Claim5.grew j v x y g h) (by kernel_rfl) (by kernel_rfl) (by kernel_rfl) ?_ ?_
        · refine ⟨?_, ?_, ?_, ?_, ?_, ?_, ?_, ?_, ?_, ?_, ?_, ?_, trivial⟩
          all_goals
            intro u w1 hg hd K hK0
            simp only [Asserted.DepsS, Claim5, and_true] at hd
            first
              | (have hK := fun v w' t r => hK0 v w' t (fun k v' _ _ => Dz.free _ (by decide) (by decide) (by decide) (by decide) k v v') r
                 clear hK0
                 simp only [Asserted.dslot, Claim5, Asserted.fillS, Act.put, List.setIfInBounds_toArray, List.set_cons_zero, List.set_cons_succ] at hK
                 simp only [Asserted.fillS, List.setIfInBounds_toArray, List.set_cons_zero, List.set_cons_succ]
                 try simp only [hd] at hK
                 go_simp
                 first
                   | (with_reducible exact hK _ _ rfl (Grew.refl _))
                   | (with_reducible exact hK _ _ (Emp.new _) (Grew.alloc _ _)))
              | skip
          · simp only [Asserted.fillS, List.setIfInBounds_toArray, List.set_cons_zero, List.set_cons_succ] at hK0 ⊢
            refine wp_append_copy (.tmp 33) (.tmp 36) rfl w.heap.size b0 n cap0 (bs0.take n) hd.1 hd.2 (RL0.below hg.of_drew _ (Nat.le_refl _)) hn (by omega) fun v' w' ho hgr => hK0 v' w' ?_ (fun k v' hk _ => Dz.new ho hk) hgr
            exact OwnB.of ho (hg.of_drew).size hn
          · simp only [Asserted.fillS, List.setIfInBounds_toArray, List.set_cons_zero, List.set_cons_succ] at hK0 ⊢
            refine wp_append_copy (.tmp 38) (.tmp 41) rfl w.heap.size b1 n cap1 (bs1.take n) hd.1 hd.2 (RL1.below hg.of_drew _ (Nat.le_refl _)) hn (by omega) fun v' w' ho hgr => hK0 v' w' ?_ (fun k v' hk _ => Dz.new ho hk) hgr
            exact OwnB.of ho (hg.of_drew).size hn
          · have hK := hK0 _ _ hd (fun k v' _ hp => ⟨fun h => ((hp 37 (List.mem_singleton.2 rfl)).2 (by simp only [Asserted.dslot] at h; omega)).1 (by simp only [Asserted.dslot] at h; omega), fun h => ((hp 37 (List.mem_singleton.2 rfl)).2 (by simp only [Asserted.dslot] at h; omega)).2 (by simp only [Asserted.dslot] at h; omega)⟩) (Grew.refl _)
            simp only [Asserted.fillS, Act.put, List.setIfInBounds_toArray, List.set_cons_zero, List.set_cons_succ] at hK ⊢
            clear hK0
            go_simp
            exact hK
          · have hK := hK0 _ _ hd (fun k v' _ hp => ⟨fun h => ((hp 42 (List.mem_singleton.2 rfl)).2 (by simp only [Asserted.dslot] at h; omega)).1 (by simp only [Asserted.dslot] at h; omega), fun h => ((hp 42 (List.mem_singleton.2 rfl)).2 (by simp only [Asserted.dslot] at h; omega)).2 (by simp only [Asserted.dslot] at h; omega)⟩) (Grew.refl _)
            simp only [Asserted.fillS, Act.put, List.setIfInBounds_toArray, List.set_cons_zero, List.set_cons_succ] at hK ⊢
            clear hK0
            go_simp
            exact hK
        · intro u w1 hg hd hpair
          simp only [Asserted.DepsS, Claim5, and_true] at hd
          have hneq := hpair 11 (by simp) 12 (by simp) (by decide) (.inl ⟨.inr rfl, .inr rfl⟩)
          obtain ⟨g1, c1, e1, ho1⟩ : OwnB w.heap.size (bs0.take n) n (u 11) w1 := hd.2.2.2.2.2.2.2.2.2.2.1
          obtain ⟨g2, c2, e2, ho2⟩ : OwnB w.heap.size (bs1.take n) n (u 12) w1 := hd.2.2.2.2.2.2.2.2.2.2.2
          have hgg : g1 ≠ g2 := by
            rw [e1, e2] at hneq
            exact fun e => hneq (by rw [e]; rfl)
          clear hd hpair hneq
          have hb1 := hg.of_drew
          clear hg
          simp only [Asserted.fillS, List.setIfInBounds_toArray, List.set_cons_zero, List.set_cons_succ, e1, e2]
          clear e1 e2
          obtain ⟨cx, hcx⟩ : ∃ c, (bs0.take n)[k]? = some c := ⟨_, List.getElem?_eq_getElem (by have := RL0.1; omega)⟩
          obtain ⟨cy, hcy⟩ : ∃ c, (bs1.take n)[k]? = some c := ⟨_, List.getElem?_eq_getElem (by have := RL1.1; omega)⟩
          have hx : w1.cell? ⟨g1, k, none⟩ = some (.int .u8 (W cx)) := by
            rw [ho1.cellAt k (by omega), u8s, List.getElem?_map, hcx]; rfl
          have hy : w1.cell? ⟨g2, k, none⟩ = some (.int .u8 (W cy)) := by
            rw [ho2.cellAt k (by omega), u8s, List.getElem?_map, hcy]; rfl
          have fx := ho1.frozenAt k
          have fy := ho2.frozenAt k
          have sx : ∀ v, (w1.setCell ⟨g1, k, none⟩ v).cell? ⟨g2, k, none⟩ = some (.int .u8 (W cy)) := fun v => by
            rw [World.cell?_setCell_other _ _ _ _ (by intro e; injection e with e; exact hgg e)]; exact hy
          have sy : ∀ v, (w1.setCell ⟨g2, k, none⟩ v).cell? ⟨g1, k, none⟩ = some (.int .u8 (W cx)) := fun v => by
            rw [World.cell?_setCell_other _ _ _ _ (by intro e; injection e with e; exact hgg e.symm)]; exact hx
          have ex : bits .xor .u8 (W cx) (W t) = W (cx ^^^ t) := W_xor cx t
          have ey : bits .xor .u8 (W cy) (W t) = W (cy ^^^ t) := W_xor cy t
          have HO1 := Lib.hid ho1
          have HO2 := Lib.hid ho2
          have HCX := Lib.hid hcx
          have HCY := Lib.hid hcy
          clear ho1 ho2 hcx hcy
          go_wp2_with fail
          go_region
          have hoX : ((w1.setCell ⟨g1, k, none⟩ (.int .u8 (W (cx ^^^ t)))).setCell ⟨g2, k, none⟩ (.int .u8 (W (cy ^^^ t)))).drew.ownsRow w.heap.size 5 1 (.slice (some ⟨g1, 0, none⟩) n c1) n (u8s ((bs0.take n).set k (cx ^^^ t))) := by
            rw [u8s_set]
            exact (ownsRow_setCell_other (HO1.out.stored k _).1 (a := ⟨g2, k, none⟩) (by simp [Value.ownBlock, hgg]) _).drew
          have hoY : ((w1.setCell ⟨g1, k, none⟩ (.int .u8 (W (cx ^^^ t)))).setCell ⟨g2, k, none⟩ (.int .u8 (W (cy ^^^ t)))).drew.ownsRow w.heap.size 5 1 (.slice (some ⟨g2, 0, none⟩) n c2) n (u8s ((bs1.take n).set k (cy ^^^ t))) := by
            rw [u8s_set]
            exact ((ownsRow_setCell_other HO2.out (a := ⟨g1, k, none⟩) (by simp [Value.ownBlock, hgg.symm]) _).stored k _).1.drew
          have hb3 : Below w.heap.size w ((w1.setCell ⟨g1, k, none⟩ (.int .u8 (W (cx ^^^ t)))).setCell ⟨g2, k, none⟩ (.int .u8 (W (cy ^^^ t)))).drew :=
            ((hb1.setCell (p := ⟨g1, k, none⟩) (HO1.out.lt g1 rfl).1 _).setCell (p := ⟨g2, k, none⟩) (HO2.out.lt g2 rfl).1 _).drew
          generalize ((w1.setCell ⟨g1, k, none⟩ (.int .u8 (W (cx ^^^ t)))).setCell ⟨g2, k, none⟩ (.int .u8 (W (cy ^^^ t)))).drew = w3 at hoX hoY hb3 ⊢
          have PX : Part.at w3 w3.heap.size ⟨some ⟨g1, 0, none⟩, n, c1, (bs0.take n).set k (cx ^^^ t)⟩ := ⟨own_bytes hoX, by show n ≤ _; omega⟩
          have PY : Part.at w3 w3.heap.size ⟨some ⟨g2, 0, none⟩, n, c2, (bs1.take n).set k (cy ^^^ t)⟩ := ⟨own_bytes hoY, by show n ≤ _; omega⟩
          have PA : Part.at w3 w3.heap.size ⟨b0, n, cap0, bs0.take n⟩ := Part.at.below (p := ⟨b0, n, cap0, bs0.take n⟩) ⟨RL0, by show n ≤ _; omega⟩ hb3 _ hb3.size
          have PB : Part.at w3 w3.heap.size ⟨b1, n, cap1, bs1.take n⟩ := Part.at.below (p := ⟨b1, n, cap1, bs1.take n⟩) ⟨RL1, by show n ≤ _; omega⟩ hb3 _ hb3.size
          have dX := turned_diff _ k t cx HCX.out
          have dY := turned_diff _ k t cy HCY.out
          have n0 : (bs0.take n).length = n := RL0.1
          have n1 : (bs1.take n).length = n := RL1.1
          rw [n0] at dX
          rw [n1] at dY
          obtain ⟨X, hX⟩ : ∃ X, Crc.more 0#32 ((bs0.take n).set k (cx ^^^ t)) = X := ⟨_, rfl⟩
          obtain ⟨Y, hY⟩ : ∃ Y, Crc.more 0#32 ((bs1.take n).set k (cy ^^^ t)) = Y := ⟨_, rfl⟩
          obtain ⟨A, hA⟩ : ∃ A, Crc.more 0#32 (bs0.take n) = A := ⟨_, rfl⟩
          obtain ⟨B, hB⟩ : ∃ B, Crc.more 0#32 (bs1.take n) = B := ⟨_, rfl⟩
          rw [hX, hA] at dX
          rw [hY, hB] at dY
          have eXY : Y ^^^ B = X ^^^ A := dY.trans dX.symm
          have ez : (V (X ^^^ A) == 0) = (W t == 0) := by rw [dX]; exact turned_zero n k t (by omega)
          have x1 : bits .xor .u32 (V X) (V A) = V (X ^^^ A) := V_xor X A
          have x2 : bits .xor .u32 (V Y) (V B) = V (Y ^^^ B) := V_xor Y B
          have HX := Lib.hid hX
          have HY := Lib.hid hY
          have HA := Lib.hid hA
          have HB := Lib.hid hB
          have HZ := Lib.hid ez
          have HXY := Lib.hid eXY
          clear hX hY hA hB dX dY ez eXY n0 n1 hx hy fx fy sx sy ex ey HO1 HO2 HCX HCY hb1 R0 R1 RL0 RL1 hoX hoY
          go_wp2_with fail
          refine Asserted.wp_region_planned (T := Claim7 g1 g2 n c1 c2 a0 a1 b0 b1 len0 cap0 len1 cap1 X A Y B) (R := Grew)
            [61, 62, 63, 64, 65, 66, 67, 68, 69, 70, 71, 72, 73, 74, 75, 76, 77, 78, 13, 14]
            [⟨[], none⟩, ⟨[61], none⟩, ⟨[62], none⟩, ⟨[], none⟩, ⟨[], none⟩, ⟨[64, 65], none⟩, ⟨[66], none⟩, ⟨[67], none⟩, ⟨[63, 68], none⟩, ⟨[], none⟩, ⟨[70], none⟩, ⟨[71], none⟩, ⟨[], none⟩, ⟨[], none⟩, ⟨[73, 74], none⟩, ⟨[75], none⟩, ⟨[76], none⟩, ⟨[72, 77], none⟩, ⟨[69], none⟩, ⟨[78], none⟩]
            (by kernel_rfl) (Grew.refl _) Grew.trans (fun j v x y g h => Claim7.grew j v x y g h) (by kernel_rfl) (by kernel_rfl) (by kernel_rfl) ?_ ?_
          · refine ⟨?_, ?_, ?_, ?_, ?_, ?_, ?_, ?_, ?_, ?_, ?_, ?_, ?_, ?_, ?_, ?_, ?_, ?_, ?_, ?_, trivial⟩
            all_goals
              intro u w4 hg hd K hK
              try simp only [Asserted.DepsS, Claim7, and_true] at hd
              simp only [Asserted.dslot, Claim7, Asserted.fillS, Act.put, List.setIfInBounds_toArray, List.set_cons_zero, List.set_cons_succ] at hK
              simp only [Asserted.fillS, List.setIfInBounds_toArray, List.set_cons_zero, List.set_cons_succ]
              try simp only [hd] at hK
              try (refine .inl ⟨by simp [hd], ?_⟩)
              go_simp
              try (with_reducible exact hK _ _ rfl (Grew.refl _))
              try (with_reducible exact hK _ _ (Row1.new _ _ _) (Grew.alloc _ _))
              try (with_reducible exact hK _ _ (Row2.new _ _ _ _) (Grew.alloc _ _))
            · refine (of_row1 ⟨some ⟨g1, 0, none⟩, n, c1, (bs0.take n).set k (cx ^^^ t)⟩ _ _ _ (Nat.le_refl _) (PX.below hg.of_drew _ hg.size) hd).mono ?_
              rintro e w5 ⟨rfl, hb⟩
              exact hK _ _ (by rw [← HX.out]) hb
            · refine (of_row1 ⟨b0, n, cap0, bs0.take n⟩ _ _ _ (Nat.le_refl _) (PA.below hg.of_drew _ hg.size) hd).mono ?_
              rintro e w5 ⟨rfl, hb⟩
              exact hK _ _ (by rw [← HA.out]) hb
            · refine (of_row1 ⟨some ⟨g2, 0, none⟩, n, c2, (bs1.take n).set k (cy ^^^ t)⟩ _ _ _ (Nat.le_refl _) (PY.below hg.of_drew _ hg.size) hd).mono ?_
              rintro e w5 ⟨rfl, hb⟩
              exact hK _ _ (by rw [← HY.out]) hb
            · refine (of_row1 ⟨b1, n, cap1, bs1.take n⟩ _ _ _ (Nat.le_refl _) (PB.below hg.of_drew _ hg.size) hd).mono ?_
              rintro e w5 ⟨rfl, hb⟩
              exact hK _ _ (by rw [← HB.out]) hb
          · intro u w4 hg hd
            simp only [Asserted.DepsS, Claim7, and_true] at hd
            have e13 : u 13 = .int .u32 (V (X ^^^ A)) := hd.2.2.2.2.2.2.2.2.2.2.2.2.2.2.2.2.2.2.1
            have e14 : u 14 = .int .u32 (V (X ^^^ A)) := by rw [← HXY.out]; exact hd.2.2.2.2.2.2.2.2.2.2.2.2.2.2.2.2.2.2.2
            clear hd
            have k4 : Below w.heap.size w w4 := hb3.trans (hg.of_drew.mono hb3.size)
            have q4 := k4.size
            simp only [Asserted.fillS, List.setIfInBounds_toArray, List.set_cons_zero, List.set_cons_succ, e13, e14]
            clear e13 e14 hg
            go_wp2_with fail
            refine (told_any _).mono ?_
            rintro e w5 ⟨rfl, hb5⟩
            have k5 : Below w.heap.size w w5 := k4.trans (hb5.mono q4)
            clear hb5
            have ez := HZ.out
            generalize V (X ^^^ A) = z at *
            go_wp2_with fail
            go_ret
            exact ⟨rfl, k5⟩
      · go_wp2_with (go_at_call 11; refine (told_any _).mono ?_; rintro e w6 ⟨rfl, hb6⟩)
        go_ret
        exact ⟨rfl, hb6⟩
    · go_wp2_with (go_at_call 11; refine (told_any _).mono ?_; rintro e w6 ⟨rfl, hb6⟩)
      go_ret
      exact ⟨rfl, hb6⟩

/-! ### the row's step -/
set_option maxRecDepth 100000 in
theorem lifted (os : Os) (started : os.Started) (H : Type) (enc : TypeId × Value → H) :
    ReturnsInHanded {} Try.checked os 9 .any (Rows.crcTurnedSpec.pre6 enc Try.prog Try.f9 Rows.crcTurnedRow.domain false) (Rows.crcTurnedSpec.post enc Try.prog Try.f9 false true false false) := by
  refine returnsInHanded_of_change (C := Try.checked) own started (by kernel_rfl) Try.func9
    (ChangeSpec.witness6 (enc := enc) (C := Try.checked) false ⟨#[], #[.slice none 0 0, .slice none 0 0, .int .i64 0, .int .u8 0], []⟩ 8 (by kernel_rfl) (by kernel_rfl) (by kernel_rfl) (by kernel_rfl)) ?_
  intro W base args ds gs before hval0 hW hcnd _
  have hval : ∀ (j : Nat) t v, Try.f9.params[j]? = some t → args[j]? = some v → Value.okWide Try.prog W .any base t v := hval0
  have hW' := hW
  obtain ⟨p, q, hA0, hV, rfl, hfz, hnd⟩ := hW
  have hA : DataW.TrodAll enc Try.prog W 0 (fun _ => true) true Try.f9.params.toList args.toList ds p := hA0
  rw [Try.params9] at hA hval
  obtain ⟨v0, vs0, d0, ds0, p0, q0, hargs, rfl, rfl, h0, r0⟩ := trodAll_cons hA
  obtain ⟨v1, vs1, d1, ds1, p1, q1, rfl, rfl, rfl, h1, r1⟩ := trodAll_cons r0
  obtain ⟨v2, vs2, d2, ds2, p2, q2, rfl, rfl, rfl, h2, r2⟩ := trodAll_cons r1
  obtain ⟨v3, vs3, d3, ds3, p3, q3, rfl, rfl, rfl, h3, r3⟩ := trodAll_cons r2
  obtain ⟨rfl, rfl, rfl⟩ := trodAll_nil r3
  obtain rfl : args = #[v0, v1, v2, v3] := by cases args; simp_all
  obtain ⟨rfl, rfl⟩ := trodVars_none hV
  obtain ⟨a0, len0, cap0, rfl⟩ := okWide_slice Try.underlying25 (hval 0 25 v0 rfl rfl)
  have k0 := h0
  have lt0 : ∀ x ∈ p0, x.block < W.heap.size := by obtain ⟨m, hm⟩ := k0; exact DataW.trod_lt m _ _ _ hm
  obtain ⟨z0, w0⟩ : ∃ zs, IsRow .u8 W a0 len0 cap0 zs := by
    obtain ⟨fuel, hf⟩ := h0
    rcases open_ints Try.underlying25 Try.underlying5 (by kernel_rfl) hf with ⟨hcs, _⟩ | ⟨x, l, c, zs, hcs, _, hl, hm, hz, _, hcell, hwz⟩
    · simp [Value.cells] at hcs
      obtain ⟨rfl, rfl, rfl⟩ := hcs
      exact ⟨[], .inl ⟨rfl, rfl, rfl, rfl⟩⟩
    · simp [Value.cells] at hcs
      obtain ⟨rfl, rfl, rfl⟩ := hcs
      exact ⟨zs, .inr ⟨_, rfl, hl, hm, by simpa using hz, hcell, hwz⟩⟩
  obtain ⟨a1, len1, cap1, rfl⟩ := okWide_slice Try.underlying25 (hval 1 25 v1 rfl rfl)
  have k1 := h1
  have lt1 : ∀ x ∈ p1, x.block < W.heap.size := by obtain ⟨m, hm⟩ := k1; exact DataW.trod_lt m _ _ _ hm
  obtain ⟨z1, w1⟩ : ∃ zs, IsRow .u8 W a1 len1 cap1 zs := by
    obtain ⟨fuel, hf⟩ := h1
    rcases open_ints Try.underlying25 Try.underlying5 (by kernel_rfl) hf with ⟨hcs, _⟩ | ⟨x, l, c, zs, hcs, _, hl, hm, hz, _, hcell, hwz⟩
    · simp [Value.cells] at hcs
      obtain ⟨rfl, rfl, rfl⟩ := hcs
      exact ⟨[], .inl ⟨rfl, rfl, rfl, rfl⟩⟩
    · simp [Value.cells] at hcs
      obtain ⟨rfl, rfl, rfl⟩ := hcs
      exact ⟨zs, .inr ⟨_, rfl, hl, hm, by simpa using hz, hcell, hwz⟩⟩
  obtain ⟨a2, rfl, rfl, rfl, w2⟩ := open_int Try.underlying3 (hval 2 3 v2 rfl rfl) h2
  obtain ⟨a3, rfl, rfl, rfl, w3⟩ := open_int Try.underlying5 (hval 3 5 v3 rfl rfl) h3
  clear hA0 hval0
  refine (walk a0 len0 cap0 z0 a1 len1 cap1 z1 a2 a3 W w0 w1 w2 w3).mono fun e W' ⟨he, bel⟩ => ?_
  subst he
  exact ⟨_, rfl, _, _, _, [], _, [], hW', trodAll_mk1 (shut_bool Try.underlying4 _), (trodAll_cons_mk (Below.trod laidOut (by kernel_rfl) (of_decide_eq_true (by kernel_rfl)) k0 bel lt0) (trodAll_cons_mk (Below.trod laidOut (by kernel_rfl) (of_decide_eq_true (by kernel_rfl)) k1 bel lt1) (trodAll_cons_mk (shut_int Try.underlying3 w2) (trodAll_cons_mk (shut_int Try.underlying5 w3) trodAll_mk0)))), rfl, bel.frame _, fun h => by cases h⟩

theorem over : Rows.crcTurnedRow.holds Try.pinned (OpenSpec.ofChange Rows.crcTurnedSpec) :=
  OpenClaim.holds_of_wide 9 Try.f9 rfl rfl rfl rfl rfl rfl rfl ⟨rfl, rfl, rfl, rfl, rfl⟩ rfl rfl rfl rfl rfl (by kernel_rfl) Try.func9 (by kernel_rfl)
    (of_decide_eq_true (by kernel_rfl)) (by unfold Func.isWrapper; first | (rw [if_pos (by decide +kernel)]; kernel_rfl) | (rw [if_neg (by decide +kernel)]; exact ⟨rfl, rfl⟩))
    (fun os started H enc _ => lifted os started H enc)

/-- the statement -/
theorem proved : Rows.CrcTurnedSaid := over
#print axioms proved
end Go.Proofs.Ytmdbnmigpniiaaa.crcTurned
