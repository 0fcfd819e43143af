/- The walk of Burst. -/
import Derived.Test.YtmdbnmigpniiaaaRowed
import Derived.OwnWalk
import Derived.Deep.DeepMust
import Derived.Laws.OwnMore
import Derived.Deep.AppendLies
import Derived.Deep.OwnRows
namespace Go.Proofs.Ytmdbnmigpniiaaa
open Go.ChangeShapes Go.WideShapes Go.ChangeAt Go.RowKit

theorem umod_ex (a m : Int) (h0 : 0 < m) (h1 : m ≤ 4611686018427387904) : ∃ x, 0 ≤ x ∧ x < m ∧ wrap64 ((IntKind.u64.wrap a).tmod m) = x := by
  have hu : 0 ≤ IntKind.u64.wrap a := by rw [IntKind.wrap_u64]; omega
  rw [Int.tmod_eq_emod_of_nonneg hu]
  have h2 := Int.emod_nonneg (IntKind.u64.wrap a) (show m ≠ 0 by omega)
  have h3 := Int.emod_lt_of_pos (IntKind.u64.wrap a) h0
  exact ⟨_, h2, h3, IntWalk.wrap64_in _ ⟨by omega, by omega⟩⟩

theorem info5 : (Try.prog.info? 5).map (fun i => (i.zero, i.size, i.bytes)) = some (some (.int .u8 0), 1, 1) := by kernel_rfl

/-- the cells of bytes -/
def u8s (bs : List (BitVec 8)) : List Value := bs.map fun c => .int .u8 (W c)
theorem u8s_len (bs : List (BitVec 8)) : (u8s bs).length = bs.length := by simp [u8s]
theorem u8s_one (bs : List (BitVec 8)) : ∀ u ∈ u8s bs, u.oneCell' = true := by
  intro u hu
  obtain ⟨c, _, rfl⟩ := List.mem_map.1 hu
  rfl

/-- the first n bits of the pattern are turned -/
def Bent (bs : List (BitVec 8)) (K : Nat) (p : BitVec 32) (n : Nat) (cs : List (BitVec 8)) : Prop :=
  cs.length = bs.length ∧ ∀ q r (h : q < bs.length) (h' : q < cs.length), r < 8 → (cs[q]).getLsbD r = ((bs[q]).getLsbD r ^^ (decide (8 * q + r < K + n) && Crc.burstBit K p (8 * q + r)))
theorem Bent.zero (bs : List (BitVec 8)) (K : Nat) (p : BitVec 32) : Bent bs K p 0 bs := by
  refine ⟨rfl, fun q r h h' hr => ?_⟩
  unfold Crc.burstBit
  by_cases h : K ≤ 8 * q + r
  · rw [decide_eq_false (by omega : ¬ 8 * q + r < K + 0)]; simp
  · rw [decide_eq_false h]; simp

theorem Bent.keep {bs cs : List (BitVec 8)} {K n : Nat} {p : BitVec 32} (h : Bent bs K p n cs) (hp : ¬ p.getLsbD n = true) : Bent bs K p (n + 1) cs := by
  refine ⟨h.1, fun q r hq hq' hr => ?_⟩
  rw [h.2 q r hq hq' hr]
  congr 1
  by_cases e : 8 * q + r = K + n
  · rw [e, decide_eq_false (by omega : ¬ K + n < K + n)]
    unfold Crc.burstBit
    rw [show K + n - K = n by omega, Bool.eq_false_iff.2 hp]
    simp
  · congr 1
    exact decide_eq_decide.2 (by omega)
theorem Bent.turn {bs cs : List (BitVec 8)} {K n : Nat} {p : BitVec 32} {c : BitVec 8} (h : Bent bs K p n cs) (hp : p.getLsbD n = true) (hq : (K + n) / 8 < cs.length) (hc : cs[(K + n) / 8]? = some c) :
    Bent bs K p (n + 1) (cs.set ((K + n) / 8) (c ^^^ (1#8 <<< ((K + n) % 8)))) := by
  refine ⟨by rw [List.length_set]; exact h.1, fun q r hq1 hq' hr => ?_⟩
  have hqc : q < cs.length := by rw [List.length_set] at hq'; exact hq'
  have ho := h.2 q r hq1 hqc hr
  have hc' : cs[(K + n) / 8] = c := by
    rw [List.getElem?_eq_getElem hq] at hc
    exact Option.some.inj hc
  rw [List.getElem_set]
  split
  · rename_i e
    subst e
    rw [hc'] at ho
    rw [BitVec.getLsbD_xor, ho, BitVec.getLsbD_shiftLeft]
    by_cases e : r = (K + n) % 8
    · have e2 : 8 * ((K + n) / 8) + r = K + n := by omega
      rw [e2, decide_eq_false (by omega : ¬ K + n < K + n), decide_eq_true (by omega : K + n < K + (n + 1))]
      unfold Crc.burstBit
      rw [show K + n - K = n by omega, hp, e]
      simp [show (K + n) % 8 < 8 by omega]
    · have e3 : (decide (r < 8) && !decide (r < (K + n) % 8) && (1#8).getLsbD (r - (K + n) % 8)) = false := by
        by_cases e4 : r < (K + n) % 8
        · simp [e4]
        · rw [BitVec.getLsbD_one]; simp; omega
      rw [e3, Bool.xor_false]
      congr 2
      exact decide_eq_decide.2 (by omega)
  · rename_i e
    rw [ho]
    congr 2
    exact decide_eq_decide.2 (by omega)
theorem V_shrN (s : BitVec 32) (n : Nat) : V s / (2 : Int) ^ n = V (s >>> n) := by
  unfold V; rw [BitVec.toNat_ushiftRight, Nat.shiftRight_eq_div_pow, Int.natCast_ediv, Int.natCast_pow]; rfl
theorem V_bit (s : BitVec 32) (n : Nat) : bits .and .u32 (V s / (2 : Int) ^ n) 1 = if s.getLsbD n = true then 1 else 0 := by
  rw [V_shrN, V_and1, BitVec.getLsbD_ushiftRight]; rfl
theorem W_turn (c : BitVec 8) (r : Nat) (h : r < 8) : bits .xor .u8 (W c) ((2 : Int) ^ r % 256) = W (c ^^^ (1#8 <<< r)) := by
  have e : (2 : Int) ^ r % 256 = ((1#8 <<< r).toNat : Int) := by
    match r, h with
    | 0, _ => rfl
    | 1, _ => rfl
    | 2, _ => rfl
    | 3, _ => rfl
    | 4, _ => rfl
    | 5, _ => rfl
    | 6, _ => rfl
    | 7, _ => rfl
  rw [e]
  unfold W
  rw [u8_xor_nat _ _ c.isLt (1#8 <<< r).isLt, BitVec.toNat_xor]
theorem u8s_set (cs : List (BitVec 8)) (q : Nat) (x : BitVec 8) : u8s (cs.set q x) = (u8s cs).set q (.int .u8 (W x)) := by
  unfold u8s; rw [List.map_set]

theorem own_bytes {w : World} {base g n cap : Nat} {cs : List (BitVec 8)} (h : w.ownsRow base 5 1 (.slice (some ⟨g, 0, none⟩) n cap) n (u8s cs)) : IsBytes w w.heap.size (some ⟨g, 0, none⟩) n cs := by
  have hl := h.1
  rw [u8s_len] at hl
  refine ⟨by omega, fun hn => ⟨g, 0, rfl, (h.lt g rfl).2, fun i c hi => ?_⟩⟩
  have hin : i < n := by have := (List.getElem?_eq_some_iff.1 hi).1; omega
  rw [Nat.zero_add, h.cellAt i (by omega), u8s, List.getElem?_map, hi]
  rfl

def BurstPost (bs : List (BitVec 8)) (len : Nat) (p : BitVec 32) (e : Ending) (w' : World) : Prop :=
  ∃ g c cs K, e = .returned (.slice (some ⟨g, 0, none⟩) len c) ∧ IsBytes w' w'.heap.size (some ⟨g, 0, none⟩) len cs ∧ K + 32 ≤ 8 * bs.length ∧ Bent bs K p 32 cs

theorem Bent.law {bs cs : List (BitVec 8)} {K : Nat} {p : BitVec 32} (h : Bent bs K p 32 cs) (hK : K + 32 ≤ 8 * bs.length) : Crc.more 0#32 cs = Crc.more 0#32 bs ↔ p = 0#32 := by
  refine Crc.more_burst bs cs K p h.1 hK fun q r hq hr => ?_
  rw [h.2 q r hq (by rw [h.1]; exact hq) hr]
  congr 1
  by_cases e : 8 * q + r < K + 32
  · rw [decide_eq_true e, Bool.true_and]
  · unfold Crc.burstBit
    rw [BitVec.getLsbD_of_ge p _ (by omega)]
    simp

/-- an append that is guarded, its guard decided -/
theorem wpList_append_own_when {P : Program} {w : World} {ops : Array Oper} {rest : List Oper} {o : Oper} {a : Act} {Q : Exit → Act → World → Prop} (hw : Region.wanted o (yielded ops a.tmps) = true) (s x : Operand) (t : TypeId)
    (ho : o.op = .call { callee := .builtin .append, args := #[s, x], argTypes := #[t, t] })
    (base : Nat) (e : TypeId) (i : TypeInfo) (z : Value) (size bytes : Nat) (ht : P.underlying t = some (.slice e)) (hi : P.info? e = some i) (hz : i.zero = some z)
    (hsize : i.size = size) (hby : i.bytes = bytes) (hzs : z.cells.size = size) (hsz : 0 < size)
    (v : Value) (n : Nat) (xs : List Value) (hs : a.eval s = v) (hown : w.ownsRow base e size v n xs)
    (ad : Addr) (m c : Nat) (news : List Value) (hx : a.eval x = .slice (some ad) m c) (hl : news.length = m * size) (hnews : ∀ j u, news[j]? = some u → w.cell? (ad.add j) = some u) (h1 : ∀ u ∈ news, u.oneCell' = true)
    (h63 : n + m ≤ maxLen) (hbytes : (n + m) * bytes ≤ 140737488355328) (hbase : base ≤ w.heap.size)
    (h : ∀ v' w', w'.ownsRow base e size v' (n + m) (xs ++ news) → w.grownBy w' v.ownBlock → (v' = .slice none 0 0 ↔ v = .slice none 0 0 ∧ m = 0) → wpList P ops Q rest (a.put o.dst v') w') : wpList P ops Q (o :: rest) a w :=
  wpList_step fun _ hK => by
    rw [if_pos hw]
    exact wp_append_own w s x t ho base e i z size bytes ht hi hz hsize hby hzs hsz v n xs hs hown ad m c news hx hl hnews h1 h63 hbytes hbase fun v' w' h2 h3 h4 => hK _ _ (h v' w' h2 h3 h4)

theorem burst_any (A : Option Addr) (len cap : Nat) (bs : List (BitVec 8)) (at' : Int) (p : BitVec 32) (w : World) (hs : IsBytes w w.heap.size A len bs) (h4 : 4 ≤ len) (h300 : len ≤ 300) :
    Calls Try.prog 16 #[.slice A len cap, .int .i64 at', .int .u32 (V p)] w fun e w' => BurstPost bs len p e w' ∧ Below w.heap.size w w' := by
  obtain ⟨i0, hi0, hz0, hz1, hz2⟩ := info_parts info5
  obtain ⟨hl, hs2⟩ := hs
  obtain ⟨b, off, rfl, hbs, hcell⟩ := hs2 (by omega)
  obtain ⟨k, k0, k1, ek⟩ := umod_ex at' (8 * (len : Int) - 31) (by omega) (by omega)
  have hown0 : (w.alloc (.cells #[] 5)).ownsRow w.heap.size 5 1 (.slice (some ⟨w.heap.size, 0, none⟩) 0 0) 0 [] := World.ownsRow_made w #[] 0 (Nat.le_refl _) (by decide) rfl
  have hnews : ∀ j u, (u8s bs)[j]? = some u → (w.alloc (.cells #[] 5)).cell? ((⟨b, off, none⟩ : Addr).add j) = some u := by
    intro j u hu
    have ad : (⟨b, off, none⟩ : Addr).add j = ⟨b, off + j, none⟩ := by simp [Addr.add]
    rw [ad, World.cell?_alloc_past _ _ _ hbs]
    unfold u8s at hu
    rw [List.getElem?_map] at hu
    cases hb : bs[j]? with
    | none => rw [hb] at hu; cases hu
    | some c => rw [hb] at hu; injection hu with hu; rw [← hu]; exact hcell j c hb
  have hlen : (u8s bs).length = len * 1 := by rw [u8s_len, hl]; omega
  have hm1 : 0 + len ≤ maxLen := by unfold maxLen; omega
  have hm2 : (0 + len) * 1 ≤ 140737488355328 := by omega
  have hm3 : w.heap.size ≤ (w.alloc (.cells #[] 5)).heap.size := by simp
  have HO := Lib.hid hown0
  have HN := Lib.hid hnews
  have HLN := Lib.hid hlen
  have HL := Lib.hid hl
  have HC := Lib.hid hcell
  clear hs2 hl hcell hown0 hnews hlen
  go_enter Try.func16, Try.ntmps16
  go_wp2_with (at_builtin; go_loud (refine wpList_append_own _ rfl (.tmp 10) (.tmp 11) 25 rfl w.heap.size 5 i0 (.int .u8 0) 1 1 Try.underlying25 hi0 hz0 hz1 hz2 rfl (by decide) (.slice (some ⟨w.heap.size, 0, none⟩) 0 0) 0 [] rfl HO.out ⟨b, off, none⟩ len cap (u8s bs) rfl HLN.out HN.out (u8s_one bs) hm1 hm2 hm3 ?_); intro v1 w1 hown hgr _)
  have hb1 : Below w.heap.size w w1 := ((Below.refl _ _).alloc (Nat.le_refl _) _).grown hgr hm3 (by simp [Value.ownBlock])
  obtain ⟨g, cap1, hv1, hg0, hg1⟩ := hown.form (by omega)
  have hown1 : w1.ownsRow w.heap.size 5 1 (.slice (some ⟨g, 0, none⟩) len cap1) len (u8s bs) := by
    rw [hv1] at hown
    simpa using hown
  rw [hv1]
  have HV := Lib.hid hv1
  have HO1 := Lib.hid hown1
  clear hown hown1 hv1 hgr HO HN HLN
  obtain ⟨K, rfl⟩ := Int.eq_ofNat_of_zero_le k0
  go_loopw [9] (fun i wr => ∃ (n : Nat) (cs : List (BitVec 8)), n ≤ 32 ∧ i = .int .i64 n ∧ Bent bs K p n cs ∧ wr.ownsRow w.heap.size 5 1 (.slice (some ⟨g, 0, none⟩) len cap1) len (u8s cs) ∧ Below w.heap.size w wr) (fun i _ => (32 - intOf i).toNat)
  case atStart => exact ⟨0, bs, by omega, rfl, Bent.zero bs K p, HO1.out, hb1⟩
  case round =>
    obtain ⟨n, cs, hn, rfl, hbent, hown, hb⟩ := hrel
    by_cases hlt : n < 32
    · have hq : (K + n) / 8 < cs.length := by have := hbent.1; have := HL.out; omega
      obtain ⟨c, hc⟩ : ∃ c, cs[(K + n) / 8]? = some c := ⟨_, List.getElem?_eq_getElem hq⟩
      have g0 : wr.cell? ⟨g, (K + n) / 8, none⟩ = some (.int .u8 (W c)) := by
        rw [hown.cellAt _ (by have := hbent.1; have := HL.out; omega)]
        simp [u8s, hc]
      have g1 := hown.frozenAt ((K + n) / 8)
      have HC2 := Lib.hid hc
      clear hc
      by_cases hp : p.getLsbD n = true
      · have e1 : bits .and .u32 (V p / 2 ^ n) 1 = 1 := by rw [V_bit, if_pos hp]
        have e2 : bits .xor .u8 (W c) (2 ^ ((K + n) % 8) % 256) = W (c ^^^ (1#8 <<< ((K + n) % 8))) := W_turn c _ (by omega)
        have HB1 := Lib.hid (hbent.turn hp hq HC2.out)
        clear hp
        go_wp2_with fail
        go_roundw
        case rel => exact ⟨n + 1, cs.set ((K + n) / 8) (c ^^^ (1#8 <<< ((K + n) % 8))), by omega, by go_num, HB1.out, by rw [u8s_set]; exact (hown.stored _ _).1, hb.setCell (p := ⟨g, (K + n) / 8, none⟩) hg0 _⟩
        case measure => simp [intOf]; omega
      · have e1 : bits .and .u32 (V p / 2 ^ n) 1 = 0 := by rw [V_bit, if_neg hp]
        have HB1 := Lib.hid (hbent.keep hp)
        clear hp
        go_wp2_with fail
        go_roundw
        case rel => exact ⟨n + 1, cs, by omega, by go_num, HB1.out, hown, hb⟩
        case measure => simp [intOf]; omega
    · obtain rfl : n = 32 := by omega
      have hown2 := Lib.hid (own_bytes hown)
      have hK : K + 32 ≤ 8 * bs.length := by have := HL.out; omega
      go_wp2_with fail
      go_ret
      exact ⟨⟨g, cap1, cs, K, by simp, hown2.out, hK, hbent⟩, hb⟩
end Go.Proofs.Ytmdbnmigpniiaaa
