/- A statement whose order is open, by assertions: each operation's result meets a claim that lasts while the world grows, whenever what it hangs on has met its own; then whatever the order all claims hold behind the statement. -/
import Derived.Orders
import Derived.Tactics
namespace Go.Proofs.Ytmdbnmigpniiaaa.Asserted

section
variable {P : Program} {ops : Array Oper} {Q : Exit → Act → World → Prop} {md : Region.Mode}

def fillL (u : Nat → Value) : List (Option Tmp) → Array Value → Array Value
  | [], t => t
  | none :: r, t => fillL u r t
  | some s :: r, t => fillL u r (t.setIfInBounds s (u s))

theorem fillL_size (u : Nat → Value) : ∀ (ws : List (Option Tmp)) (t : Array Value), (fillL u ws t).size = t.size
  | [], _ => rfl
  | none :: r, t => fillL_size u r t
  | some s :: r, t => by rw [fillL, fillL_size u r]; simp

theorem fillL_get (u : Nat → Value) : ∀ (ws : List (Option Tmp)) (t : Array Value) (s : Nat), s < t.size → (fillL u ws t)[s]? = if some s ∈ ws then some (u s) else t[s]?
  | [], t, s, _ => by simp [fillL]
  | none :: r, t, s, h => by rw [fillL, fillL_get u r t s h]; simp
  | some x :: r, t, s, h => by
    rw [fillL, fillL_get u r _ s (by simpa using h)]
    by_cases hr : some s ∈ r
    · rw [if_pos hr, if_pos (List.mem_cons_of_mem _ hr)]
    · rw [if_neg hr]
      by_cases hx : x = s
      · subst hx
        rw [if_pos (List.mem_cons_self ..)]
        simp [h]
      · rw [if_neg (by simp [hr]; intro e; exact hx e.symm), Array.getElem?_setIfInBounds_ne hx]

/-- the frame with the statement's own slots filled by u -/
def fill (ops : Array Oper) (a : Act) (u : Nat → Value) : Act := { tmps := fillL u (ops.toList.map (·.dst)) a.tmps, defers := a.defers }

def uAt (u : Nat → Value) : Option Tmp → Value
  | some s => u s
  | none => undef

/-- what an operation hangs on has met its claims -/
def Deps (md : Region.Mode) (ops : Array Oper) (T : Nat → Value → World → Prop) (u : Nat → Value) (w : World) : List Edge → Prop
  | [] => True
  | e :: r => (Region.binds md e = true → match ops[e.on]? with | some oe => T e.on (uAt u oe.dst) w | none => True) ∧ Deps md ops T u w r

theorem deps_mk {T : Nat → Value → World → Prop} {u : Nat → Value} {w : World} : ∀ (l : List Edge), (∀ e ∈ l, Region.binds md e = true → ∀ oe, ops[e.on]? = some oe → T e.on (uAt u oe.dst) w) → Deps md ops T u w l
  | [], _ => trivial
  | e :: r, h => ⟨fun hb => by
      split
      · rename_i oe ho; exact h e (List.mem_cons_self ..) hb oe ho
      · trivial, deps_mk r fun e' he' => h e' (List.mem_cons_of_mem _ he')⟩

def Step (P : Program) (md : Region.Mode) (ops : Array Oper) (Q : Exit → Act → World → Prop) (T : Nat → Value → World → Prop) (D : Nat → Nat → Value → Value → Prop) (R : World → World → Prop) (a : Act) (w : World) (i : Nat) (o : Oper) : Prop :=
  ∀ (u : Nat → Value) (w1 : World), R w w1 → Deps md ops T u w1 o.after.toList → ∀ K : Act → World → Prop,
    (∀ v w', T i v w' → (∀ k ok v', ops[k]? = some ok → T k v' w1 → (∀ e ∈ o.after.toList, Region.binds md e = true → ∀ oe, ops[e.on]? = some oe → (e.on = k → v' = uAt u oe.dst) ∧ (e.on ≠ k → D e.on k (uAt u oe.dst) v' ∧ D k e.on v' (uAt u oe.dst))) → D i k v v' ∧ D k i v' v) → R w1 w' → K ((fill ops a u).put o.dst v) w') →
    if Region.wanted o (yielded ops (fill ops a u).tmps) = true then o.wp P (fill ops a u) w1 K Q else K ((fill ops a u).put o.dst undef) w1

def Steps (P : Program) (md : Region.Mode) (ops : Array Oper) (Q : Exit → Act → World → Prop) (T : Nat → Value → World → Prop) (D : Nat → Nat → Value → Value → Prop) (R : World → World → Prop) (a : Act) (w : World) : Nat → List Oper → Prop
  | _, [] => True
  | k, o :: r => Step P md ops Q T D R a w k o ∧ Steps P md ops Q T D R a w (k + 1) r

theorem steps_at {T : Nat → Value → World → Prop} {D : Nat → Nat → Value → Value → Prop} {R : World → World → Prop} {a : Act} {w : World} : ∀ (l : List Oper) (k i : Nat) (o : Oper), l[i]? = some o → Steps P md ops Q T D R a w k l → Step P md ops Q T D R a w (k + i) o
  | [], _, _, _, h, _ => by simp at h
  | x :: r, k, 0, o, h, hs => by
    obtain rfl : x = o := by simpa using h
    exact hs.1
  | x :: r, k, i + 1, o, h, hs => by
    have := steps_at r (k + 1) i o (by simpa using h) hs.2
    rwa [show k + 1 + i = k + (i + 1) by omega] at this

/-- the checks that the kernel makes: own slots, pairwise other, in the frame; edges lead backwards -/
def fits (md : Region.Mode) (ops : Array Oper) (n : Nat) : Bool :=
  decide ((ops.toList.map (·.dst)).Nodup) && ops.toList.all (fun o => match o.dst with | some s => decide (s < n) | none => false) &&
    ops.toList.zipIdx.all fun x => x.1.after.toList.all fun e => !Region.binds md e || decide (e.on < x.2)

structure Inv (ops : Array Oper) (T : Nat → Value → World → Prop) (D : Nat → Nat → Value → Value → Prop) (R : World → World → Prop) (a : Act) (w : World) (listed : Array Bool) (a1 : Act) (w1 : World) : Prop where
  size : listed.size = ops.size
  defers : a1.defers = a.defers
  tmps : a1.tmps.size = a.tmps.size
  other : ∀ s, (∀ o ∈ ops.toList, o.dst ≠ some s) → a1.tmps[s]? = a.tmps[s]?
  grow : R w w1
  done : ∀ (j : Nat) (o : Oper), ops[j]? = some o → listed.getD j false = true → T j (uAt (fun s => a1.tmps.getD s undef) o.dst) w1
  apart : ∀ (j k : Nat) (o o' : Oper), ops[j]? = some o → ops[k]? = some o' → j ≠ k → listed.getD j false = true → listed.getD k false = true → D j k (uAt (fun s => a1.tmps.getD s undef) o.dst) (uAt (fun s => a1.tmps.getD s undef) o'.dst)

theorem Inv.fill_eq {T : Nat → Value → World → Prop} {D : Nat → Nat → Value → Value → Prop} {R : World → World → Prop} {a a1 : Act} {w w1 : World} {listed : Array Bool} (h : Inv ops T D R a w listed a1 w1) : a1 = fill ops a (fun s => a1.tmps.getD s undef) := by
  obtain ⟨_, hd, ht, ho, _, _, _⟩ := h
  obtain ⟨t1, d1⟩ := a1
  obtain ⟨t, d⟩ := a
  simp only at hd ht ho
  subst hd
  unfold fill
  congr 1
  apply Array.ext
  · rw [fillL_size, ht]
  · intro s h1 h2
    have hs : s < t.size := by omega
    have e := fillL_get (fun s => t1.getD s undef) (ops.toList.map (·.dst)) t s hs
    simp only at e ⊢
    have e2 : t1[s]? = (fillL (fun s => t1.getD s undef) (ops.toList.map (·.dst)) t)[s]? := by
      rw [e]
      split
      · simp [h1]
      · rename_i hn
        exact ho s fun o hom hds => hn (List.mem_map.2 ⟨o, hom, hds⟩)
    rw [Array.getElem?_eq_getElem h1, Array.getElem?_eq_getElem h2] at e2
    exact Option.some.inj e2

def unlisted (ops : Array Oper) (listed : Array Bool) : Nat := ((List.range ops.size).filter fun i => !listed.getD i true).length

theorem filter_lt {l : List Nat} {p q : Nat → Bool} {i : Nat} (hi : i ∈ l) (hp : p i = true) (hq : q i = false) (h : ∀ j, q j = true → p j = true) : (l.filter q).length < (l.filter p).length := by
  induction l with
  | nil => simp at hi
  | cons x l ih =>
    rcases List.mem_cons.1 hi with rfl | hi'
    · rw [List.filter_cons_of_pos hp, List.filter_cons_of_neg (by rw [hq]; decide), List.length_cons]
      have : (l.filter q).length ≤ (l.filter p).length := by
        clear ih hi
        induction l with
        | nil => simp
        | cons y l ih2 =>
          by_cases hy : q y = true
          · rw [List.filter_cons_of_pos hy, List.filter_cons_of_pos (h y hy), List.length_cons, List.length_cons]; omega
          · rw [List.filter_cons_of_neg hy]
            by_cases hy2 : p y = true
            · rw [List.filter_cons_of_pos hy2, List.length_cons]; omega
            · rw [List.filter_cons_of_neg hy2]; exact ih2
      omega
    · have := ih hi'
      by_cases hx : q x = true
      · rw [List.filter_cons_of_pos hx, List.filter_cons_of_pos (h x hx), List.length_cons, List.length_cons]; omega
      · rw [List.filter_cons_of_neg hx]
        by_cases hx2 : p x = true
        · rw [List.filter_cons_of_pos hx2, List.length_cons]; omega
        · rw [List.filter_cons_of_neg hx2]; exact this

theorem all_listed {listed : Array Bool} (hsz : listed.size = ops.size) (hb : ∀ (i : Nat) (o : Oper), ops[i]? = some o → ∀ e ∈ o.after, Region.binds md e = true → e.on < i) (h : Region.ready md ops listed = []) :
    ∀ n, n ≤ ops.size → ∀ j, j < n → listed.getD j false = true := by
  intro n
  induction n with
  | zero => intro _ j hj; omega
  | succ n ih =>
    intro hn j hj
    rcases Nat.lt_or_ge j n with h1 | h1
    · exact ih (by omega) j h1
    · obtain rfl : j = n := by omega
      cases hl : listed.getD j true with
      | true =>
        rw [Array.getD_eq_getD_getElem?, Array.getElem?_eq_getElem (by omega)] at hl ⊢
        exact hl
      | false =>
        exfalso
        have hm : j ∈ Region.ready md ops listed := by
          rw [mem_ready]
          refine ⟨hl, ops[j], Array.getElem?_eq_getElem (by omega), fun e he hbd => ?_⟩
          exact ih (by omega) e.on (hb j _ (Array.getElem?_eq_getElem (by omega)) e he hbd)
        rw [h] at hm
        cases hm

theorem wpAny_asserted {T : Nat → Value → World → Prop} {D : Nat → Nat → Value → Value → Prop} {R : World → World → Prop} {a : Act} {w : World}
    (hRt : ∀ x y z, R x y → R y z → R x z) (hT : ∀ j v x y, R x y → T j v x → T j v y)
    (hf : fits md ops a.tmps.size = true) (hs : Steps P md ops Q T D R a w 0 ops.toList)
    (hQ : ∀ a1 w1, Inv ops T D R a w (Array.replicate ops.size true) a1 w1 → Q .normal a1 w1) :
    ∀ (fuel : Nat) (listed : Array Bool) (a1 : Act) (w1 : World), unlisted ops listed ≤ fuel → Inv ops T D R a w listed a1 w1 → wpAny P md ops Q fuel listed a1 w1 := by
  unfold fits at hf
  simp only [Bool.and_eq_true, decide_eq_true_eq] at hf
  obtain ⟨⟨hnd, hds⟩, hed⟩ := hf
  have hb : ∀ (i : Nat) (o : Oper), ops[i]? = some o → ∀ e ∈ o.after, Region.binds md e = true → e.on < i := by
    intro i o ho e he hbd
    have hz : (o, i) ∈ ops.toList.zipIdx := List.mk_mem_zipIdx_iff_getElem?.2 (by simpa using ho)
    have h1 := List.all_eq_true.1 hed _ hz
    have h2 := List.all_eq_true.1 h1 e (Array.mem_toList_iff.2 he)
    rw [hbd] at h2
    simpa using h2
  have hdst : ∀ (i : Nat) (o : Oper), ops[i]? = some o → ∃ s, o.dst = some s ∧ s < a.tmps.size := by
    intro i o ho
    have hm : o ∈ ops.toList := by
      rw [Array.mem_toList_iff]
      exact Array.mem_of_getElem? ho
    have h1 := List.all_eq_true.1 hds o hm
    cases hd : o.dst with
    | none => rw [hd] at h1; cases h1
    | some s => rw [hd] at h1; exact ⟨s, rfl, by simpa using h1⟩
  have hne : ∀ (i j : Nat) (o o' : Oper), ops[i]? = some o → ops[j]? = some o' → i ≠ j → o.dst ≠ o'.dst := by
    intro i j o o' hi hj hij e
    have h1 : (ops.toList.map (·.dst))[i]? = some o.dst := by rw [List.getElem?_map]; simp [hi]
    have h2 : (ops.toList.map (·.dst))[j]? = some o.dst := by rw [List.getElem?_map, e]; simp [hj]
    have hi2 := (List.getElem?_eq_some_iff.1 h1)
    have hj2 := (List.getElem?_eq_some_iff.1 h2)
    obtain ⟨l1, e1⟩ := hi2
    obtain ⟨l2, e2⟩ := hj2
    have hp := List.pairwise_iff_getElem.1 hnd
    rcases Nat.lt_or_gt_of_ne hij with hlt | hlt
    · exact hp i j l1 l2 hlt (e1.trans e2.symm)
    · exact hp j i l2 l1 hlt (e2.trans e1.symm)
  have hfin : ∀ (listed : Array Bool) (a1 : Act) (w1 : World), Inv ops T D R a w listed a1 w1 → Region.ready md ops listed = [] → Q .normal a1 w1 := by
    intro listed a1 w1 hi hr
    have hall := all_listed hi.size hb hr ops.size (Nat.le_refl _)
    exact hQ a1 w1 ⟨by simp, hi.defers, hi.tmps, hi.other, hi.grow, fun j o ho _ => hi.done j o ho (hall j (Array.getElem?_eq_some_iff.1 ho).1), fun j k o o' ho ho' hjk _ _ => hi.apart j k o o' ho ho' hjk (hall j (Array.getElem?_eq_some_iff.1 ho).1) (hall k (Array.getElem?_eq_some_iff.1 ho').1)⟩
  have hstep : ∀ (i : Nat) (listed : Array Bool) (a1 : Act) (w1 : World) (K : Act → World → Prop), Inv ops T D R a w listed a1 w1 → i ∈ Region.ready md ops listed →
      (∀ a2 w2, Inv ops T D R a w (listed.setIfInBounds i true) a2 w2 → K a2 w2) → wpOp P ops Q i K a1 w1 := by
    intro i listed a1 w1 K hi hr hK
    obtain ⟨hun, o, ho, hdeps⟩ := mem_ready.1 hr
    obtain ⟨s, hs1, hs2⟩ := hdst i o ho
    have hst := steps_at ops.toList 0 i o (by simpa using ho) hs
    rw [Nat.zero_add] at hst
    have hst2 := hst (fun s => a1.tmps.getD s undef) w1 hi.grow (deps_mk _ fun e he hbd oe hoe => hi.done e.on oe hoe (hdeps e (Array.mem_toList_iff.1 he) hbd)) K
    rw [← hi.fill_eq] at hst2
    have hnext : ∀ v w', T i v w' → (∀ k ok v', ops[k]? = some ok → T k v' w1 → (∀ e ∈ o.after.toList, Region.binds md e = true → ∀ oe, ops[e.on]? = some oe → (e.on = k → v' = uAt (fun s => a1.tmps.getD s undef) oe.dst) ∧ (e.on ≠ k → D e.on k (uAt (fun s => a1.tmps.getD s undef) oe.dst) v' ∧ D k e.on v' (uAt (fun s => a1.tmps.getD s undef) oe.dst))) → D i k v v' ∧ D k i v' v) → R w1 w' → K (a1.put o.dst v) w' := by
      intro v w' ht hap hg
      have hself : (a1.tmps.setIfInBounds s v).getD s undef = v := by
        rw [Array.getD_eq_getD_getElem?]
        simp [hi.tmps, hs2]
      have hoth : ∀ (j : Nat) (o' : Oper), ops[j]? = some o' → j ≠ i → uAt (fun s => (a1.put o.dst v).tmps.getD s undef) o'.dst = uAt (fun s => a1.tmps.getD s undef) o'.dst := by
        intro j o' ho' hji
        obtain ⟨s', hs1', _⟩ := hdst j o' ho'
        have hss : s ≠ s' := by
          have := hne i j o o' ho ho' (Ne.symm hji)
          rw [hs1, hs1'] at this
          exact fun e => this (by rw [e])
        rw [hs1, hs1']
        simp only [uAt, Act.put]
        rw [Array.getD_eq_getD_getElem?, Array.getD_eq_getD_getElem?, Array.getElem?_setIfInBounds_ne hss]
      have hpd : ∀ (k : Nat) (ok : Oper), ops[k]? = some ok → listed.getD k false = true → ∀ e ∈ o.after.toList, Region.binds md e = true → ∀ oe, ops[e.on]? = some oe →
          (e.on = k → uAt (fun s => a1.tmps.getD s undef) ok.dst = uAt (fun s => a1.tmps.getD s undef) oe.dst) ∧ (e.on ≠ k → D e.on k (uAt (fun s => a1.tmps.getD s undef) oe.dst) (uAt (fun s => a1.tmps.getD s undef) ok.dst) ∧ D k e.on (uAt (fun s => a1.tmps.getD s undef) ok.dst) (uAt (fun s => a1.tmps.getD s undef) oe.dst)) := by
        intro k ok hk hlk e he hbd oe hoe
        have hle := hdeps e (Array.mem_toList_iff.1 he) hbd
        refine ⟨fun e1 => ?_, fun e1 => ⟨hi.apart _ _ _ _ hoe hk e1 hle hlk, hi.apart _ _ _ _ hk hoe (Ne.symm e1) hlk hle⟩⟩
        rw [e1, hk] at hoe
        rw [Option.some.inj hoe]
      have hme : uAt (fun s => (a1.put o.dst v).tmps.getD s undef) o.dst = v := by
        rw [hs1]
        simp only [uAt, Act.put, hself]
      refine hK _ _ ⟨by simpa using hi.size, by rw [hs1]; exact hi.defers, by rw [hs1]; simpa [Act.put] using hi.tmps, ?_, hRt _ _ _ hi.grow hg, ?_, ?_⟩
      · intro x hx
        have hxs : s ≠ x := by
          rintro rfl
          exact hx o (by rw [Array.mem_toList_iff]; exact Array.mem_of_getElem? ho) hs1
        rw [hs1]
        simp only [Act.put]
        rw [Array.getElem?_setIfInBounds_ne hxs]
        exact hi.other x hx
      · intro j o' ho' hl
        by_cases hij : j = i
        · subst hij
          obtain rfl : o' = o := by rw [ho] at ho'; exact (Option.some.inj ho').symm
          rw [hs1]
          have : (a1.tmps.setIfInBounds s v).getD s undef = v := by
            rw [Array.getD_eq_getD_getElem?]
            simp [hi.tmps, hs2]
          simp only [uAt, Act.put, this]
          exact ht
        · obtain ⟨s', hs1', _⟩ := hdst j o' ho'
          have hss : s ≠ s' := by
            have := hne i j o o' ho ho' (Ne.symm hij)
            rw [hs1, hs1'] at this
            exact fun e => this (by rw [e])
          have hl' : listed.getD j false = true := by
            rwa [getD_set_ne false (Ne.symm hij)] at hl
          have h0 := hT j _ _ _ hg (hi.done j o' ho' hl')
          rw [hs1, hs1']
          rw [hs1'] at h0
          simp only [uAt, Act.put] at h0 ⊢
          rwa [show (a1.tmps.setIfInBounds s v).getD s' undef = a1.tmps.getD s' undef from by
            rw [Array.getD_eq_getD_getElem?, Array.getD_eq_getD_getElem?, Array.getElem?_setIfInBounds_ne hss]]
      · intro j k oj ok hj hk hjk hlj hlk
        by_cases hji : j = i
        · subst hji
          obtain rfl : oj = o := by rw [ho] at hj; exact (Option.some.inj hj).symm
          rw [hme, hoth k ok hk (Ne.symm hjk)]
          rw [getD_set_ne false hjk] at hlk
          exact (hap k ok _ hk (hi.done k ok hk hlk) (hpd k ok hk hlk)).1
        · rw [getD_set_ne false (Ne.symm hji)] at hlj
          by_cases hki : k = i
          · subst hki
            obtain rfl : ok = o := by rw [ho] at hk; exact (Option.some.inj hk).symm
            rw [hme, hoth j oj hj hji]
            exact (hap j oj _ hj (hi.done j oj hj hlj) (hpd j oj hj hlj)).2
          · rw [getD_set_ne false (Ne.symm hki)] at hlk
            rw [hoth j oj hj hji, hoth k ok hk hki]
            exact hi.apart j k oj ok hj hk hjk hlj hlk
    have hst3 := hst2 hnext
    unfold wpOp
    rw [ho]
    simp only
    by_cases hw : Region.wanted o (yielded ops a1.tmps) = true
    · rw [if_pos hw] at hst3
      rw [if_pos hw]
      exact .inl hst3
    · rw [if_neg hw] at hst3
      rw [if_neg hw]
      exact hst3
  intro fuel
  induction fuel with
  | zero =>
    intro listed a1 w1 hu hi
    have hr : Region.ready md ops listed = [] := by
      rcases hl : Region.ready md ops listed with _ | ⟨i, r⟩
      · rfl
      · exfalso
        have hm : i ∈ Region.ready md ops listed := by rw [hl]; exact List.mem_cons_self ..
        obtain ⟨hun, o, ho, _⟩ := mem_ready.1 hm
        have hmem : i ∈ (List.range ops.size).filter fun i => !listed.getD i true := by
          rw [List.mem_filter]
          exact ⟨List.mem_range.2 (Array.getElem?_eq_some_iff.1 ho).1, by rw [hun]; rfl⟩
        have := List.length_pos_of_mem hmem
        unfold unlisted at hu
        omega
    exact ⟨hr, hfin listed a1 w1 hi hr⟩
  | succ fuel ih =>
    intro listed a1 w1 hu hi
    refine ⟨fun hr => hfin listed a1 w1 hi hr, fun i hr => hstep i listed a1 w1 _ hi hr fun a2 w2 hi2 => ih _ a2 w2 ?_ hi2⟩
    obtain ⟨hun, o, ho, _⟩ := mem_ready.1 hr
    have hlt : i < ops.size := (Array.getElem?_eq_some_iff.1 ho).1
    have := filter_lt (l := List.range ops.size) (p := fun i => !listed.getD i true) (q := fun j => !(listed.setIfInBounds i true).getD j true) (i := i) (List.mem_range.2 hlt)
      (by rw [hun]; rfl) (by rw [Array.getD_eq_getD_getElem?]; simp [hi.size, hlt]) (by
        intro j hj
        by_cases e : i = j
        · subst e
          rw [Array.getD_eq_getD_getElem?] at hj
          simp [hi.size, hlt] at hj
        · rwa [getD_set_ne true e] at hj)
    unfold unlisted at hu ⊢
    omega

/-- THE LAW: a statement that draws its order, by assertions. -/
theorem wp_region_asserted {id : Nat} {a : Act} {w : World} {T : Nat → Value → World → Prop} {D : Nat → Nat → Value → Value → Prop} {R : World → World → Prop} (hm : P.follows .mixedOrders = true)
    (hRr : R w.drew w.drew) (hRt : ∀ x y z, R x y → R y z → R x z) (hT : ∀ j v x y, R x y → T j v x → T j v y)
    (hf : fits .any ops a.tmps.size = true) (hs : Steps P .any ops Q T D R a w.drew 0 ops.toList)
    (hQ : ∀ u w1, R w.drew w1 → (∀ (j : Nat) (o : Oper), ops[j]? = some o → T j (uAt u o.dst) w1) → (∀ (j k : Nat) (o o' : Oper), ops[j]? = some o → ops[k]? = some o' → j ≠ k → D j k (uAt u o.dst) (uAt u o'.dst)) → Q .normal (fill ops a u) w1) :
    (Code.region id ops true).wp P Q a w := by
  refine wp_region_any hm (wpAny_asserted (T := T) (D := D) (R := R) (a := a) (w := w.drew) hRt hT hf hs ?_ _ _ _ _ ?_ ?_)
  · intro a1 w1 hi
    rw [hi.fill_eq]
    have hl : ∀ (j : Nat) (o : Oper), ops[j]? = some o → (Array.replicate ops.size true).getD j false = true := fun j o ho => by
      have := (Array.getElem?_eq_some_iff.1 ho).1
      rw [Array.getD_eq_getD_getElem?]
      simp [this]
    exact hQ _ w1 hi.grow (fun j o ho => hi.done j o ho (hl j o ho)) fun j k o o' ho ho' hjk => hi.apart j k o o' ho ho' hjk (hl j o ho) (hl k o' ho')
  · unfold unlisted
    have := List.length_filter_le (fun i => !(Array.replicate ops.size false).getD i true) (List.range ops.size)
    simpa using this
  · have hl : ∀ (j : Nat) (o : Oper), ops[j]? = some o → (Array.replicate ops.size false).getD j false = true → False := fun j o ho hl => by
      have := (Array.getElem?_eq_some_iff.1 ho).1
      rw [Array.getD_eq_getD_getElem?] at hl
      simp [this] at hl
    exact ⟨by simp, rfl, rfl, fun _ _ => rfl, hRr, fun j o ho h => (hl j o ho h).elim, fun j k o o' ho _ _ h _ => (hl j o ho h).elim⟩
/-! ### the same by slots: of each operation the slots that it hangs on and its guard's slot are written out (the kernel holds them against the statement's edges) -/
def dslot : Option Tmp → Nat
  | some s => s
  | none => 0

structure Plan where
  ds : List Nat
  gd : Option (Nat × Bool)

def slotAt (ops : Array Oper) (j : Nat) : Option Nat := (ops[j]?).bind (·.dst)

def planOne (ops : Array Oper) (o : Oper) (p : Plan) : Bool :=
  p.ds.all (fun s => o.after.toList.any fun e => Region.binds .any e && slotAt ops e.on == some s) &&
    (match o.guard with
     | none => p.gd.isNone
     | some (j, b) => match slotAt ops j with
       | some s => p.gd == some (s, b)
       | none => false)
def planAll (ops : Array Oper) (ps : List Plan) : Bool := ps.length == ops.size && (ops.toList.zip ps).all fun x => planOne ops x.1 x.2

def DepsS (T : Nat → Value → World → Prop) (u : Nat → Value) (w : World) : List Nat → Prop
  | [] => True
  | s :: r => T s (u s) w ∧ DepsS T u w r

def fillS (u : Nat → Value) : List Nat → Array Value → Array Value
  | [], t => t
  | s :: r, t => fillS u r (t.setIfInBounds s (u s))
theorem fillS_eq (u : Nat → Value) : ∀ (ws : List Nat) (t : Array Value), fillS u ws t = fillL u (ws.map some) t
  | [], _ => rfl
  | _ :: r, _ => fillS_eq u r _

def StepS (P : Program) (Q : Exit → Act → World → Prop) (T : Nat → Value → World → Prop) (D : Nat → Nat → Value → Value → Prop) (R : World → World → Prop) (ws : List Nat) (a : Act) (w : World) (p : Plan) (o : Oper) : Prop :=
  ∀ (u : Nat → Value) (w1 : World), R w w1 → DepsS T u w1 p.ds → ∀ K : Act → World → Prop,
    (∀ v w', T (dslot o.dst) v w' → (∀ k v', T k v' w1 → (∀ s ∈ p.ds, (s = k → v' = u s) ∧ (s ≠ k → D s k (u s) v' ∧ D k s v' (u s))) → D (dslot o.dst) k v v' ∧ D k (dslot o.dst) v' v) → R w1 w' → K (({ tmps := fillS u ws a.tmps, defers := a.defers } : Act).put o.dst v) w') →
    match p.gd with
    | none => o.wp P { tmps := fillS u ws a.tmps, defers := a.defers } w1 K Q
    | some (s, b) => (u s = .bool b ∧ o.wp P { tmps := fillS u ws a.tmps, defers := a.defers } w1 K Q) ∨
      (u s = .bool (!b) ∧ K (({ tmps := fillS u ws a.tmps, defers := a.defers } : Act).put o.dst undef) w1)

def StepsS (P : Program) (Q : Exit → Act → World → Prop) (T : Nat → Value → World → Prop) (D : Nat → Nat → Value → Value → Prop) (R : World → World → Prop) (ws : List Nat) (a : Act) (w : World) : List Plan → List Oper → Prop
  | p :: ps, o :: r => StepS P Q T D R ws a w p o ∧ StepsS P Q T D R ws a w ps r
  | _, _ => True

/-- a step that says nothing of pairs -/
def StepP (P : Program) (Q : Exit → Act → World → Prop) (T : Nat → Value → World → Prop) (R : World → World → Prop) (ws : List Nat) (a : Act) (w : World) (p : Plan) (o : Oper) : Prop :=
  ∀ (u : Nat → Value) (w1 : World), R w w1 → DepsS T u w1 p.ds → ∀ K : Act → World → Prop,
    (∀ v w', T (dslot o.dst) v w' → R w1 w' → K (({ tmps := fillS u ws a.tmps, defers := a.defers } : Act).put o.dst v) w') →
    match p.gd with
    | none => o.wp P { tmps := fillS u ws a.tmps, defers := a.defers } w1 K Q
    | some (s, b) => (u s = .bool b ∧ o.wp P { tmps := fillS u ws a.tmps, defers := a.defers } w1 K Q) ∨
      (u s = .bool (!b) ∧ K (({ tmps := fillS u ws a.tmps, defers := a.defers } : Act).put o.dst undef) w1)
def StepsP (P : Program) (Q : Exit → Act → World → Prop) (T : Nat → Value → World → Prop) (R : World → World → Prop) (ws : List Nat) (a : Act) (w : World) : List Plan → List Oper → Prop
  | p :: ps, o :: r => StepP P Q T R ws a w p o ∧ StepsP P Q T R ws a w ps r
  | _, _ => True
theorem stepsS_of {T : Nat → Value → World → Prop} {R : World → World → Prop} {ws : List Nat} {a : Act} {w : World} : ∀ (ps : List Plan) (l : List Oper), StepsP P Q T R ws a w ps l → StepsS P Q T (fun _ _ _ _ => True) R ws a w ps l
  | [], [], _ => trivial
  | [], _ :: _, _ => trivial
  | _ :: _, [], _ => trivial
  | _ :: ps, _ :: l, h => ⟨fun u w1 hg hd K hK => h.1 u w1 hg hd K fun v w' t r => hK v w' t (fun _ _ _ _ => ⟨trivial, trivial⟩) r, stepsS_of ps l h.2⟩

theorem fits_dst {n i : Nat} {o : Oper} (hf : fits md ops n = true) (ho : ops[i]? = some o) : ∃ s, o.dst = some s := by
  unfold fits at hf
  simp only [Bool.and_eq_true, decide_eq_true_eq] at hf
  have hm : o ∈ ops.toList := by rw [Array.mem_toList_iff]; exact Array.mem_of_getElem? ho
  have h1 := List.all_eq_true.1 hf.1.2 o hm
  cases hd : o.dst with
  | none => rw [hd] at h1; cases h1
  | some s => exact ⟨s, rfl⟩
theorem fits_ne {n i j : Nat} {o o' : Oper} (hf : fits md ops n = true) (hi : ops[i]? = some o) (hj : ops[j]? = some o') (hij : i ≠ j) : o.dst ≠ o'.dst := by
  unfold fits at hf
  simp only [Bool.and_eq_true, decide_eq_true_eq] at hf
  intro e
  have h1 : (ops.toList.map (·.dst))[i]? = some o.dst := by rw [List.getElem?_map]; simp [hi]
  have h2 : (ops.toList.map (·.dst))[j]? = some o.dst := by rw [List.getElem?_map, e]; simp [hj]
  obtain ⟨l1, e1⟩ := List.getElem?_eq_some_iff.1 h1
  obtain ⟨l2, e2⟩ := List.getElem?_eq_some_iff.1 h2
  have hp := List.pairwise_iff_getElem.1 hf.1.1
  rcases Nat.lt_or_gt_of_ne hij with hlt | hlt
  · exact hp i j l1 l2 hlt (e1.trans e2.symm)
  · exact hp j i l2 l1 hlt (e2.trans e1.symm)

theorem depsS_of {T : Nat → Value → World → Prop} {u : Nat → Value} {w : World} : ∀ (l : List Nat), (∀ s ∈ l, T s (u s) w) → DepsS T u w l
  | [], _ => trivial
  | s :: r, h => ⟨h s (List.mem_cons_self ..), depsS_of r fun x hx => h x (List.mem_cons_of_mem _ hx)⟩

theorem deps_at {T : Nat → Value → World → Prop} {u : Nat → Value} {w : World} : ∀ (l : List Edge), Deps md ops T u w l → ∀ e ∈ l, Region.binds md e = true → ∀ oe, ops[e.on]? = some oe → T e.on (uAt u oe.dst) w
  | [], _, e, he, _, _, _ => by cases he
  | x :: r, h, e, he, hb, oe, hoe => by
    rcases List.mem_cons.1 he with rfl | he'
    · have := h.1 hb
      rw [hoe] at this
      exact this
    · exact deps_at r h.2 e he' hb oe hoe

theorem steps_of_planned {T : Nat → Value → World → Prop} {D : Nat → Nat → Value → Value → Prop} {R : World → World → Prop} {ws : List Nat} {a : Act} {w : World} (hws : ops.toList.map (·.dst) = ws.map some) (hn : fits .any ops a.tmps.size = true) :
    ∀ (ps : List Plan) (l : List Oper) (k : Nat), (∀ j, l[j]? = ops[k + j]?) → ps.length = l.length → ((l.zip ps).all fun x => planOne ops x.1 x.2) = true → StepsS P Q T D R ws a w ps l →
      Steps P .any ops Q (fun j v w' => T (dslot (slotAt ops j)) v w') (fun j k v v' => D (dslot (slotAt ops j)) (dslot (slotAt ops k)) v v') R a w k l
  | _, [], _, _, _, _, _ => trivial
  | [], _ :: _, _, _, h, _, _ => by simp at h
  | p :: ps, o :: r, k, hl, hlen, hall, hs => by
    have ho : ops[k]? = some o := by simpa using (hl 0).symm
    simp only [List.zip_cons_cons, List.all_cons, Bool.and_eq_true] at hall
    refine ⟨?_, steps_of_planned hws hn ps r (k + 1) (fun j => by have := hl (j + 1); simpa [Nat.add_assoc, Nat.add_comm 1 j] using this) (by simpa using hlen) hall.2 hs.2⟩
    intro u w1 hg hd K hK
    have hfill : fill ops a u = { tmps := fillS u ws a.tmps, defers := a.defers } := by
      unfold fill
      rw [fillS_eq, hws]
    rw [hfill] at hK ⊢
    have hp := hall.1
    unfold planOne at hp
    rw [Bool.and_eq_true] at hp
    have hdeps : DepsS T u w1 p.ds := depsS_of _ fun s hs => by
      have h1 := List.all_eq_true.1 hp.1 s hs
      obtain ⟨e, he, hee⟩ := List.any_eq_true.1 h1
      rw [Bool.and_eq_true, beq_iff_eq] at hee
      obtain ⟨hb, hsl⟩ := hee
      have hsl' := hsl
      unfold slotAt at hsl
      obtain ⟨oe, hoe, hds⟩ := Option.bind_eq_some_iff.1 hsl
      have := deps_at _ hd e he hb oe hoe
      rw [hsl', hds] at this
      exact this
    have hsk : slotAt ops k = o.dst := by unfold slotAt; rw [ho]; rfl
    have hst := hs.1 u w1 hg hdeps K (fun v w' hT hD hR => hK v w' (by
      simp only
      rwa [hsk]) (fun j oj v' hoj hj hpd => by
      simp only [hsk]
      refine hD _ v' hj fun s hs => ?_
      have h1 := List.all_eq_true.1 hp.1 s hs
      obtain ⟨e, he, hee⟩ := List.any_eq_true.1 h1
      rw [Bool.and_eq_true, beq_iff_eq] at hee
      obtain ⟨hb, hsl⟩ := hee
      have hsl' := hsl
      unfold slotAt at hsl
      obtain ⟨oe, hoe, hds⟩ := Option.bind_eq_some_iff.1 hsl
      have h2 := hpd e he hb oe hoe
      simp only [hsl', hds, uAt, dslot] at h2
      obtain ⟨s2, hs2⟩ := fits_dst hn hoj
      have hj2 : slotAt ops j = some s2 := by unfold slotAt; rw [hoj]; exact hs2
      rw [hj2] at h2 ⊢
      refine ⟨fun e1 => h2.1 ?_, fun e1 => h2.2 fun e2 => e1 ?_⟩
      · simp only [dslot] at e1
        subst e1
        rcases Nat.lt_trichotomy e.on j with h | h | h
        · exact absurd (hds.trans hs2.symm) (fits_ne hn hoe hoj (by omega))
        · exact h
        · exact absurd (hds.trans hs2.symm) (fits_ne hn hoe hoj (by omega))
      · rw [e2, hj2] at hsl'
        exact (Option.some.inj hsl').symm) hR)
    have hget : ∀ j s, slotAt ops j = some s → (fillS u ws a.tmps)[s]? = some (u s) := by
      intro j s hj
      unfold slotAt at hj
      obtain ⟨oe, hoe, hds⟩ := Option.bind_eq_some_iff.1 hj
      have hm : oe ∈ ops.toList := by rw [Array.mem_toList_iff]; exact Array.mem_of_getElem? hoe
      unfold fits at hn
      simp only [Bool.and_eq_true] at hn
      have h1 := List.all_eq_true.1 hn.1.2 oe hm
      rw [hds] at h1
      rw [fillS_eq, fillL_get u _ _ s (by simpa using h1), if_pos]
      rw [← hws]
      exact List.mem_map.2 ⟨oe, hm, hds⟩
    cases hgd : o.guard with
    | none =>
      rw [hgd] at hp
      have hpn : p.gd = none := by simpa using hp.2
      rw [hpn] at hst
      rw [if_pos (by simp [Region.wanted, hgd])]
      exact hst
    | some jb =>
      obtain ⟨j, b⟩ := jb
      rw [hgd] at hp
      simp only at hp
      cases hsj : slotAt ops j with
      | none => rw [hsj] at hp; simp at hp
      | some s =>
        rw [hsj] at hp
        have hpg : p.gd = some (s, b) := by simpa using hp.2
        rw [hpg] at hst
        have hy : yielded ops (fillS u ws a.tmps) j = match u s with | .bool b => some b | _ => none := by
          unfold yielded
          have : (ops[j]?).bind (·.dst) = some s := hsj
          rw [this, Option.bind_some, hget j s hsj]
          cases u s <;> rfl
        rcases hst with ⟨hu, hst⟩ | ⟨hu, hst⟩
        · rw [if_pos (by simp only [Region.wanted, hgd, hy, hu]; simp)]
          exact hst
        · rw [if_neg (by simp only [Region.wanted, hgd, hy, hu]; cases b <;> simp)]
          exact hst

/-- THE LAW, by slots, with claims on pairs of results. -/
theorem wp_region_planned2 {id : Nat} {a : Act} {w : World} {T : Nat → Value → World → Prop} {D : Nat → Nat → Value → Value → Prop} {R : World → World → Prop} (ws : List Nat) (ps : List Plan) (hm : P.follows .mixedOrders = true)
    (hRr : R w.drew w.drew) (hRt : ∀ x y z, R x y → R y z → R x z) (hT : ∀ j v x y, R x y → T j v x → T j v y)
    (hf : fits .any ops a.tmps.size = true) (hws : ops.toList.map (·.dst) = ws.map some) (hp : planAll ops ps = true) (hs : StepsS P Q T D R ws a w.drew ps ops.toList)
    (hQ : ∀ u w1, R w.drew w1 → DepsS T u w1 ws → (∀ s ∈ ws, ∀ s' ∈ ws, s ≠ s' → D s s' (u s) (u s')) → Q .normal { tmps := fillS u ws a.tmps, defers := a.defers } w1) :
    (Code.region id ops true).wp P Q a w := by
  unfold planAll at hp
  rw [Bool.and_eq_true, beq_iff_eq] at hp
  refine wp_region_asserted (T := fun j v w' => T (dslot (slotAt ops j)) v w') (D := fun j k v v' => D (dslot (slotAt ops j)) (dslot (slotAt ops k)) v v') (R := R) hm hRr hRt (fun j v x y => hT _ v x y) hf
    (steps_of_planned hws hf ps ops.toList 0 (fun j => by simp) (by simpa using hp.1) hp.2 hs) ?_
  intro u w1 hg hall hpair
  have hfill : fill ops a u = { tmps := fillS u ws a.tmps, defers := a.defers } := by
    unfold fill
    rw [fillS_eq, hws]
  rw [hfill]
  have hfind : ∀ s ∈ ws, ∃ (j : Nat) (o : Oper), ops[j]? = some o ∧ o.dst = some s := fun s hs => by
    have : some s ∈ ops.toList.map (·.dst) := by rw [hws]; exact List.mem_map.2 ⟨s, hs, rfl⟩
    obtain ⟨o, hom, hds⟩ := List.mem_map.1 this
    rw [Array.mem_toList_iff] at hom
    obtain ⟨j, hj, hje⟩ := Array.mem_iff_getElem.1 hom
    exact ⟨j, o, by rw [Array.getElem?_eq_getElem hj, hje], hds⟩
  have hsl : ∀ (j : Nat) (o : Oper) (s : Nat), ops[j]? = some o → o.dst = some s → slotAt ops j = some s := fun j o s hoj hds => by
    unfold slotAt; rw [hoj]; exact hds
  refine hQ u w1 hg (depsS_of _ fun s hs => ?_) fun s hs s' hs' hne => ?_
  · obtain ⟨j, o, hoj, hds⟩ := hfind s hs
    have h := hall j o hoj
    rw [hsl j o s hoj hds, hds] at h
    exact h
  · obtain ⟨j, o, hoj, hds⟩ := hfind s hs
    obtain ⟨k, o', hok, hds'⟩ := hfind s' hs'
    have hjk : j ≠ k := by
      rintro rfl
      rw [hoj] at hok
      obtain rfl := Option.some.inj hok
      rw [hds] at hds'
      exact hne (Option.some.inj hds')
    have h := hpair j k o o' hoj hok hjk
    rw [hsl j o s hoj hds, hsl k o' s' hok hds', hds, hds'] at h
    exact h

/-- THE LAW, by slots. -/
theorem wp_region_planned {id : Nat} {a : Act} {w : World} {T : Nat → Value → World → Prop} {R : World → World → Prop} (ws : List Nat) (ps : List Plan) (hm : P.follows .mixedOrders = true)
    (hRr : R w.drew w.drew) (hRt : ∀ x y z, R x y → R y z → R x z) (hT : ∀ j v x y, R x y → T j v x → T j v y)
    (hf : fits .any ops a.tmps.size = true) (hws : ops.toList.map (·.dst) = ws.map some) (hp : planAll ops ps = true) (hs : StepsP P Q T R ws a w.drew ps ops.toList)
    (hQ : ∀ u w1, R w.drew w1 → DepsS T u w1 ws → Q .normal { tmps := fillS u ws a.tmps, defers := a.defers } w1) :
    (Code.region id ops true).wp P Q a w :=
  wp_region_planned2 ws ps hm hRr hRt hT hf hws hp (stepsS_of _ _ hs) fun u w1 hg hd _ => hQ u w1 hg hd
end
end Go.Proofs.Ytmdbnmigpniiaaa.Asserted
