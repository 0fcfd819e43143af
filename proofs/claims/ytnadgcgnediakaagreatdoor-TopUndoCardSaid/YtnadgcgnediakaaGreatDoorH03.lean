/- A statement whose order is open, by assertions, stores let in: each operation's result meets a claim that lasts while the world grows, whenever what it hangs on has met its own; then whatever the order all claims hold behind the statement. -/
import Derived.Orders
import Derived.Tactics
namespace Go.Proofs.YtnadgcgnediakaaGreatDoor.Open

section
variable {P : Program} {ops : Array Oper} {Q : Exit → Act → World → Prop} {md : Region.Mode}

def fillL (u : Nat → Value) : List (Option Tmp) → Array Value → Array Value
  | [], t => t
  | none :: r, t => fillL u r t
  | some s :: r, t => fillL u r (t.setIfInBounds s (u s))

theorem fillL_size (u : Nat → Value) : ∀ (ws : List (Option Tmp)) (t : Array Value), (fillL u ws t).size = t.size
  | [], _ => rfl
  | none :: r, t => fillL_size u r t
  | some s :: r, t => by rw [fillL, fillL_size u r]; simp

theorem fillL_get (u : Nat → Value) : ∀ (ws : List (Option Tmp)) (t : Array Value) (s : Nat), s < t.size → (fillL u ws t)[s]? = if some s ∈ ws then some (u s) else t[s]?
  | [], t, s, _ => by simp [fillL]
  | none :: r, t, s, h => by rw [fillL, fillL_get u r t s h]; simp
  | some x :: r, t, s, h => by
    rw [fillL, fillL_get u r _ s (by simpa using h)]
    by_cases hr : some s ∈ r
    · rw [if_pos hr, if_pos (List.mem_cons_of_mem _ hr)]
    · rw [if_neg hr]
      by_cases hx : x = s
      · subst hx
        rw [if_pos (List.mem_cons_self ..)]
        simp [h]
      · rw [if_neg (by simp [hr]; intro e; exact hx e.symm), Array.getElem?_setIfInBounds_ne hx]

/-- the frame with the statement's own slots filled by u -/
def fill (ops : Array Oper) (a : Act) (u : Nat → Value) : Act := { tmps := fillL u (ops.toList.map (·.dst)) a.tmps, defers := a.defers }

def uAt (u : Nat → Value) : Option Tmp → Value
  | some s => u s
  | none => undef

/-- what an operation hangs on has met its claims -/
def Deps (md : Region.Mode) (ops : Array Oper) (T : Nat → Value → World → Prop) (u : Nat → Value) (w : World) : List Edge → Prop
  | [] => True
  | e :: r => (Region.binds md e = true → match ops[e.on]? with | some oe => T e.on (uAt u oe.dst) w | none => True) ∧ Deps md ops T u w r

theorem deps_mk {T : Nat → Value → World → Prop} {u : Nat → Value} {w : World} : ∀ (l : List Edge), (∀ e ∈ l, Region.binds md e = true → ∀ oe, ops[e.on]? = some oe → T e.on (uAt u oe.dst) w) → Deps md ops T u w l
  | [], _ => trivial
  | e :: r, h => ⟨fun hb => by
      split
      · rename_i oe ho; exact h e (List.mem_cons_self ..) hb oe ho
      · trivial, deps_mk r fun e' he' => h e' (List.mem_cons_of_mem _ he')⟩

def Step (P : Program) (md : Region.Mode) (ops : Array Oper) (Q : Exit → Act → World → Prop) (T : Nat → Value → World → Prop) (R : World → World → Prop) (a : Act) (w : World) (i : Nat) (o : Oper) : Prop :=
  ∀ (u : Nat → Value) (w1 : World), R w w1 → Deps md ops T u w1 o.after.toList → ∀ K : Act → World → Prop,
    (∀ v w', T i v w' → R w1 w' → K ((fill ops a u).put o.dst v) w') →
    if Region.wanted o (yielded ops (fill ops a u).tmps) = true then o.wp P (fill ops a u) w1 K Q else K ((fill ops a u).put o.dst undef) w1
def Steps (P : Program) (md : Region.Mode) (ops : Array Oper) (Q : Exit → Act → World → Prop) (T : Nat → Value → World → Prop) (R : World → World → Prop) (a : Act) (w : World) : Nat → List Oper → Prop
  | _, [] => True
  | k, o :: r => Step P md ops Q T R a w k o ∧ Steps P md ops Q T R a w (k + 1) r

theorem steps_at {T : Nat → Value → World → Prop} {R : World → World → Prop} {a : Act} {w : World} : ∀ (l : List Oper) (k i : Nat) (o : Oper), l[i]? = some o → Steps P md ops Q T R a w k l → Step P md ops Q T R a w (k + i) o
  | [], _, _, _, h, _ => by simp at h
  | x :: r, k, 0, o, h, hs => by
    obtain rfl : x = o := by simpa using h
    exact hs.1
  | x :: r, k, i + 1, o, h, hs => by
    have := steps_at r (k + 1) i o (by simpa using h) hs.2
    rwa [show k + 1 + i = k + (i + 1) by omega] at this

/-- the checks that the kernel makes: own slots, pairwise other, in the frame; edges lead backwards -/
def fits (md : Region.Mode) (ops : Array Oper) (n : Nat) : Bool :=
  decide ((ops.toList.map (·.dst)).Nodup) && ops.toList.all (fun o => match o.dst with | some s => decide (s < n) | none => true) &&
    ops.toList.zipIdx.all fun x => x.1.after.toList.all fun e => !Region.binds md e || decide (e.on < x.2)

structure Inv (ops : Array Oper) (T : Nat → Value → World → Prop) (R : World → World → Prop) (a : Act) (w : World) (listed : Array Bool) (a1 : Act) (w1 : World) : Prop where
  size : listed.size = ops.size
  defers : a1.defers = a.defers
  tmps : a1.tmps.size = a.tmps.size
  other : ∀ s, (∀ o ∈ ops.toList, o.dst ≠ some s) → a1.tmps[s]? = a.tmps[s]?
  grow : R w w1
  done : ∀ (j : Nat) (o : Oper), ops[j]? = some o → listed.getD j false = true → T j (uAt (fun s => a1.tmps.getD s undef) o.dst) w1

theorem Inv.fill_eq {T : Nat → Value → World → Prop} {R : World → World → Prop} {a a1 : Act} {w w1 : World} {listed : Array Bool} (h : Inv ops T R a w listed a1 w1) : a1 = fill ops a (fun s => a1.tmps.getD s undef) := by
  obtain ⟨_, hd, ht, ho, _, _⟩ := h
  obtain ⟨t1, d1⟩ := a1
  obtain ⟨t, d⟩ := a
  simp only at hd ht ho
  subst hd
  unfold fill
  congr 1
  apply Array.ext
  · rw [fillL_size, ht]
  · intro s h1 h2
    have hs : s < t.size := by omega
    have e := fillL_get (fun s => t1.getD s undef) (ops.toList.map (·.dst)) t s hs
    simp only at e ⊢
    have e2 : t1[s]? = (fillL (fun s => t1.getD s undef) (ops.toList.map (·.dst)) t)[s]? := by
      rw [e]
      split
      · simp [h1]
      · rename_i hn
        exact ho s fun o hom hds => hn (List.mem_map.2 ⟨o, hom, hds⟩)
    rw [Array.getElem?_eq_getElem h1, Array.getElem?_eq_getElem h2] at e2
    exact Option.some.inj e2

def unlisted (ops : Array Oper) (listed : Array Bool) : Nat := ((List.range ops.size).filter fun i => !listed.getD i true).length

theorem filter_lt {l : List Nat} {p q : Nat → Bool} {i : Nat} (hi : i ∈ l) (hp : p i = true) (hq : q i = false) (h : ∀ j, q j = true → p j = true) : (l.filter q).length < (l.filter p).length := by
  induction l with
  | nil => simp at hi
  | cons x l ih =>
    rcases List.mem_cons.1 hi with rfl | hi'
    · rw [List.filter_cons_of_pos hp, List.filter_cons_of_neg (by rw [hq]; decide), List.length_cons]
      have : (l.filter q).length ≤ (l.filter p).length := by
        clear ih hi
        induction l with
        | nil => simp
        | cons y l ih2 =>
          by_cases hy : q y = true
          · rw [List.filter_cons_of_pos hy, List.filter_cons_of_pos (h y hy), List.length_cons, List.length_cons]; omega
          · rw [List.filter_cons_of_neg hy]
            by_cases hy2 : p y = true
            · rw [List.filter_cons_of_pos hy2, List.length_cons]; omega
            · rw [List.filter_cons_of_neg hy2]; exact ih2
      omega
    · have := ih hi'
      by_cases hx : q x = true
      · rw [List.filter_cons_of_pos hx, List.filter_cons_of_pos (h x hx), List.length_cons, List.length_cons]; omega
      · rw [List.filter_cons_of_neg hx]
        by_cases hx2 : p x = true
        · rw [List.filter_cons_of_pos hx2, List.length_cons]; omega
        · rw [List.filter_cons_of_neg hx2]; exact this

theorem all_listed {listed : Array Bool} (hsz : listed.size = ops.size) (hb : ∀ (i : Nat) (o : Oper), ops[i]? = some o → ∀ e ∈ o.after, Region.binds md e = true → e.on < i) (h : Region.ready md ops listed = []) :
    ∀ n, n ≤ ops.size → ∀ j, j < n → listed.getD j false = true := by
  intro n
  induction n with
  | zero => intro _ j hj; omega
  | succ n ih =>
    intro hn j hj
    rcases Nat.lt_or_ge j n with h1 | h1
    · exact ih (by omega) j h1
    · obtain rfl : j = n := by omega
      cases hl : listed.getD j true with
      | true =>
        rw [Array.getD_eq_getD_getElem?, Array.getElem?_eq_getElem (by omega)] at hl ⊢
        exact hl
      | false =>
        exfalso
        have hm : j ∈ Region.ready md ops listed := by
          rw [mem_ready]
          refine ⟨hl, ops[j], Array.getElem?_eq_getElem (by omega), fun e he hbd => ?_⟩
          exact ih (by omega) e.on (hb j _ (Array.getElem?_eq_getElem (by omega)) e he hbd)
        rw [h] at hm
        cases hm

theorem wpAny_asserted {T : Nat → Value → World → Prop} {R : World → World → Prop} {a : Act} {w : World}
    (hRt : ∀ x y z, R x y → R y z → R x z) (hT : ∀ j v x y, R x y → T j v x → T j v y) (h0 : ∀ j (o : Oper) v x, ops[j]? = some o → o.dst = none → T j v x → T j undef x)
    (hf : fits md ops a.tmps.size = true) (hs : Steps P md ops Q T R a w 0 ops.toList)
    (hQ : ∀ a1 w1, Inv ops T R a w (Array.replicate ops.size true) a1 w1 → Q .normal a1 w1) :
    ∀ (fuel : Nat) (listed : Array Bool) (a1 : Act) (w1 : World), unlisted ops listed ≤ fuel → Inv ops T R a w listed a1 w1 → wpAny P md ops Q fuel listed a1 w1 := by
  unfold fits at hf
  simp only [Bool.and_eq_true, decide_eq_true_eq] at hf
  obtain ⟨⟨hnd, hds⟩, hed⟩ := hf
  have hb : ∀ (i : Nat) (o : Oper), ops[i]? = some o → ∀ e ∈ o.after, Region.binds md e = true → e.on < i := by
    intro i o ho e he hbd
    have hz : (o, i) ∈ ops.toList.zipIdx := List.mk_mem_zipIdx_iff_getElem?.2 (by simpa using ho)
    have h1 := List.all_eq_true.1 hed _ hz
    have h2 := List.all_eq_true.1 h1 e (Array.mem_toList_iff.2 he)
    rw [hbd] at h2
    simpa using h2
  have hmem : ∀ (i : Nat) (o : Oper), ops[i]? = some o → o ∈ ops.toList := fun i o ho => by
    rw [Array.mem_toList_iff]
    exact Array.mem_of_getElem? ho
  have hdst : ∀ (i : Nat) (o : Oper) (s : Nat), ops[i]? = some o → o.dst = some s → s < a.tmps.size := by
    intro i o s ho hd
    have h1 := List.all_eq_true.1 hds o (hmem i o ho)
    rw [hd] at h1
    simpa using h1
  have hne : ∀ (i j : Nat) (o o' : Oper), ops[i]? = some o → ops[j]? = some o' → i ≠ j → o.dst ≠ o'.dst := by
    intro i j o o' hi hj hij e
    have h1 : (ops.toList.map (·.dst))[i]? = some o.dst := by rw [List.getElem?_map]; simp [hi]
    have h2 : (ops.toList.map (·.dst))[j]? = some o.dst := by rw [List.getElem?_map, e]; simp [hj]
    have hi2 := (List.getElem?_eq_some_iff.1 h1)
    have hj2 := (List.getElem?_eq_some_iff.1 h2)
    obtain ⟨l1, e1⟩ := hi2
    obtain ⟨l2, e2⟩ := hj2
    have hp := List.pairwise_iff_getElem.1 hnd
    rcases Nat.lt_or_gt_of_ne hij with hlt | hlt
    · exact hp i j l1 l2 hlt (e1.trans e2.symm)
    · exact hp j i l2 l1 hlt (e2.trans e1.symm)
  have hfin : ∀ (listed : Array Bool) (a1 : Act) (w1 : World), Inv ops T R a w listed a1 w1 → Region.ready md ops listed = [] → Q .normal a1 w1 := by
    intro listed a1 w1 hi hr
    have hall := all_listed hi.size hb hr ops.size (Nat.le_refl _)
    exact hQ a1 w1 ⟨by simp, hi.defers, hi.tmps, hi.other, hi.grow, fun j o ho _ => hi.done j o ho (hall j (Array.getElem?_eq_some_iff.1 ho).1)⟩
  have hstep : ∀ (i : Nat) (listed : Array Bool) (a1 : Act) (w1 : World) (K : Act → World → Prop), Inv ops T R a w listed a1 w1 → i ∈ Region.ready md ops listed →
      (∀ a2 w2, Inv ops T R a w (listed.setIfInBounds i true) a2 w2 → K a2 w2) → wpOp P ops Q i K a1 w1 := by
    intro i listed a1 w1 K hi hr hK
    obtain ⟨hun, o, ho, hdeps⟩ := mem_ready.1 hr
    have hst := steps_at ops.toList 0 i o (by simpa using ho) hs
    rw [Nat.zero_add] at hst
    have hst2 := hst (fun s => a1.tmps.getD s undef) w1 hi.grow (deps_mk _ fun e he hbd oe hoe => hi.done e.on oe hoe (hdeps e (Array.mem_toList_iff.1 he) hbd)) K
    rw [← hi.fill_eq] at hst2
    have hnext : ∀ v w', T i v w' → R w1 w' → K (a1.put o.dst v) w' := by
      intro v w' ht hg
      cases hd : o.dst with
      | none =>
        refine hK _ _ ⟨by simpa using hi.size, hi.defers, hi.tmps, hi.other, hRt _ _ _ hi.grow hg, ?_⟩
        intro j o' ho' hl
        by_cases hij : j = i
        · subst hij
          obtain rfl : o' = o := by rw [ho] at ho'; exact (Option.some.inj ho').symm
          rw [hd]
          exact h0 _ _ _ _ ho hd ht
        · rw [getD_set_ne false (Ne.symm hij)] at hl
          exact hT j _ _ _ hg (hi.done j o' ho' hl)
      | some s =>
        have hs2 := hdst i o s ho hd
        have hself : (a1.tmps.setIfInBounds s v).getD s undef = v := by
          rw [Array.getD_eq_getD_getElem?]
          simp [hi.tmps, hs2]
        refine hK _ _ ⟨by simpa using hi.size, hi.defers, by simpa [Act.put] using hi.tmps, ?_, hRt _ _ _ hi.grow hg, ?_⟩
        · intro s' hs'
          have hss : s ≠ s' := fun e => hs' o (hmem i o ho) (by rw [hd, e])
          show (a1.tmps.setIfInBounds s v)[s']? = _
          rw [Array.getElem?_setIfInBounds_ne hss]
          exact hi.other s' hs'
        · intro j o' ho' hl
          by_cases hij : j = i
          · subst hij
            obtain rfl : o' = o := by rw [ho] at ho'; exact (Option.some.inj ho').symm
            rw [hd]
            show T j ((a1.tmps.setIfInBounds s v).getD s undef) w'
            rw [hself]
            exact ht
          · rw [getD_set_ne false (Ne.symm hij)] at hl
            have h1 := hT j _ _ _ hg (hi.done j o' ho' hl)
            cases hd' : o'.dst with
            | none => rw [hd'] at h1; exact h1
            | some s' =>
              have hss : s ≠ s' := by
                have := hne i j o o' ho ho' (Ne.symm hij)
                rw [hd, hd'] at this
                exact fun e => this (by rw [e])
              rw [hd'] at h1
              show T j ((a1.tmps.setIfInBounds s v).getD s' undef) w'
              rw [show (a1.tmps.setIfInBounds s v).getD s' undef = a1.tmps.getD s' undef from by
                rw [Array.getD_eq_getD_getElem?, Array.getD_eq_getD_getElem?, Array.getElem?_setIfInBounds_ne hss]]
              exact h1
    have hst3 := hst2 hnext
    unfold wpOp
    rw [ho]
    simp only
    by_cases hw : Region.wanted o (yielded ops a1.tmps) = true
    · rw [if_pos hw] at hst3
      rw [if_pos hw]
      exact .inl hst3
    · rw [if_neg hw] at hst3
      rw [if_neg hw]
      exact hst3
  intro fuel
  induction fuel with
  | zero =>
    intro listed a1 w1 hu hi
    have hr : Region.ready md ops listed = [] := by
      rcases hl : Region.ready md ops listed with _ | ⟨i, r⟩
      · rfl
      · exfalso
        have hm : i ∈ Region.ready md ops listed := by rw [hl]; exact List.mem_cons_self ..
        obtain ⟨hun, o, ho, _⟩ := mem_ready.1 hm
        have hmem : i ∈ (List.range ops.size).filter fun i => !listed.getD i true := by
          rw [List.mem_filter]
          exact ⟨List.mem_range.2 (Array.getElem?_eq_some_iff.1 ho).1, by rw [hun]; rfl⟩
        have := List.length_pos_of_mem hmem
        unfold unlisted at hu
        omega
    exact ⟨hr, hfin listed a1 w1 hi hr⟩
  | succ fuel ih =>
    intro listed a1 w1 hu hi
    refine ⟨fun hr => hfin listed a1 w1 hi hr, fun i hr => hstep i listed a1 w1 _ hi hr fun a2 w2 hi2 => ih _ a2 w2 ?_ hi2⟩
    obtain ⟨hun, o, ho, _⟩ := mem_ready.1 hr
    have hlt : i < ops.size := (Array.getElem?_eq_some_iff.1 ho).1
    have := filter_lt (l := List.range ops.size) (p := fun i => !listed.getD i true) (q := fun j => !(listed.setIfInBounds i true).getD j true) (i := i) (List.mem_range.2 hlt)
      (by rw [hun]; rfl) (by rw [Array.getD_eq_getD_getElem?]; simp [hi.size, hlt]) (by
        intro j hj
        by_cases e : i = j
        · subst e
          rw [Array.getD_eq_getD_getElem?] at hj
          simp [hi.size, hlt] at hj
        · rwa [getD_set_ne true e] at hj)
    unfold unlisted at hu ⊢
    omega

/-- THE LAW: a statement that draws its order, by assertions. -/
theorem wp_region_asserted {id : Nat} {a : Act} {w : World} {T : Nat → Value → World → Prop} {R : World → World → Prop} (hm : P.follows .mixedOrders = true)
    (hRr : R w.drew w.drew) (hRt : ∀ x y z, R x y → R y z → R x z) (hT : ∀ j v x y, R x y → T j v x → T j v y) (h0 : ∀ j (o : Oper) v x, ops[j]? = some o → o.dst = none → T j v x → T j undef x)
    (hf : fits .any ops a.tmps.size = true) (hs : Steps P .any ops Q T R a w.drew 0 ops.toList)
    (hQ : ∀ u w1, R w.drew w1 → (∀ (j : Nat) (o : Oper), ops[j]? = some o → T j (uAt u o.dst) w1) → Q .normal (fill ops a u) w1) :
    (Code.region id ops true).wp P Q a w := by
  refine wp_region_any hm (wpAny_asserted (T := T) (R := R) (a := a) (w := w.drew) hRt hT h0 hf hs ?_ _ _ _ _ ?_ ?_)
  · intro a1 w1 hi
    rw [hi.fill_eq]
    exact hQ _ w1 hi.grow fun j o ho => hi.done j o ho (by
      have := (Array.getElem?_eq_some_iff.1 ho).1
      rw [Array.getD_eq_getD_getElem?]
      simp [this])
  · unfold unlisted
    have := List.length_filter_le (fun i => !(Array.replicate ops.size false).getD i true) (List.range ops.size)
    simpa using this
  · exact ⟨by simp, rfl, rfl, fun _ _ => rfl, hRr, fun j o ho h => by
      have := (Array.getElem?_eq_some_iff.1 ho).1
      rw [Array.getD_eq_getD_getElem?] at h
      simp [this] at h⟩
/-! ### the same with what each operation hangs on, and its guard's slot, written out -/
structure Plan where
  ds : List (Nat × Option Tmp)
  gd : Option (Nat × Bool)
def planOne (ops : Array Oper) (o : Oper) (p : Plan) : Bool :=
  p.ds.all (fun x => (o.after.toList.any fun e => Region.binds .any e && e.on == x.1) && (match ops[x.1]? with
    | some oe => oe.dst == x.2
    | none => false)) &&
    (match o.guard with
     | none => p.gd.isNone
     | some (j, b) => match (ops[j]?).bind (·.dst) with
       | some s => p.gd == some (s, b)
       | none => false)
def planAll (ops : Array Oper) (ps : List Plan) : Bool := ps.length == ops.size && (ops.toList.zip ps).all fun x => planOne ops x.1 x.2
def DepsS (T : Nat → Value → World → Prop) (u : Nat → Value) (w : World) : List (Nat × Option Tmp) → Prop
  | [] => True
  | x :: r => T x.1 (uAt u x.2) w ∧ DepsS T u w r
def StepS (P : Program) (Q : Exit → Act → World → Prop) (T : Nat → Value → World → Prop) (R : World → World → Prop) (ws : List (Option Tmp)) (a : Act) (w : World) (i : Nat) (p : Plan) (o : Oper) : Prop :=
  ∀ (u : Nat → Value) (w1 : World), R w w1 → DepsS T u w1 p.ds → ∀ K : Act → World → Prop,
    (∀ v w', T i v w' → R w1 w' → K (({ tmps := fillL u ws a.tmps, defers := a.defers } : Act).put o.dst v) w') →
    match p.gd with
    | none => o.wp P { tmps := fillL u ws a.tmps, defers := a.defers } w1 K Q
    | some (s, b) => (u s = .bool b ∧ o.wp P { tmps := fillL u ws a.tmps, defers := a.defers } w1 K Q) ∨
      (u s = .bool (!b) ∧ K (({ tmps := fillL u ws a.tmps, defers := a.defers } : Act).put o.dst undef) w1)
def StepsS (P : Program) (Q : Exit → Act → World → Prop) (T : Nat → Value → World → Prop) (R : World → World → Prop) (ws : List (Option Tmp)) (a : Act) (w : World) : Nat → List Plan → List Oper → Prop
  | i, p :: ps, o :: r => StepS P Q T R ws a w i p o ∧ StepsS P Q T R ws a w (i + 1) ps r
  | _, _, _ => True
def AllS (T : Nat → Value → World → Prop) (u : Nat → Value) (w : World) : Nat → List (Option Tmp) → Prop
  | _, [] => True
  | i, d :: r => T i (uAt u d) w ∧ AllS T u w (i + 1) r
theorem depsS_of {T : Nat → Value → World → Prop} {u : Nat → Value} {w : World} : ∀ (l : List (Nat × Option Tmp)), (∀ x ∈ l, T x.1 (uAt u x.2) w) → DepsS T u w l
  | [], _ => trivial
  | x :: r, h => ⟨h x (List.mem_cons_self ..), depsS_of r fun y hy => h y (List.mem_cons_of_mem _ hy)⟩
theorem allS_of {T : Nat → Value → World → Prop} {u : Nat → Value} {w : World} : ∀ (l : List (Option Tmp)) (i : Nat), (∀ k d, l[k]? = some d → T (i + k) (uAt u d) w) → AllS T u w i l
  | [], _, _ => trivial
  | d :: r, i, h => ⟨h 0 d rfl, allS_of r (i + 1) fun k d' hk => by have := h (k + 1) d' (by simpa using hk); rwa [show i + (k + 1) = i + 1 + k by omega] at this⟩
theorem deps_at {T : Nat → Value → World → Prop} {u : Nat → Value} {w : World} : ∀ (l : List Edge), Deps md ops T u w l → ∀ e ∈ l, Region.binds md e = true → ∀ oe, ops[e.on]? = some oe → T e.on (uAt u oe.dst) w
  | [], _, e, he, _, _, _ => by cases he
  | x :: r, h, e, he, hb, oe, hoe => by
    rcases List.mem_cons.1 he with rfl | he'
    · have := h.1 hb
      rw [hoe] at this
      exact this
    · exact deps_at r h.2 e he' hb oe hoe
theorem steps_of_planned {T : Nat → Value → World → Prop} {R : World → World → Prop} {ws : List (Option Tmp)} {a : Act} {w : World} (hws : ops.toList.map (·.dst) = ws) (hn : fits .any ops a.tmps.size = true) :
    ∀ (ps : List Plan) (l : List Oper) (k : Nat), (∀ j, l[j]? = ops[k + j]?) → ps.length = l.length → ((l.zip ps).all fun x => planOne ops x.1 x.2) = true → StepsS P Q T R ws a w k ps l →
      Steps P .any ops Q T R a w k l
  | _, [], _, _, _, _, _ => trivial
  | [], _ :: _, _, _, h, _, _ => by simp at h
  | p :: ps, o :: r, k, hl, hlen, hall, hs => by
    have ho : ops[k]? = some o := by simpa using (hl 0).symm
    simp only [List.zip_cons_cons, List.all_cons, Bool.and_eq_true] at hall
    refine ⟨?_, steps_of_planned hws hn ps r (k + 1) (fun j => by have := hl (j + 1); simpa [Nat.add_assoc, Nat.add_comm 1 j] using this) (by simpa using hlen) hall.2 hs.2⟩
    intro u w1 hg hd K hK
    have hfill : fill ops a u = { tmps := fillL u ws a.tmps, defers := a.defers } := by
      unfold fill
      rw [hws]
    rw [hfill] at hK ⊢
    have hp := hall.1
    unfold planOne at hp
    rw [Bool.and_eq_true] at hp
    have hdeps : DepsS T u w1 p.ds := depsS_of _ fun x hx => by
      have h1 := List.all_eq_true.1 hp.1 x hx
      rw [Bool.and_eq_true] at h1
      obtain ⟨e, he, hee⟩ := List.any_eq_true.1 h1.1
      rw [Bool.and_eq_true, beq_iff_eq] at hee
      have h2 := h1.2
      rw [← hee.2] at h2 ⊢
      cases hoe : ops[e.on]? with
      | none => rw [hoe] at h2; cases h2
      | some oe =>
        rw [hoe] at h2
        have h3 : oe.dst = x.2 := by simpa using h2
        have := deps_at _ hd e he hee.1 oe hoe
        rwa [h3] at this
    have hst := hs.1 u w1 hg hdeps K hK
    have hget : ∀ (j s : Nat), (ops[j]?).bind (·.dst) = some s → (fillL u ws a.tmps)[s]? = some (u s) := by
      intro j s hj
      obtain ⟨oe, hoe, hds⟩ := Option.bind_eq_some_iff.1 hj
      have hm : oe ∈ ops.toList := by rw [Array.mem_toList_iff]; exact Array.mem_of_getElem? hoe
      unfold fits at hn
      simp only [Bool.and_eq_true] at hn
      have h1 := List.all_eq_true.1 hn.1.2 oe hm
      rw [hds] at h1
      rw [fillL_get u _ _ s (by simpa using h1), if_pos]
      rw [← hws]
      exact List.mem_map.2 ⟨oe, hm, hds⟩
    cases hgd : o.guard with
    | none =>
      rw [hgd] at hp
      have hpn : p.gd = none := by simpa using hp.2
      rw [hpn] at hst
      rw [if_pos (by simp [Region.wanted, hgd])]
      exact hst
    | some jb =>
      obtain ⟨j, b⟩ := jb
      rw [hgd] at hp
      simp only at hp
      cases hsj : (ops[j]?).bind (·.dst) with
      | none => rw [hsj] at hp; simp at hp
      | some s =>
        rw [hsj] at hp
        have hpg : p.gd = some (s, b) := by simpa using hp.2
        rw [hpg] at hst
        have hy : yielded ops (fillL u ws a.tmps) j = match u s with | .bool b => some b | _ => none := by
          unfold yielded
          rw [hsj, Option.bind_some, hget j s hsj]
          cases u s <;> rfl
        rcases hst with ⟨hu, hst⟩ | ⟨hu, hst⟩
        · rw [if_pos (by simp only [Region.wanted, hgd, hy, hu]; simp)]
          exact hst
        · rw [if_neg (by simp only [Region.wanted, hgd, hy, hu]; cases b <;> simp)]
          exact hst
/-- THE LAW, written out: the claims go by the operations' numbers -/
theorem wp_region_planned {id : Nat} {a : Act} {w : World} {T : Nat → Value → World → Prop} {R : World → World → Prop} (ws : List (Option Tmp)) (ps : List Plan) (hm : P.follows .mixedOrders = true)
    (hRr : R w.drew w.drew) (hRt : ∀ x y z, R x y → R y z → R x z) (hT : ∀ j v x y, R x y → T j v x → T j v y) (h0 : ∀ j (o : Oper) v x, ops[j]? = some o → o.dst = none → T j v x → T j undef x)
    (hf : fits .any ops a.tmps.size = true) (hws : ops.toList.map (·.dst) = ws) (hp : planAll ops ps = true) (hs : StepsS P Q T R ws a w.drew 0 ps ops.toList)
    (hQ : ∀ u w1, R w.drew w1 → AllS T u w1 0 ws → Q .normal { tmps := fillL u ws a.tmps, defers := a.defers } w1) :
    (Code.region id ops true).wp P Q a w := by
  unfold planAll at hp
  rw [Bool.and_eq_true, beq_iff_eq] at hp
  refine wp_region_asserted (T := T) (R := R) hm hRr hRt hT h0 hf (steps_of_planned hws hf ps ops.toList 0 (fun j => by simp) (by simpa using hp.1) hp.2 hs) ?_
  intro u w1 hg hall
  have hfill : fill ops a u = { tmps := fillL u ws a.tmps, defers := a.defers } := by
    unfold fill
    rw [hws]
  rw [hfill]
  refine hQ u w1 hg (allS_of ws 0 fun k d hk => ?_)
  rw [← hws, List.getElem?_map] at hk
  obtain ⟨o, ho, rfl⟩ := Option.map_eq_some_iff.1 hk
  rw [Nat.zero_add]
  exact hall k o (by simpa using ho)
end
end Go.Proofs.YtnadgcgnediakaaGreatDoor.Open
