/- A region whose operations may be carried out in more than one order: shown operation by operation, each on what it hangs on. -/
import Derived.Test.YtjfeeampcgmngaaBase
import Derived.Orders
namespace Go.Proofs.Ytjfeeampcgmngaa
open Go.RowKit

section
variable {P : Program} {ops : Array Oper} {Q : Exit → Act → World → Prop}

/-- All that operation i hangs on, straight or through others. -/
def hangs (ops : Array Oper) : Nat → Nat → List Nat
  | 0, _ => []
  | n + 1, i => (((ops[i]?).map (·.after.toList)).getD []).flatMap fun e => if Region.binds .any e then e.on :: hangs ops n e.on else []
/-- Each edge goes back. -/
def goesBack (ops : Array Oper) : Bool := (List.range ops.size).all fun i => (((ops[i]?).map (·.after.toList)).getD []).all fun e => !Region.binds .any e || decide (e.on < i)

def Closed (ops : Array Oper) (l : Array Bool) : Prop := ∀ i o e, ops[i]? = some o → l.getD i false = true → e ∈ o.after → Region.binds .any e = true → l.getD e.on false = true

theorem closed_hangs {l : Array Bool} (hc : Closed ops l) : ∀ (n i : Nat), (∀ o e, ops[i]? = some o → e ∈ o.after → Region.binds .any e = true → l.getD e.on false = true) → ∀ j ∈ hangs ops n i, l.getD j false = true
  | 0, _, _, j, hj => by simp [hangs] at hj
  | n + 1, i, h, j, hj => by
    unfold hangs at hj
    obtain ⟨e, he, hj⟩ := List.mem_flatMap.1 hj
    cases ho : ops[i]? with
    | none => rw [ho] at he; simp at he
    | some o =>
      rw [ho] at he
      simp at he
      by_cases hb : Region.binds .any e = true
      · rw [if_pos hb] at hj
        have h1 := h o e ho he hb
        rcases List.mem_cons.1 hj with rfl | hj
        · exact h1
        · exact closed_hangs hc n e.on (fun o' e' ho' he' hb' => hc e.on o' e' ho' h1 he' hb') j hj
      · rw [if_neg hb] at hj
        cases hj

theorem Oper.wp_weak {o : Oper} {a : Act} {w : World} {K : Act → World → Prop} (hh : o.wp P a w K (fun _ _ _ => False)) : o.wp P a w K Q := by
  unfold Oper.wp at *
  generalize (execOp a.eval o).run P w = r at *
  cases r with
  | ok n w' =>
    cases n <;> simp only [Oper.upon] at hh ⊢ <;>
      first
        | exact hh
        | exact Calls.mono hh (fun e w'' he => by
            cases e with
            | returned v => exact he
            | panicked c => exact he.elim
            | outgrown => obtain ⟨_, _, h⟩ := he; exact h.elim)
  | halt x w' => cases x <;> simp only [Oper.upon] at hh <;> exact hh.elim

theorem wpOp_weak {i : Nat} {a : Act} {w : World} {K K' : Act → World → Prop} (h : ∀ a w, K a w → K' a w) (hh : wpOp P ops (fun _ _ _ => False) i K a w) : wpOp P ops Q i K' a w := by
  refine wpOp_mono h ?_
  unfold wpOp at *
  split
  · simpa [*] using hh
  · rename_i o ho
    simp only [ho] at hh
    split
    · rename_i hw
      simp only [hw, if_true] at hh
      rcases hh with hh | ⟨_, _, _, hh⟩
      · exact .inl (Oper.wp_weak hh)
      · exact hh.elim
    · rename_i hw
      simp only [hw] at hh
      exact hh

/-- What holds when some of the operations have been carried out. -/
def RegAt (ops : Array Oper) (fr : (Nat → Value) → Act) (R : Nat → Value → World → Prop) (Inv : World → Prop) (l : Array Bool) (a : Act) (w : World) : Prop :=
  l.size = ops.size ∧ Closed ops l ∧ ∃ u, a = fr u ∧ (∀ j, l.getD j false = true → R j (u j) w) ∧ Inv w

def setAt (u : Nat → Value) (i : Nat) (v : Value) : Nat → Value := fun k => if k = i then v else u k

def unlisted (l : Array Bool) : Nat := l.toList.countP (! ·)

theorem unlisted_set {l : Array Bool} {i : Nat} (hi : i < l.size) (h : l.getD i false = false) : unlisted (l.setIfInBounds i true) + 1 = unlisted l := by
  unfold unlisted
  obtain ⟨l⟩ := l
  simp at hi h ⊢
  induction l generalizing i with
  | nil => simp at hi
  | cons x l ih =>
    cases i with
    | zero =>
      simp at h
      subst h
      simp
    | succ i =>
      simp at hi h ⊢
      have := ih hi h
      rw [List.countP_cons, List.countP_cons]
      omega

theorem wpAny_reg (hback : goesBack ops = true) (fr : (Nat → Value) → Act) (R : Nat → Value → World → Prop) (Inv : World → Prop)
    (hstep : ∀ i, i < ops.size → ∀ u w, (∀ j ∈ hangs ops ops.size i, R j (u j) w) → Inv w →
      wpOp P ops (fun _ _ _ => False) i (fun a' w' => ∃ v, a' = fr (setAt u i v) ∧ R i v w' ∧ Inv w' ∧ ∀ j x, R j x w → R j x w') (fr u) w)
    (hend : ∀ u w, (∀ j, j < ops.size → R j (u j) w) → Inv w → Q .normal (fr u) w) :
    ∀ (n : Nat) (l : Array Bool) (a : Act) (w : World), unlisted l = n → RegAt ops fr R Inv l a w → wpAny P .any ops Q n l a w := by
  have hb' : ∀ i o e, ops[i]? = some o → e ∈ o.after → Region.binds .any e = true → e.on < i := by
    intro i o e ho he hb
    unfold goesBack at hback
    have hi : i < ops.size := (Array.getElem?_eq_some_iff.1 ho).1
    have h1 := List.all_eq_true.1 hback i (List.mem_range.2 hi)
    rw [ho] at h1
    have h2 := List.all_eq_true.1 h1 e (by simpa using he)
    simpa [hb] using h2
  -- where nothing is ready, all is listed
  have hall : ∀ l : Array Bool, l.size = ops.size → Region.ready .any ops l = [] → ∀ j, j < ops.size → l.getD j false = true := by
    intro l hl hr j
    induction j using Nat.strongRecOn with
    | _ j ih =>
      intro hj
      cases hlj : l.getD j false with
      | true => rfl
      | false =>
        exfalso
        have hm : j ∈ Region.ready .any ops l := by
          unfold Region.ready
          refine List.mem_filter.2 ⟨List.mem_range.2 hj, ?_⟩
          have e1 : l.getD j true = false := by
            have hjl : j < l.size := by omega
            simp [hjl] at hlj ⊢
            exact hlj
          rw [e1, Array.getElem?_eq_getElem hj]
          simp only [Bool.not_false, Option.map_some, Option.getD_some, Bool.true_and]
          rw [Array.all_eq_true']
          intro e he
          by_cases hb : Region.binds .any e = true
          · have hlt := hb' j ops[j] e (Array.getElem?_eq_getElem hj) he hb
            have := ih e.on hlt (by omega)
            simp [this]
          · simp [hb]
        rw [hr] at hm
        cases hm
  intro n
  induction n with
  | zero =>
    intro l a w hn h
    obtain ⟨hl, hc, u, rfl, hR, hI⟩ := h
    have hal : ∀ j, j < ops.size → l.getD j false = true := by
      intro j hj
      have hjl : j < l.size := by omega
      cases hlj : l.getD j false with
      | true => rfl
      | false => have := unlisted_set hjl hlj; omega
    refine ⟨?_, hend u w (fun j hj => hR j (hal j hj)) hI⟩
    unfold Region.ready
    refine List.filter_eq_nil_iff.2 fun i hi => ?_
    have hi' := List.mem_range.1 hi
    have h1 := hal i hi'
    have hil : i < l.size := by omega
    simp [hil] at h1 ⊢
    intro h2
    rw [h1] at h2
    cases h2
  | succ n ih =>
    intro l a w hn h
    obtain ⟨hl, hc, u, rfl, hR, hI⟩ := h
    refine ⟨fun hr => hend u w (fun j hj => hR j (hall l hl hr j hj)) hI, fun i hi => ?_⟩
    unfold Region.ready at hi
    obtain ⟨hi1, hi2⟩ := List.mem_filter.1 hi
    have hi' := List.mem_range.1 hi1
    have hil : i < l.size := by omega
    rw [Array.getElem?_eq_getElem hi'] at hi2
    simp only [Bool.and_eq_true, Bool.not_eq_true', Option.map_some, Option.getD_some, Array.all_eq_true'] at hi2
    obtain ⟨hli, hdep⟩ := hi2
    have hli' : l.getD i false = false := by
      simp [hil] at hli ⊢
      exact hli
    have hdep' : ∀ o e, ops[i]? = some o → e ∈ o.after → Region.binds .any e = true → l.getD e.on false = true := by
      intro o e ho he hb
      rw [Array.getElem?_eq_getElem hi'] at ho
      cases ho
      have := hdep e he
      simpa [hb] using this
    refine wpOp_weak (fun a' w' hh => ?_) (hstep i hi' u w (fun j hj => hR j (closed_hangs hc _ _ hdep' j hj)) hI)
    obtain ⟨v, rfl, hRi, hI', hst⟩ := hh
    have hget : ∀ j, (l.setIfInBounds i true).getD j false = if j = i then true else l.getD j false := by
      intro j
      by_cases hji : j = i
      · subst hji; simp [hil]
      · rw [if_neg hji]
        simp only [Array.getD_eq_getD_getElem?, Array.getElem?_setIfInBounds_ne (Ne.symm hji)]
    refine ih _ _ _ (by have := unlisted_set hil hli'; omega) ⟨by simpa using hl, ?_, setAt u i v, rfl, ?_, hI'⟩
    · intro k o e ho hk he hb
      rw [hget] at hk ⊢
      split
      · rfl
      · split at hk
        · rename_i hki
          subst hki
          exact hdep' o e ho he hb
        · exact hc k o e ho hk he hb
    · intro j hj
      rw [hget] at hj
      unfold setAt
      split
      · rename_i hji
        subst hji
        exact hRi
      · rename_i hji
        rw [if_neg hji] at hj
        exact hst j _ (hR j hj)

theorem getD_replicate (n i : Nat) : (Array.replicate n false).getD i false = false := by
  rw [Array.getD_eq_getD_getElem?, Array.getElem?_replicate]
  split <;> rfl

/-- THE LAW: each operation, from whatever state in which all that it hangs on has been carried out. -/
theorem wp_region_ops {id : Nat} {a : Act} {w : World} (hm : P.follows .mixedOrders = true) (hback : goesBack ops = true) (fr : (Nat → Value) → Act) (R : Nat → Value → World → Prop) (Inv : World → Prop)
    (u0 : Nat → Value) (h0 : a = fr u0) (hI : Inv w.drew)
    (hstep : ∀ i, i < ops.size → ∀ u w, (∀ j ∈ hangs ops ops.size i, R j (u j) w) → Inv w →
      wpOp P ops (fun _ _ _ => False) i (fun a' w' => ∃ v, a' = fr (setAt u i v) ∧ R i v w' ∧ Inv w' ∧ ∀ j x, R j x w → R j x w') (fr u) w)
    (hend : ∀ u w, (∀ j, j < ops.size → R j (u j) w) → Inv w → Q .normal (fr u) w) : (Code.region id ops true).wp P Q a w := by
  refine wp_region_any hm ?_
  refine wpAny_reg hback fr R Inv hstep hend _ _ _ _ ?_ ⟨by simp, ?_, u0, h0, ?_, hI⟩
  · unfold unlisted
    rw [Array.toList_replicate, List.countP_replicate]
    simp
  · intro i o e ho hi
    rw [getD_replicate] at hi
    cases hi
  · intro j hj
    rw [getD_replicate] at hj
    cases hj

/-- A frame in which the k-th of these slots holds u k. -/
def fillL (u : Nat → Value) : Nat → List (Option Tmp) → Act → Act
  | _, [], a => a
  | k, d :: ds, a => fillL u (k + 1) ds (a.put d (u k))
def dsOf (ops : Array Oper) : List (Option Tmp) := ops.toList.map (·.dst)
theorem put_self (a : Act) (d : Option Tmp) : a.put d ((d.map fun t => a.tmps.getD t undef).getD undef) = a := by
  cases d with
  | none => rfl
  | some t =>
    simp only [Act.put, Option.map_some, Option.getD_some]
    obtain ⟨tm, df⟩ := a
    simp only [Act.mk.injEq, and_true]
    apply Array.ext_getElem?
    intro i
    by_cases hi : i = t
    · subst hi
      by_cases hl : i < tm.size
      · rw [Array.getElem?_setIfInBounds_self_of_lt hl]
        simp [hl]
      · rw [Array.getElem?_eq_none (by simpa using hl), Array.getElem?_eq_none (by simpa using hl)]
    · rw [Array.getElem?_setIfInBounds_ne (Ne.symm hi)]
theorem fill_self (a : Act) : ∀ (k : Nat) (ds : List (Option Tmp)) (u : Nat → Value), (∀ i d, ds[i]? = some d → u (k + i) = (d.map fun t => a.tmps.getD t undef).getD undef) → fillL u k ds a = a
  | _, [], _, _ => rfl
  | k, d :: ds, u, h => by
    unfold fillL
    have h0 := h 0 d rfl
    rw [Nat.add_zero] at h0
    rw [h0, put_self]
    exact fill_self a (k + 1) ds u fun i d' hi => by
      have := h (i + 1) d' (by simpa using hi)
      rw [← this]
      congr 1
      omega

/-- What is to be shown behind operation i. -/
def RegPost (ds : List (Option Tmp)) (a : Act) (R : Nat → Value → World → Prop) (Inv : World → Prop) (u : Nat → Value) (i : Nat) (w : World) (a' : Act) (w' : World) : Prop :=
  ∃ v, a' = fillL (setAt u i v) 0 ds a ∧ R i v w' ∧ Inv w' ∧ ∀ j x, R j x w → R j x w'
theorem RegPost.mk {ds : List (Option Tmp)} {a : Act} {R : Nat → Value → World → Prop} {Inv : World → Prop} {u : Nat → Value} {i : Nat} {w w' : World} {a' : Act} (v : Value) (h1 : a' = fillL (setAt u i v) 0 ds a) (h2 : R i v w') (h3 : Inv w') (h4 : ∀ j x, R j x w → R j x w') :
    RegPost ds a R Inv u i w a' w' := ⟨v, h1, h2, h3, h4⟩

theorem wp_region_fill {id : Nat} {a : Act} {w : World} (hm : P.follows .mixedOrders = true) (hback : goesBack ops = true) (ds : List (Option Tmp)) (hds : dsOf ops = ds) (R : Nat → Value → World → Prop) (Inv : World → Prop)
    (hI : Inv w.drew)
    (hstep : ∀ i, i < ds.length → ∀ u w, (∀ j, (hangs ops ops.size i).contains j = true → R j (u j) w) → Inv w →
      wpOp P ops (fun _ _ _ => False) i (RegPost ds a R Inv u i w) (fillL u 0 ds a) w)
    (hend : ∀ u w, (∀ j, j < ds.length → R j (u j) w) → Inv w → Q .normal (fillL u 0 ds a) w) : (Code.region id ops true).wp P Q a w := by
  have hlen : ds.length = ops.size := by rw [← hds]; simp [dsOf]
  refine wp_region_ops hm hback (fun u => fillL u 0 ds a) R Inv (fun i => (((ds[i]?).getD none).map fun t => a.tmps.getD t undef).getD undef) ?_ hI ?_ ?_
  · exact (fill_self a 0 ds _ fun i d hi => by rw [Nat.zero_add, hi]; rfl).symm
  · exact fun i hi u w' hu hinv => hstep i (by omega) u w' (fun j hj => hu j (by simpa using hj)) hinv
  · exact fun u w' hu hinv => hend u w' (fun j hj => hu j (by omega)) hinv

/-- What holds when some of the operations have been carried out; the facts may speak of several slots. -/
def RelAt (ops : Array Oper) (fr : (Nat → Value) → Act) (R : (Nat → Value) → Nat → World → Prop) (Inv : World → Prop) (l : Array Bool) (a : Act) (w : World) : Prop :=
  l.size = ops.size ∧ Closed ops l ∧ ∃ u, a = fr u ∧ (∀ j, l.getD j false = true → R u j w) ∧ Inv w

theorem wpAny_rel (hback : goesBack ops = true) (fr : (Nat → Value) → Act) (R : (Nat → Value) → Nat → World → Prop) (Inv : World → Prop)
    (hstep : ∀ i, i < ops.size → ∀ u w, (∀ j ∈ hangs ops ops.size i, R u j w) → Inv w →
      wpOp P ops (fun _ _ _ => False) i (fun a' w' => ∃ v, a' = fr (setAt u i v) ∧ R (setAt u i v) i w' ∧ Inv w' ∧ ∀ j, j < ops.size → j ≠ i → i ∉ hangs ops ops.size j → R u j w → R (setAt u i v) j w') (fr u) w)
    (hend : ∀ u w, (∀ j, j < ops.size → R u j w) → Inv w → Q .normal (fr u) w) :
    ∀ (n : Nat) (l : Array Bool) (a : Act) (w : World), unlisted l = n → RelAt ops fr R Inv l a w → wpAny P .any ops Q n l a w := by
  have hb' : ∀ i o e, ops[i]? = some o → e ∈ o.after → Region.binds .any e = true → e.on < i := by
    intro i o e ho he hb
    unfold goesBack at hback
    have hi : i < ops.size := (Array.getElem?_eq_some_iff.1 ho).1
    have h1 := List.all_eq_true.1 hback i (List.mem_range.2 hi)
    rw [ho] at h1
    have h2 := List.all_eq_true.1 h1 e (by simpa using he)
    simpa [hb] using h2
  -- where nothing is ready, all is listed
  have hall : ∀ l : Array Bool, l.size = ops.size → Region.ready .any ops l = [] → ∀ j, j < ops.size → l.getD j false = true := by
    intro l hl hr j
    induction j using Nat.strongRecOn with
    | _ j ih =>
      intro hj
      cases hlj : l.getD j false with
      | true => rfl
      | false =>
        exfalso
        have hm : j ∈ Region.ready .any ops l := by
          unfold Region.ready
          refine List.mem_filter.2 ⟨List.mem_range.2 hj, ?_⟩
          have e1 : l.getD j true = false := by
            have hjl : j < l.size := by omega
            simp [hjl] at hlj ⊢
            exact hlj
          rw [e1, Array.getElem?_eq_getElem hj]
          simp only [Bool.not_false, Option.map_some, Option.getD_some, Bool.true_and]
          rw [Array.all_eq_true']
          intro e he
          by_cases hb : Region.binds .any e = true
          · have hlt := hb' j ops[j] e (Array.getElem?_eq_getElem hj) he hb
            have := ih e.on hlt (by omega)
            simp [this]
          · simp [hb]
        rw [hr] at hm
        cases hm
  intro n
  induction n with
  | zero =>
    intro l a w hn h
    obtain ⟨hl, hc, u, rfl, hR, hI⟩ := h
    have hal : ∀ j, j < ops.size → l.getD j false = true := by
      intro j hj
      have hjl : j < l.size := by omega
      cases hlj : l.getD j false with
      | true => rfl
      | false => have := unlisted_set hjl hlj; omega
    refine ⟨?_, hend u w (fun j hj => hR j (hal j hj)) hI⟩
    unfold Region.ready
    refine List.filter_eq_nil_iff.2 fun i hi => ?_
    have hi' := List.mem_range.1 hi
    have h1 := hal i hi'
    have hil : i < l.size := by omega
    simp [hil] at h1 ⊢
    intro h2
    rw [h1] at h2
    cases h2
  | succ n ih =>
    intro l a w hn h
    obtain ⟨hl, hc, u, rfl, hR, hI⟩ := h
    refine ⟨fun hr => hend u w (fun j hj => hR j (hall l hl hr j hj)) hI, fun i hi => ?_⟩
    unfold Region.ready at hi
    obtain ⟨hi1, hi2⟩ := List.mem_filter.1 hi
    have hi' := List.mem_range.1 hi1
    have hil : i < l.size := by omega
    rw [Array.getElem?_eq_getElem hi'] at hi2
    simp only [Bool.and_eq_true, Bool.not_eq_true', Option.map_some, Option.getD_some, Array.all_eq_true'] at hi2
    obtain ⟨hli, hdep⟩ := hi2
    have hli' : l.getD i false = false := by
      simp [hil] at hli ⊢
      exact hli
    have hdep' : ∀ o e, ops[i]? = some o → e ∈ o.after → Region.binds .any e = true → l.getD e.on false = true := by
      intro o e ho he hb
      rw [Array.getElem?_eq_getElem hi'] at ho
      cases ho
      have := hdep e he
      simpa [hb] using this
    refine wpOp_weak (fun a' w' hh => ?_) (hstep i hi' u w (fun j hj => hR j (closed_hangs hc _ _ hdep' j hj)) hI)
    obtain ⟨v, rfl, hRi, hI', hst⟩ := hh
    have hget : ∀ j, (l.setIfInBounds i true).getD j false = if j = i then true else l.getD j false := by
      intro j
      by_cases hji : j = i
      · subst hji; simp [hil]
      · rw [if_neg hji]
        simp only [Array.getD_eq_getD_getElem?, Array.getElem?_setIfInBounds_ne (Ne.symm hji)]
    have hcl : ∀ j, l.getD j false = true → i ∉ hangs ops ops.size j := fun j hj hij => by
      have := closed_hangs hc ops.size j (fun o e ho he hb => hc j o e ho hj he hb) i hij
      rw [hli'] at this
      cases this
    refine ih _ _ _ (by have := unlisted_set hil hli'; omega) ⟨by simpa using hl, ?_, setAt u i v, rfl, ?_, hI'⟩
    · intro k o e ho hk he hb
      rw [hget] at hk ⊢
      split
      · rfl
      · split at hk
        · rename_i hki
          subst hki
          exact hdep' o e ho he hb
        · exact hc k o e ho hk he hb
    · intro j hj
      rw [hget] at hj
      by_cases hji : j = i
      · subst hji
        exact hRi
      · rw [if_neg hji] at hj
        have hjl : j < ops.size := by
          rcases Nat.lt_or_ge j ops.size with h1 | h1
          · exact h1
          · simp [show ¬ j < l.size by omega] at hj
        exact hst j hjl hji (hcl j hj) (hR j hj)


def RelPost (ops : Array Oper) (ds : List (Option Tmp)) (a : Act) (R : (Nat → Value) → Nat → World → Prop) (Inv : World → Prop) (u : Nat → Value) (i : Nat) (w : World) (a' : Act) (w' : World) : Prop :=
  ∃ v, a' = fillL (setAt u i v) 0 ds a ∧ R (setAt u i v) i w' ∧ Inv w' ∧ ∀ j, j < ds.length → j ≠ i → i ∉ hangs ops ops.size j → R u j w → R (setAt u i v) j w'
theorem RelPost.mk {ops : Array Oper} {ds : List (Option Tmp)} {a : Act} {R : (Nat → Value) → Nat → World → Prop} {Inv : World → Prop} {u : Nat → Value} {i : Nat} {w w' : World} {a' : Act} (v : Value) (h1 : a' = fillL (setAt u i v) 0 ds a) (h2 : R (setAt u i v) i w') (h3 : Inv w') (h4 : ∀ j, j < ds.length → j ≠ i → i ∉ hangs ops ops.size j → R u j w → R (setAt u i v) j w') :
    RelPost ops ds a R Inv u i w a' w' := ⟨v, h1, h2, h3, h4⟩
theorem not_hangs {ops : Array Oper} {n i j : Nat} (h : (hangs ops n j).contains i = true) (hn : i ∉ hangs ops n j) {p : Prop} : p := absurd (by simpa using h) hn

theorem wp_region_rel {id : Nat} {a : Act} {w : World} (hm : P.follows .mixedOrders = true) (hback : goesBack ops = true) (ds : List (Option Tmp)) (hds : dsOf ops = ds) (R : (Nat → Value) → Nat → World → Prop) (Inv : World → Prop)
    (hI : Inv w.drew)
    (hstep : ∀ i, i < ds.length → ∀ u w, (∀ j, (hangs ops ops.size i).contains j = true → R u j w) → Inv w →
      wpOp P ops (fun _ _ _ => False) i (RelPost ops ds a R Inv u i w) (fillL u 0 ds a) w)
    (hend : ∀ u w, (∀ j, j < ds.length → R u j w) → Inv w → Q .normal (fillL u 0 ds a) w) : (Code.region id ops true).wp P Q a w := by
  have hlen : ds.length = ops.size := by rw [← hds]; simp [dsOf]
  refine wp_region_any hm ?_
  refine wpAny_rel hback (fun u => fillL u 0 ds a) R Inv ?_ ?_ _ _ _ _ ?_ ⟨by simp, ?_, fun i => (((ds[i]?).getD none).map fun t => a.tmps.getD t undef).getD undef, ?_, ?_, hI⟩
  · intro i hi u w' hu hinv
    refine wpOp_mono ?_ (hstep i (by omega) u w' (fun j hj => hu j (by simpa using hj)) hinv)
    rintro a' w'' ⟨v, h1, h2, h3, h4⟩
    exact ⟨v, h1, h2, h3, fun j hj => h4 j (by omega)⟩
  · exact fun u w' hu hinv => hend u w' (fun j hj => hu j (by omega)) hinv
  · unfold unlisted
    rw [Array.toList_replicate, List.countP_replicate]
    simp
  · intro i o e ho hi
    rw [getD_replicate] at hi
    cases hi
  · exact (fill_self a 0 ds _ fun i d hi => by rw [Nat.zero_add, hi]; rfl).symm
  · intro j hj
    rw [getD_replicate] at hj
    cases hj

theorem wpOp_go {i : Nat} {o : Oper} {a : Act} {w : World} {T : Act → World → Prop} (ho : ops[i]? = some o) (hg : o.guard = none) (h : ∀ K : Act → World → Prop, (∀ a' w', T a' w' → K a' w') → o.wp P a w K Q) : wpOp P ops Q i T a w := by
  unfold wpOp
  simp only [ho]
  rw [if_pos (by simp [Region.wanted, hg])]
  exact .inl (h T fun _ _ h => h)
end
end Go.Proofs.Ytjfeeampcgmngaa
