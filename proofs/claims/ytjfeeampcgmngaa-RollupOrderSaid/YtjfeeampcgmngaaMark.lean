/- A drawn region in which one operation writes memory: what holds ahead of it, and what behind. -/
import Derived.Test.YtjfeeampcgmngaaReg
namespace Go.Proofs.Ytjfeeampcgmngaa
open Go.RowKit

section
variable {P : Program} {ops : Array Oper} {Q : Exit → Act → World → Prop}

/-- What holds when some of the operations have been carried out; the facts may speak of several slots. -/
def MarkAt (ops : Array Oper) (fr : (Nat → Value) → Act) (R : (Nat → Value) → Nat → World → Prop) (m : Nat) (Inv : Bool → World → Prop) (l : Array Bool) (a : Act) (w : World) : Prop :=
  l.size = ops.size ∧ Closed ops l ∧ ∃ u, a = fr u ∧ (∀ j, l.getD j false = true → R u j w) ∧ Inv (l.getD m false) w

theorem wpAny_mark (hback : goesBack ops = true) (fr : (Nat → Value) → Act) (R : (Nat → Value) → Nat → World → Prop) (m : Nat) (Inv : Bool → World → Prop)
    (hstep : ∀ i, i < ops.size → ∀ d u w, (d = true → i ≠ m ∧ i ∉ hangs ops ops.size m) → (∀ j ∈ hangs ops ops.size i, R u j w) → Inv d w →
      wpOp P ops (fun _ _ _ => False) i (fun a' w' => ∃ v, a' = fr (setAt u i v) ∧ R (setAt u i v) i w' ∧ Inv (d || i == m) w' ∧ ∀ j, j < ops.size → j ≠ i → i ∉ hangs ops ops.size j → R u j w → R (setAt u i v) j w') (fr u) w)
    (hm : m < ops.size) (hend : ∀ u w, (∀ j, j < ops.size → R u j w) → Inv true w → Q .normal (fr u) w) :
    ∀ (n : Nat) (l : Array Bool) (a : Act) (w : World), unlisted l = n → MarkAt ops fr R m Inv l a w → wpAny P .any ops Q n l a w := by
  have hb' : ∀ i o e, ops[i]? = some o → e ∈ o.after → Region.binds .any e = true → e.on < i := by
    intro i o e ho he hb
    unfold goesBack at hback
    have hi : i < ops.size := (Array.getElem?_eq_some_iff.1 ho).1
    have h1 := List.all_eq_true.1 hback i (List.mem_range.2 hi)
    rw [ho] at h1
    have h2 := List.all_eq_true.1 h1 e (by simpa using he)
    simpa [hb] using h2
  -- where nothing is ready, all is listed
  have hall : ∀ l : Array Bool, l.size = ops.size → Region.ready .any ops l = [] → ∀ j, j < ops.size → l.getD j false = true := by
    intro l hl hr j
    induction j using Nat.strongRecOn with
    | _ j ih =>
      intro hj
      cases hlj : l.getD j false with
      | true => rfl
      | false =>
        exfalso
        have hm : j ∈ Region.ready .any ops l := by
          unfold Region.ready
          refine List.mem_filter.2 ⟨List.mem_range.2 hj, ?_⟩
          have e1 : l.getD j true = false := by
            have hjl : j < l.size := by omega
            simp [hjl] at hlj ⊢
            exact hlj
          rw [e1, Array.getElem?_eq_getElem hj]
          simp only [Bool.not_false, Option.map_some, Option.getD_some, Bool.true_and]
          rw [Array.all_eq_true']
          intro e he
          by_cases hb : Region.binds .any e = true
          · have hlt := hb' j ops[j] e (Array.getElem?_eq_getElem hj) he hb
            have := ih e.on hlt (by omega)
            simp [this]
          · simp [hb]
        rw [hr] at hm
        cases hm
  intro n
  induction n with
  | zero =>
    intro l a w hn h
    obtain ⟨hl, hc, u, rfl, hR, hI⟩ := h
    have hal : ∀ j, j < ops.size → l.getD j false = true := by
      intro j hj
      have hjl : j < l.size := by omega
      cases hlj : l.getD j false with
      | true => rfl
      | false => have := unlisted_set hjl hlj; omega
    rw [hal m hm] at hI
    refine ⟨?_, hend u w (fun j hj => hR j (hal j hj)) hI⟩
    unfold Region.ready
    refine List.filter_eq_nil_iff.2 fun i hi => ?_
    have hi' := List.mem_range.1 hi
    have h1 := hal i hi'
    have hil : i < l.size := by omega
    simp [hil] at h1 ⊢
    intro h2
    rw [h1] at h2
    cases h2
  | succ n ih =>
    intro l a w hn h
    obtain ⟨hl, hc, u, rfl, hR, hI⟩ := h
    refine ⟨fun hr => hend u w (fun j hj => hR j (hall l hl hr j hj)) (by rw [hall l hl hr m hm] at hI; exact hI), fun i hi => ?_⟩
    unfold Region.ready at hi
    obtain ⟨hi1, hi2⟩ := List.mem_filter.1 hi
    have hi' := List.mem_range.1 hi1
    have hil : i < l.size := by omega
    rw [Array.getElem?_eq_getElem hi'] at hi2
    simp only [Bool.and_eq_true, Bool.not_eq_true', Option.map_some, Option.getD_some, Array.all_eq_true'] at hi2
    obtain ⟨hli, hdep⟩ := hi2
    have hli' : l.getD i false = false := by
      simp [hil] at hli ⊢
      exact hli
    have hdep' : ∀ o e, ops[i]? = some o → e ∈ o.after → Region.binds .any e = true → l.getD e.on false = true := by
      intro o e ho he hb
      rw [Array.getElem?_eq_getElem hi'] at ho
      cases ho
      have := hdep e he
      simpa [hb] using this
    have hcl : ∀ j, l.getD j false = true → i ∉ hangs ops ops.size j := fun j hj hij => by
      have := closed_hangs hc ops.size j (fun o e ho he hb => hc j o e ho hj he hb) i hij
      rw [hli'] at this
      cases this
    refine wpOp_weak (fun a' w' hh => ?_) (hstep i hi' (l.getD m false) u w (fun hd => ⟨fun e => (by rw [e, hd] at hli'; cases hli'), hcl m hd⟩) (fun j hj => hR j (closed_hangs hc _ _ hdep' j hj)) hI)
    obtain ⟨v, rfl, hRi, hI', hst⟩ := hh
    have hget : ∀ j, (l.setIfInBounds i true).getD j false = if j = i then true else l.getD j false := by
      intro j
      by_cases hji : j = i
      · subst hji; simp [hil]
      · rw [if_neg hji]
        simp only [Array.getD_eq_getD_getElem?, Array.getElem?_setIfInBounds_ne (Ne.symm hji)]
    have hInv : Inv ((l.setIfInBounds i true).getD m false) w' := by
      rw [hget]
      by_cases hmi : m = i
      · subst hmi
        simpa using hI'
      · rw [if_neg hmi]
        rw [show (i == m) = false from by simpa using Ne.symm hmi, Bool.or_false] at hI'
        exact hI'
    refine ih _ _ _ (by have := unlisted_set hil hli'; omega) ⟨by simpa using hl, ?_, setAt u i v, rfl, ?_, hInv⟩
    · intro k o e ho hk he hb
      rw [hget] at hk ⊢
      split
      · rfl
      · split at hk
        · rename_i hki
          subst hki
          exact hdep' o e ho he hb
        · exact hc k o e ho hk he hb
    · intro j hj
      rw [hget] at hj
      by_cases hji : j = i
      · subst hji
        exact hRi
      · rw [if_neg hji] at hj
        have hjl : j < ops.size := by
          rcases Nat.lt_or_ge j ops.size with h1 | h1
          · exact h1
          · simp [show ¬ j < l.size by omega] at hj
        exact hst j hjl hji (hcl j hj) (hR j hj)


theorem wp_region_mark {id : Nat} {a : Act} {w : World} (hm : P.follows .mixedOrders = true) (hback : goesBack ops = true) (ds : List (Option Tmp)) (hds : dsOf ops = ds) (R : (Nat → Value) → Nat → World → Prop) (m : Nat) (Inv : Bool → World → Prop)
    (hM : m < ds.length) (hI : Inv false w.drew)
    (hstep : ∀ i, i < ds.length → ∀ d u w, (d = true → i ≠ m ∧ (hangs ops ops.size m).contains i = false) → (∀ j, (hangs ops ops.size i).contains j = true → R u j w) → Inv d w →
      wpOp P ops (fun _ _ _ => False) i (RelPost ops ds a R (Inv (d || i == m)) u i w) (fillL u 0 ds a) w)
    (hend : ∀ u w, (∀ j, j < ds.length → R u j w) → Inv true w → Q .normal (fillL u 0 ds a) w) : (Code.region id ops true).wp P Q a w := by
  have hlen : ds.length = ops.size := by rw [← hds]; simp [dsOf]
  refine wp_region_any hm ?_
  refine wpAny_mark hback (fun u => fillL u 0 ds a) R m Inv ?_ (by omega) ?_ _ _ _ _ ?_ ⟨by simp, ?_, fun i => (((ds[i]?).getD none).map fun t => a.tmps.getD t undef).getD undef, ?_, ?_, by rw [getD_replicate]; exact hI⟩
  · intro i hi d u w' hd hu hinv
    refine wpOp_mono ?_ (hstep i (by omega) d u w' (fun h => ⟨(hd h).1, by simpa using (hd h).2⟩) (fun j hj => hu j (by simpa using hj)) hinv)
    rintro a' w'' ⟨v, h1, h2, h3, h4⟩
    exact ⟨v, h1, h2, h3, fun j hj => h4 j (by omega)⟩
  · exact fun u w' hu hinv => hend u w' (fun j hj => hu j (by omega)) hinv
  · unfold unlisted
    rw [Array.toList_replicate, List.countP_replicate]
    simp
  · intro i o e ho hi
    rw [getD_replicate] at hi
    cases hi
  · exact (fill_self a 0 ds _ fun i d hi => by rw [Nat.zero_add, hi]; rfl).symm
  · intro j hj
    rw [getD_replicate] at hj
    cases hj
end
theorem mark_no {b : Bool} (h : b = true) (h2 : b = false) {p : Prop} : p := by rw [h] at h2; cases h2
end Go.Proofs.Ytjfeeampcgmngaa
