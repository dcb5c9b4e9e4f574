/- The plain mathematics of lists of edges that rise: each function of edges that has something at few of them is told by one such list alone. -/
import Derived.Test.YtjfeeampcgmngaaTal
import GoSem.Op.String
namespace Go.Proofs.Ytjfeeampcgmngaa

/-! ### the order of texts, and of edges -/
theorem bl_irrefl : ∀ (x : List UInt8), Op.bytesLess x x = false
  | [] => rfl
  | a :: x => by
    unfold Op.bytesLess
    rw [bl_irrefl x]
    simp
theorem bl_trans : ∀ {x y z : List UInt8}, Op.bytesLess x y = true → Op.bytesLess y z = true → Op.bytesLess x z = true
  | _, [], _, h, _ => by cases ‹List UInt8› <;> simp [Op.bytesLess] at h
  | _, _ :: _, [], _, h => by simp [Op.bytesLess] at h
  | [], _ :: _, _ :: _, _, _ => rfl
  | a :: x, b :: y, c :: z, h1, h2 => by
    unfold Op.bytesLess at h1 h2 ⊢
    simp only [Bool.or_eq_true, decide_eq_true_eq, Bool.and_eq_true, beq_iff_eq] at h1 h2 ⊢
    rcases h1 with h1 | ⟨rfl, h1⟩
    · rcases h2 with h2 | ⟨rfl, h2⟩
      · left; exact UInt8.lt_trans h1 h2
      · exact .inl h1
    · rcases h2 with h2 | ⟨rfl, h2⟩
      · exact .inl h2
      · exact .inr ⟨rfl, bl_trans h1 h2⟩
theorem bl_total : ∀ {x y : List UInt8}, Op.bytesLess x y = false → Op.bytesLess y x = false → x = y
  | [], [], _, _ => rfl
  | [], _ :: _, h, _ => by simp [Op.bytesLess] at h
  | _ :: _, [], _, h => by simp [Op.bytesLess] at h
  | a :: x, b :: y, h1, h2 => by
    unfold Op.bytesLess at h1 h2
    simp only [Bool.or_eq_false_iff, decide_eq_false_iff_not, Bool.and_eq_false_iff, beq_eq_false_iff_ne, ne_eq] at h1 h2
    have e : a = b := by
      have h3 := h1.1
      have h4 := h2.1
      rw [UInt8.lt_iff_toNat_lt] at h3 h4
      exact UInt8.toNat_inj.1 (by omega)
    subst e
    have h5 := h1.2.resolve_left (fun h => h rfl)
    have h6 := h2.2.resolve_left (fun h => h rfl)
    rw [bl_total h5 h6]

def slt (a b : ByteArray) : Bool := Op.bytesLess a.data.toList b.data.toList
theorem slt_irrefl (a : ByteArray) : slt a a = false := bl_irrefl _
theorem slt_trans {a b c : ByteArray} (h1 : slt a b = true) (h2 : slt b c = true) : slt a c = true := bl_trans h1 h2
theorem slt_total {a b : ByteArray} (h1 : slt a b = false) (h2 : slt b a = false) : a = b := by
  have h := bl_total h1 h2
  cases a; cases b
  rename_i x y
  cases x; cases y
  simp only at h
  rw [h]
theorem slt_asymm {a b : ByteArray} (h : slt a b = true) : slt b a = false := by
  cases h2 : slt b a
  · rfl
  · have := slt_trans h h2
    rw [slt_irrefl] at this
    cases this
theorem slt_ne {a b : ByteArray} (h : slt a b = true) : a ≠ b := by
  rintro rfl
  rw [slt_irrefl] at h
  cases h

def elt (a b : Edge) : Prop := slt a.1 b.1 = true ∨ (a.1 = b.1 ∧ slt a.2 b.2 = true)
instance (a b : Edge) : Decidable (elt a b) := by unfold elt; exact inferInstance
theorem elt_irrefl (a : Edge) : ¬ elt a a := by
  rintro (h | ⟨_, h⟩) <;> rw [slt_irrefl] at h <;> cases h
theorem elt_trans {a b c : Edge} (h1 : elt a b) (h2 : elt b c) : elt a c := by
  rcases h1 with h1 | ⟨e1, h1⟩
  · rcases h2 with h2 | ⟨e2, h2⟩
    · exact .inl (slt_trans h1 h2)
    · exact .inl (e2 ▸ h1)
  · rcases h2 with h2 | ⟨e2, h2⟩
    · exact .inl (e1 ▸ h2)
    · exact .inr ⟨e1.trans e2, slt_trans h1 h2⟩
theorem elt_total {a b : Edge} (h1 : ¬ elt a b) (h2 : ¬ elt b a) : a = b := by
  have ha : slt a.1 b.1 = false := by
    cases h : slt a.1 b.1
    · rfl
    · exact absurd (.inl h) h1
  have hb : slt b.1 a.1 = false := by
    cases h : slt b.1 a.1
    · rfl
    · exact absurd (.inl h) h2
  have e := slt_total ha hb
  have ha2 : slt a.2 b.2 = false := by
    cases h : slt a.2 b.2
    · rfl
    · exact absurd (.inr ⟨e, h⟩) h1
  have hb2 : slt b.2 a.2 = false := by
    cases h : slt b.2 a.2
    · rfl
    · exact absurd (.inr ⟨e.symm, h⟩) h2
  exact Prod.ext e (slt_total ha2 hb2)
theorem elt_asymm {a b : Edge} (h : elt a b) : ¬ elt b a := fun h2 => elt_irrefl _ (elt_trans h h2)

/-! ### lists of edges -/
abbrev ET := Edge × Tal
/-- What a list has at an edge. -/
def look : List ET → Edge → Tal
  | [], _ => tzero
  | p :: l, e => if p.1 = e then p.2 else look l e
def Rises (l : List ET) : Prop := l.Pairwise fun a b => elt a.1 b.1
/-- L tells g: it rises, no tally in it is nothing. -/
structure Tells (L : List ET) (g : Edge → Tal) : Prop where
  rises : Rises L
  some_ : ∀ p ∈ L, p.2 ≠ tzero
  at_ : ∀ e, look L e = g e

theorem look_absent : ∀ {L : List ET} {e : Edge}, (∀ p ∈ L, p.1 ≠ e) → look L e = tzero
  | [], _, _ => rfl
  | p :: l, e, h => by
    unfold look
    rw [if_neg (h p (by simp))]
    exact look_absent fun q hq => h q (by simp [hq])
theorem look_mem : ∀ {L : List ET} {p : ET}, (L.Pairwise fun a b => a.1 ≠ b.1) → p ∈ L → look L p.1 = p.2
  | q :: l, p, hr, hp => by
    have hr' := List.pairwise_cons.1 hr
    unfold look
    rcases List.mem_cons.1 hp with rfl | hp
    · rw [if_pos rfl]
    · rw [if_neg (hr'.1 p hp)]
      exact look_mem hr'.2 hp
theorem Rises.ne {L : List ET} (h : Rises L) : L.Pairwise fun a b => a.1 ≠ b.1 :=
  List.Pairwise.imp (R := fun a b : ET => elt a.1 b.1) (S := fun a b : ET => a.1 ≠ b.1) (fun hab e => elt_irrefl _ (by rw [e] at hab; exact hab)) h
theorem mem_of_look : ∀ {L : List ET} {e : Edge}, look L e ≠ tzero → (e, look L e) ∈ L
  | [], _, h => absurd rfl h
  | p :: l, e, h => by
    unfold look at h ⊢
    by_cases hp : p.1 = e
    · rw [if_pos hp]
      subst hp
      exact List.mem_cons_self ..
    · rw [if_neg hp] at h ⊢
      exact List.mem_cons_of_mem _ (mem_of_look h)

/-- One function of edges, one list. -/
theorem Tells.unique : ∀ {L L' : List ET} {g : Edge → Tal}, Tells L g → Tells L' g → L = L'
  | [], [], _, _, _ => rfl
  | [], p :: l, g, h, h' => by
    have h1 : look (p :: l) p.1 = p.2 := look_mem h'.rises.ne (by simp)
    rw [h'.at_, ← h.at_] at h1
    exact absurd h1.symm (h'.some_ p (by simp))
  | p :: l, [], g, h, h' => by
    have h1 : look (p :: l) p.1 = p.2 := look_mem h.rises.ne (by simp)
    rw [h.at_, ← h'.at_] at h1
    exact absurd h1.symm (h.some_ p (by simp))
  | p :: l, q :: m, g, h, h' => by
    have hp : (p.1, g p.1) ∈ (q :: m) := by
      rw [← h'.at_]
      refine mem_of_look ?_
      rw [h'.at_, ← h.at_, look_mem h.rises.ne (by simp : p ∈ p :: l)]
      exact h.some_ p (by simp)
    have hq : (q.1, g q.1) ∈ (p :: l) := by
      rw [← h.at_]
      refine mem_of_look ?_
      rw [h.at_, ← h'.at_, look_mem h'.rises.ne (by simp : q ∈ q :: m)]
      exact h'.some_ q (by simp)
    have hr := List.pairwise_cons.1 h.rises
    have hr' := List.pairwise_cons.1 h'.rises
    have e1 : p.1 = q.1 := by
      rcases List.mem_cons.1 hp with e | hp1
      · have h3 := congrArg Prod.fst e; exact h3
      · rcases List.mem_cons.1 hq with e | hq1
        · have h3 := congrArg Prod.fst e; exact h3.symm
        · exact absurd (hr.1 (q.1, g q.1) hq1) (elt_asymm (hr'.1 (p.1, g p.1) hp1))
    have e2 : p.2 = q.2 := by
      rw [← look_mem h.rises.ne (by simp : p ∈ p :: l), ← look_mem h'.rises.ne (by simp : q ∈ q :: m), h.at_, h'.at_, e1]
    have e : p = q := Prod.ext e1 e2
    subst e
    congr 1
    refine Tells.unique (g := look l) ⟨hr.2, fun x hx => h.some_ x (by simp [hx]), fun _ => rfl⟩ ⟨hr'.2, fun x hx => h'.some_ x (by simp [hx]), fun e => ?_⟩
    by_cases he : p.1 = e
    · subst he
      rw [look_absent (L := l) (fun x hx e => elt_irrefl _ (by have := hr.1 x hx; rw [e] at this; exact this)), look_absent (L := m) (fun x hx e => elt_irrefl _ (by have := hr'.1 x hx; rw [e] at this; exact this))]
    · have a := h.at_ e
      have b := h'.at_ e
      unfold look at a b
      rw [if_neg he] at a b
      rw [a, b]

theorem look_perm {L L' : List ET} (hp : L.Perm L') (hn : L.Pairwise fun a b => a.1 ≠ b.1) (e : Edge) : look L e = look L' e := by
  have hn' : L'.Pairwise fun a b => a.1 ≠ b.1 := (hp.pairwise_iff (fun {a b} (h : a.1 ≠ b.1) => h.symm)).1 hn
  by_cases h : ∃ p ∈ L, p.1 = e
  · obtain ⟨p, hp1, rfl⟩ := h
    rw [look_mem hn hp1, look_mem hn' (hp.mem_iff.1 hp1)]
  · rw [look_absent (fun p hp1 e1 => h ⟨p, hp1, e1⟩), look_absent (fun p hp1 e1 => h ⟨p, hp.mem_iff.2 hp1, e1⟩)]

/-! ### putting a tally to an edge's, in a list that rises -/
def withT : List ET → Edge → Tal → List ET
  | [], e, t => [(e, t)]
  | p :: l, e, t => if elt p.1 e then p :: withT l e t else if p.1 = e then (e, tadd p.2 t) :: l else (e, t) :: p :: l
theorem withT_mem : ∀ {l : List ET} {e : Edge} {t : Tal} {p : ET}, p ∈ withT l e t → p ∈ l ∨ p.1 = e
  | [], e, t, p, h => by
    simp [withT] at h
    exact .inr (by rw [h])
  | q :: l, e, t, p, h => by
    unfold withT at h
    split at h
    · rcases List.mem_cons.1 h with rfl | h
      · exact .inl (by simp)
      · rcases withT_mem h with h | h
        · exact .inl (by simp [h])
        · exact .inr h
    · split at h
      · rcases List.mem_cons.1 h with rfl | h
        · exact .inr rfl
        · exact .inl (by simp [h])
      · rcases List.mem_cons.1 h with rfl | h
        · exact .inr rfl
        · exact .inl h
theorem withT_rises : ∀ {l : List ET} (e : Edge) (t : Tal), Rises l → Rises (withT l e t)
  | [], _, _, _ => by simp [withT, Rises]
  | p :: l, e, t, h => by
    have h' := List.pairwise_cons.1 h
    unfold withT
    split
    · rename_i hpe
      refine List.pairwise_cons.2 ⟨fun q hq => ?_, withT_rises e t h'.2⟩
      rcases withT_mem hq with hq | hq
      · exact h'.1 q hq
      · rw [hq]; exact hpe
    · rename_i hpe
      split
      · rename_i he
        exact List.pairwise_cons.2 ⟨fun q hq => by have := h'.1 q hq; rw [he] at this; exact this, h'.2⟩
      · rename_i hne
        have hep : elt e p.1 := by
          by_cases h2 : elt e p.1
          · exact h2
          · exact absurd (elt_total hpe h2) hne
        refine List.pairwise_cons.2 ⟨fun q hq => ?_, h⟩
        rcases List.mem_cons.1 hq with rfl | hq
        · exact hep
        · exact elt_trans hep (h'.1 q hq)
theorem withT_look : ∀ {l : List ET} (e : Edge) (t : Tal) (x : Edge), Rises l → t.Ok → look (withT l e t) x = if x = e then tadd (look l e) t else look l x
  | [], e, t, x, _, ht => by
    unfold withT
    by_cases h : x = e
    · subst h
      rw [if_pos rfl]
      simp [look, tzero_tadd ht]
    · rw [if_neg h]
      simp [look, Ne.symm h]
  | p :: l, e, t, x, h, ht => by
    have h' := List.pairwise_cons.1 h
    unfold withT
    split
    · rename_i hpe
      have hne : p.1 ≠ e := fun e1 => elt_irrefl _ (by rw [e1] at hpe; exact hpe)
      conv => lhs; unfold look
      conv => rhs; unfold look
      rw [if_neg hne, withT_look e t x h'.2 ht]
      by_cases hx : p.1 = x
      · subst hx
        rw [if_pos rfl, if_neg hne, if_pos rfl]
      · rw [if_neg hx, if_neg hx]
    · rename_i hpe
      split
      · rename_i he
        conv => lhs; unfold look
        conv => rhs; unfold look
        by_cases hx : x = e
        · subst hx
          rw [if_pos rfl, if_pos rfl, if_pos he]
        · rw [if_neg (Ne.symm hx), if_neg hx, if_neg (fun e1 => hx (e1.symm.trans he))]
      · rename_i hne
        conv => lhs; unfold look
        by_cases hx : x = e
        · subst hx
          have habs : look (p :: l) x = tzero := look_absent fun q hq e1 => by
            rcases List.mem_cons.1 hq with rfl | hq
            · exact hne e1
            · have h3 := h'.1 q hq
              rw [e1] at h3
              exact hpe h3
          rw [if_pos rfl, if_pos rfl, habs]
          exact (tzero_tadd ht).symm
        · rw [if_neg (Ne.symm hx), if_neg hx]

/-- Lists of edges put together. -/
def sumT : List ET → List ET → List ET
  | acc, [] => acc
  | acc, p :: l => sumT (withT acc p.1 p.2) l
theorem sumT_rises : ∀ (l : List ET) {acc : List ET}, Rises acc → Rises (sumT acc l)
  | [], _, h => h
  | p :: l, _, h => by
    unfold sumT
    exact sumT_rises l (withT_rises p.1 p.2 h)
theorem sumT_append : ∀ (l m acc : List ET), sumT acc (l ++ m) = sumT (sumT acc l) m
  | [], _, _ => rfl
  | p :: l, m, acc => sumT_append l m (withT acc p.1 p.2)

end Go.Proofs.Ytjfeeampcgmngaa
