/- Plain laws of windows and of puts: one rollup has one list of windows. -/
import Derived.Test.YtjfeeampcgmngaaAlive
namespace Go.Proofs.Ytjfeeampcgmngaa
open Go.RowKit Go.Shelf Go.Maps

theorem sorted_unique : ∀ {l m : List Nat}, l.Pairwise (· < ·) → m.Pairwise (· < ·) → (∀ x, x ∈ l ↔ x ∈ m) → l = m
  | [], [], _, _, _ => rfl
  | [], y :: m, _, _, h => by have := (h y).2 (by simp); cases this
  | x :: l, [], _, _, h => by have := (h x).1 (by simp); cases this
  | x :: l, y :: m, hl, hm, h => by
    have hl' := List.pairwise_cons.1 hl
    have hm' := List.pairwise_cons.1 hm
    have e : x = y := by
      rcases List.mem_cons.1 ((h x).1 (by simp)) with h1 | h1
      · exact h1
      · rcases List.mem_cons.1 ((h y).2 (by simp)) with h2 | h2
        · exact h2.symm
        · have := hm'.1 x h1
          have := hl'.1 y h2
          omega
    subst e
    congr 1
    refine sorted_unique hl'.2 hm'.2 fun z => ⟨fun hz => ?_, fun hz => ?_⟩
    · rcases List.mem_cons.1 ((h z).1 (by simp [hz])) with h1 | h1
      · subst h1; have := hl'.1 z hz; omega
      · exact h1
    · rcases List.mem_cons.1 ((h z).2 (by simp [hz])) with h1 | h1
      · subst h1; have := hm'.1 z hz; omega
      · exact h1
theorem hsum_hour (M : Cont) (e : Edge) : ∀ (n lo : Nat), hsum M e lo n ≠ tzero → ∃ h, lo ≤ h ∧ h < lo + n ∧ M h e ≠ tzero
  | 0, lo, h => absurd rfl h
  | n + 1, lo, h => by
    by_cases h0 : M lo e = tzero
    · obtain ⟨h', h1, h2, h3⟩ := hsum_hour M e n (lo + 1) fun h1 => h (by
        show tadd (M lo e) (hsum M e (lo + 1) n) = tzero
        rw [h0, h1]
        exact tzero_tadd tzero_ok)
      exact ⟨h', by omega, by omega, h3⟩
    · exact ⟨lo, Nat.le_refl _, by omega, h0⟩
theorem start_of {W b h : Nat} (hW : 0 < W) (hb : b % W = 0) (h1 : b ≤ h) (h2 : h < b + W) : h - h % W = b := by
  have e1 : h % W = h - b := by
    obtain ⟨q, rfl⟩ := Nat.dvd_of_mod_eq_zero hb
    have : h = W * q + (h - W * q) := by omega
    conv => lhs; rw [this]
    rw [Nat.mul_add_mod, Nat.mod_eq_of_lt (by omega)]
  omega
/-- Each window begins where an hour's does. -/
theorem WinsTell.hour {M : Cont} {W : Nat} {L : List WT} (h : WinsTell M W L) (hW : 0 < W) {p : WT} (hp : p ∈ L) : ∃ hr e, M hr e ≠ tzero ∧ hr - hr % W = p.1 := by
  obtain ⟨h1, _, h3, h4, _⟩ := h.each p hp
  cases hL : p.2.2 with
  | nil => exact absurd hL h4
  | cons q l =>
    have hq : q ∈ p.2.2 := by rw [hL]; simp
    have h5 : hsum M q.1 p.1 W ≠ tzero := by
      rw [← h3.at_, look_mem h3.rises.ne hq]
      exact h3.some_ q hq
    obtain ⟨hr, g1, g2, g3⟩ := hsum_hour M q.1 W p.1 h5
    exact ⟨hr, q.1, g3, start_of hW h1 g1 g2⟩
theorem WinsTell.unique {M : Cont} {W : Nat} {L L' : List WT} (h : WinsTell M W L) (h' : WinsTell M W L') (hW : 0 < W) : L = L' := by
  have hs : L.map (·.1) = L'.map (·.1) := by
    have key : ∀ {A B : List WT}, WinsTell M W A → WinsTell M W B → ∀ x, x ∈ A.map (·.1) → x ∈ B.map (·.1) := fun hA hB x hx => by
      obtain ⟨p, hp, rfl⟩ := List.mem_map.1 hx
      obtain ⟨hr, e, hz, he⟩ := hA.hour hW hp
      rw [← he]
      exact hB.all hr e hz
    exact sorted_unique h.rises h'.rises fun x => ⟨key h h' x, key h' h x⟩
  apply List.ext_getElem?
  intro i
  have hi := congrArg (fun l => l[i]?) hs
  simp only [List.getElem?_map] at hi
  cases hp : L[i]? with
  | none => rw [hp] at hi; cases hq : L'[i]? with
    | none => rfl
    | some q => rw [hq] at hi; cases hi
  | some p => cases hq : L'[i]? with
    | none => rw [hp, hq] at hi; cases hi
    | some q =>
      rw [hp, hq] at hi
      simp only [Option.map_some, Option.some.injEq] at hi
      obtain ⟨_, a2, a3, _⟩ := h.each p (List.mem_of_getElem? hp)
      obtain ⟨_, b2, b3, _⟩ := h'.each q (List.mem_of_getElem? hq)
      obtain ⟨p1, p2, p3⟩ := p
      obtain ⟨q1, q2, q3⟩ := q
      simp only at hi a2 a3 b2 b3
      subst hi
      subst a2
      subst b2
      rw [a3.unique b3]
theorem tells_few {M : Cont} {N lo n : Nat} {L : List ET} (h : Tells L fun e => hsum M e lo n) (hf : Few N M) : L.length ≤ N := by
  obtain ⟨S, h1, h2⟩ := hf
  have := rises_few h.rises (S := S.map Prod.snd) fun p hp => by
    have h5 : hsum M p.1 lo n ≠ tzero := by
      rw [← h.at_, look_mem h.rises.ne hp]
      exact h.some_ p hp
    obtain ⟨hr, _, _, g3⟩ := hsum_hour M p.1 n lo h5
    exact List.mem_map.2 ⟨(hr, p.1), h2 _ _ g3, rfl⟩
  rw [List.length_map] at this
  omega
theorem WinsTell.edges_few {M : Cont} {W N : Nat} {L : List WT} (h : WinsTell M W L) (hf : Few N M) : ∀ p ∈ L, p.2.2.length ≤ N := fun p hp => tells_few (h.each p hp).2.2.1 hf
theorem WinsTell.few {M : Cont} {W : Nat} {L : List WT} (h : WinsTell M W L) : L.length ≤ limit := by
  classical
  have := nodup_le (L.map (·.1)) (List.range limit) (List.Pairwise.imp (R := fun a b : Nat => a < b) (S := fun a b : Nat => a ≠ b) (fun {a b} h1 => Nat.ne_of_lt h1) h.rises) fun x hx => by
    obtain ⟨p, hp, rfl⟩ := List.mem_map.1 hx
    exact List.mem_range.2 (h.each p hp).2.2.2.2
  rw [List.length_map, List.length_range] at this
  exact this

/-! ### parts of some puts -/
theorem PutsAt.take {w : World} {A : Option Addr} {n : Nat} {l : List RPut} (h : PutsAt w A n l) {k : Nat} (hk : k ≤ n) : PutsAt w A k (l.take k) := by
  obtain ⟨h1, h2, d, h3, h4, h5⟩ := h
  refine ⟨by rw [List.length_take]; omega, fun p hp => h2 p (List.mem_of_mem_take hp), d.take k, by rw [List.length_take, List.length_take, h3], fun i p x hp hx => ?_, fun hn => ?_⟩
  · rw [List.getElem?_take] at hp hx
    split at hp
    · rename_i hik
      rw [if_pos hik] at hx
      exact h4 i p x hp hx
    · cases hp
  · obtain ⟨b, off, e, hc⟩ := h5 (by omega)
    refine ⟨b, off, e, fun i p x hp hx => ?_⟩
    rw [List.getElem?_take] at hp hx
    split at hp
    · rename_i hik
      rw [if_pos hik] at hx
      exact hc i p x hp hx
    · cases hp
theorem PutsAt.none_ {w : World} {A A' : Option Addr} {n : Nat} {l : List RPut} (h : PutsAt w A n l) (hn : n = 0) : PutsAt w A' 0 [] := by
  refine ⟨rfl, (fun p hp => by cases hp), [], rfl, (fun i p x hp => by simp at hp), fun h0 => absurd h0 (by omega)⟩
theorem PutsAt.drop {w : World} {b off n : Nat} {l : List RPut} (h : PutsAt w (some ⟨b, off, none⟩) n l) {k : Nat} (hk : k ≤ n) : PutsAt w (some ⟨b, off + k * 10, none⟩) (n - k) (l.drop k) := by
  obtain ⟨h1, h2, d, h3, h4, h5⟩ := h
  refine ⟨by rw [List.length_drop]; omega, fun p hp => h2 p (List.mem_of_mem_drop hp), d.drop k, by rw [List.length_drop, List.length_drop, h3], fun i p x hp hx => ?_, fun hn => ?_⟩
  · rw [List.getElem?_drop] at hp hx
    exact h4 _ p x hp hx
  · obtain ⟨b', off', e, hc⟩ := h5 (by omega)
    cases e
    refine ⟨b, off + k * 10, rfl, fun i p x hp hx j u hu => ?_⟩
    rw [List.getElem?_drop] at hp hx
    have := hc _ p x hp hx j u hu
    rw [show off + k * 10 + i * 10 + j = off + (k + i) * 10 + j by omega]
    exact this
end Go.Proofs.Ytjfeeampcgmngaa
