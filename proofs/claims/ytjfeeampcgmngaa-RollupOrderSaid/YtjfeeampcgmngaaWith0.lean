/- A list of edges that one grows: where an edge stands in it; its row. -/
import Derived.Test.YtjfeeampcgmngaaRPlus
import Derived.Test.YtjfeeampcgmngaaWins
namespace Go.Proofs.Ytjfeeampcgmngaa
open Go.RowKit Go.Shelf Go.Maps

/-! ### plain -/
theorem withT_split {e : Edge} {t : Tal} : ∀ {L1 L2 : List ET}, (∀ p ∈ L1, elt p.1 e) → (∀ p ∈ L2.head?, ¬ elt p.1 e) →
    withT (L1 ++ L2) e t = L1 ++ (match L2 with | [] => [(e, t)] | q :: l => if q.1 = e then (e, tadd q.2 t) :: l else (e, t) :: q :: l)
  | [], [], _, _ => rfl
  | [], q :: l, _, h => by
    show (if elt q.1 e then q :: withT l e t else if q.1 = e then (e, tadd q.2 t) :: l else (e, t) :: q :: l) = _
    rw [if_neg (h q rfl)]
    rfl
  | p :: L1, L2, h1, h2 => by
    show (if elt p.1 e then p :: withT (L1 ++ L2) e t else _) = _
    rw [if_pos (h1 p (by simp)), withT_split (fun q hq => h1 q (by simp [hq])) h2]
    rfl
/-- What stands ahead of a place comes ahead of e, what stands from it on does not. -/
structure SplitAt (L : List ET) (e : Edge) (k : Nat) : Prop where
  le : k ≤ L.length
  below : ∀ (i : Nat) (p : ET), L[i]? = some p → i < k → elt p.1 e
  above : ∀ (i : Nat) (p : ET), L[i]? = some p → k ≤ i → ¬ elt p.1 e
theorem SplitAt.with {L : List ET} {e : Edge} {k : Nat} (h : SplitAt L e k) (t : Tal) : withT L e t = L.take k ++ (match L.drop k with | [] => [(e, t)] | q :: l => if q.1 = e then (e, tadd q.2 t) :: l else (e, t) :: q :: l) := by
  conv => lhs; rw [← List.take_append_drop k L]
  refine withT_split (fun p hp => ?_) (fun p hp => ?_)
  · obtain ⟨i, hi⟩ := List.getElem?_of_mem hp
    rw [List.getElem?_take] at hi
    split at hi
    · rename_i hik
      exact h.below i p hi hik
    · cases hi
  · rw [List.head?_drop] at hp
    exact h.above k p hp (Nat.le_refl _)
theorem SplitAt.hit {L : List ET} {e : Edge} {k : Nat} (h : SplitAt L e k) (t : Tal) {p : ET} (hp : L[k]? = some p) (he : p.1 = e) : withT L e t = L.set k (e, tadd p.2 t) := by
  have hk : k < L.length := (List.getElem?_eq_some_iff.1 hp).1
  rw [h.with t, List.drop_eq_getElem_cons hk, (List.getElem?_eq_some_iff.1 hp).2]
  simp only [he, if_true]
  rw [List.set_eq_take_append_cons_drop, if_pos hk]
theorem SplitAt.miss {L : List ET} {e : Edge} {k : Nat} (h : SplitAt L e k) (t : Tal) (he : ∀ p, L[k]? = some p → p.1 ≠ e) : withT L e t = L.take k ++ (e, t) :: L.drop k := by
  rw [h.with t]
  congr 1
  rcases hd : L.drop k with _ | ⟨q, l⟩
  · rfl
  · have hq : L[k]? = some q := by rw [← List.head?_drop, hd]; rfl
    simp only [he q hq, if_false]
theorem elt_mono {a b c : Edge} (h1 : ¬ elt a c) (h2 : elt a b) : ¬ elt b c := fun h => h1 (elt_trans h2 h)
theorem Rises.at_ {L : List ET} (h : Rises L) {i j : Nat} {p q : ET} (hp : L[i]? = some p) (hq : L[j]? = some q) (hij : i < j) : elt p.1 q.1 := by
  obtain ⟨h1, rfl⟩ := List.getElem?_eq_some_iff.1 hp
  obtain ⟨h2, rfl⟩ := List.getElem?_eq_some_iff.1 hq
  exact List.pairwise_iff_getElem.1 h i j h1 h2 hij

/-! ### a row of edges of one's own -/
/-- Each edge's tally reads, out of a block that is not the row's own. -/
def EtEach (w : World) (own : Option Nat) (d : List ETV) (L : List ET) : Prop :=
  d.length = L.length ∧ ∀ (i : Nat) (x : ETV) (p : ET), d[i]? = some x → L[i]? = some p → x.e = p.1 ∧ EdgeOk p.1 ∧ TalAt w x.val p.2.raw ∧ (0 < x.n → ∀ a, x.A = some a → some a.block ≠ own ∧ a.block < w.heap.size)
def EtOwn (base : Nat) (w : World) (v : Value) (L : List ET) : Prop :=
  ∃ d, w.ownsRow base 62 9 v d.length (etCells d) ∧ EtEach w v.ownBlock d L
theorem EtOwn.nil (base : Nat) (w : World) : EtOwn base w (.slice none 0 0) [] := ⟨[], World.ownsRow_nil _ _ _ _, rfl, fun i x p h => by simp at h⟩
theorem BarsAt.keep {w w' : World} {A : Option Addr} {n : Nat} {l : List RBar} (h : BarsAt w A n l) (hk : 0 < n → ∀ a, A = some a → ∀ o v, w.cell? ⟨a.block, o, none⟩ = some v → w'.cell? ⟨a.block, o, none⟩ = some v) : BarsAt w' A n l :=
  ⟨h.1, fun hn => by
    obtain ⟨b, off, rfl, hc⟩ := h.2 hn
    exact ⟨b, off, rfl, fun i j c hi => ⟨hk hn _ rfl _ _ (hc i j c hi).1, hk hn _ rfl _ _ (hc i j c hi).2⟩⟩⟩
theorem ETV.parts {w : World} {x : ETV} {t : RTal} (h : TalAt w x.val t) : ETV.val x = talVal t.calls t.errors t.took (.slice x.A x.n x.c) ∧ BarsAt w x.A x.n t.bars ∧ x.n ≤ 140737488351232 ∧ x.n ≤ x.c := by
  obtain ⟨A, n, c, e, h1, h2, h3⟩ := h
  have e' := e
  unfold ETV.val talVal at e
  simp only [Value.agg.injEq, Array.mk.injEq, List.cons.injEq, Value.int.injEq, Value.slice.injEq, true_and, and_true] at e
  obtain ⟨_, _, _, _, _, _, rfl, rfl, rfl⟩ := e
  exact ⟨e', h1, h2, h3⟩
theorem ETV.keep {w w' : World} {x : ETV} {t : RTal} (h : TalAt w x.val t) (hk : 0 < x.n → ∀ a, x.A = some a → ∀ o v, w.cell? ⟨a.block, o, none⟩ = some v → w'.cell? ⟨a.block, o, none⟩ = some v) : TalAt w' x.val t := by
  obtain ⟨e, h1, h2, h3⟩ := ETV.parts h
  exact ⟨x.A, x.n, x.c, e, h1.keep hk, h2, h3⟩
theorem EtEach.keep {w w' : World} {own own' : Option Nat} {d : List ETV} {L : List ET} (h : EtEach w own d L) (hk : ∀ b, some b ≠ own → b < w.heap.size → ∀ o v, w.cell? ⟨b, o, none⟩ = some v → w'.cell? ⟨b, o, none⟩ = some v) (hs : w.heap.size ≤ w'.heap.size) (ho : ∀ b, some b ≠ own → b < w.heap.size → some b ≠ own') : EtEach w' own' d L :=
  ⟨h.1, fun i x p hx hp => by
    obtain ⟨h1, h2, h3, h4⟩ := h.2 i x p hx hp
    exact ⟨h1, h2, ETV.keep h3 (fun hn a ha => hk a.block (h4 hn a ha).1 (h4 hn a ha).2), fun hn a ha => ⟨ho _ (h4 hn a ha).1 (h4 hn a ha).2, Nat.lt_of_lt_of_le (h4 hn a ha).2 hs⟩⟩⟩
/-- One more edge. -/
theorem EtEach.one {w : World} {own : Option Nat} {x : ETV} {p : ET} (h1 : x.e = p.1) (h2 : EdgeOk p.1) (h3 : TalAt w x.val p.2.raw) (h4 : ∀ a, x.A = some a → some a.block ≠ own) : EtEach w own [x] [p] :=
  ⟨rfl, fun i y q hy hq => by
    have hi : i = 0 := by
      have := (List.getElem?_eq_some_iff.1 hy).1
      simp at this
      exact this
    subst hi
    simp at hy hq
    subst hy
    subst hq
    refine ⟨h1, h2, h3, fun hn a ha => ⟨h4 a ha, ?_⟩⟩
    obtain ⟨_, hb, _⟩ := ETV.parts h3
    obtain ⟨b, off, e, hc⟩ := hb.2 hn
    rw [ha] at e
    cases e
    have h0 : 0 < (rawBars p.2.bars).length := by have h9 : x.n = (rawBars p.2.bars).length := hb.1; omega
    exact cell_lt (hc 0 ((rawBars p.2.bars)[0]).1 ((rawBars p.2.bars)[0]).2 (by rw [show p.2.raw.bars = rawBars p.2.bars from rfl]; exact List.getElem?_eq_getElem h0)).1⟩
theorem EtEach.below {w w' : World} {own : Option Nat} {d : List ETV} {L : List ET} (h : EtEach w own d L) (hb : Below w.heap.size w w') : EtEach w' own d L :=
  h.keep (fun _ _ _ _ _ hc => bcell1 hb hc) hb.size fun _ h _ => h
theorem EtOwn.below {base : Nat} {w w' : World} {v : Value} {L : List ET} (h : EtOwn base w v L) (hb : Below w.heap.size w w') : EtOwn base w' v L := by
  obtain ⟨d, h1, h2⟩ := h
  exact ⟨d, own_below h1 hb, h2.below hb⟩
theorem EtEach.append {w : World} {own : Option Nat} {d d' : List ETV} {L L' : List ET} (h : EtEach w own d L) (h' : EtEach w own d' L') : EtEach w own (d ++ d') (L ++ L') := by
  refine ⟨by rw [List.length_append, List.length_append, h.1, h'.1], fun i x p hx hp => ?_⟩
  rcases Nat.lt_or_ge i d.length with hi | hi
  · rw [List.getElem?_append_left hi] at hx
    rw [List.getElem?_append_left (by rw [← h.1]; exact hi)] at hp
    exact h.2 i x p hx hp
  · rw [List.getElem?_append_right hi] at hx
    rw [List.getElem?_append_right (by rw [← h.1]; exact hi), ← h.1] at hp
    exact h'.2 _ x p hx hp
theorem EtEach.take {w : World} {own : Option Nat} {d : List ETV} {L : List ET} (h : EtEach w own d L) (k : Nat) : EtEach w own (d.take k) (L.take k) := by
  refine ⟨by rw [List.length_take, List.length_take, h.1], fun i x p hx hp => ?_⟩
  rw [List.getElem?_take] at hx hp
  split at hx
  · rename_i hik
    rw [if_pos hik] at hp
    exact h.2 i x p hx hp
  · cases hx
theorem EtEach.drop {w : World} {own : Option Nat} {d : List ETV} {L : List ET} (h : EtEach w own d L) (k : Nat) : EtEach w own (d.drop k) (L.drop k) := by
  refine ⟨by rw [List.length_drop, List.length_drop, h.1], fun i x p hx hp => ?_⟩
  rw [List.getElem?_drop] at hx hp
  exact h.2 _ x p hx hp
theorem etCells_length (d : List ETV) : (etCells d).length = d.length * 9 := by
  induction d with
  | nil => rfl
  | cons x d ih =>
    show (encE x natHi natLo ++ etCells d).length = _
    rw [List.length_append, encE_length, ih]
    simp
    omega
theorem etCells_take (d : List ETV) (k : Nat) (hk : k ≤ d.length) : (etCells d).take (k * 9) = etCells (d.take k) := by
  conv => lhs; rw [← List.take_append_drop k d, etCells_append]
  rw [List.take_append_of_le_length (by rw [etCells_length, List.length_take]; omega), List.take_of_length_le (by rw [etCells_length, List.length_take]; omega)]
theorem etCells_drop (d : List ETV) (k : Nat) (hk : k ≤ d.length) : (etCells d).drop (k * 9) = etCells (d.drop k) := by
  conv => lhs; rw [← List.take_append_drop k d, etCells_append]
  rw [List.drop_append_of_le_length (by rw [etCells_length, List.length_take]; omega), List.drop_of_length_le (by rw [etCells_length, List.length_take]; omega), List.nil_append]
theorem etCells_one (d : List ETV) : ∀ u ∈ etCells d, u.oneCell' = true := by
  intro u hu
  unfold etCells at hu
  obtain ⟨x, _, hx⟩ := List.mem_flatMap.1 hu
  simp [encE] at hx
  rcases hx with rfl | rfl | rfl | rfl | rfl | rfl | rfl | rfl | rfl <;> rfl
/-- The cells of a row. -/
theorem own_src {w : World} {base : Nat} {d : List ETV} {A : Option Addr} {n c : Nat} (h : w.ownsRow base 62 9 (.slice A n c) n (etCells d)) : SrcAt w A n 9 (etCells d) := by
  refine ⟨h.1, fun hn => ?_⟩
  rcases h.2 with ⟨e, h0⟩ | ⟨g, cap, cur, e, hb, hh, hnc, hcm, hcs, hcur⟩
  · omega
  · cases e
    refine ⟨g, 0, rfl, fun j u hu => ?_⟩
    have hj : j < n * 9 := by
      have := (List.getElem?_eq_some_iff.1 hu).1
      rw [h.1] at this
      exact this
    rw [← hcur, List.getElem?_take, if_pos hj] at hu
    simp only [World.cell?, hh, Nat.zero_add]
    simpa using hu
theorem SrcAt.take {w : World} {A : Option Addr} {n k : Nat} {d : List ETV} (h : SrcAt w A n 9 (etCells d)) (hk : k ≤ n) (hn : n = d.length) : SrcAt w A k 9 (etCells (d.take k)) := by
  refine ⟨by rw [etCells_length, List.length_take]; congr 1; omega, fun h0 => ?_⟩
  obtain ⟨b, off, rfl, hc⟩ := h.2 (by omega)
  refine ⟨b, off, rfl, fun j u hu => ?_⟩
  rw [← etCells_take d k (by omega), List.getElem?_take] at hu
  split at hu
  · exact hc j u hu
  · cases hu
theorem SrcAt.drop {w : World} {b off n k : Nat} {d : List ETV} (h : SrcAt w (some ⟨b, off, none⟩) n 9 (etCells d)) (hk : k ≤ n) (hn : n = d.length) : SrcAt w (some ⟨b, off + k * 9, none⟩) (n - k) 9 (etCells (d.drop k)) := by
  refine ⟨by rw [etCells_length, List.length_drop]; congr 1; omega, fun h0 => ?_⟩
  obtain ⟨b', off', e, hc⟩ := h.2 (by omega)
  cases e
  refine ⟨b, off + k * 9, rfl, fun j u hu => ?_⟩
  rw [← etCells_drop d k (by omega), List.getElem?_drop] at hu
  have := hc _ u hu
  rw [show off + k * 9 + j = off + (k * 9 + j) by omega]
  exact this
end Go.Proofs.Ytjfeeampcgmngaa
