/- A tally of a row of edges, written over. -/
import Derived.Test.YtjfeeampcgmngaaWith0
import Derived.Test.YtjfeeampcgmngaaMark
namespace Go.Proofs.Ytjfeeampcgmngaa
open Go.RowKit Go.Shelf Go.Maps

theorem own_set {w : World} {base : Nat} {e : TypeId} {size n g c : Nat} {xs : List Value} (h : w.ownsRow base e size (.slice (some ⟨g, 0, none⟩) n c) n xs) {i : Nat} (u : Value) : (w.setCell ⟨g, i, none⟩ u).ownsRow base e size (.slice (some ⟨g, 0, none⟩) n c) n (xs.set i u) := by
  refine ⟨by rw [List.length_set]; exact h.1, ?_⟩
  rcases h.2 with ⟨e0, _⟩ | ⟨g', cap, cur, e0, h2, h3, h4, h5, h6, h7⟩
  · cases e0
  · cases e0
    refine .inr ⟨g, c, cur.setIfInBounds i u, rfl, h2, ?_, h4, h5, by simpa using h6, ?_⟩
    · simp [World.setCell, Array.getElem?_modify, h3]
    · rw [Array.toList_setIfInBounds, List.take_set, h7]
theorem own_frozen {w : World} {base : Nat} {e : TypeId} {size n g c : Nat} {xs : List Value} (h : w.ownsRow base e size (.slice (some ⟨g, 0, none⟩) n c) n xs) (i : Nat) : w.frozen? ⟨g, i, none⟩ = false := by
  rcases h.2 with ⟨e0, _⟩ | ⟨g', cap, cur, e0, h2, h3, _⟩
  · cases e0
  · cases e0
    simp [World.frozen?, h3]
/-- An edge's tally is written over. -/
def put7 (w : World) (g o : Nat) (z : ETV) : World :=
  ((((((w.setCell ⟨g, o + 2, none⟩ (.int .u64 (natHi z.calls))).setCell ⟨g, o + 3, none⟩ (.int .u64 (natLo z.calls))).setCell ⟨g, o + 4, none⟩ (.int .u64 (natHi z.errors))).setCell ⟨g, o + 5, none⟩ (.int .u64 (natLo z.errors))).setCell ⟨g, o + 6, none⟩ (.int .u64 (natHi z.took))).setCell ⟨g, o + 7, none⟩ (.int .u64 (natLo z.took))).setCell ⟨g, o + 8, none⟩ (.slice z.A z.n z.c)
theorem etCells_set (d : List ETV) (lo : Nat) (x z : ETV) (hx : d[lo]? = some x) (he : z.e = x.e) :
    (((((((etCells d).set (lo * 9 + 2) (.int .u64 (natHi z.calls))).set (lo * 9 + 3) (.int .u64 (natLo z.calls))).set (lo * 9 + 4) (.int .u64 (natHi z.errors))).set (lo * 9 + 5) (.int .u64 (natLo z.errors))).set (lo * 9 + 6) (.int .u64 (natHi z.took))).set (lo * 9 + 7) (.int .u64 (natLo z.took))).set (lo * 9 + 8) (.slice z.A z.n z.c) = etCells (d.set lo z) := by
  obtain ⟨hlt, hget⟩ := List.getElem?_eq_some_iff.1 hx
  have hd : d = d.take lo ++ x :: d.drop (lo + 1) := by
    have h1 := List.drop_eq_getElem_cons hlt
    rw [hget] at h1
    rw [← h1, List.take_append_drop]
  have hds : d.set lo z = d.take lo ++ z :: d.drop (lo + 1) := by
    rw [List.set_eq_take_append_cons_drop, if_pos hlt]
  have hE : etCells d = etCells (d.take lo) ++ (encE x natHi natLo ++ etCells (d.drop (lo + 1))) := by
    conv => lhs; rw [hd, etCells_append]
    rfl
  have hS : etCells (d.set lo z) = etCells (d.take lo) ++ (encE z natHi natLo ++ etCells (d.drop (lo + 1))) := by
    rw [hds, etCells_append]
    rfl
  have hl : (etCells (d.take lo)).length = lo * 9 := by rw [etCells_length, List.length_take]; congr 1; omega
  rw [hE, hS]
  generalize etCells (d.take lo) = E1 at hl
  generalize etCells (d.drop (lo + 1)) = E2
  have key : ∀ (k : Nat) (u : Value) (T : List Value), (E1 ++ T).set (lo * 9 + k) u = E1 ++ T.set k u := fun k u T => by
    rw [List.set_append_right _ _ (by omega), hl]
    congr 2
    omega
  rw [key, key, key, key, key, key, key]
  congr 1
  unfold encE
  rw [he]
  rfl
theorem put7_own {w : World} {base g n c lo : Nat} {d : List ETV} {x z : ETV} (h : w.ownsRow base 62 9 (.slice (some ⟨g, 0, none⟩) n c) n (etCells d)) (hx : d[lo]? = some x) (he : z.e = x.e) : (put7 w g (lo * 9) z).ownsRow base 62 9 (.slice (some ⟨g, 0, none⟩) n c) n (etCells (d.set lo z)) := by
  rw [← etCells_set d lo x z hx he]
  unfold put7
  exact own_set (own_set (own_set (own_set (own_set (own_set (own_set h _) _) _) _) _) _) _
theorem put7_cell {w : World} {g o : Nat} {z : ETV} {b o' : Nat} (hb : b ≠ g) : (put7 w g o z).cell? ⟨b, o', none⟩ = w.cell? ⟨b, o', none⟩ := by
  unfold put7
  have key : ∀ (u : World) (k : Nat) (v : Value), (u.setCell ⟨g, k, none⟩ v).heap[b]? = u.heap[b]? := fun u k v => Below.heap_setCell u _ v b (by simpa using hb)
  exact World.cell?_of_block (by rw [key, key, key, key, key, key, key])
theorem put7_size {w : World} {g o : Nat} {z : ETV} : (put7 w g o z).heap.size = w.heap.size := by
  unfold put7
  simp [World.setCell]
theorem put7_below {a w : World} {g o : Nat} {z : ETV} (h : Below a.heap.size a w) (hg : a.heap.size ≤ g) : Below a.heap.size a (put7 w g o z) := by
  unfold put7
  exact bset (bset (bset (bset (bset (bset (bset h hg _) hg _) hg _) hg _) hg _) hg _) hg _
theorem EtEach.set {w : World} {own : Option Nat} {d : List ETV} {L : List ET} (h : EtEach w own d L) {lo : Nat} {z : ETV} {q : ET} (hz : EtEach w own [z] [q]) : EtEach w own (d.set lo z) (L.set lo q) := by
  refine ⟨by rw [List.length_set, List.length_set]; exact h.1, fun i x p hx hp => ?_⟩
  rw [List.getElem?_set] at hx hp
  by_cases hi : lo = i
  · rw [if_pos hi] at hx hp
    split at hx
    · rename_i hlt
      rw [if_pos (by have := h.1; omega)] at hp
      cases hx
      cases hp
      exact hz.2 0 z q rfl rfl
    · cases hx
  · rw [if_neg hi] at hx hp
    exact h.2 i x p hx hp
/-- An edge's tally has been written over, in a world that is V but for new blocks. -/
def StoreDone (V : World) (x : ETV) (s : Tal) (g lo : Nat) (w' : World) : Prop :=
  ∃ w2 z, Below V.heap.size V w2 ∧ TalAt w2 (ETV.val z) s.raw ∧ (∀ q, z.A = some q → V.heap.size ≤ q.block) ∧ z.e = x.e ∧ w' = put7 w2 g (lo * 9) z
end Go.Proofs.Ytjfeeampcgmngaa
