/- Maps in memory as what they hold, key by key, whatever their elements are: look-up, store, delete, length, and a range over one. -/
import Derived.Maps.RangeWalk
import Derived.WalkKit
import Derived.Handy
namespace Go.Proofs.Ytjfeeampcgmngaa
open Go.RowKit Go.Maps
open Go.ChangeMaps (setBlock heap_setBlock_same heap_setBlock_other modify_eq_set)

/-- Block b is a map with just these entries, the keys of type k. -/
structure MapIs (P : Program) (k : TypeId) (w : World) (b : Nat) (es : List MapEntry) : Prop where
  block : ∃ arr clock, w.heap[b]? = some (.map arr clock) ∧ arr.toList = es ∧ ∀ x ∈ es, x.born < clock
  keys : ∀ x ∈ es, ∃ l, keyOf P k x.key = some l
  born : (es.map (·.born)).Nodup
  apart : es.Pairwise fun a b => a.key ≠ b.key

/-- A list of entries has a value at a key. -/
def Has (es : List MapEntry) (k v : Value) : Prop := ∃ x ∈ es, x.key = k ∧ x.val = v
def Lacks (es : List MapEntry) (k : Value) : Prop := ∀ x ∈ es, x.key ≠ k

section
variable {P : Program} {k : TypeId} {w : World} {b : Nat} {es : List MapEntry}

theorem MapIs.lt (h : MapIs P k w b es) : b < w.heap.size := by
  obtain ⟨arr, clock, hb, _⟩ := h.block
  exact (Array.getElem?_eq_some_iff.1 hb).1

theorem MapIs.same {w' : World} (h : MapIs P k w b es) (hb : w'.heap[b]? = w.heap[b]?) : MapIs P k w' b es := by
  obtain ⟨arr, clock, h1, h2⟩ := h.block
  exact ⟨⟨arr, clock, hb.trans h1, h2⟩, h.keys, h.born, h.apart⟩

theorem MapIs.made (w : World) : MapIs P k (w.alloc (.map #[] 0)) w.heap.size [] :=
  ⟨⟨#[], 0, (MapKept.heap_alloc w _).1, rfl, (fun x hx => by cases hx)⟩, (fun x hx => by cases hx), by simp, by simp⟩

theorem Has.unique {key v v' : Value} (ha : es.Pairwise fun a b => a.key ≠ b.key) (h : Has es key v) (h' : Has es key v') : v = v' := by
  obtain ⟨x, hx, rfl, rfl⟩ := h
  obtain ⟨y, hy, hk, rfl⟩ := h'
  have : x = y := by
    by_cases e : x = y
    · exact e
    · exact absurd hk.symm (List.Pairwise.forall_of_forall_of_flip (R := fun a b => a ≠ b → a.key ≠ b.key) (by simp) (List.Pairwise.imp (R := fun a b : MapEntry => a.key ≠ b.key) (S := fun a b : MapEntry => a ≠ b → a.key ≠ b.key) (fun h _ => h) ha) (List.Pairwise.imp (R := fun a b : MapEntry => a.key ≠ b.key) (S := fun a b : MapEntry => b ≠ a → b.key ≠ a.key) (fun h _ e => h e.symm) ha) hx hy e)
  rw [this]

/-- 'm[k]' and 'v, ok := m[k]'. -/
theorem MapIs.lookup {t e : TypeId} (c : Bool) (h : MapIs P k w b es) (K : Keyed P k) (ht : P.underlying t = some (.map k e)) {z : Value} (hz : (zeroValue e).run P w = .ok z w) {key : Value} {kl : Lit} (hkey : keyOf P k key = some kl) :
    (Lacks es key ∧ (Instr.lookup t (.map (some b)) key c).run P w = .ok (if c then .tuple #[z, .bool false] else z) w) ∨
    ∃ v, Has es key v ∧ (Instr.lookup t (.map (some b)) key c).run P w = .ok (if c then .tuple #[v, .bool true] else v) w := by
  obtain ⟨arr, clock, hb, rfl, _⟩ := h.block
  rcases K.find w hkey arr.toList h.keys with ⟨h1, h2⟩ | ⟨j, e0, h1, h2, h3⟩
  · exact .inl ⟨h2, by simp [Instr.lookup, run_underlying ht, MapKept.run_getObj_map hb, K.check w _ hkey, h1, hz, Result.andThen]⟩
  · exact .inr ⟨e0.val, ⟨e0, List.mem_of_getElem? h2, h3, rfl⟩, by simp [Instr.lookup, run_underlying ht, MapKept.run_getObj_map hb, K.check w _ hkey, h1, Result.andThen]⟩

/-- 'm[k]' at a map that is nil. -/
theorem run_lookup_nil {t e : TypeId} (c : Bool) (K : Keyed P k) (ht : P.underlying t = some (.map k e)) {z : Value} (hz : (zeroValue e).run P w = .ok z w) {key : Value} {kl : Lit} (hkey : keyOf P k key = some kl) :
    (Instr.lookup t (.map none) key c).run P w = .ok (if c then .tuple #[z, .bool false] else z) w := by
  rcases K.find w hkey [] (fun x hx => by cases hx) with ⟨h1, _⟩ | ⟨j, e0, _, h2, _⟩
  · simp [Instr.lookup, run_underlying ht, K.check w _ hkey, h1, hz, Result.andThen]
  · simp at h2

/-- 'm[k] = v'. -/
theorem MapIs.update {t e : TypeId} (h : MapIs P k w b es) (K : Keyed P k) (ht : P.underlying t = some (.map k e)) {key val : Value} {kl : Lit} (hkey : keyOf P k key = some kl) :
    ∃ o es', (Instr.mapUpdate t (.map (some b)) key val).run P w = .ok () (setBlock w b o) ∧ MapIs P k (setBlock w b o) b es' ∧ w.heap[b]? ≠ none ∧
      (∀ k' v', Has es' k' v' ↔ (k' = key ∧ v' = val) ∨ (k' ≠ key ∧ Has es k' v')) := by
  obtain ⟨arr, clock, hb, rfl, hold⟩ := h.block
  have hne : w.heap[b]? ≠ none := by rw [hb]; simp
  rcases K.find w hkey arr.toList h.keys with ⟨h1, h2⟩ | ⟨j, e0, h1, h2, h3⟩
  · refine ⟨.map (arr.push ⟨key, val, clock⟩) (clock + 1), arr.toList ++ [⟨key, val, clock⟩], ?_, ⟨⟨_, _, heap_setBlock_same hb _, by simp, ?_⟩, ?_, ?_, ?_⟩, hne, ?_⟩
    · simp [Instr.mapUpdate, run_underlying ht, MapKept.run_getObj_map hb, K.check w false hkey, h1, MapKept.run_setObj_map _ hb, Result.andThen, setBlock]
    · intro x hx
      rcases List.mem_append.1 hx with hx | hx
      · have := hold x hx; omega
      · simp at hx; subst hx; simp
    · intro x hx
      rcases List.mem_append.1 hx with hx | hx
      · exact h.keys x hx
      · simp at hx; subst hx; exact ⟨kl, hkey⟩
    · rw [List.map_append, List.nodup_append]
      refine ⟨h.born, by simp, fun a ha b' hb' => ?_⟩
      obtain ⟨x, hx, rfl⟩ := List.mem_map.1 ha
      simp at hb'
      subst hb'
      have := hold x hx
      omega
    · refine List.pairwise_append.2 ⟨h.apart, by simp, fun x hx y hy => ?_⟩
      simp at hy
      subst hy
      exact h2 x hx
    · intro k' v'
      constructor
      · rintro ⟨x, hx, rfl, rfl⟩
        rcases List.mem_append.1 hx with hx | hx
        · exact .inr ⟨h2 x hx, x, hx, rfl, rfl⟩
        · simp at hx; subst hx; exact .inl ⟨rfl, rfl⟩
      · rintro (⟨rfl, rfl⟩ | ⟨_, x, hx, rfl, rfl⟩)
        · exact ⟨⟨k', v', clock⟩, by simp, rfl, rfl⟩
        · exact ⟨x, by simp [hx], rfl, rfl⟩
  · have hj : arr[j]? = some e0 := by simpa using h2
    have hjl : j < arr.toList.length := (List.getElem?_eq_some_iff.1 h2).1
    have hlist : (arr.modify j (fun e' => { e' with key := key, val := val })).toList = arr.toList.set j { e0 with key := key, val := val } := by rw [Array.toList_modify, modify_eq_set _ _ _ _ h2]
    have hget : arr.toList[j] = e0 := (List.getElem?_eq_some_iff.1 h2).2
    refine ⟨.map (arr.modify j (fun e' => { e' with key := key, val := val })) clock, arr.toList.set j { e0 with key := key, val := val }, ?_, ⟨⟨_, _, heap_setBlock_same hb _, hlist, ?_⟩, ?_, ?_, ?_⟩, hne, ?_⟩
    · have hst : (Instr.keyThatStays key key).run P w = .ok key w := K.stays w hkey
      simp [Instr.mapUpdate, run_underlying ht, MapKept.run_getObj_map hb, K.check w false hkey, h1, hj, h3, hst, MapKept.run_setObj_map _ hb, Result.andThen, setBlock]
    · intro x hx
      rcases List.mem_or_eq_of_mem_set hx with hx | rfl
      · exact hold x hx
      · exact hold e0 (List.mem_of_getElem? h2)
    · intro x hx
      rcases List.mem_or_eq_of_mem_set hx with hx | rfl
      · exact h.keys x hx
      · exact ⟨kl, hkey⟩
    · rw [List.map_set]
      have : (arr.toList.map (·.born)).set j e0.born = arr.toList.map (·.born) := by
        apply List.ext_getElem?
        intro i
        rw [List.getElem?_set]
        split
        · rename_i e; subst e; simp only [List.length_map, hjl, if_true, List.getElem?_map, h2, Option.map_some]
        · rfl
      simpa [this] using h.born
    · rw [List.pairwise_iff_getElem]
      have ha := List.pairwise_iff_getElem.1 h.apart
      intro i i' hi hi' hlt
      simp only [List.length_set] at hi hi'
      have := ha i i' hi hi' hlt
      rw [List.getElem_set, List.getElem_set]
      split
      · rename_i e; subst e
        rw [if_neg (by omega)]
        rw [hget, h3] at this
        exact this
      · split
        · rename_i e; subst e
          rw [hget, h3] at this
          exact this
        · exact this
    · have apartj : ∀ x ∈ arr.toList, x.key = key → x = e0 := by
        intro x hx hxk
        obtain ⟨i, hi, rfl⟩ := List.getElem_of_mem hx
        have ha := List.pairwise_iff_getElem.1 h.apart
        rcases Nat.lt_trichotomy i j with hlt | rfl | hlt
        · have := ha i j hi hjl hlt
          rw [hget, h3] at this
          exact absurd hxk this
        · exact hget
        · have := ha j i hjl hi hlt
          rw [hget, h3] at this
          exact absurd hxk.symm this
      intro k' v'
      constructor
      · rintro ⟨x, hx, rfl, rfl⟩
        obtain ⟨i, hi, rfl⟩ := List.getElem_of_mem hx
        rw [List.getElem_set]
        simp only [List.length_set] at hi
        split
        · exact .inl ⟨rfl, rfl⟩
        · rename_i hne
          refine .inr ⟨fun e => ?_, _, List.getElem_mem hi, rfl, rfl⟩
          have ha := List.pairwise_iff_getElem.1 h.apart
          rcases Nat.lt_trichotomy i j with hlt | rfl | hlt
          · have := ha i j hi hjl hlt
            rw [hget, h3] at this
            exact this e
          · exact hne rfl
          · have := ha j i hjl hi hlt
            rw [hget, h3] at this
            exact this e.symm
      · rintro (⟨rfl, rfl⟩ | ⟨hne, x, hx, rfl, rfl⟩)
        · exact ⟨{ e0 with key := k', val := v' }, List.mem_iff_getElem.2 ⟨j, by simpa using hjl, by rw [List.getElem_set, if_pos rfl]⟩, rfl, rfl⟩
        · obtain ⟨i, hi, rfl⟩ := List.getElem_of_mem hx
          refine ⟨arr.toList[i], List.mem_iff_getElem.2 ⟨i, by simpa using hi, ?_⟩, rfl, rfl⟩
          rw [List.getElem_set]
          split
          · rename_i e; subst e
            rw [hget] at hne
            exact absurd h3 hne
          · rfl

/-- 'delete(m, k)'. -/
theorem MapIs.drop {t e ty : TypeId} (h : MapIs P k w b es) (K : Keyed P k) (ht : P.underlying t = some (.map k e)) {key : Value} {kl : Lit} (hkey : keyOf P k key = some kl) :
    ∃ o es', (Builtin.delete_ #[t, k] ty #[.map (some b), key]).run P w = .ok (.tuple #[]) (setBlock w b o) ∧ MapIs P k (setBlock w b o) b es' ∧ w.heap[b]? ≠ none ∧
      (∀ k' v', Has es' k' v' ↔ k' ≠ key ∧ Has es k' v') := by
  obtain ⟨arr, clock, hb, rfl, hold⟩ := h.block
  have hne : w.heap[b]? ≠ none := by rw [hb]; simp
  rcases K.find w hkey arr.toList h.keys with ⟨h1, h2⟩ | ⟨j, e0, h1, h2, h3⟩
  · refine ⟨.map arr clock, arr.toList, ?_, ⟨⟨_, _, heap_setBlock_same hb _, rfl, hold⟩, h.keys, h.born, h.apart⟩, hne, fun k' v' => ⟨fun h => ⟨?_, h⟩, fun h => h.2⟩⟩
    · simp [Builtin.delete_, run_underlying ht, MapKept.run_getObj_map hb, K.check w _ hkey, h1, MapKept.run_setObj_map _ hb, Result.andThen, setBlock]
    · obtain ⟨x, hx, rfl, _⟩ := h
      exact h2 x hx
  · have hjl : j < arr.toList.length := (List.getElem?_eq_some_iff.1 h2).1
    have hget : arr.toList[j] = e0 := (List.getElem?_eq_some_iff.1 h2).2
    have hlist : (arr.eraseIdxIfInBounds j).toList = arr.toList.eraseIdx j := by
      rw [Array.eraseIdxIfInBounds, dif_pos (by simpa using hjl), Array.toList_eraseIdx]
    have hsub : (arr.toList.eraseIdx j).Sublist arr.toList := List.eraseIdx_sublist ..
    refine ⟨.map (arr.eraseIdxIfInBounds j) clock, arr.toList.eraseIdx j, ?_, ⟨⟨_, _, heap_setBlock_same hb _, hlist, fun x hx => hold x (hsub.subset hx)⟩, fun x hx => h.keys x (hsub.subset hx), ?_, h.apart.sublist hsub⟩, hne, ?_⟩
    · simp [Builtin.delete_, run_underlying ht, MapKept.run_getObj_map hb, K.check w _ hkey, h1, MapKept.run_setObj_map _ hb, Result.andThen, setBlock]
    · exact (hsub.map _).nodup h.born
    · have ha := List.pairwise_iff_getElem.1 h.apart
      intro k' v'
      constructor
      · rintro ⟨x, hx, rfl, rfl⟩
        refine ⟨fun e => ?_, x, hsub.subset hx, rfl, rfl⟩
        obtain ⟨i, hne', hi⟩ := List.mem_eraseIdx_iff_getElem?.1 hx
        have hil : i < arr.toList.length := (List.getElem?_eq_some_iff.1 hi).1
        have hxi : arr.toList[i] = x := (List.getElem?_eq_some_iff.1 hi).2
        rcases Nat.lt_trichotomy i j with hlt | he | hlt
        · have := ha i j hil hjl hlt
          rw [hget, h3, hxi] at this
          exact this e
        · exact hne' he
        · have := ha j i hjl hil hlt
          rw [hget, h3, hxi] at this
          exact this e.symm
      · rintro ⟨hne', x, hx, rfl, rfl⟩
        refine ⟨x, List.mem_eraseIdx_iff_getElem?.2 ?_, rfl, rfl⟩
        obtain ⟨i, hi, rfl⟩ := List.getElem_of_mem hx
        refine ⟨i, fun e => ?_, List.getElem?_eq_getElem hi⟩
        subst e
        rw [hget] at hne'
        exact hne' h3

/-- 'len(m)'. -/
theorem MapIs.len {t e ty : TypeId} (h : MapIs P k w b es) (ht : P.underlying t = some (.map k e)) : (Builtin.len_ #[t] ty #[.map (some b)]).run P w = .ok (.int .i64 es.length) w := by
  obtain ⟨arr, clock, hb, rfl, _⟩ := h.block
  simp [Builtin.len_, run_underlying ht, MapKept.run_getObj_map hb, Result.andThen, goInt]

/-! ### a range over a map -/
/-- Block r is an iterator over the map in block b, which has still to come to the entries 'left'. -/
structure IterIs (w : World) (r b : Nat) (es left : List MapEntry) : Prop where
  ex : ∃ since c0 seen arr clock, w.heap[r]? = some (.mapIter (some b) since seen c0) ∧ w.heap[b]? = some (.map arr clock) ∧ arr.toList = es ∧ (∀ x ∈ es, x.born < since) ∧ since ≤ c0 ∧ since ≤ clock ∧ (leftOf arr seen).toList = left

theorem IterIs.same {w' : World} {r : Nat} {left : List MapEntry} (h : IterIs w r b es left) (hr : w'.heap[r]? = w.heap[r]?) (hb : w'.heap[b]? = w.heap[b]?) : IterIs w' r b es left := by
  obtain ⟨since, c0, seen, arr, clock, h1, h2, h3⟩ := h.ex
  exact ⟨⟨since, c0, seen, arr, clock, hr.trans h1, hb.trans h2, h3⟩⟩

theorem IterIs.mem {r : Nat} {left : List MapEntry} (h : IterIs w r b es left) : ∀ x ∈ left, x ∈ es := by
  obtain ⟨since, c0, seen, arr, clock, h1, h2, rfl, h4, h5, h6, rfl⟩ := h.ex
  intro x hx
  unfold leftOf at hx
  simp at hx ⊢
  exact hx.1

/-- 'range m'. -/
theorem MapIs.range {t e : TypeId} (h : MapIs P k w b es) (ht : P.underlying t = some (.map k e)) :
    ∃ o, (Instr.range t (.map (some b))).run P w = .ok (.pointer (some ⟨w.heap.size, 0, none⟩)) (w.alloc o) ∧ IterIs (w.alloc o) w.heap.size b es es := by
  obtain ⟨arr, clock, hb, rfl, hold⟩ := h.block
  refine ⟨.mapIter (some b) clock #[] clock, ?_, ⟨⟨clock, clock, #[], arr, clock, (MapKept.heap_alloc w _).1, by rw [(MapKept.heap_alloc w _).2 b h.lt]; exact hb, rfl, hold, Nat.le_refl _, Nat.le_refl _, by unfold leftOf; simp⟩⟩⟩
  simp [Instr.range, run_underlying ht, MapKept.run_getObj_map hb, Result.andThen, newObj]
  rfl

/-- 'next'. -/
theorem IterIs.next {ty : TypeId} {r : Nat} {left : List MapEntry} (h : IterIs w r b es left) (hm : MapIs P k w b es) (hne : r ≠ b) :
    (left = [] ∧ (Instr.next (.pointer (some ⟨r, 0, none⟩)) false ty).run P w = .ok (.tuple #[.bool false]) w) ∨
    ∃ x left' w', (w'.os = w.os ∧ w'.tape = w.tape ∧ w'.output = w.output ∧ w'.heap.size = w.heap.size ∧ ∀ i, i ≠ r → w'.heap[i]? = w.heap[i]?) ∧ left.Perm (x :: left') ∧
      (Instr.next (.pointer (some ⟨r, 0, none⟩)) false ty).run P w = .ok (.tuple #[.bool true, x.key, x.val]) w' ∧ IterIs w' r b es left' ∧
      (Instr.entry (.pointer (some ⟨r, 0, none⟩))).run P w' = .ok (.tuple #[x.key, x.val]) w' := by
  obtain ⟨since, c0, seen, arr, clock, hr, hb, rfl, hold, hsc, hsk, rfl⟩ := h.ex
  obtain ⟨arr', clock', hb', he', hcl⟩ := hm.block
  rw [hb] at hb'
  cases hb'
  rcases run_next_at (P := P) w ty r b since c0 seen arr clock hr hb hold hsc with ⟨h0, hrun⟩ | ⟨x, hx, w1, hw1, hrun⟩
  · exact .inl ⟨List.eq_nil_of_length_eq_zero (by simpa using h0), hrun⟩
  · have hw : w1.os = w.os ∧ w1.tape = w.tape ∧ w1.output = w.output ∧ w1.heap = w.heap := by rcases hw1 with rfl | rfl <;> exact ⟨rfl, rfl, rfl, rfl⟩
    have hx0 : x ∈ arr.toList := h.mem x hx
    have hr1 : w1.heap[r]? = some (.mapIter (some b) since seen c0) := by rw [hw.2.2.2]; exact hr
    have hsz : r < w1.heap.size := (Array.getElem?_eq_some_iff.1 hr1).1
    have hset : ∀ o, (setBlock w1 r o).heap[r]? = some o := fun o => by simp [setBlock, hsz]
    have hoth : ∀ o i, i ≠ r → (setBlock w1 r o).heap[i]? = w.heap[i]? := fun o i hi => by
      simp only [setBlock]
      rw [Array.getElem?_setIfInBounds_ne (Ne.symm hi), hw.2.2.2]
    refine .inr ⟨x, (leftOf arr (seen.push x.born)).toList, setBlock w1 r (.mapIter (some b) since (seen.push x.born) clock), ⟨hw.1, hw.2.1, hw.2.2.1, by simp [setBlock, hw.2.2.2], fun i hi => hoth _ i hi⟩, ?_, hrun, ⟨⟨since, clock, seen.push x.born, arr, clock, hset _, by rw [hoth _ b (Ne.symm hne)]; exact hb, rfl, hold, hsk, hsk, rfl⟩⟩, ?_⟩
    · have e1 : (leftOf arr (seen.push x.born)).toList = (leftOf arr seen).toList.filter (fun y => !(y.born == x.born)) := by
        unfold leftOf
        simp only [Array.toList_filter, List.filter_filter]
        refine List.filter_congr fun y _ => ?_
        rw [Array.contains_push]
        cases seen.contains y.born <;> simp [Bool.beq_comm]
      rw [e1]
      have hnd : (leftOf arr seen).toList.Nodup := by
        have : ((leftOf arr seen).toList).Sublist arr.toList := by unfold leftOf; rw [Array.toList_filter]; exact List.filter_sublist
        exact List.Pairwise.imp (fun h e => h (congrArg MapEntry.born e)) (List.pairwise_map.1 ((this.map MapEntry.born).nodup hm.born))
      have hinj : ∀ y ∈ (leftOf arr seen).toList, y.born = x.born → y = x := fun y hy e => by
        obtain ⟨i, hi, h1⟩ := List.getElem_of_mem (h.mem y hy)
        obtain ⟨j, hj, h2⟩ := List.getElem_of_mem hx0
        have hn := List.pairwise_iff_getElem.1 hm.born
        rcases Nat.lt_trichotomy i j with hlt | rfl | hlt
        · have := hn i j (by simpa using hi) (by simpa using hj) hlt
          simp only [List.getElem_map, h1, h2] at this
          exact absurd e this
        · rw [← h1, h2]
        · have := hn j i (by simpa using hj) (by simpa using hi) hlt
          simp only [List.getElem_map, h1, h2] at this
          exact absurd e.symm this
      generalize (leftOf arr seen).toList = L at hx hnd hinj
      clear hrun e1
      induction L with
      | nil => cases hx
      | cons y L ih =>
        have hnd' := List.nodup_cons.1 hnd
        by_cases hyx : y = x
        · subst hyx
          rw [List.filter_cons]
          simp only [beq_self_eq_true, Bool.not_true, Bool.false_eq_true, if_false]
          rw [List.filter_eq_self.2]
          intro z hz
          simp only [Bool.not_eq_true', beq_eq_false_iff_ne, ne_eq]
          intro e
          have := hinj z (by simp [hz]) e
          subst this
          exact hnd'.1 hz
        · have hb : (y.born == x.born) = false := by
            rw [beq_eq_false_iff_ne]
            exact fun e => hyx (hinj y (by simp) e)
          rw [List.filter_cons]
          simp only [hb, Bool.not_false, if_true]
          have hx' : x ∈ L := by
            rcases List.mem_cons.1 hx with e | h
            · exact absurd e.symm hyx
            · exact h
          exact ((ih hx' hnd'.2 (fun z hz => hinj z (by simp [hz]))).cons y).trans (List.Perm.swap x y _)
    · exact run_entry_at _ r b since seen arr clock x (hset _) (by rw [hoth _ b (Ne.symm hne)]; exact hb) hx0 hm.born
end
end Go.Proofs.Ytjfeeampcgmngaa
