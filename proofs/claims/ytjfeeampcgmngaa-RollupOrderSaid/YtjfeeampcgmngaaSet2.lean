/- rollup.set: the other ways. -/
import Derived.Test.YtjfeeampcgmngaaSet
namespace Go.Proofs.Ytjfeeampcgmngaa
open Go.RowKit Go.Shelf Go.Maps
open Go.ChangeMaps (setBlock)

theorem RollAt.mapAre {F : Nat → Prop} {w : World} {r m fan : Nat} {es : List MapEntry} {M : Cont} (h : RollAt w r m fan es M F) {G : Nat → Prop} (hg : ∀ q, G q → F q) : AreMaps G w := fun q hq => h.maps q (hg q hq)

/-- An hour that has nothing gets a map of its own. -/
theorem RollAt.new_hour {w w' : World} {r m fan nb : Nat} {es es' es1 : List MapEntry} {M : Cont} {F : Nat → Prop} {hr : Nat} {e : Edge} {t : Tal} (h : RollAt w r m fan es M F) (hl : Lacks es (hourVal hr)) (hh : hr < limit)
    (hm' : MapIs Try.prog 2 w' m es') (hhas : ∀ k v, Has es' k v ↔ (k = hourVal hr ∧ v = .map (some nb)) ∨ (k ≠ hourVal hr ∧ Has es k v))
    (hi : InnerIs w' nb es1 fun e' => if e' = e then t else M hr e') (hne : es1 ≠ []) (hnb : w.heap.size ≤ nb) (hm : Mod (· = m) w w') (ht : t.Ok) (he : EdgeOk e) : RollAt w' r m fan es' (upd M hr e t) (fun q => F q ∨ q = nb) := by
  have hA : AreMaps (· = m) w := h.mapAre (fun q hq => by rw [hq]; exact h.foot)
  have hmlt := h.map.lt
  have hzero : ∀ e', M hr e' = tzero := fun e' => by
    by_cases h0 : M hr e' = tzero
    · exact h0
    · obtain ⟨_, _, x, hx, hk⟩ := h.all hr e' h0
      exact absurd hk (hl x hx)
  have hin : ∀ b, F b → b < w.heap.size := fun b hb => by
    obtain ⟨arr, c, h1⟩ := h.maps b hb
    exact (Array.getElem?_eq_some_iff.1 h1).1
  have old : ∀ x ∈ es', x.key ≠ hourVal hr → ∃ y ∈ es, y.key = x.key ∧ y.val = x.val := fun x hx hk => by
    rcases (hhas x.key x.val).1 ⟨x, hx, rfl, rfl⟩ with ⟨h1, _⟩ | ⟨_, h1⟩
    · exact absurd h1 hk
    · exact h1
  have new : ∀ x ∈ es', x.key = hourVal hr → x.val = .map (some nb) := fun x hx hk => by
    rcases (hhas x.key x.val).1 ⟨x, hx, rfl, rfl⟩ with ⟨_, h1⟩ | ⟨h1, _⟩
    · exact h1
    · exact absurd hk h1
  refine ⟨hm.cells hA h.blk, hm', fun x hx => ?_, fun h' e' h1 => ?_, fun x hx y hy hv => ?_, fun h' e' => ?_, .inl h.foot, fun q hq => ?_⟩
  · by_cases hk : x.key = hourVal hr
    · refine ⟨hr, nb, es1, hh, hk, new x hx hk, ?_, hne, by omega, .inr rfl⟩
      have e1 : upd M hr e t hr = fun e' => if e' = e then t else M hr e' := by
        funext e'
        unfold upd
        simp
      rw [e1]
      exact hi
    · obtain ⟨y, hy, hk1, hv1⟩ := old x hx hk
      obtain ⟨h', b', es2, j1, j2, j3, j4, j5, j6, j7⟩ := h.inner y hy
      refine ⟨h', b', es2, j1, by rw [← hk1, j2], by rw [← hv1, j3], ?_, j5, j6, .inl j7⟩
      have hne' : h' ≠ hr := fun e0 => hk (by rw [← hk1, j2, e0])
      have e1 : upd M hr e t h' = M h' := by
        funext e'
        unfold upd
        rw [if_neg (fun hh => hne' hh.1)]
      rw [e1]
      exact j4.mod hm hA j6
  · have hadd : ∃ x ∈ es', x.key = hourVal hr := by
      obtain ⟨x, hx, h2, _⟩ := (hhas (hourVal hr) (.map (some nb))).2 (.inl ⟨rfl, rfl⟩)
      exact ⟨x, hx, h2⟩
    unfold upd at h1
    split at h1
    · rename_i hh'
      obtain ⟨rfl, rfl⟩ := hh'
      exact ⟨hh, he, hadd⟩
    · obtain ⟨a1, a2, y, hy, hk⟩ := h.all h' e' h1
      refine ⟨a1, a2, ?_⟩
      by_cases e0 : h' = hr
      · rw [e0]; exact hadd
      · obtain ⟨x, hx, h2, _⟩ := (hhas y.key y.val).2 (.inr ⟨fun e2 => e0 (hourVal_inj (hk.symm.trans e2)), y, hy, rfl, rfl⟩)
        exact ⟨x, hx, h2.trans hk⟩
  · by_cases hkx : x.key = hourVal hr
    · by_cases hky : y.key = hourVal hr
      · rw [hkx, hky]
      · obtain ⟨y', hy', a1, a2⟩ := old y hy hky
        obtain ⟨h', b', es2, j1, j2, j3, j4, j5, j6, j7⟩ := h.inner y' hy'
        rw [new x hx hkx, ← a2, j3] at hv
        have : nb = b' := by simpa using hv
        have := hin b' j7
        omega
    · obtain ⟨x', hx', b1, b2⟩ := old x hx hkx
      by_cases hky : y.key = hourVal hr
      · obtain ⟨h', b', es2, j1, j2, j3, j4, j5, j6, j7⟩ := h.inner x' hx'
        rw [new y hy hky, ← b2, j3] at hv
        have : b' = nb := by simpa using hv
        have := hin b' j7
        omega
      · obtain ⟨y', hy', a1, a2⟩ := old y hy hky
        rw [← b1, ← a1]
        exact h.apart x' hx' y' hy' (by rw [b2, a2, hv])
  · unfold upd
    split
    · exact ht
    · exact h.ok h' e'
  · rcases hq with hq | rfl
    · by_cases hqm : q = m
      · subst hqm
        obtain ⟨arr, c, h1, _⟩ := hm'.block
        exact ⟨arr, c, h1⟩
      · obtain ⟨arr, c, h1⟩ := h.maps q hq
        exact ⟨arr, c, by rw [hm.block q (hin q hq) hqm, h1]⟩
    · obtain ⟨arr, c, h1, _⟩ := hi.map.block
      exact ⟨arr, c, h1⟩

/-- An hour of which the last edge is gone has nothing. -/
theorem RollAt.drop_hour {w w' : World} {r m fan b : Nat} {es es' : List MapEntry} {M : Cont} {F : Nat → Prop} {hr : Nat} {e : Edge} (h : RollAt w r m fan es M F) (hFb : F b)
    (hm' : MapIs Try.prog 2 w' m es') (hhas : ∀ k v, Has es' k v ↔ k ≠ hourVal hr ∧ Has es k v) (hzero : ∀ e', e' ≠ e → M hr e' = tzero)
    (hb : Has es (hourVal hr) (.map (some b))) (hm : Mod (fun q => q = m ∨ q = b) w w') (hbm : ∃ arr c, w'.heap[b]? = some (.map arr c)) : RollAt w' r m fan es' (upd M hr e tzero) F := by
  have hA : AreMaps (fun q => q = m ∨ q = b) w := h.mapAre (fun q hq => by rcases hq with rfl | rfl; exact h.foot; exact hFb)
  have old : ∀ x ∈ es', x.key ≠ hourVal hr ∧ ∃ y ∈ es, y.key = x.key ∧ y.val = x.val := fun x hx => (hhas x.key x.val).1 ⟨x, hx, rfl, rfl⟩
  have hin : ∀ b, F b → b < w.heap.size := fun b hb => by
    obtain ⟨arr, c, h1⟩ := h.maps b hb
    exact (Array.getElem?_eq_some_iff.1 h1).1
  have hz : ∀ e', upd M hr e tzero hr e' = tzero := fun e' => by
    unfold upd
    split
    · rfl
    · rename_i h1
      exact hzero e' (fun e0 => h1 ⟨rfl, e0⟩)
  have hM : ∀ h', h' ≠ hr → upd M hr e tzero h' = M h' := fun h' hne => by
    funext e'
    unfold upd
    rw [if_neg (fun hh => hne hh.1)]
  refine ⟨hm.cells hA h.blk, hm', fun x hx => ?_, fun h' e' h1 => ?_, fun x hx y hy hv => ?_, fun h' e' => ?_, h.foot, fun q hq => ?_⟩
  · obtain ⟨hk, y, hy, hk1, hv1⟩ := old x hx
    obtain ⟨h', b', es2, j1, j2, j3, j4, j5, j6, j7⟩ := h.inner y hy
    have hne' : h' ≠ hr := fun e0 => hk (by rw [← hk1, j2, e0])
    refine ⟨h', b', es2, j1, by rw [← hk1, j2], by rw [← hv1, j3], ?_, j5, j6, j7⟩
    rw [hM h' hne']
    refine j4.mod hm hA ?_
    rintro (e0 | e0)
    · exact j6 e0
    · subst e0
      obtain ⟨z, hz, k0, v0⟩ := hb
      have := h.apart y hy z hz (by rw [j3, v0])
      rw [j2, k0] at this
      exact hne' (hourVal_inj this)
  · have hne : h' ≠ hr := fun e0 => h1 (by rw [e0]; exact hz e')
    rw [hM h' hne] at h1
    obtain ⟨a1, a2, y, hy, hk⟩ := h.all h' e' h1
    obtain ⟨x, hx, h2, _⟩ := (hhas y.key y.val).2 ⟨fun e2 => hne (hourVal_inj (hk.symm.trans e2)), y, hy, rfl, rfl⟩
    exact ⟨a1, a2, x, hx, h2.trans hk⟩
  · obtain ⟨_, x', hx', b1, b2⟩ := old x hx
    obtain ⟨_, y', hy', a1, a2⟩ := old y hy
    rw [← b1, ← a1]
    exact h.apart x' hx' y' hy' (by rw [b2, a2, hv])
  · unfold upd
    split
    · exact tzero_ok
    · exact h.ok h' e'
  · by_cases hqm : q = m
    · subst hqm
      obtain ⟨arr, c, h1, _⟩ := hm'.block
      exact ⟨arr, c, h1⟩
    · by_cases hqb : q = b
      · subst hqb; exact hbm
      · obtain ⟨arr, c, h1⟩ := h.maps q hq
        exact ⟨arr, c, by rw [hm.block q (hin q hq) (by rintro (e0 | e0); exact hqm e0; exact hqb e0), h1]⟩

/-- Nothing turns where an hour that has nothing is struck. -/
theorem RollAt.same_hour {w w' : World} {r m fan : Nat} {es es' : List MapEntry} {M : Cont} {F : Nat → Prop} {hr : Nat} {e : Edge} (h : RollAt w r m fan es M F) (hl : Lacks es (hourVal hr))
    (hm' : MapIs Try.prog 2 w' m es') (hhas : ∀ k v, Has es' k v ↔ k ≠ hourVal hr ∧ Has es k v) (hm : Mod (· = m) w w') : RollAt w' r m fan es' (upd M hr e tzero) F := by
  have hA : AreMaps (· = m) w := h.mapAre (fun q hq => by rw [hq]; exact h.foot)
  have old : ∀ x ∈ es', ∃ y ∈ es, y.key = x.key ∧ y.val = x.val := fun x hx => ((hhas x.key x.val).1 ⟨x, hx, rfl, rfl⟩).2
  have back : ∀ y ∈ es, ∃ x ∈ es', x.key = y.key ∧ x.val = y.val := fun y hy => (hhas y.key y.val).2 ⟨hl y hy, y, hy, rfl, rfl⟩
  have hzero : ∀ e', M hr e' = tzero := fun e' => by
    by_cases h0 : M hr e' = tzero
    · exact h0
    · obtain ⟨_, _, x, hx, hk⟩ := h.all hr e' h0
      exact absurd hk (hl x hx)
  have hM : upd M hr e tzero = M := by
    funext h' e'
    unfold upd
    split
    · rename_i hh
      rw [hh.1, hzero]
    · rfl
  rw [hM]
  refine ⟨hm.cells hA h.blk, hm', fun x hx => ?_, fun h' e' h1 => ?_, fun x hx y hy hv => ?_, h.ok, h.foot, fun q hq => ?_⟩
  · obtain ⟨y, hy, hk1, hv1⟩ := old x hx
    obtain ⟨h', b', es2, j1, j2, j3, j4, j5, j6, j7⟩ := h.inner y hy
    exact ⟨h', b', es2, j1, by rw [← hk1, j2], by rw [← hv1, j3], j4.mod hm hA j6, j5, j6, j7⟩
  · obtain ⟨a1, a2, y, hy, hk⟩ := h.all h' e' h1
    obtain ⟨x, hx, h2, _⟩ := back y hy
    exact ⟨a1, a2, x, hx, h2.trans hk⟩
  · obtain ⟨x', hx', b1, b2⟩ := old x hx
    obtain ⟨y', hy', a1, a2⟩ := old y hy
    rw [← b1, ← a1]
    exact h.apart x' hx' y' hy' (by rw [b2, a2, hv])
  · by_cases hqm : q = m
    · subst hqm
      obtain ⟨arr, c, h1, _⟩ := hm'.block
      exact ⟨arr, c, h1⟩
    · obtain ⟨arr, c, h1⟩ := h.maps q hq
      exact ⟨arr, c, by rw [hm.block q (Array.getElem?_eq_some_iff.1 h1).1 hqm, h1]⟩
end Go.Proofs.Ytjfeeampcgmngaa
