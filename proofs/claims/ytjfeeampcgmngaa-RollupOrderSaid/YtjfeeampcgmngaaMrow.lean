/- The rows that Merge lays out. -/
import Derived.Test.YtjfeeampcgmngaaOut
namespace Go.Proofs.Ytjfeeampcgmngaa
open Go.RowKit Go.Shelf Go.Maps

structure MRow where
  h : Nat
  d : ETV
def encR (x : MRow) : List Value := .int .i64 x.h :: encE x.d natHi natLo
def mrCells (l : List MRow) : List Value := l.flatMap encR
theorem mrCells_append (l m : List MRow) : mrCells (l ++ m) = mrCells l ++ mrCells m := by unfold mrCells; rw [List.flatMap_append]
theorem encR_length (x : MRow) : (encR x).length = 10 := rfl
theorem mrCells_get : ∀ (l : List MRow) (i : Nat) (x : MRow), l[i]? = some x → ∀ j, j < 10 → (mrCells l)[i * 10 + j]? = (encR x)[j]?
  | [], i, x, h, _, _ => by simp at h
  | y :: l, 0, x, h, j, hj => by
    simp at h
    subst h
    show (encR y ++ mrCells l)[0 * 10 + j]? = _
    rw [Nat.zero_mul, Nat.zero_add, List.getElem?_append_left (by rw [encR_length]; exact hj)]
  | y :: l, i + 1, x, h, j, hj => by
    show (encR y ++ mrCells l)[(i + 1) * 10 + j]? = _
    rw [List.getElem?_append_right (by rw [encR_length]; omega), encR_length, show (i + 1) * 10 + j - 10 = i * 10 + j by omega]
    exact mrCells_get l i x (by simpa using h) j hj
theorem mrInfo : (Try.prog.info? 77).map (fun i => (i.zero, i.size, i.bytes)) = some (some (.agg #[.int .i64 0, .string ByteArray.empty, .string ByteArray.empty, .int .u64 0, .int .u64 0, .int .u64 0, .int .u64 0, .int .u64 0, .int .u64 0, .slice none 0 0]), 10, 112) := by kernel_rfl

def RTell (w : World) (M : Cont) (x : MRow) : Prop := x.h < limit ∧ EdgeOk x.d.e ∧ TalAt w x.d.val (M x.h x.d.e).raw ∧ M x.h x.d.e ≠ tzero
/-- What has been laid out, and what is still to come. -/
structure RowsAt (W : World) (M : Cont) (P : Nat → Edge → Prop) (v : Value) (wr : World) (done : List MRow) : Prop where
  own : wr.ownsRow (W.heap.size + 1) 77 10 v done.length (mrCells done)
  tell : ∀ x ∈ done, RTell W M x
  nodup : (done.map fun x => (x.h, x.d.e)).Nodup
  apart : ∀ x ∈ done, ¬ P x.h x.d.e
  all : ∀ h e, M h e ≠ tzero → P h e ∨ ∃ x ∈ done, x.h = h ∧ x.d.e = e
  below : Below W.heap.size W wr

theorem RowsAt.congr {W wr : World} {M : Cont} {P P' : Nat → Edge → Prop} {v : Value} {done : List MRow} (h : RowsAt W M P v wr done) (hp : ∀ h e, P h e ↔ P' h e) : RowsAt W M P' v wr done :=
  ⟨h.own, h.tell, h.nodup, fun x hx hp' => h.apart x hx ((hp _ _).2 hp'), fun hr e he => (h.all hr e he).imp (hp _ _).1 id, h.below⟩
theorem RowsAt.step {W wr wr' : World} {M : Cont} {P P' : Nat → Edge → Prop} {v v' : Value} {done : List MRow} {x : MRow} (h : RowsAt W M P v wr done) (hx : P x.h x.d.e) (hp : ∀ h e, P' h e ↔ P h e ∧ ¬ (h = x.h ∧ e = x.d.e)) (ht : RTell W M x)
    (hown : wr'.ownsRow (W.heap.size + 1) 77 10 v' (done.length + 1) (mrCells done ++ encR x)) (hb : Below W.heap.size W wr') : RowsAt W M P' v' wr' (done ++ [x]) := by
  refine ⟨by rw [List.length_append, mrCells_append]; simpa [mrCells] using hown, fun y hy => ?_, ?_, fun y hy hy' => ?_, fun hr e he => ?_, hb⟩
  · rcases List.mem_append.1 hy with h1 | h1
    · exact h.tell y h1
    · simp at h1; subst h1; exact ht
  · rw [List.map_append, List.nodup_append]
    refine ⟨h.nodup, by simp, fun a ha b hb' e0 => ?_⟩
    simp at hb'
    subst hb'
    subst e0
    obtain ⟨y, hy, e1⟩ := List.mem_map.1 ha
    have := h.apart y hy
    simp only [Prod.mk.injEq] at e1
    rw [e1.1, e1.2] at this
    exact this hx
  · have h2 := (hp _ _).1 hy'
    rcases List.mem_append.1 hy with h1 | h1
    · exact h.apart y h1 h2.1
    · simp at h1; subst h1; exact h2.2 ⟨rfl, rfl⟩
  · by_cases e0 : hr = x.h ∧ e = x.d.e
    · exact .inr ⟨x, by simp, e0.1.symm, e0.2.symm⟩
    · rcases h.all hr e he with h1 | ⟨y, hy, h1⟩
      · exact .inl ((hp _ _).2 ⟨h1, e0⟩)
      · exact .inr ⟨y, by simp [hy], h1⟩
theorem RowsAt.next {W wr wr' : World} {M : Cont} {P : Nat → Edge → Prop} {v : Value} {done : List MRow} (h : RowsAt W M P v wr done) (hb : Below W.heap.size W wr') (hown : wr'.ownsRow (W.heap.size + 1) 77 10 v done.length (mrCells done)) : RowsAt W M P v wr' done :=
  ⟨hown, h.tell, h.nodup, h.apart, h.all, hb⟩
theorem RowsAt.count {W wr : World} {M : Cont} {P : Nat → Edge → Prop} {v : Value} {done : List MRow} {N : Nat} (h : RowsAt W M P v wr done) (hf : Few N M) : done.length ≤ N := by
  classical
  obtain ⟨S, h1, h2⟩ := hf
  have := nodup_le _ S h.nodup fun p hp => by
    obtain ⟨x, hx, rfl⟩ := List.mem_map.1 hp
    exact h2 _ _ (h.tell x hx).2.2.2
  simp at this
  omega
/-- One more can come: there is one that is not yet laid out. -/
theorem RowsAt.room {W wr : World} {M : Cont} {P : Nat → Edge → Prop} {v : Value} {done : List MRow} {N hr : Nat} {e : Edge} (h : RowsAt W M P v wr done) (hf : Few N M) (hx : P hr e) (hz : M hr e ≠ tzero) : done.length + 1 ≤ N := by
  classical
  obtain ⟨S, h1, h2⟩ := hf
  have hn : ((hr, e) :: done.map fun x => (x.h, x.d.e)).Nodup := List.nodup_cons.2 ⟨fun hm => by
    obtain ⟨x, hx', e1⟩ := List.mem_map.1 hm
    simp only [Prod.mk.injEq] at e1
    have := h.apart x hx'
    rw [e1.1, e1.2] at this
    exact this hx, h.nodup⟩
  have := nodup_le _ S hn fun p hp => by
    rcases List.mem_cons.1 hp with rfl | hp
    · exact h2 _ _ hz
    · obtain ⟨x, hx, rfl⟩ := List.mem_map.1 hp
      exact h2 _ _ (h.tell x hx).2.2.2
  simp at this
  omega

/-- A row's own cells are not touched by what turns an iterator. -/
theorem own_iter {w w' : World} {r b base : Nat} {es left : List MapEntry} {e : TypeId} {size n : Nat} {v : Value} {xs : List Value} (h : w.ownsRow base e size v n xs) (hi : IterIs w r b es left) (hw : ∀ i, i ≠ r → w'.heap[i]? = w.heap[i]?) : w'.ownsRow base e size v n xs := by
  refine ⟨h.1, ?_⟩
  rcases h.2 with h2 | ⟨g, cap, cur, h1, h2, h3, h4⟩
  · exact .inl h2
  · refine .inr ⟨g, cap, cur, h1, h2, ?_, h4⟩
    rw [hw g (fun e0 => ?_)]
    · exact h3
    · subst e0
      exact hi.noCells g rfl _ _ _ h3
/-- An iterator is not touched by what grows a row. -/
theorem IterIs.grown {w w' : World} {k : TypeId} {r b base : Nat} {es left : List MapEntry} {e : TypeId} {size n : Nat} {v : Value} {xs : List Value} (hi : IterIs w r b es left) (h : w.ownsRow base e size v n xs) (hg : w.grownBy w' v.ownBlock) (hm : MapIs Try.prog k w b es) : IterIs w' r b es left := by
  have hno : ∀ q, NoCells (· = q) w → some q ≠ v.ownBlock := fun q hq e0 => by
    rcases h.2 with ⟨rfl, _⟩ | ⟨g, cap, cur, rfl, h2, h3, h4⟩
    · simp [Value.ownBlock] at e0
    · simp [Value.ownBlock] at e0
      exact hq q rfl _ _ _ (by rw [e0]; exact h3)
  refine hi.same (hg.block _ hi.lt (hno _ hi.noCells)) (hg.block _ hm.lt (hno _ ?_))
  intro q hq c t f hc
  subst hq
  obtain ⟨arr, k', hb, _⟩ := hm.block
  rw [hb] at hc
  cases hc

/-! ### what is still to come -/
def PendO (M : Cont) (left : List MapEntry) (h : Nat) (e : Edge) : Prop := (∃ x ∈ left, x.key = hourVal h) ∧ M h e ≠ tzero
def PendI (M : Cont) (left : List MapEntry) (hr : Nat) (lb : List MapEntry) (h : Nat) (e : Edge) : Prop := PendO M left h e ∨ h = hr ∧ ∃ y ∈ lb, y.key = edgeVal e
theorem pend_enter {w : World} {M : Cont} {left left' eb : List MapEntry} {x : MapEntry} {hr b : Nat} (hp : left.Perm (x :: left')) (hk : x.key = hourVal hr) (hin : InnerIs w b eb (M hr)) (h : Nat) (e : Edge) : PendO M left h e ↔ PendI M left' hr eb h e := by
  constructor
  · rintro ⟨⟨y, hy, hky⟩, hz⟩
    rcases List.mem_cons.1 (hp.mem_iff.1 hy) with rfl | hy
    · have : hr = h := hourVal_inj (hk.symm.trans hky)
      subst this
      exact .inr ⟨rfl, hin.all e hz⟩
    · exact .inl ⟨⟨y, hy, hky⟩, hz⟩
  · rintro (⟨⟨y, hy, hky⟩, hz⟩ | ⟨rfl, y, hy, hky⟩)
    · exact ⟨⟨y, hp.mem_iff.2 (by simp [hy]), hky⟩, hz⟩
    · obtain ⟨e', _, h2, _, h4⟩ := hin.tells y hy
      have : e' = e := edgeVal_inj (h2.symm.trans hky)
      subst this
      exact ⟨⟨x, hp.mem_iff.2 (by simp), hk⟩, h4⟩
theorem pend_leave (M : Cont) (left : List MapEntry) (hr h : Nat) (e : Edge) : PendI M left hr [] h e ↔ PendO M left h e := by
  constructor
  · rintro (h1 | ⟨_, y, hy, _⟩)
    · exact h1
    · cases hy
  · exact .inl
theorem pend_step {M : Cont} {left lb lb' : List MapEntry} {y : MapEntry} {hr : Nat} {e0 : Edge} (hp : lb.Perm (y :: lb')) (hk : y.key = edgeVal e0) (ha : ∀ z ∈ lb', z.key ≠ y.key) (hl : ∀ x ∈ left, x.key ≠ hourVal hr) (h : Nat) (e : Edge) :
    PendI M left hr lb' h e ↔ PendI M left hr lb h e ∧ ¬ (h = hr ∧ e = e0) := by
  constructor
  · rintro (h1 | ⟨rfl, z, hz, hkz⟩)
    · refine ⟨.inl h1, ?_⟩
      rintro ⟨rfl, rfl⟩
      obtain ⟨⟨x, hx, hkx⟩, _⟩ := h1
      exact hl x hx hkx
    · refine ⟨.inr ⟨rfl, z, hp.mem_iff.2 (by simp [hz]), hkz⟩, ?_⟩
      rintro ⟨_, rfl⟩
      exact ha z hz (hkz.trans hk.symm)
  · rintro ⟨h1 | ⟨rfl, z, hz, hkz⟩, hno⟩
    · exact .inl h1
    · refine .inr ⟨rfl, ?_⟩
      rcases List.mem_cons.1 (hp.mem_iff.1 hz) with rfl | hz
      · exact absurd ⟨rfl, edgeVal_inj (hkz.symm.trans hk)⟩ hno
      · exact ⟨z, hz, hkz⟩

/-! ### one after another, put in -/
def mfold (M Mo : Cont) : List MRow → Cont
  | [] => M
  | x :: l => mfold (upd M x.h x.d.e (tadd (M x.h x.d.e) (Mo x.h x.d.e))) Mo l
theorem mfold_append (Mo : Cont) : ∀ (l m : List MRow) (M : Cont), mfold M Mo (l ++ m) = mfold (mfold M Mo l) Mo m
  | [], _, _ => rfl
  | _ :: l, m, _ => mfold_append Mo l m _
theorem mfold_absent (Mo : Cont) (h : Nat) (e : Edge) : ∀ (l : List MRow) (M : Cont), (∀ x ∈ l, ¬ (x.h = h ∧ x.d.e = e)) → mfold M Mo l h e = M h e
  | [], _, _ => rfl
  | x :: l, M, hn => by
    unfold mfold
    rw [mfold_absent Mo h e l _ fun y hy => hn y (by simp [hy])]
    unfold upd
    rw [if_neg]
    rintro ⟨rfl, rfl⟩
    exact hn x (by simp) ⟨rfl, rfl⟩
theorem mfold_there (Mo : Cont) (h : Nat) (e : Edge) : ∀ (l : List MRow) (M : Cont), (l.map fun x => (x.h, x.d.e)).Nodup → (∃ x ∈ l, x.h = h ∧ x.d.e = e) → mfold M Mo l h e = tadd (M h e) (Mo h e)
  | [], _, _, hx => by obtain ⟨x, hx, _⟩ := hx; cases hx
  | x :: l, M, hn, hx => by
    have hn' := List.nodup_cons.1 hn
    unfold mfold
    by_cases h0 : x.h = h ∧ x.d.e = e
    · obtain ⟨rfl, rfl⟩ := h0
      rw [mfold_absent Mo _ _ l _ fun y hy e0 => hn'.1 (List.mem_map.2 ⟨y, hy, by rw [e0.1, e0.2]⟩)]
      unfold upd
      rw [if_pos ⟨rfl, rfl⟩]
    · have : ∃ y ∈ l, y.h = h ∧ y.d.e = e := by
        obtain ⟨y, hy, h1⟩ := hx
        rcases List.mem_cons.1 hy with rfl | hy
        · exact absurd h1 h0
        · exact ⟨y, hy, h1⟩
      rw [mfold_there Mo h e l _ hn'.2 this]
      unfold upd
      rw [if_neg]
      rintro ⟨rfl, rfl⟩
      exact h0 ⟨rfl, rfl⟩
theorem RowsAt.folded {W wr : World} {M Mo : Cont} {P : Nat → Edge → Prop} {v : Value} {done : List MRow} (h : RowsAt W Mo P v wr done) (hp : ∀ h e, ¬ P h e) (hok : ∀ h e, (M h e).Ok) : mfold M Mo done = fun h e => tadd (M h e) (Mo h e) := by
  funext hr e
  by_cases h0 : Mo hr e = tzero
  · by_cases hx : ∃ x ∈ done, x.h = hr ∧ x.d.e = e
    · exact mfold_there Mo hr e done M h.nodup hx
    · rw [mfold_absent Mo hr e done M fun x hx' e0 => hx ⟨x, hx', e0⟩, h0, tadd_tzero (hok hr e)]
  · exact mfold_there Mo hr e done M h.nodup ((h.all hr e h0).resolve_left (hp hr e))
end Go.Proofs.Ytjfeeampcgmngaa
