/- Windows in memory: what they read stays where it lies. -/
import Derived.Test.YtjfeeampcgmngaaRange
import Derived.Test.YtjfeeampcgmngaaNone
import Derived.Test.YtjfeeampcgmngaaMrow
import Derived.Maps.AppendAt
namespace Go.Proofs.Ytjfeeampcgmngaa
open Go.RowKit Go.Shelf Go.Maps

/-- Cells of the blocks from B up to T stay. -/
def Stays (B T : Nat) (w w' : World) : Prop := ∀ b o v, B ≤ b → b < T → w.cell? ⟨b, o, none⟩ = some v → w'.cell? ⟨b, o, none⟩ = some v
theorem Stays.refl (B T : Nat) (w : World) : Stays B T w w := fun _ _ _ _ _ h => h
theorem Stays.trans {B T : Nat} {a b c : World} (h : Stays B T a b) (k : Stays B T b c) : Stays B T a c := fun g o v h1 h2 h3 => k g o v h1 h2 (h g o v h1 h2 h3)
theorem Stays.below {B T : Nat} {w w' : World} (h : Below w.heap.size w w') : Stays B T w w' := fun _ _ _ _ _ hc => bcell1 h hc
theorem Stays.grown {B T : Nat} {w w' : World} {row : Option Nat} (h : w.grownBy w' row) (hr : ∀ g, row = some g → ¬ (B ≤ g ∧ g < T)) : Stays B T w w' := fun b o v h1 h2 hc =>
  (World.cell?_of_block (w := w) (h.block b (cell_lt hc) fun e => hr b e.symm ⟨h1, h2⟩)).trans hc
theorem BarsAt.stays {B : Nat} {w w' : World} {A : Option Addr} {n : Nat} {l : List RBar} (h : BarsAt w A n l) (hA : ∀ a, A = some a → B ≤ a.block) (hs : Stays B w.heap.size w w') : BarsAt w' A n l :=
  ⟨h.1, fun hn => by
    obtain ⟨b, off, rfl, hc⟩ := h.2 hn
    have hB : B ≤ b := hA _ rfl
    exact ⟨b, off, rfl, fun i j c hi => ⟨hs b _ _ hB (cell_lt (hc i j c hi).1) (hc i j c hi).1, hs b _ _ hB (cell_lt (hc i j c hi).2) (hc i j c hi).2⟩⟩⟩
theorem TalAt.stays {B : Nat} {w w' : World} {v : Value} {t : RTal} (h : TalAt w v t) (hf : TalFrom B v) (hs : Stays B w.heap.size w w') : TalAt w' v t := by
  obtain ⟨A, n, c, rfl, h1, h2⟩ := h
  refine ⟨A, n, c, rfl, h1.stays (B := B) (fun a ha => ?_) hs, h2⟩
  subst ha
  exact hf _ _ _ a n c rfl
theorem EdgesAt.stays {B n : Nat} {w w' : World} {A : Option Addr} {L : List ET} (h : EdgesAt B w A n L) (hs : Stays B w.heap.size w w') : EdgesAt B w' A n L := by
  obtain ⟨d, h1, h2, h3, h4⟩ := h
  refine ⟨d, h1, h2, fun i x p hx hp => ?_, fun hn => ?_⟩
  · obtain ⟨a1, a2, a3, a4⟩ := h3 i x p hx hp
    exact ⟨a1, a2, a3.stays a4 hs, a4⟩
  · obtain ⟨b, off, rfl, hB, hb⟩ := h4 hn
    exact ⟨b, off, rfl, hB, fun i x hx j u hu => hs _ _ _ hB (cell_lt (hb i x hx j u hu)) (hb i x hx j u hu)⟩
theorem EdgesAt.below {B n : Nat} {w w' : World} {A : Option Addr} {L : List ET} (h : EdgesAt B w A n L) (hb : Below w.heap.size w w') : EdgesAt B w' A n L := h.stays (Stays.below hb)
theorem EdgesAt.len {B n : Nat} {w : World} {A : Option Addr} {L : List ET} (h : EdgesAt B w A n L) : n = L.length := by
  obtain ⟨d, h1, h2, _⟩ := h
  omega

structure WinV where
  fr : Nat
  hours : Nat
  A : Option Addr
  n : Nat
  c : Nat
def encW (x : WinV) : List Value := [.int .i64 x.fr, .int .i64 x.hours, .slice x.A x.n x.c]
def winCells (l : List WinV) : List Value := l.flatMap encW
theorem winCells_append (l m : List WinV) : winCells (l ++ m) = winCells l ++ winCells m := by unfold winCells; rw [List.flatMap_append]
theorem winCells_get : ∀ (l : List WinV) (i : Nat) (x : WinV), l[i]? = some x → ∀ j, j < 3 → (winCells l)[i * 3 + j]? = (encW x)[j]?
  | [], i, x, h, _, _ => by simp at h
  | y :: l, 0, x, h, j, hj => by
    simp at h
    subst h
    show (encW y ++ winCells l)[0 * 3 + j]? = _
    rw [Nat.zero_mul, Nat.zero_add, List.getElem?_append_left (by show j < 3; exact hj)]
  | y :: l, i + 1, x, h, j, hj => by
    show (encW y ++ winCells l)[(i + 1) * 3 + j]? = _
    rw [List.getElem?_append_right (by show 3 ≤ _; omega), show (encW y).length = 3 from rfl, show (i + 1) * 3 + j - 3 = i * 3 + j by omega]
    exact winCells_get l i x (by simpa using h) j hj
theorem winInfo : (Try.prog.info? 32).map (fun i => (i.zero, i.size, i.bytes)) = some (some (.agg #[.int .i64 0, .int .i64 0, .slice none 0 0]), 3, 40) := by kernel_rfl

abbrev WT := Nat × Nat × List ET
/-- A window's edges, laid at some time, stay since. -/
def WinKept (B0 : Nat) (own : Option Nat) (wr : World) (x : WinV) (p : WT) : Prop :=
  x.fr = p.1 ∧ x.hours = p.2.1 ∧ ∃ wi B, B0 ≤ B ∧ EdgesAt B wi x.A x.n p.2.2 ∧ wi.heap.size ≤ wr.heap.size ∧ Stays B wi.heap.size wi wr ∧ ∀ g, own = some g → ¬ (B ≤ g ∧ g < wi.heap.size)
theorem WinKept.below {B0 : Nat} {own : Option Nat} {w w' : World} {x : WinV} {p : WT} (h : WinKept B0 own w x p) (hb : Below w.heap.size w w') : WinKept B0 own w' x p := by
  obtain ⟨e1, e2, wi, B, h1, h2, h3, h4, h5⟩ := h
  exact ⟨e1, e2, wi, B, h1, h2, Nat.le_trans h3 hb.size, h4.trans (fun b o v _ _ hc => bcell1 hb hc), h5⟩
theorem WinKept.grown {B0 : Nat} {own own' : Option Nat} {w w' : World} {x : WinV} {p : WT} (h : WinKept B0 own w x p) (hg : w.grownBy w' own) (ho : own' = own ∨ own' = some w.heap.size) : WinKept B0 own' w' x p := by
  obtain ⟨e1, e2, wi, B, h1, h2, h3, h4, h5⟩ := h
  refine ⟨e1, e2, wi, B, h1, h2, Nat.le_trans h3 hg.size, h4.trans (Stays.grown hg h5), fun g e => ?_⟩
  rcases ho with rfl | rfl
  · exact h5 g e
  · cases e
    omega
theorem WinKept.now {B0 : Nat} {own : Option Nat} {w : World} {x : WinV} {p : WT} (h : WinKept B0 own w x p) : EdgesAt B0 w x.A x.n p.2.2 := by
  obtain ⟨e1, e2, wi, B, h1, h2, h3, h4, h5⟩ := h
  exact (h2.stays h4).le h1

/-- Windows that lie in memory. -/
def WinsAt (B : Nat) (w : World) (A : Option Addr) (n : Nat) (L : List WT) : Prop :=
  ∃ d : List WinV, n = d.length ∧ d.length = L.length ∧ (∀ (i : Nat) (x : WinV) (p : WT), d[i]? = some x → L[i]? = some p → x.fr = p.1 ∧ x.hours = p.2.1 ∧ EdgesAt B w x.A x.n p.2.2) ∧
    (0 < n → ∃ b off, A = some ⟨b, off, none⟩ ∧ B ≤ b ∧ ∀ (i : Nat) (x : WinV), d[i]? = some x → ∀ (j : Nat) u, (encW x)[j]? = some u → w.cell? ⟨b, off + (i * 3 + j), none⟩ = some u)
theorem WinsAt.stays {B n : Nat} {w w' : World} {A : Option Addr} {L : List WT} (h : WinsAt B w A n L) (hs : Stays B w.heap.size w w') : WinsAt B w' A n L := by
  obtain ⟨d, h1, h2, h3, h4⟩ := h
  refine ⟨d, h1, h2, fun i x p hx hp => ?_, fun hn => ?_⟩
  · obtain ⟨a1, a2, a3⟩ := h3 i x p hx hp
    exact ⟨a1, a2, a3.stays hs⟩
  · obtain ⟨b, off, rfl, hB, hb⟩ := h4 hn
    exact ⟨b, off, rfl, hB, fun i x hx j u hu => hs _ _ _ hB (cell_lt (hb i x hx j u hu)) (hb i x hx j u hu)⟩
theorem WinsAt.below {B n : Nat} {w w' : World} {A : Option Addr} {L : List WT} (h : WinsAt B w A n L) (hb : Below w.heap.size w w') : WinsAt B w' A n L := h.stays (Stays.below hb)
theorem WinsAt.le {B C n : Nat} {w : World} {A : Option Addr} {L : List WT} (h : WinsAt C w A n L) (hb : B ≤ C) : WinsAt B w A n L := by
  obtain ⟨d, h1, h2, h3, h4⟩ := h
  exact ⟨d, h1, h2, fun i x p hx hp => ⟨(h3 i x p hx hp).1, (h3 i x p hx hp).2.1, (h3 i x p hx hp).2.2.le hb⟩, fun hn => by
    obtain ⟨b, off, e, h5, h6⟩ := h4 hn
    exact ⟨b, off, e, Nat.le_trans hb h5, h6⟩⟩
theorem WinsAt.len {B n : Nat} {w : World} {A : Option Addr} {L : List WT} (h : WinsAt B w A n L) : n = L.length := by
  obtain ⟨d, h1, h2, _⟩ := h
  omega

/-- Windows that a walk has collected. -/
structure WinRow (B : Nat) (v : Value) (wr : World) (L : List WT) (d : List WinV) : Prop where
  own : wr.ownsRow B 32 3 v d.length (winCells d)
  len : d.length = L.length
  kept : ∀ (i : Nat) (x : WinV) (p : WT), d[i]? = some x → L[i]? = some p → WinKept B v.ownBlock wr x p
theorem WinRow.nil (B : Nat) (w : World) : WinRow B (.slice none 0 0) w [] [] := ⟨World.ownsRow_nil _ _ _ _, rfl, fun i x p h => by simp at h⟩
theorem WinRow.snoc {B : Nat} {v v' : Value} {w w' : World} {L : List WT} {d : List WinV} {x : WinV} {p : WT} (h : ∀ (i : Nat) (x : WinV) (p : WT), d[i]? = some x → L[i]? = some p → WinKept B v.ownBlock w x p) (hl : d.length = L.length)
    (hx : WinKept B v.ownBlock w x p) (hown : w'.ownsRow B 32 3 v' (d.length + 1) (winCells d ++ encW x)) (hg : w.grownBy w' v.ownBlock) (ho : v'.ownBlock = v.ownBlock ∨ v'.ownBlock = some w.heap.size) : WinRow B v' w' (L ++ [p]) (d ++ [x]) := by
  refine ⟨by rw [List.length_append, winCells_append]; simpa [winCells] using hown, by simp [hl], fun i y q hy hq => ?_⟩
  rcases Nat.lt_or_ge i d.length with hi | hi
  · rw [List.getElem?_append_left hi] at hy
    rw [List.getElem?_append_left (by omega)] at hq
    exact (h i y q hy hq).grown hg ho
  · have hi' : i = d.length := by
      have := (List.getElem?_eq_some_iff.1 hy).1
      simp at this
      omega
    subst hi'
    rw [List.getElem?_append_right (Nat.le_refl _)] at hy
    rw [List.getElem?_append_right (by omega), hl] at hq
    simp at hy hq
    subst hy
    subst hq
    exact hx.grown hg ho
theorem WinRow.wins {B : Nat} {v : Value} {w : World} {L : List WT} {d : List WinV} (h : WinRow B v w L d) : ∃ A c, v = .slice A d.length c ∧ d.length ≤ c ∧ WinsAt B w A d.length L := by
  rcases h.own.2 with ⟨rfl, h0⟩ | ⟨g, cap, cur, rfl, hb, hh, hnc, hcm, hcs, hcur⟩
  · rw [h0]
    exact ⟨none, 0, rfl, Nat.le_refl _, d, h0.symm, h.len, fun i x p hx hp => ⟨(h.kept i x p hx hp).1, (h.kept i x p hx hp).2.1, (h.kept i x p hx hp).now⟩, fun hn => absurd hn (by omega)⟩
  · refine ⟨some ⟨g, 0, none⟩, cap, rfl, hnc, d, rfl, h.len, fun i x p hx hp => ⟨(h.kept i x p hx hp).1, (h.kept i x p hx hp).2.1, (h.kept i x p hx hp).now⟩, fun _ => ⟨g, 0, rfl, hb, fun i x hi j u hu => ?_⟩⟩
    have hj : j < 3 := (List.getElem?_eq_some_iff.1 hu).1
    have hk := winCells_get d i x hi j hj
    rw [hu] at hk
    rw [← hcur, List.getElem?_take] at hk
    split at hk
    · simp [World.cell?, hh]
      simpa using hk
    · cases hk
end Go.Proofs.Ytjfeeampcgmngaa
