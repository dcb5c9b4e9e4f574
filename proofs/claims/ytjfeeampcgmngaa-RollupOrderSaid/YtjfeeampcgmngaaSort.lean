/- slices.SortFunc over a list of edges. -/
import Derived.Test.YtjfeeampcgmngaaOut
import Derived.Test.YtjfeeampcgmngaaShelf
namespace Go.Proofs.Ytjfeeampcgmngaa
open Go.RowKit Go.Shelf Go.Maps

/-- A slice that reads as these edges. -/
def EdgesAt (B : Nat) (w : World) (A : Option Addr) (n : Nat) (L : List ET) : Prop :=
  ∃ d : List ETV, n = d.length ∧ d.length = L.length ∧ (∀ (i : Nat) (x : ETV) (p : ET), d[i]? = some x → L[i]? = some p → x.e = p.1 ∧ EdgeOk p.1 ∧ TalAt w x.val p.2.raw ∧ TalFrom B x.val) ∧
    (0 < n → ∃ b off, A = some ⟨b, off, none⟩ ∧ B ≤ b ∧ ∀ (i : Nat) (x : ETV), d[i]? = some x → ∀ (j : Nat) u, (encE x natHi natLo)[j]? = some u → w.cell? ⟨b, off + (i * 9 + j), none⟩ = some u)
theorem EdgesAt.nil (B : Nat) (w : World) (A : Option Addr) : EdgesAt B w A 0 [] := ⟨[], rfl, rfl, fun i x p h => by simp at h, fun h => absurd h (by omega)⟩

theorem encE_length (x : ETV) : (encE x natHi natLo).length = 9 := rfl
theorem etCells_get : ∀ (l : List ETV) (i : Nat) (x : ETV), l[i]? = some x → ∀ j, j < 9 → (etCells l)[i * 9 + j]? = (encE x natHi natLo)[j]?
  | [], i, x, h, _, _ => by simp at h
  | y :: l, 0, x, h, j, hj => by
    simp at h
    subst h
    show (encE y natHi natLo ++ etCells l)[0 * 9 + j]? = _
    rw [Nat.zero_mul, Nat.zero_add, List.getElem?_append_left (by rw [encE_length]; exact hj)]
  | y :: l, i + 1, x, h, j, hj => by
    show (encE y natHi natLo ++ etCells l)[(i + 1) * 9 + j]? = _
    rw [List.getElem?_append_right (by rw [encE_length]; omega), encE_length, show (i + 1) * 9 + j - 9 = i * 9 + j by omega]
    exact etCells_get l i x (by simpa using h) j hj

theorem elt_swo : Go.Sort.SWO (ltOf fun x y : ETV => ecmp x.e y.e) := by
  have hlt : ∀ x y : ETV, ltOf (fun x y : ETV => ecmp x.e y.e) x y = decide (elt x.e y.e) := by
    intro x y
    unfold ltOf ecmp
    by_cases h1 : elt x.e y.e
    · simp [h1]
    · by_cases h2 : elt y.e x.e <;> simp [h1, h2]
  refine ⟨fun x => ?_, fun x y z h1 h2 => ?_, fun x y z h1 h2 => ?_⟩
  · rw [hlt]; simpa using elt_irrefl x.e
  · rw [hlt] at *
    simp only [decide_eq_true_eq] at *
    exact elt_trans h1 h2
  · rw [hlt] at *
    simp only [decide_eq_false_iff_not] at *
    intro h3
    by_cases h4 : elt y.e x.e
    · exact h2 (elt_trans h4 h3)
    · have e := elt_total h1 h4
      rw [e] at h3
      exact h2 h3
theorem lt_elt (x y : ETV) : ltOf (fun x y : ETV => ecmp x.e y.e) x y = false ↔ ¬ elt x.e y.e := by
  unfold ltOf ecmp
  by_cases h1 : elt x.e y.e
  · simp [h1]
  · by_cases h2 : elt y.e x.e <;> simp [h1, h2]

theorem put_block (enc : ETV → List Value) (k : Nat) (w : World) (blk off m : Nat) (d : Array ETV) (os : Array Obj) (i : Nat) (hi : i < w.heap.size) (hne : i ≠ blk) : (sortWorldK enc k w blk off m d os).heap[i]? = w.heap[i]? := by
  show ((w.heap.modify blk _) ++ os)[i]? = _
  rw [Array.getElem?_append_left (by simpa using hi), Array.getElem?_modify, if_neg (Ne.symm hne)]

theorem sorted_tells {B : Nat} {W wr : World} {b0 : Nat} {ea : List MapEntry} {g : Edge → Tal} {v : Value} {done : List ETV} (h : OutAt B W b0 ea g v wr [] done) (d' : List ETV) (hp : d'.Perm done) (hs : d'.Pairwise fun x y => ¬ elt y.e x.e) : Tells (d'.map fun x => (x.e, g x.e)) g := by
  have hnd : (d'.map (·.e)).Nodup := (hp.map _).nodup_iff.2 h.nodup
  have hr : Rises (d'.map fun x => (x.e, g x.e)) := by
    unfold Rises
    rw [List.pairwise_map]
    have h1 : d'.Pairwise fun x y => x.e ≠ y.e := List.pairwise_map.1 hnd
    exact (hs.and h1).imp fun {x y} ⟨a, b⟩ => Classical.byContradiction fun hc => b (elt_total hc a)
  refine ⟨hr, fun p hp' => ?_, fun e => ?_⟩
  · obtain ⟨x, hx, rfl⟩ := List.mem_map.1 hp'
    exact (h.tell x (hp.mem_iff.1 hx)).2.2
  · by_cases hz : g e = tzero
    · rw [hz]
      refine look_absent fun p hp' e0 => ?_
      obtain ⟨x, hx, rfl⟩ := List.mem_map.1 hp'
      have := (h.tell x (hp.mem_iff.1 hx)).2.2
      simp only at e0
      rw [e0] at this
      exact this hz
    · rcases h.all e hz with ⟨x, hx, _⟩ | ⟨x, hx, rfl⟩
      · cases hx
      · exact look_mem (p := (x.e, g x.e)) hr.ne (List.mem_map.2 ⟨x, hp.mem_iff.2 hx, rfl⟩)

theorem order_enters (args : Array Value) (w : World) : (callFunc 39 args).run Try.prog w = .ok (.enter 39 args) w := enters_of Try.func39 (by kernel_rfl) rfl args w

set_option maxRecDepth 100000 in
set_option maxHeartbeats 2000000 in
theorem sort_out {B : Nat} {W wr : World} {b0 : Nat} {ea : List MapEntry} {g : Edge → Tal} {v : Value} {done : List ETV} (h : OutAt B W b0 ea g v wr [] done) (hB : B ≤ W.heap.size) (hlen : done.length ≤ 4000000000000) :
    Calls Try.prog 38 #[v, .func (.func 39) #[] #[]] wr fun en w' => en = .returned (.tuple #[]) ∧ ∃ A c L, v = .slice A done.length c ∧ EdgesAt B w' A done.length L ∧ Tells L g ∧ Below W.heap.size W w' := by
  rcases h.own.2 with ⟨rfl, h0⟩ | ⟨gb, cap, cur, rfl, hge, hb, hnc, hcm, hcs, hcur⟩
  · refine (AnyF.slices_SortFunc_none Try.sortEdges none 0 _ wr).mono ?_
    rintro e w' ⟨rfl, rfl⟩
    have hd : done = [] := List.eq_nil_of_length_eq_zero h0
    subst hd
    exact ⟨rfl, none, 0, [], rfl, EdgesAt.nil _ _ _, sorted_tells h [] (List.Perm.refl _) (by simp), h.below⟩
  · have hblk : gb < wr.heap.size := (Array.getElem?_eq_some_iff.1 hb).1
    have hH : Go.Sort.HoldsK (fun x => encE x natHi natLo) 9 wr gb 0 done.toArray := by
      intro t ht
      have ht' : t < done.length * 9 := by simpa using ht
      rw [Go.Sort.get_flatK _ _ _ _ (by simpa using ht)]
      have hq : t / 9 < done.length := by omega
      have hx : done[t / 9]? = some done[t / 9] := List.getElem?_eq_getElem hq
      have hg := etCells_get done (t / 9) _ hx (t % 9) (by omega)
      rw [show t / 9 * 9 + t % 9 = t by omega] at hg
      have hm : t % 9 < (encE done[t / 9] natHi natLo).length := by rw [encE_length]; omega
      have he : (done.toArray[t / 9]!) = done[t / 9] := by simp [hq]
      refine ⟨?_, ?_⟩
      · rw [he, getElem!_pos (encE done[t / 9] natHi natLo) (t % 9) hm]
        rw [← hcur, List.getElem?_take, List.getElem?_eq_getElem hm] at hg
        simp only [ht', if_true] at hg
        simp only [World.cell?, hb, Nat.zero_add, id]
        simpa using hg
      · simp [World.frozen?, hb]
    refine (AnyQ.slices_SortFunc Try.sortEdges 9 Try.isAgg62 Try.sizeOf62 (fun x : ETV => encE x natHi natLo) (fun _ => rfl) ?_ (fun x y => ecmp x.e y.e) elt_swo 39 #[] gb 0 cap done.toArray wr order_enters ?_ hH hblk (by simp; omega)).mono ?_
    · intro x u hu
      simp [encE] at hu
      rcases hu with rfl | rfl | rfl | rfl | rfl | rfl | rfl | rfl | rfl <;> rfl
    · intro m os dk _ x y
      refine (order_any natHi natLo _ x y).mono ?_
      rintro e w' ⟨h1, q, os', h2⟩
      exact ⟨h1, q, os', h2⟩
    · rintro e w' ⟨rfl, d', n, os, ⟨hsz, -, hperm⟩, hsort, rfl⟩
      have hsz' : d'.size = done.length := by simpa using hsz
      have hp : d'.toList.Perm done := by
        have e1 : (d'.extract 0 done.toArray.size) = d' := by rw [← hsz]; simp
        have e2 : (done.toArray.extract 0 done.toArray.size) = done.toArray := by simp
        rw [e1, e2] at hperm
        exact hperm
      have hs : d'.toList.Pairwise fun x y => ¬ elt y.e x.e := by
        rw [List.pairwise_iff_getElem]
        intro i j hi hj hij
        have hj' : j < d'.size := by simpa using hj
        have hi' : i < d'.size := by simpa using hi
        have := hsort i j (Nat.zero_le _) hij (by simpa [hsz'] using hj')
        rw [getElem!_pos d' j hj', getElem!_pos d' i hi'] at this
        simpa using (lt_elt _ _).1 this
      have hbw : Below W.heap.size W (sortWorldK (fun x => encE x natHi natLo) 9 wr gb 0 n d' os) :=
        ⟨h.below.os, h.below.tape, h.below.output, Nat.le_trans h.below.size (size_sortWorldK_c _ _ _ _ _ _ _ _), fun i hi => (put_block _ _ _ _ _ _ _ _ i (Nat.lt_of_lt_of_le hi h.below.size) (by omega)).trans (h.below.block i hi)⟩
      have hold := holdsK_sortWorldK_c (fun x : ETV => encE x natHi natLo) 9 wr gb 0 done.toArray d' n os hH hblk hsz
      refine ⟨rfl, some ⟨gb, 0, none⟩, cap, d'.toList.map fun x => (x.e, g x.e), rfl, ⟨d'.toList, by simpa using hsz'.symm, by simp, fun i x p h1 h2 => ?_, fun _ => ⟨gb, 0, rfl, by omega, fun i x h1 j u hu => ?_⟩⟩, sorted_tells h _ hp hs, hbw⟩
      · rw [List.getElem?_map, h1] at h2
        simp at h2
        subst h2
        have := h.tell x (hp.mem_iff.1 (List.mem_of_getElem? h1))
        exact ⟨rfl, this.1, this.2.1.below hbw, h.from_ x (hp.mem_iff.1 (List.mem_of_getElem? h1))⟩
      · have hj : j < 9 := by have := (List.getElem?_eq_some_iff.1 hu).1; rwa [encE_length] at this
        have hi : i < d'.size := by simpa using (List.getElem?_eq_some_iff.1 h1).1
        have := (hold (i * 9 + j) (by rw [Go.Sort.size_flatK]; omega)).1
        rw [Go.Sort.get_flatK _ _ _ _ (by omega), show (i * 9 + j) / 9 = i by omega, show (i * 9 + j) % 9 = j by omega] at this
        rw [this]
        have hx : d'[i]! = x := by
          rw [getElem!_pos d' i hi]
          have := (List.getElem?_eq_some_iff.1 h1).2
          simpa using this
        rw [hx]
        have hm : j < (encE x natHi natLo).length := by rw [encE_length]; exact hj
        rw [getElem!_pos (encE x natHi natLo) j hm]
        rw [List.getElem?_eq_getElem hm] at hu
        simpa using hu
end Go.Proofs.Ytjfeeampcgmngaa
