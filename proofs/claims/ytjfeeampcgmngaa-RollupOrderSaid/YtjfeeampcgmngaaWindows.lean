/- rollup.Windows. -/
import Derived.Test.YtjfeeampcgmngaaWinK
import Derived.Test.YtjfeeampcgmngaaWide
import Derived.Lib.RowBridge
namespace Go.Proofs.Ytjfeeampcgmngaa
open Go.RowKit Go.Shelf Go.Maps

/-- Windows of one width tell what a rollup has. -/
structure WinsTell (M : Cont) (W : Nat) (L : List WT) : Prop where
  rises : (L.map (·.1)).Pairwise (· < ·)
  each : ∀ p ∈ L, p.1 % W = 0 ∧ p.2.1 = W ∧ Tells p.2.2 (fun e => hsum M e p.1 W) ∧ p.2.2 ≠ [] ∧ p.1 < limit
  all : ∀ h e, M h e ≠ tzero → h - h % W ∈ L.map (·.1)

/-! ### the hours that there are -/
theorem RollAt.someE {F : Nat → Prop} {w : World} {r m fan : Nat} {es : List MapEntry} {M : Cont} (h : RollAt w r m fan es M F) : ∀ x ∈ es, ∃ hr e, hr < limit ∧ x.key = hourVal hr ∧ M hr e ≠ tzero := by
  intro x hx
  obtain ⟨hr, b, es', h1, h2, h3, h4, h5, h6, h7⟩ := h.inner x hx
  cases es' with
  | nil => exact absurd rfl h5
  | cons y l =>
    obtain ⟨e, _, _, _, hz⟩ := h4.tells y (by simp)
    exact ⟨hr, e, h1, h2, hz⟩
theorem RollAt.few {F : Nat → Prop} {w : World} {r m fan N : Nat} {es : List MapEntry} {M : Cont} (h : RollAt w r m fan es M F) (hf : Few N M) : es.length ≤ N := by
  classical
  obtain ⟨S, h1, h2⟩ := hf
  have hn : (es.map fun x => keyNat x.key).Nodup := by
    refine List.pairwise_map.2 (List.Pairwise.imp_of_mem (fun {x y} hx hy hxy e => ?_) h.map.apart)
    obtain ⟨a, _, _, ha, _⟩ := h.someE x hx
    obtain ⟨b, _, _, hb, _⟩ := h.someE y hy
    rw [ha, hb, keyNat_hour, keyNat_hour] at e
    rw [ha, hb, e] at hxy
    exact hxy rfl
  have := nodup_le _ (S.map Prod.fst) hn fun k hk => by
    obtain ⟨x, hx, rfl⟩ := List.mem_map.1 hk
    obtain ⟨a, e, _, ha, hz⟩ := h.someE x hx
    rw [ha, keyNat_hour]
    exact List.mem_map.2 ⟨(a, e), h2 _ _ hz, rfl⟩
  simp at this
  omega

def begOf (W : Nat) (x : MapEntry) : Nat := keyNat x.key - keyNat x.key % W
def begs (wd : Nat) (l : List MapEntry) : List Int := l.map fun x => ((begOf wd x : Nat) : Int)
theorem begs_length (wd : Nat) (l : List MapEntry) : (begs wd l).length = l.length := List.length_map _
theorem begs_append (wd : Nat) (l m : List MapEntry) : begs wd (l ++ m) = begs wd l ++ begs wd m := List.map_append
def BegLoop (W : World) (m : Nat) (es : List MapEntry) (wd : Nat) (v : Value) (wr : World) : Prop :=
  ∃ left done, IterIs wr W.heap.size m es left ∧ es.Perm (done ++ left) ∧ wr.ownsRow (W.heap.size + 1) 2 1 v (begs wd done).length ((begs wd done).map (Value.int .i64)) ∧ Below W.heap.size W wr

/-! ### sorted, each once -/
theorem sortedB (l : List Int) : (l.mergeSort fun x y => decide (x ≤ y)).Pairwise (· ≤ ·) := by
  have := List.pairwise_mergeSort (le := fun x y : Int => decide (x ≤ y)) (fun a b c h1 h2 => by simp at *; omega) (fun a b => by simp; omega) l
  exact this.imp fun h => by simpa using h
open Go.Lib in
theorem keeps_back (d : Array Int) : ∀ i, ∃ k, k ≤ i ∧ keeps d k = true ∧ d[k]! = d[i]!
  | 0 => ⟨0, Nat.le_refl _, by simp [keeps], rfl⟩
  | i + 1 => by
    by_cases h : d[i + 1]! = d[i + 1 - 1]!
    · obtain ⟨k, h1, h2, h3⟩ := keeps_back d i
      exact ⟨k, by omega, h2, h3.trans h.symm⟩
    · exact ⟨i + 1, Nat.le_refl _, keeps_pos h, rfl⟩
open Go.Lib in
theorem compact_mem (zs : List Int) (x : Int) : x ∈ compact zs ↔ x ∈ zs := by
  unfold compact compactUpTo
  simp only [List.mem_map, List.mem_filter, List.mem_range]
  constructor
  · rintro ⟨i, ⟨hi, _⟩, rfl⟩
    simp [hi]
  · intro hx
    obtain ⟨i, hi, rfl⟩ := List.getElem_of_mem hx
    obtain ⟨k, h1, h2, h3⟩ := keeps_back zs.toArray i
    refine ⟨k, ⟨by omega, h2⟩, h3.trans ?_⟩
    simp [hi]
open Go.Lib in
theorem compact_rises (zs : List Int) (h : zs.Pairwise (· ≤ ·)) : (compact zs).Pairwise (· < ·) := by
  unfold compact compactUpTo
  rw [List.pairwise_map]
  have hp : ((List.range zs.length).filter (keeps zs.toArray)).Pairwise (· < ·) := List.Pairwise.sublist List.filter_sublist List.pairwise_lt_range
  refine hp.imp_of_mem fun {i j} hi hj hij => ?_
  have hi' := List.mem_range.1 (List.mem_filter.1 hi).1
  have hj' := List.mem_range.1 (List.mem_filter.1 hj).1
  have hk := (List.mem_filter.1 hj).2
  have hne : zs.toArray[j]! ≠ zs.toArray[j - 1]! := by
    intro e
    rw [keeps_neg (by omega) e] at hk
    cases hk
  have hs := List.pairwise_iff_getElem.1 h
  have g : ∀ k (hk : k < zs.length), zs.toArray[k]! = zs[k] := fun k hk => by simp [hk]
  rw [g j hj', g (j - 1) (by omega)] at hne
  rw [g i hi', g j hj']
  have h1 : zs[j - 1] ≤ zs[j] := hs (j - 1) j (by omega) hj' (by omega)
  have h2 : zs[i] ≤ zs[j - 1] := by
    by_cases e : i = j - 1
    · subst e; exact Int.le_refl _
    · exact hs i (j - 1) hi' (by omega) (by omega)
  omega

/-- Numbers in a row of one's own. -/
def IntsIn (B : Nat) (w : World) (v : Value) (zs : List Int) : Prop :=
  ∃ A c, v = .slice A zs.length c ∧ zs.length ≤ c ∧ (0 < zs.length → ∃ b, A = some ⟨b, 0, none⟩ ∧ B ≤ b ∧ b < w.heap.size ∧ Go.Sort.Holds (Value.int .i64) w b 0 zs.toArray)
theorem ints_of_own {w : World} {B : Nat} {v : Value} {zs : List Int} (h : w.ownsRow B 2 1 v zs.length (zs.map (Value.int .i64))) : IntsIn B w v zs := by
  rcases h.2 with ⟨rfl, h0⟩ | ⟨g, cap, cur, rfl, hb, hh, hnc, hcm, hcs, hcur⟩
  · rw [IntsIn, h0]
    exact ⟨none, 0, rfl, Nat.le_refl _, fun hn => absurd hn (by omega)⟩
  · refine ⟨some ⟨g, 0, none⟩, cap, rfl, hnc, fun _ => ⟨g, rfl, hb, (Array.getElem?_eq_some_iff.1 hh).1, fun j hj => ?_⟩⟩
    have hj' : j < zs.length := by simpa using hj
    have hk : (zs.map (Value.int .i64))[j]? = some (.int .i64 zs[j]) := by simp [hj']
    rw [← hcur, List.getElem?_take] at hk
    rw [if_pos (by omega)] at hk
    refine ⟨?_, by simp [World.frozen?, hh]⟩
    simp only [World.cell?, hh, Nat.zero_add]
    simpa [hj'] using hk
theorem IntsIn.below {w w' : World} {B : Nat} {v : Value} {zs : List Int} (h : IntsIn B w v zs) (hb : Below w.heap.size w w') : IntsIn B w' v zs := by
  obtain ⟨A, c, rfl, hc, hx⟩ := h
  refine ⟨A, c, rfl, hc, fun hn => ?_⟩
  obtain ⟨b, rfl, h1, h2, h3⟩ := hx hn
  exact ⟨b, rfl, h1, Nat.lt_of_lt_of_le h2 hb.size, fun j hj => ⟨bcell1 hb (h3 j hj).1, bfroz1 hb (h3 j hj).1 (h3 j hj).2⟩⟩
theorem below_putRow {a w : World} {blk : Nat} (h : Below a.heap.size a w) (hb : a.heap.size ≤ blk) (n : Nat) (os : Array Obj) (d : Array Int) : Below a.heap.size a (Go.Sort.grow (Go.Sort.putRow (Value.int .i64) (Go.Sort.ahead w n) blk 0 d) os) := by
  refine ⟨h.os, h.tape, h.output, ?_, fun k hk => ?_⟩
  · have := h.size
    simp [Go.Sort.grow, Go.Sort.putRow, Go.Sort.mapBlock, Go.Sort.ahead]
    omega
  · have hkw : k < w.heap.size := Nat.lt_of_lt_of_le hk h.size
    rw [← h.block k hk]
    show ((Go.Sort.putRow (Value.int .i64) (Go.Sort.ahead w n) blk 0 d).heap ++ os)[k]? = _
    rw [Array.getElem?_append_left (by simpa [Go.Sort.putRow, Go.Sort.mapBlock, Go.Sort.ahead] using hkw)]
    simp only [Go.Sort.putRow, Go.Sort.mapBlock, Go.Sort.ahead, Array.getElem?_modify]
    rw [if_neg (by omega)]
theorem holds_put {w : World} {blk n : Nat} (os : Array Obj) {zs ys : List Int} (h : Go.Sort.Holds (Value.int .i64) w blk 0 zs.toArray) (hb : blk < w.heap.size) (hl : ys.length = zs.length) : Go.Sort.Holds (Value.int .i64) (Go.Sort.grow (Go.Sort.putRow (Value.int .i64) (Go.Sort.ahead w n) blk 0 ys.toArray) os) blk 0 ys.toArray := by
  have h1 := Go.Sort.holds_putRow (Value.int .i64) (Go.Sort.ahead w n) blk 0 zs.toArray ys.toArray (fun j hj => h j hj) (by simpa using hl)
  intro j hj
  obtain ⟨a, b⟩ := h1 j hj
  have hlt : blk < (Go.Sort.putRow (Value.int .i64) (Go.Sort.ahead w n) blk 0 ys.toArray).heap.size := cell_lt a
  have e : (Go.Sort.grow (Go.Sort.putRow (Value.int .i64) (Go.Sort.ahead w n) blk 0 ys.toArray) os).heap[blk]? = (Go.Sort.putRow (Value.int .i64) (Go.Sort.ahead w n) blk 0 ys.toArray).heap[blk]? := by
    show (_ ++ os)[blk]? = _
    rw [Array.getElem?_append_left hlt]
  refine ⟨?_, ?_⟩
  · rw [← a]; exact World.cell?_of_block e
  · rw [← b]; exact World.frozen?_of_block e

def sorted (zs : List Int) : List Int := zs.mergeSort fun x y => decide (x ≤ y)
theorem sorted_length (zs : List Int) : (sorted zs).length = zs.length := List.length_mergeSort zs
theorem sorted_mem (zs : List Int) (x : Int) : x ∈ sorted zs ↔ x ∈ zs := List.mem_mergeSort

theorem sort_ints {a w : World} {v : Value} {zs : List Int} {B : Nat} (h : IntsIn B w v zs) (hb : Below a.heap.size a w) (hB : a.heap.size ≤ B) (hn : zs.length ≤ 140737488355328) :
    Calls Try.prog 23 #[v] w fun e w' => e = .returned (.tuple #[]) ∧ IntsIn B w' v (sorted zs) ∧ Below a.heap.size a w' := by
  obtain ⟨A, c, rfl, hc, hx⟩ := h
  by_cases h0 : zs.length = 0
  · have hz : zs = [] := List.eq_nil_of_length_eq_zero h0
    subst hz
    refine (sort_none w A c).mono ?_
    rintro e w' ⟨rfl, rfl⟩
    rw [show sorted [] = [] by simp [sorted]]
    exact ⟨rfl, ⟨A, c, rfl, hc, hx⟩, hb⟩
  · obtain ⟨b, rfl, h1, h2, h3⟩ := hx (by omega)
    refine (Try.slices_Sort_int b 0 c zs w h3 h2 (by omega)).mono ?_
    rintro e w' ⟨rfl, n, os, rfl⟩
    refine ⟨rfl, ⟨some ⟨b, 0, none⟩, c, by rw [sorted_length], by rw [sorted_length]; exact hc, fun _ => ⟨b, rfl, h1, ?_, holds_put os h3 h2 (sorted_length zs)⟩⟩, below_putRow hb (by omega) n os _⟩
    simp [Go.Sort.grow, Go.Sort.putRow, Go.Sort.mapBlock, Go.Sort.ahead]
    omega

theorem compact_ints {a w : World} {v : Value} {zs : List Int} {B : Nat} (h : IntsIn B w v zs) (hb : Below a.heap.size a w) (hB : a.heap.size ≤ B) (hn : zs.length ≤ 140737488355328) :
    Calls Try.prog 24 #[v] w fun e w' => ∃ v', e = .returned v' ∧ IntsIn B w' v' (Lib.compact zs) ∧ Below a.heap.size a w' := by
  obtain ⟨A, c, rfl, hc, hx⟩ := h
  by_cases h0 : zs.length = 0
  · have hz : zs = [] := List.eq_nil_of_length_eq_zero h0
    subst hz
    refine (Try.slices_Compact_int_empty A c w).mono ?_
    rintro e w' ⟨rfl, rfl⟩
    exact ⟨_, rfl, ⟨A, c, rfl, hc, hx⟩, hb⟩
  · obtain ⟨b, rfl, h1, h2, h3⟩ := hx (by omega)
    refine (Try.slices_Compact_int b 0 c zs w h3 (by omega) hc).mono ?_
    rintro e w' ⟨rfl, q, rfl⟩
    have hle := Lib.compact_length_le zs
    have hl : (Lib.compact zs ++ List.replicate (zs.length - (Lib.compact zs).length) 0).length = zs.length := by simp; omega
    refine ⟨_, rfl, ⟨some ⟨b, 0, none⟩, c, rfl, Nat.le_trans hle hc, fun _ => ⟨b, rfl, h1, ?_, fun j hj => ?_⟩⟩, ?_⟩
    · simp [Go.Sort.putRow, Go.Sort.mapBlock, Go.Sort.ahead]
      omega
    · have hh := holds_put (n := q) #[] h3 h2 hl
      have hj' : j < (Lib.compact zs).length := by simpa using hj
      have := hh j (by rw [List.size_toArray, hl]; omega)
      rw [Go.Sort.grow_empty] at this
      rw [show (Lib.compact zs).toArray[j]! = (Lib.compact zs ++ List.replicate (zs.length - (Lib.compact zs).length) 0).toArray[j]! by
        simp only [List.getElem!_toArray]
        rw [getElem!_pos _ j hj', getElem!_pos _ j (by rw [hl]; omega), List.getElem_append_left hj']]
      exact this
    · have := below_putRow hb (show a.heap.size ≤ b by omega) q #[] (Lib.compact zs ++ List.replicate (zs.length - (Lib.compact zs).length) 0).toArray
      rw [Go.Sort.grow_empty] at this
      exact this
end Go.Proofs.Ytjfeeampcgmngaa
