/- sketch.laid: a list of bars as a row of numbers, or the word that it may not be. -/
import Derived.Test.YtjfeeampcgmngaaBits
import Derived.LoopTactic
import Derived.RegionTactic
import Derived.ChangeAlike
namespace Go.Proofs.Ytjfeeampcgmngaa
open Go.RowKit Go.Shelf

theorem zeroRow (w : World) : (zeroValue 129).run Try.prog w = .ok (.agg (Array.replicate 1920 (.int .u64 0))) w := by kernel_rfl

abbrev RBar := Int × Int
/-- A slice reads as a list of bars. -/
def BarsAt (w : World) (A : Option Addr) (n : Nat) (l : List RBar) : Prop :=
  n = l.length ∧ (0 < n → ∃ b off, A = some ⟨b, off, none⟩ ∧ ∀ i j c, l[i]? = some (j, c) → w.cell? ⟨b, off + i * 2, none⟩ = some (.int .i64 j) ∧ w.cell? ⟨b, off + i * 2 + 1, none⟩ = some (.int .u64 c))
theorem BarsAt.below {w w' : World} {A : Option Addr} {n : Nat} {l : List RBar} (h : BarsAt w A n l) (hb : Below w.heap.size w w') : BarsAt w' A n l :=
  ⟨h.1, fun hn => by
    obtain ⟨b, off, rfl, hc⟩ := h.2 hn
    exact ⟨b, off, rfl, fun i j c hi => ⟨bcell1 hb (hc i j c hi).1, bcell1 hb (hc i j c hi).2⟩⟩⟩
/-- Kept where every row of cells is kept but the row g, which is none of it. -/
theorem BarsAt.same {w w' : World} {A : Option Addr} {n g m : Nat} {t : TypeId} {l : List RBar} (h : BarsAt w A n l) (hb : But w g t m w') (hg : ∀ b off, 0 < n → A = some ⟨b, off, none⟩ → b ≠ g) : BarsAt w' A n l :=
  ⟨h.1, fun hn => by
    obtain ⟨b, off, rfl, hc⟩ := h.2 hn
    have hne := hg b off hn rfl
    exact ⟨b, off, rfl, fun i j c hi => ⟨hb.cell hne (hc i j c hi).1, hb.cell hne (hc i j c hi).2⟩⟩⟩
theorem BarsAt.nil (w : World) : BarsAt w none 0 [] := ⟨rfl, fun h => absurd h (by omega)⟩

def rawBars (l : List (Nat × Nat)) : List RBar := l.map fun p => ((p.1 : Int), (p.2 : Int))
/-- May these bars be? -/
def rvalid : Int → List RBar → Bool
  | _, [] => true
  | last, (j, c) :: l => decide (last < j) && decide (j < 1920) && !(c == 0) && rvalid j l

def rowN : Nat := 1920
theorem rowN_eq : rowN = 1920 := rfl
def rowCells (f : Nat → Nat) : Array Value := ((List.range rowN).map fun i => Value.int .u64 (f i)).toArray
/-- Block b is a row of bars. -/
def RowIs (w : World) (b : Nat) (f : Nat → Nat) : Prop := w.heap[b]? = some (.cells (rowCells f) 129 (0, 0))

theorem rowCells_zero : Array.replicate 1920 (Value.int .u64 0) = rowCells (cnt []) := by
  rw [← rowN_eq]
  unfold rowCells
  rw [← List.toArray_replicate]
  refine congrArg List.toArray ?_
  apply List.ext_getElem
  · simp
  · intro i h1 h2
    simp [cnt]
theorem rowCells_set (f : Nat → Nat) {j : Nat} (c : Nat) (hj : j < 1920) : (rowCells f).setIfInBounds j (.int .u64 c) = rowCells fun i => if i = j then c else f i := by
  rw [← rowN_eq] at hj
  unfold rowCells
  rw [List.setIfInBounds_toArray]
  refine congrArg List.toArray ?_
  apply List.ext_getElem
  · simp
  · intro i h1 h2
    simp only [List.getElem_set, List.getElem_map, List.getElem_range]
    by_cases h : j = i
    · subst h; simp
    · rw [if_neg h, if_neg (Ne.symm h)]
theorem rowCells_get (f : Nat → Nat) {j : Nat} (hj : j < 1920) : (rowCells f)[j]? = some (.int .u64 (f j)) := by
  rw [← rowN_eq] at hj
  unfold rowCells
  simp [hj]
theorem RowIs.cell {w : World} {b : Nat} {f : Nat → Nat} (h : RowIs w b f) {j : Nat} (hj : j < 1920) : w.cell? ⟨b, j, none⟩ = some (.int .u64 (f j)) := by
  unfold RowIs at h
  simp [World.cell?, h, rowCells_get f hj]
theorem RowIs.frozen {w : World} {b : Nat} {f : Nat → Nat} (h : RowIs w b f) (j : Nat) : w.frozen? ⟨b, j, none⟩ = false := by
  unfold RowIs at h
  simp [World.frozen?, h]
theorem RowIs.set {w : World} {b : Nat} {f : Nat → Nat} (h : RowIs w b f) {j : Nat} (c : Nat) (hj : j < 1920) : RowIs (w.setCell ⟨b, j, none⟩ (.int .u64 c)) b fun i => if i = j then c else f i := by
  unfold RowIs at h ⊢
  simp [World.setCell, Array.getElem?_modify, h, rowCells_set f c hj]
theorem RowIs.lt {w : World} {b : Nat} {f : Nat → Nat} (h : RowIs w b f) : b < w.heap.size := (Array.getElem?_eq_some_iff.1 h).1
theorem RowIs.same {w w' : World} {b : Nat} {f : Nat → Nat} (h : RowIs w b f) (hs : w'.heap[b]? = w.heap[b]?) : RowIs w' b f := hs.trans h
theorem RowIs.below {w w' : World} {b : Nat} {f : Nat → Nat} (h : RowIs w b f) (hb : Below w.heap.size w w') : RowIs w' b f := h.same (hb.block b h.lt)
theorem RowIs.alloc {w : World} {b : Nat} {f : Nat → Nat} (h : RowIs w b f) (o : Obj) : RowIs (w.alloc o) b f := h.same (Below.heap_alloc w o b h.lt)

theorem cnt_snoc (j c : Nat) : ∀ (pre : List (Nat × Nat)), (∀ p ∈ pre, p.1 ≠ j) → cnt (pre ++ [(j, c)]) = fun i => if i = j then c else cnt pre i
  | [], _ => by
    funext i
    show (if j = i then c else 0) = if i = j then c else 0
    by_cases h : i = j
    · rw [if_pos h, if_pos h.symm]
    · rw [if_neg h, if_neg (Ne.symm h)]
  | (a, d) :: pre, h => by
    funext i
    have ih := cnt_snoc j c pre (fun p hp => h p (by simp [hp]))
    have ha := h (a, d) (by simp)
    simp only at ha
    show (if a = i then d else cnt (pre ++ [(j, c)]) i) = if i = j then c else (if a = i then d else cnt pre i)
    rw [ih]
    by_cases h1 : a = i
    · subst h1
      rw [if_pos rfl, if_neg ha, if_pos rfl]
    · rw [if_neg h1, if_neg h1]

/-- What the loop of 'laid' has done. -/
def LaidAt (l : List (Nat × Nat)) (W : World) (last i : Value) (wr : World) : Prop :=
  ∃ (pre rest : List (Nat × Nat)) (lo : Nat), l = pre ++ rest ∧ i = .int .i64 (pre.length : Nat) ∧ last = .int .i64 ((lo : Int) - 1) ∧ Valid lo rest ∧ lo ≤ 1920 ∧ (∀ p ∈ pre, p.1 < lo) ∧ RowIs wr W.heap.size (cnt pre) ∧ Below W.heap.size W wr

set_option maxRecDepth 100000 in
set_option maxHeartbeats 400000 in
theorem laid_ok (w : World) (A : Option Addr) (n c : Nat) (l : List (Nat × Nat)) (hn : n ≤ 140737488351232) (hl : BarsAt w A n (rawBars l)) (hv : Valid 0 l) :
    Calls Try.prog 56 #[.slice A n c] w fun e w' => e = .returned (.tuple #[.pointer (some ⟨w.heap.size, 0, none⟩), .bool true]) ∧ RowIs w' w.heap.size (cnt l) ∧ Below w.heap.size w w' := by
  have hz := zeroRow
  have HLN := Lib.hid (show n = l.length by rw [hl.1]; simp [rawBars])
  go_enter Try.func56, Try.ntmps56
  go_wp2_with fail
  clear hz
  go_loopw [5, 7, 10] (fun last u i wr => LaidAt l w last i wr) (fun _ _ i _ => n - (intOf i).toNat)
  case atStart => exact ⟨[], l, 0, rfl, rfl, rfl, hv, by omega, by simp, by unfold RowIs; rw [← rowCells_zero]; exact (MapKept.heap_alloc w _).1, bal (brefl _) _⟩
  case round =>
    obtain ⟨pre, rest, lo, hl0, rfl, rfl, hvr, hlo, hpre, hrow, hb⟩ := hrel
    match rest, hl0, hvr with
    | [], hl0, _ =>
      have hk : ¬ (pre.length < n) := by rw [HLN.out, hl0]; simp
      have HR := Lib.hid hrow
      have HB := Lib.hid hb
      have HL := Lib.hid hl0
      clear hrow hb hl0 hl hv hpre
      go_wp2_with fail
      go_ret2
      refine ⟨rfl, ?_, HB.out⟩
      rw [HL.out, List.append_nil]
      exact HR.out
    | (j, cc) :: rest', hl0, ⟨v1, v2, v3, v4, v5⟩ =>
      have hk : pre.length < n := by rw [HLN.out, hl0]; simp
      obtain ⟨b, off, rfl, hc⟩ := hl.2 (by omega)
      have hget : (rawBars l)[pre.length]? = some ((j : Int), (cc : Int)) := by rw [hl0]; simp [rawBars]
      obtain ⟨h1, h2⟩ := hc _ _ _ hget
      have h1' := bcell1 hb h1
      have h2' := bcell1 hb h2
      have d1 : ((cc : Int) == 0) = false := by rw [beq_eq_false_iff_ne]; omega
      have d2 : (lo : Int) - 1 < j := by omega
      have hw : RowIs (wr.alloc (Obj.cells #[Value.int IntKind.i64 j, Value.int IntKind.u64 cc] 82)) w.heap.size (cnt pre) := hrow.alloc _
      have c1 := hw.cell (j := j) v2
      have f1 := hw.frozen j
      have hs : w.heap.size < wr.heap.size := hrow.lt
      have HP := Lib.hid hpre
      have HB := Lib.hid hb
      have HR := Lib.hid hrow
      have HL := Lib.hid hl0
      clear h1 h2 hc hget hb hrow hl0 hl hv hw hpre
      go_wp2_with fail
      go_region
      go_wp2_with fail
      go_roundw
      case rel =>
        refine ⟨pre ++ [(j, cc)], rest', j + 1, by rw [HL.out]; simp, by simp, by simp, v5, by omega, fun p hp => ?_, ?_, bdrew (bal (bset HB.out (Nat.le_refl _) _) _)⟩
        · rcases List.mem_append.1 hp with hp | hp
          · have := HP.out p hp; omega
          · simp at hp; subst hp; simp
        · rw [cnt_snoc j cc pre (fun p hp => by have := HP.out p hp; omega)]
          exact (HR.out.set cc v2).alloc _
      case measure => simp [intOf]; omega

/-- A row of which no more is known. -/
def RowSz (w : World) (b : Nat) : Prop := ∃ arr : Array Value, w.heap[b]? = some (.cells arr 129 (0, 0)) ∧ arr.size = rowN
theorem RowSz.cell {w : World} {b : Nat} (h : RowSz w b) {j : Nat} (hj : j < 1920) : ∃ v, w.cell? ⟨b, j, none⟩ = some v := by
  obtain ⟨arr, h1, h2⟩ := h
  rw [rowN_eq] at h2
  exact ⟨arr[j]'(by omega), by simp [World.cell?, h1, Array.getElem?_eq_getElem (show j < arr.size by omega)]⟩
theorem RowSz.frozen {w : World} {b : Nat} (h : RowSz w b) (j : Nat) : w.frozen? ⟨b, j, none⟩ = false := by
  obtain ⟨arr, h1, _⟩ := h
  simp [World.frozen?, h1]
theorem RowSz.set {w : World} {b : Nat} (h : RowSz w b) (j : Nat) (u : Value) : RowSz (w.setCell ⟨b, j, none⟩ u) b := by
  obtain ⟨arr, h1, h2⟩ := h
  exact ⟨arr.setIfInBounds j u, by simp [World.setCell, Array.getElem?_modify, h1], by simpa using h2⟩
theorem RowSz.lt {w : World} {b : Nat} (h : RowSz w b) : b < w.heap.size := by
  obtain ⟨arr, h1, _⟩ := h
  exact (Array.getElem?_eq_some_iff.1 h1).1
theorem RowSz.alloc {w : World} {b : Nat} (h : RowSz w b) (o : Obj) : RowSz (w.alloc o) b := by
  have hlt := h.lt
  obtain ⟨arr, h1, h2⟩ := h
  exact ⟨arr, (Below.heap_alloc w o b hlt).trans h1, h2⟩

def LaidBad (l : List RBar) (W : World) (last i : Value) (wr : World) : Prop :=
  ∃ (pre rest : List RBar) (x : Int), l = pre ++ rest ∧ i = .int .i64 (pre.length : Nat) ∧ last = .int .i64 x ∧ -1 ≤ x ∧ x < 1920 ∧ rvalid x rest = false ∧ RowSz wr W.heap.size ∧ Below W.heap.size W wr

set_option maxRecDepth 100000 in
set_option maxHeartbeats 800000 in
theorem laid_bad (w : World) (A : Option Addr) (n c : Nat) (l : List RBar) (hn : n ≤ 140737488351232) (hl : BarsAt w A n l) (hv : rvalid (-1) l = false) :
    Calls Try.prog 56 #[.slice A n c] w fun e w' => e = .returned (.tuple #[.pointer none, .bool false]) ∧ Below w.heap.size w w' := by
  have hz := zeroRow
  have HLN := Lib.hid hl.1
  go_enter Try.func56, Try.ntmps56
  go_wp2_with fail
  clear hz
  go_loopw [5, 7, 10] (fun last u i wr => LaidBad l w last i wr) (fun _ _ i _ => n - (intOf i).toNat)
  case atStart => exact ⟨[], l, -1, rfl, rfl, rfl, by omega, by omega, hv, ⟨_, (MapKept.heap_alloc w _).1, by simp [rowN]⟩, bal (brefl _) _⟩
  case round =>
    obtain ⟨pre, rest, x, hl0, rfl, rfl, hx0, hx1, hvr, hrow, hb⟩ := hrel
    match rest, hl0, hvr with
    | [], _, hvr => simp [rvalid] at hvr
    | (j, cc) :: rest', hl0, hvr =>
      have hk : pre.length < n := by rw [HLN.out, hl0]; simp
      obtain ⟨b, off, rfl, hc⟩ := hl.2 (by omega)
      have hget : l[pre.length]? = some (j, cc) := by rw [hl0]; simp
      obtain ⟨h1, h2⟩ := hc _ _ _ hget
      have h1' := bcell1 hb h1
      have h2' := bcell1 hb h2
      have hs : w.heap.size < wr.heap.size := hrow.lt
      have HB := Lib.hid hb
      have HR := Lib.hid hrow
      have HL := Lib.hid hl0
      have HV := Lib.hid hvr
      clear h1 h2 hc hget hb hrow hl0 hl hv hvr
      by_cases c1 : j ≤ x
      · go_wp2_with fail
        go_ret2
        exact ⟨rfl, bal HB.out _⟩
      by_cases c2 : 1920 ≤ j
      · go_wp2_with fail
        go_ret2
        exact ⟨rfl, bal HB.out _⟩
      by_cases c3 : cc = 0
      · subst c3
        go_wp2_with fail
        go_ret2
        exact ⟨rfl, bal HB.out _⟩
      have d1 : (cc == 0) = false := beq_eq_false_iff_ne.2 c3
      obtain ⟨j, rfl⟩ := Int.eq_ofNat_of_zero_le (show 0 ≤ j by omega)
      obtain ⟨u, g1⟩ := (HR.out.alloc (Obj.cells #[Value.int IntKind.i64 j, Value.int IntKind.u64 cc] 82)).cell (j := j) (by omega)
      have f1 := (HR.out.alloc (Obj.cells #[Value.int IntKind.i64 j, Value.int IntKind.u64 cc] 82)).frozen j
      have c1' : x < (j : Int) := by omega
      have c2' : (j : Int) < 1920 := by omega
      have HV' : rvalid j rest' = false := by
        have := HV.out
        unfold rvalid at this
        simpa [c1', c2', d1] using this
      have HV'' := Lib.hid HV'
      clear c1 c2 c3 HV'
      go_wp2_with fail
      go_region
      go_wp2_with fail
      go_roundw
      case rel => exact ⟨pre ++ [((j : Int), cc)], rest', j, by rw [HL.out]; simp, by simp, rfl, by omega, by omega, HV''.out, (HR.out.set j _).alloc _, bdrew (bal (bset HB.out (Nat.le_refl _) _) _)⟩
      case measure => simp [intOf]; omega
end Go.Proofs.Ytjfeeampcgmngaa
