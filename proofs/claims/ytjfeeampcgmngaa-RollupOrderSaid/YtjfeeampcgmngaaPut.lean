/- calls.Plus where bars may not be; rollup.nothing. -/
import Derived.Test.YtjfeeampcgmngaaPlus
namespace Go.Proofs.Ytjfeeampcgmngaa
open Go.RowKit Go.Shelf

def zeroTal : Value := .agg #[.int .u64 0, .int .u64 0, .int .u64 0, .int .u64 0, .int .u64 0, .int .u64 0, .slice none 0 0]

set_option maxRecDepth 100000 in
set_option maxHeartbeats 2000000 in
theorem Plus_bad (w : World) (a : Tal) (b : RTal) (va vb : Value) (ha : TalAt w va a.raw) (hb : TalAt w vb b) (hao : a.Ok) (hbv : rvalid (-1) b.bars = false) :
    Calls Try.prog 26 #[va, vb] w fun e w' => e = .returned (.tuple #[zeroTal, .int .i64 131]) ∧ Below w.heap.size w w' := by
  obtain ⟨A1, n1, c1, rfl, ha1, ha2, _⟩ := ha
  obtain ⟨A2, n2, c2, rfl, hb1, hb2, _⟩ := hb
  have hm : ∀ w', Below w.heap.size w w' → _ := fun w' h => merge_bad2 w' A1 n1 c1 a.bars A2 n2 c2 b.bars ha2 hb2 (ha1.below h) hao.bars (hb1.below h) hbv
  clear ha1 hb1 hao hbv
  unfold talVal
  generalize natHi a.raw.calls = x1 at *
  generalize natLo a.raw.calls = x2 at *
  generalize natHi a.raw.errors = x3 at *
  generalize natLo a.raw.errors = x4 at *
  generalize natHi a.raw.took = x5 at *
  generalize natLo a.raw.took = x6 at *
  generalize natHi b.calls = y1 at *
  generalize natLo b.calls = y2 at *
  generalize natHi b.errors = y3 at *
  generalize natLo b.errors = y4 at *
  generalize natHi b.took = y5 at *
  generalize natLo b.took = y6 at *
  go_enter Try.func26, Try.ntmps26
  go_wp2_with fail
  refine (hm _ (bal (bal (bal (brefl _) _) _) _)).mono ?_
  rintro e w1 ⟨rfl, hb1⟩
  clear hm
  have HB := Lib.hid hb1
  have hk2 : Blk w1 (w.heap.size + 1 + 1) 46 [(.int .u64 0), (.int .u64 0), (.int .u64 0), (.int .u64 0), (.int .u64 0), (.int .u64 0), (.slice none 0 0)] := Blk.below (Blk.new_ _ _ _ (by simp)) HB.out
  have g0 := hk2.cell 0 rfl
  have g1 := hk2.cell 1 rfl
  have g2 := hk2.cell 2 rfl
  have g3 := hk2.cell 3 rfl
  have g4 := hk2.cell 4 rfl
  have g5 := hk2.cell 5 rfl
  have g6 := hk2.cell 6 rfl
  have f0 := fun k => hk2.frozen k
  have hBB := Lib.hid (But.start hk2)
  have HK := Lib.hid hk2
  clear hb1 hk2
  go_wp2_with fail
  have q := ((((((HK.out.set 0 (.int .u64 0)).set 1 (.int .u64 0)).set 2 (.int .u64 0)).set 3 (.int .u64 0)).set 4 (.int .u64 0)).set 5 (.int .u64 0)).set 6 (.slice none 0 0)
  have r0 := q.cell 0 rfl
  have r1 := q.cell 1 rfl
  have r2 := q.cell 2 rfl
  have r3 := q.cell 3 rfl
  have r4 := q.cell 4 rfl
  have r5 := q.cell 5 rfl
  have r6 := q.cell 6 rfl
  refine bodyPost_ret (v := .tuple #[zeroTal, .int .i64 131]) (by simp only [results, Try.results26]; simp [go_sem, r0, r1, r2, r3, r4, r5, r6, zeroTal]) rfl ⟨rfl, ?_⟩
  exact But.toBelow (((((((hBB.out.set 0 _).set 1 _).set 2 _).set 3 _).set 4 _).set 5 _).set 6 _) (btrans (bal (bal (bal (brefl _) _) _) _) HB.out) (by omega)

set_option maxRecDepth 100000 in
set_option maxHeartbeats 4000000 in
theorem nothing_words (w : World) (x1 x2 x3 x4 x5 x6 : Int) (A : Option Addr) (n c : Nat) :
    Calls Try.prog 37 #[.agg #[.int .u64 x1, .int .u64 x2, .int .u64 x3, .int .u64 x4, .int .u64 x5, .int .u64 x6, .slice A n c]] w fun e w' =>
      e = .returned (.bool (decide (x1 = 0 ∧ x2 = 0 ∧ x3 = 0 ∧ x4 = 0 ∧ x5 = 0 ∧ x6 = 0 ∧ n = 0))) ∧ Below w.heap.size w w' := by
  by_cases h1 : x1 = 0
  case neg =>
    have d1 : (x1 == 0) = false := beq_eq_false_iff_ne.2 h1
    have HH := Lib.hid h1
    clear h1
    go_enter Try.func37, Try.ntmps37
    go_wp2_with fail
    go_ret
    exact ⟨by simp [HH.out], bal (brefl _) _⟩
  subst h1
  by_cases h2 : x2 = 0
  case neg =>
    have d2 : (x2 == 0) = false := beq_eq_false_iff_ne.2 h2
    have HH := Lib.hid h2
    clear h2
    go_enter Try.func37, Try.ntmps37
    go_wp2_with fail
    go_ret
    exact ⟨by simp [HH.out], bal (brefl _) _⟩
  subst h2
  by_cases h3 : x3 = 0
  case neg =>
    have d3 : (x3 == 0) = false := beq_eq_false_iff_ne.2 h3
    have HH := Lib.hid h3
    clear h3
    go_enter Try.func37, Try.ntmps37
    go_wp2_with fail
    go_ret
    exact ⟨by simp [HH.out], bal (brefl _) _⟩
  subst h3
  by_cases h4 : x4 = 0
  case neg =>
    have d4 : (x4 == 0) = false := beq_eq_false_iff_ne.2 h4
    have HH := Lib.hid h4
    clear h4
    go_enter Try.func37, Try.ntmps37
    go_wp2_with fail
    go_ret
    exact ⟨by simp [HH.out], bal (brefl _) _⟩
  subst h4
  by_cases h5 : x5 = 0
  case neg =>
    have d5 : (x5 == 0) = false := beq_eq_false_iff_ne.2 h5
    have HH := Lib.hid h5
    clear h5
    go_enter Try.func37, Try.ntmps37
    go_wp2_with fail
    go_ret
    exact ⟨by simp [HH.out], bal (brefl _) _⟩
  subst h5
  by_cases h6 : x6 = 0
  case neg =>
    have d6 : (x6 == 0) = false := beq_eq_false_iff_ne.2 h6
    have HH := Lib.hid h6
    clear h6
    go_enter Try.func37, Try.ntmps37
    go_wp2_with fail
    go_ret
    exact ⟨by simp [HH.out], bal (brefl _) _⟩
  subst h6
  by_cases h7 : n = 0
  case neg =>
    have d7 : (((n : Nat) : Int) == 0) = false := beq_eq_false_iff_ne.2 (by omega)
    have HH := Lib.hid h7
    clear h7
    go_enter Try.func37, Try.ntmps37
    go_wp2_with fail
    go_ret
    exact ⟨by simp [HH.out], bal (brefl _) _⟩
  subst h7
  go_enter Try.func37, Try.ntmps37
  go_wp2_with fail
  go_ret
  exact ⟨by simp, bal (brefl _) _⟩

theorem nat_zero {n : Nat} (h : natHi n = 0) (l : natLo n = 0) : n = 0 := nat_inj h l

theorem nothing_no (w : World) (t : Tal) (v : Value) (h : TalAt w v t.raw) (hz : t ≠ tzero) :
    Calls Try.prog 37 #[v] w fun e w' => e = .returned (.bool false) ∧ Below w.heap.size w w' := by
  obtain ⟨A, n, c, rfl, h1, h2, _⟩ := h
  refine (nothing_words w _ _ _ _ _ _ A n c).mono ?_
  rintro e w' ⟨rfl, hb⟩
  refine ⟨?_, hb⟩
  congr 2
  rw [decide_eq_false_iff_not]
  rintro ⟨a1, a2, a3, a4, a5, a6, a7⟩
  apply hz
  have b1 : t.calls = 0 := nat_zero a1 a2
  have b2 : t.errors = 0 := nat_zero a3 a4
  have b3 : t.took = 0 := nat_zero a5 a6
  have b4 : t.bars = [] := by
    have := h1.1
    rw [a7] at this
    have h3 : (rawBars t.bars).length = 0 := this.symm
    unfold rawBars at h3
    simpa using h3
  cases t
  simp only at b1 b2 b3 b4
  rw [b1, b2, b3, b4]
  rfl

theorem nothing_yes (w : World) (v : Value) (h : TalAt w v tzero.raw) :
    Calls Try.prog 37 #[v] w fun e w' => e = .returned (.bool true) ∧ Below w.heap.size w w' := by
  obtain ⟨A, n, c, rfl, h1, h2, _⟩ := h
  refine (nothing_words w _ _ _ _ _ _ A n c).mono ?_
  rintro e w' ⟨rfl, hb⟩
  refine ⟨?_, hb⟩
  congr 2
  rw [decide_eq_true_iff]
  exact ⟨rfl, rfl, rfl, rfl, rfl, rfl, by rw [h1.1]; rfl⟩
end Go.Proofs.Ytjfeeampcgmngaa
