/- sketch.Check and sketch.Merge. -/
import Derived.Test.YtjfeeampcgmngaaSk2
namespace Go.Proofs.Ytjfeeampcgmngaa
open Go.RowKit Go.Shelf

/-- The counts are numbers of 64 bits. -/
def RawOk (l : List RBar) : Prop := ∀ p ∈ l, 0 ≤ p.2 ∧ p.2 < 18446744073709551616
theorem valid_of_raw : ∀ (l : List RBar) (lo : Nat), RawOk l → rvalid ((lo : Int) - 1) l = true → ∃ lb, Valid lo lb ∧ l = rawBars lb
  | [], _, _, _ => ⟨[], trivial, rfl⟩
  | (j, c) :: l, lo, hr, h => by
    unfold rvalid at h
    simp only [Bool.and_eq_true, decide_eq_true_eq, Bool.not_eq_true', beq_eq_false_iff_ne, ne_eq] at h
    obtain ⟨⟨⟨h1, h2⟩, h3⟩, h4⟩ := h
    obtain ⟨h5, h6⟩ := hr (j, c) (by simp)
    simp only at h5 h6
    obtain ⟨j, rfl⟩ := Int.eq_ofNat_of_zero_le (show 0 ≤ j by omega)
    obtain ⟨c, rfl⟩ := Int.eq_ofNat_of_zero_le h5
    obtain ⟨lb, hv, rfl⟩ := valid_of_raw l (j + 1) (fun p hp => hr p (by simp [hp])) (by
      rw [show ((j + 1 : Nat) : Int) - 1 = (j : Int) by omega]; exact h4)
    exact ⟨(j, c) :: lb, ⟨by omega, by omega, by omega, by unfold M64; omega, hv⟩, rfl⟩
theorem raw_of_valid : ∀ (lb : List (Nat × Nat)) (lo : Nat), Valid lo lb → rvalid ((lo : Int) - 1) (rawBars lb) = true
  | [], _, _ => rfl
  | (j, c) :: l, lo, ⟨h1, h2, h3, h4, h5⟩ => by
    have ih := raw_of_valid l (j + 1) h5
    rw [show ((j + 1 : Nat) : Int) - 1 = (j : Int) by omega] at ih
    show rvalid ((lo : Int) - 1) (((j : Int), (c : Int)) :: rawBars l) = true
    unfold rvalid
    rw [ih]
    simp
    omega
theorem raw_valid_iff (l : List RBar) (hr : RawOk l) : rvalid (-1) l = true ↔ ∃ lb, Valid 0 lb ∧ l = rawBars lb :=
  ⟨fun h => valid_of_raw l 0 hr h, fun ⟨lb, hv, e⟩ => by rw [e]; exact raw_of_valid lb 0 hv⟩

set_option maxRecDepth 100000 in
theorem check_ok (w : World) (A : Option Addr) (n c : Nat) (l : List (Nat × Nat)) (hn : n ≤ 140737488351232) (hl : BarsAt w A n (rawBars l)) (hv : Valid 0 l) :
    Calls Try.prog 40 #[.slice A n c] w fun e w' => e = .returned (.int .i64 0) ∧ Below w.heap.size w w' := by
  have hc := laid_ok w A n c l hn hl hv
  clear hl hv
  go_enter Try.func40, Try.ntmps40
  go_wp2_with (go_at_call 56; refine hc.mono ?_; rintro e w' ⟨rfl, _, hb⟩)
  go_ret
  exact ⟨rfl, hb⟩
set_option maxRecDepth 100000 in
theorem check_bad (w : World) (A : Option Addr) (n c : Nat) (l : List RBar) (hn : n ≤ 140737488351232) (hl : BarsAt w A n l) (hv : rvalid (-1) l = false) :
    Calls Try.prog 40 #[.slice A n c] w fun e w' => e = .returned (.int .i64 131) ∧ Below w.heap.size w w' := by
  have hc := laid_bad w A n c l hn hl hv
  clear hl hv
  go_enter Try.func40, Try.ntmps40
  go_wp2_with (go_at_call 56; refine hc.mono ?_; rintro e w' ⟨rfl, hb⟩)
  go_ret
  exact ⟨rfl, hb⟩

set_option maxRecDepth 100000 in
theorem merge_bad1 (w : World) (A1 : Option Addr) (n1 c1 : Nat) (l1 : List RBar) (A2 : Option Addr) (n2 c2 : Nat) (l2 : List RBar) (hn1 : n1 ≤ 140737488351232) (hn2 : n2 ≤ 140737488351232)
    (hl1 : BarsAt w A1 n1 l1) (hl2 : BarsAt w A2 n2 l2) (hr2 : RawOk l2) (hv : rvalid (-1) l1 = false) :
    Calls Try.prog 35 #[.slice A1 n1 c1, .slice A2 n2 c2] w fun e w' => e = .returned (.tuple #[.slice none 0 0, .int .i64 131]) ∧ Below w.heap.size w w' := by
  have hc1 := laid_bad w A1 n1 c1 l1 hn1 hl1 hv
  by_cases h2 : rvalid (-1) l2 = true
  · obtain ⟨lb, hvb, rfl⟩ := (raw_valid_iff l2 hr2).1 h2
    have hc2 : ∀ w', Below w.heap.size w w' → _ := fun w' hb => laid_ok w' A2 n2 c2 lb hn2 (hl2.below hb) hvb
    clear hl1 hl2 hv h2 hvb hr2
    go_enter Try.func35, Try.ntmps35
    go_wp2_with fail
    refine hc1.mono ?_
    rintro e w1 ⟨rfl, hb1⟩
    have h2 := hc2 w1 hb1
    clear hc1 hc2
    go_wp2_with fail
    refine h2.mono ?_
    rintro e w2 ⟨rfl, _, hb2⟩
    go_wp2_with fail
    go_ret2
    exact ⟨rfl, btrans hb1 hb2⟩
  · have h2' : rvalid (-1) l2 = false := by simpa using h2
    have hc2 : ∀ w', Below w.heap.size w w' → _ := fun w' hb => laid_bad w' A2 n2 c2 l2 hn2 (hl2.below hb) h2'
    clear hl1 hl2 hv h2 h2' hr2
    go_enter Try.func35, Try.ntmps35
    go_wp2_with fail
    refine hc1.mono ?_
    rintro e w1 ⟨rfl, hb1⟩
    have h2 := hc2 w1 hb1
    clear hc1 hc2
    go_wp2_with fail
    refine h2.mono ?_
    rintro e w2 ⟨rfl, hb2⟩
    go_wp2_with fail
    go_ret2
    exact ⟨rfl, btrans hb1 hb2⟩

set_option maxRecDepth 100000 in
theorem merge_bad2 (w : World) (A1 : Option Addr) (n1 c1 : Nat) (la : List (Nat × Nat)) (A2 : Option Addr) (n2 c2 : Nat) (l2 : List RBar) (hn1 : n1 ≤ 140737488351232) (hn2 : n2 ≤ 140737488351232)
    (hl1 : BarsAt w A1 n1 (rawBars la)) (hv1 : Valid 0 la) (hl2 : BarsAt w A2 n2 l2) (hv : rvalid (-1) l2 = false) :
    Calls Try.prog 35 #[.slice A1 n1 c1, .slice A2 n2 c2] w fun e w' => e = .returned (.tuple #[.slice none 0 0, .int .i64 131]) ∧ Below w.heap.size w w' := by
  have hc1 := laid_ok w A1 n1 c1 la hn1 hl1 hv1
  have hc2 : ∀ w', Below w.heap.size w w' → _ := fun w' hb => laid_bad w' A2 n2 c2 l2 hn2 (hl2.below hb) hv
  clear hl1 hl2 hv hv1
  go_enter Try.func35, Try.ntmps35
  go_wp2_with fail
  refine hc1.mono ?_
  rintro e w1 ⟨rfl, _, hb1⟩
  have h2 := hc2 w1 hb1
  clear hc1 hc2
  go_wp2_with fail
  refine h2.mono ?_
  rintro e w2 ⟨rfl, hb2⟩
  go_wp2_with fail
  go_ret2
  exact ⟨rfl, btrans hb1 hb2⟩

/-- A row that has a list, and the bars ahead of another list's rest put in. -/
def mrow (la pre : List (Nat × Nat)) (i : Nat) : Nat := satAdd M64 (cnt la i) (cnt pre i)
theorem mrow_snoc (la pre : List (Nat × Nat)) (hv : Valid 0 la) {j c : Nat} (h : ∀ p ∈ pre, p.1 ≠ j) : (fun i => if i = j then satAdd M64 (mrow la pre j) c else mrow la pre i) = mrow la (pre ++ [(j, c)]) := by
  funext i
  unfold mrow
  rw [cnt_snoc j c pre h]
  by_cases hi : i = j
  · subst hi
    have h0 : cnt pre i = 0 := by
      clear c
      induction pre with
      | nil => rfl
      | cons p pre ih =>
        obtain ⟨a, d⟩ := p
        have ha := h (a, d) (by simp)
        simp only at ha
        show (if a = i then d else cnt pre i) = 0
        rw [if_neg ha]
        exact ih fun p hp => h p (by simp [hp])
    rw [if_pos rfl, h0]
    simp only [if_true]
    rw [satAdd_comm M64 (cnt la i) 0, satAdd_zero (cnt_lt hv i)]
  · rw [if_neg hi]
    simp only [if_neg hi]
theorem mrow_lt (la pre : List (Nat × Nat)) (i : Nat) : mrow la pre i < M64 := satAdd_lt _ _ (by decide)

def MergeLoop (la lb : List (Nat × Nat)) (B : Nat) (W : World) (i : Value) (wr : World) : Prop :=
  ∃ (pre rest : List (Nat × Nat)) (lo : Nat), lb = pre ++ rest ∧ i = .int .i64 (pre.length : Nat) ∧ Valid lo rest ∧ (∀ p ∈ pre, p.1 < lo) ∧ RowIs wr B (mrow la pre) ∧ Below W.heap.size W wr

set_option maxRecDepth 100000 in
set_option maxHeartbeats 800000 in
theorem merge_ok (w : World) (A1 : Option Addr) (n1 c1 : Nat) (la : List (Nat × Nat)) (A2 : Option Addr) (n2 c2 : Nat) (lb : List (Nat × Nat)) (hn1 : n1 ≤ 140737488351232) (hn2 : n2 ≤ 140737488351232)
    (hl1 : BarsAt w A1 n1 (rawBars la)) (hv1 : Valid 0 la) (hl2 : BarsAt w A2 n2 (rawBars lb)) (hv2 : Valid 0 lb) :
    Calls Try.prog 35 #[.slice A1 n1 c1, .slice A2 n2 c2] w fun e w' => ∃ A c, e = .returned (.tuple #[.slice A (addBars la lb).length c, .int .i64 0]) ∧ (addBars la lb).length ≤ c ∧ BarsAt w' A (addBars la lb).length (rawBars (addBars la lb)) ∧ Below w.heap.size w w' ∧ ∀ a, A = some a → w.heap.size ≤ a.block := by
  have hc1 := laid_ok w A1 n1 c1 la hn1 hl1 hv1
  have hc2 : ∀ w', Below w.heap.size w w' → _ := fun w' hb => laid_ok w' A2 n2 c2 lb hn2 (hl2.below hb) hv2
  have HLN := Lib.hid (show n2 = lb.length by rw [hl2.1]; simp [rawBars])
  have HL2 := Lib.hid hl2
  have HV1 := Lib.hid hv1
  have HV2 := Lib.hid hv2
  clear hl1 hl2 hv1 hv2
  go_enter Try.func35, Try.ntmps35
  go_wp2_with fail
  refine hc1.mono ?_
  rintro e w1 ⟨rfl, hr1, hb1⟩
  have h2 := hc2 w1 hb1
  clear hc1 hc2
  go_wp2_with fail
  refine h2.mono ?_
  rintro e w2 ⟨rfl, _, hb2⟩
  have HR := Lib.hid (hr1.below hb2)
  have HB := Lib.hid (btrans hb1 hb2)
  clear h2 hr1 hb1 hb2
  go_wp2_with fail
  go_loopw [11, 30] (fun _ i wr => MergeLoop la lb w.heap.size w i wr) (fun _ i _ => n2 - (intOf i).toNat)
  case atStart => exact ⟨[], lb, 0, rfl, rfl, HV2.out, by simp, by
    have e : mrow la [] = cnt la := by
      funext i
      unfold mrow
      rw [satAdd_comm]
      exact satAdd_zero (cnt_lt HV1.out i)
    rw [e]
    exact HR.out, HB.out⟩
  case round =>
    obtain ⟨pre, rest, lo, hl0, rfl, hvr, hpre, hrow, hb⟩ := hrel
    rcases rest with _ | ⟨⟨j, cc⟩, rest'⟩
    · have hk : ¬ (pre.length < n2) := by rw [HLN.out, hl0]; simp
      have hbars := bars_any _ _ _ hrow
      have HB1 := Lib.hid hb
      have HE := Lib.hid (show canon (mrow la pre) 0 1920 = addBars la lb by rw [hl0, List.append_nil]; rfl)
      clear hrow hb hl0 hpre
      go_wp2_with fail
      refine hbars.mono ?_
      rintro e w3 ⟨A, c, rfl, hc, hba, hb3, hfr⟩
      rw [HE.out] at hc hba ⊢
      have HBA := Lib.hid hba
      have HFR := Lib.hid hfr
      clear hbars hba hfr
      go_wp2_with fail
      go_ret2
      exact ⟨A, c, rfl, hc, HBA.out, btrans HB1.out hb3, fun a ha => Nat.le_trans HB1.out.size (HFR.out a ha)⟩
    · obtain ⟨v1, v2, v3, v4, v5⟩ := hvr
      have hk : pre.length < n2 := by rw [HLN.out, hl0]; simp
      obtain ⟨b, off, rfl, hc⟩ := HL2.out.2 (by omega)
      have hget : (rawBars lb)[pre.length]? = some ((j : Int), (cc : Int)) := by rw [hl0]; simp [rawBars]
      obtain ⟨h1, h2⟩ := hc _ _ _ hget
      have h1' := bcell1 hb h1
      have h2' := bcell1 hb h2
      have hs := hrow.lt
      have hput := put_any (wr.alloc (Obj.cells #[Value.int IntKind.i64 j, Value.int IntKind.u64 cc] 82)) w.heap.size (mrow la pre) j cc (hrow.alloc _) v2 (mrow_lt _ _ _) v4
      have HB1 := Lib.hid hb
      have HR1 := Lib.hid hrow
      have HL := Lib.hid hl0
      have HP := Lib.hid hpre
      clear h1 h2 hc hget hb hrow hl0 hpre
      go_wp2_with fail
      refine hput.mono ?_
      rintro e w3 ⟨rfl, rfl⟩
      clear hput
      go_wp2_with fail
      go_roundw
      case rel =>
        refine ⟨pre ++ [(j, cc)], rest', j + 1, by rw [HL.out]; simp, by simp, v5, fun p hp => ?_, ?_, ?_⟩
        · rcases List.mem_append.1 hp with hp | hp
          · have := HP.out p hp; omega
          · simp at hp; subst hp; simp
        · rw [← mrow_snoc la pre HV1.out (fun p hp => by have := HP.out p hp; omega)]
          exact (HR1.out.set _ v2).alloc _
        · exact bal (bset HB1.out (Nat.le_refl _) _) _
      case measure => simp [intOf]; omega
end Go.Proofs.Ytjfeeampcgmngaa
