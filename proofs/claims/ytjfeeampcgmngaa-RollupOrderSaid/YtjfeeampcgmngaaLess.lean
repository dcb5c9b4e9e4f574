/- sketch.Less: bars taken from bars. -/
import Derived.Test.YtjfeeampcgmngaaSk3
namespace Go.Proofs.Ytjfeeampcgmngaa
open Go.RowKit Go.Shelf

/-- What is left of bars. -/
def subBars (a b : List (Nat × Nat)) : List (Nat × Nat) := canon (fun i => cnt a i - cnt b i) 0 1920
/-- Are there as many of each? -/
def Covers (a b : List (Nat × Nat)) : Prop := ∀ p ∈ b, p.2 ≤ cnt a p.1
theorem valid_subBars {a : List (Nat × Nat)} (b : List (Nat × Nat)) (h : Valid 0 a) : Valid 0 (subBars a b) :=
  valid_canon (fun i => Nat.lt_of_le_of_lt (Nat.sub_le _ _) (cnt_lt h i)) _ _ (by omega)
theorem cnt_absent {j : Nat} : ∀ {pre : List (Nat × Nat)}, (∀ p ∈ pre, p.1 ≠ j) → cnt pre j = 0
  | [], _ => rfl
  | (a, d) :: pre, h => by
    show (if a = j then d else cnt pre j) = 0
    rw [if_neg (h (a, d) (by simp))]
    exact cnt_absent fun p hp => h p (by simp [hp])

def LessLoop (la lb : List (Nat × Nat)) (B : Nat) (W : World) (i : Value) (wr : World) : Prop :=
  ∃ (pre rest : List (Nat × Nat)) (lo : Nat), lb = pre ++ rest ∧ i = .int .i64 (pre.length : Nat) ∧ Valid lo rest ∧ (∀ p ∈ pre, p.1 < lo) ∧ Covers la pre ∧ RowIs wr B (fun i => cnt la i - cnt pre i) ∧ Below W.heap.size W wr
def LessPost (la lb : List (Nat × Nat)) (w : World) (e : Ending) (w' : World) : Prop :=
  (Covers la lb ∧ ∃ A c, e = .returned (.tuple #[.slice A (subBars la lb).length c, .int .i64 0]) ∧ (subBars la lb).length ≤ c ∧ BarsAt w' A (subBars la lb).length (rawBars (subBars la lb)) ∧ Below w.heap.size w w' ∧ ∀ a, A = some a → w.heap.size ≤ a.block) ∨
  (¬ Covers la lb ∧ e = .returned (.tuple #[.slice none 0 0, .int .i64 134]) ∧ Below w.heap.size w w')

theorem u64_sub {a b : Nat} (h : b ≤ a) (ha : a < M64) : IntKind.u64.wrap ((a : Int) - (b : Int)) = ((a - b : Nat) : Int) := by
  unfold M64 at ha
  rw [IntWalk.u64_in _ (by omega)]
  omega

set_option maxRecDepth 100000 in
set_option maxHeartbeats 800000 in
theorem less_any (w : World) (A1 : Option Addr) (n1 c1 : Nat) (la : List (Nat × Nat)) (A2 : Option Addr) (n2 c2 : Nat) (lb : List (Nat × Nat)) (hn1 : n1 ≤ 140737488351232) (hn2 : n2 ≤ 140737488351232)
    (hl1 : BarsAt w A1 n1 (rawBars la)) (hv1 : Valid 0 la) (hl2 : BarsAt w A2 n2 (rawBars lb)) (hv2 : Valid 0 lb) :
    Calls Try.prog 42 #[.slice A1 n1 c1, .slice A2 n2 c2] w (LessPost la lb w) := by
  have hc1 := laid_ok w A1 n1 c1 la hn1 hl1 hv1
  have hc2 : ∀ w', Below w.heap.size w w' → _ := fun w' hb => laid_ok w' A2 n2 c2 lb hn2 (hl2.below hb) hv2
  have HLN := Lib.hid (show n2 = lb.length by rw [hl2.1]; simp [rawBars])
  have HL2 := Lib.hid hl2
  have HV1 := Lib.hid hv1
  have HV2 := Lib.hid hv2
  clear hl1 hl2 hv1 hv2
  go_enter Try.func42, Try.ntmps42
  go_wp2_with fail
  refine hc1.mono ?_
  rintro e w1 ⟨rfl, hr1, hb1⟩
  have h2 := hc2 w1 hb1
  clear hc1 hc2
  go_wp2_with fail
  refine h2.mono ?_
  rintro e w2 ⟨rfl, _, hb2⟩
  have HR := Lib.hid (hr1.below hb2)
  have HB := Lib.hid (btrans hb1 hb2)
  clear h2 hr1 hb1 hb2
  go_wp2_with fail
  go_loopw [11, 30] (fun _ i wr => LessLoop la lb w.heap.size w i wr) (fun _ i _ => n2 - (intOf i).toNat)
  case atStart => exact ⟨[], lb, 0, rfl, rfl, HV2.out, by simp, (fun p hp => by cases hp), HR.out, HB.out⟩
  case round =>
    obtain ⟨pre, rest, lo, hl0, rfl, hvr, hpre, hcov, hrow, hb⟩ := hrel
    rcases rest with _ | ⟨⟨j, cc⟩, rest'⟩
    · have hk : ¬ (pre.length < n2) := by rw [HLN.out, hl0]; simp
      have hbars := bars_any _ _ _ hrow
      have HB1 := Lib.hid hb
      have HE := Lib.hid (show canon (fun i => cnt la i - cnt pre i) 0 1920 = subBars la lb by rw [hl0, List.append_nil]; rfl)
      have HC := Lib.hid (show Covers la lb by rw [hl0, List.append_nil]; exact hcov)
      clear hrow hb hl0 hpre hcov
      go_wp2_with fail
      refine hbars.mono ?_
      rintro e w3 ⟨A, c, rfl, hc, hba, hb3, hfr⟩
      rw [HE.out] at hc hba ⊢
      have HBA := Lib.hid hba
      have HFR := Lib.hid hfr
      clear hbars hba hfr
      go_wp2_with fail
      go_ret2
      exact .inl ⟨HC.out, A, c, rfl, hc, HBA.out, btrans HB1.out hb3, fun a ha => Nat.le_trans HB1.out.size (HFR.out a ha)⟩
    · obtain ⟨v1, v2, v3, v4, v5⟩ := hvr
      have hk : pre.length < n2 := by rw [HLN.out, hl0]; simp
      obtain ⟨b, off, rfl, hc⟩ := HL2.out.2 (by omega)
      have hget : (rawBars lb)[pre.length]? = some ((j : Int), (cc : Int)) := by rw [hl0]; simp [rawBars]
      obtain ⟨h1, h2⟩ := hc _ _ _ hget
      have h1' := bcell1 hb h1
      have h2' := bcell1 hb h2
      have hw : RowIs (wr.alloc (Obj.cells #[Value.int IntKind.i64 j, Value.int IntKind.u64 cc] 82)) w.heap.size (fun i => cnt la i - cnt pre i) := hrow.alloc _
      have hz : cnt pre j = 0 := cnt_absent fun p hp => by have := hpre p hp; omega
      have c1 := hw.cell (j := j) v2
      simp only [hz, Nat.sub_zero] at c1
      have f1 := hw.frozen j
      have hs := hrow.lt
      have HB1 := Lib.hid hb
      have HR1 := Lib.hid hrow
      have HL := Lib.hid hl0
      have HP := Lib.hid hpre
      have HC := Lib.hid hcov
      have HZ := Lib.hid hz
      by_cases hlt : cnt la j < cc
      · have hno : ¬ Covers la lb := fun hc => by
          have := hc (j, cc) (by rw [HL.out]; simp)
          simp only at this
          omega
        have HNO := Lib.hid hno
        have d1 : (cnt la j : Int) < cc := by omega
        clear h1 h2 hc hget hb hrow hl0 hpre hw hcov hz hno
        go_wp2_with fail
        go_region
        go_wp2_with fail
        go_ret2
        exact .inr ⟨HNO.out, rfl, bdrew (bal HB1.out _)⟩
      · have d1 : ¬ ((cnt la j : Int) < cc) := by omega
        have hle : cc ≤ cnt la j := by omega
        have hsub := u64_sub hle (cnt_lt HV1.out j)
        have HLE := Lib.hid hle
        have HSB := Lib.hid hsub
        clear h1 h2 hc hget hb hrow hl0 hpre hw hcov hz hsub
        go_wp2_with fail
        go_region
        go_wp2_with fail
        go_region
        go_wp2_with fail
        rw [HSB.out]
        go_roundw
        case rel =>
          refine ⟨pre ++ [(j, cc)], rest', j + 1, by rw [HL.out]; simp, by simp, v5, fun p hp => ?_, fun p hp => ?_, ?_, bdrew (bdrew (bal (bset HB1.out (Nat.le_refl _) _) _))⟩
          · rcases List.mem_append.1 hp with hp | hp
            · have := HP.out p hp; omega
            · simp at hp; subst hp; simp
          · rcases List.mem_append.1 hp with hp | hp
            · exact HC.out p hp
            · simp at hp; subst hp; exact HLE.out
          · have e2 : (fun i => cnt la i - cnt (pre ++ [(j, cc)]) i) = fun i => if i = j then cnt la j - cc else cnt la i - cnt pre i := by
              rw [cnt_snoc j cc pre (fun p hp => by have := HP.out p hp; omega)]
              funext i
              by_cases hi : i = j
              · subst hi; simp
              · simp only [if_neg hi]
            rw [e2]
            exact (HR1.out.set _ v2).alloc _
        case measure => simp [intOf]; omega
end Go.Proofs.Ytjfeeampcgmngaa
