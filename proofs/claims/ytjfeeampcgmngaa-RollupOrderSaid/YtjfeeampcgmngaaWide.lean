/- rollup.wide. -/
import Derived.Test.YtjfeeampcgmngaaRange
namespace Go.Proofs.Ytjfeeampcgmngaa
open Go.RowKit Go.Shelf Go.Maps

theorem pow_mono {F : Nat} (hF : 2 ≤ F) {i j : Nat} (h : i ≤ j) : F ^ i ≤ F ^ j := Nat.pow_le_pow_right (by omega) h
def WideLoop (F k : Nat) (w : World) (v i : Value) (wr : World) : Prop := ∃ j : Nat, j ≤ k ∧ i = .int .i64 j ∧ v = .int .i64 (F ^ j : Nat) ∧ (j = 0 ∨ F ^ (j - 1) < limit) ∧ wr = w

set_option maxRecDepth 100000 in
set_option maxHeartbeats 1000000 in
theorem wide_any (w : World) (r m F k : Nat) (hb : Blk w r 69 [.int .i64 F, .map (some m)]) (hF : 2 ≤ F) (hF16 : F ≤ 16) (hk : k ≤ 1099511627776) :
    Calls Try.prog 21 #[.pointer (some ⟨r, 0, none⟩), .int .i64 k] w fun en w' => en = .returned (if k = 0 ∨ F ^ (k - 1) < limit then .tuple #[.int .i64 (F ^ k : Nat), .bool true] else .tuple #[.int .i64 0, .bool false]) ∧ w' = w := by
  have c0 := hb.cell 0 rfl
  have HK := Lib.hid hk
  have HF := Lib.hid hF
  have HF16 := Lib.hid hF16
  have g0 : ¬ ((k : Int) < 0) := by omega
  clear hb hk hF hF16
  go_enter Try.func21, Try.ntmps21
  go_wp2_with fail
  go_loopw [6, 10] (fun v i wr => WideLoop F k w v i wr) (fun _ i _ => k - (intOf i).toNat)
  case atStart => exact ⟨0, Nat.zero_le _, rfl, rfl, .inl rfl, rfl⟩
  case round =>
    obtain ⟨j, hj, rfl, rfl, hw, rfl⟩ := hrel
    by_cases h1 : j < k
    · by_cases h2 : F ^ j < limit
      · have h3 : F ^ (j + 1) < limit * 16 := by
          rw [Nat.pow_succ]
          have a := HF16.out
          calc F ^ j * F ≤ F ^ j * 16 := Nat.mul_le_mul_left _ a
            _ < limit * 16 := by omega
        have e1 : ((F ^ j : Nat) : Int) * (F : Int) = ((F ^ (j + 1) : Nat) : Int) := by rw [Nat.pow_succ]; simp
        have H2 := Lib.hid h2
        have hge : ¬ (2097152 ≤ ((F ^ j : Nat) : Int)) := by unfold limit at h2; omega
        have hw64 : wrap64 (((F ^ j : Nat) : Int) * (F : Int)) = ((F ^ (j + 1) : Nat) : Int) := by
          rw [e1]
          unfold limit at h3
          unfold wrap64
          omega
        generalize hP : F ^ j = P at *
        generalize hP1 : F ^ (j + 1) = P1 at *
        have HP1 := Lib.hid hP1
        have HP := Lib.hid hP
        clear h2 h3 e1 hw hP hP1
        go_wp2_with fail
        have hj1 : wrap64 ((j : Int) + 1) = ((j + 1 : Nat) : Int) := by
          have := HK.out
          unfold wrap64
          omega
        rw [hj1, hw64]
        go_roundw
        case rel => exact ⟨j + 1, by omega, rfl, by rw [HP1.out], .inr (by rw [Nat.add_sub_cancel, HP.out]; exact H2.out), rfl⟩
        case measure => simp [intOf]; omega
      · have hno : ¬ (k = 0 ∨ F ^ (k - 1) < limit) := by
          rintro (h3 | h3)
          · omega
          · have := pow_mono HF.out (show j ≤ k - 1 by omega)
            omega
        have hge : (2097152 : Int) ≤ ((F ^ j : Nat) : Int) := by unfold limit at h2; omega
        have HNO := Lib.hid hno
        generalize hP : F ^ j = P at *
        clear h2 hw hP hno
        go_wp2_with fail
        go_ret2
        exact ⟨rfl, rfl⟩
    · have hjk : j = k := by omega
      subst hjk
      have HW := Lib.hid hw
      generalize hP : F ^ j = P at *
      have HP := Lib.hid hP
      clear hw hP
      go_wp2_with fail
      go_ret2
      refine ⟨?_, rfl⟩
      have e : ((F : Int) ^ j) = (P : Int) := by rw [← HP.out]; simp
      rw [e]
      rfl

set_option maxRecDepth 100000 in
theorem wide_neg (w : World) (r : Nat) (k : Int) (hk : k < 0) :
    Calls Try.prog 21 #[.pointer (some ⟨r, 0, none⟩), .int .i64 k] w fun en w' => en = .returned (.tuple #[.int .i64 0, .bool false]) ∧ w' = w := by
  go_enter Try.func21, Try.ntmps21
  go_wp2_with fail
  go_ret2
  exact ⟨rfl, rfl⟩
end Go.Proofs.Ytjfeeampcgmngaa
