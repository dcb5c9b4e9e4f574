/- calls.plus and calls.minus over words of 64 bits: they compute the sum that stops, and the difference. -/
import Derived.Test.YtjfeeampcgmngaaChecked
import Derived.Test.YtjfeeampcgmngaaTal
import Derived.Test.YtjfeeampcgmngaaBase
import Derived.Shelf.Spec.BitsCarry
namespace Go.Proofs.Ytjfeeampcgmngaa
open Go.RowKit Go.Shelf

theorem add64 (x y c : Int) (hx : 0 ≤ x) (hy : 0 ≤ y) (hc0 : 0 ≤ c) (hc : c ≤ 1) (w : World) : (callFunc 59 #[.int .u64 x, .int .u64 y, .int .u64 c]).run Try.prog w =
    .ok (.value (.tuple #[.int .u64 ((x + y + c) % 18446744073709551616), .int .u64 ((x + y + c) / 18446744073709551616)])) w := by
  obtain ⟨x, rfl⟩ := Int.eq_ofNat_of_zero_le hx
  obtain ⟨y, rfl⟩ := Int.eq_ofNat_of_zero_le hy
  obtain ⟨c, rfl⟩ := Int.eq_ofNat_of_zero_le hc0
  rw [run_callFunc_extern Try.func59 (by kernel_rfl) (by kernel_rfl) (by kernel_rfl) (e := add64Entry) (by kernel_rfl), run_add64 x y c (by omega) (by omega) (by omega) (by omega)]
  simp only [Result.andThen]
  all_goals (congr 5 <;> omega)
theorem sub64 (x y b : Int) (hx : 0 ≤ x) (hy : 0 ≤ y) (hy' : y < 18446744073709551616) (hb0 : 0 ≤ b) (hb : b ≤ 1) (w : World) : (callFunc 63 #[.int .u64 x, .int .u64 y, .int .u64 b]).run Try.prog w =
    .ok (.value (.tuple #[.int .u64 ((x - y - b) % 18446744073709551616), .int .u64 (if x < y + b then 1 else 0)])) w := by
  obtain ⟨x, rfl⟩ := Int.eq_ofNat_of_zero_le hx
  obtain ⟨y, rfl⟩ := Int.eq_ofNat_of_zero_le hy
  obtain ⟨b, rfl⟩ := Int.eq_ofNat_of_zero_le hb0
  have e1 : (((x + 18446744073709551616 - y - b) % 18446744073709551616 : Nat) : Int) = ((x : Int) - y - b) % 18446744073709551616 := by omega
  have e2 : ((if x < y + b then 1 else 0 : Nat) : Int) = if (x : Int) < y + b then 1 else 0 := by split <;> split <;> omega
  rw [← e1, ← e2]
  rw [run_callFunc_extern Try.func63 (by kernel_rfl) (by kernel_rfl) (by kernel_rfl) (e := sub64Entry) (by kernel_rfl), run_sub64 x y b (by omega)]
  rfl
theorem add64_0 (x y : Int) (hx : 0 ≤ x) (hy : 0 ≤ y) (w : World) : (callFunc 59 #[.int .u64 x, .int .u64 y, .int .u64 0]).run Try.prog w =
    .ok (.value (.tuple #[.int .u64 ((x + y) % 18446744073709551616), .int .u64 ((x + y) / 18446744073709551616)])) w := by
  simpa using add64 x y 0 hx hy (Int.le_refl 0) (by decide) w
theorem sub64_0 (x y : Int) (hx : 0 ≤ x) (hy : 0 ≤ y) (hy' : y < 18446744073709551616) (w : World) : (callFunc 63 #[.int .u64 x, .int .u64 y, .int .u64 0]).run Try.prog w =
    .ok (.value (.tuple #[.int .u64 ((x - y) % 18446744073709551616), .int .u64 (if x < y then 1 else 0)])) w := by
  simpa using sub64 x y 0 hx hy hy' (Int.le_refl 0) (by decide) w

def Word (x : Int) : Prop := 0 ≤ x ∧ x < 18446744073709551616

/-- calls.plus over words. -/
theorem plus_words (ah al bh bl : Int) (h1 : Word ah) (h2 : Word al) (h3 : Word bh) (h4 : Word bl) (w : World) :
    Calls Try.prog 36 #[.agg #[.int .u64 ah, .int .u64 al], .agg #[.int .u64 bh, .int .u64 bl]] w fun e w' =>
      e = .returned (if 0 < (ah + bh + (al + bl) / 18446744073709551616) / 18446744073709551616 then .agg #[.int .u64 18446744073709551615, .int .u64 18446744073709551615]
        else .agg #[.int .u64 ((ah + bh + (al + bl) / 18446744073709551616) % 18446744073709551616), .int .u64 ((al + bl) % 18446744073709551616)]) ∧ Below w.heap.size w w' := by
  obtain ⟨a1, a2⟩ := h1; obtain ⟨b1, b2⟩ := h2; obtain ⟨c1, c2⟩ := h3; obtain ⟨d1, d2⟩ := h4
  have k0 : 0 ≤ (al + bl) / 18446744073709551616 := by omega
  have k1 : (al + bl) / 18446744073709551616 ≤ 1 := by omega
  go_enter Try.func36, Try.ntmps36
  go_wp2_with (first | simp only [add64_0 al bl b1 d1] | simp only [add64 ah bh _ a1 c1 k0 k1])
  · refine bodyPost_ret (v := .agg #[.int .u64 18446744073709551615, .int .u64 18446744073709551615]) (by simp [results, Try.results36, go_sem]) rfl ⟨rfl, ?_⟩
    exact bal (bal (bal (brefl _) _) _) _
  · refine bodyPost_ret (v := .agg #[.int .u64 ((ah + bh + (al + bl) / 18446744073709551616) % 18446744073709551616), .int .u64 ((al + bl) % 18446744073709551616)]) (by simp [results, Try.results36, go_sem]) rfl ⟨rfl, ?_⟩
    exact bal (bal (bal (brefl _) _) _) _

/-- The words of a number below 2 ^ 128. -/
def natHi (n : Nat) : Int := ((n / M64 : Nat) : Int)
def natLo (n : Nat) : Int := ((n % M64 : Nat) : Int)
def natVal (n : Nat) : Value := .agg #[.int .u64 (natHi n), .int .u64 (natLo n)]
theorem natHi_zero : natHi 0 = 0 := rfl
theorem natLo_zero : natLo 0 = 0 := rfl
theorem word_hi {n : Nat} (h : n < M128) : Word (natHi n) := by
  unfold Word natHi
  unfold M128 at h
  unfold M64
  omega
theorem word_lo (n : Nat) : Word (natLo n) := by
  unfold Word natLo M64
  omega
theorem nat_of_words {h l : Int} (hh : Word h) (hl : Word l) : ∃ n, n < M128 ∧ natHi n = h ∧ natLo n = l := by
  obtain ⟨h, rfl⟩ := Int.eq_ofNat_of_zero_le hh.1
  obtain ⟨l, rfl⟩ := Int.eq_ofNat_of_zero_le hl.1
  have h1 := hh.2
  have h2 := hl.2
  refine ⟨h * M64 + l, ?_, ?_, ?_⟩
  · unfold M64 M128; omega
  · unfold natHi M64; omega
  · unfold natLo M64; omega
theorem nat_inj {m n : Nat} (h : natHi m = natHi n) (l : natLo m = natLo n) : m = n := by
  unfold natHi at h
  unfold natLo at l
  have e1 : m / M64 = n / M64 := Int.ofNat.inj h
  have e2 : m % M64 = n % M64 := Int.ofNat.inj l
  rw [← Nat.div_add_mod m M64, ← Nat.div_add_mod n M64, e1, e2]

/-- calls.plus: the sum, as far as it goes. -/
theorem plus_any (m n : Nat) (hm : m < M128) (hn : n < M128) (w : World) :
    Calls Try.prog 36 #[natVal m, natVal n] w fun e w' => e = .returned (natVal (satAdd M128 m n)) ∧ Below w.heap.size w w' := by
  refine (plus_words _ _ _ _ (word_hi hm) (word_lo m) (word_hi hn) (word_lo n) w).mono ?_
  rintro e w' ⟨rfl, hb⟩
  refine ⟨?_, hb⟩
  congr 1
  unfold natVal
  unfold natHi natLo satAdd
  unfold M128 at hm hn
  unfold M64 M128
  split
  · congr 3
    · congr 1; omega
    · congr 2; omega
  · congr 3
    · congr 1; omega
    · congr 2; omega

/-- calls.minus over words. -/
theorem minus_words (ah al bh bl : Int) (h1 : Word ah) (h2 : Word al) (h3 : Word bh) (h4 : Word bl) (w : World) :
    Calls Try.prog 41 #[.agg #[.int .u64 ah, .int .u64 al], .agg #[.int .u64 bh, .int .u64 bl]] w fun e w' =>
      e = .returned (.tuple #[.agg #[.int .u64 ((ah - bh - (if al < bl then 1 else 0)) % 18446744073709551616), .int .u64 ((al - bl) % 18446744073709551616)], .bool (decide (¬ ah < bh + (if al < bl then 1 else 0)))]) ∧ Below w.heap.size w w' := by
  obtain ⟨a1, a2⟩ := h1; obtain ⟨b1, b2⟩ := h2; obtain ⟨c1, c2⟩ := h3; obtain ⟨d1, d2⟩ := h4
  have s1 : ∀ w, (callFunc 63 #[.int .u64 al, .int .u64 bl, .int .u64 0]).run Try.prog w = .ok (.value (.tuple #[.int .u64 ((al - bl) % 18446744073709551616), .int .u64 (if al < bl then 1 else 0)])) w := sub64_0 al bl b1 d1 d2
  have s2 : ∀ c, 0 ≤ c → c ≤ 1 → ∀ w, (callFunc 63 #[.int .u64 ah, .int .u64 bh, .int .u64 c]).run Try.prog w = .ok (.value (.tuple #[.int .u64 ((ah - bh - c) % 18446744073709551616), .int .u64 (if ah < bh + c then 1 else 0)])) w := fun c h0 h1 => sub64 ah bh c a1 c1 c2 h0 h1
  have s3 : ∃ c : Int, 0 ≤ c ∧ c ≤ 1 ∧ c = if al < bl then 1 else 0 := ⟨_, by split <;> decide, by split <;> decide, rfl⟩
  obtain ⟨c, k0, k1, hc⟩ := s3
  rw [← hc] at s1 ⊢
  have s2' := s2 c k0 k1
  have s4 : ∃ d : Int, d = if ah < bh + c then 1 else 0 := ⟨_, rfl⟩
  obtain ⟨d, hd⟩ := s4
  rw [← hd] at s2'
  have e5 : decide (¬ ah < bh + c) = (d == 0) := by
    rw [hd]
    by_cases h : ah < bh + c
    · simp [h]
    · simp [h]
  rw [e5]
  clear s2 hc hd e5
  go_enter Try.func41, Try.ntmps41
  go_wp2_with (first | simp only [s1] | simp only [s2'])
  refine bodyPost_ret (v := .tuple #[.agg #[.int .u64 ((ah - bh - c) % 18446744073709551616), .int .u64 ((al - bl) % 18446744073709551616)], .bool (d == 0)]) (by simp [results, Try.results41, go_sem]) rfl ⟨rfl, ?_⟩
  exact bal (bal (bal (brefl _) _) _) _

/-- calls.minus: what is left, and whether there is as much. -/
theorem minus_any (m n : Nat) (hm : m < M128) (hn : n < M128) (w : World) :
    Calls Try.prog 41 #[natVal m, natVal n] w fun e w' => ∃ v, e = .returned (.tuple #[v, .bool (decide (n ≤ m))]) ∧ (n ≤ m → v = natVal (m - n)) ∧ (∃ h l : Int, v = .agg #[.int .u64 h, .int .u64 l]) ∧ Below w.heap.size w w' := by
  refine (minus_words _ _ _ _ (word_hi hm) (word_lo m) (word_hi hn) (word_lo n) w).mono ?_
  rintro e w' ⟨rfl, hb⟩
  have hdec : (decide ¬ natHi m < natHi n + (if natLo m < natLo n then 1 else 0)) = decide (n ≤ m) := by
    rw [decide_eq_decide]
    unfold natHi natLo M64
    unfold M128 at hm hn
    split <;> omega
  rw [hdec]
  refine ⟨_, rfl, ?_, ⟨_, _, rfl⟩, hb⟩
  · intro hle
    unfold natVal
    unfold natHi natLo
    unfold M128 at hm hn
    unfold M64
    congr 3
    · congr 1
      split <;> omega
    · congr 2
      omega
end Go.Proofs.Ytjfeeampcgmngaa
