/- The document's sums of numbers and of tallies. -/
import Derived.Test.YtjfeeampcgmngaaRefM
namespace Go.Proofs.Ytjfeeampcgmngaa
open Go.RowKit Go.Shelf Go.Maps

def RAddPost (ah al bh bl : Int) (w : World) (e : Ending) (w' : World) : Prop :=
  e = .returned (if 0 < (ah + bh + (al + bl) / 18446744073709551616) / 18446744073709551616 then .agg #[.int .u64 18446744073709551615, .int .u64 18446744073709551615]
        else .agg #[.int .u64 ((ah + bh + (al + bl) / 18446744073709551616) % 18446744073709551616), .int .u64 ((al + bl) % 18446744073709551616)]) ∧ Below w.heap.size w w'
set_option maxRecDepth 100000 in
set_option maxHeartbeats 1000000 in
theorem radd_words (ah al bh bl : Int) (h1 : Word ah) (h2 : Word al) (h3 : Word bh) (h4 : Word bl) (w : World) :
    Calls Try.prog 55 #[.agg #[.int .u64 ah, .int .u64 al], .agg #[.int .u64 bh, .int .u64 bl]] w (RAddPost ah al bh bl w) := by
  obtain ⟨a1, a2⟩ := h1; obtain ⟨b1, b2⟩ := h2; obtain ⟨c1, c2⟩ := h3; obtain ⟨d1, d2⟩ := h4
  by_cases g1 : al + bl < 18446744073709551616
  · have w1 : IntKind.u64.wrap (al + bl) = al + bl := IntWalk.u64_in _ (by omega)
    have t1 : ¬ (al + bl < al) := by omega
    have HE := Lib.hid (show True from trivial)
    by_cases g2 : ah + bh < 18446744073709551616
    · have t2 : ¬ (ah + bh < ah) := by omega
      have t3 : ¬ (ah + bh < 0) := by omega
      go_enter Try.func55, Try.ntmps55
      go_wp2_with fail
      refine bodyPost_ret (v := .agg #[.int .u64 (ah + bh), .int .u64 (al + bl)]) (by simp [results, Try.results55, go_sem]) rfl ⟨?_, ?_⟩
      · have e1 := HE.out
        rw [if_neg (by omega), show (ah + bh + (al + bl) / 18446744073709551616) % 18446744073709551616 = ah + bh by omega, show (al + bl) % 18446744073709551616 = al + bl by omega]
      · exact bal (bal (bal (brefl _) _) _) _
    · obtain ⟨hi, hhi⟩ : ∃ hi, hi = ah + bh - 18446744073709551616 := ⟨_, rfl⟩
      have w2 : IntKind.u64.wrap (ah + bh) = hi := by rw [IntKind.wrap_u64]; omega
      have t2 : hi < ah := by omega
      have t4 : 0 ≤ hi := by omega
      have HHI := Lib.hid hhi
      have HG2 := Lib.hid g2
      clear hhi g2
      go_enter Try.func55, Try.ntmps55
      go_wp2_with fail
      refine bodyPost_ret (v := .agg #[.int .u64 18446744073709551615, .int .u64 18446744073709551615]) (by simp [results, Try.results55, go_sem]) rfl ⟨?_, ?_⟩
      · have e1 := HG2.out
        rw [if_pos (by omega)]
      · exact bal (bal (bal (brefl _) _) _) _
  · obtain ⟨lo, hlo⟩ : ∃ lo, lo = al + bl - 18446744073709551616 := ⟨_, rfl⟩
    have w1 : IntKind.u64.wrap (al + bl) = lo := by rw [IntKind.wrap_u64]; omega
    have t1 : lo < al := by omega
    have t0 : 0 ≤ lo := by omega
    have HLO := Lib.hid hlo
    have HG1 := Lib.hid g1
    clear hlo g1
    by_cases g2 : ah + bh < 18446744073709551616
    · have t2 : ¬ (ah + bh < ah) := by omega
      by_cases g3 : ah + bh + 1 < 18446744073709551616
      · have t3 : ¬ (ah + bh + 1 < 1) := by omega
        go_enter Try.func55, Try.ntmps55
        go_wp2_with fail
        refine bodyPost_ret (v := .agg #[.int .u64 (ah + bh + 1), .int .u64 lo]) (by simp [results, Try.results55, go_sem]) rfl ⟨?_, ?_⟩
        · have e1 := HG1.out
          have e2 := HLO.out
          rw [if_neg (by omega), show (ah + bh + (al + bl) / 18446744073709551616) % 18446744073709551616 = ah + bh + 1 by omega, show (al + bl) % 18446744073709551616 = lo by omega]
        · exact bal (bal (bal (brefl _) _) _) _
      · have w3 : IntKind.u64.wrap (ah + bh + 1) = 0 := by rw [IntKind.wrap_u64]; omega
        have HG3 := Lib.hid g3
        clear g3
        go_enter Try.func55, Try.ntmps55
        go_wp2_with fail
        refine bodyPost_ret (v := .agg #[.int .u64 18446744073709551615, .int .u64 18446744073709551615]) (by simp [results, Try.results55, go_sem]) rfl ⟨?_, ?_⟩
        · have e1 := HG1.out
          have e3 := HG3.out
          rw [if_pos (by omega)]
        · exact bal (bal (bal (brefl _) _) _) _
    · obtain ⟨hi, hhi⟩ : ∃ hi, hi = ah + bh - 18446744073709551616 := ⟨_, rfl⟩
      have w2 : IntKind.u64.wrap (ah + bh) = hi := by rw [IntKind.wrap_u64]; omega
      have t2 : hi < ah := by omega
      have t4 : 0 ≤ hi := by omega
      have t5 : hi + 1 < 18446744073709551616 := by omega
      have HHI := Lib.hid hhi
      have HG2 := Lib.hid g2
      clear hhi g2
      go_enter Try.func55, Try.ntmps55
      go_wp2_with fail
      refine bodyPost_ret (v := .agg #[.int .u64 18446744073709551615, .int .u64 18446744073709551615]) (by simp [results, Try.results55, go_sem]) rfl ⟨?_, ?_⟩
      · have e1 := HG2.out
        rw [if_pos (by omega)]
      · exact bal (bal (bal (brefl _) _) _) _
theorem radd_any (m n : Nat) (hm : m < M128) (hn : n < M128) (w : World) :
    Calls Try.prog 55 #[natVal m, natVal n] w fun e w' => e = .returned (natVal (satAdd M128 m n)) ∧ Below w.heap.size w w' := by
  refine (radd_words _ _ _ _ (word_hi hm) (word_lo m) (word_hi hn) (word_lo n) w).mono ?_
  rintro e w' ⟨rfl, hb⟩
  refine ⟨?_, hb⟩
  congr 1
  unfold natVal
  unfold natHi natLo satAdd
  unfold M128 at hm hn
  unfold M64 M128
  split
  · congr 3
    · congr 1; omega
    · congr 2; omega
  · congr 3
    · congr 1; omega
    · congr 2; omega
end Go.Proofs.Ytjfeeampcgmngaa
