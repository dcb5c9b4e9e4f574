/- rollup.Hours. -/
import Derived.Test.YtjfeeampcgmngaaWide
namespace Go.Proofs.Ytjfeeampcgmngaa
open Go.RowKit Go.Shelf Go.Maps

/-- Hours f up to b are those of some of a map's entries. -/
structure Span (es left : List MapEntry) (f b : Nat) : Prop where
  le : b ≤ limit
  none_ : b = 0 → f = 0 ∧ ∀ x ∈ es, x ∈ left
  first : b ≠ 0 → ∃ x ∈ es, x.key = hourVal f
  last : b ≠ 0 → ∃ x ∈ es, x.key = hourVal (b - 1)
  all : ∀ x ∈ es, x ∈ left ∨ (f ≤ keyNat x.key ∧ keyNat x.key < b)
theorem Span.step {es left left' : List MapEntry} {f b hr : Nat} {x : MapEntry} (h : Span es left f b) (hp : left.Perm (x :: left')) (hx : x ∈ es) (hk : x.key = hourVal hr) (hh : hr < limit) : Span es left' (if b = 0 ∨ hr < f then hr else f) (max b (hr + 1)) := by
  have hin : ∀ y, y ∈ left ↔ y = x ∨ y ∈ left' := fun y => by rw [hp.mem_iff]; simp
  have hle := h.le
  refine ⟨by omega, fun e => by omega, fun _ => ?_, fun _ => ?_, fun y hy => ?_⟩
  · split
    · exact ⟨x, hx, hk⟩
    · rename_i hn
      exact h.first (by omega)
  · by_cases hb : b ≤ hr + 1
    · exact ⟨x, hx, by rw [Nat.max_eq_right hb]; exact hk⟩
    · rw [Nat.max_eq_left (by omega)]
      exact h.last (by omega)
  · rcases h.all y hy with h1 | h1
    · rcases (hin y).1 h1 with rfl | h1
      · refine .inr ?_
        rw [hk, keyNat_hour]
        split <;> omega
      · exact .inl h1
    · refine .inr ?_
      split <;> omega
def HoursLoop (w : World) (m : Nat) (es : List MapEntry) (v4 v5 : Value) (wr : World) : Prop := ∃ left f b, IterIs wr w.heap.size m es left ∧ v4 = .int .i64 (f : Nat) ∧ v5 = .int .i64 (b : Nat) ∧ Span es left f b ∧ Below w.heap.size w wr

set_option maxRecDepth 100000 in
set_option maxHeartbeats 2000000 in
theorem Hours_any (w : World) (r m fan : Nat) (es : List MapEntry) (M : Cont) (F : Nat → Prop) (h : RollAt w r m fan es M F) :
    Calls Try.prog 19 #[.pointer (some ⟨r, 0, none⟩)] w fun en w' => ∃ f b : Nat, en = .returned (.tuple #[.int .i64 f, .int .i64 b]) ∧ Span es [] f b ∧ Below w.heap.size w w' := by
  have HH := Lib.hid h
  have c1 := h.blk.cell 1 rfl
  have hs := h.blk.lt
  have hms := h.map.lt
  obtain ⟨o, hrange, hiter⟩ := h.map.range Try.underlying67
  have HI := Lib.hid hiter
  clear h hiter
  go_enter Try.func19, Try.ntmps19
  go_wp2_with (rw [hrange])
  clear hrange
  go_loopw [4, 5, 12] (fun v4 v5 _ wr => HoursLoop w m es v4 v5 wr) (fun _ _ _ wr => iterLeft wr w.heap.size)
  case atStart => exact ⟨es, 0, 0, HI.out, rfl, rfl, ⟨Nat.zero_le _, fun _ => ⟨rfl, fun _ h => h⟩, fun h => absurd rfl h, fun h => absurd rfl h, fun x h => .inl h⟩, bal (brefl _) _⟩
  case round =>
    obtain ⟨left, f, b, hit, rfl, rfl, hsp, hb⟩ := hrel
    have hmw := HH.out.map.same (hb.block m hms)
    have hcnt := Lib.hid hit.count
    have HB := Lib.hid hb
    rcases hit.next (ty := 0) hmw (by omega) with ⟨rfl, hrun⟩ | ⟨x, left', w1, hw1, hp, hrun, hit', hent⟩
    · have HS := Lib.hid hsp
      clear hsp hit hmw hb
      go_wp2_with (rw [hrun])
      go_ret2
      exact ⟨f, b, rfl, HS.out, HB.out⟩
    · have hx : x ∈ es := hit.mem x (hp.mem_iff.2 (by simp))
      obtain ⟨hr, bb, eb, q1, q2, q3, q4, q5, q6, q7⟩ := HH.out.inner x hx
      have HS := Lib.hid (hsp.step hp hx q2 q1)
      have hb1 := Lib.hid (Mod.toBelow hb (next_mod hw1) (fun q hq => by rw [hq]; exact Nat.le_refl _))
      have HIT := Lib.hid hit'
      have hmeas : iterLeft w1 w.heap.size < iterLeft wr w.heap.size := by
        rw [hcnt.out, hit'.count, hp.length_eq]
        simp
      have hle : b ≤ 2097152 := hsp.le
      have hrl : hr < 2097152 := q1
      rw [q2, q3] at hrun hent
      unfold hourVal at hrun hent
      have hwr : wrap64 ((hr : Int) + 1) = ((hr + 1 : Nat) : Int) := by unfold wrap64; omega
      have HLE := Lib.hid hle
      have HRL := Lib.hid hrl
      clear hsp hit hmw hb hw1 hp hit' hx q1 q2 q3 q4 q5 q6 q7 hle hrl
      by_cases g1 : b = 0
      · subst g1
        go_wp2_with (first | rw [hrun] | rw [hent])
        rw [if_pos (Or.inl rfl)] at HS
        go_roundw
        case rel => exact ⟨left', hr, max 0 (hr + 1), HIT.out, rfl, by rw [show max (0 : Int) ((hr : Int) + 1) = ((max 0 (hr + 1) : Nat) : Int) by omega], HS.out, hb1.out⟩
        case measure => exact hmeas
      · have g1' : ((b : Int) == 0) = false := by simpa using g1
        by_cases g2 : hr < f
        · rw [if_pos (Or.inr g2)] at HS
          go_wp2_with (first | rw [hrun] | rw [hent])
          go_roundw
          case rel => exact ⟨left', hr, max b (hr + 1), HIT.out, rfl, by rw [show max (b : Int) ((hr : Int) + 1) = ((max b (hr + 1) : Nat) : Int) by omega], HS.out, hb1.out⟩
          case measure => exact hmeas
        · rw [if_neg (by omega)] at HS
          go_wp2_with (first | rw [hrun] | rw [hent])
          go_roundw
          case rel => exact ⟨left', f, max b (hr + 1), HIT.out, rfl, by rw [show max (b : Int) ((hr : Int) + 1) = ((max b (hr + 1) : Nat) : Int) by omega], HS.out, hb1.out⟩
          case measure => exact hmeas
end Go.Proofs.Ytjfeeampcgmngaa
