/- The document's sameness of tallies, edges, windows: what is alike is told so. -/
import Derived.Test.YtjfeeampcgmngaaWinK
import Derived.StillTailTactics
namespace Go.Proofs.Ytjfeeampcgmngaa
open Go.RowKit Go.Shelf Go.Maps

def SameLoop (n : Nat) (W : World) (i : Value) (wr : World) : Prop := ∃ k : Nat, k ≤ n ∧ i = .int .i64 k ∧ Below W.heap.size W wr
set_option maxRecDepth 100000 in
set_option maxHeartbeats 2000000 in
theorem SameTally_eq (w : World) (va vb : Value) (t : RTal) (ha : TalAt w va t) (hb : TalAt w vb t) :
    Calls Try.prog 20 #[va, vb] w fun e w' => e = .returned (.bool true) ∧ Below w.heap.size w w' := by
  obtain ⟨A1, n1, c1, rfl, h1, h1', h1''⟩ := ha
  obtain ⟨A2, n2, c2, rfl, h2, h2', h2''⟩ := hb
  have hn : n1 = n2 := h1.1.trans h2.1.symm
  subst hn
  unfold talVal
  generalize natHi t.calls = x1
  generalize natLo t.calls = x2
  generalize natHi t.errors = x3
  generalize natLo t.errors = x4
  generalize natHi t.took = x5
  generalize natLo t.took = x6
  obtain ⟨W, hW⟩ : ∃ W, W = (w.alloc (Obj.cells #[.int .u64 x1, .int .u64 x2, .int .u64 x3, .int .u64 x4, .int .u64 x5, .int .u64 x6, .slice A1 n1 c1] 46)).alloc (Obj.cells #[.int .u64 x1, .int .u64 x2, .int .u64 x3, .int .u64 x4, .int .u64 x5, .int .u64 x6, .slice A2 n1 c2] 46) := ⟨_, rfl⟩
  have hbW : Below w.heap.size w W := by rw [hW]; exact bal (bal (brefl w) _) _
  have k1 : Blk W w.heap.size 46 [.int .u64 x1, .int .u64 x2, .int .u64 x3, .int .u64 x4, .int .u64 x5, .int .u64 x6, .slice A1 n1 c1] := by rw [hW]; exact (Blk.new _ _ _).alloc _
  have k2 : Blk W (w.heap.size + 1) 46 [.int .u64 x1, .int .u64 x2, .int .u64 x3, .int .u64 x4, .int .u64 x5, .int .u64 x6, .slice A2 n1 c2] := by rw [hW]; exact Blk.new_ _ _ _ (by simp)
  have HW := Lib.hid hW
  have H1 := Lib.hid (h1.below hbW)
  have H2 := Lib.hid (h2.below hbW)
  have HBW := Lib.hid hbW
  have K1 := Lib.hid k1
  have K2 := Lib.hid k2
  clear h1 h2 hW hbW
  go_enter Try.func20, Try.ntmps20
  go_wp2_with fail
  rw [← HW.out]
  clear k1 k2
  go_loopw [5] (fun i wr => SameLoop n1 W i wr) (fun i _ => n1 - (intOf i).toNat)
  case atStart => exact ⟨0, Nat.zero_le _, rfl, brefl _⟩
  case round =>
    obtain ⟨k, hk, rfl, hb⟩ := hrel
    have HB := Lib.hid hb
    have p6 := (K1.out.below hb).cell 6 rfl
    have q6 := (K2.out.below hb).cell 6 rfl
    by_cases hlt : k < n1
    · obtain ⟨b1, o1, hA1, hc1⟩ := H1.out.2 (by omega)
      obtain ⟨b2, o2, hA2, hc2⟩ := H2.out.2 (by omega)
      subst hA1
      subst hA2
      obtain ⟨⟨j, c⟩, hx⟩ : ∃ x, t.bars[k]? = some x := ⟨t.bars[k]'(by rw [← H1.out.1]; exact hlt), List.getElem?_eq_getElem _⟩
      obtain ⟨r1, r2⟩ := hc1 k j c hx
      obtain ⟨s1, s2⟩ := hc2 k j c hx
      have r1' := bcell1 hb r1
      have r2' := bcell1 hb r2
      have s1' := bcell1 hb s1
      have s2' := bcell1 hb s2
      clear hb hc1 hc2 hx r1 r2 s1 s2
      go_wp2_with fail
      go_quiet (fail)
      go_wp2_with fail
      go_roundw
      case rel => exact ⟨k + 1, by omega, by go_num, below_drewN HB.out _⟩
      case measure => simp [intOf]; omega
    · have hkn : k = n1 := by omega
      subst hkn
      clear hb
      go_wp2_with fail
      go_ret
      exact ⟨rfl, btrans HBW.out HB.out⟩

set_option maxRecDepth 100000 in
set_option maxHeartbeats 2000000 in
theorem SameEdges_eq (w : World) (A1 A2 : Option Addr) (n1 n2 c1 c2 : Nat) (B1 B2 : Nat) (L : List ET) (h1 : EdgesAt B1 w A1 n1 L) (h2 : EdgesAt B2 w A2 n2 L) (hn : n1 ≤ 140737488355328) :
    Calls Try.prog 10 #[.slice A1 n1 c1, .slice A2 n2 c2] w fun e w' => e = .returned (.bool true) ∧ Below w.heap.size w w' := by
  have hnn : n1 = n2 := h1.len.trans h2.len.symm
  subst hnn
  have H1 := Lib.hid h1
  have H2 := Lib.hid h2
  clear h1 h2
  go_enter Try.func10, Try.ntmps10
  go_wp2_with fail
  go_loopw [5] (fun i wr => SameLoop n1 w i wr) (fun i _ => n1 - (intOf i).toNat)
  case atStart => exact ⟨0, Nat.zero_le _, rfl, brefl _⟩
  case round =>
    obtain ⟨k, hk, rfl, hb⟩ := hrel
    have HB := Lib.hid hb
    by_cases hlt : k < n1
    · obtain ⟨d1, a1, a2, a3, a4⟩ := H1.out.below hb
      obtain ⟨d2, b1, b2, b3, b4⟩ := H2.out.below hb
      obtain ⟨g1, o1, hA1, hB1, hc1⟩ := a4 (by omega)
      obtain ⟨g2, o2, hA2, hB2, hc2⟩ := b4 (by omega)
      subst hA1
      subst hA2
      obtain ⟨x, hx⟩ : ∃ x, d1[k]? = some x := ⟨d1[k]'(by omega), List.getElem?_eq_getElem _⟩
      obtain ⟨y, hy⟩ : ∃ y, d2[k]? = some y := ⟨d2[k]'(by omega), List.getElem?_eq_getElem _⟩
      obtain ⟨p, hp⟩ : ∃ p, L[k]? = some p := ⟨L[k]'(by omega), List.getElem?_eq_getElem _⟩
      obtain ⟨x1, x2, x3, x4⟩ := a3 k x p hx hp
      obtain ⟨y1, y2, y3, y4⟩ := b3 k y p hy hp
      have r0 : wr.cell? ⟨g1, o1 + k * 9, none⟩ = some (.string x.e.1) := by have h9 := hc1 k x hx 0 _ rfl; rw [← Nat.add_assoc] at h9; exact h9
      have r1 : wr.cell? ⟨g1, o1 + k * 9 + 1, none⟩ = some (.string x.e.2) := by have h9 := hc1 k x hx 1 _ rfl; rw [← Nat.add_assoc] at h9; exact h9
      have r2 : wr.cell? ⟨g1, o1 + k * 9 + 2, none⟩ = some (.int .u64 (natHi x.calls)) := by have h9 := hc1 k x hx 2 _ rfl; rw [← Nat.add_assoc] at h9; exact h9
      have r3 : wr.cell? ⟨g1, o1 + k * 9 + 3, none⟩ = some (.int .u64 (natLo x.calls)) := by have h9 := hc1 k x hx 3 _ rfl; rw [← Nat.add_assoc] at h9; exact h9
      have r4 : wr.cell? ⟨g1, o1 + k * 9 + 4, none⟩ = some (.int .u64 (natHi x.errors)) := by have h9 := hc1 k x hx 4 _ rfl; rw [← Nat.add_assoc] at h9; exact h9
      have r5 : wr.cell? ⟨g1, o1 + k * 9 + 5, none⟩ = some (.int .u64 (natLo x.errors)) := by have h9 := hc1 k x hx 5 _ rfl; rw [← Nat.add_assoc] at h9; exact h9
      have r6 : wr.cell? ⟨g1, o1 + k * 9 + 6, none⟩ = some (.int .u64 (natHi x.took)) := by have h9 := hc1 k x hx 6 _ rfl; rw [← Nat.add_assoc] at h9; exact h9
      have r7 : wr.cell? ⟨g1, o1 + k * 9 + 7, none⟩ = some (.int .u64 (natLo x.took)) := by have h9 := hc1 k x hx 7 _ rfl; rw [← Nat.add_assoc] at h9; exact h9
      have r8 : wr.cell? ⟨g1, o1 + k * 9 + 8, none⟩ = some (.slice x.A x.n x.c) := by have h9 := hc1 k x hx 8 _ rfl; rw [← Nat.add_assoc] at h9; exact h9
      have s0 : wr.cell? ⟨g2, o2 + k * 9, none⟩ = some (.string y.e.1) := by have h9 := hc2 k y hy 0 _ rfl; rw [← Nat.add_assoc] at h9; exact h9
      have s1 : wr.cell? ⟨g2, o2 + k * 9 + 1, none⟩ = some (.string y.e.2) := by have h9 := hc2 k y hy 1 _ rfl; rw [← Nat.add_assoc] at h9; exact h9
      have s2 : wr.cell? ⟨g2, o2 + k * 9 + 2, none⟩ = some (.int .u64 (natHi y.calls)) := by have h9 := hc2 k y hy 2 _ rfl; rw [← Nat.add_assoc] at h9; exact h9
      have s3 : wr.cell? ⟨g2, o2 + k * 9 + 3, none⟩ = some (.int .u64 (natLo y.calls)) := by have h9 := hc2 k y hy 3 _ rfl; rw [← Nat.add_assoc] at h9; exact h9
      have s4 : wr.cell? ⟨g2, o2 + k * 9 + 4, none⟩ = some (.int .u64 (natHi y.errors)) := by have h9 := hc2 k y hy 4 _ rfl; rw [← Nat.add_assoc] at h9; exact h9
      have s5 : wr.cell? ⟨g2, o2 + k * 9 + 5, none⟩ = some (.int .u64 (natLo y.errors)) := by have h9 := hc2 k y hy 5 _ rfl; rw [← Nat.add_assoc] at h9; exact h9
      have s6 : wr.cell? ⟨g2, o2 + k * 9 + 6, none⟩ = some (.int .u64 (natHi y.took)) := by have h9 := hc2 k y hy 6 _ rfl; rw [← Nat.add_assoc] at h9; exact h9
      have s7 : wr.cell? ⟨g2, o2 + k * 9 + 7, none⟩ = some (.int .u64 (natLo y.took)) := by have h9 := hc2 k y hy 7 _ rfl; rw [← Nat.add_assoc] at h9; exact h9
      have s8 : wr.cell? ⟨g2, o2 + k * 9 + 8, none⟩ = some (.slice y.A y.n y.c) := by have h9 := hc2 k y hy 8 _ rfl; rw [← Nat.add_assoc] at h9; exact h9
      have hst := fun w' (hb : Below wr.heap.size wr w') => SameTally_eq w' x.val y.val p.2.raw (x3.below hb) (y3.below hb)
      unfold ETV.val talVal at hst
      rw [x1] at r0 r1
      rw [y1] at s0 s1
      have HST := Lib.hid hst
      clear hb a1 a2 a3 a4 b1 b2 b3 b4 hc1 hc2 hx hy hp x1 x2 x3 x4 y1 y2 y3 y4 hst hB1 hB2
      go_wp2_with fail
      refine wp_region_still_tail 22 (by kernel_rfl) (by kernel_rfl) ?_
      change wpStill _ _ wr.drew (fun a' => wpList _ _ _ _ a' wr.drew) _ _
      simp only [List.take_succ_cons, List.take_zero, List.drop_succ_cons, List.drop_zero]
      repeat still_step
      refine wpStill_nil ?_
      go_wp2_with fail
      refine (HST.out _ (bdrew (brefl _))).mono ?_
      rintro en w2 ⟨rfl, hb2⟩
      have HB2 := Lib.hid (btrans (bdrew HB.out) hb2)
      clear hb2
      go_wp2_with fail
      go_roundw
      case rel => exact ⟨k + 1, by omega, by go_num, HB2.out⟩
      case measure => simp [intOf]; omega
    · have hkn : k = n1 := by omega
      subst hkn
      clear hb
      go_wp2_with fail
      go_ret
      exact ⟨rfl, HB.out⟩

set_option maxRecDepth 100000 in
set_option maxHeartbeats 2000000 in
theorem SameWindows_eq (w : World) (A1 A2 : Option Addr) (n1 n2 c1 c2 : Nat) (B1 B2 : Nat) (L : List WT) (h1 : WinsAt B1 w A1 n1 L) (h2 : WinsAt B2 w A2 n2 L) (hn : n1 ≤ 140737488355328) (hL : ∀ p ∈ L, p.2.2.length ≤ 140737488355328) :
    Calls Try.prog 13 #[.slice A1 n1 c1, .slice A2 n2 c2] w fun e w' => e = .returned (.bool true) ∧ Below w.heap.size w w' := by
  have hnn : n1 = n2 := h1.len.trans h2.len.symm
  subst hnn
  have H1 := Lib.hid h1
  have H2 := Lib.hid h2
  have HL := Lib.hid hL
  clear h1 h2 hL
  go_enter Try.func13, Try.ntmps13
  go_wp2_with fail
  go_loopw [5] (fun i wr => SameLoop n1 w i wr) (fun i _ => n1 - (intOf i).toNat)
  case atStart => exact ⟨0, Nat.zero_le _, rfl, brefl _⟩
  case round =>
    obtain ⟨k, hk, rfl, hb⟩ := hrel
    have HB := Lib.hid hb
    by_cases hlt : k < n1
    · obtain ⟨d1, a1, a2, a3, a4⟩ := H1.out.below hb
      obtain ⟨d2, b1, b2, b3, b4⟩ := H2.out.below hb
      obtain ⟨g1, o1, hA1, hB1, hc1⟩ := a4 (by omega)
      obtain ⟨g2, o2, hA2, hB2, hc2⟩ := b4 (by omega)
      subst hA1
      subst hA2
      obtain ⟨x, hx⟩ : ∃ x, d1[k]? = some x := ⟨d1[k]'(by omega), List.getElem?_eq_getElem _⟩
      obtain ⟨y, hy⟩ : ∃ y, d2[k]? = some y := ⟨d2[k]'(by omega), List.getElem?_eq_getElem _⟩
      obtain ⟨p, hp⟩ : ∃ p, L[k]? = some p := ⟨L[k]'(by omega), List.getElem?_eq_getElem _⟩
      obtain ⟨x1, x2, x3⟩ := a3 k x p hx hp
      obtain ⟨y1, y2, y3⟩ := b3 k y p hy hp
      have r0 : wr.cell? ⟨g1, o1 + k * 3, none⟩ = some (.int .i64 p.1) := by have h9 := hc1 k x hx 0 _ rfl; rw [x1, ← Nat.add_assoc] at h9; exact h9
      have r1 : wr.cell? ⟨g1, o1 + k * 3 + 1, none⟩ = some (.int .i64 p.2.1) := by have h9 := hc1 k x hx 1 _ rfl; rw [x2, ← Nat.add_assoc] at h9; exact h9
      have r2 : wr.cell? ⟨g1, o1 + k * 3 + 2, none⟩ = some (.slice x.A x.n x.c) := by have h9 := hc1 k x hx 2 _ rfl; rw [← Nat.add_assoc] at h9; exact h9
      have s0 : wr.cell? ⟨g2, o2 + k * 3, none⟩ = some (.int .i64 p.1) := by have h9 := hc2 k y hy 0 _ rfl; rw [y1, ← Nat.add_assoc] at h9; exact h9
      have s1 : wr.cell? ⟨g2, o2 + k * 3 + 1, none⟩ = some (.int .i64 p.2.1) := by have h9 := hc2 k y hy 1 _ rfl; rw [y2, ← Nat.add_assoc] at h9; exact h9
      have s2 : wr.cell? ⟨g2, o2 + k * 3 + 2, none⟩ = some (.slice y.A y.n y.c) := by have h9 := hc2 k y hy 2 _ rfl; rw [← Nat.add_assoc] at h9; exact h9
      have HST := Lib.hid (fun w' (hb : Below wr.heap.size wr w') => SameEdges_eq w' x.A y.A x.n y.n x.c y.c B1 B2 p.2.2 (x3.below hb) (y3.below hb) (by rw [x3.len]; exact HL.out p (List.mem_of_getElem? hp)))
      clear hb a1 a2 a3 a4 b1 b2 b3 b4 hc1 hc2 hx hy hp x1 x2 x3 y1 y2 y3 hB1 hB2
      go_wp2_with fail
      refine wp_region_still_tail 35 (by kernel_rfl) (by kernel_rfl) ?_
      change wpStill _ _ wr.drew (fun a' => wpList _ _ _ _ a' wr.drew) _ _
      simp only [List.take_succ_cons, List.take_zero, List.drop_succ_cons, List.drop_zero]
      repeat still_step
      refine wpStill_nil ?_
      go_wp2_with fail
      refine (HST.out _ (bdrew (brefl _))).mono ?_
      rintro en w2 ⟨rfl, hb2⟩
      have HB2 := Lib.hid (btrans (bdrew HB.out) hb2)
      clear hb2
      go_wp2_with fail
      go_roundw
      case rel => exact ⟨k + 1, by omega, by go_num, HB2.out⟩
      case measure => simp [intOf]; omega
    · have hkn : k = n1 := by omega
      subst hkn
      clear hb
      go_wp2_with fail
      go_ret
      exact ⟨rfl, HB.out⟩

end Go.Proofs.Ytjfeeampcgmngaa
