/- rollup.Put: what may not be put. -/
import Derived.Test.YtjfeeampcgmngaaPut2
namespace Go.Proofs.Ytjfeeampcgmngaa
open Go.RowKit Go.Shelf Go.Maps
open Go.ChangeMaps (setBlock)

set_option maxRecDepth 100000 in
set_option maxHeartbeats 8000000 in
theorem Put_bad (w : World) (r m fan : Nat) (es : List MapEntry) (M : Cont) (F : Nat → Prop) (hr : Nat) (e : Edge) (v : Value) (t : RTal) (h : RollAt w r m fan es M F) (hh : hr < limit) (he : EdgeOk e) (hv : TalAt w v t) (ht : rvalid (-1) t.bars = false) :
    Calls Try.prog 15 #[.pointer (some ⟨r, 0, none⟩), hourVal hr, edgeVal e, v] w fun en w' => en = .returned (.int .i64 131) ∧ Below w.heap.size w w' := by
  obtain ⟨lv, ov, hl1, hl2, hov⟩ := h.value hh he
  obtain ⟨A, n, c, rfl, hv1, hv2, hv3⟩ := hv
  have hv0 : TalAt w (talVal t.calls t.errors t.took (.slice A n c)) t := ⟨A, n, c, rfl, hv1, hv2, hv3⟩
  show Calls Try.prog 15 #[.pointer (some ⟨r, 0, none⟩), hourVal hr, edgeVal e, talVal t.calls t.errors t.took (.slice A n c)] w _
  unfold talVal at *
  generalize natHi t.calls = b1 at *
  generalize natLo t.calls = b2 at *
  generalize natHi t.errors = b3 at *
  generalize natLo t.errors = b4 at *
  generalize natHi t.took = b5 at *
  generalize natLo t.took = b6 at *
  have HV := Lib.hid hv0
  clear hv0
  obtain ⟨w1, hw1⟩ : ∃ w1, w1 = (w.alloc (Obj.cells #[.string e.1, .string e.2] 40)).alloc (Obj.cells #[.int .u64 b1, .int .u64 b2, .int .u64 b3, .int .u64 b4, .int .u64 b5, .int .u64 b6, .slice A n c] 46) := ⟨_, rfl⟩
  have hb1 : Below w.heap.size w w1 := by rw [hw1]; exact bal (bal (brefl w) _) _
  have k1 : Blk w1 w.heap.size 40 [.string e.1, .string e.2] := by rw [hw1]; exact (Blk.new _ _ _).alloc _
  have k2 : Blk w1 (w.heap.size + 1) 46 [.int .u64 b1, .int .u64 b2, .int .u64 b3, .int .u64 b4, .int .u64 b5, .int .u64 b6, .slice A n c] := by rw [hw1]; exact Blk.new_ _ _ _ (by simp)
  have L1 : ∀ w', Below w1.heap.size w1 w' → _ := fun w' hb => hl1 w' (btrans hb1 hb)
  have L2 : ∀ w', Below w1.heap.size w1 w' → _ := fun w' hb => hl2 w' (btrans hb1 hb)
  have HP := Lib.hid (show ∀ w', Below w1.heap.size w1 w' → Calls Try.prog 26 #[ov, .agg #[.int .u64 b1, .int .u64 b2, .int .u64 b3, .int .u64 b4, .int .u64 b5, .int .u64 b6, .slice A n c]] w' fun e w'' => e = .returned (.tuple #[zeroTal, .int .i64 131]) ∧ Below w'.heap.size w' w'' from fun w' hb =>
    Plus_bad w' (M hr e) t _ _ (hov.below (btrans hb1 hb)) (HV.out.below (btrans hb1 hb)) (h.ok hr e) ht)
  unfold zeroTal at HP
  have HH := Lib.hid h
  have kr := bcell1 hb1 (h.blk.cell 1 rfl)
  have p1 := k1.cell 0 rfl
  have p2 := k1.cell 1 rfl
  have q0 := k2.cell 0 rfl
  have q1 := k2.cell 1 rfl
  have q2 := k2.cell 2 rfl
  have q3 := k2.cell 3 rfl
  have q4 := k2.cell 4 rfl
  have q5 := k2.cell 5 rfl
  have q6 := k2.cell 6 rfl
  have HB1 := Lib.hid hb1
  have HVV := Lib.hid (And.intro hv1 hov)
  have HL := Lib.hid (And.intro L1 L2)
  have h0 : ¬ ((hr : Int) < 0) := by omega
  have h2 : decide ((2097152 : Int) ≤ (hr : Int)) = false := by unfold limit at hh; simp; omega
  have HHH := Lib.hid hh
  clear hh
  have HW1 := Lib.hid hw1
  clear hw1
  clear hl1 hl2 hov hv1 hb1 k1 k2 h L1 L2
  unfold edgeVal hourVal
  go_enter Try.func15, Try.ntmps15
  go_wp2_with fail
  rw [← HW1.out]
  have L1 := HL.out.1
  have L2 := HL.out.2
  refine wp_region_rel (by kernel_rfl) (by kernel_rfl) [some 18, some 19, some 20, some 21, some 22, some 23, some 24, some 25, some 26, some 27, some 17, some 28, some 29, some 9, none, some 10] (by kernel_rfl) (fun u j w' => match j with | 0 => u 0 = .pointer (some ⟨r, 0, none⟩) | 1 => u 1 = .pointer (some ⟨r, 0, none⟩) | 2 => u 2 = .pointer (some ⟨r, 1, none⟩) | 3 => u 3 = .map (some m) | 4 => u 4 = .int .i64 hr | 5 => u 5 = lv | 6 => u 6 = .agg #[.string e.1, .string e.2] | 7 => u 7 = ov | 8 => u 8 = (.agg #[.int .u64 b1, .int .u64 b2, .int .u64 b3, .int .u64 b4, .int .u64 b5, .int .u64 b6, .slice A n c]) | 9 => u 9 = .tuple #[(.agg #[.int .u64 0, .int .u64 0, .int .u64 0, .int .u64 0, .int .u64 0, .int .u64 0, .slice none 0 0]), .int .i64 131] | 10 => u 10 = .tuple #[(.agg #[.int .u64 0, .int .u64 0, .int .u64 0, .int .u64 0, .int .u64 0, .int .u64 0, .slice none 0 0]), .int .i64 131] | 11 => u 11 = (.agg #[.int .u64 0, .int .u64 0, .int .u64 0, .int .u64 0, .int .u64 0, .int .u64 0, .slice none 0 0]) | 12 => u 12 = .int .i64 131 | 13 => ∃ g cs, u 13 = .pointer (some ⟨g, 0, none⟩) ∧ w1.heap.size ≤ g ∧ Blk w' g 46 cs ∧ cs.length = 7 | 14 => True | 15 => u 15 = .int .i64 131 | _ => True) (fun w' => Below w1.heap.size w1 w') (bdrew (brefl _)) ?step ?fin
  case step =>
    intro i hi u w' hu hinv
    rcases i with _ | _ | _ | _ | _ | _ | _ | _ | _ | _ | _ | _ | _ | _ | _ | _ | i
    · -- 0
      clear hu
      refine wpOp_go rfl rfl fun K hK => ?_
      simp only [fillL, Act.put, List.setIfInBounds_toArray, List.set_cons_succ, List.set_cons_zero, Nat.zero_add, Nat.reduceAdd]
      go_wp2_with (fail)
      refine RelPost.mk (.pointer (some ⟨r, 0, none⟩)) ?_ (rfl) (hinv) (fun j hj hne hn h => match j, hne, hn, h with | 0, hne, hn, h => (hne rfl).elim | 1, hne, hn, h => not_hangs (by kernel_rfl) hn | 2, hne, hn, h => not_hangs (by kernel_rfl) hn | 3, hne, hn, h => not_hangs (by kernel_rfl) hn | 4, hne, hn, h => h | 5, hne, hn, h => not_hangs (by kernel_rfl) hn | 6, hne, hn, h => h | 7, hne, hn, h => not_hangs (by kernel_rfl) hn | 8, hne, hn, h => h | 9, hne, hn, h => not_hangs (by kernel_rfl) hn | 10, hne, hn, h => not_hangs (by kernel_rfl) hn | 11, hne, hn, h => not_hangs (by kernel_rfl) hn | 12, hne, hn, h => not_hangs (by kernel_rfl) hn | 13, hne, hn, h => h | 14, hne, hn, h => not_hangs (by kernel_rfl) hn | 15, hne, hn, h => not_hangs (by kernel_rfl) hn | _ + 16, hne, _, h => h)
      simp [fillL, Act.put, setAt]
    · -- 1
      have e0 : u 0 = .pointer (some ⟨r, 0, none⟩) := hu 0 (by kernel_rfl)
      clear hu
      refine wpOp_go rfl rfl fun K hK => ?_
      simp only [fillL, Act.put, List.setIfInBounds_toArray, List.set_cons_succ, List.set_cons_zero, Nat.zero_add, Nat.reduceAdd]
      go_wp2_with (fail)
      refine RelPost.mk (.pointer (some ⟨r, 0, none⟩)) ?_ (rfl) (hinv) (fun j hj hne hn h => match j, hne, hn, h with | 0, hne, hn, h => h | 1, hne, hn, h => (hne rfl).elim | 2, hne, hn, h => not_hangs (by kernel_rfl) hn | 3, hne, hn, h => not_hangs (by kernel_rfl) hn | 4, hne, hn, h => h | 5, hne, hn, h => not_hangs (by kernel_rfl) hn | 6, hne, hn, h => h | 7, hne, hn, h => not_hangs (by kernel_rfl) hn | 8, hne, hn, h => h | 9, hne, hn, h => not_hangs (by kernel_rfl) hn | 10, hne, hn, h => not_hangs (by kernel_rfl) hn | 11, hne, hn, h => not_hangs (by kernel_rfl) hn | 12, hne, hn, h => not_hangs (by kernel_rfl) hn | 13, hne, hn, h => h | 14, hne, hn, h => not_hangs (by kernel_rfl) hn | 15, hne, hn, h => not_hangs (by kernel_rfl) hn | _ + 16, hne, _, h => h)
      simp [fillL, Act.put, setAt, e0]
    · -- 2
      have e0 : u 0 = .pointer (some ⟨r, 0, none⟩) := hu 0 (by kernel_rfl)
      have e1 : u 1 = .pointer (some ⟨r, 0, none⟩) := hu 1 (by kernel_rfl)
      clear hu
      refine wpOp_go rfl rfl fun K hK => ?_
      simp only [fillL, Act.put, List.setIfInBounds_toArray, List.set_cons_succ, List.set_cons_zero, Nat.zero_add, Nat.reduceAdd]
      go_wp2_with (fail)
      refine RelPost.mk (.pointer (some ⟨r, 1, none⟩)) ?_ (rfl) (hinv) (fun j hj hne hn h => match j, hne, hn, h with | 0, hne, hn, h => h | 1, hne, hn, h => h | 2, hne, hn, h => (hne rfl).elim | 3, hne, hn, h => not_hangs (by kernel_rfl) hn | 4, hne, hn, h => h | 5, hne, hn, h => not_hangs (by kernel_rfl) hn | 6, hne, hn, h => h | 7, hne, hn, h => not_hangs (by kernel_rfl) hn | 8, hne, hn, h => h | 9, hne, hn, h => not_hangs (by kernel_rfl) hn | 10, hne, hn, h => not_hangs (by kernel_rfl) hn | 11, hne, hn, h => not_hangs (by kernel_rfl) hn | 12, hne, hn, h => not_hangs (by kernel_rfl) hn | 13, hne, hn, h => h | 14, hne, hn, h => not_hangs (by kernel_rfl) hn | 15, hne, hn, h => not_hangs (by kernel_rfl) hn | _ + 16, hne, _, h => h)
      simp [fillL, Act.put, setAt, e0, e1]
    · -- 3
      have e0 : u 0 = .pointer (some ⟨r, 0, none⟩) := hu 0 (by kernel_rfl)
      have e1 : u 1 = .pointer (some ⟨r, 0, none⟩) := hu 1 (by kernel_rfl)
      have e2 : u 2 = .pointer (some ⟨r, 1, none⟩) := hu 2 (by kernel_rfl)
      clear hu
      have g1 := bcell1 hinv kr
      refine wpOp_go rfl rfl fun K hK => ?_
      simp only [fillL, Act.put, List.setIfInBounds_toArray, List.set_cons_succ, List.set_cons_zero, Nat.zero_add, Nat.reduceAdd]
      go_wp2_with (fail)
      refine RelPost.mk (.map (some m)) ?_ (rfl) (hinv) (fun j hj hne hn h => match j, hne, hn, h with | 0, hne, hn, h => h | 1, hne, hn, h => h | 2, hne, hn, h => h | 3, hne, hn, h => (hne rfl).elim | 4, hne, hn, h => h | 5, hne, hn, h => not_hangs (by kernel_rfl) hn | 6, hne, hn, h => h | 7, hne, hn, h => not_hangs (by kernel_rfl) hn | 8, hne, hn, h => h | 9, hne, hn, h => not_hangs (by kernel_rfl) hn | 10, hne, hn, h => not_hangs (by kernel_rfl) hn | 11, hne, hn, h => not_hangs (by kernel_rfl) hn | 12, hne, hn, h => not_hangs (by kernel_rfl) hn | 13, hne, hn, h => h | 14, hne, hn, h => not_hangs (by kernel_rfl) hn | 15, hne, hn, h => not_hangs (by kernel_rfl) hn | _ + 16, hne, _, h => h)
      simp [fillL, Act.put, setAt, e0, e1, e2]
    · -- 4
      clear hu
      refine wpOp_go rfl rfl fun K hK => ?_
      simp only [fillL, Act.put, List.setIfInBounds_toArray, List.set_cons_succ, List.set_cons_zero, Nat.zero_add, Nat.reduceAdd]
      go_wp2_with (fail)
      refine RelPost.mk (.int .i64 hr) ?_ (rfl) (hinv) (fun j hj hne hn h => match j, hne, hn, h with | 0, hne, hn, h => h | 1, hne, hn, h => h | 2, hne, hn, h => h | 3, hne, hn, h => h | 4, hne, hn, h => (hne rfl).elim | 5, hne, hn, h => not_hangs (by kernel_rfl) hn | 6, hne, hn, h => h | 7, hne, hn, h => not_hangs (by kernel_rfl) hn | 8, hne, hn, h => h | 9, hne, hn, h => not_hangs (by kernel_rfl) hn | 10, hne, hn, h => not_hangs (by kernel_rfl) hn | 11, hne, hn, h => not_hangs (by kernel_rfl) hn | 12, hne, hn, h => not_hangs (by kernel_rfl) hn | 13, hne, hn, h => h | 14, hne, hn, h => not_hangs (by kernel_rfl) hn | 15, hne, hn, h => not_hangs (by kernel_rfl) hn | _ + 16, hne, _, h => h)
      simp [fillL, Act.put, setAt]
    · -- 5
      have e0 : u 0 = .pointer (some ⟨r, 0, none⟩) := hu 0 (by kernel_rfl)
      have e1 : u 1 = .pointer (some ⟨r, 0, none⟩) := hu 1 (by kernel_rfl)
      have e2 : u 2 = .pointer (some ⟨r, 1, none⟩) := hu 2 (by kernel_rfl)
      have e3 : u 3 = .map (some m) := hu 3 (by kernel_rfl)
      have e4 : u 4 = .int .i64 hr := hu 4 (by kernel_rfl)
      clear hu
      have g1 := L1 w' hinv
      refine wpOp_go rfl rfl fun K hK => ?_
      simp only [fillL, Act.put, List.setIfInBounds_toArray, List.set_cons_succ, List.set_cons_zero, Nat.zero_add, Nat.reduceAdd]
      go_wp2_with (fail)
      refine RelPost.mk lv ?_ (rfl) (hinv) (fun j hj hne hn h => match j, hne, hn, h with | 0, hne, hn, h => h | 1, hne, hn, h => h | 2, hne, hn, h => h | 3, hne, hn, h => h | 4, hne, hn, h => h | 5, hne, hn, h => (hne rfl).elim | 6, hne, hn, h => h | 7, hne, hn, h => not_hangs (by kernel_rfl) hn | 8, hne, hn, h => h | 9, hne, hn, h => not_hangs (by kernel_rfl) hn | 10, hne, hn, h => not_hangs (by kernel_rfl) hn | 11, hne, hn, h => not_hangs (by kernel_rfl) hn | 12, hne, hn, h => not_hangs (by kernel_rfl) hn | 13, hne, hn, h => h | 14, hne, hn, h => not_hangs (by kernel_rfl) hn | 15, hne, hn, h => not_hangs (by kernel_rfl) hn | _ + 16, hne, _, h => h)
      simp [fillL, Act.put, setAt, e0, e1, e2, e3, e4]
    · -- 6
      clear hu
      have g1 := bcell1 hinv p1
      have g2 := bcell1 hinv p2
      refine wpOp_go rfl rfl fun K hK => ?_
      simp only [fillL, Act.put, List.setIfInBounds_toArray, List.set_cons_succ, List.set_cons_zero, Nat.zero_add, Nat.reduceAdd]
      go_wp2_with (fail)
      refine RelPost.mk (.agg #[.string e.1, .string e.2]) ?_ (rfl) (hinv) (fun j hj hne hn h => match j, hne, hn, h with | 0, hne, hn, h => h | 1, hne, hn, h => h | 2, hne, hn, h => h | 3, hne, hn, h => h | 4, hne, hn, h => h | 5, hne, hn, h => h | 6, hne, hn, h => (hne rfl).elim | 7, hne, hn, h => not_hangs (by kernel_rfl) hn | 8, hne, hn, h => h | 9, hne, hn, h => not_hangs (by kernel_rfl) hn | 10, hne, hn, h => not_hangs (by kernel_rfl) hn | 11, hne, hn, h => not_hangs (by kernel_rfl) hn | 12, hne, hn, h => not_hangs (by kernel_rfl) hn | 13, hne, hn, h => h | 14, hne, hn, h => not_hangs (by kernel_rfl) hn | 15, hne, hn, h => not_hangs (by kernel_rfl) hn | _ + 16, hne, _, h => h)
      simp [fillL, Act.put, setAt]
    · -- 7
      have e0 : u 0 = .pointer (some ⟨r, 0, none⟩) := hu 0 (by kernel_rfl)
      have e1 : u 1 = .pointer (some ⟨r, 0, none⟩) := hu 1 (by kernel_rfl)
      have e2 : u 2 = .pointer (some ⟨r, 1, none⟩) := hu 2 (by kernel_rfl)
      have e3 : u 3 = .map (some m) := hu 3 (by kernel_rfl)
      have e4 : u 4 = .int .i64 hr := hu 4 (by kernel_rfl)
      have e5 : u 5 = lv := hu 5 (by kernel_rfl)
      have e6 : u 6 = .agg #[.string e.1, .string e.2] := hu 6 (by kernel_rfl)
      clear hu
      have g1 := L2 w' hinv
      refine wpOp_go rfl rfl fun K hK => ?_
      simp only [fillL, Act.put, List.setIfInBounds_toArray, List.set_cons_succ, List.set_cons_zero, Nat.zero_add, Nat.reduceAdd]
      go_wp2_with (fail)
      refine RelPost.mk ov ?_ (rfl) (hinv) (fun j hj hne hn h => match j, hne, hn, h with | 0, hne, hn, h => h | 1, hne, hn, h => h | 2, hne, hn, h => h | 3, hne, hn, h => h | 4, hne, hn, h => h | 5, hne, hn, h => h | 6, hne, hn, h => h | 7, hne, hn, h => (hne rfl).elim | 8, hne, hn, h => h | 9, hne, hn, h => not_hangs (by kernel_rfl) hn | 10, hne, hn, h => not_hangs (by kernel_rfl) hn | 11, hne, hn, h => not_hangs (by kernel_rfl) hn | 12, hne, hn, h => not_hangs (by kernel_rfl) hn | 13, hne, hn, h => h | 14, hne, hn, h => not_hangs (by kernel_rfl) hn | 15, hne, hn, h => not_hangs (by kernel_rfl) hn | _ + 16, hne, _, h => h)
      simp [fillL, Act.put, setAt, e0, e1, e2, e3, e4, e5, e6]
    · -- 8
      clear hu
      have g0 := bcell1 hinv q0
      have g1 := bcell1 hinv q1
      have g2 := bcell1 hinv q2
      have g3 := bcell1 hinv q3
      have g4 := bcell1 hinv q4
      have g5 := bcell1 hinv q5
      have g6 := bcell1 hinv q6
      refine wpOp_go rfl rfl fun K hK => ?_
      simp only [fillL, Act.put, List.setIfInBounds_toArray, List.set_cons_succ, List.set_cons_zero, Nat.zero_add, Nat.reduceAdd]
      go_wp2_with (fail)
      refine RelPost.mk (.agg #[.int .u64 b1, .int .u64 b2, .int .u64 b3, .int .u64 b4, .int .u64 b5, .int .u64 b6, .slice A n c]) ?_ (rfl) (hinv) (fun j hj hne hn h => match j, hne, hn, h with | 0, hne, hn, h => h | 1, hne, hn, h => h | 2, hne, hn, h => h | 3, hne, hn, h => h | 4, hne, hn, h => h | 5, hne, hn, h => h | 6, hne, hn, h => h | 7, hne, hn, h => h | 8, hne, hn, h => (hne rfl).elim | 9, hne, hn, h => not_hangs (by kernel_rfl) hn | 10, hne, hn, h => not_hangs (by kernel_rfl) hn | 11, hne, hn, h => not_hangs (by kernel_rfl) hn | 12, hne, hn, h => not_hangs (by kernel_rfl) hn | 13, hne, hn, h => h | 14, hne, hn, h => not_hangs (by kernel_rfl) hn | 15, hne, hn, h => not_hangs (by kernel_rfl) hn | _ + 16, hne, _, h => h)
      simp [fillL, Act.put, setAt]
    · -- 9
      have e0 : u 0 = .pointer (some ⟨r, 0, none⟩) := hu 0 (by kernel_rfl)
      have e1 : u 1 = .pointer (some ⟨r, 0, none⟩) := hu 1 (by kernel_rfl)
      have e2 : u 2 = .pointer (some ⟨r, 1, none⟩) := hu 2 (by kernel_rfl)
      have e3 : u 3 = .map (some m) := hu 3 (by kernel_rfl)
      have e4 : u 4 = .int .i64 hr := hu 4 (by kernel_rfl)
      have e5 : u 5 = lv := hu 5 (by kernel_rfl)
      have e6 : u 6 = .agg #[.string e.1, .string e.2] := hu 6 (by kernel_rfl)
      have e7 : u 7 = ov := hu 7 (by kernel_rfl)
      have e8 : u 8 = (.agg #[.int .u64 b1, .int .u64 b2, .int .u64 b3, .int .u64 b4, .int .u64 b5, .int .u64 b6, .slice A n c]) := hu 8 (by kernel_rfl)
      clear hu
      refine wpOp_go rfl rfl fun K hK => ?_
      simp only [fillL, Act.put, List.setIfInBounds_toArray, List.set_cons_succ, List.set_cons_zero, Nat.zero_add, Nat.reduceAdd]
      go_wp2_with (go_at_call 26; refine (HP.out w' hinv).mono ?_; rintro en w'' ⟨rfl, hb⟩)
      refine RelPost.mk (.tuple #[(.agg #[.int .u64 0, .int .u64 0, .int .u64 0, .int .u64 0, .int .u64 0, .int .u64 0, .slice none 0 0]), .int .i64 131]) ?_ (rfl) (btrans hinv hb) (fun j hj hne hn h => match j, hne, hn, h with | 0, hne, hn, h => h | 1, hne, hn, h => h | 2, hne, hn, h => h | 3, hne, hn, h => h | 4, hne, hn, h => h | 5, hne, hn, h => h | 6, hne, hn, h => h | 7, hne, hn, h => h | 8, hne, hn, h => h | 9, hne, hn, h => (hne rfl).elim | 10, hne, hn, h => not_hangs (by kernel_rfl) hn | 11, hne, hn, h => not_hangs (by kernel_rfl) hn | 12, hne, hn, h => not_hangs (by kernel_rfl) hn | 13, hne, hn, h => (let ⟨g, cs, a, b, c, d⟩ := h; ⟨g, cs, a, b, c.below hb, d⟩) | 14, hne, hn, h => not_hangs (by kernel_rfl) hn | 15, hne, hn, h => not_hangs (by kernel_rfl) hn | _ + 16, hne, _, h => h)
      simp [fillL, Act.put, setAt, e0, e1, e2, e3, e4, e5, e6, e7, e8]
    · -- 10
      have e0 : u 0 = .pointer (some ⟨r, 0, none⟩) := hu 0 (by kernel_rfl)
      have e1 : u 1 = .pointer (some ⟨r, 0, none⟩) := hu 1 (by kernel_rfl)
      have e2 : u 2 = .pointer (some ⟨r, 1, none⟩) := hu 2 (by kernel_rfl)
      have e3 : u 3 = .map (some m) := hu 3 (by kernel_rfl)
      have e4 : u 4 = .int .i64 hr := hu 4 (by kernel_rfl)
      have e5 : u 5 = lv := hu 5 (by kernel_rfl)
      have e6 : u 6 = .agg #[.string e.1, .string e.2] := hu 6 (by kernel_rfl)
      have e7 : u 7 = ov := hu 7 (by kernel_rfl)
      have e8 : u 8 = (.agg #[.int .u64 b1, .int .u64 b2, .int .u64 b3, .int .u64 b4, .int .u64 b5, .int .u64 b6, .slice A n c]) := hu 8 (by kernel_rfl)
      have e9 : u 9 = .tuple #[(.agg #[.int .u64 0, .int .u64 0, .int .u64 0, .int .u64 0, .int .u64 0, .int .u64 0, .slice none 0 0]), .int .i64 131] := hu 9 (by kernel_rfl)
      clear hu
      refine wpOp_go rfl rfl fun K hK => ?_
      simp only [fillL, Act.put, List.setIfInBounds_toArray, List.set_cons_succ, List.set_cons_zero, Nat.zero_add, Nat.reduceAdd]
      go_wp2_with (fail)
      refine RelPost.mk (.tuple #[(.agg #[.int .u64 0, .int .u64 0, .int .u64 0, .int .u64 0, .int .u64 0, .int .u64 0, .slice none 0 0]), .int .i64 131]) ?_ (rfl) (hinv) (fun j hj hne hn h => match j, hne, hn, h with | 0, hne, hn, h => h | 1, hne, hn, h => h | 2, hne, hn, h => h | 3, hne, hn, h => h | 4, hne, hn, h => h | 5, hne, hn, h => h | 6, hne, hn, h => h | 7, hne, hn, h => h | 8, hne, hn, h => h | 9, hne, hn, h => h | 10, hne, hn, h => (hne rfl).elim | 11, hne, hn, h => not_hangs (by kernel_rfl) hn | 12, hne, hn, h => not_hangs (by kernel_rfl) hn | 13, hne, hn, h => h | 14, hne, hn, h => not_hangs (by kernel_rfl) hn | 15, hne, hn, h => not_hangs (by kernel_rfl) hn | _ + 16, hne, _, h => h)
      simp [fillL, Act.put, setAt, e0, e1, e2, e3, e4, e5, e6, e7, e8, e9]
    · -- 11
      have e0 : u 0 = .pointer (some ⟨r, 0, none⟩) := hu 0 (by kernel_rfl)
      have e1 : u 1 = .pointer (some ⟨r, 0, none⟩) := hu 1 (by kernel_rfl)
      have e2 : u 2 = .pointer (some ⟨r, 1, none⟩) := hu 2 (by kernel_rfl)
      have e3 : u 3 = .map (some m) := hu 3 (by kernel_rfl)
      have e4 : u 4 = .int .i64 hr := hu 4 (by kernel_rfl)
      have e5 : u 5 = lv := hu 5 (by kernel_rfl)
      have e6 : u 6 = .agg #[.string e.1, .string e.2] := hu 6 (by kernel_rfl)
      have e7 : u 7 = ov := hu 7 (by kernel_rfl)
      have e8 : u 8 = (.agg #[.int .u64 b1, .int .u64 b2, .int .u64 b3, .int .u64 b4, .int .u64 b5, .int .u64 b6, .slice A n c]) := hu 8 (by kernel_rfl)
      have e9 : u 9 = .tuple #[(.agg #[.int .u64 0, .int .u64 0, .int .u64 0, .int .u64 0, .int .u64 0, .int .u64 0, .slice none 0 0]), .int .i64 131] := hu 9 (by kernel_rfl)
      have e10 : u 10 = .tuple #[(.agg #[.int .u64 0, .int .u64 0, .int .u64 0, .int .u64 0, .int .u64 0, .int .u64 0, .slice none 0 0]), .int .i64 131] := hu 10 (by kernel_rfl)
      clear hu
      refine wpOp_go rfl rfl fun K hK => ?_
      simp only [fillL, Act.put, List.setIfInBounds_toArray, List.set_cons_succ, List.set_cons_zero, Nat.zero_add, Nat.reduceAdd]
      go_wp2_with (fail)
      refine RelPost.mk (.agg #[.int .u64 0, .int .u64 0, .int .u64 0, .int .u64 0, .int .u64 0, .int .u64 0, .slice none 0 0]) ?_ (rfl) (hinv) (fun j hj hne hn h => match j, hne, hn, h with | 0, hne, hn, h => h | 1, hne, hn, h => h | 2, hne, hn, h => h | 3, hne, hn, h => h | 4, hne, hn, h => h | 5, hne, hn, h => h | 6, hne, hn, h => h | 7, hne, hn, h => h | 8, hne, hn, h => h | 9, hne, hn, h => h | 10, hne, hn, h => h | 11, hne, hn, h => (hne rfl).elim | 12, hne, hn, h => h | 13, hne, hn, h => h | 14, hne, hn, h => not_hangs (by kernel_rfl) hn | 15, hne, hn, h => not_hangs (by kernel_rfl) hn | _ + 16, hne, _, h => h)
      simp [fillL, Act.put, setAt, e0, e1, e2, e3, e4, e5, e6, e7, e8, e9, e10]
    · -- 12
      have e0 : u 0 = .pointer (some ⟨r, 0, none⟩) := hu 0 (by kernel_rfl)
      have e1 : u 1 = .pointer (some ⟨r, 0, none⟩) := hu 1 (by kernel_rfl)
      have e2 : u 2 = .pointer (some ⟨r, 1, none⟩) := hu 2 (by kernel_rfl)
      have e3 : u 3 = .map (some m) := hu 3 (by kernel_rfl)
      have e4 : u 4 = .int .i64 hr := hu 4 (by kernel_rfl)
      have e5 : u 5 = lv := hu 5 (by kernel_rfl)
      have e6 : u 6 = .agg #[.string e.1, .string e.2] := hu 6 (by kernel_rfl)
      have e7 : u 7 = ov := hu 7 (by kernel_rfl)
      have e8 : u 8 = (.agg #[.int .u64 b1, .int .u64 b2, .int .u64 b3, .int .u64 b4, .int .u64 b5, .int .u64 b6, .slice A n c]) := hu 8 (by kernel_rfl)
      have e9 : u 9 = .tuple #[(.agg #[.int .u64 0, .int .u64 0, .int .u64 0, .int .u64 0, .int .u64 0, .int .u64 0, .slice none 0 0]), .int .i64 131] := hu 9 (by kernel_rfl)
      have e10 : u 10 = .tuple #[(.agg #[.int .u64 0, .int .u64 0, .int .u64 0, .int .u64 0, .int .u64 0, .int .u64 0, .slice none 0 0]), .int .i64 131] := hu 10 (by kernel_rfl)
      clear hu
      refine wpOp_go rfl rfl fun K hK => ?_
      simp only [fillL, Act.put, List.setIfInBounds_toArray, List.set_cons_succ, List.set_cons_zero, Nat.zero_add, Nat.reduceAdd]
      go_wp2_with (fail)
      refine RelPost.mk (.int .i64 131) ?_ (rfl) (hinv) (fun j hj hne hn h => match j, hne, hn, h with | 0, hne, hn, h => h | 1, hne, hn, h => h | 2, hne, hn, h => h | 3, hne, hn, h => h | 4, hne, hn, h => h | 5, hne, hn, h => h | 6, hne, hn, h => h | 7, hne, hn, h => h | 8, hne, hn, h => h | 9, hne, hn, h => h | 10, hne, hn, h => h | 11, hne, hn, h => h | 12, hne, hn, h => (hne rfl).elim | 13, hne, hn, h => h | 14, hne, hn, h => h | 15, hne, hn, h => not_hangs (by kernel_rfl) hn | _ + 16, hne, _, h => h)
      simp [fillL, Act.put, setAt, e0, e1, e2, e3, e4, e5, e6, e7, e8, e9, e10]
    · -- 13
      clear hu
      refine wpOp_go rfl rfl fun K hK => ?_
      simp only [fillL, Act.put, List.setIfInBounds_toArray, List.set_cons_succ, List.set_cons_zero, Nat.zero_add, Nat.reduceAdd]
      go_wp2_with (fail)
      refine RelPost.mk (.pointer (some ⟨w'.heap.size, 0, none⟩)) ?_ (⟨w'.heap.size, _, rfl, hinv.size, Blk.new _ _ [.int .u64 0, .int .u64 0, .int .u64 0, .int .u64 0, .int .u64 0, .int .u64 0, .slice none 0 0], rfl⟩) (bal hinv _) (fun j hj hne hn h => match j, hne, hn, h with | 0, hne, hn, h => h | 1, hne, hn, h => h | 2, hne, hn, h => h | 3, hne, hn, h => h | 4, hne, hn, h => h | 5, hne, hn, h => h | 6, hne, hn, h => h | 7, hne, hn, h => h | 8, hne, hn, h => h | 9, hne, hn, h => h | 10, hne, hn, h => h | 11, hne, hn, h => h | 12, hne, hn, h => h | 13, hne, hn, h => (hne rfl).elim | 14, hne, hn, h => not_hangs (by kernel_rfl) hn | 15, hne, hn, h => not_hangs (by kernel_rfl) hn | _ + 16, hne, _, h => h)
      simp [fillL, Act.put, setAt]
    · -- 14
      have e0 : u 0 = .pointer (some ⟨r, 0, none⟩) := hu 0 (by kernel_rfl)
      have e1 : u 1 = .pointer (some ⟨r, 0, none⟩) := hu 1 (by kernel_rfl)
      have e2 : u 2 = .pointer (some ⟨r, 1, none⟩) := hu 2 (by kernel_rfl)
      have e3 : u 3 = .map (some m) := hu 3 (by kernel_rfl)
      have e4 : u 4 = .int .i64 hr := hu 4 (by kernel_rfl)
      have e5 : u 5 = lv := hu 5 (by kernel_rfl)
      have e6 : u 6 = .agg #[.string e.1, .string e.2] := hu 6 (by kernel_rfl)
      have e7 : u 7 = ov := hu 7 (by kernel_rfl)
      have e8 : u 8 = (.agg #[.int .u64 b1, .int .u64 b2, .int .u64 b3, .int .u64 b4, .int .u64 b5, .int .u64 b6, .slice A n c]) := hu 8 (by kernel_rfl)
      have e9 : u 9 = .tuple #[(.agg #[.int .u64 0, .int .u64 0, .int .u64 0, .int .u64 0, .int .u64 0, .int .u64 0, .slice none 0 0]), .int .i64 131] := hu 9 (by kernel_rfl)
      have e10 : u 10 = .tuple #[(.agg #[.int .u64 0, .int .u64 0, .int .u64 0, .int .u64 0, .int .u64 0, .int .u64 0, .slice none 0 0]), .int .i64 131] := hu 10 (by kernel_rfl)
      have e11 : u 11 = (.agg #[.int .u64 0, .int .u64 0, .int .u64 0, .int .u64 0, .int .u64 0, .int .u64 0, .slice none 0 0]) := hu 11 (by kernel_rfl)
      have e13 : ∃ g cs, u 13 = .pointer (some ⟨g, 0, none⟩) ∧ w1.heap.size ≤ g ∧ Blk w' g 46 cs ∧ cs.length = 7 := hu 13 (by kernel_rfl)
      clear hu
      obtain ⟨g, cs, e13, hge, hblk, hlen⟩ := e13
      obtain ⟨z0, z1, z2, z3, z4, z5, z6, rfl⟩ := list7 hlen
      have g0 := hblk.cell 0 rfl
      have g1 := hblk.cell 1 rfl
      have g2 := hblk.cell 2 rfl
      have g3 := hblk.cell 3 rfl
      have g4 := hblk.cell 4 rfl
      have g5 := hblk.cell 5 rfl
      have g6 := hblk.cell 6 rfl
      have f0 := hblk.frozen 0
      have f1 := hblk.frozen 1
      have f2 := hblk.frozen 2
      have f3 := hblk.frozen 3
      have f4 := hblk.frozen 4
      have f5 := hblk.frozen 5
      have f6 := hblk.frozen 6
      refine wpOp_go rfl rfl fun K hK => ?_
      simp only [fillL, Act.put, List.setIfInBounds_toArray, List.set_cons_succ, List.set_cons_zero, Nat.zero_add, Nat.reduceAdd]
      go_wp2_with (fail)
      refine RelPost.mk undef ?_ (trivial) ((((((((hinv.setCell (by simpa using hge) _).setCell (by simpa using hge) _).setCell (by simpa using hge) _).setCell (by simpa using hge) _).setCell (by simpa using hge) _).setCell (by simpa using hge) _).setCell (by simpa using hge) _)) (fun j hj hne hn h => match j, hne, hn, h with | 0, hne, hn, h => h | 1, hne, hn, h => h | 2, hne, hn, h => h | 3, hne, hn, h => h | 4, hne, hn, h => h | 5, hne, hn, h => h | 6, hne, hn, h => h | 7, hne, hn, h => h | 8, hne, hn, h => h | 9, hne, hn, h => h | 10, hne, hn, h => h | 11, hne, hn, h => h | 12, hne, hn, h => h | 13, hne, hn, h => (⟨g, _, e13, hge, ((((((hblk.set 0 _).set 1 _).set 2 _).set 3 _).set 4 _).set 5 _).set 6 _, rfl⟩) | 14, hne, hn, h => (hne rfl).elim | 15, hne, hn, h => not_hangs (by kernel_rfl) hn | _ + 16, hne, _, h => h)
      simp [fillL, Act.put, setAt, e0, e1, e2, e3, e4, e5, e6, e7, e8, e9, e10, e11, e13, e11]
    · -- 15
      have e0 : u 0 = .pointer (some ⟨r, 0, none⟩) := hu 0 (by kernel_rfl)
      have e1 : u 1 = .pointer (some ⟨r, 0, none⟩) := hu 1 (by kernel_rfl)
      have e2 : u 2 = .pointer (some ⟨r, 1, none⟩) := hu 2 (by kernel_rfl)
      have e3 : u 3 = .map (some m) := hu 3 (by kernel_rfl)
      have e4 : u 4 = .int .i64 hr := hu 4 (by kernel_rfl)
      have e5 : u 5 = lv := hu 5 (by kernel_rfl)
      have e6 : u 6 = .agg #[.string e.1, .string e.2] := hu 6 (by kernel_rfl)
      have e7 : u 7 = ov := hu 7 (by kernel_rfl)
      have e8 : u 8 = (.agg #[.int .u64 b1, .int .u64 b2, .int .u64 b3, .int .u64 b4, .int .u64 b5, .int .u64 b6, .slice A n c]) := hu 8 (by kernel_rfl)
      have e9 : u 9 = .tuple #[(.agg #[.int .u64 0, .int .u64 0, .int .u64 0, .int .u64 0, .int .u64 0, .int .u64 0, .slice none 0 0]), .int .i64 131] := hu 9 (by kernel_rfl)
      have e10 : u 10 = .tuple #[(.agg #[.int .u64 0, .int .u64 0, .int .u64 0, .int .u64 0, .int .u64 0, .int .u64 0, .slice none 0 0]), .int .i64 131] := hu 10 (by kernel_rfl)
      have e11 : u 11 = (.agg #[.int .u64 0, .int .u64 0, .int .u64 0, .int .u64 0, .int .u64 0, .int .u64 0, .slice none 0 0]) := hu 11 (by kernel_rfl)
      have e12 : u 12 = .int .i64 131 := hu 12 (by kernel_rfl)
      have e13 : ∃ g cs, u 13 = .pointer (some ⟨g, 0, none⟩) ∧ w1.heap.size ≤ g ∧ Blk w' g 46 cs ∧ cs.length = 7 := hu 13 (by kernel_rfl)
      have e14 : True := hu 14 (by kernel_rfl)
      clear hu
      refine wpOp_go rfl rfl fun K hK => ?_
      simp only [fillL, Act.put, List.setIfInBounds_toArray, List.set_cons_succ, List.set_cons_zero, Nat.zero_add, Nat.reduceAdd]
      go_wp2_with (fail)
      refine RelPost.mk (.int .i64 131) ?_ (rfl) (hinv) (fun j hj hne hn h => match j, hne, hn, h with | 0, hne, hn, h => h | 1, hne, hn, h => h | 2, hne, hn, h => h | 3, hne, hn, h => h | 4, hne, hn, h => h | 5, hne, hn, h => h | 6, hne, hn, h => h | 7, hne, hn, h => h | 8, hne, hn, h => h | 9, hne, hn, h => h | 10, hne, hn, h => h | 11, hne, hn, h => h | 12, hne, hn, h => h | 13, hne, hn, h => h | 14, hne, hn, h => h | 15, hne, hn, h => (hne rfl).elim | _ + 16, hne, _, h => h)
      simp [fillL, Act.put, setAt, e0, e1, e2, e3, e4, e5, e6, e7, e8, e9, e10, e11, e12]
    · exact absurd hi (by simp)
  case fin =>
    intro u w' hu hinv
    have e0 : u 0 = .pointer (some ⟨r, 0, none⟩) := hu 0 (by simp)
    have e1 : u 1 = .pointer (some ⟨r, 0, none⟩) := hu 1 (by simp)
    have e2 : u 2 = .pointer (some ⟨r, 1, none⟩) := hu 2 (by simp)
    have e3 : u 3 = .map (some m) := hu 3 (by simp)
    have e4 : u 4 = .int .i64 hr := hu 4 (by simp)
    have e5 : u 5 = lv := hu 5 (by simp)
    have e6 : u 6 = .agg #[.string e.1, .string e.2] := hu 6 (by simp)
    have e7 : u 7 = ov := hu 7 (by simp)
    have e8 : u 8 = (.agg #[.int .u64 b1, .int .u64 b2, .int .u64 b3, .int .u64 b4, .int .u64 b5, .int .u64 b6, .slice A n c]) := hu 8 (by simp)
    have e9 : u 9 = .tuple #[(.agg #[.int .u64 0, .int .u64 0, .int .u64 0, .int .u64 0, .int .u64 0, .int .u64 0, .slice none 0 0]), .int .i64 131] := hu 9 (by simp)
    have e10 : u 10 = .tuple #[(.agg #[.int .u64 0, .int .u64 0, .int .u64 0, .int .u64 0, .int .u64 0, .int .u64 0, .slice none 0 0]), .int .i64 131] := hu 10 (by simp)
    have e11 : u 11 = (.agg #[.int .u64 0, .int .u64 0, .int .u64 0, .int .u64 0, .int .u64 0, .int .u64 0, .slice none 0 0]) := hu 11 (by simp)
    have e12 : u 12 = .int .i64 131 := hu 12 (by simp)
    have e13 : ∃ g cs, u 13 = .pointer (some ⟨g, 0, none⟩) ∧ w1.heap.size ≤ g ∧ Blk w' g 46 cs ∧ cs.length = 7 := hu 13 (by simp)
    have e14 : True := hu 14 (by simp)
    have e15 : u 15 = .int .i64 131 := hu 15 (by simp)
    clear hu
    simp only [fillL, Act.put, List.setIfInBounds_toArray, List.set_cons_succ, List.set_cons_zero, Nat.zero_add, Nat.reduceAdd, e0, e1, e2, e3, e4, e5, e6, e7, e8, e9, e10, e11, e12, e15]
    clear e0 e1 e2 e3 e4 e5 e6 e7 e8 e9 e10 e11 e12 e13 e14 e15 L1 L2 HL kr p1 p2 q0 q1 q2 q3 q4 q5 q6
    go_wp2_with fail
    refine bodyPost_ret (results_tmp rfl _ _ _) rfl ⟨rfl, btrans HB1.out hinv⟩

set_option maxRecDepth 100000 in
theorem Put_hour (w : World) (r : Value) (hr : Int) (e : Edge) (x1 x2 x3 x4 x5 x6 : Int) (sl : Value) (hh : hr < 0 ∨ 2097152 ≤ hr) (hsl : ∃ A n c, sl = .slice A n c) :
    Calls Try.prog 15 #[r, .int .i64 hr, edgeVal e, .agg #[.int .u64 x1, .int .u64 x2, .int .u64 x3, .int .u64 x4, .int .u64 x5, .int .u64 x6, sl]] w fun en w' => en = .returned (.int .i64 151) ∧ Below w.heap.size w w' := by
  obtain ⟨A, n, c, rfl⟩ := hsl
  unfold edgeVal
  rcases hh with hh | hh
  · have h2 : decide (hr < 0) = true := by simpa using hh
    clear hh
    go_enter Try.func15, Try.ntmps15
    go_wp2_with fail
    refine bodyPost_ret (results_tmp rfl _ _ _) rfl ⟨rfl, bal (bal (brefl _) _) _⟩
  · have h1 : decide (hr < 0) = false := by simp; omega
    have h2 : decide (2097152 ≤ hr) = true := by simpa using hh
    clear hh
    go_enter Try.func15, Try.ntmps15
    go_wp2_with fail
    refine bodyPost_ret (results_tmp rfl _ _ _) rfl ⟨rfl, bal (bal (brefl _) _) _⟩
end Go.Proofs.Ytjfeeampcgmngaa
