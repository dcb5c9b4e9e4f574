/- rollup.Put. -/
import Derived.Test.YtjfeeampcgmngaaSet3
import Derived.Test.YtjfeeampcgmngaaReg
namespace Go.Proofs.Ytjfeeampcgmngaa
open Go.RowKit Go.Shelf Go.Maps
open Go.ChangeMaps (setBlock)

def talCells (c e t : Nat) (sl : Value) : List Value := [.int .u64 (natHi c), .int .u64 (natLo c), .int .u64 (natHi e), .int .u64 (natLo e), .int .u64 (natHi t), .int .u64 (natLo t), sl]
theorem apart_of {w : World} {A : Option Addr} {n g : Nat} {l : List RBar} {cs : List Value} {t : TypeId} (h : BarsAt w A n l) (hk : Blk w g t cs) (hno : ∀ x ∈ cs, ∀ j, x ≠ .int .i64 j) : ∀ b off, 0 < n → A = some ⟨b, off, none⟩ → b ≠ g := by
  rintro b off hn rfl rfl
  obtain ⟨b', off', e, hc⟩ := h.2 hn
  cases e
  have hl : 0 < l.length := by rw [← h.1]; exact hn
  obtain ⟨⟨j, c⟩, hp⟩ : ∃ p, l[0]? = some p := ⟨l[0], List.getElem?_eq_getElem hl⟩
  have h1 := (hc 0 j c hp).1
  unfold Blk at hk
  simp only [World.cell?, hk] at h1
  have h2 : cs[off + 0 * 2]? = some (.int .i64 j) := by simpa using h1
  exact hno _ (List.mem_of_getElem? h2) j rfl

theorem zeroTally (w : World) : (zeroValue 46).run Try.prog w = .ok zeroTal w := by kernel_rfl
theorem zero_at (w : World) : TalAt w zeroTal tzero.raw := ⟨none, 0, 0, rfl, BarsAt.nil w, by omega, by omega⟩

/-- What the two look-ups of Put tell. -/
theorem RollAt.value {F : Nat → Prop} {w : World} {r m fan : Nat} {es : List MapEntry} {M : Cont} (h : RollAt w r m fan es M F) {hr : Nat} (hh : hr < limit) {e : Edge} (he : EdgeOk e) :
    ∃ lv ov, (∀ w', Below w.heap.size w w' → (Instr.lookup 67 (.map (some m)) (.int .i64 hr) false).run Try.prog w' = .ok lv w') ∧
      (∀ w', Below w.heap.size w w' → (Instr.lookup 75 lv (.agg #[.string e.1, .string e.2]) false).run Try.prog w' = .ok ov w') ∧ TalAt w ov (M hr e).raw := by
  obtain ⟨l, hl⟩ := edge_key he
  rcases h.hour hr with ⟨hlk, hz⟩ | ⟨b, es', hb, hi, _, hbm, hFb⟩
  · refine ⟨.map none, zeroTal, hour_absent h.map hlk hh, fun w' _ => ?_, by rw [hz]; exact zero_at w⟩
    exact run_lookup_nil false edgeKeyed Try.underlying75 (zeroTally w') hl
  · by_cases h0 : M hr e = tzero
    · refine ⟨.map (some b), zeroTal, hour_there h.map hb hh, fun w' hw => ?_, by rw [h0]; exact zero_at w⟩
      have hm := hi.map.same (hw.block b hi.map.lt)
      rcases hm.lookup false edgeKeyed Try.underlying75 (zeroTally w') hl with ⟨_, hrun⟩ | ⟨u, ⟨x, hx, hk, _⟩, hrun⟩
      · exact hrun
      · obtain ⟨e', _, a2, _, a4⟩ := hi.tells x hx
        have : e' = e := edgeVal_inj (a2.symm.trans hk)
        subst this
        exact absurd h0 a4
    · obtain ⟨x, hx, hk⟩ := hi.all e h0
      obtain ⟨e', _, a2, a3, a4⟩ := hi.tells x hx
      have : e' = e := edgeVal_inj (a2.symm.trans hk)
      subst this
      refine ⟨.map (some b), x.val, hour_there h.map hb hh, fun w' hw => ?_, a3⟩
      have hm := hi.map.same (hw.block b hi.map.lt)
      rcases hm.lookup false edgeKeyed Try.underlying75 (zeroTally w') hl with ⟨hlk, _⟩ | ⟨u, hu, hrun⟩
      · exact absurd hk (hlk x hx)
      · rw [Has.unique hm.apart ⟨x, hx, hk, rfl⟩ hu]
        exact hrun

set_option maxRecDepth 100000 in
set_option maxHeartbeats 8000000 in
theorem Put_ok (w : World) (r m fan : Nat) (es : List MapEntry) (M : Cont) (F : Nat → Prop) (hr : Nat) (e : Edge) (v : Value) (t : Tal) (h : RollAt w r m fan es M F) (hh : hr < limit) (he : EdgeOk e) (hv : TalAt w v t.raw) (ht : t.Ok) :
    Calls Try.prog 15 #[.pointer (some ⟨r, 0, none⟩), hourVal hr, edgeVal e, v] w fun en w' => en = .returned (.int .i64 0) ∧ (∃ es' F', RollAt w' r m fan es' (upd M hr e (tadd (M hr e) t)) F' ∧ ∀ q, F' q → F q ∨ w.heap.size ≤ q) ∧ Mod F w w' := by
  obtain ⟨lv, ov, hl1, hl2, hov⟩ := h.value hh he
  obtain ⟨A, n, c, rfl, hv1, hv2, hv3⟩ := hv
  have hv0 : TalAt w (talVal t.calls t.errors t.took (.slice A n c)) t.raw := ⟨A, n, c, rfl, hv1, hv2, hv3⟩
  show Calls Try.prog 15 #[.pointer (some ⟨r, 0, none⟩), hourVal hr, edgeVal e, talVal t.calls t.errors t.took (.slice A n c)] w _
  unfold talVal at *
  generalize natHi t.calls = b1 at *
  generalize natLo t.calls = b2 at *
  generalize natHi t.errors = b3 at *
  generalize natLo t.errors = b4 at *
  generalize natHi t.took = b5 at *
  generalize natLo t.took = b6 at *
  have HV := Lib.hid hv0
  clear hv0
  obtain ⟨s, hs⟩ : ∃ s, s = tadd (M hr e) t := ⟨_, rfl⟩
  have hso : s.Ok := by rw [hs]; exact tadd_ok _ _
  obtain ⟨w1, hw1⟩ : ∃ w1, w1 = (w.alloc (Obj.cells #[.string e.1, .string e.2] 40)).alloc (Obj.cells #[.int .u64 b1, .int .u64 b2, .int .u64 b3, .int .u64 b4, .int .u64 b5, .int .u64 b6, .slice A n c] 46) := ⟨_, rfl⟩
  have hb1 : Below w.heap.size w w1 := by rw [hw1]; exact bal (bal (brefl w) _) _
  have k1 : Blk w1 w.heap.size 40 [.string e.1, .string e.2] := by rw [hw1]; exact (Blk.new _ _ _).alloc _
  have k2 : Blk w1 (w.heap.size + 1) 46 [.int .u64 b1, .int .u64 b2, .int .u64 b3, .int .u64 b4, .int .u64 b5, .int .u64 b6, .slice A n c] := by rw [hw1]; exact Blk.new_ _ _ _ (by simp)
  have L1 : ∀ w', Below w1.heap.size w1 w' → _ := fun w' hb => hl1 w' (btrans hb1 hb)
  have L2 : ∀ w', Below w1.heap.size w1 w' → _ := fun w' hb => hl2 w' (btrans hb1 hb)
  have HP := Lib.hid (show ∀ w', Below w1.heap.size w1 w' → Calls Try.prog 26 #[ov, .agg #[.int .u64 b1, .int .u64 b2, .int .u64 b3, .int .u64 b4, .int .u64 b5, .int .u64 b6, .slice A n c]] w' fun e w'' => ∃ v, e = .returned (.tuple #[v, .int .i64 0]) ∧ TalAt w'' v s.raw ∧ Below w'.heap.size w' w'' from fun w' hb => by
    rw [hs]
    exact (Plus_ok w' (M hr e) t _ _ (hov.below (btrans hb1 hb)) (HV.out.below (btrans hb1 hb)) (h.ok hr e) ht).mono fun _ _ ⟨v, a1, a2, a3, _⟩ => ⟨v, a1, a2, a3⟩)
  have HH := Lib.hid h
  have kr := bcell1 hb1 (h.blk.cell 1 rfl)
  have p1 := k1.cell 0 rfl
  have p2 := k1.cell 1 rfl
  have q0 := k2.cell 0 rfl
  have q1 := k2.cell 1 rfl
  have q2 := k2.cell 2 rfl
  have q3 := k2.cell 3 rfl
  have q4 := k2.cell 4 rfl
  have q5 := k2.cell 5 rfl
  have q6 := k2.cell 6 rfl
  have HB1 := Lib.hid hb1
  have HS := Lib.hid hs
  have HVV := Lib.hid (And.intro hv1 hov)
  have HL := Lib.hid (And.intro L1 L2)
  have h0 : ¬ ((hr : Int) < 0) := by omega
  have h2 : decide ((2097152 : Int) ≤ (hr : Int)) = false := by unfold limit at hh; simp; omega
  have HHH := Lib.hid hh
  clear hh
  have HW1 := Lib.hid hw1
  clear hw1
  clear hl1 hl2 hov hv1 hb1 k1 k2 h hs L1 L2
  unfold edgeVal hourVal
  go_enter Try.func15, Try.ntmps15
  go_wp2_with fail
  rw [← HW1.out]
  have L1 := HL.out.1
  have L2 := HL.out.2
  refine wp_region_rel (by kernel_rfl) (by kernel_rfl) [some 18, some 19, some 20, some 21, some 22, some 23, some 24, some 25, some 26, some 27, some 17, some 28, some 29, some 9, none, some 10] (by kernel_rfl) (fun u j w' => match j with | 0 => u 0 = .pointer (some ⟨r, 0, none⟩) | 1 => u 1 = .pointer (some ⟨r, 0, none⟩) | 2 => u 2 = .pointer (some ⟨r, 1, none⟩) | 3 => u 3 = .map (some m) | 4 => u 4 = .int .i64 hr | 5 => u 5 = lv | 6 => u 6 = .agg #[.string e.1, .string e.2] | 7 => u 7 = ov | 8 => u 8 = (.agg #[.int .u64 b1, .int .u64 b2, .int .u64 b3, .int .u64 b4, .int .u64 b5, .int .u64 b6, .slice A n c]) | 9 => ∃ A' c', u 9 = .tuple #[talVal s.calls s.errors s.took (.slice A' s.bars.length c'), .int .i64 0] ∧ BarsAt w' A' s.bars.length (rawBars s.bars) ∧ s.bars.length ≤ c' ∧ s.bars.length ≤ 140737488351232 | 10 => ∃ A' c', u 10 = .tuple #[talVal s.calls s.errors s.took (.slice A' s.bars.length c'), .int .i64 0] ∧ BarsAt w' A' s.bars.length (rawBars s.bars) ∧ s.bars.length ≤ c' ∧ s.bars.length ≤ 140737488351232 | 11 => ∃ A' c', u 11 = talVal s.calls s.errors s.took (.slice A' s.bars.length c') ∧ BarsAt w' A' s.bars.length (rawBars s.bars) ∧ s.bars.length ≤ c' ∧ s.bars.length ≤ 140737488351232 | 12 => u 12 = .int .i64 0 | 13 => ∃ g cs, u 13 = .pointer (some ⟨g, 0, none⟩) ∧ w1.heap.size ≤ g ∧ Blk w' g 46 cs ∧ cs.length = 7 ∧ ∀ x ∈ cs, ∀ j, x ≠ .int .i64 j | 14 => ∃ g A' c', u 13 = .pointer (some ⟨g, 0, none⟩) ∧ w1.heap.size ≤ g ∧ Blk w' g 46 (talCells s.calls s.errors s.took (.slice A' s.bars.length c')) ∧ BarsAt w' A' s.bars.length (rawBars s.bars) ∧ s.bars.length ≤ c' ∧ s.bars.length ≤ 140737488351232 | 15 => u 15 = .int .i64 0 | _ => True) (fun w' => Below w1.heap.size w1 w') (bdrew (brefl _)) ?step ?fin
  case step =>
    intro i hi u w' hu hinv
    rcases i with _ | _ | _ | _ | _ | _ | _ | _ | _ | _ | _ | _ | _ | _ | _ | _ | i
    · -- 0
      clear hu
      refine wpOp_go rfl rfl fun K hK => ?_
      simp only [fillL, Act.put, List.setIfInBounds_toArray, List.set_cons_succ, List.set_cons_zero, Nat.zero_add, Nat.reduceAdd]
      go_wp2_with (fail)
      refine RelPost.mk (.pointer (some ⟨r, 0, none⟩)) ?_ (rfl) (hinv) (fun j hj hne hn h => match j, hne, hn, h with | 0, hne, hn, h => (hne rfl).elim | 1, hne, hn, h => not_hangs (by kernel_rfl) hn | 2, hne, hn, h => not_hangs (by kernel_rfl) hn | 3, hne, hn, h => not_hangs (by kernel_rfl) hn | 4, hne, hn, h => h | 5, hne, hn, h => not_hangs (by kernel_rfl) hn | 6, hne, hn, h => h | 7, hne, hn, h => not_hangs (by kernel_rfl) hn | 8, hne, hn, h => h | 9, hne, hn, h => not_hangs (by kernel_rfl) hn | 10, hne, hn, h => not_hangs (by kernel_rfl) hn | 11, hne, hn, h => not_hangs (by kernel_rfl) hn | 12, hne, hn, h => not_hangs (by kernel_rfl) hn | 13, hne, hn, h => h | 14, hne, hn, h => not_hangs (by kernel_rfl) hn | 15, hne, hn, h => not_hangs (by kernel_rfl) hn | _ + 16, hne, _, h => h)
      simp [fillL, Act.put, setAt]
    · -- 1
      have e0 : u 0 = .pointer (some ⟨r, 0, none⟩) := hu 0 (by kernel_rfl)
      clear hu
      refine wpOp_go rfl rfl fun K hK => ?_
      simp only [fillL, Act.put, List.setIfInBounds_toArray, List.set_cons_succ, List.set_cons_zero, Nat.zero_add, Nat.reduceAdd]
      go_wp2_with (fail)
      refine RelPost.mk (.pointer (some ⟨r, 0, none⟩)) ?_ (rfl) (hinv) (fun j hj hne hn h => match j, hne, hn, h with | 0, hne, hn, h => h | 1, hne, hn, h => (hne rfl).elim | 2, hne, hn, h => not_hangs (by kernel_rfl) hn | 3, hne, hn, h => not_hangs (by kernel_rfl) hn | 4, hne, hn, h => h | 5, hne, hn, h => not_hangs (by kernel_rfl) hn | 6, hne, hn, h => h | 7, hne, hn, h => not_hangs (by kernel_rfl) hn | 8, hne, hn, h => h | 9, hne, hn, h => not_hangs (by kernel_rfl) hn | 10, hne, hn, h => not_hangs (by kernel_rfl) hn | 11, hne, hn, h => not_hangs (by kernel_rfl) hn | 12, hne, hn, h => not_hangs (by kernel_rfl) hn | 13, hne, hn, h => h | 14, hne, hn, h => not_hangs (by kernel_rfl) hn | 15, hne, hn, h => not_hangs (by kernel_rfl) hn | _ + 16, hne, _, h => h)
      simp [fillL, Act.put, setAt, e0]
    · -- 2
      have e0 : u 0 = .pointer (some ⟨r, 0, none⟩) := hu 0 (by kernel_rfl)
      have e1 : u 1 = .pointer (some ⟨r, 0, none⟩) := hu 1 (by kernel_rfl)
      clear hu
      refine wpOp_go rfl rfl fun K hK => ?_
      simp only [fillL, Act.put, List.setIfInBounds_toArray, List.set_cons_succ, List.set_cons_zero, Nat.zero_add, Nat.reduceAdd]
      go_wp2_with (fail)
      refine RelPost.mk (.pointer (some ⟨r, 1, none⟩)) ?_ (rfl) (hinv) (fun j hj hne hn h => match j, hne, hn, h with | 0, hne, hn, h => h | 1, hne, hn, h => h | 2, hne, hn, h => (hne rfl).elim | 3, hne, hn, h => not_hangs (by kernel_rfl) hn | 4, hne, hn, h => h | 5, hne, hn, h => not_hangs (by kernel_rfl) hn | 6, hne, hn, h => h | 7, hne, hn, h => not_hangs (by kernel_rfl) hn | 8, hne, hn, h => h | 9, hne, hn, h => not_hangs (by kernel_rfl) hn | 10, hne, hn, h => not_hangs (by kernel_rfl) hn | 11, hne, hn, h => not_hangs (by kernel_rfl) hn | 12, hne, hn, h => not_hangs (by kernel_rfl) hn | 13, hne, hn, h => h | 14, hne, hn, h => not_hangs (by kernel_rfl) hn | 15, hne, hn, h => not_hangs (by kernel_rfl) hn | _ + 16, hne, _, h => h)
      simp [fillL, Act.put, setAt, e0, e1]
    · -- 3
      have e0 : u 0 = .pointer (some ⟨r, 0, none⟩) := hu 0 (by kernel_rfl)
      have e1 : u 1 = .pointer (some ⟨r, 0, none⟩) := hu 1 (by kernel_rfl)
      have e2 : u 2 = .pointer (some ⟨r, 1, none⟩) := hu 2 (by kernel_rfl)
      clear hu
      have g1 := bcell1 hinv kr
      refine wpOp_go rfl rfl fun K hK => ?_
      simp only [fillL, Act.put, List.setIfInBounds_toArray, List.set_cons_succ, List.set_cons_zero, Nat.zero_add, Nat.reduceAdd]
      go_wp2_with (fail)
      refine RelPost.mk (.map (some m)) ?_ (rfl) (hinv) (fun j hj hne hn h => match j, hne, hn, h with | 0, hne, hn, h => h | 1, hne, hn, h => h | 2, hne, hn, h => h | 3, hne, hn, h => (hne rfl).elim | 4, hne, hn, h => h | 5, hne, hn, h => not_hangs (by kernel_rfl) hn | 6, hne, hn, h => h | 7, hne, hn, h => not_hangs (by kernel_rfl) hn | 8, hne, hn, h => h | 9, hne, hn, h => not_hangs (by kernel_rfl) hn | 10, hne, hn, h => not_hangs (by kernel_rfl) hn | 11, hne, hn, h => not_hangs (by kernel_rfl) hn | 12, hne, hn, h => not_hangs (by kernel_rfl) hn | 13, hne, hn, h => h | 14, hne, hn, h => not_hangs (by kernel_rfl) hn | 15, hne, hn, h => not_hangs (by kernel_rfl) hn | _ + 16, hne, _, h => h)
      simp [fillL, Act.put, setAt, e0, e1, e2]
    · -- 4
      clear hu
      refine wpOp_go rfl rfl fun K hK => ?_
      simp only [fillL, Act.put, List.setIfInBounds_toArray, List.set_cons_succ, List.set_cons_zero, Nat.zero_add, Nat.reduceAdd]
      go_wp2_with (fail)
      refine RelPost.mk (.int .i64 hr) ?_ (rfl) (hinv) (fun j hj hne hn h => match j, hne, hn, h with | 0, hne, hn, h => h | 1, hne, hn, h => h | 2, hne, hn, h => h | 3, hne, hn, h => h | 4, hne, hn, h => (hne rfl).elim | 5, hne, hn, h => not_hangs (by kernel_rfl) hn | 6, hne, hn, h => h | 7, hne, hn, h => not_hangs (by kernel_rfl) hn | 8, hne, hn, h => h | 9, hne, hn, h => not_hangs (by kernel_rfl) hn | 10, hne, hn, h => not_hangs (by kernel_rfl) hn | 11, hne, hn, h => not_hangs (by kernel_rfl) hn | 12, hne, hn, h => not_hangs (by kernel_rfl) hn | 13, hne, hn, h => h | 14, hne, hn, h => not_hangs (by kernel_rfl) hn | 15, hne, hn, h => not_hangs (by kernel_rfl) hn | _ + 16, hne, _, h => h)
      simp [fillL, Act.put, setAt]
    · -- 5
      have e0 : u 0 = .pointer (some ⟨r, 0, none⟩) := hu 0 (by kernel_rfl)
      have e1 : u 1 = .pointer (some ⟨r, 0, none⟩) := hu 1 (by kernel_rfl)
      have e2 : u 2 = .pointer (some ⟨r, 1, none⟩) := hu 2 (by kernel_rfl)
      have e3 : u 3 = .map (some m) := hu 3 (by kernel_rfl)
      have e4 : u 4 = .int .i64 hr := hu 4 (by kernel_rfl)
      clear hu
      have g1 := L1 w' hinv
      refine wpOp_go rfl rfl fun K hK => ?_
      simp only [fillL, Act.put, List.setIfInBounds_toArray, List.set_cons_succ, List.set_cons_zero, Nat.zero_add, Nat.reduceAdd]
      go_wp2_with (fail)
      refine RelPost.mk lv ?_ (rfl) (hinv) (fun j hj hne hn h => match j, hne, hn, h with | 0, hne, hn, h => h | 1, hne, hn, h => h | 2, hne, hn, h => h | 3, hne, hn, h => h | 4, hne, hn, h => h | 5, hne, hn, h => (hne rfl).elim | 6, hne, hn, h => h | 7, hne, hn, h => not_hangs (by kernel_rfl) hn | 8, hne, hn, h => h | 9, hne, hn, h => not_hangs (by kernel_rfl) hn | 10, hne, hn, h => not_hangs (by kernel_rfl) hn | 11, hne, hn, h => not_hangs (by kernel_rfl) hn | 12, hne, hn, h => not_hangs (by kernel_rfl) hn | 13, hne, hn, h => h | 14, hne, hn, h => not_hangs (by kernel_rfl) hn | 15, hne, hn, h => not_hangs (by kernel_rfl) hn | _ + 16, hne, _, h => h)
      simp [fillL, Act.put, setAt, e0, e1, e2, e3, e4]
    · -- 6
      clear hu
      have g1 := bcell1 hinv p1
      have g2 := bcell1 hinv p2
      refine wpOp_go rfl rfl fun K hK => ?_
      simp only [fillL, Act.put, List.setIfInBounds_toArray, List.set_cons_succ, List.set_cons_zero, Nat.zero_add, Nat.reduceAdd]
      go_wp2_with (fail)
      refine RelPost.mk (.agg #[.string e.1, .string e.2]) ?_ (rfl) (hinv) (fun j hj hne hn h => match j, hne, hn, h with | 0, hne, hn, h => h | 1, hne, hn, h => h | 2, hne, hn, h => h | 3, hne, hn, h => h | 4, hne, hn, h => h | 5, hne, hn, h => h | 6, hne, hn, h => (hne rfl).elim | 7, hne, hn, h => not_hangs (by kernel_rfl) hn | 8, hne, hn, h => h | 9, hne, hn, h => not_hangs (by kernel_rfl) hn | 10, hne, hn, h => not_hangs (by kernel_rfl) hn | 11, hne, hn, h => not_hangs (by kernel_rfl) hn | 12, hne, hn, h => not_hangs (by kernel_rfl) hn | 13, hne, hn, h => h | 14, hne, hn, h => not_hangs (by kernel_rfl) hn | 15, hne, hn, h => not_hangs (by kernel_rfl) hn | _ + 16, hne, _, h => h)
      simp [fillL, Act.put, setAt]
    · -- 7
      have e0 : u 0 = .pointer (some ⟨r, 0, none⟩) := hu 0 (by kernel_rfl)
      have e1 : u 1 = .pointer (some ⟨r, 0, none⟩) := hu 1 (by kernel_rfl)
      have e2 : u 2 = .pointer (some ⟨r, 1, none⟩) := hu 2 (by kernel_rfl)
      have e3 : u 3 = .map (some m) := hu 3 (by kernel_rfl)
      have e4 : u 4 = .int .i64 hr := hu 4 (by kernel_rfl)
      have e5 : u 5 = lv := hu 5 (by kernel_rfl)
      have e6 : u 6 = .agg #[.string e.1, .string e.2] := hu 6 (by kernel_rfl)
      clear hu
      have g1 := L2 w' hinv
      refine wpOp_go rfl rfl fun K hK => ?_
      simp only [fillL, Act.put, List.setIfInBounds_toArray, List.set_cons_succ, List.set_cons_zero, Nat.zero_add, Nat.reduceAdd]
      go_wp2_with (fail)
      refine RelPost.mk ov ?_ (rfl) (hinv) (fun j hj hne hn h => match j, hne, hn, h with | 0, hne, hn, h => h | 1, hne, hn, h => h | 2, hne, hn, h => h | 3, hne, hn, h => h | 4, hne, hn, h => h | 5, hne, hn, h => h | 6, hne, hn, h => h | 7, hne, hn, h => (hne rfl).elim | 8, hne, hn, h => h | 9, hne, hn, h => not_hangs (by kernel_rfl) hn | 10, hne, hn, h => not_hangs (by kernel_rfl) hn | 11, hne, hn, h => not_hangs (by kernel_rfl) hn | 12, hne, hn, h => not_hangs (by kernel_rfl) hn | 13, hne, hn, h => h | 14, hne, hn, h => not_hangs (by kernel_rfl) hn | 15, hne, hn, h => not_hangs (by kernel_rfl) hn | _ + 16, hne, _, h => h)
      simp [fillL, Act.put, setAt, e0, e1, e2, e3, e4, e5, e6]
    · -- 8
      clear hu
      have g0 := bcell1 hinv q0
      have g1 := bcell1 hinv q1
      have g2 := bcell1 hinv q2
      have g3 := bcell1 hinv q3
      have g4 := bcell1 hinv q4
      have g5 := bcell1 hinv q5
      have g6 := bcell1 hinv q6
      refine wpOp_go rfl rfl fun K hK => ?_
      simp only [fillL, Act.put, List.setIfInBounds_toArray, List.set_cons_succ, List.set_cons_zero, Nat.zero_add, Nat.reduceAdd]
      go_wp2_with (fail)
      refine RelPost.mk (.agg #[.int .u64 b1, .int .u64 b2, .int .u64 b3, .int .u64 b4, .int .u64 b5, .int .u64 b6, .slice A n c]) ?_ (rfl) (hinv) (fun j hj hne hn h => match j, hne, hn, h with | 0, hne, hn, h => h | 1, hne, hn, h => h | 2, hne, hn, h => h | 3, hne, hn, h => h | 4, hne, hn, h => h | 5, hne, hn, h => h | 6, hne, hn, h => h | 7, hne, hn, h => h | 8, hne, hn, h => (hne rfl).elim | 9, hne, hn, h => not_hangs (by kernel_rfl) hn | 10, hne, hn, h => not_hangs (by kernel_rfl) hn | 11, hne, hn, h => not_hangs (by kernel_rfl) hn | 12, hne, hn, h => not_hangs (by kernel_rfl) hn | 13, hne, hn, h => h | 14, hne, hn, h => not_hangs (by kernel_rfl) hn | 15, hne, hn, h => not_hangs (by kernel_rfl) hn | _ + 16, hne, _, h => h)
      simp [fillL, Act.put, setAt]
    · -- 9
      have e0 : u 0 = .pointer (some ⟨r, 0, none⟩) := hu 0 (by kernel_rfl)
      have e1 : u 1 = .pointer (some ⟨r, 0, none⟩) := hu 1 (by kernel_rfl)
      have e2 : u 2 = .pointer (some ⟨r, 1, none⟩) := hu 2 (by kernel_rfl)
      have e3 : u 3 = .map (some m) := hu 3 (by kernel_rfl)
      have e4 : u 4 = .int .i64 hr := hu 4 (by kernel_rfl)
      have e5 : u 5 = lv := hu 5 (by kernel_rfl)
      have e6 : u 6 = .agg #[.string e.1, .string e.2] := hu 6 (by kernel_rfl)
      have e7 : u 7 = ov := hu 7 (by kernel_rfl)
      have e8 : u 8 = (.agg #[.int .u64 b1, .int .u64 b2, .int .u64 b3, .int .u64 b4, .int .u64 b5, .int .u64 b6, .slice A n c]) := hu 8 (by kernel_rfl)
      clear hu
      refine wpOp_go rfl rfl fun K hK => ?_
      simp only [fillL, Act.put, List.setIfInBounds_toArray, List.set_cons_succ, List.set_cons_zero, Nat.zero_add, Nat.reduceAdd]
      go_wp2_with (go_at_call 26; refine (HP.out w' hinv).mono ?_; rintro en w'' ⟨pv, rfl, ⟨A', n', c', rfl, hba, hn1, hn2⟩, hb⟩)
      have hn0 : n' = s.bars.length := by rw [hba.1]; simp [Tal.raw, rawBars]
      subst hn0
      refine RelPost.mk (.tuple #[talVal s.calls s.errors s.took (.slice A' s.bars.length c'), .int .i64 0]) ?_ (⟨A', c', rfl, hba, hn2, hn1⟩) (btrans hinv hb) (fun j hj hne hn h => match j, hne, hn, h with | 0, hne, hn, h => h | 1, hne, hn, h => h | 2, hne, hn, h => h | 3, hne, hn, h => h | 4, hne, hn, h => h | 5, hne, hn, h => h | 6, hne, hn, h => h | 7, hne, hn, h => h | 8, hne, hn, h => h | 9, hne, hn, h => (hne rfl).elim | 10, hne, hn, h => not_hangs (by kernel_rfl) hn | 11, hne, hn, h => not_hangs (by kernel_rfl) hn | 12, hne, hn, h => not_hangs (by kernel_rfl) hn | 13, hne, hn, h => (let ⟨g, cs, a, b, c, d⟩ := h; ⟨g, cs, a, b, c.below hb, d⟩) | 14, hne, hn, h => not_hangs (by kernel_rfl) hn | 15, hne, hn, h => not_hangs (by kernel_rfl) hn | _ + 16, hne, _, h => h)
      simp [fillL, Act.put, setAt, e0, e1, e2, e3, e4, e5, e6, e7, e8, Tal.raw]
    · -- 10
      have e0 : u 0 = .pointer (some ⟨r, 0, none⟩) := hu 0 (by kernel_rfl)
      have e1 : u 1 = .pointer (some ⟨r, 0, none⟩) := hu 1 (by kernel_rfl)
      have e2 : u 2 = .pointer (some ⟨r, 1, none⟩) := hu 2 (by kernel_rfl)
      have e3 : u 3 = .map (some m) := hu 3 (by kernel_rfl)
      have e4 : u 4 = .int .i64 hr := hu 4 (by kernel_rfl)
      have e5 : u 5 = lv := hu 5 (by kernel_rfl)
      have e6 : u 6 = .agg #[.string e.1, .string e.2] := hu 6 (by kernel_rfl)
      have e7 : u 7 = ov := hu 7 (by kernel_rfl)
      have e8 : u 8 = (.agg #[.int .u64 b1, .int .u64 b2, .int .u64 b3, .int .u64 b4, .int .u64 b5, .int .u64 b6, .slice A n c]) := hu 8 (by kernel_rfl)
      have e9 : ∃ A' c', u 9 = .tuple #[talVal s.calls s.errors s.took (.slice A' s.bars.length c'), .int .i64 0] ∧ BarsAt w' A' s.bars.length (rawBars s.bars) ∧ s.bars.length ≤ c' ∧ s.bars.length ≤ 140737488351232 := hu 9 (by kernel_rfl)
      clear hu
      obtain ⟨A', c', e9, hg⟩ := e9
      refine wpOp_go rfl rfl fun K hK => ?_
      simp only [fillL, Act.put, List.setIfInBounds_toArray, List.set_cons_succ, List.set_cons_zero, Nat.zero_add, Nat.reduceAdd]
      go_wp2_with (fail)
      refine RelPost.mk (.tuple #[talVal s.calls s.errors s.took (.slice A' s.bars.length c'), .int .i64 0]) ?_ (⟨A', c', rfl, hg⟩) (hinv) (fun j hj hne hn h => match j, hne, hn, h with | 0, hne, hn, h => h | 1, hne, hn, h => h | 2, hne, hn, h => h | 3, hne, hn, h => h | 4, hne, hn, h => h | 5, hne, hn, h => h | 6, hne, hn, h => h | 7, hne, hn, h => h | 8, hne, hn, h => h | 9, hne, hn, h => h | 10, hne, hn, h => (hne rfl).elim | 11, hne, hn, h => not_hangs (by kernel_rfl) hn | 12, hne, hn, h => not_hangs (by kernel_rfl) hn | 13, hne, hn, h => h | 14, hne, hn, h => not_hangs (by kernel_rfl) hn | 15, hne, hn, h => not_hangs (by kernel_rfl) hn | _ + 16, hne, _, h => h)
      simp [fillL, Act.put, setAt, e0, e1, e2, e3, e4, e5, e6, e7, e8, e9]
    · -- 11
      have e0 : u 0 = .pointer (some ⟨r, 0, none⟩) := hu 0 (by kernel_rfl)
      have e1 : u 1 = .pointer (some ⟨r, 0, none⟩) := hu 1 (by kernel_rfl)
      have e2 : u 2 = .pointer (some ⟨r, 1, none⟩) := hu 2 (by kernel_rfl)
      have e3 : u 3 = .map (some m) := hu 3 (by kernel_rfl)
      have e4 : u 4 = .int .i64 hr := hu 4 (by kernel_rfl)
      have e5 : u 5 = lv := hu 5 (by kernel_rfl)
      have e6 : u 6 = .agg #[.string e.1, .string e.2] := hu 6 (by kernel_rfl)
      have e7 : u 7 = ov := hu 7 (by kernel_rfl)
      have e8 : u 8 = (.agg #[.int .u64 b1, .int .u64 b2, .int .u64 b3, .int .u64 b4, .int .u64 b5, .int .u64 b6, .slice A n c]) := hu 8 (by kernel_rfl)
      have e9 : ∃ A' c', u 9 = .tuple #[talVal s.calls s.errors s.took (.slice A' s.bars.length c'), .int .i64 0] ∧ BarsAt w' A' s.bars.length (rawBars s.bars) ∧ s.bars.length ≤ c' ∧ s.bars.length ≤ 140737488351232 := hu 9 (by kernel_rfl)
      have e10 : ∃ A' c', u 10 = .tuple #[talVal s.calls s.errors s.took (.slice A' s.bars.length c'), .int .i64 0] ∧ BarsAt w' A' s.bars.length (rawBars s.bars) ∧ s.bars.length ≤ c' ∧ s.bars.length ≤ 140737488351232 := hu 10 (by kernel_rfl)
      clear hu
      obtain ⟨A', c', e10, hg⟩ := e10
      refine wpOp_go rfl rfl fun K hK => ?_
      simp only [fillL, Act.put, List.setIfInBounds_toArray, List.set_cons_succ, List.set_cons_zero, Nat.zero_add, Nat.reduceAdd]
      go_wp2_with (fail)
      refine RelPost.mk (talVal s.calls s.errors s.took (.slice A' s.bars.length c')) ?_ (⟨A', c', rfl, hg⟩) (hinv) (fun j hj hne hn h => match j, hne, hn, h with | 0, hne, hn, h => h | 1, hne, hn, h => h | 2, hne, hn, h => h | 3, hne, hn, h => h | 4, hne, hn, h => h | 5, hne, hn, h => h | 6, hne, hn, h => h | 7, hne, hn, h => h | 8, hne, hn, h => h | 9, hne, hn, h => h | 10, hne, hn, h => h | 11, hne, hn, h => (hne rfl).elim | 12, hne, hn, h => h | 13, hne, hn, h => h | 14, hne, hn, h => not_hangs (by kernel_rfl) hn | 15, hne, hn, h => not_hangs (by kernel_rfl) hn | _ + 16, hne, _, h => h)
      simp [fillL, Act.put, setAt, e0, e1, e2, e3, e4, e5, e6, e7, e8, e10]
    · -- 12
      have e0 : u 0 = .pointer (some ⟨r, 0, none⟩) := hu 0 (by kernel_rfl)
      have e1 : u 1 = .pointer (some ⟨r, 0, none⟩) := hu 1 (by kernel_rfl)
      have e2 : u 2 = .pointer (some ⟨r, 1, none⟩) := hu 2 (by kernel_rfl)
      have e3 : u 3 = .map (some m) := hu 3 (by kernel_rfl)
      have e4 : u 4 = .int .i64 hr := hu 4 (by kernel_rfl)
      have e5 : u 5 = lv := hu 5 (by kernel_rfl)
      have e6 : u 6 = .agg #[.string e.1, .string e.2] := hu 6 (by kernel_rfl)
      have e7 : u 7 = ov := hu 7 (by kernel_rfl)
      have e8 : u 8 = (.agg #[.int .u64 b1, .int .u64 b2, .int .u64 b3, .int .u64 b4, .int .u64 b5, .int .u64 b6, .slice A n c]) := hu 8 (by kernel_rfl)
      have e9 : ∃ A' c', u 9 = .tuple #[talVal s.calls s.errors s.took (.slice A' s.bars.length c'), .int .i64 0] ∧ BarsAt w' A' s.bars.length (rawBars s.bars) ∧ s.bars.length ≤ c' ∧ s.bars.length ≤ 140737488351232 := hu 9 (by kernel_rfl)
      have e10 : ∃ A' c', u 10 = .tuple #[talVal s.calls s.errors s.took (.slice A' s.bars.length c'), .int .i64 0] ∧ BarsAt w' A' s.bars.length (rawBars s.bars) ∧ s.bars.length ≤ c' ∧ s.bars.length ≤ 140737488351232 := hu 10 (by kernel_rfl)
      clear hu
      obtain ⟨A', c', e10, hg⟩ := e10
      refine wpOp_go rfl rfl fun K hK => ?_
      simp only [fillL, Act.put, List.setIfInBounds_toArray, List.set_cons_succ, List.set_cons_zero, Nat.zero_add, Nat.reduceAdd]
      go_wp2_with (fail)
      refine RelPost.mk (.int .i64 0) ?_ (rfl) (hinv) (fun j hj hne hn h => match j, hne, hn, h with | 0, hne, hn, h => h | 1, hne, hn, h => h | 2, hne, hn, h => h | 3, hne, hn, h => h | 4, hne, hn, h => h | 5, hne, hn, h => h | 6, hne, hn, h => h | 7, hne, hn, h => h | 8, hne, hn, h => h | 9, hne, hn, h => h | 10, hne, hn, h => h | 11, hne, hn, h => h | 12, hne, hn, h => (hne rfl).elim | 13, hne, hn, h => h | 14, hne, hn, h => h | 15, hne, hn, h => not_hangs (by kernel_rfl) hn | _ + 16, hne, _, h => h)
      simp [fillL, Act.put, setAt, e0, e1, e2, e3, e4, e5, e6, e7, e8, e10]
    · -- 13
      clear hu
      refine wpOp_go rfl rfl fun K hK => ?_
      simp only [fillL, Act.put, List.setIfInBounds_toArray, List.set_cons_succ, List.set_cons_zero, Nat.zero_add, Nat.reduceAdd]
      go_wp2_with (fail)
      refine RelPost.mk (.pointer (some ⟨w'.heap.size, 0, none⟩)) ?_ (⟨w'.heap.size, _, rfl, hinv.size, Blk.new _ _ [.int .u64 0, .int .u64 0, .int .u64 0, .int .u64 0, .int .u64 0, .int .u64 0, .slice none 0 0], rfl, by simp⟩) (bal hinv _) (fun j hj hne hn h => match j, hne, hn, h with | 0, hne, hn, h => h | 1, hne, hn, h => h | 2, hne, hn, h => h | 3, hne, hn, h => h | 4, hne, hn, h => h | 5, hne, hn, h => h | 6, hne, hn, h => h | 7, hne, hn, h => h | 8, hne, hn, h => h | 9, hne, hn, h => (let ⟨A1, c1, a, b, c⟩ := h; ⟨A1, c1, a, b.below (bal (brefl _) _), c⟩) | 10, hne, hn, h => (let ⟨A1, c1, a, b, c⟩ := h; ⟨A1, c1, a, b.below (bal (brefl _) _), c⟩) | 11, hne, hn, h => (let ⟨A1, c1, a, b, c⟩ := h; ⟨A1, c1, a, b.below (bal (brefl _) _), c⟩) | 12, hne, hn, h => h | 13, hne, hn, h => (hne rfl).elim | 14, hne, hn, h => not_hangs (by kernel_rfl) hn | 15, hne, hn, h => not_hangs (by kernel_rfl) hn | _ + 16, hne, _, h => h)
      simp [fillL, Act.put, setAt]
    · -- 14
      have e0 : u 0 = .pointer (some ⟨r, 0, none⟩) := hu 0 (by kernel_rfl)
      have e1 : u 1 = .pointer (some ⟨r, 0, none⟩) := hu 1 (by kernel_rfl)
      have e2 : u 2 = .pointer (some ⟨r, 1, none⟩) := hu 2 (by kernel_rfl)
      have e3 : u 3 = .map (some m) := hu 3 (by kernel_rfl)
      have e4 : u 4 = .int .i64 hr := hu 4 (by kernel_rfl)
      have e5 : u 5 = lv := hu 5 (by kernel_rfl)
      have e6 : u 6 = .agg #[.string e.1, .string e.2] := hu 6 (by kernel_rfl)
      have e7 : u 7 = ov := hu 7 (by kernel_rfl)
      have e8 : u 8 = (.agg #[.int .u64 b1, .int .u64 b2, .int .u64 b3, .int .u64 b4, .int .u64 b5, .int .u64 b6, .slice A n c]) := hu 8 (by kernel_rfl)
      have e9 : ∃ A' c', u 9 = .tuple #[talVal s.calls s.errors s.took (.slice A' s.bars.length c'), .int .i64 0] ∧ BarsAt w' A' s.bars.length (rawBars s.bars) ∧ s.bars.length ≤ c' ∧ s.bars.length ≤ 140737488351232 := hu 9 (by kernel_rfl)
      have e10 : ∃ A' c', u 10 = .tuple #[talVal s.calls s.errors s.took (.slice A' s.bars.length c'), .int .i64 0] ∧ BarsAt w' A' s.bars.length (rawBars s.bars) ∧ s.bars.length ≤ c' ∧ s.bars.length ≤ 140737488351232 := hu 10 (by kernel_rfl)
      have e11 : ∃ A' c', u 11 = talVal s.calls s.errors s.took (.slice A' s.bars.length c') ∧ BarsAt w' A' s.bars.length (rawBars s.bars) ∧ s.bars.length ≤ c' ∧ s.bars.length ≤ 140737488351232 := hu 11 (by kernel_rfl)
      have e13 : ∃ g cs, u 13 = .pointer (some ⟨g, 0, none⟩) ∧ w1.heap.size ≤ g ∧ Blk w' g 46 cs ∧ cs.length = 7 ∧ ∀ x ∈ cs, ∀ j, x ≠ .int .i64 j := hu 13 (by kernel_rfl)
      clear hu
      obtain ⟨A', c', e11, hg⟩ := e11
      obtain ⟨g, cs, e13, hge, hblk, hlen, hno⟩ := e13
      obtain ⟨z0, z1, z2, z3, z4, z5, z6, rfl⟩ := list7 hlen
      have g0 := hblk.cell 0 rfl
      have g1 := hblk.cell 1 rfl
      have g2 := hblk.cell 2 rfl
      have g3 := hblk.cell 3 rfl
      have g4 := hblk.cell 4 rfl
      have g5 := hblk.cell 5 rfl
      have g6 := hblk.cell 6 rfl
      have f0 := hblk.frozen 0
      have f1 := hblk.frozen 1
      have f2 := hblk.frozen 2
      have f3 := hblk.frozen 3
      have f4 := hblk.frozen 4
      have f5 := hblk.frozen 5
      have f6 := hblk.frozen 6
      unfold talVal at e11
      have HBT := But.start hblk
      have HAP := apart_of hg.1 hblk hno
      refine wpOp_go rfl rfl fun K hK => ?_
      simp only [fillL, Act.put, List.setIfInBounds_toArray, List.set_cons_succ, List.set_cons_zero, Nat.zero_add, Nat.reduceAdd]
      go_wp2_with (fail)
      refine RelPost.mk undef ?_ (⟨g, A', c', e13, hge, ((((((hblk.set 0 _).set 1 _).set 2 _).set 3 _).set 4 _).set 5 _).set 6 _, hg.1.same (((((((HBT.set 0 _).set 1 _).set 2 _).set 3 _).set 4 _).set 5 _).set 6 _) HAP, hg.2⟩) (hinv.setCell (by simpa using hge) _ |>.setCell (by simpa using hge) _ |>.setCell (by simpa using hge) _ |>.setCell (by simpa using hge) _ |>.setCell (by simpa using hge) _ |>.setCell (by simpa using hge) _ |>.setCell (by simpa using hge) _) (fun j hj hne hn h => match j, hne, hn, h with | 0, hne, hn, h => h | 1, hne, hn, h => h | 2, hne, hn, h => h | 3, hne, hn, h => h | 4, hne, hn, h => h | 5, hne, hn, h => h | 6, hne, hn, h => h | 7, hne, hn, h => h | 8, hne, hn, h => h | 9, hne, hn, h => (let ⟨A1, c1, a, b, c⟩ := h; ⟨A1, c1, a, b.same (((((((HBT.set 0 _).set 1 _).set 2 _).set 3 _).set 4 _).set 5 _).set 6 _) (apart_of b hblk hno), c⟩) | 10, hne, hn, h => (let ⟨A1, c1, a, b, c⟩ := h; ⟨A1, c1, a, b.same (((((((HBT.set 0 _).set 1 _).set 2 _).set 3 _).set 4 _).set 5 _).set 6 _) (apart_of b hblk hno), c⟩) | 11, hne, hn, h => (let ⟨A1, c1, a, b, c⟩ := h; ⟨A1, c1, a, b.same (((((((HBT.set 0 _).set 1 _).set 2 _).set 3 _).set 4 _).set 5 _).set 6 _) (apart_of b hblk hno), c⟩) | 12, hne, hn, h => h | 13, hne, hn, h => (let ⟨g1, cs1, a, b, c, d⟩ := h; ⟨g, _, e13, hge, ((((((hblk.set 0 _).set 1 _).set 2 _).set 3 _).set 4 _).set 5 _).set 6 _, rfl, by simp [talCells]⟩) | 14, hne, hn, h => (hne rfl).elim | 15, hne, hn, h => not_hangs (by kernel_rfl) hn | _ + 16, hne, _, h => h)
      simp [fillL, Act.put, setAt, e0, e1, e2, e3, e4, e5, e6, e7, e8, e13, e11]
    · -- 15
      have e0 : u 0 = .pointer (some ⟨r, 0, none⟩) := hu 0 (by kernel_rfl)
      have e1 : u 1 = .pointer (some ⟨r, 0, none⟩) := hu 1 (by kernel_rfl)
      have e2 : u 2 = .pointer (some ⟨r, 1, none⟩) := hu 2 (by kernel_rfl)
      have e3 : u 3 = .map (some m) := hu 3 (by kernel_rfl)
      have e4 : u 4 = .int .i64 hr := hu 4 (by kernel_rfl)
      have e5 : u 5 = lv := hu 5 (by kernel_rfl)
      have e6 : u 6 = .agg #[.string e.1, .string e.2] := hu 6 (by kernel_rfl)
      have e7 : u 7 = ov := hu 7 (by kernel_rfl)
      have e8 : u 8 = (.agg #[.int .u64 b1, .int .u64 b2, .int .u64 b3, .int .u64 b4, .int .u64 b5, .int .u64 b6, .slice A n c]) := hu 8 (by kernel_rfl)
      have e9 : ∃ A' c', u 9 = .tuple #[talVal s.calls s.errors s.took (.slice A' s.bars.length c'), .int .i64 0] ∧ BarsAt w' A' s.bars.length (rawBars s.bars) ∧ s.bars.length ≤ c' ∧ s.bars.length ≤ 140737488351232 := hu 9 (by kernel_rfl)
      have e10 : ∃ A' c', u 10 = .tuple #[talVal s.calls s.errors s.took (.slice A' s.bars.length c'), .int .i64 0] ∧ BarsAt w' A' s.bars.length (rawBars s.bars) ∧ s.bars.length ≤ c' ∧ s.bars.length ≤ 140737488351232 := hu 10 (by kernel_rfl)
      have e11 : ∃ A' c', u 11 = talVal s.calls s.errors s.took (.slice A' s.bars.length c') ∧ BarsAt w' A' s.bars.length (rawBars s.bars) ∧ s.bars.length ≤ c' ∧ s.bars.length ≤ 140737488351232 := hu 11 (by kernel_rfl)
      have e12 : u 12 = .int .i64 0 := hu 12 (by kernel_rfl)
      have e13 : ∃ g cs, u 13 = .pointer (some ⟨g, 0, none⟩) ∧ w1.heap.size ≤ g ∧ Blk w' g 46 cs ∧ cs.length = 7 ∧ ∀ x ∈ cs, ∀ j, x ≠ .int .i64 j := hu 13 (by kernel_rfl)
      have e14 : ∃ g A' c', u 13 = .pointer (some ⟨g, 0, none⟩) ∧ w1.heap.size ≤ g ∧ Blk w' g 46 (talCells s.calls s.errors s.took (.slice A' s.bars.length c')) ∧ BarsAt w' A' s.bars.length (rawBars s.bars) ∧ s.bars.length ≤ c' ∧ s.bars.length ≤ 140737488351232 := hu 14 (by kernel_rfl)
      clear hu
      refine wpOp_go rfl rfl fun K hK => ?_
      simp only [fillL, Act.put, List.setIfInBounds_toArray, List.set_cons_succ, List.set_cons_zero, Nat.zero_add, Nat.reduceAdd]
      go_wp2_with (fail)
      refine RelPost.mk (.int .i64 0) ?_ (rfl) (hinv) (fun j hj hne hn h => match j, hne, hn, h with | 0, hne, hn, h => h | 1, hne, hn, h => h | 2, hne, hn, h => h | 3, hne, hn, h => h | 4, hne, hn, h => h | 5, hne, hn, h => h | 6, hne, hn, h => h | 7, hne, hn, h => h | 8, hne, hn, h => h | 9, hne, hn, h => h | 10, hne, hn, h => h | 11, hne, hn, h => h | 12, hne, hn, h => h | 13, hne, hn, h => h | 14, hne, hn, h => h | 15, hne, hn, h => (hne rfl).elim | _ + 16, hne, _, h => h)
      simp [fillL, Act.put, setAt, e0, e1, e2, e3, e4, e5, e6, e7, e8, e12]
    · exact absurd hi (by simp)
  case fin =>
    intro u w' hu hinv
    have e0 : u 0 = .pointer (some ⟨r, 0, none⟩) := hu 0 (by simp)
    have e1 : u 1 = .pointer (some ⟨r, 0, none⟩) := hu 1 (by simp)
    have e2 : u 2 = .pointer (some ⟨r, 1, none⟩) := hu 2 (by simp)
    have e3 : u 3 = .map (some m) := hu 3 (by simp)
    have e4 : u 4 = .int .i64 hr := hu 4 (by simp)
    have e5 : u 5 = lv := hu 5 (by simp)
    have e6 : u 6 = .agg #[.string e.1, .string e.2] := hu 6 (by simp)
    have e7 : u 7 = ov := hu 7 (by simp)
    have e8 : u 8 = (.agg #[.int .u64 b1, .int .u64 b2, .int .u64 b3, .int .u64 b4, .int .u64 b5, .int .u64 b6, .slice A n c]) := hu 8 (by simp)
    have e9 : ∃ A' c', u 9 = .tuple #[talVal s.calls s.errors s.took (.slice A' s.bars.length c'), .int .i64 0] ∧ BarsAt w' A' s.bars.length (rawBars s.bars) ∧ s.bars.length ≤ c' ∧ s.bars.length ≤ 140737488351232 := hu 9 (by simp)
    have e10 : ∃ A' c', u 10 = .tuple #[talVal s.calls s.errors s.took (.slice A' s.bars.length c'), .int .i64 0] ∧ BarsAt w' A' s.bars.length (rawBars s.bars) ∧ s.bars.length ≤ c' ∧ s.bars.length ≤ 140737488351232 := hu 10 (by simp)
    have e11 : ∃ A' c', u 11 = talVal s.calls s.errors s.took (.slice A' s.bars.length c') ∧ BarsAt w' A' s.bars.length (rawBars s.bars) ∧ s.bars.length ≤ c' ∧ s.bars.length ≤ 140737488351232 := hu 11 (by simp)
    have e12 : u 12 = .int .i64 0 := hu 12 (by simp)
    have e13 : ∃ g cs, u 13 = .pointer (some ⟨g, 0, none⟩) ∧ w1.heap.size ≤ g ∧ Blk w' g 46 cs ∧ cs.length = 7 ∧ ∀ x ∈ cs, ∀ j, x ≠ .int .i64 j := hu 13 (by simp)
    have e14 : ∃ g A' c', u 13 = .pointer (some ⟨g, 0, none⟩) ∧ w1.heap.size ≤ g ∧ Blk w' g 46 (talCells s.calls s.errors s.took (.slice A' s.bars.length c')) ∧ BarsAt w' A' s.bars.length (rawBars s.bars) ∧ s.bars.length ≤ c' ∧ s.bars.length ≤ 140737488351232 := hu 14 (by simp)
    have e15 : u 15 = .int .i64 0 := hu 15 (by simp)
    clear hu
    obtain ⟨g, A', c', e13', hge, hblk, hg1, hg2, hg3⟩ := e14
    have hset := set_any w' r m fan es M F hr e (talVal s.calls s.errors s.took (.slice A' s.bars.length c')) s (HH.out.below (btrans HB1.out hinv)) HHH.out he ⟨A', s.bars.length, c', rfl, hg1, hg3, hg2⟩ hso
    unfold talVal edgeVal hourVal at hset
    simp only [fillL, Act.put, List.setIfInBounds_toArray, List.set_cons_succ, List.set_cons_zero, Nat.zero_add, Nat.reduceAdd, e13', e0, e1, e2, e3, e4, e5, e6, e7, e8, e12, e15]
    have g1 := bcell1 hinv p1
    have g2 := bcell1 hinv p2
    have d0 := hblk.cell 0 rfl
    have d1 := hblk.cell 1 rfl
    have d2 := hblk.cell 2 rfl
    have d3 := hblk.cell 3 rfl
    have d4 := hblk.cell 4 rfl
    have d5 := hblk.cell 5 rfl
    have d6 := hblk.cell 6 rfl
    have HSET := Lib.hid hset
    clear hset e0 e1 e2 e3 e4 e5 e6 e7 e8 e9 e10 e11 e12 e13 e13' e15 hblk hg1 hg2 hg3 L1 L2 HL kr p1 p2 q0 q1 q2 q3 q4 q5 q6
    go_wp2_with fail
    refine HSET.out.mono ?_
    rintro en w2 ⟨rfl, ⟨es', F', hR, hF⟩, hmod⟩
    go_wp2_with fail
    go_ret
    refine ⟨rfl, ⟨es', F', by rw [← HS.out]; exact hR, fun q hq => ?_⟩, (Mod.of_below (btrans HB1.out hinv)).trans hmod⟩
    rcases hF q hq with h1 | h1
    · exact .inl h1
    · exact .inr (Nat.le_trans (btrans HB1.out hinv).size h1)
end Go.Proofs.Ytjfeeampcgmngaa
