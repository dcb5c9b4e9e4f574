/- calls.Minus: a tally taken from a tally. -/
import Derived.Test.YtjfeeampcgmngaaPut2
import Derived.Test.YtjfeeampcgmngaaLess
namespace Go.Proofs.Ytjfeeampcgmngaa
open Go.RowKit Go.Shelf

def tsub (a b : Tal) : Tal := ⟨a.calls - b.calls, a.errors - b.errors, a.took - b.took, subBars a.bars b.bars⟩
structure TLe (b a : Tal) : Prop where
  calls : b.calls ≤ a.calls
  errors : b.errors ≤ a.errors
  took : b.took ≤ a.took
  bars : Covers a.bars b.bars
theorem tsub_ok {a : Tal} (b : Tal) (h : a.Ok) : (tsub a b).Ok := ⟨Nat.lt_of_le_of_lt (Nat.sub_le _ _) h.calls, Nat.lt_of_le_of_lt (Nat.sub_le _ _) h.errors, Nat.lt_of_le_of_lt (Nat.sub_le _ _) h.took, valid_subBars _ h.bars⟩

def MinusPost (a b : Tal) (w : World) (e : Ending) (w' : World) : Prop :=
  (TLe b a ∧ ∃ v, e = .returned (.tuple #[v, .int .i64 0]) ∧ TalAt w' v (tsub a b).raw ∧ Below w.heap.size w w' ∧ TalFrom w.heap.size v) ∨
  (¬ TLe b a ∧ e = .returned (.tuple #[zeroTal, .int .i64 141]) ∧ Below w.heap.size w w')

structure Boxes3 (w : World) (b0 : Nat) (xs ys zs : List Value) : Prop where
  a : Blk w b0 46 xs
  b : Blk w (b0 + 1) 46 ys
  c : Blk w (b0 + 2) 46 zs
theorem Boxes3.below {w w' : World} {b0 : Nat} {xs ys zs : List Value} (h : Boxes3 w b0 xs ys zs) (hb : Below w.heap.size w w') : Boxes3 w' b0 xs ys zs := ⟨h.a.below hb, h.b.below hb, h.c.below hb⟩

set_option maxRecDepth 100000 in
set_option maxHeartbeats 2000000 in
theorem Minus_any (w : World) (a b : Tal) (va vb : Value) (ha : TalAt w va a.raw) (hb : TalAt w vb b.raw) (hao : a.Ok) (hbo : b.Ok) :
    Calls Try.prog 29 #[va, vb] w (MinusPost a b w) := by
  obtain ⟨A1, n1, c1, rfl, h1, h1', h1''⟩ := ha
  obtain ⟨A2, n2, c2, rfl, h2, h2', h2''⟩ := hb
  unfold Tal.raw at *
  simp only at *
  have HC1 := Lib.hid (show ∀ w', Below w.heap.size w w' → _ from fun w' hb => check_ok w' A1 n1 c1 a.bars h1' (h1.below hb) hao.bars)
  have HC2 := Lib.hid (show ∀ w', Below w.heap.size w w' → _ from fun w' hb => check_ok w' A2 n2 c2 b.bars h2' (h2.below hb) hbo.bars)
  have HM1 := Lib.hid (minus_any a.calls b.calls hao.calls hbo.calls)
  have HM2 := Lib.hid (minus_any a.errors b.errors hao.errors hbo.errors)
  have HM3 := Lib.hid (minus_any a.took b.took hao.took hbo.took)
  have HL := Lib.hid (show ∀ w', Below w.heap.size w w' → _ from fun w' hb => less_any w' A1 n1 c1 a.bars A2 n2 c2 b.bars h1' h2' (h1.below hb) hao.bars (h2.below hb) hbo.bars)
  clear h1 h2 hao hbo
  unfold talVal natVal at *
  obtain ⟨x1, hx1⟩ : ∃ x, x = natHi a.calls := ⟨_, rfl⟩
  obtain ⟨x2, hx2⟩ : ∃ x, x = natLo a.calls := ⟨_, rfl⟩
  obtain ⟨x3, hx3⟩ : ∃ x, x = natHi a.errors := ⟨_, rfl⟩
  obtain ⟨x4, hx4⟩ : ∃ x, x = natLo a.errors := ⟨_, rfl⟩
  obtain ⟨x5, hx5⟩ : ∃ x, x = natHi a.took := ⟨_, rfl⟩
  obtain ⟨x6, hx6⟩ : ∃ x, x = natLo a.took := ⟨_, rfl⟩
  obtain ⟨y1, hy1⟩ : ∃ x, x = natHi b.calls := ⟨_, rfl⟩
  obtain ⟨y2, hy2⟩ : ∃ x, x = natLo b.calls := ⟨_, rfl⟩
  obtain ⟨y3, hy3⟩ : ∃ x, x = natHi b.errors := ⟨_, rfl⟩
  obtain ⟨y4, hy4⟩ : ∃ x, x = natLo b.errors := ⟨_, rfl⟩
  obtain ⟨y5, hy5⟩ : ∃ x, x = natHi b.took := ⟨_, rfl⟩
  obtain ⟨y6, hy6⟩ : ∃ x, x = natLo b.took := ⟨_, rfl⟩
  rw [← hx1, ← hx2, ← hy1, ← hy2] at HM1
  rw [← hx3, ← hx4, ← hy3, ← hy4] at HM2
  rw [← hx5, ← hx6, ← hy5, ← hy6] at HM3
  rw [← hx1, ← hx2, ← hx3, ← hx4, ← hx5, ← hx6, ← hy1, ← hy2, ← hy3, ← hy4, ← hy5, ← hy6]
  clear hx1 hx2 hx3 hx4 hx5 hx6 hy1 hy2 hy3 hy4 hy5 hy6
  obtain ⟨W, hW⟩ : ∃ W, W = ((w.alloc (Obj.cells #[.int .u64 x1, .int .u64 x2, .int .u64 x3, .int .u64 x4, .int .u64 x5, .int .u64 x6, .slice A1 n1 c1] 46)).alloc (Obj.cells #[.int .u64 y1, .int .u64 y2, .int .u64 y3, .int .u64 y4, .int .u64 y5, .int .u64 y6, .slice A2 n2 c2] 46)).alloc (Obj.cells #[.int .u64 0, .int .u64 0, .int .u64 0, .int .u64 0, .int .u64 0, .int .u64 0, .slice none 0 0] 46) := ⟨_, rfl⟩
  have hbW : Below w.heap.size w W := by rw [hW]; exact bal (bal (bal (brefl w) _) _) _
  have kW : Boxes3 W w.heap.size [.int .u64 x1, .int .u64 x2, .int .u64 x3, .int .u64 x4, .int .u64 x5, .int .u64 x6, .slice A1 n1 c1] [.int .u64 y1, .int .u64 y2, .int .u64 y3, .int .u64 y4, .int .u64 y5, .int .u64 y6, .slice A2 n2 c2] [.int .u64 0, .int .u64 0, .int .u64 0, .int .u64 0, .int .u64 0, .int .u64 0, .slice none 0 0] := by
    rw [hW]
    exact ⟨((Blk.new _ _ _).alloc _).alloc _, (Blk.new_ _ _ _ (by simp)).alloc _, Blk.new_ _ _ _ (by simp)⟩
  have HW := Lib.hid hW
  have HBW := Lib.hid hbW
  have HKW := Lib.hid kW
  clear hW hbW kW
  go_enter Try.func29, Try.ntmps29
  go_wp2_with fail
  rw [← HW.out]
  refine (HC1.out _ HBW.out).mono ?_
  rintro e w1 ⟨rfl, hb1⟩
  have HK1 := Lib.hid (HKW.out.below hb1)
  have HB1 := Lib.hid (btrans HBW.out hb1)
  have g1 := HK1.out.b.cell 6 rfl
  clear hb1
  go_wp2_with fail
  refine (HC2.out _ HB1.out).mono ?_
  rintro e w2 ⟨rfl, hb2⟩
  have HK2 := Lib.hid (HK1.out.below hb2)
  have HB2 := Lib.hid (btrans HB1.out hb2)
  clear hb2 g1
  have p0 := HK2.out.a.cell 0 rfl
  have p1 := HK2.out.a.cell 1 rfl
  have q0 := HK2.out.b.cell 0 rfl
  have q1 := HK2.out.b.cell 1 rfl
  go_wp2_with fail
  refine (HM1.out w2).mono ?_
  rintro e w3 ⟨v1, rfl, hv1, ⟨r1, r2, rfl⟩, hb3⟩
  have HK3 := Lib.hid ((HK2.out.below hb3).below (bal (brefl _) (Obj.cells #[.int .u64 r1, .int .u64 r2] 43)))
  have HB3 := Lib.hid (bal (btrans HB2.out hb3) (Obj.cells #[.int .u64 r1, .int .u64 r2] 43))
  have HV1 := Lib.hid hv1
  have HN1 := Lib.hid (Blk.new w3 43 [.int .u64 r1, .int .u64 r2])
  have p2 := HK3.out.a.cell 2 rfl
  have p3 := HK3.out.a.cell 3 rfl
  have q2 := HK3.out.b.cell 2 rfl
  have q3 := HK3.out.b.cell 3 rfl
  clear hb3 hv1 p0 p1 q0 q1
  go_wp2_with fail
  refine (HM2.out _).mono ?_
  rintro e w4 ⟨v2, rfl, hv2, ⟨r3, r4, rfl⟩, hb4⟩
  have HK4 := Lib.hid ((HK3.out.below hb4).below (bal (brefl _) (Obj.cells #[.int .u64 r3, .int .u64 r4] 43)))
  have HB4 := Lib.hid (bal (btrans HB3.out hb4) (Obj.cells #[.int .u64 r3, .int .u64 r4] 43))
  have HV2 := Lib.hid hv2
  have HN14 := Lib.hid ((HN1.out.below hb4).alloc (Obj.cells #[.int .u64 r3, .int .u64 r4] 43))
  have HN2 := Lib.hid (Blk.new w4 43 [.int .u64 r3, .int .u64 r4])
  have p4 := HK4.out.a.cell 4 rfl
  have p5 := HK4.out.a.cell 5 rfl
  have q4 := HK4.out.b.cell 4 rfl
  have q5 := HK4.out.b.cell 5 rfl
  clear hb4 hv2 p2 p3 q2 q3 HN1
  go_wp2_with fail
  refine (HM3.out _).mono ?_
  rintro e w5 ⟨v3, rfl, hv3, ⟨r5, r6, rfl⟩, hb5⟩
  have HK5 := Lib.hid ((HK4.out.below hb5).below (bal (brefl _) (Obj.cells #[.int .u64 r5, .int .u64 r6] 43)))
  have HB5 := Lib.hid (bal (btrans HB4.out hb5) (Obj.cells #[.int .u64 r5, .int .u64 r6] 43))
  have HV3 := Lib.hid hv3
  have HN15 := Lib.hid ((HN14.out.below hb5).alloc (Obj.cells #[.int .u64 r5, .int .u64 r6] 43))
  have HN25 := Lib.hid ((HN2.out.below hb5).alloc (Obj.cells #[.int .u64 r5, .int .u64 r6] 43))
  have HN3 := Lib.hid (Blk.new w5 43 [.int .u64 r5, .int .u64 r6])
  have p6 := HK5.out.a.cell 6 rfl
  have q6 := HK5.out.b.cell 6 rfl
  clear hb5 hv3 p4 p5 q4 q5 HN14 HN2
  go_wp2_with fail
  refine (HL.out _ HB5.out).mono ?_
  intro e w6 hpost
  rcases hpost with ⟨hcov, A, c, rfl, hlen, hbars, hb6, hfr⟩ | ⟨hcov, rfl, hb6⟩
  · have HCOV := Lib.hid hcov
    have HBA := Lib.hid hbars
    have HFR := Lib.hid hfr
    have HB6 := Lib.hid (btrans HB5.out hb6)
    have hk6 := (HK5.out.below hb6).c
    have n1' := HN15.out.below hb6
    have n2' := HN25.out.below hb6
    have n3' := HN3.out.below hb6
    have f0 := n1'.cell 0 rfl
    have f1 := n1'.cell 1 rfl
    have f2 := n2'.cell 0 rfl
    have f3 := n2'.cell 1 rfl
    have f4 := n3'.cell 0 rfl
    have f5 := n3'.cell 1 rfl
    have z0 := hk6.cell 0 rfl
    have z1 := hk6.cell 1 rfl
    have z2 := hk6.cell 2 rfl
    have z3 := hk6.cell 3 rfl
    have z4 := hk6.cell 4 rfl
    have z5 := hk6.cell 5 rfl
    have z6 := hk6.cell 6 rfl
    have u0 := hk6.frozen 0
    have u1 := hk6.frozen 1
    have u2 := hk6.frozen 2
    have u3 := hk6.frozen 3
    have u4 := hk6.frozen 4
    have u5 := hk6.frozen 5
    have u6 := hk6.frozen 6
    have HK6 := Lib.hid hk6
    have HLEN := Lib.hid hlen
    clear hcov hbars hfr hb6 hk6 n1' n2' n3' HN15 HN25 HN3 hlen
    by_cases hle : b.calls ≤ a.calls ∧ b.errors ≤ a.errors ∧ b.took ≤ a.took
    · obtain ⟨l1, l2, l3⟩ := hle
      have e1 := HV1.out l1
      have e2 := HV2.out l2
      have e3 := HV3.out l3
      simp only [Value.agg.injEq, Array.mk.injEq, List.cons.injEq, Value.int.injEq, true_and, and_true] at e1 e2 e3
      obtain ⟨rfl, rfl⟩ := e1
      obtain ⟨rfl, rfl⟩ := e2
      obtain ⟨rfl, rfl⟩ := e3
      have d1 : decide (b.calls ≤ a.calls) = true := by simpa using l1
      have d2 : decide (b.errors ≤ a.errors) = true := by simpa using l2
      have d3 : decide (b.took ≤ a.took) = true := by simpa using l3
      have HLE := Lib.hid (TLe.mk l1 l2 l3 HCOV.out)
      clear l1 l2 l3 HV1 HV2 HV3 HCOV
      go_wp2_with fail
      have kk := ((((((HK6.out.set 0 (.int .u64 (natHi (a.calls - b.calls)))).set 1 (.int .u64 (natLo (a.calls - b.calls)))).set 2 (.int .u64 (natHi (a.errors - b.errors)))).set 3 (.int .u64 (natLo (a.errors - b.errors)))).set 4 (.int .u64 (natHi (a.took - b.took)))).set 5 (.int .u64 (natLo (a.took - b.took)))).set 6 (.slice A (subBars a.bars b.bars).length c)
      have t0 := kk.cell 0 rfl
      have t1 := kk.cell 1 rfl
      have t2 := kk.cell 2 rfl
      have t3 := kk.cell 3 rfl
      have t4 := kk.cell 4 rfl
      have t5 := kk.cell 5 rfl
      have t6 := kk.cell 6 rfl
      have hbt := But.start HK6.out
      have hlt := HK5.out.c.lt
      refine bodyPost_ret (v := .tuple #[talVal (a.calls - b.calls) (a.errors - b.errors) (a.took - b.took) (.slice A (subBars a.bars b.bars).length c), .int .i64 0]) (by simp [results, Try.results29, go_sem, t0, t1, t2, t3, t4, t5, t6, talVal]) rfl (.inl ⟨HLE.out, _, rfl, ⟨A, _, c, rfl, HBA.out.same (((((((hbt.set 0 _).set 1 _).set 2 _).set 3 _).set 4 _).set 5 _).set 6 _) (fun b' off hn ha => ?_), Nat.le_trans (canon_length _ _ _) (by omega), HLEN.out⟩, ?_, ?_⟩)
      · have := HFR.out _ ha
        simp only at this
        omega
      · exact bset (bset (bset (bset (bset (bset (bset HB6.out (by simp; omega) _) (by simp; omega) _) (by simp; omega) _) (by simp; omega) _) (by simp; omega) _) (by simp; omega) _) (by simp; omega) _
      · exact TalFrom.mk fun q hq => Nat.le_trans HB5.out.size (HFR.out q hq)
    · have HNO := Lib.hid (show ¬ TLe b a from fun h => hle ⟨h.calls, h.errors, h.took⟩)
      by_cases l1 : b.calls ≤ a.calls
      · have d1 : decide (b.calls ≤ a.calls) = true := by simpa using l1
        by_cases l2 : b.errors ≤ a.errors
        · have d2 : decide (b.errors ≤ a.errors) = true := by simpa using l2
          have d3 : decide (b.took ≤ a.took) = false := by simp; omega
          clear hle l1 l2 HV1 HV2 HV3 HCOV
          go_wp2_with fail
          have kk := ((((((HK6.out.set 0 (.int .u64 0)).set 1 (.int .u64 0)).set 2 (.int .u64 0)).set 3 (.int .u64 0)).set 4 (.int .u64 0)).set 5 (.int .u64 0)).set 6 (.slice none 0 0)
          have t0 := kk.cell 0 rfl
          have t1 := kk.cell 1 rfl
          have t2 := kk.cell 2 rfl
          have t3 := kk.cell 3 rfl
          have t4 := kk.cell 4 rfl
          have t5 := kk.cell 5 rfl
          have t6 := kk.cell 6 rfl
          refine bodyPost_ret (v := .tuple #[zeroTal, .int .i64 141]) (by simp [results, Try.results29, go_sem, t0, t1, t2, t3, t4, t5, t6, zeroTal]) rfl (.inr ⟨HNO.out, rfl, ?_⟩)
          exact bset (bset (bset (bset (bset (bset (bset HB6.out (by simp; omega) _) (by simp; omega) _) (by simp; omega) _) (by simp; omega) _) (by simp; omega) _) (by simp; omega) _) (by simp; omega) _
        · have d2 : decide (b.errors ≤ a.errors) = false := by simpa using l2
          clear hle l1 l2 HV1 HV2 HV3 HCOV
          generalize decide (b.took ≤ a.took) = bb3
          go_wp2_with fail
          have kk := ((((((HK6.out.set 0 (.int .u64 0)).set 1 (.int .u64 0)).set 2 (.int .u64 0)).set 3 (.int .u64 0)).set 4 (.int .u64 0)).set 5 (.int .u64 0)).set 6 (.slice none 0 0)
          have t0 := kk.cell 0 rfl
          have t1 := kk.cell 1 rfl
          have t2 := kk.cell 2 rfl
          have t3 := kk.cell 3 rfl
          have t4 := kk.cell 4 rfl
          have t5 := kk.cell 5 rfl
          have t6 := kk.cell 6 rfl
          refine bodyPost_ret (v := .tuple #[zeroTal, .int .i64 141]) (by simp [results, Try.results29, go_sem, t0, t1, t2, t3, t4, t5, t6, zeroTal]) rfl (.inr ⟨HNO.out, rfl, ?_⟩)
          exact bset (bset (bset (bset (bset (bset (bset HB6.out (by simp; omega) _) (by simp; omega) _) (by simp; omega) _) (by simp; omega) _) (by simp; omega) _) (by simp; omega) _) (by simp; omega) _
      · have d1 : decide (b.calls ≤ a.calls) = false := by simpa using l1
        clear hle l1 HV1 HV2 HV3 HCOV
        generalize decide (b.took ≤ a.took) = bb3
        generalize decide (b.errors ≤ a.errors) = bb2
        go_wp2_with fail
        have kk := ((((((HK6.out.set 0 (.int .u64 0)).set 1 (.int .u64 0)).set 2 (.int .u64 0)).set 3 (.int .u64 0)).set 4 (.int .u64 0)).set 5 (.int .u64 0)).set 6 (.slice none 0 0)
        have t0 := kk.cell 0 rfl
        have t1 := kk.cell 1 rfl
        have t2 := kk.cell 2 rfl
        have t3 := kk.cell 3 rfl
        have t4 := kk.cell 4 rfl
        have t5 := kk.cell 5 rfl
        have t6 := kk.cell 6 rfl
        refine bodyPost_ret (v := .tuple #[zeroTal, .int .i64 141]) (by simp [results, Try.results29, go_sem, t0, t1, t2, t3, t4, t5, t6, zeroTal]) rfl (.inr ⟨HNO.out, rfl, ?_⟩)
        exact bset (bset (bset (bset (bset (bset (bset HB6.out (by simp; omega) _) (by simp; omega) _) (by simp; omega) _) (by simp; omega) _) (by simp; omega) _) (by simp; omega) _) (by simp; omega) _
  · have HNO := Lib.hid (show ¬ TLe b a from fun h => hcov h.bars)
    have HB6 := Lib.hid (btrans HB5.out hb6)
    have hk6 := (HK5.out.below hb6).c
    have z0 := hk6.cell 0 rfl
    have z1 := hk6.cell 1 rfl
    have z2 := hk6.cell 2 rfl
    have z3 := hk6.cell 3 rfl
    have z4 := hk6.cell 4 rfl
    have z5 := hk6.cell 5 rfl
    have z6 := hk6.cell 6 rfl
    have u0 := hk6.frozen 0
    have u1 := hk6.frozen 1
    have u2 := hk6.frozen 2
    have u3 := hk6.frozen 3
    have u4 := hk6.frozen 4
    have u5 := hk6.frozen 5
    have u6 := hk6.frozen 6
    have HK6 := Lib.hid hk6
    clear hcov hb6 hk6 HN15 HN25 HN3 HV1 HV2 HV3
    by_cases l1 : b.calls ≤ a.calls
    · have d1 : decide (b.calls ≤ a.calls) = true := by simpa using l1
      by_cases l2 : b.errors ≤ a.errors
      · have d2 : decide (b.errors ≤ a.errors) = true := by simpa using l2
        by_cases l3 : b.took ≤ a.took
        · have d3 : decide (b.took ≤ a.took) = true := by simpa using l3
          clear l1 l2 l3
          go_wp2_with fail
          have kk := ((((((HK6.out.set 0 (.int .u64 0)).set 1 (.int .u64 0)).set 2 (.int .u64 0)).set 3 (.int .u64 0)).set 4 (.int .u64 0)).set 5 (.int .u64 0)).set 6 (.slice none 0 0)
          have t0 := kk.cell 0 rfl
          have t1 := kk.cell 1 rfl
          have t2 := kk.cell 2 rfl
          have t3 := kk.cell 3 rfl
          have t4 := kk.cell 4 rfl
          have t5 := kk.cell 5 rfl
          have t6 := kk.cell 6 rfl
          refine bodyPost_ret (v := .tuple #[zeroTal, .int .i64 141]) (by simp [results, Try.results29, go_sem, t0, t1, t2, t3, t4, t5, t6, zeroTal]) rfl (.inr ⟨HNO.out, rfl, ?_⟩)
          exact bset (bset (bset (bset (bset (bset (bset HB6.out (by simp; omega) _) (by simp; omega) _) (by simp; omega) _) (by simp; omega) _) (by simp; omega) _) (by simp; omega) _) (by simp; omega) _
        · have d3 : decide (b.took ≤ a.took) = false := by simpa using l3
          clear l1 l2 l3
          go_wp2_with fail
          have kk := ((((((HK6.out.set 0 (.int .u64 0)).set 1 (.int .u64 0)).set 2 (.int .u64 0)).set 3 (.int .u64 0)).set 4 (.int .u64 0)).set 5 (.int .u64 0)).set 6 (.slice none 0 0)
          have t0 := kk.cell 0 rfl
          have t1 := kk.cell 1 rfl
          have t2 := kk.cell 2 rfl
          have t3 := kk.cell 3 rfl
          have t4 := kk.cell 4 rfl
          have t5 := kk.cell 5 rfl
          have t6 := kk.cell 6 rfl
          refine bodyPost_ret (v := .tuple #[zeroTal, .int .i64 141]) (by simp [results, Try.results29, go_sem, t0, t1, t2, t3, t4, t5, t6, zeroTal]) rfl (.inr ⟨HNO.out, rfl, ?_⟩)
          exact bset (bset (bset (bset (bset (bset (bset HB6.out (by simp; omega) _) (by simp; omega) _) (by simp; omega) _) (by simp; omega) _) (by simp; omega) _) (by simp; omega) _) (by simp; omega) _
      · have d2 : decide (b.errors ≤ a.errors) = false := by simpa using l2
        clear l1 l2
        generalize decide (b.took ≤ a.took) = bb3
        go_wp2_with fail
        have kk := ((((((HK6.out.set 0 (.int .u64 0)).set 1 (.int .u64 0)).set 2 (.int .u64 0)).set 3 (.int .u64 0)).set 4 (.int .u64 0)).set 5 (.int .u64 0)).set 6 (.slice none 0 0)
        have t0 := kk.cell 0 rfl
        have t1 := kk.cell 1 rfl
        have t2 := kk.cell 2 rfl
        have t3 := kk.cell 3 rfl
        have t4 := kk.cell 4 rfl
        have t5 := kk.cell 5 rfl
        have t6 := kk.cell 6 rfl
        refine bodyPost_ret (v := .tuple #[zeroTal, .int .i64 141]) (by simp [results, Try.results29, go_sem, t0, t1, t2, t3, t4, t5, t6, zeroTal]) rfl (.inr ⟨HNO.out, rfl, ?_⟩)
        exact bset (bset (bset (bset (bset (bset (bset HB6.out (by simp; omega) _) (by simp; omega) _) (by simp; omega) _) (by simp; omega) _) (by simp; omega) _) (by simp; omega) _) (by simp; omega) _
    · have d1 : decide (b.calls ≤ a.calls) = false := by simpa using l1
      clear l1
      generalize decide (b.took ≤ a.took) = bb3
      generalize decide (b.errors ≤ a.errors) = bb2
      go_wp2_with fail
      have kk := ((((((HK6.out.set 0 (.int .u64 0)).set 1 (.int .u64 0)).set 2 (.int .u64 0)).set 3 (.int .u64 0)).set 4 (.int .u64 0)).set 5 (.int .u64 0)).set 6 (.slice none 0 0)
      have t0 := kk.cell 0 rfl
      have t1 := kk.cell 1 rfl
      have t2 := kk.cell 2 rfl
      have t3 := kk.cell 3 rfl
      have t4 := kk.cell 4 rfl
      have t5 := kk.cell 5 rfl
      have t6 := kk.cell 6 rfl
      refine bodyPost_ret (v := .tuple #[zeroTal, .int .i64 141]) (by simp [results, Try.results29, go_sem, t0, t1, t2, t3, t4, t5, t6, zeroTal]) rfl (.inr ⟨HNO.out, rfl, ?_⟩)
      exact bset (bset (bset (bset (bset (bset (bset HB6.out (by simp; omega) _) (by simp; omega) _) (by simp; omega) _) (by simp; omega) _) (by simp; omega) _) (by simp; omega) _) (by simp; omega) _

set_option maxRecDepth 100000 in
set_option maxHeartbeats 2000000 in
theorem Minus_bad (w : World) (a : Tal) (b : RTal) (va vb : Value) (ha : TalAt w va a.raw) (hb : TalAt w vb b) (hao : a.Ok) (hbv : rvalid (-1) b.bars = false) :
    Calls Try.prog 29 #[va, vb] w fun e w' => e = .returned (.tuple #[zeroTal, .int .i64 131]) ∧ Below w.heap.size w w' := by
  obtain ⟨A1, n1, c1, rfl, h1, h1', h1''⟩ := ha
  obtain ⟨A2, n2, c2, rfl, h2, h2', h2''⟩ := hb
  unfold Tal.raw at *
  simp only at *
  have HC1 := Lib.hid (show ∀ w', Below w.heap.size w w' → _ from fun w' hb => check_ok w' A1 n1 c1 a.bars h1' (h1.below hb) hao.bars)
  have HC2 := Lib.hid (show ∀ w', Below w.heap.size w w' → _ from fun w' hb => check_bad w' A2 n2 c2 b.bars h2' (h2.below hb) hbv)
  clear h1 h2 hao hbv
  unfold talVal
  generalize natHi a.calls = x1
  generalize natLo a.calls = x2
  generalize natHi a.errors = x3
  generalize natLo a.errors = x4
  generalize natHi a.took = x5
  generalize natLo a.took = x6
  generalize natHi b.calls = y1
  generalize natLo b.calls = y2
  generalize natHi b.errors = y3
  generalize natLo b.errors = y4
  generalize natHi b.took = y5
  generalize natLo b.took = y6
  obtain ⟨W, hW⟩ : ∃ W, W = ((w.alloc (Obj.cells #[.int .u64 x1, .int .u64 x2, .int .u64 x3, .int .u64 x4, .int .u64 x5, .int .u64 x6, .slice A1 n1 c1] 46)).alloc (Obj.cells #[.int .u64 y1, .int .u64 y2, .int .u64 y3, .int .u64 y4, .int .u64 y5, .int .u64 y6, .slice A2 n2 c2] 46)).alloc (Obj.cells #[.int .u64 0, .int .u64 0, .int .u64 0, .int .u64 0, .int .u64 0, .int .u64 0, .slice none 0 0] 46) := ⟨_, rfl⟩
  have hbW : Below w.heap.size w W := by rw [hW]; exact bal (bal (bal (brefl w) _) _) _
  have kW : Boxes3 W w.heap.size [.int .u64 x1, .int .u64 x2, .int .u64 x3, .int .u64 x4, .int .u64 x5, .int .u64 x6, .slice A1 n1 c1] [.int .u64 y1, .int .u64 y2, .int .u64 y3, .int .u64 y4, .int .u64 y5, .int .u64 y6, .slice A2 n2 c2] [.int .u64 0, .int .u64 0, .int .u64 0, .int .u64 0, .int .u64 0, .int .u64 0, .slice none 0 0] := by
    rw [hW]
    exact ⟨((Blk.new _ _ _).alloc _).alloc _, (Blk.new_ _ _ _ (by simp)).alloc _, Blk.new_ _ _ _ (by simp)⟩
  have HW := Lib.hid hW
  have HBW := Lib.hid hbW
  have HKW := Lib.hid kW
  clear hW hbW kW
  go_enter Try.func29, Try.ntmps29
  go_wp2_with fail
  rw [← HW.out]
  refine (HC1.out _ HBW.out).mono ?_
  rintro e w1 ⟨rfl, hb1⟩
  have HK1 := Lib.hid (HKW.out.below hb1)
  have HB1 := Lib.hid (btrans HBW.out hb1)
  have g1 := HK1.out.b.cell 6 rfl
  clear hb1
  go_wp2_with fail
  refine (HC2.out _ HB1.out).mono ?_
  rintro e w6 ⟨rfl, hb2⟩
  have hk6 := (HK1.out.below hb2).c
  have HB6 := Lib.hid (btrans HB1.out hb2)
  clear hb2 g1
  have z0 := hk6.cell 0 rfl
  have z1 := hk6.cell 1 rfl
  have z2 := hk6.cell 2 rfl
  have z3 := hk6.cell 3 rfl
  have z4 := hk6.cell 4 rfl
  have z5 := hk6.cell 5 rfl
  have z6 := hk6.cell 6 rfl
  have u0 := hk6.frozen 0
  have u1 := hk6.frozen 1
  have u2 := hk6.frozen 2
  have u3 := hk6.frozen 3
  have u4 := hk6.frozen 4
  have u5 := hk6.frozen 5
  have u6 := hk6.frozen 6
  have HK6 := Lib.hid hk6
  clear hk6
  go_wp2_with fail
  have kk := ((((((HK6.out.set 0 (.int .u64 0)).set 1 (.int .u64 0)).set 2 (.int .u64 0)).set 3 (.int .u64 0)).set 4 (.int .u64 0)).set 5 (.int .u64 0)).set 6 (.slice none 0 0)
  have t0 := kk.cell 0 rfl
  have t1 := kk.cell 1 rfl
  have t2 := kk.cell 2 rfl
  have t3 := kk.cell 3 rfl
  have t4 := kk.cell 4 rfl
  have t5 := kk.cell 5 rfl
  have t6 := kk.cell 6 rfl
  refine bodyPost_ret (v := .tuple #[zeroTal, .int .i64 131]) (by simp [results, Try.results29, go_sem, t0, t1, t2, t3, t4, t5, t6, zeroTal]) rfl ⟨rfl, ?_⟩
  exact bset (bset (bset (bset (bset (bset (bset HB6.out (by simp; omega) _) (by simp; omega) _) (by simp; omega) _) (by simp; omega) _) (by simp; omega) _) (by simp; omega) _) (by simp; omega) _
end Go.Proofs.Ytjfeeampcgmngaa
