/- calls.Plus: two tallies put together. -/
import Derived.Test.YtjfeeampcgmngaaSk3
import Derived.Test.YtjfeeampcgmngaaReg
namespace Go.Proofs.Ytjfeeampcgmngaa
open Go.RowKit Go.Shelf

/-- A tally's value. -/
def talVal (c e t : Nat) (sl : Value) : Value := .agg #[.int .u64 (natHi c), .int .u64 (natLo c), .int .u64 (natHi e), .int .u64 (natLo e), .int .u64 (natHi t), .int .u64 (natLo t), sl]
/-- A tally whose bars are raw. -/
structure RTal where
  calls : Nat
  errors : Nat
  took : Nat
  bars : List RBar
/-- A value reads as a tally. -/
def TalAt (w : World) (v : Value) (t : RTal) : Prop := ∃ A n c, v = talVal t.calls t.errors t.took (.slice A n c) ∧ BarsAt w A n t.bars ∧ n ≤ 140737488351232 ∧ n ≤ c
def Tal.raw (t : Tal) : RTal := ⟨t.calls, t.errors, t.took, rawBars t.bars⟩
structure RTal.Num (t : RTal) : Prop where
  calls : t.calls < M128
  errors : t.errors < M128
  took : t.took < M128
  bars : RawOk t.bars
theorem TalAt.below {w w' : World} {v : Value} {t : RTal} (h : TalAt w v t) (hb : Below w.heap.size w w') : TalAt w' v t := by
  obtain ⟨A, n, c, rfl, h1, h2⟩ := h
  exact ⟨A, n, c, rfl, h1.below hb, h2⟩

theorem list7 {l : List Value} (h : l.length = 7) : ∃ a b c d e f g, l = [a, b, c, d, e, f, g] := by
  match l, h with
  | [a, b, c, d, e, f, g], _ => exact ⟨a, b, c, d, e, f, g, rfl⟩

/-- Bars do not lie in a fresh tally's own row. -/
theorem bars_apart {w : World} {A : Option Addr} {n g : Nat} {l : List RBar} (h : BarsAt w A n l) (hk : Blk w g 46 [.int .u64 0, .int .u64 0, .int .u64 0, .int .u64 0, .int .u64 0, .int .u64 0, .slice none 0 0]) : ∀ b off, 0 < n → A = some ⟨b, off, none⟩ → b ≠ g := by
  rintro b off hn rfl rfl
  obtain ⟨b', off', e, hc⟩ := h.2 hn
  cases e
  have hl : 0 < l.length := by rw [← h.1]; exact hn
  obtain ⟨⟨j, c⟩, hp⟩ : ∃ p, l[0]? = some p := ⟨l[0], List.getElem?_eq_getElem hl⟩
  have h1 := (hc 0 j c hp).1
  unfold Blk at hk
  simp only [World.cell?, hk] at h1
  match off with
  | 0 | 1 | 2 | 3 | 4 | 5 | 6 => simp at h1
  | _ + 7 => simp at h1

/-- The bars' block of a tally, if it has one, is not older. -/
def TalFrom (base : Nat) (v : Value) : Prop := ∀ c e t a n k, v = talVal c e t (.slice (some a) n k) → base ≤ a.block
theorem TalFrom.mk {base : Nat} {c e t n k : Nat} {A : Option Addr} (h : ∀ a, A = some a → base ≤ a.block) : TalFrom base (talVal c e t (.slice A n k)) := by
  intro c' e' t' a n' k' hv
  unfold talVal at hv
  simp at hv
  exact h a hv.2.2.2.2.2.2.1

set_option maxRecDepth 100000 in
set_option maxHeartbeats 6000000 in
theorem Plus_ok (w : World) (a b : Tal) (va vb : Value) (ha : TalAt w va a.raw) (hb : TalAt w vb b.raw) (hao : a.Ok) (hbo : b.Ok) :
    Calls Try.prog 26 #[va, vb] w fun e w' => ∃ v, e = .returned (.tuple #[v, .int .i64 0]) ∧ TalAt w' v (tadd a b).raw ∧ Below w.heap.size w w' ∧ TalFrom w.heap.size v := by
  obtain ⟨A1, n1, c1, rfl, ha1, ha2, _⟩ := ha
  obtain ⟨A2, n2, c2, rfl, hb1, hb2, _⟩ := hb
  have hm : ∀ w', Below w.heap.size w w' → _ := fun w' h => merge_ok w' A1 n1 c1 a.bars A2 n2 c2 b.bars ha2 hb2 (ha1.below h) hao.bars (hb1.below h) hbo.bars
  have p1 := fun w' => plus_any _ _ hao.calls hbo.calls w'
  have p2 := fun w' => plus_any _ _ hao.errors hbo.errors w'
  have p3 := fun w' => plus_any _ _ hao.took hbo.took w'
  unfold natVal at p1 p2 p3
  have HP := Lib.hid (And.intro p1 (And.intro p2 p3))
  clear p1 p2 p3 ha1 hb1 hao hbo
  have e1 : a.raw.calls = a.calls ∧ a.raw.errors = a.errors ∧ a.raw.took = a.took := ⟨rfl, rfl, rfl⟩
  have e2 : b.raw.calls = b.calls ∧ b.raw.errors = b.errors ∧ b.raw.took = b.took := ⟨rfl, rfl, rfl⟩
  rw [e1.1, e1.2.1, e1.2.2, e2.1, e2.2.1, e2.2.2]
  clear e1 e2
  unfold talVal
  generalize natHi a.calls = x1 at *
  generalize natLo a.calls = x2 at *
  generalize natHi a.errors = x3 at *
  generalize natLo a.errors = x4 at *
  generalize natHi a.took = x5 at *
  generalize natLo a.took = x6 at *
  generalize natHi b.calls = y1 at *
  generalize natLo b.calls = y2 at *
  generalize natHi b.errors = y3 at *
  generalize natLo b.errors = y4 at *
  generalize natHi b.took = y5 at *
  generalize natLo b.took = y6 at *
  go_enter Try.func26, Try.ntmps26
  go_wp2_with fail
  refine (hm _ (bal (bal (bal (brefl _) _) _) _)).mono ?_
  rintro e w1 ⟨A, c, rfl, hc, hba, hb1, hfr⟩
  have HFR := Lib.hid (fun a (ha : A = some a) => Nat.le_trans (bal (bal (bal (brefl w) _) _) _).size (hfr a ha))
  clear hfr
  clear hm
  have HB := Lib.hid hb1
  have HBA := Lib.hid hba
  clear hb1 hba
  have hk0 : Blk w1 w.heap.size 46 [(.int .u64 x1), (.int .u64 x2), (.int .u64 x3), (.int .u64 x4), (.int .u64 x5), (.int .u64 x6), (.slice A1 n1 c1)] := Blk.below (by first | exact ((Blk.new _ _ _).alloc _).alloc _ | exact (Blk.new_ _ _ _ (by simp)).alloc _ | exact Blk.new_ _ _ _ (by simp)) HB.out
  have hk1 : Blk w1 (w.heap.size + 1) 46 [(.int .u64 y1), (.int .u64 y2), (.int .u64 y3), (.int .u64 y4), (.int .u64 y5), (.int .u64 y6), (.slice A2 n2 c2)] := Blk.below (by first | exact ((Blk.new _ _ _).alloc _).alloc _ | exact (Blk.new_ _ _ _ (by simp)).alloc _ | exact Blk.new_ _ _ _ (by simp)) HB.out
  have hk2 : Blk w1 (w.heap.size + 1 + 1) 46 [(.int .u64 0), (.int .u64 0), (.int .u64 0), (.int .u64 0), (.int .u64 0), (.int .u64 0), (.slice none 0 0)] := Blk.below (by first | exact ((Blk.new _ _ _).alloc _).alloc _ | exact (Blk.new_ _ _ _ (by simp)).alloc _ | exact Blk.new_ _ _ _ (by simp)) HB.out
  have hst := But.start hk2
  have hs1 : w.heap.size + 1 + 1 < w1.heap.size := hk2.lt
  go_wp2_with fail
  refine wp_region_fill (by kernel_rfl) (by kernel_rfl) [some 20, some 21, some 22, some 23, some 24, some 25, some 26, some 27, some 28, some 29, some 30, some 31, some 32, some 33, some 34, some 35, some 36, none, some 5] (by kernel_rfl) (fun j v w' => match j with | 0 => v = (.pointer (some ⟨w.heap.size, 0, none⟩)) | 1 => v = (.agg #[.int .u64 x1, .int .u64 x2]) | 2 => v = (.pointer (some ⟨(w.heap.size + 1), 0, none⟩)) | 3 => v = (.agg #[.int .u64 y1, .int .u64 y2]) | 4 => v = (.agg #[.int .u64 (natHi (satAdd M128 a.calls b.calls)), .int .u64 (natLo (satAdd M128 a.calls b.calls))]) | 5 => v = (.pointer (some ⟨w.heap.size, 2, none⟩)) | 6 => v = (.agg #[.int .u64 x3, .int .u64 x4]) | 7 => v = (.pointer (some ⟨(w.heap.size + 1), 2, none⟩)) | 8 => v = (.agg #[.int .u64 y3, .int .u64 y4]) | 9 => v = (.agg #[.int .u64 (natHi (satAdd M128 a.errors b.errors)), .int .u64 (natLo (satAdd M128 a.errors b.errors))]) | 10 => v = (.pointer (some ⟨w.heap.size, 4, none⟩)) | 11 => v = (.agg #[.int .u64 x5, .int .u64 x6]) | 12 => v = (.pointer (some ⟨(w.heap.size + 1), 4, none⟩)) | 13 => v = (.agg #[.int .u64 y5, .int .u64 y6]) | 14 => v = (.agg #[.int .u64 (natHi (satAdd M128 a.took b.took)), .int .u64 (natLo (satAdd M128 a.took b.took))]) | 15 => v = (.slice A (addBars a.bars b.bars).length c) | 16 => v = (.agg #[.int .u64 (natHi (satAdd M128 a.calls b.calls)), .int .u64 (natLo (satAdd M128 a.calls b.calls)), .int .u64 (natHi (satAdd M128 a.errors b.errors)), .int .u64 (natLo (satAdd M128 a.errors b.errors)), .int .u64 (natHi (satAdd M128 a.took b.took)), .int .u64 (natLo (satAdd M128 a.took b.took)), .slice A (addBars a.bars b.bars).length c]) | 17 => Blk w' (w.heap.size + 1 + 1) 46 [.int .u64 (natHi (satAdd M128 a.calls b.calls)), .int .u64 (natLo (satAdd M128 a.calls b.calls)), .int .u64 (natHi (satAdd M128 a.errors b.errors)), .int .u64 (natLo (satAdd M128 a.errors b.errors)), .int .u64 (natHi (satAdd M128 a.took b.took)), .int .u64 (natLo (satAdd M128 a.took b.took)), .slice A (addBars a.bars b.bars).length c] | 18 => v = (.int .i64 0) | _ => True) (fun w' => But w1 (w.heap.size + 1 + 1) 46 7 w') (hst.drew) ?step ?fin
  case step =>
    intro i hi u w' hu hinv
    rcases i with _ | _ | _ | _ | _ | _ | _ | _ | _ | _ | _ | _ | _ | _ | _ | _ | _ | _ | _ | i
    · -- 0
      clear hu
      refine wpOp_go rfl rfl fun K hK => ?_
      simp only [fillL, Act.put, List.setIfInBounds_toArray, List.set_cons_succ, List.set_cons_zero, Nat.zero_add, Nat.reduceAdd]
      go_wp2_with (fail)
      refine RegPost.mk (.pointer (some ⟨w.heap.size, 0, none⟩)) ?_ (rfl) (hinv) (fun _ _ h => h)
      simp [fillL, Act.put, setAt]
    · -- 1
      have e0 : u 0 = (.pointer (some ⟨w.heap.size, 0, none⟩)) := hu 0 (by kernel_rfl)
      clear hu
      have g1 := hinv.cell (by omega) (hk0.cell 0 rfl)
      have g2 := hinv.cell (by omega) (hk0.cell 1 rfl)
      refine wpOp_go rfl rfl fun K hK => ?_
      simp only [fillL, Act.put, List.setIfInBounds_toArray, List.set_cons_succ, List.set_cons_zero, Nat.zero_add, Nat.reduceAdd]
      go_wp2_with (fail)
      refine RegPost.mk (.agg #[.int .u64 x1, .int .u64 x2]) ?_ (rfl) (hinv) (fun _ _ h => h)
      simp [fillL, Act.put, setAt, e0]
    · -- 2
      clear hu
      refine wpOp_go rfl rfl fun K hK => ?_
      simp only [fillL, Act.put, List.setIfInBounds_toArray, List.set_cons_succ, List.set_cons_zero, Nat.zero_add, Nat.reduceAdd]
      go_wp2_with (fail)
      refine RegPost.mk (.pointer (some ⟨(w.heap.size + 1), 0, none⟩)) ?_ (rfl) (hinv) (fun _ _ h => h)
      simp [fillL, Act.put, setAt]
    · -- 3
      have e2 : u 2 = (.pointer (some ⟨(w.heap.size + 1), 0, none⟩)) := hu 2 (by kernel_rfl)
      clear hu
      have g1 := hinv.cell (by omega) (hk1.cell 0 rfl)
      have g2 := hinv.cell (by omega) (hk1.cell 1 rfl)
      refine wpOp_go rfl rfl fun K hK => ?_
      simp only [fillL, Act.put, List.setIfInBounds_toArray, List.set_cons_succ, List.set_cons_zero, Nat.zero_add, Nat.reduceAdd]
      go_wp2_with (fail)
      refine RegPost.mk (.agg #[.int .u64 y1, .int .u64 y2]) ?_ (rfl) (hinv) (fun _ _ h => h)
      simp [fillL, Act.put, setAt, e2]
    · -- 4
      have e0 : u 0 = (.pointer (some ⟨w.heap.size, 0, none⟩)) := hu 0 (by kernel_rfl)
      have e1 : u 1 = (.agg #[.int .u64 x1, .int .u64 x2]) := hu 1 (by kernel_rfl)
      have e2 : u 2 = (.pointer (some ⟨(w.heap.size + 1), 0, none⟩)) := hu 2 (by kernel_rfl)
      have e3 : u 3 = (.agg #[.int .u64 y1, .int .u64 y2]) := hu 3 (by kernel_rfl)
      clear hu
      refine wpOp_go rfl rfl fun K hK => ?_
      simp only [fillL, Act.put, List.setIfInBounds_toArray, List.set_cons_succ, List.set_cons_zero, Nat.zero_add, Nat.reduceAdd]
      go_wp2_with (go_at_call 36; refine (HP.out.1 _).mono ?_; rintro e w'' ⟨rfl, hb⟩)
      refine RegPost.mk (.agg #[.int .u64 (natHi (satAdd M128 a.calls b.calls)), .int .u64 (natLo (satAdd M128 a.calls b.calls))]) ?_ (rfl) (hinv.below hb) (fun j x h => match j, h with | 0, h => h | 1, h => h | 2, h => h | 3, h => h | 4, h => h | 5, h => h | 6, h => h | 7, h => h | 8, h => h | 9, h => h | 10, h => h | 11, h => h | 12, h => h | 13, h => h | 14, h => h | 15, h => h | 16, h => h | 17, h => Blk.below h hb | 18, h => h | _ + 19, h => h)
      simp [fillL, Act.put, setAt, e0, e1, e2, e3]
    · -- 5
      clear hu
      refine wpOp_go rfl rfl fun K hK => ?_
      simp only [fillL, Act.put, List.setIfInBounds_toArray, List.set_cons_succ, List.set_cons_zero, Nat.zero_add, Nat.reduceAdd]
      go_wp2_with (fail)
      refine RegPost.mk (.pointer (some ⟨w.heap.size, 2, none⟩)) ?_ (rfl) (hinv) (fun _ _ h => h)
      simp [fillL, Act.put, setAt]
    · -- 6
      have e5 : u 5 = (.pointer (some ⟨w.heap.size, 2, none⟩)) := hu 5 (by kernel_rfl)
      clear hu
      have g1 := hinv.cell (by omega) (hk0.cell 2 rfl)
      have g2 := hinv.cell (by omega) (hk0.cell 3 rfl)
      refine wpOp_go rfl rfl fun K hK => ?_
      simp only [fillL, Act.put, List.setIfInBounds_toArray, List.set_cons_succ, List.set_cons_zero, Nat.zero_add, Nat.reduceAdd]
      go_wp2_with (fail)
      refine RegPost.mk (.agg #[.int .u64 x3, .int .u64 x4]) ?_ (rfl) (hinv) (fun _ _ h => h)
      simp [fillL, Act.put, setAt, e5]
    · -- 7
      clear hu
      refine wpOp_go rfl rfl fun K hK => ?_
      simp only [fillL, Act.put, List.setIfInBounds_toArray, List.set_cons_succ, List.set_cons_zero, Nat.zero_add, Nat.reduceAdd]
      go_wp2_with (fail)
      refine RegPost.mk (.pointer (some ⟨(w.heap.size + 1), 2, none⟩)) ?_ (rfl) (hinv) (fun _ _ h => h)
      simp [fillL, Act.put, setAt]
    · -- 8
      have e7 : u 7 = (.pointer (some ⟨(w.heap.size + 1), 2, none⟩)) := hu 7 (by kernel_rfl)
      clear hu
      have g1 := hinv.cell (by omega) (hk1.cell 2 rfl)
      have g2 := hinv.cell (by omega) (hk1.cell 3 rfl)
      refine wpOp_go rfl rfl fun K hK => ?_
      simp only [fillL, Act.put, List.setIfInBounds_toArray, List.set_cons_succ, List.set_cons_zero, Nat.zero_add, Nat.reduceAdd]
      go_wp2_with (fail)
      refine RegPost.mk (.agg #[.int .u64 y3, .int .u64 y4]) ?_ (rfl) (hinv) (fun _ _ h => h)
      simp [fillL, Act.put, setAt, e7]
    · -- 9
      have e5 : u 5 = (.pointer (some ⟨w.heap.size, 2, none⟩)) := hu 5 (by kernel_rfl)
      have e6 : u 6 = (.agg #[.int .u64 x3, .int .u64 x4]) := hu 6 (by kernel_rfl)
      have e7 : u 7 = (.pointer (some ⟨(w.heap.size + 1), 2, none⟩)) := hu 7 (by kernel_rfl)
      have e8 : u 8 = (.agg #[.int .u64 y3, .int .u64 y4]) := hu 8 (by kernel_rfl)
      clear hu
      refine wpOp_go rfl rfl fun K hK => ?_
      simp only [fillL, Act.put, List.setIfInBounds_toArray, List.set_cons_succ, List.set_cons_zero, Nat.zero_add, Nat.reduceAdd]
      go_wp2_with (go_at_call 36; refine (HP.out.2.1 _).mono ?_; rintro e w'' ⟨rfl, hb⟩)
      refine RegPost.mk (.agg #[.int .u64 (natHi (satAdd M128 a.errors b.errors)), .int .u64 (natLo (satAdd M128 a.errors b.errors))]) ?_ (rfl) (hinv.below hb) (fun j x h => match j, h with | 0, h => h | 1, h => h | 2, h => h | 3, h => h | 4, h => h | 5, h => h | 6, h => h | 7, h => h | 8, h => h | 9, h => h | 10, h => h | 11, h => h | 12, h => h | 13, h => h | 14, h => h | 15, h => h | 16, h => h | 17, h => Blk.below h hb | 18, h => h | _ + 19, h => h)
      simp [fillL, Act.put, setAt, e5, e6, e7, e8]
    · -- 10
      clear hu
      refine wpOp_go rfl rfl fun K hK => ?_
      simp only [fillL, Act.put, List.setIfInBounds_toArray, List.set_cons_succ, List.set_cons_zero, Nat.zero_add, Nat.reduceAdd]
      go_wp2_with (fail)
      refine RegPost.mk (.pointer (some ⟨w.heap.size, 4, none⟩)) ?_ (rfl) (hinv) (fun _ _ h => h)
      simp [fillL, Act.put, setAt]
    · -- 11
      have e10 : u 10 = (.pointer (some ⟨w.heap.size, 4, none⟩)) := hu 10 (by kernel_rfl)
      clear hu
      have g1 := hinv.cell (by omega) (hk0.cell 4 rfl)
      have g2 := hinv.cell (by omega) (hk0.cell 5 rfl)
      refine wpOp_go rfl rfl fun K hK => ?_
      simp only [fillL, Act.put, List.setIfInBounds_toArray, List.set_cons_succ, List.set_cons_zero, Nat.zero_add, Nat.reduceAdd]
      go_wp2_with (fail)
      refine RegPost.mk (.agg #[.int .u64 x5, .int .u64 x6]) ?_ (rfl) (hinv) (fun _ _ h => h)
      simp [fillL, Act.put, setAt, e10]
    · -- 12
      clear hu
      refine wpOp_go rfl rfl fun K hK => ?_
      simp only [fillL, Act.put, List.setIfInBounds_toArray, List.set_cons_succ, List.set_cons_zero, Nat.zero_add, Nat.reduceAdd]
      go_wp2_with (fail)
      refine RegPost.mk (.pointer (some ⟨(w.heap.size + 1), 4, none⟩)) ?_ (rfl) (hinv) (fun _ _ h => h)
      simp [fillL, Act.put, setAt]
    · -- 13
      have e12 : u 12 = (.pointer (some ⟨(w.heap.size + 1), 4, none⟩)) := hu 12 (by kernel_rfl)
      clear hu
      have g1 := hinv.cell (by omega) (hk1.cell 4 rfl)
      have g2 := hinv.cell (by omega) (hk1.cell 5 rfl)
      refine wpOp_go rfl rfl fun K hK => ?_
      simp only [fillL, Act.put, List.setIfInBounds_toArray, List.set_cons_succ, List.set_cons_zero, Nat.zero_add, Nat.reduceAdd]
      go_wp2_with (fail)
      refine RegPost.mk (.agg #[.int .u64 y5, .int .u64 y6]) ?_ (rfl) (hinv) (fun _ _ h => h)
      simp [fillL, Act.put, setAt, e12]
    · -- 14
      have e10 : u 10 = (.pointer (some ⟨w.heap.size, 4, none⟩)) := hu 10 (by kernel_rfl)
      have e11 : u 11 = (.agg #[.int .u64 x5, .int .u64 x6]) := hu 11 (by kernel_rfl)
      have e12 : u 12 = (.pointer (some ⟨(w.heap.size + 1), 4, none⟩)) := hu 12 (by kernel_rfl)
      have e13 : u 13 = (.agg #[.int .u64 y5, .int .u64 y6]) := hu 13 (by kernel_rfl)
      clear hu
      refine wpOp_go rfl rfl fun K hK => ?_
      simp only [fillL, Act.put, List.setIfInBounds_toArray, List.set_cons_succ, List.set_cons_zero, Nat.zero_add, Nat.reduceAdd]
      go_wp2_with (go_at_call 36; refine (HP.out.2.2 _).mono ?_; rintro e w'' ⟨rfl, hb⟩)
      refine RegPost.mk (.agg #[.int .u64 (natHi (satAdd M128 a.took b.took)), .int .u64 (natLo (satAdd M128 a.took b.took))]) ?_ (rfl) (hinv.below hb) (fun j x h => match j, h with | 0, h => h | 1, h => h | 2, h => h | 3, h => h | 4, h => h | 5, h => h | 6, h => h | 7, h => h | 8, h => h | 9, h => h | 10, h => h | 11, h => h | 12, h => h | 13, h => h | 14, h => h | 15, h => h | 16, h => h | 17, h => Blk.below h hb | 18, h => h | _ + 19, h => h)
      simp [fillL, Act.put, setAt, e10, e11, e12, e13]
    · -- 15
      clear hu
      refine wpOp_go rfl rfl fun K hK => ?_
      simp only [fillL, Act.put, List.setIfInBounds_toArray, List.set_cons_succ, List.set_cons_zero, Nat.zero_add, Nat.reduceAdd]
      go_wp2_with (fail)
      refine RegPost.mk (.slice A (addBars a.bars b.bars).length c) ?_ (rfl) (hinv) (fun _ _ h => h)
      simp [fillL, Act.put, setAt]
    · -- 16
      have e4 : u 4 = (.agg #[.int .u64 (natHi (satAdd M128 a.calls b.calls)), .int .u64 (natLo (satAdd M128 a.calls b.calls))]) := hu 4 (by kernel_rfl)
      have e9 : u 9 = (.agg #[.int .u64 (natHi (satAdd M128 a.errors b.errors)), .int .u64 (natLo (satAdd M128 a.errors b.errors))]) := hu 9 (by kernel_rfl)
      have e14 : u 14 = (.agg #[.int .u64 (natHi (satAdd M128 a.took b.took)), .int .u64 (natLo (satAdd M128 a.took b.took))]) := hu 14 (by kernel_rfl)
      have e15 : u 15 = (.slice A (addBars a.bars b.bars).length c) := hu 15 (by kernel_rfl)
      clear hu
      refine wpOp_go rfl rfl fun K hK => ?_
      simp only [fillL, Act.put, List.setIfInBounds_toArray, List.set_cons_succ, List.set_cons_zero, Nat.zero_add, Nat.reduceAdd]
      go_wp2_with (fail)
      refine RegPost.mk (.agg #[.int .u64 (natHi (satAdd M128 a.calls b.calls)), .int .u64 (natLo (satAdd M128 a.calls b.calls)), .int .u64 (natHi (satAdd M128 a.errors b.errors)), .int .u64 (natLo (satAdd M128 a.errors b.errors)), .int .u64 (natHi (satAdd M128 a.took b.took)), .int .u64 (natLo (satAdd M128 a.took b.took)), .slice A (addBars a.bars b.bars).length c]) ?_ (rfl) (hinv) (fun _ _ h => h)
      simp [fillL, Act.put, setAt, e4, e9, e14, e15]
    · -- 17
      have e16 : u 16 = (.agg #[.int .u64 (natHi (satAdd M128 a.calls b.calls)), .int .u64 (natLo (satAdd M128 a.calls b.calls)), .int .u64 (natHi (satAdd M128 a.errors b.errors)), .int .u64 (natLo (satAdd M128 a.errors b.errors)), .int .u64 (natHi (satAdd M128 a.took b.took)), .int .u64 (natLo (satAdd M128 a.took b.took)), .slice A (addBars a.bars b.bars).length c]) := hu 16 (by kernel_rfl)
      clear hu
      have hrow := hinv.row
      have g0 := hinv.there (i := 0) (by omega)
      have g1 := hinv.there (i := 1) (by omega)
      have g2 := hinv.there (i := 2) (by omega)
      have g3 := hinv.there (i := 3) (by omega)
      have g4 := hinv.there (i := 4) (by omega)
      have g5 := hinv.there (i := 5) (by omega)
      have g6 := hinv.there (i := 6) (by omega)
      have f0 := hinv.frozen 0
      have f1 := hinv.frozen 1
      have f2 := hinv.frozen 2
      have f3 := hinv.frozen 3
      have f4 := hinv.frozen 4
      have f5 := hinv.frozen 5
      have f6 := hinv.frozen 6
      refine wpOp_go rfl rfl fun K hK => ?_
      simp only [fillL, Act.put, List.setIfInBounds_toArray, List.set_cons_succ, List.set_cons_zero, Nat.zero_add, Nat.reduceAdd]
      go_wp2_with (fail)
      obtain ⟨⟨cs⟩, hr1, hr2⟩ := hrow
      obtain ⟨z0, z1, z2, z3, z4, z5, z6, rfl⟩ := list7 (show cs.length = 7 from hr2)
      have hz : Blk w' (w.heap.size + 1 + 1) 46 [z0, z1, z2, z3, z4, z5, z6] := hr1
      refine RegPost.mk undef ?_ (((((((hz.set 0 _).set 1 _).set 2 _).set 3 _).set 4 _).set 5 _).set 6 _) (((((((hinv.set 0 _).set 1 _).set 2 _).set 3 _).set 4 _).set 5 _).set 6 _) (fun j x h => match j, h with | 0, h => h | 1, h => h | 2, h => h | 3, h => h | 4, h => h | 5, h => h | 6, h => h | 7, h => h | 8, h => h | 9, h => h | 10, h => h | 11, h => h | 12, h => h | 13, h => h | 14, h => h | 15, h => h | 16, h => h | 17, h => ((((((Blk.set h 0 _).set 1 _).set 2 _).set 3 _).set 4 _).set 5 _).set 6 _ | 18, h => h | _ + 19, h => h)
      simp [fillL, Act.put, setAt, e16]
    · -- 18
      clear hu
      refine wpOp_go rfl rfl fun K hK => ?_
      simp only [fillL, Act.put, List.setIfInBounds_toArray, List.set_cons_succ, List.set_cons_zero, Nat.zero_add, Nat.reduceAdd]
      go_wp2_with (fail)
      refine RegPost.mk (.int .i64 0) ?_ (rfl) (hinv) (fun _ _ h => h)
      simp [fillL, Act.put, setAt]
    · exact absurd hi (by simp)
  case fin =>
    intro u w' hu hinv
    have e0 : u 0 = (.pointer (some ⟨w.heap.size, 0, none⟩)) := hu 0 (by simp)
    have e1 : u 1 = (.agg #[.int .u64 x1, .int .u64 x2]) := hu 1 (by simp)
    have e2 : u 2 = (.pointer (some ⟨(w.heap.size + 1), 0, none⟩)) := hu 2 (by simp)
    have e3 : u 3 = (.agg #[.int .u64 y1, .int .u64 y2]) := hu 3 (by simp)
    have e4 : u 4 = (.agg #[.int .u64 (natHi (satAdd M128 a.calls b.calls)), .int .u64 (natLo (satAdd M128 a.calls b.calls))]) := hu 4 (by simp)
    have e5 : u 5 = (.pointer (some ⟨w.heap.size, 2, none⟩)) := hu 5 (by simp)
    have e6 : u 6 = (.agg #[.int .u64 x3, .int .u64 x4]) := hu 6 (by simp)
    have e7 : u 7 = (.pointer (some ⟨(w.heap.size + 1), 2, none⟩)) := hu 7 (by simp)
    have e8 : u 8 = (.agg #[.int .u64 y3, .int .u64 y4]) := hu 8 (by simp)
    have e9 : u 9 = (.agg #[.int .u64 (natHi (satAdd M128 a.errors b.errors)), .int .u64 (natLo (satAdd M128 a.errors b.errors))]) := hu 9 (by simp)
    have e10 : u 10 = (.pointer (some ⟨w.heap.size, 4, none⟩)) := hu 10 (by simp)
    have e11 : u 11 = (.agg #[.int .u64 x5, .int .u64 x6]) := hu 11 (by simp)
    have e12 : u 12 = (.pointer (some ⟨(w.heap.size + 1), 4, none⟩)) := hu 12 (by simp)
    have e13 : u 13 = (.agg #[.int .u64 y5, .int .u64 y6]) := hu 13 (by simp)
    have e14 : u 14 = (.agg #[.int .u64 (natHi (satAdd M128 a.took b.took)), .int .u64 (natLo (satAdd M128 a.took b.took))]) := hu 14 (by simp)
    have e15 : u 15 = (.slice A (addBars a.bars b.bars).length c) := hu 15 (by simp)
    have e16 : u 16 = (.agg #[.int .u64 (natHi (satAdd M128 a.calls b.calls)), .int .u64 (natLo (satAdd M128 a.calls b.calls)), .int .u64 (natHi (satAdd M128 a.errors b.errors)), .int .u64 (natLo (satAdd M128 a.errors b.errors)), .int .u64 (natHi (satAdd M128 a.took b.took)), .int .u64 (natLo (satAdd M128 a.took b.took)), .slice A (addBars a.bars b.bars).length c]) := hu 16 (by simp)
    have e17 := hu 17 (by simp)
    have e18 : u 18 = (.int .i64 0) := hu 18 (by simp)
    clear hu
    simp only [fillL, Act.put, List.setIfInBounds_toArray, List.set_cons_succ, List.set_cons_zero, Nat.zero_add, Nat.reduceAdd, e0, e1, e2, e3, e4, e5, e6, e7, e8, e9, e10, e11, e12, e13, e14, e15, e16, e18]
    clear e0 e1 e2 e3 e4 e5 e6 e7 e8 e9 e10 e11 e12 e13 e14 e15 e16 e18
    have g0 := e17.cell 0 rfl
    have g1 := e17.cell 1 rfl
    have g2 := e17.cell 2 rfl
    have g3 := e17.cell 3 rfl
    have g4 := e17.cell 4 rfl
    have g5 := e17.cell 5 rfl
    have g6 := e17.cell 6 rfl
    go_wp2_with fail
    refine bodyPost_ret (v := .tuple #[talVal (satAdd M128 a.calls b.calls) (satAdd M128 a.errors b.errors) (satAdd M128 a.took b.took) (.slice A (addBars a.bars b.bars).length c), .int .i64 0]) (by simp [results, Try.results26, go_sem, g0, g1, g2, g3, g4, g5, g6, talVal]) rfl ⟨_, rfl, ?_, ?_, TalFrom.mk HFR.out⟩
    · exact ⟨A, _, c, rfl, HBA.out.same hinv (bars_apart HBA.out hk2), Nat.le_trans (canon_length _ _ _) (by omega), hc⟩
    · exact hinv.toBelow (btrans (bal (bal (bal (brefl _) _) _) _) HB.out) (by omega)
end Go.Proofs.Ytjfeeampcgmngaa
