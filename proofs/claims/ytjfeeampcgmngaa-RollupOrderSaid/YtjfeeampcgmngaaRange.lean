/- rollup's New, Range, window, wide. -/
import Derived.Test.YtjfeeampcgmngaaSum2
namespace Go.Proofs.Ytjfeeampcgmngaa
open Go.RowKit Go.Shelf Go.Maps

theorem EdgesAt.le {B C : Nat} {w : World} {A : Option Addr} {n : Nat} {L : List ET} (h : EdgesAt C w A n L) (hb : B ≤ C) : EdgesAt B w A n L := by
  obtain ⟨d, h1, h2, h3, h4⟩ := h
  exact ⟨d, h1, h2, fun i x p hx hp => ⟨(h3 i x p hx hp).1, (h3 i x p hx hp).2.1, (h3 i x p hx hp).2.2.1, (h3 i x p hx hp).2.2.2.le hb⟩, fun hn => by
    obtain ⟨b, off, e, h5, h6⟩ := h4 hn
    exact ⟨b, off, e, Nat.le_trans hb h5, h6⟩⟩
theorem cell_cs {w : World} {g o : Nat} {t : TypeId} {cs : List Value} {v : Value} (hk : Blk w g t cs) (h : w.cell? ⟨g, o, none⟩ = some v) : v ∈ cs := by
  unfold Blk at hk
  simp only [World.cell?, hk] at h
  exact List.mem_of_getElem? (by simpa using h)
/-- Edges are not read out of a block that has neither strings nor counts. -/
theorem EdgesAt.far {w w' : World} {A : Option Addr} {B n g : Nat} {L : List ET} {t : TypeId} {cs : List Value} (h : EdgesAt B w A n L) (hk : Blk w g t cs) (hns : ∀ x ∈ cs, (∀ s, x ≠ .string s) ∧ ∀ j, x ≠ .int .u64 j)
    (hc : ∀ b o, b ≠ g → w'.cell? ⟨b, o, none⟩ = w.cell? ⟨b, o, none⟩) : EdgesAt B w' A n L := by
  obtain ⟨d, h1, h2, h3, h4⟩ := h
  refine ⟨d, h1, h2, fun i x p hx hp => ?_, fun hn => ?_⟩
  · obtain ⟨a1, a2, ⟨A', n', c', a3, a4, a5⟩, a6⟩ := h3 i x p hx hp
    refine ⟨a1, a2, ⟨A', n', c', a3, ⟨a4.1, fun hn' => ?_⟩, a5⟩, a6⟩
    obtain ⟨b, off, rfl, hb⟩ := a4.2 hn'
    refine ⟨b, off, rfl, fun i j c hi => ?_⟩
    obtain ⟨b1, b2⟩ := hb i j c hi
    have hne : b ≠ g := by
      rintro rfl
      exact (hns _ (cell_cs hk b2)).2 c rfl
    exact ⟨(hc _ _ hne).trans b1, (hc _ _ hne).trans b2⟩
  · obtain ⟨b, off, rfl, hB, hb⟩ := h4 hn
    refine ⟨b, off, rfl, hB, fun i x hx j u hu => ?_⟩
    have hne : b ≠ g := by
      rintro rfl
      exact (hns _ (cell_cs hk (hb i x hx 0 (.string x.e.1) rfl))).1 _ rfl
    exact (hc _ _ hne).trans (hb i x hx j u hu)

theorem empty_roll (w : World) (fan : Nat) : RollAt ((w.alloc (.map #[] 0)).alloc (.cells #[.int .i64 fan, .map (some w.heap.size)] 69)) (w.heap.size + 1) w.heap.size fan [] (fun _ _ => tzero) (· = w.heap.size) where
  blk := Blk.new_ _ _ [.int .i64 fan, .map (some w.heap.size)] (by simp)
  map := (MapIs.made w).same ((bal (brefl _) _).block _ (by simp))
  inner x hx := by cases hx
  all h e he := absurd rfl he
  apart x hx := by cases hx
  ok h e := tzero_ok
  foot := rfl
  maps q hq := ⟨#[], 0, by rw [hq]; exact ((bal (brefl (w.alloc (.map #[] 0))) (.cells #[.int .i64 fan, .map (some w.heap.size)] 69)).block _ (by simp)).trans (MapKept.heap_alloc w _).1⟩

set_option maxRecDepth 100000 in
set_option maxHeartbeats 1000000 in
theorem New_ok (w : World) (fan : Nat) (h2 : 2 ≤ fan) (h16 : fan ≤ 16) :
    Calls Try.prog 14 #[.int .i64 fan] w fun en w' => en = .returned (.tuple #[.pointer (some ⟨w.heap.size + 1, 0, none⟩), .int .i64 0]) ∧ RollAt w' (w.heap.size + 1) w.heap.size fan [] (fun _ _ => tzero) (· = w.heap.size) ∧ Below w.heap.size w w' := by
  have hmm := @run_makeMap Try.prog
  have g1 : ¬ ((fan : Int) < 2) := by omega
  have g2 : ¬ (16 < (fan : Int)) := by omega
  go_enter Try.func14, Try.ntmps14
  go_wp2_with fail
  go_ret2
  exact ⟨rfl, empty_roll w fan, bal (bal (brefl _) _) _⟩

set_option maxRecDepth 100000 in
set_option maxHeartbeats 1000000 in
theorem New_bad (w : World) (fan : Int) (h : fan < 2 ∨ 16 < fan) :
    Calls Try.prog 14 #[.int .i64 fan] w fun en w' => en = .returned (.tuple #[.pointer none, .int .i64 1]) ∧ w' = w := by
  by_cases g1 : fan < 2
  · go_enter Try.func14, Try.ntmps14
    go_wp2_with fail
    go_ret2
    exact ⟨rfl, rfl⟩
  · have g2 : 16 < fan := by omega
    go_enter Try.func14, Try.ntmps14
    go_wp2_with fail
    go_ret2
    exact ⟨rfl, rfl⟩

set_option maxRecDepth 100000 in
set_option maxHeartbeats 1000000 in
theorem Range_ok (w : World) (r m fan : Nat) (es : List MapEntry) (M : Cont) (F : Nat → Prop) (lo n to : Nat) (h : RollAt w r m fan es M F) (N : Nat) (hN : N * 112 ≤ 140737488355328) (hf : Few N M) (hto : to = lo + n) (hlo : to ≤ 2097152) :
    Calls Try.prog 17 #[.pointer (some ⟨r, 0, none⟩), .int .i64 lo, .int .i64 to] w fun en w' => ∃ A k c L, en = .returned (.tuple #[.slice A k c, .int .i64 0]) ∧ EdgesAt w.heap.size w' A k L ∧ Tells L (fun e => hsum M e lo n) ∧ Below w.heap.size w w' := by
  have hs := Lib.hid (sum_any w r m fan es M F lo n to h N hN hf hto (by omega))
  have g1 : ¬ ((lo : Int) < 0) := by omega
  have g2 : ¬ ((to : Int) < lo) := by omega
  have g3 : ¬ (2097152 < (to : Int)) := by omega
  clear hto hlo hN hf h
  go_enter Try.func17, Try.ntmps17
  go_wp2_with fail
  refine hs.out.mono ?_
  rintro en w1 ⟨A, k, c, L, rfl, h1, h2, h3⟩
  have H1 := Lib.hid h1
  have H2 := Lib.hid h2
  have H3 := Lib.hid h3
  clear h1 h2 h3 hs
  go_wp2_with fail
  go_ret2
  exact ⟨A, k, c, L, rfl, H1.out, H2.out, H3.out⟩

set_option maxRecDepth 100000 in
set_option maxHeartbeats 1000000 in
theorem Range_bad (w : World) (r : Nat) (lo to : Int) (h : ¬ (0 ≤ lo ∧ lo ≤ to ∧ to ≤ 2097152)) :
    Calls Try.prog 17 #[.pointer (some ⟨r, 0, none⟩), .int .i64 lo, .int .i64 to] w fun en w' => en = .returned (.tuple #[.slice none 0 0, .int .i64 151]) ∧ w' = w := by
  by_cases g1 : lo < 0
  · clear h
    go_enter Try.func17, Try.ntmps17
    go_wp2_with fail
    go_ret2
    exact ⟨rfl, rfl⟩
  · by_cases g2 : to < lo
    · clear h
      go_enter Try.func17, Try.ntmps17
      go_wp2_with fail
      go_ret2
      exact ⟨rfl, rfl⟩
    · have g3 : 2097152 < to := by omega
      clear h
      go_enter Try.func17, Try.ntmps17
      go_wp2_with fail
      go_ret2
      exact ⟨rfl, rfl⟩

set_option maxRecDepth 100000 in
set_option maxHeartbeats 1000000 in
theorem window_any (w : World) (r m fan : Nat) (es : List MapEntry) (M : Cont) (F : Nat → Prop) (lo n : Nat) (h : RollAt w r m fan es M F) (N : Nat) (hN : N * 112 ≤ 140737488355328) (hf : Few N M) (hlo : lo + n ≤ 1099511627776) :
    Calls Try.prog 22 #[.pointer (some ⟨r, 0, none⟩), .int .i64 lo, .int .i64 n] w fun en w' => ∃ A k c L, en = .returned (.agg #[.int .i64 lo, .int .i64 n, .slice A k c]) ∧ EdgesAt w.heap.size w' A k L ∧ Tells L (fun e => hsum M e lo n) ∧ Below w.heap.size w w' := by
  have hs := fun w' (hb : Below w.heap.size w w') => sum_any w' r m fan es M F lo n (lo + n) (h.below hb) N hN hf rfl hlo
  have e1 : Int.add (lo : Int) (n : Int) = ((lo + n : Nat) : Int) := rfl
  have HLO := Lib.hid hlo
  clear hlo hN hf h
  go_enter Try.func22, Try.ntmps22
  go_wp2_with fail
  rw [show wrap64 ((lo : Int) + n) = ((lo + n : Nat) : Int) by
    have := HLO.out
    unfold wrap64
    omega]
  refine (hs _ (bal (brefl _) _)).mono ?_
  rintro en w1 ⟨A, k, c, L, rfl, h1, h2, h3⟩
  have k0 : Blk w1 w.heap.size 32 [.int .i64 0, .int .i64 0, .slice none 0 0] := (Blk.new w 32 [.int .i64 0, .int .i64 0, .slice none 0 0]).below h3
  have p0 := k0.cell 0 rfl
  have p1 := k0.cell 1 rfl
  have p2 := k0.cell 2 rfl
  have q0 := k0.frozen 0
  have q1 := k0.frozen 1
  have q2 := k0.frozen 2
  have H1 := Lib.hid h1
  have H2 := Lib.hid h2
  have H3 := Lib.hid h3
  have K0 := Lib.hid k0
  clear h1 h2 h3 hs k0
  go_wp2_with fail
  have kk := ((K0.out.set 0 (.int .i64 lo)).set 1 (.int .i64 n)).set 2 (.slice A k c)
  have g0 := kk.cell 0 rfl
  have g1 := kk.cell 1 rfl
  have g2 := kk.cell 2 rfl
  refine bodyPost_ret (v := .agg #[.int .i64 lo, .int .i64 n, .slice A k c]) (by simp [results, Try.results22, go_sem, g0, g1, g2]) rfl ⟨A, k, c, L, rfl, (H1.out.le (by simp)).far K0.out (by simp) (fun b o hb => ?_), H2.out, ?_⟩
  · exact World.cell?_of_block (((Below.heap_setCell _ _ _ b hb).trans (Below.heap_setCell _ _ _ b hb)).trans (Below.heap_setCell _ _ _ b hb))
  · exact bset (bset (bset (btrans (bal (brefl _) _) H3.out) (Nat.le_refl _) _) (Nat.le_refl _) _) (Nat.le_refl _) _
end Go.Proofs.Ytjfeeampcgmngaa
