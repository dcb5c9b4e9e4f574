/- The document's order of edges; a tally in new memory. -/
import Derived.Test.YtjfeeampcgmngaaSame
import Derived.Test.YtjfeeampcgmngaaApp
namespace Go.Proofs.Ytjfeeampcgmngaa
open Go.RowKit Go.Shelf Go.Maps

theorem bytes_ext {a b : ByteArray} (h : a.toList = b.toList) : a = b := by
  rw [toListB, toListB] at h
  cases a; cases b
  rename_i x y
  cases x; cases y
  simp only at h
  rw [h]
/-! ### the document's order of edges; a tally in new memory -/
set_option maxRecDepth 100000 in
set_option maxHeartbeats 2000000 in
theorem EdgeLess_any (w : World) (a b : Edge) :
    Calls Try.prog 32 #[edgeVal a, edgeVal b] w fun e w' => e = .returned (.bool (decide (elt a b))) ∧ Below w.heap.size w w' := by
  obtain ⟨a1, a2⟩ := a
  obtain ⟨b1, b2⟩ := b
  have hlt : decide (elt (a1, a2) (b1, b2)) = if a1 = b1 then slt a2 b2 else slt a1 b1 := by
    unfold elt
    by_cases h : a1 = b1
    · subst h
      rw [if_pos rfl]
      simp [slt_irrefl]
    · rw [if_neg h]
      simp [h]
  rw [hlt]
  have HL := Lib.hid hlt
  clear hlt
  unfold edgeVal
  by_cases h : a1 = b1
  · subst h
    rw [if_pos rfl]
    go_enter Try.func32, Try.ntmps32
    go_wp2_with fail
    go_ret
    exact ⟨by unfold slt; rw [toListB, toListB]; rfl, bal (bal (brefl _) _) _⟩
  · rw [if_neg h]
    have hne : (a1.toList == b1.toList) = false := by rw [beq_eq_false_iff_ne]; exact fun e => h (bytes_ext e)
    clear h
    go_enter Try.func32, Try.ntmps32
    go_wp2_with fail
    go_ret
    exact ⟨by unfold slt; rw [toListB, toListB]; rfl, bal (bal (brefl _) _) _⟩

theorem Stays.set {B T : Nat} {w : World} {p : Addr} (hp : p.block < B) {u : Value} : Stays B T w (w.setCell p u) := fun b o v h1 _ hc =>
  (World.cell?_of_block (w := w) (Below.heap_setCell w p u b (by omega))).trans hc

set_option maxRecDepth 100000 in
set_option maxHeartbeats 2000000 in
theorem Copy_any (w : World) (v : Value) (t : Tal) (h : TalAt w v t.raw) (hl : t.bars.length ≤ 1920) :
    Calls Try.prog 34 #[v] w fun e w' => ∃ v', e = .returned v' ∧ TalAt w' v' t.raw ∧ Below w.heap.size w w' ∧ TalFrom w.heap.size v' := by
  obtain ⟨i0, hi0, hz0, hz1, hz2⟩ := info_parts barInfo
  obtain ⟨A, n, c, rfl, h1, h2, h3⟩ := h
  have hn : n = t.bars.length := by rw [h1.1]; simp [Tal.raw, rawBars]
  unfold Tal.raw at *
  simp only at *
  unfold talVal
  obtain ⟨x1, hx1⟩ : ∃ x, x = natHi t.calls := ⟨_, rfl⟩
  obtain ⟨x2, hx2⟩ : ∃ x, x = natLo t.calls := ⟨_, rfl⟩
  obtain ⟨x3, hx3⟩ : ∃ x, x = natHi t.errors := ⟨_, rfl⟩
  obtain ⟨x4, hx4⟩ : ∃ x, x = natLo t.errors := ⟨_, rfl⟩
  obtain ⟨x5, hx5⟩ : ∃ x, x = natHi t.took := ⟨_, rfl⟩
  obtain ⟨x6, hx6⟩ : ∃ x, x = natLo t.took := ⟨_, rfl⟩
  rw [← hx1, ← hx2, ← hx3, ← hx4, ← hx5, ← hx6]
  have HX := Lib.hid (And.intro hx1 (And.intro hx2 (And.intro hx3 (And.intro hx4 (And.intro hx5 hx6)))))
  have H1 := Lib.hid h1
  have HN := Lib.hid hn
  clear hx1 hx2 hx3 hx4 hx5 hx6 h1 hn
  have hbW : Below w.heap.size w ((w.alloc (Obj.cells #[.int .u64 x1, .int .u64 x2, .int .u64 x3, .int .u64 x4, .int .u64 x5, .int .u64 x6, .slice A n c] 46)).alloc (Obj.cells #[.int .u64 0, .int .u64 0, .int .u64 0, .int .u64 0, .int .u64 0, .int .u64 0, .slice none 0 0] 46)) := bal (bal (brefl w) _) _
  have k1 : Blk ((w.alloc (Obj.cells #[.int .u64 x1, .int .u64 x2, .int .u64 x3, .int .u64 x4, .int .u64 x5, .int .u64 x6, .slice A n c] 46)).alloc (Obj.cells #[.int .u64 0, .int .u64 0, .int .u64 0, .int .u64 0, .int .u64 0, .int .u64 0, .slice none 0 0] 46)) w.heap.size 46 [.int .u64 x1, .int .u64 x2, .int .u64 x3, .int .u64 x4, .int .u64 x5, .int .u64 x6, .slice A n c] := (Blk.new _ _ _).alloc _
  have k2 : Blk ((w.alloc (Obj.cells #[.int .u64 x1, .int .u64 x2, .int .u64 x3, .int .u64 x4, .int .u64 x5, .int .u64 x6, .slice A n c] 46)).alloc (Obj.cells #[.int .u64 0, .int .u64 0, .int .u64 0, .int .u64 0, .int .u64 0, .int .u64 0, .slice none 0 0] 46)) (w.heap.size + 1) 46 [.int .u64 0, .int .u64 0, .int .u64 0, .int .u64 0, .int .u64 0, .int .u64 0, .slice none 0 0] := Blk.new_ _ _ _ (by simp)
  have hsrc := src_bars (H1.out.below hbW)
  have HSRC := Lib.hid hsrc
  have HBW := Lib.hid hbW
  have HK1 := Lib.hid k1
  have HK2 := Lib.hid k2
  clear hbW k1 k2 hsrc
  go_enter Try.func34, Try.ntmps34
  go_wp2_with (at_builtin; refine wpList_app rfl _ _ 44 rfl (w.heap.size + 2) 82 i0 (.agg #[.int .i64 0, .int .u64 0]) 2 16 Try.underlying44 hi0 hz0 hz1 hz2 rfl (by decide) _ 0 [] rfl (World.ownsRow_nil _ _ _ _) A n c (barCells t.bars) rfl HSRC.out (barCells_one _) ?c1 ?c2 ?c3 ?_)
  case c1 => have := HN.out; unfold maxLen; omega
  case c2 => have := HN.out; omega
  case c3 => simp
  intro v' w1 hown hgrow _
  have hg : ∀ b, b < w.heap.size + 2 → w1.heap[b]? = _ := fun b hb => hgrow.block b (by simpa using hb) (by simp [Value.ownBlock])
  have k1' := HK1.out.same (hg w.heap.size (by omega))
  have k2' := HK2.out.same (hg (w.heap.size + 1) (by omega))
  have hb1 : Below w.heap.size w w1 := HBW.out.grown hgrow HBW.out.size fun q hq => by simp [Value.ownBlock] at hq
  have HB1 := Lib.hid hb1
  rw [HN.out] at hown
  obtain ⟨A', c', hv', hlen, hbars, hfr⟩ := bars_of_own hown
  subst hv'
  have HBA := Lib.hid hbars
  have HFR := Lib.hid hfr
  have HK1' := Lib.hid k1'
  have HK2' := Lib.hid k2'
  have g0 := k1'.cell 0 rfl
  have g1 := k1'.cell 1 rfl
  have g2 := k1'.cell 2 rfl
  have g3 := k1'.cell 3 rfl
  have g4 := k1'.cell 4 rfl
  have g5 := k1'.cell 5 rfl
  have g6 := k1'.cell 6 rfl
  have f6 := k1'.frozen 6
  have z0 := k2'.cell 0 rfl
  have z1 := k2'.cell 1 rfl
  have z2 := k2'.cell 2 rfl
  have z3 := k2'.cell 3 rfl
  have z4 := k2'.cell 4 rfl
  have z5 := k2'.cell 5 rfl
  have z6 := k2'.cell 6 rfl
  have u0 := k2'.frozen 0
  have u1 := k2'.frozen 1
  have u2 := k2'.frozen 2
  have u3 := k2'.frozen 3
  have u4 := k2'.frozen 4
  have u5 := k2'.frozen 5
  have u6 := k2'.frozen 6
  have hne : w.heap.size ≠ w.heap.size + 1 := by omega
  clear hown hgrow hg hb1 hbars hfr k1' k2' HSRC
  go_wp2
  have kk := ((((((((HK2'.out.far (p := ⟨w.heap.size, 6, none⟩) (by simp) (.slice A' t.bars.length c')).set 0 (.int .u64 x1)).set 1 (.int .u64 x2)).set 2 (.int .u64 x3)).set 3 (.int .u64 x4)).set 4 (.int .u64 x5)).set 5 (.int .u64 x6)).set 6 (.slice A' t.bars.length c'))
  have t0 := kk.cell 0 rfl
  have t1 := kk.cell 1 rfl
  have t2 := kk.cell 2 rfl
  have t3 := kk.cell 3 rfl
  have t4 := kk.cell 4 rfl
  have t5 := kk.cell 5 rfl
  have t6 := kk.cell 6 rfl
  refine bodyPost_ret (v := .agg #[.int .u64 x1, .int .u64 x2, .int .u64 x3, .int .u64 x4, .int .u64 x5, .int .u64 x6, .slice A' t.bars.length c']) (by simp [results, Try.results34, go_sem, t0, t1, t2, t3, t4, t5, t6]) rfl ⟨_, rfl, ?_, ?_, ?_⟩
  · refine ⟨A', t.bars.length, c', by rw [HX.out.1, HX.out.2.1, HX.out.2.2.1, HX.out.2.2.2.1, HX.out.2.2.2.2.1, HX.out.2.2.2.2.2]; rfl, ?_, by omega, hlen⟩
    refine BarsAt.stays HBA.out HFR.out ?_
    have e : ∀ (u : World) (p : Addr) (x : Value), p.block < w.heap.size + 2 → Stays (w.heap.size + 2) w1.heap.size u (u.setCell p x) := fun u p x hp => Stays.set hp
    exact (((((((e _ _ _ (by simp)).trans (e _ _ _ (by simp))).trans (e _ _ _ (by simp))).trans (e _ _ _ (by simp))).trans (e _ _ _ (by simp))).trans (e _ _ _ (by simp))).trans (e _ _ _ (by simp))).trans (e _ _ _ (by simp))
  · exact bset (bset (bset (bset (bset (bset (bset (bset HB1.out (by simp) _) (by simp) _) (by simp) _) (by simp) _) (by simp) _) (by simp) _) (by simp) _) (by simp) _
  · rw [HX.out.1, HX.out.2.1, HX.out.2.2.1, HX.out.2.2.2.1, HX.out.2.2.2.2.1, HX.out.2.2.2.2.2]
    exact TalFrom.mk fun q hq => Nat.le_trans (by omega) (HFR.out q hq)
end Go.Proofs.Ytjfeeampcgmngaa
