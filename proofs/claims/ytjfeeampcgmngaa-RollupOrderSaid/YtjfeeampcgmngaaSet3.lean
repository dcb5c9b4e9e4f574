/- rollup.set: walked. -/
import Derived.Test.YtjfeeampcgmngaaSet2
import Derived.Carry
namespace Go.Proofs.Ytjfeeampcgmngaa
open Go.RowKit Go.Shelf Go.Maps
open Go.ChangeMaps (setBlock)

theorem TalAt.kept {w w' : World} {v : Value} {t : RTal} (h : TalAt w v t) (hb : Below w.heap.size w w') : TalAt w' v t := h.below hb
theorem run_delete_nil {w : World} {ty : TypeId} {e : Edge} (he : EdgeOk e) : (Builtin.delete_ #[75, 40] ty #[.map none, .agg #[.string e.1, .string e.2]]).run Try.prog w = .ok (.tuple #[]) w := by
  obtain ⟨l, hl⟩ := edge_key he
  have := edgeKeyed.check w true hl
  unfold edgeVal at this
  simp [Builtin.delete_, run_underlying Try.underlying75, Result.andThen, this]

set_option maxRecDepth 100000 in
set_option maxHeartbeats 4000000 in
theorem set_none_absent (w : World) (r m fan : Nat) (es : List MapEntry) (M : Cont) (F : Nat → Prop) (hr : Nat) (e : Edge) (v : Value) (h : RollAt w r m fan es M F) (hh : hr < limit) (he : EdgeOk e) (hv : TalAt w v tzero.raw)
    (hb : Lacks es (hourVal hr)) :
    Calls Try.prog 27 #[.pointer (some ⟨r, 0, none⟩), hourVal hr, edgeVal e, v] w fun en w' => en = .returned (.tuple #[]) ∧ (∃ es', RollAt w' r m fan es' (upd M hr e tzero) F) ∧ Mod F w w' := by
  have hno := fun w' (hb : Below w.heap.size w w') => nothing_yes w' v (hv.below hb)
  obtain ⟨A, n, c, rfl, -, -, -⟩ := hv
  unfold talVal at *
  generalize natHi tzero.raw.calls = x1 at *
  generalize natLo tzero.raw.calls = x2 at *
  generalize natHi tzero.raw.errors = x3 at *
  generalize natLo tzero.raw.errors = x4 at *
  generalize natHi tzero.raw.took = x5 at *
  generalize natLo tzero.raw.took = x6 at *
  have HH := Lib.hid h
  have HB := Lib.hid hb
  have c1 := h.blk.cell 1 rfl
  have hs := h.blk.lt
  have hdn := fun w ty => run_delete_nil (w := w) (ty := ty) he
  unfold edgeVal hourVal
  clear h hb
  go_enter Try.func27, Try.ntmps27
  go_wp2_with (rw [hour_absent HH.out.map HB.out hh _ (bal (bal (brefl w) _) _)])
  refine (hno _ (bal (bal (brefl _) _) _)).mono ?_
  rintro en w1 ⟨rfl, hb1⟩
  have HB1 := Lib.hid (btrans (bal (bal (brefl w) _) _) hb1)
  have k1 : Blk w1 w.heap.size 40 [.string e.1, .string e.2] := Blk.below ((Blk.new _ _ _).alloc _) hb1
  have p1 := k1.cell 0 rfl
  have p2 := k1.cell 1 rfl
  have c1' := bcell1 HB1.out c1
  obtain ⟨l, hl⟩ := hour_key hr hh
  obtain ⟨o, es', hrun, hm', -, hhas⟩ := (HH.out.map.same (HB1.out.block m HH.out.map.lt)).drop (ty := 0) hourKeyed Try.underlying67 hl
  unfold hourVal at hrun
  have HM := Lib.hid hm'
  have HHas := Lib.hid hhas
  clear hno hb1 k1 hm' hhas hl c1
  go_wp2_with fail
  refine bodyPost_ret (results_none rfl _ _ _) rfl ?_
  have hMod : Mod (· = m) w1 (setBlock w1 m o) := Mod.setBlock (F := (· = m)) rfl o
  exact ⟨rfl, ⟨es', (HH.out.below HB1.out).same_hour HB.out HM.out HHas.out hMod⟩, (Mod.of_below HB1.out).trans (hMod.mono fun q _ hq => by rw [hq]; exact HH.out.foot)⟩

set_option maxRecDepth 100000 in
set_option maxHeartbeats 4000000 in
theorem set_some_absent (w : World) (r m fan : Nat) (es : List MapEntry) (M : Cont) (F : Nat → Prop) (hr : Nat) (e : Edge) (v : Value) (t : Tal) (h : RollAt w r m fan es M F) (hh : hr < limit) (he : EdgeOk e) (hv : TalAt w v t.raw) (ht : t.Ok) (hz : t ≠ tzero)
    (hb : Lacks es (hourVal hr)) (hzero : ∀ e', M hr e' = tzero) :
    Calls Try.prog 27 #[.pointer (some ⟨r, 0, none⟩), hourVal hr, edgeVal e, v] w fun en w' => en = .returned (.tuple #[]) ∧ (∃ es' F', RollAt w' r m fan es' (upd M hr e t) F' ∧ ∀ q, F' q → F q ∨ w.heap.size ≤ q) ∧ Mod F w w' := by
  have hno := fun w' (hb : Below w.heap.size w w') => nothing_no w' t v (hv.below hb) hz
  have HV := Lib.hid hv
  obtain ⟨A, n, c, rfl, -, -, -⟩ := hv
  unfold talVal at *
  have HH := Lib.hid h
  have HB := Lib.hid hb
  have HZ := Lib.hid hzero
  have c1 := h.blk.cell 1 rfl
  have hs := h.blk.lt
  have heq := eql_edges none
  have hmm := @run_makeMap Try.prog
  unfold edgeVal hourVal
  clear h hb hzero
  go_enter Try.func27, Try.ntmps27
  go_wp2_with (rw [hour_absent HH.out.map HB.out hh _ (bal (bal (brefl w) _) _)])
  refine (hno _ (bal (bal (brefl _) _) _)).mono ?_
  rintro en w1 ⟨rfl, hb1⟩
  have HB1 := Lib.hid (btrans (bal (bal (brefl w) _) _) hb1)
  have k1 : Blk w1 w.heap.size 40 [.string e.1, .string e.2] := Blk.below ((Blk.new _ _ _).alloc _) hb1
  have k2 : Blk w1 (w.heap.size + 1) 46 [.int .u64 (natHi t.raw.calls), .int .u64 (natLo t.raw.calls), .int .u64 (natHi t.raw.errors), .int .u64 (natLo t.raw.errors), .int .u64 (natHi t.raw.took), .int .u64 (natLo t.raw.took), .slice A n c] := Blk.below (Blk.new_ _ _ _ (by simp)) hb1
  have HB2 := Lib.hid (bal HB1.out (.map #[] 0))
  obtain ⟨l, hl⟩ := hour_key hr hh
  obtain ⟨o1, es1, hrun1, hm1, -, hhas1⟩ := (HH.out.map.same (HB2.out.block m HH.out.map.lt)).update hourKeyed Try.underlying67 (val := .map (some w1.heap.size)) hl
  unfold hourVal at hrun1
  have hmlt : m < w1.heap.size := Nat.lt_of_lt_of_le HH.out.map.lt HB1.out.size
  have hnb : MapIs Try.prog 40 (setBlock (w1.alloc (.map #[] 0)) m o1) w1.heap.size [] := (MapIs.made w1).same (by
    show ((w1.alloc (.map #[] 0)).heap.setIfInBounds m o1)[w1.heap.size]? = _
    exact Array.getElem?_setIfInBounds_ne (by omega))
  obtain ⟨l2, hl2⟩ := edge_key he
  obtain ⟨o2, es2, hrun2, hm2, -, hhas2⟩ := hnb.update edgeKeyed Try.underlying75 (val := .agg #[.int .u64 (natHi t.raw.calls), .int .u64 (natLo t.raw.calls), .int .u64 (natHi t.raw.errors), .int .u64 (natLo t.raw.errors), .int .u64 (natHi t.raw.took), .int .u64 (natLo t.raw.took), .slice A n c]) hl2
  unfold edgeVal at hrun2
  have hA1 : AreMaps (· = m) (w1.alloc (.map #[] 0)) := fun q hq => by
    obtain ⟨arr, k, h1, _⟩ := HH.out.map.block
    exact ⟨arr, k, by rw [hq, HB2.out.block m HH.out.map.lt, h1]⟩
  have hMod1 : Mod (· = m) (w1.alloc (.map #[] 0)) (setBlock (w1.alloc (.map #[] 0)) m o1) := Mod.setBlock (F := (· = m)) rfl o1
  have c1' := hMod1.cell hA1 (bcell1 HB2.out c1)
  have c1'' := bcell1 HB1.out c1
  have s1 : r < w1.heap.size := Nat.lt_of_lt_of_le hs HB1.out.size
  have s2 : w.heap.size + 1 < w1.heap.size := k2.lt
  have k1' := Lib.hid (hMod1.cells hA1 (k1.alloc (.map #[] 0)))
  have k2' := Lib.hid (hMod1.cells hA1 (k2.alloc (.map #[] 0)))
  have p1 := Blk.cell k1'.out 0 rfl
  have p2 := Blk.cell k1'.out 1 rfl
  have q0 := Blk.cell k2'.out 0 rfl
  have q1 := Blk.cell k2'.out 1 rfl
  have q2 := Blk.cell k2'.out 2 rfl
  have q3 := Blk.cell k2'.out 3 rfl
  have q4 := Blk.cell k2'.out 4 rfl
  have q5 := Blk.cell k2'.out 5 rfl
  have q6 := Blk.cell k2'.out 6 rfl
  have HM1 := Lib.hid hm1
  have HHas1 := Lib.hid hhas1
  have HM2 := Lib.hid hm2
  have HHas2 := Lib.hid hhas2
  have HA1 := Lib.hid hA1
  have HMod1 := Lib.hid hMod1
  have HNB := Lib.hid hnb
  clear hno hb1 k1 k2 hm1 hhas1 hm2 hhas2 hl hl2 c1 hA1 hMod1 hnb k1' k2'
  go_wp2_with fail
  go_end0
  have hMod2 : Mod (· = w1.heap.size) (setBlock (w1.alloc (.map #[] 0)) m o1) (setBlock (setBlock (w1.alloc (.map #[] 0)) m o1) w1.heap.size o2) := Mod.setBlock (F := (· = w1.heap.size)) rfl o2
  have hA2 : AreMaps (· = w1.heap.size) (setBlock (w1.alloc (.map #[] 0)) m o1) := fun q hq => by
    obtain ⟨arr, k, h1, _⟩ := HNB.out.block
    exact ⟨arr, k, by rw [hq]; exact h1⟩
  have hMod : Mod (· = m) w1 (setBlock (setBlock (w1.alloc (.map #[] 0)) m o1) w1.heap.size o2) := by
    refine ⟨rfl, rfl, rfl, by simp [setBlock], fun q hq hne => ?_⟩
    rw [hMod2.block q (Nat.lt_of_lt_of_le (Nat.lt_of_lt_of_le hq (by simp)) HMod1.out.size) (by omega), HMod1.out.block q (by simp; omega) hne]
    exact Below.heap_alloc _ _ _ hq
  have hH1 := HH.out.below HB1.out
  have hA : AreMaps (· = m) w1 := hH1.mapAre (fun q hq => by rw [hq]; exact hH1.foot)
  refine ⟨rfl, ⟨es1, fun q => F q ∨ q = w1.heap.size, hH1.new_hour HB.out hh ?_ HHas1.out (es1 := es2) ⟨HM2.out, fun x hx => ?_, fun e' he' => ?_⟩ ?_ (Nat.le_refl _) hMod ht he, fun q hq => ?_⟩, (Mod.of_below HB1.out).trans (hMod.mono fun q _ hq => by rw [hq]; exact HH.out.foot)⟩
  · exact HM1.out.same (hMod2.block m (by simp [setBlock]; omega) (by omega))
  · rcases (HHas2.out x.key x.val).1 ⟨x, hx, rfl, rfl⟩ with ⟨a1, a2⟩ | ⟨_, y, hy, _⟩
    · exact ⟨e, he, a1, by rw [a2, if_pos rfl]; exact (HV.out.below HB1.out).mod hMod hA, by rw [if_pos rfl]; exact hz⟩
    · cases hy
  · by_cases h0 : e' = e
    · subst h0
      obtain ⟨x, hx, a1, _⟩ := (HHas2.out (edgeVal e') _).2 (.inl ⟨rfl, rfl⟩)
      exact ⟨x, hx, a1⟩
    · rw [if_neg h0, HZ.out] at he'
      exact absurd rfl he'
  · obtain ⟨x, hx, _⟩ := (HHas2.out (edgeVal e) _).2 (.inl ⟨rfl, rfl⟩)
    exact List.ne_nil_of_mem hx
  · rcases hq with hq | rfl
    · exact .inl hq
    · exact .inr HB1.out.size

set_option maxRecDepth 100000 in
set_option maxHeartbeats 4000000 in
theorem set_none_there (w : World) (r m fan : Nat) (es es1 : List MapEntry) (M : Cont) (F : Nat → Prop) (hr b : Nat) (e : Edge) (v : Value) (h : RollAt w r m fan es M F) (hh : hr < limit) (he : EdgeOk e) (hv : TalAt w v tzero.raw)
    (hb : Has es (hourVal hr) (.map (some b))) (hi : InnerIs w b es1 (M hr)) (hbm : b ≠ m) (hFb : F b) :
    Calls Try.prog 27 #[.pointer (some ⟨r, 0, none⟩), hourVal hr, edgeVal e, v] w fun en w' => en = .returned (.tuple #[]) ∧ (∃ es', RollAt w' r m fan es' (upd M hr e tzero) F) ∧ Mod F w w' := by
  have hno := fun w' (hb : Below w.heap.size w w') => nothing_yes w' v (hv.below hb)
  obtain ⟨A, n, c, rfl, -, -, -⟩ := hv
  unfold talVal at *
  generalize natHi tzero.raw.calls = x1 at *
  generalize natLo tzero.raw.calls = x2 at *
  generalize natHi tzero.raw.errors = x3 at *
  generalize natLo tzero.raw.errors = x4 at *
  generalize natHi tzero.raw.took = x5 at *
  generalize natLo tzero.raw.took = x6 at *
  have HH := Lib.hid h
  have HB := Lib.hid hb
  have HI := Lib.hid hi
  have c1 := h.blk.cell 1 rfl
  have hs := h.blk.lt
  unfold edgeVal hourVal
  clear h hb hi
  go_enter Try.func27, Try.ntmps27
  go_wp2_with (rw [hour_there HH.out.map HB.out hh _ (bal (bal (brefl w) _) _)])
  refine (hno _ (bal (bal (brefl _) _) _)).mono ?_
  rintro en w1 ⟨rfl, hb1⟩
  have HB1 := Lib.hid (btrans (bal (bal (brefl w) _) _) hb1)
  have k1 : Blk w1 w.heap.size 40 [.string e.1, .string e.2] := Blk.below ((Blk.new _ _ _).alloc _) hb1
  have p1 := k1.cell 0 rfl
  have p2 := k1.cell 1 rfl
  have hI1 : InnerIs w1 b es1 (M hr) := HI.out.mod (F := fun _ => False) (Mod.of_below HB1.out) (fun _ h => h.elim) (fun h => h)
  obtain ⟨l, hl⟩ := edge_key he
  obtain ⟨o, es2, hrun, hm', -, hhas⟩ := hI1.map.drop (ty := 0) edgeKeyed Try.underlying75 hl
  unfold edgeVal at hrun
  have hlen := hm'.len (ty := 3) Try.underlying75
  have hF1 := (HH.out.below HB1.out)
  have hAb : AreMaps (· = b) w1 := hF1.mapAre (fun q hq => by rw [hq]; exact hFb)
  have hMod1 : Mod (· = b) w1 (setBlock w1 b o) := Mod.setBlock (F := (· = b)) rfl o
  have c1' := hMod1.cell hAb (bcell1 HB1.out c1)
  have hI2 := hI1.del hm' hhas (fun v s hv => hv.mod hMod1 hAb)
  have HMod1 := Lib.hid hMod1
  have HI2 := Lib.hid hI2
  have HHas := Lib.hid hhas
  have HM := Lib.hid hm'
  clear hno hb1 k1 hl c1 hm' hhas hI1 hAb hMod1 hI2
  by_cases h0 : es2 = []
  · subst h0
    obtain ⟨l, hl⟩ := hour_key hr hh
    have hmm : MapIs Try.prog 2 (setBlock w1 b o) m es := hF1.map.same (HMod1.out.block m hF1.map.lt (Ne.symm hbm))
    obtain ⟨o2, es3, hrun2, hm3, -, hhas3⟩ := hmm.drop (ty := 0) hourKeyed Try.underlying67 hl
    unfold hourVal at hrun2
    have HM3 := Lib.hid hm3
    have HHas3 := Lib.hid hhas3
    have HF1 := Lib.hid hF1
    clear hm3 hhas3 hl hmm hF1
    go_wp2_with fail
    refine bodyPost_ret (results_none rfl _ _ _) rfl ?_
    have hMod2 : Mod (· = m) (setBlock w1 b o) (setBlock (setBlock w1 b o) m o2) := Mod.setBlock (F := (· = m)) rfl o2
    have hMod : Mod (fun q => q = m ∨ q = b) w1 (setBlock (setBlock w1 b o) m o2) := (HMod1.out.mono fun q _ hq => .inr hq).trans (hMod2.mono fun q _ hq => .inl hq)
    refine ⟨rfl, ⟨es3, HF1.out.drop_hour hFb HM3.out HHas3.out (fun e' hne => ?_) HB.out hMod ?_⟩, (Mod.of_below HB1.out).trans (hMod.mono fun q _ hq => ?_)⟩
    · by_cases h1 : M hr e' = tzero
      · exact h1
      · obtain ⟨x, hx, _⟩ := HI2.out.all e' (by rw [if_neg hne]; exact h1)
        cases hx
    · obtain ⟨arr, k, h1, _⟩ := HM.out.block
      exact ⟨arr, k, by rw [hMod2.block b HM.out.lt hbm, h1]⟩
    · rcases hq with rfl | rfl
      · exact HH.out.foot
      · exact hFb
  · have hl0 : ((es2.length : Int) == 0) = false := beq_eq_false_iff_ne.2 (by
      have : es2.length ≠ 0 := fun e0 => h0 (List.eq_nil_of_length_eq_zero e0)
      omega)
    have H0 := Lib.hid h0
    have HF1 := Lib.hid hF1
    clear h0 hF1
    go_wp2_with fail
    refine bodyPost_ret (results_none rfl _ _ _) rfl ?_
    exact ⟨rfl, ⟨es, HF1.out.inner_set HB.out HI2.out H0.out HMod1.out tzero_ok he⟩, (Mod.of_below HB1.out).trans (HMod1.out.mono fun q _ hq => by rw [hq]; exact hFb)⟩

/-- rollup.set: an hour's edge has that tally from then on. -/
theorem set_any (w : World) (r m fan : Nat) (es : List MapEntry) (M : Cont) (F : Nat → Prop) (hr : Nat) (e : Edge) (v : Value) (t : Tal) (h : RollAt w r m fan es M F) (hh : hr < limit) (he : EdgeOk e) (hv : TalAt w v t.raw) (ht : t.Ok) :
    Calls Try.prog 27 #[.pointer (some ⟨r, 0, none⟩), hourVal hr, edgeVal e, v] w fun en w' => en = .returned (.tuple #[]) ∧ (∃ es' F', RollAt w' r m fan es' (upd M hr e t) F' ∧ ∀ q, F' q → F q ∨ w.heap.size ≤ q) ∧ Mod F w w' := by
  by_cases hz : t = tzero
  · subst hz
    rcases h.hour hr with ⟨hl, _⟩ | ⟨b, es1, hb, hi, _, hbm, hFb⟩
    · refine (set_none_absent w r m fan es M F hr e v h hh he hv hl).mono ?_
      rintro en w' ⟨h1, ⟨es', h2⟩, h3⟩
      exact ⟨h1, ⟨es', F, h2, fun q hq => .inl hq⟩, h3⟩
    · refine (set_none_there w r m fan es es1 M F hr b e v h hh he hv hb hi hbm hFb).mono ?_
      rintro en w' ⟨h1, ⟨es', h2⟩, h3⟩
      exact ⟨h1, ⟨es', F, h2, fun q hq => .inl hq⟩, h3⟩
  · rcases h.hour hr with ⟨hl, hzz⟩ | ⟨b, es1, hb, hi, _, hbm, hFb⟩
    · exact set_some_absent w r m fan es M F hr e v t h hh he hv ht hz hl hzz
    · refine (set_some_there w r m fan es es1 M F hr b e v t h hh he hv ht hz hb hi hbm hFb).mono ?_
      rintro en w' ⟨h1, h2, h3⟩
      exact ⟨h1, ⟨es, F, h2, fun q hq => .inl hq⟩, h3⟩
end Go.Proofs.Ytjfeeampcgmngaa
