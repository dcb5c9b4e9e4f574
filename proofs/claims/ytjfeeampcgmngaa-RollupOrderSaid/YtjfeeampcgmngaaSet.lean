/- rollup.set: what an hour's edge has from then on. -/
import Derived.Test.YtjfeeampcgmngaaRoll
namespace Go.Proofs.Ytjfeeampcgmngaa
open Go.RowKit Go.Shelf Go.Maps
open Go.ChangeMaps (setBlock)

theorem InnerIs.put {w w' : World} {b : Nat} {es es' : List MapEntry} {g : Edge → Tal} {e : Edge} {t : Tal} {val : Value} (h : InnerIs w b es g) (hm : MapIs Try.prog 40 w' b es')
    (hh : ∀ k v, Has es' k v ↔ (k = edgeVal e ∧ v = val) ∨ (k ≠ edgeVal e ∧ Has es k v)) (hv : TalAt w' val t.raw) (ht : t ≠ tzero) (he : EdgeOk e) (hk : ∀ v s, TalAt w v s → TalAt w' v s) :
    InnerIs w' b es' fun e' => if e' = e then t else g e' := by
  refine ⟨hm, fun x hx => ?_, fun e' he' => ?_⟩
  · rcases (hh x.key x.val).1 ⟨x, hx, rfl, rfl⟩ with ⟨h1, h2⟩ | ⟨h1, y, hy, h3, h4⟩
    · exact ⟨e, he, h1, by rw [h2, if_pos rfl]; exact hv, by rw [if_pos rfl]; exact ht⟩
    · obtain ⟨e', a1, a2, a3, a4⟩ := h.tells y hy
      have hne : e' ≠ e := fun e0 => h1 (by rw [← h3, a2, e0])
      exact ⟨e', a1, by rw [← h3, a2], by rw [if_neg hne, ← h4]; exact hk _ _ a3, by rw [if_neg hne]; exact a4⟩
  · by_cases h0 : e' = e
    · subst h0
      obtain ⟨x, hx, h1, _⟩ := (hh (edgeVal e') val).2 (.inl ⟨rfl, rfl⟩)
      exact ⟨x, hx, h1⟩
    · rw [if_neg h0] at he'
      obtain ⟨y, hy, h1⟩ := h.all e' he'
      obtain ⟨x, hx, h2, _⟩ := (hh (edgeVal e') y.val).2 (.inr ⟨fun e0 => h0 (edgeVal_inj e0), y, hy, h1, rfl⟩)
      exact ⟨x, hx, h2⟩
theorem InnerIs.del {w w' : World} {b : Nat} {es es' : List MapEntry} {g : Edge → Tal} {e : Edge} (h : InnerIs w b es g) (hm : MapIs Try.prog 40 w' b es')
    (hh : ∀ k v, Has es' k v ↔ k ≠ edgeVal e ∧ Has es k v) (hk : ∀ v s, TalAt w v s → TalAt w' v s) :
    InnerIs w' b es' fun e' => if e' = e then tzero else g e' := by
  refine ⟨hm, fun x hx => ?_, fun e' he' => ?_⟩
  · obtain ⟨h1, y, hy, h3, h4⟩ := (hh x.key x.val).1 ⟨x, hx, rfl, rfl⟩
    obtain ⟨e', a1, a2, a3, a4⟩ := h.tells y hy
    have hne : e' ≠ e := fun e0 => h1 (by rw [← h3, a2, e0])
    exact ⟨e', a1, by rw [← h3, a2], by rw [if_neg hne, ← h4]; exact hk _ _ a3, by rw [if_neg hne]; exact a4⟩
  · by_cases h0 : e' = e
    · rw [if_pos h0] at he'; exact absurd rfl he'
    · rw [if_neg h0] at he'
      obtain ⟨y, hy, h1⟩ := h.all e' he'
      obtain ⟨x, hx, h2, _⟩ := (hh (edgeVal e') y.val).2 ⟨fun e0 => h0 (edgeVal_inj e0), y, hy, h1, rfl⟩
      exact ⟨x, hx, h2⟩

/-- One hour's map turns, and is not empty. -/
theorem RollAt.inner_set {w w' : World} {r m fan : Nat} {es es1 : List MapEntry} {M : Cont} {F : Nat → Prop} {hr b : Nat} {e : Edge} {t : Tal} (h : RollAt w r m fan es M F) (hb : Has es (hourVal hr) (.map (some b)))
    (hi : InnerIs w' b es1 fun e' => if e' = e then t else M hr e') (hne : es1 ≠ []) (hm : Mod (· = b) w w') (ht : t.Ok) (he : EdgeOk e) : RollAt w' r m fan es (upd M hr e t) F := by
  obtain ⟨x0, hx0, k0, v0⟩ := hb
  obtain ⟨h0, b0, es0, i1, i2, i3, i4, i5, i6, i7⟩ := h.inner x0 hx0
  have hb0 : b0 = b := by rw [i3] at v0; simpa using v0
  have hh0 : h0 = hr := hourVal_inj (i2.symm.trans k0)
  subst hb0
  subst hh0
  have hA : AreMaps (· = b0) w := fun q hq => by rw [hq]; exact h.maps b0 i7
  refine ⟨hm.cells hA h.blk, h.map.same (hm.block m h.map.lt (Ne.symm i6)), fun x hx => ?_, fun h' e' h1 => ?_, h.apart, fun h' e' => ?_, h.foot, fun q hq => ?_⟩
  · obtain ⟨h', b', es', j1, j2, j3, j4, j5, j6, j7⟩ := h.inner x hx
    by_cases hbb : b' = b0
    · subst hbb
      have hkey : x.key = x0.key := h.apart x hx x0 hx0 (by rw [j3, i3])
      have : h' = h0 := hourVal_inj (by rw [← j2, hkey, i2])
      subst this
      refine ⟨h', b', es1, j1, j2, j3, ?_, hne, j6, j7⟩
      have e1 : upd M h' e t h' = fun e' => if e' = e then t else M h' e' := by
        funext e'
        unfold upd
        simp
      rw [e1]
      exact hi
    · have hne' : h' ≠ h0 := by
        intro e0
        subst e0
        have hkk : x.key = x0.key := by rw [j2, i2]
        by_cases hxx : x = x0
        · subst hxx
          rw [j3] at i3
          exact hbb (by simpa using i3)
        · exact absurd hkk (List.Pairwise.forall_of_forall_of_flip (R := fun a b => a ≠ b → a.key ≠ b.key) (by simp) (List.Pairwise.imp (R := fun a b : MapEntry => a.key ≠ b.key) (S := fun a b : MapEntry => a ≠ b → a.key ≠ b.key) (fun h _ => h) h.map.apart) (List.Pairwise.imp (R := fun a b : MapEntry => a.key ≠ b.key) (S := fun a b : MapEntry => b ≠ a → b.key ≠ a.key) (fun h _ e => h e.symm) h.map.apart) hx hx0 hxx)
      refine ⟨h', b', es', j1, j2, j3, ?_, j5, j6, j7⟩
      have e1 : upd M h0 e t h' = M h' := by
        funext e'
        unfold upd
        rw [if_neg (fun hh => hne' hh.1)]
      rw [e1]
      exact j4.mod hm hA hbb
  · unfold upd at h1
    split at h1
    · rename_i hh
      obtain ⟨rfl, rfl⟩ := hh
      exact ⟨i1, he, x0, hx0, i2⟩
    · exact h.all h' e' h1
  · unfold upd
    split
    · exact ht
    · exact h.ok h' e'
  · by_cases hqb : q = b0
    · subst hqb
      obtain ⟨arr, c, h1, _⟩ := hi.map.block
      exact ⟨arr, c, h1⟩
    · obtain ⟨arr, c, h1⟩ := h.maps q hq
      exact ⟨arr, c, by rw [hm.block q (Array.getElem?_eq_some_iff.1 h1).1 hqb, h1]⟩

theorem eql_edges (a : Option Nat) (w : World) : (binOp .eql 75 (.map a) (.map none)).run Try.prog w = .ok (.bool a.isNone) w := by
  exact run_eql_map_nil w _ _ _ a Try.underlying75
theorem zeroEdges (w : World) : (zeroValue 75).run Try.prog w = .ok (.map none) w := by kernel_rfl
theorem hour_there {w : World} {m : Nat} {es : List MapEntry} {hr : Nat} {v : Value} (h : MapIs Try.prog 2 w m es) (hb : Has es (hourVal hr) v) (hh : hr < limit) (w' : World) (hw : Below w.heap.size w w') :
    (Instr.lookup 67 (.map (some m)) (.int .i64 hr) false).run Try.prog w' = .ok v w' := by
  have h' := h.same (hw.block m h.lt)
  obtain ⟨l, hl⟩ := hour_key hr hh
  rcases h'.lookup false hourKeyed Try.underlying67 (zeroEdges w') hl with ⟨hlk, _⟩ | ⟨u, hu, hrun⟩
  · obtain ⟨x, hx, hk, _⟩ := hb
    exact absurd hk (hlk x hx)
  · rw [Has.unique h.apart hb hu]
    exact hrun
theorem hour_absent {w : World} {m : Nat} {es : List MapEntry} {hr : Nat} (h : MapIs Try.prog 2 w m es) (hb : Lacks es (hourVal hr)) (hh : hr < limit) (w' : World) (hw : Below w.heap.size w w') :
    (Instr.lookup 67 (.map (some m)) (.int .i64 hr) false).run Try.prog w' = .ok (.map none) w' := by
  have h' := h.same (hw.block m h.lt)
  obtain ⟨l, hl⟩ := hour_key hr hh
  rcases h'.lookup false hourKeyed Try.underlying67 (zeroEdges w') hl with ⟨_, hrun⟩ | ⟨u, ⟨x, hx, hk, _⟩, hrun⟩
  · exact hrun
  · exact absurd hk (hb x hx)

set_option maxRecDepth 100000 in
set_option maxHeartbeats 4000000 in
theorem set_some_there (w : World) (r m fan : Nat) (es es1 : List MapEntry) (M : Cont) (F : Nat → Prop) (hr b : Nat) (e : Edge) (v : Value) (t : Tal) (h : RollAt w r m fan es M F) (hh : hr < limit) (he : EdgeOk e) (hv : TalAt w v t.raw) (ht : t.Ok) (hz : t ≠ tzero)
    (hb : Has es (hourVal hr) (.map (some b))) (hi : InnerIs w b es1 (M hr)) (hbm : b ≠ m) (hFb : F b) :
    Calls Try.prog 27 #[.pointer (some ⟨r, 0, none⟩), hourVal hr, edgeVal e, v] w fun en w' => en = .returned (.tuple #[]) ∧ RollAt w' r m fan es (upd M hr e t) F ∧ Mod F w w' := by
  have hno := fun w' (hb : Below w.heap.size w w') => nothing_no w' t v (hv.below hb) hz
  have HV := Lib.hid hv
  obtain ⟨A, n, c, rfl, -, -, -⟩ := hv
  unfold talVal at *
  have HH := Lib.hid h
  have HB := Lib.hid hb
  have c1 := h.blk.cell 1 rfl
  have hs := h.blk.lt
  have heq := eql_edges (some b)
  unfold edgeVal hourVal
  have HI := Lib.hid hi
  clear h hi hb
  go_enter Try.func27, Try.ntmps27
  go_wp2_with (rw [hour_there HH.out.map HB.out hh _ (bal (bal (brefl w) _) _)])
  refine (hno _ (bal (bal (brefl _) _) _)).mono ?_
  rintro en w1 ⟨rfl, hb1⟩
  have HB1 := Lib.hid (btrans (bal (bal (brefl w) _) _) hb1)
  have k1 : Blk w1 w.heap.size 40 [.string e.1, .string e.2] := Blk.below ((Blk.new _ _ _).alloc _) hb1
  have k2 : Blk w1 (w.heap.size + 1) 46 [.int .u64 (natHi t.raw.calls), .int .u64 (natLo t.raw.calls), .int .u64 (natHi t.raw.errors), .int .u64 (natLo t.raw.errors), .int .u64 (natHi t.raw.took), .int .u64 (natLo t.raw.took), .slice A n c] := Blk.below (Blk.new_ _ _ _ (by simp)) hb1
  obtain ⟨l, hl⟩ := edge_key he
  obtain ⟨o, es', hrun, hm', -, hhas⟩ := (HI.out.map.same (HB1.out.block b HI.out.map.lt)).update edgeKeyed Try.underlying75 (val := .agg #[.int .u64 (natHi t.raw.calls), .int .u64 (natLo t.raw.calls), .int .u64 (natHi t.raw.errors), .int .u64 (natLo t.raw.errors), .int .u64 (natHi t.raw.took), .int .u64 (natLo t.raw.took), .slice A n c]) hl
  unfold edgeVal at hrun
  have p1 := k1.cell 0 rfl
  have p2 := k1.cell 1 rfl
  have q0 := k2.cell 0 rfl
  have q1 := k2.cell 1 rfl
  have q2 := k2.cell 2 rfl
  have q3 := k2.cell 3 rfl
  have q4 := k2.cell 4 rfl
  have q5 := k2.cell 5 rfl
  have q6 := k2.cell 6 rfl
  have HM := Lib.hid hm'
  have HHas := Lib.hid hhas
  clear hno hb1 k1 k2 hm' hhas hl c1
  go_wp2_with fail
  go_end0
  have hF : AreMaps F w1 := fun q hq => by
    obtain ⟨arr, c, h1⟩ := HH.out.maps q hq
    exact ⟨arr, c, by rw [HB1.out.block q (Array.getElem?_eq_some_iff.1 h1).1, h1]⟩
  have hFb' : AreMaps (· = b) w1 := fun q hq => by rw [hq]; exact hF b hFb
  have hMod : Mod (· = b) w1 (setBlock w1 b o) := Mod.setBlock (F := (· = b)) rfl o
  refine ⟨rfl, (HH.out.below HB1.out).inner_set HB.out ((InnerIs.put ⟨HI.out.map.same (HB1.out.block b HI.out.map.lt), fun x hx => ?_, HI.out.all⟩ HM.out HHas.out ?_ hz he fun v s hv => hv.mod hMod hFb')) ?_ hMod ht he, (Mod.of_below HB1.out).trans (hMod.mono fun q _ hq => by rw [hq]; exact hFb)⟩
  · obtain ⟨e', a1, a2, a3, a4⟩ := HI.out.tells x hx
    exact ⟨e', a1, a2, a3.below HB1.out, a4⟩
  · exact (HV.out.below HB1.out).mod hMod hFb'
  · obtain ⟨x, hx, _⟩ := (HHas.out (edgeVal e) _).2 (.inl ⟨rfl, rfl⟩)
    exact List.ne_nil_of_mem hx
end Go.Proofs.Ytjfeeampcgmngaa
