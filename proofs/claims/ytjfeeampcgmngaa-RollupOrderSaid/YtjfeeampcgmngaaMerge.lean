/- rollup.Merge. -/
import Derived.Test.YtjfeeampcgmngaaSum2
import Derived.Test.YtjfeeampcgmngaaMrow
namespace Go.Proofs.Ytjfeeampcgmngaa
open Go.RowKit Go.Shelf Go.Maps

def MrgOuter (w : World) (Mo : Cont) (m : Nat) (es : List MapEntry) (v : Value) (wr : World) : Prop :=
  ∃ left done, IterIs wr w.heap.size m es left ∧ RowsAt w Mo (PendO Mo left) v wr done
def MrgInner (w : World) (Mo : Cont) (m b ri hr : Nat) (es eb left : List MapEntry) (v : Value) (wr : World) : Prop :=
  ∃ lb done, IterIs wr w.heap.size m es left ∧ IterIs wr ri b eb lb ∧ RowsAt w Mo (PendI Mo left hr lb) v wr done
/-- Rows that lie in memory. -/
def RowsIn (w : World) (A : Option Addr) (Mo : Cont) (done : List MRow) : Prop :=
  (∀ x ∈ done, RTell w Mo x) ∧ (0 < done.length → ∃ g, A = some ⟨g, 0, none⟩ ∧ ∀ (i : Nat) (x : MRow), done[i]? = some x → ∀ (j : Nat) u, (encR x)[j]? = some u → w.cell? ⟨g, i * 10 + j, none⟩ = some u)
theorem rows_of_own {W w : World} {Mo : Cont} {P : Nat → Edge → Prop} {v : Value} {done : List MRow} (h : RowsAt W Mo P v w done) : ∃ A c, v = .slice A done.length c ∧ RowsIn w A Mo done := by
  have ht : ∀ x ∈ done, RTell w Mo x := fun x hx => ⟨(h.tell x hx).1, (h.tell x hx).2.1, (h.tell x hx).2.2.1.below h.below, (h.tell x hx).2.2.2⟩
  rcases h.own.2 with ⟨rfl, h0⟩ | ⟨g, cap, cur, rfl, hb, hh, hnc, hcm, hcs, hcur⟩
  · rw [h0]
    exact ⟨none, 0, rfl, ht, fun h => absurd h (by omega)⟩
  · refine ⟨some ⟨g, 0, none⟩, cap, rfl, ht, fun _ => ⟨g, rfl, fun i x hi j u hu => ?_⟩⟩
    have hj : j < 10 := by
      have := (List.getElem?_eq_some_iff.1 hu).1
      rw [encR_length] at this
      exact this
    have hk := mrCells_get done i x hi j hj
    rw [hu] at hk
    rw [← hcur] at hk
    rw [List.getElem?_take] at hk
    split at hk
    · simp [World.cell?, hh]
      simpa using hk
    · cases hk
theorem RowsIn.mod {F : Nat → Prop} {w w' : World} {A : Option Addr} {Mo : Cont} {done : List MRow} (h : RowsIn w A Mo done) (hm : Mod F w w') (hF : AreMaps F w) : RowsIn w' A Mo done :=
  ⟨fun x hx => ⟨(h.1 x hx).1, (h.1 x hx).2.1, (h.1 x hx).2.2.1.mod hm hF, (h.1 x hx).2.2.2⟩, fun hn => by
    obtain ⟨g, rfl, hc⟩ := h.2 hn
    exact ⟨g, rfl, fun i x hi j u hu => hm.cell hF (hc i x hi j u hu)⟩⟩
theorem RowsIn.below {w w' : World} {A : Option Addr} {Mo : Cont} {done : List MRow} (h : RowsIn w A Mo done) (hb : Below w.heap.size w w') : RowsIn w' A Mo done :=
  h.mod (F := fun _ => False) (Mod.of_below hb) (fun _ h => h.elim)

def MrgPut (W : World) (r m fan : Nat) (M Mo : Cont) (F : Nat → Prop) (A : Option Addr) (done : List MRow) (i : Value) (wr : World) : Prop :=
  ∃ k es F', k ≤ done.length ∧ i = .int .i64 k ∧ RollAt wr r m fan es (mfold M Mo (done.take k)) F' ∧ (∀ q, F' q → F q ∨ W.heap.size ≤ q) ∧ Mod F W wr ∧ RowsIn wr A Mo done
def MergePost (w : World) (r m fan : Nat) (M Mo : Cont) (F : Nat → Prop) (en : Ending) (w' : World) : Prop :=
  en = .returned (.int .i64 0) ∧ (∃ es' F', RollAt w' r m fan es' (fun h e => tadd (M h e) (Mo h e)) F' ∧ ∀ q, F' q → F q ∨ w.heap.size ≤ q) ∧ Mod F w w'

set_option maxRecDepth 100000 in
set_option maxHeartbeats 4000000 in
theorem Merge_ok (w : World) (r m fan : Nat) (es : List MapEntry) (M : Cont) (F : Nat → Prop) (o mo : Nat) (eo : List MapEntry) (Mo : Cont) (Fo : Nat → Prop) (h : RollAt w r m fan es M F) (ho : RollAt w o mo fan eo Mo Fo) (N : Nat) (hN : N * 112 ≤ 140737488355328) (hf : Few N Mo) :
    Calls Try.prog 12 #[.pointer (some ⟨r, 0, none⟩), .pointer (some ⟨o, 0, none⟩)] w (MergePost w r m fan M Mo F) := by
  have HH := Lib.hid h
  have HO := Lib.hid ho
  have HN := Lib.hid hN
  have HF := Lib.hid hf
  obtain ⟨i0, hi0, hz0, hz1, hz2⟩ := info_parts mrInfo
  have c0 := h.blk.cell 0 rfl
  have d0 := ho.blk.cell 0 rfl
  have d1 := ho.blk.cell 1 rfl
  have hs := h.blk.lt
  have hos := ho.blk.lt
  have hms := ho.map.lt
  have HR := Lib.hid (fun W (hb : Below w.heap.size w W) => (ho.below hb).map.range Try.underlying67)
  clear h ho hN hf
  go_enter Try.func12, Try.ntmps12
  go_wp2_with fail
  go_quiet (fail)
  obtain ⟨W, hW⟩ : ∃ W, W = w.drewN nq := ⟨_, rfl⟩
  rw [← hW]
  have hbW : Below w.heap.size w W := by rw [hW]; exact below_drewN (brefl _) _
  have HBW := Lib.hid hbW
  have HHW := Lib.hid (HH.out.below hbW)
  have HOW := Lib.hid (HO.out.below hbW)
  have e1 := bcell1 hbW d1
  obtain ⟨o1, hrange, hiter⟩ := HR.out W hbW
  have HI := Lib.hid hiter
  have hos := HOW.out.map.lt
  clear hbW hW c0 d0 d1 hiter HR
  go_wp2_with (rw [hrange])
  clear hrange
  go_loopw [5, 30] (fun v _ wr => MrgOuter W Mo mo eo v wr) (fun _ _ wr => iterLeft wr W.heap.size)
  case atStart => exact ⟨eo, [], HI.out, World.ownsRow_nil _ _ _ _, (fun x hx => by cases hx), by simp, (fun x hx => by cases hx), fun hr e he => .inl ⟨(HOW.out.all hr e he).2.2, he⟩, bal (brefl _) _⟩
  case round =>
    obtain ⟨left, done, hit, hrows⟩ := hrel
    have hmw := HOW.out.map.same (hrows.below.block mo hos)
    have hcnt := Lib.hid hit.count
    have HROWS := Lib.hid hrows
    rcases hit.next (ty := 0) hmw (by omega) with ⟨rfl, hrun⟩ | ⟨x, left', w1, hw1, hp, hrun, hit', hent⟩
    · -- all rows are laid out
      have hdone := Lib.hid (hrows.folded (M := M) (fun h e ⟨⟨x, hx, _⟩, _⟩ => by cases hx) HH.out.ok)
      have hcount := hrows.count HF.out
      have hN := HN.out
      have hbr := Lib.hid hrows.below
      obtain ⟨A, c, hv, hin⟩ := rows_of_own hrows
      subst hv
      have HIN := Lib.hid hin
      clear hrows hmw hit hcnt hin
      go_wp2_with (first | rw [hrun])
      clear hrun
      obtain ⟨V, rfl⟩ : ∃ V, V = wr := ⟨_, rfl⟩
      go_loopw [51] (fun i wr' => MrgPut V r m fan M Mo F A done i wr') (fun i _ => done.length - (intOf i).toNat)
      case atStart => exact ⟨0, es, F, Nat.zero_le _, rfl, by simpa [mfold] using HHW.out.below hbr.out, fun q hq => .inl hq, Mod.refl _ _, HIN.out⟩
      case round =>
        obtain ⟨k, es1, F1, hk, rfl, hroll, hF1, hmod, hrin⟩ := hrel
        by_cases hlt : k < done.length
        · obtain ⟨x, hx⟩ : ∃ x, done[k]? = some x := ⟨done[k], List.getElem?_eq_getElem hlt⟩
          obtain ⟨t1, t2, t3, t4⟩ := hrin.1 x (List.mem_of_getElem? hx)
          obtain ⟨g, hA, hcell⟩ := hrin.2 (by omega)
          subst hA
          have k0 : wr.cell? ⟨g, k * 10, none⟩ = some (.int .i64 x.h) := hcell k x hx 0 _ rfl
          have k1 : wr.cell? ⟨g, k * 10 + 1, none⟩ = some (.string x.d.e.1) := hcell k x hx 1 _ rfl
          have k2 : wr.cell? ⟨g, k * 10 + 2, none⟩ = some (.string x.d.e.2) := hcell k x hx 2 _ rfl
          have k3 : wr.cell? ⟨g, k * 10 + 3, none⟩ = some (.int .u64 (natHi x.d.calls)) := hcell k x hx 3 _ rfl
          have k4 : wr.cell? ⟨g, k * 10 + 4, none⟩ = some (.int .u64 (natLo x.d.calls)) := hcell k x hx 4 _ rfl
          have k5 : wr.cell? ⟨g, k * 10 + 5, none⟩ = some (.int .u64 (natHi x.d.errors)) := hcell k x hx 5 _ rfl
          have k6 : wr.cell? ⟨g, k * 10 + 6, none⟩ = some (.int .u64 (natLo x.d.errors)) := hcell k x hx 6 _ rfl
          have k7 : wr.cell? ⟨g, k * 10 + 7, none⟩ = some (.int .u64 (natHi x.d.took)) := hcell k x hx 7 _ rfl
          have k8 : wr.cell? ⟨g, k * 10 + 8, none⟩ = some (.int .u64 (natLo x.d.took)) := hcell k x hx 8 _ rfl
          have k9 : wr.cell? ⟨g, k * 10 + 9, none⟩ = some (.slice x.d.A x.d.n x.d.c) := hcell k x hx 9 _ rfl
          have hb1 : Below wr.heap.size wr (wr.alloc (Obj.cells #[.int .i64 x.h, .string x.d.e.1, .string x.d.e.2, .int .u64 (natHi x.d.calls), .int .u64 (natLo x.d.calls), .int .u64 (natHi x.d.errors), .int .u64 (natLo x.d.errors), .int .u64 (natHi x.d.took), .int .u64 (natLo x.d.took), .slice x.d.A x.d.n x.d.c] 77)) := bal (brefl _) _
          have hput := Put_ok _ r m fan es1 _ F1 x.h x.d.e x.d.val (Mo x.h x.d.e) (hroll.below hb1) t1 t2 (t3.below hb1) (HO.out.ok _ _)
          unfold ETV.val talVal edgeVal hourVal at hput
          have HPUT := Lib.hid hput
          have HRIN := Lib.hid (hrin.below hb1)
          have HMOD := Lib.hid (hmod.trans (Mod.of_below hb1))
          have HF1 := Lib.hid hF1
          have HX := Lib.hid hx
          have HMAPS := Lib.hid (hroll.below hb1).maps
          have HSZ := Lib.hid (Nat.le_trans hmod.size hb1.size)
          have hs1 := hroll.blk.lt
          clear hput hrin hmod hF1 hx hb1 hroll hcell t1 t2 t3 t4
          go_wp2_with fail
          refine HPUT.out.mono ?_
          rintro en w2 ⟨rfl, ⟨es2, F2, hr2, hF2⟩, hm2⟩
          have HR2 := Lib.hid hr2
          have HF2 := Lib.hid (show ∀ q, F2 q → F q ∨ V.heap.size ≤ q from fun q hq => by
            rcases hF2 q hq with h1 | h1
            · exact HF1.out q h1
            · exact .inr (Nat.le_trans HSZ.out h1))
          have HM2 := Lib.hid (show Mod F V w2 from (HMOD.out.mono (G := fun q => F q ∨ V.heap.size ≤ q) (fun _ _ h => .inl h)).trans (hm2.mono (fun q _ hq => HF1.out q hq)) |>.mono (fun q hq h => h.resolve_right (by omega)))
          have HRIN2 := Lib.hid (HRIN.out.mod hm2 HMAPS.out)
          have HTAKE := Lib.hid (show mfold M Mo (done.take (k + 1)) = upd (mfold M Mo (done.take k)) x.h x.d.e (tadd (mfold M Mo (done.take k) x.h x.d.e) (Mo x.h x.d.e)) by
            rw [List.take_add_one, HX.out]
            rw [mfold_append]
            rfl)
          clear hr2 hF2 hm2
          go_wp2_with fail
          go_roundw
          case rel => exact ⟨k + 1, es2, F2, by omega, by go_num, by rw [HTAKE.out]; exact HR2.out, HF2.out, HM2.out, HRIN2.out⟩
          case measure => simp [intOf]; omega
        · have hkd : k = done.length := by omega
          subst hkd
          have HROLL := Lib.hid hroll
          have HMOD := Lib.hid hmod
          have HF1 := Lib.hid hF1
          clear hroll hmod hF1 hrin
          go_wp2_with fail
          go_ret
          refine ⟨rfl, ⟨es1, F1, ?_, fun q hq => ?_⟩, ?_⟩
          · rw [← hdone.out]
            have := HROLL.out
            rw [List.take_length] at this
            exact this
          · rcases HF1.out q hq with h1 | h1
            · exact .inl h1
            · exact .inr (Nat.le_trans (btrans HBW.out hbr.out).size h1)
          · exact (Mod.of_below (btrans HBW.out hbr.out)).trans HMOD.out
    · have hx : x ∈ eo := hit.mem x (hp.mem_iff.2 (by simp))
      obtain ⟨hr, b, eb, q1, q2, q3, q4, q5, q6, q7⟩ := HOW.out.inner x hx
      rw [q2, q3] at hrun hent
      unfold hourVal at hrun hent
      have hb1 : Below W.heap.size W w1 := Mod.toBelow hrows.below (next_mod hw1) (fun q hq => by rw [hq]; exact Nat.le_refl _)
      have hinb : InnerIs w1 b eb (Mo hr) := q4.below hb1
      obtain ⟨o2, hrange2, hit2⟩ := hinb.map.range Try.underlying75
      have hmeas : iterLeft w1 W.heap.size < iterLeft wr W.heap.size := by
        rw [hcnt.out, hit'.count, hp.length_eq]
        simp
      have hleft := apart_head (hit.apart hmw) hp
      have HLEFT := Lib.hid (show ∀ y ∈ left', y.key ≠ hourVal hr from fun y hy => by rw [← q2]; exact hleft y hy)
      have hri : W.heap.size < w1.heap.size := hit'.lt
      have hbne : b ≠ w1.heap.size := fun e => by have := hinb.blk; omega
      have hbw : b < W.heap.size := q4.blk
      have HR1 := Lib.hid ((((hrows.next hb1 (own_iter hrows.own hit hw1.2.2.2.2)).congr (pend_enter hp q2 q4))).next (bal hb1 o2) ((own_iter hrows.own hit hw1.2.2.2.2).alloc o2))
      have HIT := Lib.hid (hit'.kept (bal (brefl _) o2) (by have := hb1.size; omega))
      have HIT2 := Lib.hid hit2
      have HQ := Lib.hid (And.intro q1 q4)
      have HLEN := Lib.hid (show left'.length < iterLeft wr W.heap.size by rw [hcnt.out, hp.length_eq]; simp)
      clear hrows hmw hit hcnt hw1 hp hit' hx q1 q2 q3 q4 q5 q6 q7 hb1 hinb hit2 hleft
      go_wp2_with (first | rw [hrun] | rw [hent] | rw [hrange2])
      clear hrun hent hrange2
      go_loopw [5, 37] (fun v _ wr => MrgInner W Mo mo b w1.heap.size hr eo eb left' v wr) (fun _ _ wr => iterLeft wr w1.heap.size)
      case atStart => exact ⟨eb, done, HIT.out, HIT2.out, HR1.out⟩
      case round =>
        obtain ⟨lb, done2, it1, it2, hrows⟩ := hrel
        have hinb : InnerIs wr b eb (Mo hr) := HQ.out.2.below hrows.below
        have hcnt2 := Lib.hid it2.count
        have HROWS2 := Lib.hid hrows
        rcases it2.next (ty := 0) hinb.map (Ne.symm hbne) with ⟨rfl, hrun⟩ | ⟨y, lb', w2, hw2, hp2, hrun, it2', hent⟩
        · have HR3 := Lib.hid (hrows.congr (pend_leave Mo left' hr))
          have HI1 := Lib.hid it1
          have hm2 : iterLeft wr W.heap.size = left'.length := it1.count
          clear it1 it2 hrows hinb
          go_wp2_with (first | rw [hrun])
          go_roundw
          case rel => exact ⟨left', done2, HI1.out, HR3.out⟩
          case measure =>
            rw [hm2]
            exact HLEN.out
        · have hy : y ∈ eb := it2.mem y (hp2.mem_iff.2 (by simp))
          obtain ⟨e, he, hk, hval, hz⟩ := HQ.out.2.tells y hy
          have hval' := hval
          obtain ⟨A, k, c, hv, -, -⟩ := hval'
          have HT := Lib.hid (show RTell W Mo ⟨hr, ⟨e, (Mo hr e).raw.calls, (Mo hr e).raw.errors, (Mo hr e).raw.took, A, k, c⟩⟩ from ⟨HQ.out.1, he, by rw [hv] at hval; exact hval, hz⟩)
          have HD := Lib.hid (show encR ⟨hr, ⟨e, (Mo hr e).raw.calls, (Mo hr e).raw.errors, (Mo hr e).raw.took, A, k, c⟩⟩ = [.int .i64 hr, .string e.1, .string e.2, .int .u64 (natHi (Mo hr e).raw.calls), .int .u64 (natLo (Mo hr e).raw.calls), .int .u64 (natHi (Mo hr e).raw.errors), .int .u64 (natLo (Mo hr e).raw.errors), .int .u64 (natHi (Mo hr e).raw.took), .int .u64 (natLo (Mo hr e).raw.took), .slice A k c] from rfl)
          rw [hk, hv] at hrun hent
          unfold edgeVal talVal at hrun hent
          have hroom := hrows.room HF.out (.inr ⟨rfl, y, hp2.mem_iff.2 (by simp), hk⟩) hz
          have HP2 := Lib.hid hp2
          generalize natHi (Mo hr e).raw.calls = x1, natLo (Mo hr e).raw.calls = x2, natHi (Mo hr e).raw.errors = x3, natLo (Mo hr e).raw.errors = x4, natHi (Mo hr e).raw.took = x5, natLo (Mo hr e).raw.took = x6 at hrun hent HD
          have hb2 : Below W.heap.size W w2 := Mod.toBelow hrows.below (next_mod hw2) (fun q hq => by rw [hq]; omega)
          have HB2 := Lib.hid hb2
          have HOWN := Lib.hid (own_iter hrows.own it2 hw2.2.2.2.2)
          have hNN := HN.out
          have HI1 := Lib.hid (it1.same (hw2.2.2.2.2 _ (by omega)) (hw2.2.2.2.2 _ (by omega)))
          have HI2 := Lib.hid it2'
          have HAP := Lib.hid (apart_head (it2.apart hinb.map) hp2)
          have HK := Lib.hid hk
          have hM2 := Lib.hid (show MapIs Try.prog 2 w2 mo eo from HOW.out.map.same (hb2.block mo hos))
          have hMB := Lib.hid (show MapIs Try.prog 40 w2 b eb from HQ.out.2.map.same (hb2.block b hbw))
          clear it1 it2 hrows hinb hw2 it2' hp2 hval hv hy hk hz hb2
          go_wp2_with (first | rw [hrun] | rw [hent] | (at_builtin; refine wpList_append_own _ rfl _ _ 73 rfl (W.heap.size + 1) 77 i0 (.agg #[.int .i64 0, .string ByteArray.empty, .string ByteArray.empty, .int .u64 0, .int .u64 0, .int .u64 0, .int .u64 0, .int .u64 0, .int .u64 0, .slice none 0 0]) 10 112 Try.underlying73 hi0 hz0 hz1 hz2 rfl (by decide) _ _ _ rfl (((HOWN.out.alloc _).alloc _).alloc _) ⟨w2.heap.size + 2, 0, none⟩ 1 1 [.int .i64 hr, .string e.1, .string e.2, .int .u64 x1, .int .u64 x2, .int .u64 x3, .int .u64 x4, .int .u64 x5, .int .u64 x6, .slice A k c] rfl rfl ?c1 ?c2 ?c3 ?c4 ?c5 ?_))
          case c1 =>
            intro j u h
            have := cells_new ((w2.alloc (Obj.cells #[Value.string e.1, Value.string e.2] 40)).alloc (Obj.cells #[.int .u64 x1, .int .u64 x2, .int .u64 x3, .int .u64 x4, .int .u64 x5, .int .u64 x6, .slice A k c] 46)) [.int .i64 hr, .string e.1, .string e.2, .int .u64 x1, .int .u64 x2, .int .u64 x3, .int .u64 x4, .int .u64 x5, .int .u64 x6, .slice A k c] 77 j u h
            simpa using this
          case c2 => simp [Value.oneCell']
          case c3 => unfold maxLen; omega
          case c4 => omega
          case c5 =>
            have := HB2.out.size
            have := HI2.out.lt
            simp
            omega
          intro v' w3 hown hgrow _
          have hb3 := bal (bal (bal (brefl w2) (Obj.cells #[Value.string e.1, Value.string e.2] 40)) (Obj.cells #[.int .u64 x1, .int .u64 x2, .int .u64 x3, .int .u64 x4, .int .u64 x5, .int .u64 x6, .slice A k c] 46)) (Obj.cells #[.int .i64 hr, .string e.1, .string e.2, .int .u64 x1, .int .u64 x2, .int .u64 x3, .int .u64 x4, .int .u64 x5, .int .u64 x6, .slice A k c] 77)
          have hbb : Below W.heap.size W w3 := (bal (bal (bal HB2.out _) _) _).grown hgrow (bal (bal (bal HB2.out _) _) _).size fun q hq => by
            have := own_ge HOWN.out hq
            omega
          have hi1 : IterIs w3 W.heap.size mo eo left' := (HI1.out.kept hb3 (by have := HB2.out.size; omega)).grown (((HOWN.out.alloc _).alloc _).alloc _) hgrow (hM2.out.same (hb3.block _ hM2.out.lt))
          have hi2 : IterIs w3 w1.heap.size b eb lb' := (HI2.out.kept hb3 hMB.out.lt).grown (((HOWN.out.alloc _).alloc _).alloc _) hgrow (hMB.out.same (hb3.block _ hMB.out.lt))
          have hx2 : PendI Mo left' hr lb hr e := .inr ⟨rfl, y, HP2.out.mem_iff.2 (by simp), HK.out⟩
          have HR3 := Lib.hid (HROWS2.out.step (x := ⟨hr, ⟨e, (Mo hr e).raw.calls, (Mo hr e).raw.errors, (Mo hr e).raw.took, A, k, c⟩⟩) hx2 (pend_step HP2.out HK.out HAP.out HLEFT.out) HT.out (by rw [HD.out]; exact hown) hbb)
          have HII1 := Lib.hid hi1
          have HII2 := Lib.hid hi2
          have hdec := Lib.hid (show iterLeft w3 w1.heap.size < iterLeft wr w1.heap.size by rw [hi2.count, hcnt2.out, HP2.out.length_eq]; simp)
          clear hown hgrow hbb hi1 hi2 hNN hx2 hb3
          go_wp2
          go_roundw
          case rel => exact ⟨lb', _, HII1.out, HII2.out, HR3.out⟩
          case measure => exact hdec.out
end Go.Proofs.Ytjfeeampcgmngaa
