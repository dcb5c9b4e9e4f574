/- rollup.sum: walked. -/
import Derived.Test.YtjfeeampcgmngaaSort
import Derived.Carry
namespace Go.Proofs.Ytjfeeampcgmngaa
open Go.RowKit Go.Shelf Go.Maps
open Go.ChangeMaps (setBlock)

/-- What lies there at the head of the outer loop. -/
def SumLoop (w : World) (m : Nat) (es : List MapEntry) (M : Cont) (lo n : Nat) (wr : World) : Prop :=
  ∃ left ea g, IterIs wr (w.heap.size + 1) m es left ∧ InnerIs wr w.heap.size ea g ∧ (∀ e, (g e).Ok) ∧ Whole M lo n left g ∧ Below w.heap.size w wr ∧ ∀ x ∈ ea, TalFrom w.heap.size x.val
/-- .. of the inner one. -/
def SumInner (w : World) (m b ri : Nat) (es eb left : List MapEntry) (g0 Mh : Edge → Tal) (wr : World) : Prop :=
  ∃ lb ea g, IterIs wr (w.heap.size + 1) m es left ∧ IterIs wr ri b eb lb ∧ InnerIs wr w.heap.size ea g ∧ (∀ e, (g e).Ok) ∧ Part g0 Mh lb g ∧ Below w.heap.size w wr ∧ ∀ x ∈ ea, TalFrom w.heap.size x.val

set_option maxRecDepth 100000 in
set_option maxHeartbeats 4000000 in
theorem sum_any (w : World) (r m fan : Nat) (es : List MapEntry) (M : Cont) (F : Nat → Prop) (lo n to : Nat) (h : RollAt w r m fan es M F) (N : Nat) (hN : N * 112 ≤ 140737488355328) (hf : Few N M) (hto : to = lo + n) (hlo : to ≤ 1099511627776) :
    Calls Try.prog 28 #[.pointer (some ⟨r, 0, none⟩), .int .i64 lo, .int .i64 to] w fun en w' => ∃ A k c L, en = .returned (.slice A k c) ∧ EdgesAt w.heap.size w' A k L ∧ Tells L (fun e => hsum M e lo n) ∧ Below w.heap.size w w' := by
  have HH := Lib.hid h
  have HLO := Lib.hid hlo
  have HN := Lib.hid hN
  have HF := Lib.hid hf
  obtain ⟨i0, hi0, hz0, hz1, hz2⟩ := info_parts etInfo
  have HTO := Lib.hid hto
  have c1 := h.blk.cell 1 rfl
  have hs := h.blk.lt
  have hms := h.map.lt
  have hmm := @run_makeMap Try.prog
  obtain ⟨o, hrange, hiter⟩ := (h.map.same ((bal (brefl w) (.map #[] 0)).block m h.map.lt)).range Try.underlying67
  have HI := Lib.hid hiter
  clear h hlo hto hiter hN hf
  go_enter Try.func28, Try.ntmps28
  go_wp2_with (rw [hrange])
  clear hrange hmm
  go_loopw [21] (fun _ wr => SumLoop w m es M lo n wr) (fun _ wr => iterLeft wr (w.heap.size + 1))
  case atStart => exact ⟨es, [], fun _ => tzero, by simpa using HI.out, (InnerIs.made w).below (bal (brefl _) _), fun _ => tzero_ok, by have := Whole.start HH.out lo n; exact this, bal (bal (brefl _) _) _, fun x hx => by cases hx⟩
  case round =>
    obtain ⟨left, ea, g, hit, hin, hok, hwh, hb, hfr⟩ := hrel
    have HFR := Lib.hid hfr
    clear hfr
    have HB := Lib.hid hb
    have HIN := Lib.hid hin
    have HOK := Lib.hid hok
    have HWH := Lib.hid hwh
    have hmw := HH.out.map.same (hb.block m hms)
    have hcnt := Lib.hid hit.count
    rcases hit.next (ty := 0) hmw (by omega) with ⟨rfl, hrun⟩ | ⟨x, left', w1, hw1, hp, hrun, hit', hent⟩
    · obtain ⟨W, rfl⟩ : ∃ W, W = wr := ⟨_, rfl⟩
      obtain ⟨o3, hrange3, hit3⟩ := hin.map.range Try.underlying75
      have HG := Lib.hid (hwh.done hok)
      have HO3 := Lib.hid (OutAt.start (B := w.heap.size) hin hit3 (bal (brefl _) _))
      have hbW : w.heap.size < W.heap.size := hin.blk
      clear hb hin hok hwh hmw hit hcnt hit3 HWH
      go_wp2_with (first | rw [hrun] | rw [hrange3])
      clear hrun hrange3
      go_loopw [12, 53] (fun v _ wr' => OutLoop w.heap.size W w.heap.size ea g v wr') (fun _ _ wr' => iterLeft wr' W.heap.size)
      case atStart => exact ⟨ea, [], HO3.out⟩
      case round =>
        obtain ⟨left, done, ho⟩ := hrel
        have HM := Lib.hid (HIN.out.below ho.below)
        have hcnt := Lib.hid ho.iter.count
        have HO := Lib.hid ho
        rcases ho.iter.next (ty := 0) HM.out.map (by omega) with ⟨rfl, hrun⟩ | ⟨x, left', w2, hw2, hp, hrun, hit', hent⟩
        · have hlen : done.length ≤ N := ho.count HF.out HG.out
          have hN := HN.out
          have hsort := Lib.hid (sort_out ho (by omega) (by omega))
          clear ho hlen hN
          go_wp2_with (first | rw [hrun])
          refine hsort.out.mono ?_
          rintro en w5 ⟨rfl, A, c, L, rfl, hed, htl, hbl⟩
          have HED := Lib.hid hed
          have HTL := Lib.hid htl
          have HBL := Lib.hid hbl
          clear hed htl hbl hsort hrun
          go_wp2_with fail
          go_ret
          exact ⟨A, _, c, L, rfl, HED.out, by rw [← show g = (fun e => hsum M e lo n) from funext HG.out]; exact HTL.out, btrans HB.out HBL.out⟩
        · have hx : x ∈ ea := ho.iter.mem x (hp.mem_iff.2 (by simp))
          have hfx := HFR.out x hx
          obtain ⟨e, he, hk, hval, hz⟩ := HIN.out.tells x hx
          have hval' := hval
          obtain ⟨A, k, c, hv, -, -⟩ := hval'
          have HT := Lib.hid (show Tell W g ⟨e, (g e).raw.calls, (g e).raw.errors, (g e).raw.took, A, k, c⟩ from ⟨he, by rw [hv] at hval; exact hval, hz⟩)
          have HFX := Lib.hid (show TalFrom w.heap.size (ETV.val ⟨e, (g e).raw.calls, (g e).raw.errors, (g e).raw.took, A, k, c⟩) by rw [hv] at hfx; exact hfx)
          clear hfx
          rw [hk, hv] at hrun hent
          unfold edgeVal talVal at hrun hent
          have HD := Lib.hid (show encE ⟨e, (g e).raw.calls, (g e).raw.errors, (g e).raw.took, A, k, c⟩ natHi natLo = [.string e.1, .string e.2, .int .u64 (natHi (g e).raw.calls), .int .u64 (natLo (g e).raw.calls), .int .u64 (natHi (g e).raw.errors), .int .u64 (natLo (g e).raw.errors), .int .u64 (natHi (g e).raw.took), .int .u64 (natLo (g e).raw.took), .slice A k c] from rfl)
          generalize natHi (g e).raw.calls = x1, natLo (g e).raw.calls = x2, natHi (g e).raw.errors = x3, natLo (g e).raw.errors = x4, natHi (g e).raw.took = x5, natLo (g e).raw.took = x6 at hrun hent HD
          have HW2 := Lib.hid hw2
          have HP := Lib.hid hp
          have HK := Lib.hid hk
          have HIT := Lib.hid hit'
          have hb2 : Below W.heap.size W w2 := Mod.toBelow ho.below (next_mod hw2) (fun q hq => by rw [hq]; exact Nat.le_refl _)
          have HB2 := Lib.hid hb2
          have HOWN := Lib.hid (own_next ho.own hw2.2.2.2.2)
          have hlen : done.length ≤ N := ho.count HF.out HG.out
          have hN := HN.out
          clear ho hx hval hz hv hw2 hp hk hit' hb2
          go_wp2_with (first | rw [hrun] | rw [hent] | (at_builtin; refine wpList_append_own _ rfl _ _ 30 rfl (W.heap.size + 1) 62 i0 (.agg #[.string ByteArray.empty, .string ByteArray.empty, .int .u64 0, .int .u64 0, .int .u64 0, .int .u64 0, .int .u64 0, .int .u64 0, .slice none 0 0]) 9 104 Try.underlying30 hi0 hz0 hz1 hz2 rfl (by decide) _ _ _ rfl (((HOWN.out.alloc _).alloc _).alloc _) ⟨w2.heap.size + 2, 0, none⟩ 1 1 [.string e.1, .string e.2, .int .u64 x1, .int .u64 x2, .int .u64 x3, .int .u64 x4, .int .u64 x5, .int .u64 x6, .slice A k c] rfl rfl ?c1 ?c2 ?c3 ?c4 ?c5 ?_))
          case c1 =>
            intro j u h
            have := cells_new ((w2.alloc (Obj.cells #[Value.string e.1, Value.string e.2] 40)).alloc (Obj.cells #[.int .u64 x1, .int .u64 x2, .int .u64 x3, .int .u64 x4, .int .u64 x5, .int .u64 x6, .slice A k c] 46)) [.string e.1, .string e.2, .int .u64 x1, .int .u64 x2, .int .u64 x3, .int .u64 x4, .int .u64 x5, .int .u64 x6, .slice A k c] 62 j u h
            simpa using this
          case c2 => simp [Value.oneCell']
          case c3 => unfold maxLen; omega
          case c4 => omega
          case c5 =>
            have := HB2.out.size
            have := HIT.out.lt
            simp
            omega
          intro v' w3 hown hgrow _
          have hbb : Below W.heap.size W w3 := (bal (bal (bal HB2.out _) _) _).grown hgrow (bal (bal (bal HB2.out _) _) _).size fun q hq => by
            have := own_ge HOWN.out hq
            omega
          have hii : IterIs w3 W.heap.size w.heap.size ea left' := by
            have h1 : IterIs _ W.heap.size w.heap.size ea left' := HIT.out.kept (bal (bal (bal (brefl w2) (Obj.cells #[Value.string e.1, Value.string e.2] 40)) (Obj.cells #[.int .u64 x1, .int .u64 x2, .int .u64 x3, .int .u64 x4, .int .u64 x5, .int .u64 x6, .slice A k c] 46)) (Obj.cells #[.string e.1, .string e.2, .int .u64 x1, .int .u64 x2, .int .u64 x3, .int .u64 x4, .int .u64 x5, .int .u64 x6, .slice A k c] 62)) (by have := HB2.out.size; omega)
            have hno : ∀ q, q < W.heap.size + 1 → some q ≠ Value.ownBlock _ := fun q hq e0 => by
              have := own_ge HOWN.out e0.symm
              omega
            refine h1.same (hgrow.block _ h1.lt (hno _ (by omega))) (hgrow.block _ ?_ (hno _ (by omega)))
            have := h1.lt
            omega
          have HO3 := Lib.hid (HO.out.step HP.out HK.out (apart_head (HO.out.iter.apart HM.out.map) HP.out) HT.out HFX.out (by rw [HD.out]; exact hown) hii hbb)
          have hdec := Lib.hid (show iterLeft w3 W.heap.size < iterLeft wr W.heap.size by rw [hii.count, hcnt.out, HP.out.length_eq]; simp)
          clear hown hgrow hbb hii hlen hN
          go_wp2
          go_roundw
          case rel => exact ⟨left', _, HO3.out⟩
          case measure => exact hdec.out
    · have hx : x ∈ es := hit.mem x (hp.mem_iff.2 (by simp))
      obtain ⟨hr, b, eb, q1, q2, q3, q4, q5, q6, q7⟩ := HH.out.inner x hx
      rw [q2, q3] at hrun hent
      unfold hourVal at hrun hent
      have HX := Lib.hid (And.intro hx (And.intro q2 (And.intro q4 (And.intro q6 q7))))
      have HW1 := Lib.hid hw1
      have hnoc := Lib.hid hit.noCells
      have HP := Lib.hid hp
      have HIT := Lib.hid hit'
      clear hb hin hok hwh hmw hit hw1 hp hit' hx q2 q3 q4 q5 q6 q7
      have hmeas : iterLeft w1 (w.heap.size + 1) < iterLeft wr (w.heap.size + 1) := by
        rw [hcnt.out, HIT.out.count, HP.out.length_eq]
        simp
      have hb1 : Below w.heap.size w w1 := Mod.toBelow HB.out (next_mod HW1.out) (fun q hq => by rw [hq]; omega)
      have hin1 : InnerIs w1 w.heap.size ea g := HIN.out.modN (next_mod HW1.out) hnoc.out (by omega)
      have hto := HTO.out
      by_cases hin0 : lo ≤ hr ∧ hr < to
      · have hin00 : lo ≤ hr ∧ hr < lo + n := by rw [← hto]; exact hin0
        have HIN00 := Lib.hid hin00
        obtain ⟨g1, g2⟩ := hin0
        clear hto hin00
        have hinb : InnerIs w1 b eb (M hr) := HX.out.2.2.1.below hb1
        obtain ⟨o2, hrange2, hit2⟩ := hinb.map.range Try.underlying75
        have HIT2 := Lib.hid hit2
        have HIN1 := Lib.hid hin1
        have HB1 := Lib.hid hb1
        have hri : w.heap.size + 1 < w1.heap.size := HIT.out.lt
        have hbne : b ≠ w1.heap.size := fun e => by have := hinb.blk; omega
        have hbw : b < w.heap.size := HX.out.2.2.1.blk
        clear hinb hit2 hin1 hb1
        go_wp2_with (first | rw [hrun] | rw [hent] | rw [hrange2])
        clear hrun hent hrange2
        rename_i hgg
        clear hgg g1 g2
        go_loopw [36] (fun _ wr => SumInner w m b w1.heap.size es eb left' g (M hr) wr) (fun _ wr => iterLeft wr w1.heap.size)
        case atStart => exact ⟨eb, ea, g, HIT.out.kept (bal (brefl _) _) (by have := HB1.out.size; omega), HIT2.out, HIN1.out.below (bal (brefl _) _), HOK.out, Part.start HX.out.2.2.1 HOK.out, bal HB1.out _, HFR.out⟩
        case round =>
          obtain ⟨lb, ea2, g2, it1, it2, in2, ok2, part, hb2, fr2⟩ := hrel
          have HFR2 := Lib.hid fr2
          clear fr2
          have hcnt2 := Lib.hid it2.count
          have hinb2 : InnerIs wr b eb (M hr) := HX.out.2.2.1.below hb2
          rcases it2.next (ty := 0) hinb2.map (Ne.symm hbne) with ⟨rfl, hrun⟩ | ⟨x2, lb', w2, hw2, hp2, hrun, it2', hent⟩
          · have hstep := Lib.hid (HWH.out.step HP.out HX.out.2.1 HIN00.out part.done)
            have hm2 : iterLeft wr (w.heap.size + 1) = left'.length := it1.count
            have hm3 := HP.out.length_eq
            have HI1 := Lib.hid it1
            have HI2 := Lib.hid in2
            have HO2 := Lib.hid ok2
            have HB2 := Lib.hid hb2
            have HM3 := Lib.hid (show left'.length < left.length by rw [hm3]; simp)
            clear it1 it2 in2 ok2 part hb2 hinb2
            go_wp2_with (first | rw [hrun])
            go_roundw
            case rel => exact ⟨left', ea2, g2, HI1.out, HI2.out, HO2.out, hstep.out, HB2.out, HFR2.out⟩
            case measure =>
              rw [hm2, hcnt.out]
              exact HM3.out
          · have hx2 : x2 ∈ eb := it2.mem x2 (hp2.mem_iff.2 (by simp))
            obtain ⟨e, he, hk2, hval, hz2⟩ := HX.out.2.2.1.tells x2 hx2
            have hval' := hval
            obtain ⟨A, k, c, hv2, -, -⟩ := hval'
            rw [hk2, hv2] at hrun hent
            rw [hv2] at hval
            unfold edgeVal talVal at hrun hent
            unfold talVal at hval
            generalize natHi (M hr e).raw.calls = x1, natLo (M hr e).raw.calls = x2, natHi (M hr e).raw.errors = x3, natLo (M hr e).raw.errors = x4, natHi (M hr e).raw.took = x5, natLo (M hr e).raw.took = x6 at hrun hent hval
            obtain ⟨W, hW⟩ : ∃ W, W = (w2.alloc (Obj.cells #[Value.string e.1, Value.string e.2] 40)).alloc (Obj.cells #[.int .u64 x1, .int .u64 x2, .int .u64 x3, .int .u64 x4, .int .u64 x5, .int .u64 x6, .slice A k c] 46) := ⟨_, rfl⟩
            have hb3 : Below w.heap.size w w2 := Mod.toBelow hb2 (next_mod hw2) (fun q hq => by rw [hq]; omega)
            have hbw : Below w2.heap.size w2 W := by rw [hW]; exact bal (bal (brefl _) _) _
            have hwl : w.heap.size < w1.heap.size := by omega
            have HIN2 := Lib.hid ((in2.modN (next_mod hw2) it2.noCells (by omega)).below hbw)
            have HIA := Lib.hid ((it1.same (hw2.2.2.2.2 _ (by omega)) (hw2.2.2.2.2 _ (by omega))).same (hbw.block _ (by rw [hw2.2.2.2.1]; exact it1.lt)) (hbw.block _ (by have := hb3.size; omega)))
            have HIB := Lib.hid (it2'.same (hbw.block _ it2'.lt) (hbw.block _ (by have := hb3.size; omega)))
            have HBW := Lib.hid (btrans hb3 hbw)
            have k1 : Blk W w2.heap.size 40 [.string e.1, .string e.2] := by rw [hW]; exact (Blk.new _ _ _).alloc _
            have k2 : Blk W (w2.heap.size + 1) 46 [.int .u64 x1, .int .u64 x2, .int .u64 x3, .int .u64 x4, .int .u64 x5, .int .u64 x6, .slice A k c] := by rw [hW]; exact Blk.new_ _ _ _ (by simp)
            have PE0 := Lib.hid (k1.cell 0 rfl)
            have PE1 := Lib.hid (k1.cell 1 rfl)
            have PT0 := Lib.hid (k2.cell 0 rfl)
            have PT1 := Lib.hid (k2.cell 1 rfl)
            have PT2 := Lib.hid (k2.cell 2 rfl)
            have PT3 := Lib.hid (k2.cell 3 rfl)
            have PT4 := Lib.hid (k2.cell 4 rfl)
            have PT5 := Lib.hid (k2.cell 5 rfl)
            have PT6 := Lib.hid (k2.cell 6 rfl)
            obtain ⟨ov, hlk, hov⟩ := HIN2.out.value he
            have HLK := Lib.hid hlk
            have HPL := Lib.hid (fun w' (hb : Below W.heap.size W w') => Plus_ok w' (g2 e) (M hr e) ov _ (hov.below hb) ((hval.below HBW.out).below hb) (ok2 e) (HH.out.ok hr e))
            have HZ := Lib.hid (fun h0 : tadd (g2 e) (M hr e) = tzero => hz2 (tadd_eq_zero (HH.out.ok hr e) (by rw [tadd_comm]; exact h0)))
            have HE := Lib.hid he
            have HPART := Lib.hid (part.step hp2 hk2 (apart_head (it2.apart hinb2.map) hp2))
            have hcnt3 := Lib.hid (show lb'.length < iterLeft wr w1.heap.size by rw [hcnt2.out, hp2.length_eq]; simp)
            have hwW := HBW.out.size
            have HOK2 := Lib.hid ok2
            have HW := Lib.hid hW
            clear it1 it2 in2 ok2 part hb2 hinb2 hw2 hp2 it2' hx2 he hk2 hval hz2 hv2 hW hb3 hbw k1 k2 hlk hov
            go_wp2_with (first | rw [hrun] | rw [hent])
            clear hrun hent
            rw [← HW.out]
            -- BEGIN REGION
            refine wp_region_mark (by kernel_rfl) (by kernel_rfl) [some 42, some 43, some 44, some 45, some 46, some 47, some 48, some 41, some 49, some 50, none] (by kernel_rfl) (fun u j w' => match j with | 0 => u 0 = (.map (some w.heap.size)) | 1 => u 1 = (.agg #[.string e.1, .string e.2]) | 2 => u 2 = (.map (some w.heap.size)) | 3 => u 3 = (.agg #[.string e.1, .string e.2]) | 4 => u 4 = ov | 5 => u 5 = (.agg #[.int .u64 x1, .int .u64 x2, .int .u64 x3, .int .u64 x4, .int .u64 x5, .int .u64 x6, .slice A k c]) | 6 => ∃ v, u 6 = .tuple #[v, .int .i64 0] ∧ TalAt w' v (tadd (g2 e) (M hr e)).raw ∧ TalFrom w.heap.size v | 7 => ∃ v, u 7 = .tuple #[v, .int .i64 0] ∧ TalAt w' v (tadd (g2 e) (M hr e)).raw ∧ TalFrom w.heap.size v | 8 => TalAt w' (u 8) (tadd (g2 e) (M hr e)).raw ∧ TalFrom w.heap.size (u 8) | 9 => True | 10 => True | _ => True) 10 (fun d w' => match d with | false => Below W.heap.size W w' | true => Mod (· = w.heap.size) W w' ∧ ∃ ea', InnerIs w' w.heap.size ea' (fun e' => if e' = e then (tadd (g2 e) (M hr e)) else g2 e') ∧ ∀ x ∈ ea', TalFrom w.heap.size x.val) (by decide) (bdrew (brefl W)) ?step ?fin
            case step =>
              intro i hi d u w' hd hu hinv
              rcases i with _ | _ | _ | _ | _ | _ | _ | _ | _ | _ | _ | i
              · -- 0
                have hd0 : d = false := by
                  cases d with
                  | false => rfl
                  | true => exact mark_no (by kernel_rfl) (hd rfl).2
                subst hd0
                have hinv : Below W.heap.size W w' := hinv
                clear hd
                clear hu
                refine wpOp_go rfl rfl fun K hK => ?_
                simp only [fillL, Act.put, List.setIfInBounds_toArray, List.set_cons_succ, List.set_cons_zero, Nat.zero_add, Nat.reduceAdd]
                go_wp2_with (fail)
                refine RelPost.mk (.map (some w.heap.size)) ?_ (rfl) (hinv) (fun j hj hne hn h => match j, hne, hn, h with | 0, hne, hn, h => (hne rfl).elim | 1, hne, hn, h => h | 2, hne, hn, h => h | 3, hne, hn, h => h | 4, hne, hn, h => h | 5, hne, hn, h => h | 6, hne, hn, h => h | 7, hne, hn, h => h | 8, hne, hn, h => h | 9, hne, hn, h => h | 10, hne, hn, h => not_hangs (by kernel_rfl) hn | _ + 11, hne, _, h => h)
                simp [fillL, Act.put, setAt]
              · -- 1
                have hd0 : d = false := by
                  cases d with
                  | false => rfl
                  | true => exact mark_no (by kernel_rfl) (hd rfl).2
                subst hd0
                have hinv : Below W.heap.size W w' := hinv
                clear hd
                clear hu
                have p0 := bcell1 hinv PE0.out
                have p1 := bcell1 hinv PE1.out
                refine wpOp_go rfl rfl fun K hK => ?_
                simp only [fillL, Act.put, List.setIfInBounds_toArray, List.set_cons_succ, List.set_cons_zero, Nat.zero_add, Nat.reduceAdd]
                go_wp2_with (fail)
                refine RelPost.mk (.agg #[.string e.1, .string e.2]) ?_ (rfl) (hinv) (fun j hj hne hn h => match j, hne, hn, h with | 0, hne, hn, h => h | 1, hne, hn, h => (hne rfl).elim | 2, hne, hn, h => h | 3, hne, hn, h => h | 4, hne, hn, h => h | 5, hne, hn, h => h | 6, hne, hn, h => h | 7, hne, hn, h => h | 8, hne, hn, h => h | 9, hne, hn, h => h | 10, hne, hn, h => not_hangs (by kernel_rfl) hn | _ + 11, hne, _, h => h)
                simp [fillL, Act.put, setAt]
              · -- 2
                have hd0 : d = false := by
                  cases d with
                  | false => rfl
                  | true => exact mark_no (by kernel_rfl) (hd rfl).2
                subst hd0
                have hinv : Below W.heap.size W w' := hinv
                clear hd
                clear hu
                refine wpOp_go rfl rfl fun K hK => ?_
                simp only [fillL, Act.put, List.setIfInBounds_toArray, List.set_cons_succ, List.set_cons_zero, Nat.zero_add, Nat.reduceAdd]
                go_wp2_with (fail)
                refine RelPost.mk (.map (some w.heap.size)) ?_ (rfl) (hinv) (fun j hj hne hn h => match j, hne, hn, h with | 0, hne, hn, h => h | 1, hne, hn, h => h | 2, hne, hn, h => (hne rfl).elim | 3, hne, hn, h => h | 4, hne, hn, h => not_hangs (by kernel_rfl) hn | 5, hne, hn, h => h | 6, hne, hn, h => not_hangs (by kernel_rfl) hn | 7, hne, hn, h => not_hangs (by kernel_rfl) hn | 8, hne, hn, h => not_hangs (by kernel_rfl) hn | 9, hne, hn, h => not_hangs (by kernel_rfl) hn | 10, hne, hn, h => not_hangs (by kernel_rfl) hn | _ + 11, hne, _, h => h)
                simp [fillL, Act.put, setAt]
              · -- 3
                have hd0 : d = false := by
                  cases d with
                  | false => rfl
                  | true => exact mark_no (by kernel_rfl) (hd rfl).2
                subst hd0
                have hinv : Below W.heap.size W w' := hinv
                clear hd
                clear hu
                have p0 := bcell1 hinv PE0.out
                have p1 := bcell1 hinv PE1.out
                refine wpOp_go rfl rfl fun K hK => ?_
                simp only [fillL, Act.put, List.setIfInBounds_toArray, List.set_cons_succ, List.set_cons_zero, Nat.zero_add, Nat.reduceAdd]
                go_wp2_with (fail)
                refine RelPost.mk (.agg #[.string e.1, .string e.2]) ?_ (rfl) (hinv) (fun j hj hne hn h => match j, hne, hn, h with | 0, hne, hn, h => h | 1, hne, hn, h => h | 2, hne, hn, h => h | 3, hne, hn, h => (hne rfl).elim | 4, hne, hn, h => not_hangs (by kernel_rfl) hn | 5, hne, hn, h => h | 6, hne, hn, h => not_hangs (by kernel_rfl) hn | 7, hne, hn, h => not_hangs (by kernel_rfl) hn | 8, hne, hn, h => not_hangs (by kernel_rfl) hn | 9, hne, hn, h => not_hangs (by kernel_rfl) hn | 10, hne, hn, h => not_hangs (by kernel_rfl) hn | _ + 11, hne, _, h => h)
                simp [fillL, Act.put, setAt]
              · -- 4
                have hd0 : d = false := by
                  cases d with
                  | false => rfl
                  | true => exact mark_no (by kernel_rfl) (hd rfl).2
                subst hd0
                have hinv : Below W.heap.size W w' := hinv
                clear hd
                have e2 : u 2 = (.map (some w.heap.size)) := hu 2 (by kernel_rfl)
                have e3 : u 3 = (.agg #[.string e.1, .string e.2]) := hu 3 (by kernel_rfl)
                clear hu
                have hrun := HLK.out w' (hinv.block _ HIN2.out.blk)
                refine wpOp_go rfl rfl fun K hK => ?_
                simp only [fillL, Act.put, List.setIfInBounds_toArray, List.set_cons_succ, List.set_cons_zero, Nat.zero_add, Nat.reduceAdd]
                go_wp2_with (rw [hrun])
                refine RelPost.mk ov ?_ (rfl) (hinv) (fun j hj hne hn h => match j, hne, hn, h with | 0, hne, hn, h => h | 1, hne, hn, h => h | 2, hne, hn, h => h | 3, hne, hn, h => h | 4, hne, hn, h => (hne rfl).elim | 5, hne, hn, h => h | 6, hne, hn, h => not_hangs (by kernel_rfl) hn | 7, hne, hn, h => not_hangs (by kernel_rfl) hn | 8, hne, hn, h => not_hangs (by kernel_rfl) hn | 9, hne, hn, h => not_hangs (by kernel_rfl) hn | 10, hne, hn, h => not_hangs (by kernel_rfl) hn | _ + 11, hne, _, h => h)
                simp [fillL, Act.put, setAt, e2, e3]
              · -- 5
                have hd0 : d = false := by
                  cases d with
                  | false => rfl
                  | true => exact mark_no (by kernel_rfl) (hd rfl).2
                subst hd0
                have hinv : Below W.heap.size W w' := hinv
                clear hd
                clear hu
                have p0 := bcell1 hinv PT0.out
                have p1 := bcell1 hinv PT1.out
                have p2 := bcell1 hinv PT2.out
                have p3 := bcell1 hinv PT3.out
                have p4 := bcell1 hinv PT4.out
                have p5 := bcell1 hinv PT5.out
                have p6 := bcell1 hinv PT6.out
                refine wpOp_go rfl rfl fun K hK => ?_
                simp only [fillL, Act.put, List.setIfInBounds_toArray, List.set_cons_succ, List.set_cons_zero, Nat.zero_add, Nat.reduceAdd]
                go_wp2_with (fail)
                refine RelPost.mk (.agg #[.int .u64 x1, .int .u64 x2, .int .u64 x3, .int .u64 x4, .int .u64 x5, .int .u64 x6, .slice A k c]) ?_ (rfl) (hinv) (fun j hj hne hn h => match j, hne, hn, h with | 0, hne, hn, h => h | 1, hne, hn, h => h | 2, hne, hn, h => h | 3, hne, hn, h => h | 4, hne, hn, h => h | 5, hne, hn, h => (hne rfl).elim | 6, hne, hn, h => not_hangs (by kernel_rfl) hn | 7, hne, hn, h => not_hangs (by kernel_rfl) hn | 8, hne, hn, h => not_hangs (by kernel_rfl) hn | 9, hne, hn, h => not_hangs (by kernel_rfl) hn | 10, hne, hn, h => not_hangs (by kernel_rfl) hn | _ + 11, hne, _, h => h)
                simp [fillL, Act.put, setAt]
              · -- 6
                have hd0 : d = false := by
                  cases d with
                  | false => rfl
                  | true => exact mark_no (by kernel_rfl) (hd rfl).2
                subst hd0
                have hinv : Below W.heap.size W w' := hinv
                clear hd
                have e2 : u 2 = (.map (some w.heap.size)) := hu 2 (by kernel_rfl)
                have e3 : u 3 = (.agg #[.string e.1, .string e.2]) := hu 3 (by kernel_rfl)
                have e4 : u 4 = ov := hu 4 (by kernel_rfl)
                have e5 : u 5 = (.agg #[.int .u64 x1, .int .u64 x2, .int .u64 x3, .int .u64 x4, .int .u64 x5, .int .u64 x6, .slice A k c]) := hu 5 (by kernel_rfl)
                clear hu
                have hplus := HPL.out w' hinv
                refine wpOp_go rfl rfl fun K hK => ?_
                simp only [fillL, Act.put, List.setIfInBounds_toArray, List.set_cons_succ, List.set_cons_zero, Nat.zero_add, Nat.reduceAdd]
                go_wp2_with (fail)
                refine hplus.mono ?_
                rintro en w3 ⟨pv, rfl, hpv, hb3, hfrom⟩
                replace hfrom : TalFrom w.heap.size pv := hfrom.le (Nat.le_trans HBW.out.size hinv.size)
                go_wp2_with fail
                refine RelPost.mk (.tuple #[pv, .int .i64 0]) ?_ (⟨pv, rfl, hpv, hfrom⟩) (btrans hinv hb3) (fun j hj hne hn h => match j, hne, hn, h with | 0, hne, hn, h => h | 1, hne, hn, h => h | 2, hne, hn, h => h | 3, hne, hn, h => h | 4, hne, hn, h => h | 5, hne, hn, h => h | 6, hne, hn, h => (hne rfl).elim | 7, hne, hn, h => not_hangs (by kernel_rfl) hn | 8, hne, hn, h => not_hangs (by kernel_rfl) hn | 9, hne, hn, h => not_hangs (by kernel_rfl) hn | 10, hne, hn, h => not_hangs (by kernel_rfl) hn | _ + 11, hne, _, h => h)
                simp [fillL, Act.put, setAt, e2, e3, e4, e5]
              · -- 7
                have hd0 : d = false := by
                  cases d with
                  | false => rfl
                  | true => exact mark_no (by kernel_rfl) (hd rfl).2
                subst hd0
                have hinv : Below W.heap.size W w' := hinv
                clear hd
                have e2 : u 2 = (.map (some w.heap.size)) := hu 2 (by kernel_rfl)
                have e3 : u 3 = (.agg #[.string e.1, .string e.2]) := hu 3 (by kernel_rfl)
                have e4 : u 4 = ov := hu 4 (by kernel_rfl)
                have e5 : u 5 = (.agg #[.int .u64 x1, .int .u64 x2, .int .u64 x3, .int .u64 x4, .int .u64 x5, .int .u64 x6, .slice A k c]) := hu 5 (by kernel_rfl)
                have e6 : ∃ v, u 6 = .tuple #[v, .int .i64 0] ∧ TalAt w' v (tadd (g2 e) (M hr e)).raw ∧ TalFrom w.heap.size v := hu 6 (by kernel_rfl)
                clear hu
                obtain ⟨pv, e6, hpv⟩ := e6
                refine wpOp_go rfl rfl fun K hK => ?_
                simp only [fillL, Act.put, List.setIfInBounds_toArray, List.set_cons_succ, List.set_cons_zero, Nat.zero_add, Nat.reduceAdd]
                go_wp2_with (fail)
                refine RelPost.mk (.tuple #[pv, .int .i64 0]) ?_ (⟨pv, rfl, hpv⟩) (hinv) (fun j hj hne hn h => match j, hne, hn, h with | 0, hne, hn, h => h | 1, hne, hn, h => h | 2, hne, hn, h => h | 3, hne, hn, h => h | 4, hne, hn, h => h | 5, hne, hn, h => h | 6, hne, hn, h => h | 7, hne, hn, h => (hne rfl).elim | 8, hne, hn, h => not_hangs (by kernel_rfl) hn | 9, hne, hn, h => not_hangs (by kernel_rfl) hn | 10, hne, hn, h => not_hangs (by kernel_rfl) hn | _ + 11, hne, _, h => h)
                simp [fillL, Act.put, setAt, e2, e3, e4, e5, e6]
              · -- 8
                have hd0 : d = false := by
                  cases d with
                  | false => rfl
                  | true => exact mark_no (by kernel_rfl) (hd rfl).2
                subst hd0
                have hinv : Below W.heap.size W w' := hinv
                clear hd
                have e2 : u 2 = (.map (some w.heap.size)) := hu 2 (by kernel_rfl)
                have e3 : u 3 = (.agg #[.string e.1, .string e.2]) := hu 3 (by kernel_rfl)
                have e4 : u 4 = ov := hu 4 (by kernel_rfl)
                have e5 : u 5 = (.agg #[.int .u64 x1, .int .u64 x2, .int .u64 x3, .int .u64 x4, .int .u64 x5, .int .u64 x6, .slice A k c]) := hu 5 (by kernel_rfl)
                have e6 : ∃ v, u 6 = .tuple #[v, .int .i64 0] ∧ TalAt w' v (tadd (g2 e) (M hr e)).raw ∧ TalFrom w.heap.size v := hu 6 (by kernel_rfl)
                have e7 : ∃ v, u 7 = .tuple #[v, .int .i64 0] ∧ TalAt w' v (tadd (g2 e) (M hr e)).raw ∧ TalFrom w.heap.size v := hu 7 (by kernel_rfl)
                clear hu
                obtain ⟨pv, e7, hpv⟩ := e7
                refine wpOp_go rfl rfl fun K hK => ?_
                simp only [fillL, Act.put, List.setIfInBounds_toArray, List.set_cons_succ, List.set_cons_zero, Nat.zero_add, Nat.reduceAdd]
                go_wp2_with (fail)
                refine RelPost.mk pv ?_ (hpv) (hinv) (fun j hj hne hn h => match j, hne, hn, h with | 0, hne, hn, h => h | 1, hne, hn, h => h | 2, hne, hn, h => h | 3, hne, hn, h => h | 4, hne, hn, h => h | 5, hne, hn, h => h | 6, hne, hn, h => h | 7, hne, hn, h => h | 8, hne, hn, h => (hne rfl).elim | 9, hne, hn, h => h | 10, hne, hn, h => not_hangs (by kernel_rfl) hn | _ + 11, hne, _, h => h)
                simp [fillL, Act.put, setAt, e2, e3, e4, e5, e7]
              · -- 9
                cases d with
                | false =>
                  have hinv : Below W.heap.size W w' := hinv
                  clear hd
                  have e2 : u 2 = (.map (some w.heap.size)) := hu 2 (by kernel_rfl)
                  have e3 : u 3 = (.agg #[.string e.1, .string e.2]) := hu 3 (by kernel_rfl)
                  have e4 : u 4 = ov := hu 4 (by kernel_rfl)
                  have e5 : u 5 = (.agg #[.int .u64 x1, .int .u64 x2, .int .u64 x3, .int .u64 x4, .int .u64 x5, .int .u64 x6, .slice A k c]) := hu 5 (by kernel_rfl)
                  have e6 : ∃ v, u 6 = .tuple #[v, .int .i64 0] ∧ TalAt w' v (tadd (g2 e) (M hr e)).raw ∧ TalFrom w.heap.size v := hu 6 (by kernel_rfl)
                  have e7 : ∃ v, u 7 = .tuple #[v, .int .i64 0] ∧ TalAt w' v (tadd (g2 e) (M hr e)).raw ∧ TalFrom w.heap.size v := hu 7 (by kernel_rfl)
                  clear hu
                  obtain ⟨pv, e7, hpv⟩ := e7
                  refine wpOp_go rfl rfl fun K hK => ?_
                  simp only [fillL, Act.put, List.setIfInBounds_toArray, List.set_cons_succ, List.set_cons_zero, Nat.zero_add, Nat.reduceAdd]
                  go_wp2_with (fail)
                  refine RelPost.mk (.int .i64 0) ?_ (trivial) (hinv) (fun j hj hne hn h => match j, hne, hn, h with | 0, hne, hn, h => h | 1, hne, hn, h => h | 2, hne, hn, h => h | 3, hne, hn, h => h | 4, hne, hn, h => h | 5, hne, hn, h => h | 6, hne, hn, h => h | 7, hne, hn, h => h | 8, hne, hn, h => h | 9, hne, hn, h => (hne rfl).elim | 10, hne, hn, h => h | _ + 11, hne, _, h => h)
                  simp [fillL, Act.put, setAt, e2, e3, e4, e5, e7]
                | true =>
                  have hinv : Mod (· = w.heap.size) W w' ∧ ∃ ea', InnerIs w' w.heap.size ea' (fun e' => if e' = e then (tadd (g2 e) (M hr e)) else g2 e') ∧ ∀ x ∈ ea', TalFrom w.heap.size x.val := hinv
                  clear hd
                  have e2 : u 2 = (.map (some w.heap.size)) := hu 2 (by kernel_rfl)
                  have e3 : u 3 = (.agg #[.string e.1, .string e.2]) := hu 3 (by kernel_rfl)
                  have e4 : u 4 = ov := hu 4 (by kernel_rfl)
                  have e5 : u 5 = (.agg #[.int .u64 x1, .int .u64 x2, .int .u64 x3, .int .u64 x4, .int .u64 x5, .int .u64 x6, .slice A k c]) := hu 5 (by kernel_rfl)
                  have e6 : ∃ v, u 6 = .tuple #[v, .int .i64 0] ∧ TalAt w' v (tadd (g2 e) (M hr e)).raw ∧ TalFrom w.heap.size v := hu 6 (by kernel_rfl)
                  have e7 : ∃ v, u 7 = .tuple #[v, .int .i64 0] ∧ TalAt w' v (tadd (g2 e) (M hr e)).raw ∧ TalFrom w.heap.size v := hu 7 (by kernel_rfl)
                  clear hu
                  obtain ⟨pv, e7, hpv⟩ := e7
                  refine wpOp_go rfl rfl fun K hK => ?_
                  simp only [fillL, Act.put, List.setIfInBounds_toArray, List.set_cons_succ, List.set_cons_zero, Nat.zero_add, Nat.reduceAdd]
                  go_wp2_with (fail)
                  refine RelPost.mk (.int .i64 0) ?_ (trivial) (hinv) (fun j hj hne hn h => match j, hne, hn, h with | 0, hne, hn, h => h | 1, hne, hn, h => h | 2, hne, hn, h => h | 3, hne, hn, h => h | 4, hne, hn, h => h | 5, hne, hn, h => h | 6, hne, hn, h => h | 7, hne, hn, h => h | 8, hne, hn, h => h | 9, hne, hn, h => (hne rfl).elim | 10, hne, hn, h => h | _ + 11, hne, _, h => h)
                  simp [fillL, Act.put, setAt, e2, e3, e4, e5, e7]
              · -- 10
                have hd0 : d = false := by
                  cases d with
                  | false => rfl
                  | true => exact ((hd rfl).1 rfl).elim
                subst hd0
                have hinv : Below W.heap.size W w' := hinv
                clear hd
                have e0 : u 0 = (.map (some w.heap.size)) := hu 0 (by kernel_rfl)
                have e1 : u 1 = (.agg #[.string e.1, .string e.2]) := hu 1 (by kernel_rfl)
                have e2 : u 2 = (.map (some w.heap.size)) := hu 2 (by kernel_rfl)
                have e3 : u 3 = (.agg #[.string e.1, .string e.2]) := hu 3 (by kernel_rfl)
                have e4 : u 4 = ov := hu 4 (by kernel_rfl)
                have e5 : u 5 = (.agg #[.int .u64 x1, .int .u64 x2, .int .u64 x3, .int .u64 x4, .int .u64 x5, .int .u64 x6, .slice A k c]) := hu 5 (by kernel_rfl)
                have e6 : ∃ v, u 6 = .tuple #[v, .int .i64 0] ∧ TalAt w' v (tadd (g2 e) (M hr e)).raw ∧ TalFrom w.heap.size v := hu 6 (by kernel_rfl)
                have e7 : ∃ v, u 7 = .tuple #[v, .int .i64 0] ∧ TalAt w' v (tadd (g2 e) (M hr e)).raw ∧ TalFrom w.heap.size v := hu 7 (by kernel_rfl)
                have e8 : TalAt w' (u 8) (tadd (g2 e) (M hr e)).raw ∧ TalFrom w.heap.size (u 8) := hu 8 (by kernel_rfl)
                clear hu
                have hin3 := HIN2.out.below hinv
                obtain ⟨o3, ea3, hrun, hin4, hall⟩ := hin3.store HE.out e8.1 HZ.out
                refine wpOp_go rfl rfl fun K hK => ?_
                simp only [fillL, Act.put, List.setIfInBounds_toArray, List.set_cons_succ, List.set_cons_zero, Nat.zero_add, Nat.reduceAdd]
                go_wp2_with (rw [hrun])
                refine RelPost.mk undef ?_ (trivial) (⟨(Mod.of_below hinv).trans (Mod.setBlock (F := (· = w.heap.size)) rfl o3), ea3, hin4, hall _ e8.2 HFR2.out⟩) (fun j hj hne hn h => match j, hne, hn, h with | 0, hne, hn, h => h | 1, hne, hn, h => h | 2, hne, hn, h => h | 3, hne, hn, h => h | 4, hne, hn, h => h | 5, hne, hn, h => h | 6, hne, hn, h => (by obtain ⟨v, a, b, c⟩ := h; exact ⟨v, a, b.mod (Mod.setBlock (F := (· = w.heap.size)) rfl o3) (only_map hin3.map), c⟩) | 7, hne, hn, h => (by obtain ⟨v, a, b, c⟩ := h; exact ⟨v, a, b.mod (Mod.setBlock (F := (· = w.heap.size)) rfl o3) (only_map hin3.map), c⟩) | 8, hne, hn, h => ⟨h.1.mod (Mod.setBlock (F := (· = w.heap.size)) rfl o3) (only_map hin3.map), h.2⟩ | 9, hne, hn, h => h | 10, hne, hn, h => (hne rfl).elim | _ + 11, hne, _, h => h)
                simp [fillL, Act.put, setAt, e0, e1, e2, e3, e4, e5]
              · exact absurd hi (by simp)
            case fin =>
              intro u w' hu hinv
              have e0 : u 0 = (.map (some w.heap.size)) := hu 0 (by simp)
              have e1 : u 1 = (.agg #[.string e.1, .string e.2]) := hu 1 (by simp)
              have e2 : u 2 = (.map (some w.heap.size)) := hu 2 (by simp)
              have e3 : u 3 = (.agg #[.string e.1, .string e.2]) := hu 3 (by simp)
              have e4 : u 4 = ov := hu 4 (by simp)
              have e5 : u 5 = (.agg #[.int .u64 x1, .int .u64 x2, .int .u64 x3, .int .u64 x4, .int .u64 x5, .int .u64 x6, .slice A k c]) := hu 5 (by simp)
              have e6 : ∃ v, u 6 = .tuple #[v, .int .i64 0] ∧ TalAt w' v (tadd (g2 e) (M hr e)).raw ∧ TalFrom w.heap.size v := hu 6 (by simp)
              have e7 : ∃ v, u 7 = .tuple #[v, .int .i64 0] ∧ TalAt w' v (tadd (g2 e) (M hr e)).raw ∧ TalFrom w.heap.size v := hu 7 (by simp)
              have e8 : TalAt w' (u 8) (tadd (g2 e) (M hr e)).raw ∧ TalFrom w.heap.size (u 8) := hu 8 (by simp)
              have e9 : True := hu 9 (by simp)
              have e10 : True := hu 10 (by simp)
              clear hu
            -- END REGION
              clear e0 e1 e2 e3 e4 e5 e6 e7 e8 e9 e10
              obtain ⟨hmod, ea3, hin5, hfr5⟩ : Mod (· = w.heap.size) W w' ∧ ∃ ea', InnerIs w' w.heap.size ea' (fun e' => if e' = e then tadd (g2 e) (M hr e) else g2 e') ∧ ∀ x ∈ ea', TalFrom w.heap.size x.val := hinv
              have HFR5 := Lib.hid hfr5
              have HMOD := Lib.hid hmod
              have HIN5 := Lib.hid hin5
              clear hmod hin5 hfr5
              simp only [fillL, Act.put, List.setIfInBounds_toArray, List.set_cons_succ, List.set_cons_zero, Nat.zero_add, Nat.reduceAdd]
              go_wp2_with fail
              go_roundw
              case rel =>
                refine ⟨lb', ea3, _, HIA.out.same (HMOD.out.block _ HIA.out.lt (by omega)) (HMOD.out.block _ (by omega) (by omega)), HIB.out.same (HMOD.out.block _ HIB.out.lt (by omega)) (HMOD.out.block _ (by omega) (by omega)), HIN5.out, fun e' => ?_, HPART.out, Mod.toBelow HBW.out HMOD.out (fun q hq => by rw [hq]; omega), HFR5.out⟩
                show (if e' = e then _ else _ : Tal).Ok
                split
                · exact tadd_ok _ _
                · exact HOK2.out _
              case measure =>
                rw [(HIB.out.same (HMOD.out.block _ HIB.out.lt (by omega)) (HMOD.out.block _ (by omega) (by omega))).count]
                exact hcnt3.out
      · have hskip := Lib.hid (HWH.out.skip HP.out HX.out.2.1 (by rw [← hto]; exact hin0))
        by_cases g1 : lo ≤ hr
        · have g2 : to ≤ hr := by omega
          clear hin0 hto
          go_wp2_with (first | rw [hrun] | rw [hent])
          go_roundw
          case rel => exact ⟨left', ea, g, HIT.out, hin1, HOK.out, hskip.out, hb1, HFR.out⟩
          case measure => exact hmeas
        · clear hin0 hto
          go_wp2_with (first | rw [hrun] | rw [hent])
          go_roundw
          case rel => exact ⟨left', ea, g, HIT.out, hin1, HOK.out, hskip.out, hb1, HFR.out⟩
          case measure => exact hmeas
end Go.Proofs.Ytjfeeampcgmngaa
