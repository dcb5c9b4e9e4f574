/- rollup.Windows, walked. -/
import Derived.Test.YtjfeeampcgmngaaWindows
namespace Go.Proofs.Ytjfeeampcgmngaa
open Go.RowKit Go.Shelf Go.Maps

theorem own_below {w w' : World} {base : Nat} {e : TypeId} {size n : Nat} {v : Value} {xs : List Value} (h : w.ownsRow base e size v n xs) (hb : Below w.heap.size w w') : w'.ownsRow base e size v n xs := by
  refine ⟨h.1, ?_⟩
  rcases h.2 with h2 | ⟨g, cap, cur, h1, h2, h3, h4⟩
  · exact .inl h2
  · exact .inr ⟨g, cap, cur, h1, h2, (hb.block g (Array.getElem?_eq_some_iff.1 h3).1).trans h3, h4⟩
theorem own_lt {w : World} {base : Nat} {e : TypeId} {size n : Nat} {v : Value} {xs : List Value} (h : w.ownsRow base e size v n xs) : ∀ g, v.ownBlock = some g → g < w.heap.size := by
  intro g hg
  rcases h.2 with ⟨rfl, _⟩ | ⟨g', cap, cur, rfl, h2, h3, h4⟩
  · cases hg
  · simp [Value.ownBlock] at hg
    subst hg
    exact (Array.getElem?_eq_some_iff.1 h3).1

/-- The starts of windows, as numbers. -/
def starts (wd : Nat) (es : List MapEntry) : List Int := Lib.compact (sorted (begs wd es))
theorem starts_mem (wd : Nat) (es : List MapEntry) (z : Int) : z ∈ starts wd es ↔ ∃ x ∈ es, ((begOf wd x : Nat) : Int) = z := by
  unfold starts
  rw [compact_mem, sorted_mem]
  unfold begs
  rw [List.mem_map]
theorem starts_nat (wd : Nat) (es : List MapEntry) : ∃ bs : List Nat, starts wd es = bs.map (fun b : Nat => (b : Int)) ∧ bs.Pairwise (· < ·) ∧ ∀ b, b ∈ bs ↔ ∃ x ∈ es, begOf wd x = b := by
  refine ⟨(starts wd es).map Int.toNat, ?_, ?_, fun b => ?_⟩
  · rw [List.map_map]
    conv => lhs; rw [← List.map_id (starts wd es)]
    refine List.map_congr_left fun z hz => ?_
    obtain ⟨x, _, rfl⟩ := (starts_mem wd es z).1 hz
    simp
  · rw [List.pairwise_map]
    have h := compact_rises (sorted (begs wd es)) (sortedB _)
    refine List.Pairwise.imp_of_mem (fun {a b} ha hb hab => ?_) h
    obtain ⟨x, _, rfl⟩ := (starts_mem wd es a).1 ha
    obtain ⟨y, _, rfl⟩ := (starts_mem wd es b).1 hb
    simp
    omega
  · rw [List.mem_map]
    constructor
    · rintro ⟨z, hz, rfl⟩
      obtain ⟨x, hx, rfl⟩ := (starts_mem wd es z).1 hz
      exact ⟨x, hx, by simp⟩
    · rintro ⟨x, hx, rfl⟩
      exact ⟨_, (starts_mem wd es _).2 ⟨x, hx, rfl⟩, by simp⟩
theorem window_some {M : Cont} {e : Edge} {hr wd : Nat} (hwd : 0 < wd) (h : M hr e ≠ tzero) (hok : ∀ h e, (M h e).Ok) : hsum M e (hr - hr % wd) wd ≠ tzero := by
  intro h0
  have hlt := Nat.mod_lt hr hwd
  have hle := Nat.mod_le hr wd
  have e1 : wd = hr % wd + (1 + (wd - 1 - hr % wd)) := by omega
  rw [e1, hsum_append, hsum_append] at h0
  have h2 : tadd (hsum M e (hr - (hr % wd) + hr % wd) 1) (hsum M e (hr - (hr % wd) + hr % wd + 1) (wd - 1 - hr % wd)) = tzero := by
    have := tadd_eq_zero (tadd_ok _ _) (by rw [tadd_comm] at h0; rw [show (hr % wd + (1 + (wd - 1 - hr % wd))) = wd by omega] at h0; exact h0)
    exact this
  have h3 := tadd_eq_zero (hsum_ok _ _ _ _) h2
  rw [show hr - hr % wd + hr % wd = hr by omega, hsum_one _ _ _ (hok _ _)] at h3
  exact h h3

theorem i64Info : (Try.prog.info? 2).map (fun i => (i.zero, i.size, i.bytes)) = some (some (.int .i64 0), 1, 8) := by kernel_rfl
def WinLoop (V : World) (M : Cont) (wd : Nat) (bs : List Nat) (v i : Value) (wr : World) : Prop :=
  ∃ k L d, k ≤ bs.length ∧ i = .int .i64 k ∧ WinRow V.heap.size v wr L d ∧ L.map (·.1) = bs.take k ∧ (∀ p ∈ L, p.2.1 = wd ∧ Tells p.2.2 (fun e => hsum M e p.1 wd)) ∧ Below V.heap.size V wr
def WindowsPost (w : World) (M : Cont) (wd : Nat) (en : Ending) (w' : World) : Prop :=
  ∃ A n c L, en = .returned (.tuple #[.slice A n c, .int .i64 0]) ∧ n ≤ c ∧ WinsAt w.heap.size w' A n L ∧ WinsTell M wd L ∧ Below w.heap.size w w'

set_option maxRecDepth 100000 in
set_option maxHeartbeats 1000000 in
theorem Windows_ok (w : World) (r m fan k : Nat) (es : List MapEntry) (M : Cont) (F : Nat → Prop) (h : RollAt w r m fan es M F) (hf2 : 2 ≤ fan) (hf16 : fan ≤ 16) (hk : k = 0 ∨ fan ^ (k - 1) < limit) (hkb : k ≤ 1099511627776) (N : Nat) (hN : N * 112 ≤ 140737488355328) (hf : Few N M) :
    Calls Try.prog 9 #[.pointer (some ⟨r, 0, none⟩), .int .i64 k] w (WindowsPost w M (fan ^ k)) := by
  have HWD := Lib.hid (wide_any w r m fan k h.blk hf2 hf16 hkb)
  rw [if_pos hk] at HWD
  have hwd0 : 0 < fan ^ k := Nat.pow_pos (by omega)
  have hwdm : fan ^ k ≤ 16 * limit := by
    rcases hk with rfl | hk
    · unfold limit; simp
    · rcases Nat.eq_zero_or_pos k with rfl | hk0
      · unfold limit; simp
      · rw [show k = (k - 1) + 1 by omega, Nat.pow_succ, Nat.mul_comm]
        exact Nat.mul_le_mul hf16 (Nat.le_of_lt hk)
  generalize hwd : fan ^ k = wd at *
  clear hk hwd hkb hf2 hf16
  have hesN := Lib.hid (h.few hf)
  have HH := Lib.hid h
  have HN := Lib.hid hN
  have HF := Lib.hid hf
  obtain ⟨i0, hi0, hz0, hz1, hz2⟩ := info_parts winInfo
  obtain ⟨j0, hj0, hy0, hy1, hy2⟩ := info_parts i64Info
  have HW0 := Lib.hid hwd0
  have HWM := Lib.hid hwdm
  have c1 := h.blk.cell 1 rfl
  have hs := h.blk.lt
  have hms := h.map.lt
  obtain ⟨o, hrange, hiter⟩ := h.map.range Try.underlying67
  have HI := Lib.hid hiter
  clear h hN hf hiter hwd0 hwdm
  go_enter Try.func9, Try.ntmps9
  go_wp2_with fail
  refine HWD.out.mono ?_
  rintro e w' ⟨rfl, rfl⟩
  clear HWD
  go_wp2_with (rw [hrange])
  clear hrange
  go_loopw [8, 26] (fun v _ wr => BegLoop w' m es wd v wr) (fun _ _ wr => iterLeft wr w'.heap.size)
  case atStart => exact ⟨es, [], HI.out, by simp, World.ownsRow_nil _ _ _ _, bal (brefl _) _⟩
  case round =>
    obtain ⟨left, done, hit, hperm, hown, hb⟩ := hrel
    have hmw := HH.out.map.same (hb.block m hms)
    have hcnt := Lib.hid hit.count
    have HB := Lib.hid hb
    rcases hit.next (ty := 0) hmw (by omega) with ⟨rfl, hrun⟩ | ⟨x, left', w1, hw1, hp, hrun, hit', hent⟩
    · -- the starts
      have hpd : es.Perm done := by simpa using hperm
      have hlen : done.length ≤ N := by rw [← hpd.length_eq]; exact hesN.out
      have hNN := HN.out
      have hii := ints_of_own hown
      have hso := Lib.hid (sort_ints hii hb (by omega) (by rw [begs_length]; omega))
      obtain ⟨bs, hbs, hris, hmem⟩ := starts_nat wd done
      have HBS := Lib.hid hbs
      have HRIS := Lib.hid hris
      have HMEM := Lib.hid (show ∀ b, b ∈ bs ↔ ∃ x ∈ es, begOf wd x = b from fun b => by rw [hmem]; exact ⟨fun ⟨x, hx, e⟩ => ⟨x, hpd.mem_iff.2 hx, e⟩, fun ⟨x, hx, e⟩ => ⟨x, hpd.mem_iff.1 hx, e⟩⟩)
      have HBN := Lib.hid (show bs.length ≤ N by
        have h1 := Lib.compact_length_le (sorted (begs wd done))
        have h2 := congrArg List.length hbs
        rw [sorted_length, begs_length] at h1
        rw [List.length_map] at h2
        unfold starts at h2
        omega)
      have HLEN := Lib.hid (show (begs wd done).length ≤ N by rw [begs_length]; exact hlen)
      clear hown hit hmw hb hii hperm hpd hlen hbs hris hmem hNN
      go_wp2_with (rw [hrun])
      refine hso.out.mono ?_
      rintro e w2 ⟨rfl, hi2, hb2⟩
      have hcp := Lib.hid (compact_ints hi2 hb2 (by omega) (by rw [sorted_length]; have := HLEN.out; have := HN.out; omega))
      clear hso hi2 hb2 hrun
      go_wp2_with fail
      refine hcp.out.mono ?_
      rintro e w3 ⟨v3, rfl, hi3, hb3⟩
      have hi3' : IntsIn (w'.heap.size + 1) w3 v3 (bs.map fun b : Nat => (b : Int)) := by rw [← HBS.out]; exact hi3
      obtain ⟨A3, c3, rfl, hc3, hx3⟩ := hi3'
      have HX3 := Lib.hid hx3
      have HB3 := Lib.hid hb3
      have hl3 : (bs.map fun b : Nat => (b : Int)).length = bs.length := by simp
      simp only [hl3] at hc3 ⊢
      clear hcp hi3 hb3 hx3 hl3 hc3
      go_wp2_with fail
      obtain ⟨V, rfl⟩ : ∃ V, V = w3 := ⟨_, rfl⟩
      go_loopw [10, 43] (fun v i wr => WinLoop V M wd bs v i wr) (fun _ i _ => bs.length - (intOf i).toNat)
      case atStart => exact ⟨0, [], [], Nat.zero_le _, rfl, WinRow.nil _ _, rfl, (by intro p hp; simp at hp), brefl _⟩
      case round =>
        obtain ⟨k, L, d, hk, rfl, hrow, hL, hT, hbV⟩ := hrel
        have HROW := Lib.hid hrow
        have HL := Lib.hid hL
        have HT := Lib.hid hT
        have HBV := Lib.hid hbV
        by_cases hlt : k < bs.length
        · obtain ⟨g, hA, hgB, hgl, hH⟩ := HX3.out (by simp; omega)
          subst hA
          obtain ⟨b, hbk⟩ : ∃ b, bs[k]? = some b := ⟨bs[k], List.getElem?_eq_getElem hlt⟩
          have hcell : wr.cell? ⟨g, k, none⟩ = some (.int .i64 (b : Nat)) := by
            have h1 := (hH k (by simpa using hlt)).1
            rw [Nat.zero_add] at h1
            have h2 := bcell1 hbV h1
            rw [h2]
            have h3 := (List.getElem?_eq_some_iff.1 hbk).2
            simp [hlt, h3]
          obtain ⟨x, hx, hxb⟩ := (HMEM.out b).1 (List.mem_of_getElem? hbk)
          obtain ⟨hr, e, hrl, hxk, hz⟩ := HH.out.someE x hx
          have hbl : b + wd ≤ 1099511627776 ∧ b < limit ∧ b % wd = 0 := by
            rw [← hxb]
            unfold begOf
            rw [hxk, keyNat_hour]
            have h1 := HWM.out
            unfold limit at *
            refine ⟨by omega, by omega, ?_⟩
            have h3 : hr - hr % wd = wd * (hr / wd) := by have := Nat.div_add_mod hr wd; omega
            rw [h3]
            exact Nat.mul_mod_right _ _
          have HWIN := Lib.hid (window_any wr r m fan es M F b wd (HH.out.below (btrans HB3.out hbV)) N HN.out HF.out hbl.1)
          have HBK := Lib.hid hbk
          have hNN := HN.out
          have hbn := HBN.out
          have hdl : d.length = k := by
            have h1 := congrArg List.length HL.out
            rw [List.length_map, List.length_take] at h1
            rw [hrow.len]
            omega
          have HDL := Lib.hid hdl
          clear hrow hL hT hbk hH hx hxb hxk hz hrl hbl hbV hdl hgB
          go_wp2_with fail
          refine HWIN.out.mono ?_
          rintro en w4 ⟨A, kk, c, Lw, rfl, hed, htl, hb4⟩
          have hlt4 := own_lt HROW.out.own
          have HK4 := Lib.hid (show ∀ (i : Nat) (x : WinV) (p : WT), d[i]? = some x → L[i]? = some p → WinKept V.heap.size _ _ x p from fun i x p hx hp => ((HROW.out.kept i x p hx hp).below hb4).below (bal (brefl w4) (Obj.cells #[.int .i64 b, .int .i64 wd, .slice A kk c] 32)))
          have HX4 := Lib.hid (show WinKept V.heap.size _ _ ⟨b, wd, A, kk, c⟩ (b, wd, Lw) from WinKept.below (own := _) ⟨rfl, rfl, w4, wr.heap.size, HBV.out.size, hed, Nat.le_refl _, Stays.refl _ _ _, fun g hg => by have := hlt4 g hg; omega⟩ (bal (brefl w4) (Obj.cells #[.int .i64 b, .int .i64 wd, .slice A kk c] 32)))
          have HOWN := Lib.hid (own_below HROW.out.own hb4)
          have HTL := Lib.hid htl
          have HB4 := Lib.hid (btrans HBV.out hb4)
          clear hed htl hb4 hlt4 HWIN
          go_wp2_with (at_builtin; refine wpList_append_own_at _ rfl _ _ 26 rfl V.heap.size 32 i0 (.agg #[.int .i64 0, .int .i64 0, .slice none 0 0]) 3 40 Try.underlying26 hi0 hz0 hz1 hz2 rfl (by decide) _ _ _ rfl (HOWN.out.alloc _) ⟨w4.heap.size, 0, none⟩ 1 1 [.int .i64 b, .int .i64 wd, .slice A kk c] rfl rfl ?c1 ?c2 ?c3 ?c4 ?c5 ?_)
          case c1 => exact fun j u h => cells_new w4 [.int .i64 b, .int .i64 wd, .slice A kk c] 32 j u h
          case c2 => simp [Value.oneCell']
          case c3 => have := HDL.out; unfold maxLen; omega
          case c4 => have := HDL.out; omega
          case c5 => have := HB4.out.size; simp; omega
          intro v' w5 hown5 hgrow _ hat
          have HROW5 := Lib.hid (WinRow.snoc HK4.out HROW.out.len HX4.out hown5 hgrow (by simpa using hat))
          have HB5 := Lib.hid (bgrown (bal HB4.out _) hgrow (HOWN.out.alloc _))
          clear hown5 hgrow hat
          go_wp2
          go_roundw
          case rel => exact ⟨k + 1, _, _, by omega, by go_num, HROW5.out, by rw [List.map_append, HL.out, List.take_add_one, HBK.out]; rfl, (by
            intro p hp
            rcases List.mem_append.1 hp with hp | hp
            · exact HT.out p hp
            · simp at hp
              subst hp
              exact ⟨rfl, HTL.out⟩), HB5.out⟩
          case measure => simp [intOf]; omega
        · have hkb : k = bs.length := by omega
          subst hkb
          obtain ⟨A, c, hv, hnc, hwins⟩ := hrow.wins
          subst hv
          have HWI := Lib.hid hwins
          clear hrow hL hT hbV hwins
          go_wp2_with fail
          go_ret2
          refine ⟨A, _, c, L, rfl, hnc, HWI.out.le HB3.out.size, ?_, btrans HB3.out HBV.out⟩
          have hLb : L.map (·.1) = bs := by rw [HL.out, List.take_length]
          refine ⟨by rw [hLb]; exact HRIS.out, fun p hp => ?_, fun hr e hz => ?_⟩
          · have hpb : p.1 ∈ bs := by rw [← hLb]; exact List.mem_map.2 ⟨p, hp, rfl⟩
            obtain ⟨x, hx, hxb⟩ := (HMEM.out p.1).1 hpb
            obtain ⟨hr, e, hrl, hxk, hz⟩ := HH.out.someE x hx
            unfold begOf at hxb
            rw [hxk, keyNat_hour] at hxb
            obtain ⟨t1, t2⟩ := HT.out p hp
            refine ⟨?_, t1, t2, fun h0 => ?_, by omega⟩
            · rw [← hxb]
              have h3 : hr - hr % wd = wd * (hr / wd) := by have := Nat.div_add_mod hr wd; omega
              rw [h3]
              exact Nat.mul_mod_right _ _
            · have h4 := t2.at_ e
              rw [h0] at h4
              rw [← hxb] at h4
              exact window_some HW0.out hz HH.out.ok h4.symm
          · rw [hLb]
            obtain ⟨hlr, he, x, hx, hxk⟩ := HH.out.all hr e hz
            refine (HMEM.out _).2 ⟨x, hx, ?_⟩
            unfold begOf
            rw [hxk, keyNat_hour]
    · have hx : x ∈ es := hit.mem x (hp.mem_iff.2 (by simp))
      obtain ⟨hr, b, eb, q1, q2, q3, q4, q5, q6, q7⟩ := HH.out.inner x hx
      have hb1 : Below w'.heap.size w' w1 := Mod.toBelow hb (next_mod hw1) (fun q hq => by rw [hq]; exact Nat.le_refl _)
      have HB1 := Lib.hid hb1
      have HOWN := Lib.hid (own_next hown hw1.2.2.2.2)
      have HIT := Lib.hid hit'
      have HP := Lib.hid hp
      have HPERM := Lib.hid hperm
      have hlen : (begs wd done).length + 1 ≤ N := by
        rw [begs_length]
        have h1 := hperm.length_eq
        have h2 := hp.length_eq
        have h3 := hesN.out
        simp at h1 h2
        omega
      have hkx : begOf wd x = hr - hr % wd := by unfold begOf; rw [q2, keyNat_hour]
      have HKX := Lib.hid hkx
      have hmeas : iterLeft w1 w'.heap.size < iterLeft wr w'.heap.size := by
        rw [hcnt.out, hit'.count, hp.length_eq]
        simp
      have hNN := HN.out
      rw [q2, q3] at hrun hent
      unfold hourVal at hrun hent
      have hsub : (hr : Int) - ((hr : Int) % (wd : Int)) = ((hr - hr % wd : Nat) : Int) := by
        have := Nat.mod_le hr wd
        have e : ((hr : Int) % (wd : Int)) = ((hr % wd : Nat) : Int) := by simp
        omega
      have HSUB := Lib.hid (show wrap64 ((hr : Int) - ((hr : Int) % (wd : Int))) = ((hr - hr % wd : Nat) : Int) by rw [hsub]; have : hr < 2097152 := q1; unfold wrap64; omega)
      have hw0 := HW0.out
      have hwm := HWM.out
      have hrl : hr < 2097152 := q1
      unfold limit at hwm
      clear hit hmw hb hown hperm hw1 hp hit' hx q1 q2 q3 q4 q5 q6 q7 hb1 hkx hsub
      go_wp2_with (first | rw [hrun] | rw [hent] | (at_builtin; refine wpList_append_own _ rfl _ _ 66 rfl (w'.heap.size + 1) 2 j0 (.int .i64 0) 1 8 Try.underlying66 hj0 hy0 hy1 hy2 rfl (by decide) _ _ _ rfl (HOWN.out.alloc _) ⟨w1.heap.size, 0, none⟩ 1 1 [.int .i64 (wrap64 ((hr : Int) - ((hr : Int) % (wd : Int))))] rfl rfl ?d1 ?d2 ?d3 ?d4 ?d5 ?_))
      case d1 => exact fun j u h => cells_new w1 [.int .i64 (wrap64 ((hr : Int) - ((hr : Int) % (wd : Int))))] 2 j u h
      case d2 => simp [Value.oneCell']
      case d3 => unfold maxLen; omega
      case d4 => omega
      case d5 => have := HIT.out.lt; simp; omega
      intro v' w2 hown2 hgrow _
      rw [HSUB.out] at hown2 hgrow
      have hbb : Below w'.heap.size w' w2 := (bal HB1.out (Obj.cells #[.int .i64 ((hr - hr % wd : Nat) : Int)] 2)).grown hgrow (bal HB1.out _).size fun q hq => by
        have := own_ge HOWN.out hq
        omega
      have hM1 : MapIs Try.prog 2 w1 m es := HH.out.map.same (HB1.out.block m hms)
      have hi1 : IterIs w2 w'.heap.size m es left' := (HIT.out.kept (bal (brefl w1) (Obj.cells #[.int .i64 ((hr - hr % wd : Nat) : Int)] 2)) hM1.lt).grown (HOWN.out.alloc _) hgrow (hM1.same ((bal (brefl w1) (Obj.cells #[.int .i64 ((hr - hr % wd : Nat) : Int)] 2)).block _ hM1.lt))
      have HI1 := Lib.hid hi1
      have HBB := Lib.hid hbb
      have HO2 := Lib.hid (show w2.ownsRow (w'.heap.size + 1) 2 1 v' (begs wd (done ++ [x])).length ((begs wd (done ++ [x])).map (Value.int .i64)) by
        have e : begs wd (done ++ [x]) = begs wd done ++ [((hr - hr % wd : Nat) : Int)] := by
          rw [begs_append]
          unfold begs
          simp [HKX.out]
        rw [e, List.length_append, List.map_append]
        exact hown2)
      have HP2 := Lib.hid (show es.Perm ((done ++ [x]) ++ left') by
        have h1 := HPERM.out.trans (HP.out.append_left done)
        rw [List.append_assoc]
        exact h1)
      have hdec := Lib.hid (show iterLeft w2 w'.heap.size < iterLeft wr w'.heap.size by rw [hi1.count, hcnt.out, HP.out.length_eq]; simp)
      clear hown2 hgrow hbb hi1 hM1
      go_wp2
      go_roundw
      case rel => exact ⟨left', _, HI1.out, HP2.out, HO2.out, HBB.out⟩
      case measure => exact hdec.out
end Go.Proofs.Ytjfeeampcgmngaa
