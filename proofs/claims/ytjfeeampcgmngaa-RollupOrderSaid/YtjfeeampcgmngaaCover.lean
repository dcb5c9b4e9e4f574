/- rollup.Cover; Windows of no level. -/
import Derived.Test.YtjfeeampcgmngaaWins
namespace Go.Proofs.Ytjfeeampcgmngaa
open Go.RowKit Go.Shelf Go.Maps

set_option maxRecDepth 100000 in
set_option maxHeartbeats 1000000 in
theorem Windows_far (w : World) (r m fan k : Nat) (hb : Blk w r 69 [.int .i64 fan, .map (some m)]) (hf2 : 2 ≤ fan) (hf16 : fan ≤ 16) (hk : ¬ (k = 0 ∨ fan ^ (k - 1) < limit)) (hkb : k ≤ 1099511627776) :
    Calls Try.prog 9 #[.pointer (some ⟨r, 0, none⟩), .int .i64 k] w fun en w' => en = .returned (.tuple #[.slice none 0 0, .int .i64 1]) ∧ w' = w := by
  have HWD := Lib.hid (wide_any w r m fan k hb hf2 hf16 hkb)
  rw [if_neg hk] at HWD
  clear hb hk hkb hf2 hf16
  go_enter Try.func9, Try.ntmps9
  go_wp2_with fail
  refine HWD.out.mono ?_
  rintro e w' ⟨rfl, rfl⟩
  clear HWD
  go_wp2_with fail
  go_ret2
  exact ⟨rfl, rfl⟩
set_option maxRecDepth 100000 in
theorem Windows_neg (w : World) (r : Nat) (k : Int) (hk : k < 0) :
    Calls Try.prog 9 #[.pointer (some ⟨r, 0, none⟩), .int .i64 k] w fun en w' => en = .returned (.tuple #[.slice none 0 0, .int .i64 1]) ∧ w' = w := by
  have HWD := Lib.hid (wide_neg w r k hk)
  go_enter Try.func9, Try.ntmps9
  go_wp2_with fail
  refine HWD.out.mono ?_
  rintro e w' ⟨rfl, rfl⟩
  clear HWD
  go_wp2_with fail
  go_ret2
  exact ⟨rfl, rfl⟩

set_option maxRecDepth 100000 in
theorem Cover_bad (w : World) (r : Nat) (lo to : Int) (h : ¬ (0 ≤ lo ∧ lo ≤ to ∧ to ≤ 2097152)) :
    Calls Try.prog 7 #[.pointer (some ⟨r, 0, none⟩), .int .i64 lo, .int .i64 to] w fun en w' => en = .returned (.tuple #[.slice none 0 0, .int .i64 151]) ∧ w' = w := by
  by_cases g1 : lo < 0
  · clear h
    go_enter Try.func7, Try.ntmps7
    go_wp2_with fail
    go_ret2
    exact ⟨rfl, rfl⟩
  · by_cases g2 : to < lo
    · clear h
      go_enter Try.func7, Try.ntmps7
      go_wp2_with fail
      go_ret2
      exact ⟨rfl, rfl⟩
    · have g3 : 2097152 < to := by omega
      clear h
      go_enter Try.func7, Try.ntmps7
      go_wp2_with fail
      go_ret2
      exact ⟨rfl, rfl⟩

/-- Windows that cover a range. -/
structure CovTell (M : Cont) (F lo to : Nat) (l : List (Nat × Nat)) (L : List WT) (e : Nat) : Prop where
  chain : Chain F to lo l e
  eq : L.map (fun p => (p.1, p.2.1)) = l.map (fun q => (q.1, F ^ q.2))
  tells : ∀ p ∈ L, Tells p.2.2 (fun e => hsum M e p.1 p.2.1)
theorem Chain.length_le {F to : Nat} (hF : 2 ≤ F) : ∀ {s : Nat} {l : List (Nat × Nat)} {e : Nat}, Chain F to s l e → s + l.length ≤ e
  | _, [], _, h => by cases h; simp
  | s, (_, k) :: l, _, ⟨_, _, h3⟩ => by
    have := h3.length_le hF
    have : 0 < F ^ k := Nat.pow_pos (by omega)
    simp
    omega
theorem CovTell.snoc {M : Cont} {F lo to s k : Nat} {l : List (Nat × Nat)} {L : List WT} {Lw : List ET} (h : CovTell M F lo to l L s) (g : Good F to s k) (ht : Tells Lw (fun e => hsum M e s (F ^ k))) : CovTell M F lo to (l ++ [(s, k)]) (L ++ [(s, F ^ k, Lw)]) (s + F ^ k) :=
  ⟨h.chain.snoc g, by rw [List.map_append, List.map_append, h.eq]; rfl, fun p hp => by
    rcases List.mem_append.1 hp with hp | hp
    · exact h.tells p hp
    · simp at hp; subst hp; exact ht⟩
def CoverLoop (w : World) (M : Cont) (F lo to : Nat) (fr v : Value) (wr : World) : Prop :=
  ∃ (s : Nat) (l : List (Nat × Nat)) (L : List WT) (d : List WinV), fr = .int .i64 s ∧ s ≤ to ∧ CovTell M F lo to l L s ∧ WinRow w.heap.size v wr L d ∧ Below w.heap.size w wr
def LevelLoop (V : World) (F to s : Nat) (many level : Value) (wr : World) : Prop :=
  ∃ j : Nat, many = .int .i64 (F ^ j : Nat) ∧ level = .int .i64 (j + 1 : Nat) ∧ s % F ^ j = 0 ∧ s + F ^ j ≤ to ∧ wr = V ∧ j ≤ 22
def CoverPost (w : World) (M : Cont) (F lo to : Nat) (en : Ending) (w' : World) : Prop :=
  ∃ A n c l L, en = .returned (.tuple #[.slice A n c, .int .i64 0]) ∧ n ≤ c ∧ WinsAt w.heap.size w' A n L ∧ CovTell M F lo to l L to ∧ Below w.heap.size w w'

theorem pow_22 {F j : Nat} (hF : 2 ≤ F) (h : F ^ j ≤ 2097152) : j ≤ 21 := by
  rcases Nat.lt_or_ge j 22 with hlt | hge
  · omega
  · have h1 : 2 ^ 22 ≤ F ^ j := Nat.le_trans (Nat.pow_le_pow_left hF 22) (Nat.pow_le_pow_right (by omega) hge)
    simp at h1
    omega

set_option maxRecDepth 100000 in
set_option maxHeartbeats 4000000 in
theorem Cover_ok (w : World) (r m fan lo to : Nat) (es : List MapEntry) (M : Cont) (F : Nat → Prop) (h : RollAt w r m fan es M F) (hf2 : 2 ≤ fan) (hf16 : fan ≤ 16) (hlo : lo ≤ to) (hto : to ≤ 2097152) (N : Nat) (hN : N * 112 ≤ 140737488355328) (hf : Few N M) :
    Calls Try.prog 7 #[.pointer (some ⟨r, 0, none⟩), .int .i64 lo, .int .i64 to] w (CoverPost w M fan lo to) := by
  have HH := Lib.hid h
  have HN := Lib.hid hN
  have HF := Lib.hid hf
  have HF2 := Lib.hid hf2
  have HF16 := Lib.hid hf16
  obtain ⟨i0, hi0, hz0, hz1, hz2⟩ := info_parts winInfo
  have hs := h.blk.lt
  have HTO := Lib.hid hto
  have HLO := Lib.hid hlo
  have g1 : ¬ ((lo : Int) < 0) := by omega
  have g2 : ¬ ((to : Int) < lo) := by omega
  have g3 : ¬ (2097152 < (to : Int)) := by omega
  clear h hN hf hf2 hf16 hto hlo
  go_enter Try.func7, Try.ntmps7
  go_wp2_with fail
  clear g1 g2 g3
  go_loopw [1, 8] (fun fr v wr => CoverLoop w M fan lo to fr v wr) (fun fr _ _ => to - (intOf fr).toNat)
  case atStart => exact ⟨lo, [], [], [], rfl, HLO.out, ⟨rfl, rfl, (by intro p hp; simp at hp)⟩, WinRow.nil _ _, brefl _⟩
  case round =>
    obtain ⟨s, l, L, d, rfl, hst, hcov, hrow, hb⟩ := hrel
    have HCOV := Lib.hid hcov
    have HROW := Lib.hid hrow
    have HB := Lib.hid hb
    by_cases hlt : s < to
    · clear hcov hrow hb
      go_wp2_with fail
      obtain ⟨V, rfl⟩ : ∃ V, V = wr := ⟨_, rfl⟩
      go_loopw [9, 10] (fun many level wr' => LevelLoop V fan to s many level wr') (fun many _ _ => 2097153 - (intOf many).toNat)
      case atStart => exact ⟨0, by simp, rfl, Nat.mod_one _, by simp; omega, rfl, by omega⟩
      case round =>
        obtain ⟨j, rfl, rfl, hd, hfit, hwr, hj⟩ := hrel
        subst hwr
        have hp0 : 0 < fan ^ j := Nat.pow_pos (by have := HF2.out; omega)
        have HD := Lib.hid hd
        have HFIT := Lib.hid hfit
        have hwide := wide_any _ r m fan (j + 1) (HH.out.below HB.out).blk HF2.out HF16.out (by omega)
        have HWIN := Lib.hid (window_any _ r m fan es M F s (fan ^ j) (HH.out.below HB.out) N HN.out HF.out (by have := HTO.out; omega))
        have HDL := Lib.hid (show d.length ≤ 2097152 by
          have h1 := HCOV.out.chain.length_le HF2.out
          have h2 := congrArg List.length HCOV.out.eq
          have h3 := HROW.out.len
          have h4 := HTO.out
          simp only [List.length_map] at h2
          omega)
        by_cases hl : fan ^ j < limit
        · rw [if_pos (show j + 1 = 0 ∨ fan ^ (j + 1 - 1) < limit from .inr (by simpa using hl))] at hwide
          have HWD := Lib.hid hwide
          have hl2 : fan ^ (j + 1) ≤ 16 * limit := by
            rw [Nat.pow_succ, Nat.mul_comm]
            exact Nat.mul_le_mul HF16.out (Nat.le_of_lt hl)
          have hp1 : 0 < fan ^ (j + 1) := Nat.pow_pos (by have := HF2.out; omega)
          have hmono : fan ^ j < fan ^ (j + 1) := Nat.pow_lt_pow_right (by have := HF2.out; omega) (by omega)
          have hmod : ((s : Int) % (fan ^ (j + 1) : Nat)) = ((s % fan ^ (j + 1) : Nat) : Int) := by simp
          by_cases hm : s % fan ^ (j + 1) = 0
          · have hm' : (((s : Int) % (fan ^ (j + 1) : Nat)) != 0) = false := by
              rw [hmod, hm]
              rfl
            by_cases hf3 : s + fan ^ (j + 1) ≤ to
            · have hHM := Lib.hid hm
              have hHF := Lib.hid hf3
              have HJ := Lib.hid (show j + 1 ≤ 22 by have hj1 := pow_22 HF2.out (show fan ^ j ≤ 2097152 by unfold limit at hl; omega); omega)
              have hw64 : ¬ ((to : Int) < wrap64 ((s : Int) + (fan ^ (j + 1) : Nat))) := by
                have := HTO.out
                unfold limit at hl2
                unfold wrap64
                omega
              have hfp : fan ^ j ≤ 2097152 := by have := HTO.out; omega
              generalize hP1 : fan ^ (j + 1) = P1 at *
              generalize hP : fan ^ j = P at *
              have HP1 := Lib.hid hP1
              have HP := Lib.hid hP
              have HMONO := Lib.hid hmono
              have HFP := Lib.hid hfp
              unfold limit at hl2
              clear hm hd hfit hf3 hl hP hP1 hwide hmono hmod hfp
              go_wp2_with fail
              refine HWD.out.mono ?_
              rintro e w2 ⟨rfl, rfl⟩
              go_wp2_with fail
              have hj2 : wrap64 ((j : Int) + 1 + 1) = ((j + 1 + 1 : Nat) : Int) := by unfold wrap64; omega
              try rw [hj2]
              go_roundw
              case rel => exact ⟨j + 1, by rw [HP1.out], by go_num, by rw [HP1.out]; exact hHM.out, by rw [HP1.out]; exact hHF.out, rfl, HJ.out⟩
              case measure =>
                have := HMONO.out
                have := HFP.out
                simp [intOf]
                omega
            · -- it goes beyond
              have HGOOD := Lib.hid (show Good fan to s j from ⟨hlt, hd, hfit, fun h => hf3 h.2.2⟩)
              have hw64 : (to : Int) < wrap64 ((s : Int) + (fan ^ (j + 1) : Nat)) := by
                have := HTO.out
                unfold limit at hl2
                unfold wrap64
                omega
              have hfp : fan ^ j ≤ 2097152 := by have := HTO.out; omega
              generalize hP1 : fan ^ (j + 1) = P1 at *
              generalize hP : fan ^ j = P at *
              have HP := Lib.hid hP
              unfold limit at hl2
              clear hm hd hfit hf3 hl hP hP1 hwide hmono hmod
              go_wp2_with fail
              refine HWD.out.mono ?_
              rintro e w2 ⟨rfl, rfl⟩
              go_wp2_with fail
              refine HWIN.out.mono ?_
              rintro en w4 ⟨A, kk, c, Lw, rfl, hed, htl, hb4⟩
              have hlt4 := own_lt HROW.out.own
              have HK4 := Lib.hid (show ∀ (i : Nat) (x : WinV) (p : WT), d[i]? = some x → L[i]? = some p → WinKept w.heap.size _ _ x p from fun i x p hx hp => ((HROW.out.kept i x p hx hp).below hb4).below (bal (brefl w4) (Obj.cells #[.int .i64 s, .int .i64 P, .slice A kk c] 32)))
              have HX4 := Lib.hid (show WinKept w.heap.size _ _ ⟨s, P, A, kk, c⟩ (s, P, Lw) from WinKept.below (own := _) ⟨rfl, rfl, w4, w2.heap.size, HB.out.size, hed, Nat.le_refl _, Stays.refl _ _ _, fun g hg => by have := hlt4 g hg; omega⟩ (bal (brefl w4) (Obj.cells #[.int .i64 s, .int .i64 P, .slice A kk c] 32)))
              have HOWN := Lib.hid (own_below HROW.out.own hb4)
              have HTL := Lib.hid htl
              have HB4 := Lib.hid (btrans HB.out hb4)
              have hdl := HDL.out
              clear hed htl hb4 hlt4 HWIN
              go_wp2_with (at_builtin; refine wpList_append_own_at _ rfl _ _ 26 rfl w.heap.size 32 i0 (.agg #[.int .i64 0, .int .i64 0, .slice none 0 0]) 3 40 Try.underlying26 hi0 hz0 hz1 hz2 rfl (by decide) _ _ _ rfl (HOWN.out.alloc _) ⟨w4.heap.size, 0, none⟩ 1 1 [.int .i64 s, .int .i64 P, .slice A kk c] rfl rfl ?c11 ?c12 ?c13 ?c14 ?c15 ?_)
              case c11 => exact fun j u h => cells_new w4 [.int .i64 s, .int .i64 P, .slice A kk c] 32 j u h
              case c12 => simp [Value.oneCell']
              case c13 => unfold maxLen; omega
              case c14 => omega
              case c15 => have := HB4.out.size; simp; omega
              intro v' w5 hown5 hgrow _ hat
              have HROW5 := Lib.hid (WinRow.snoc HK4.out HROW.out.len HX4.out hown5 hgrow (by simpa using hat))
              have HB5 := Lib.hid (bgrown (bal HB4.out _) hgrow (HOWN.out.alloc _))
              have hfit := HFIT.out
              have hto := HTO.out
              have hwn : wrap64 ((s : Int) + (P : Int)) = ((s + P : Nat) : Int) := by unfold wrap64; omega
              have HWN := Lib.hid hwn
              clear hown5 hgrow hat hwn
              go_wp2
              go_roundw
              case rel => exact ⟨s + P, _, _, _, rfl, hfit, by have h9 := HCOV.out.snoc HGOOD.out (Lw := Lw) (by rw [HP.out]; exact HTL.out); rw [HP.out] at h9; exact h9, HROW5.out, HB5.out⟩
              case measure => simp [intOf]; omega
          · -- it does not begin there
            have HGOOD := Lib.hid (show Good fan to s j from ⟨hlt, hd, hfit, fun h => hm h.2.1⟩)
            have hm' : (((s : Int) % (fan ^ (j + 1) : Nat)) != 0) = true := by
              rw [hmod, bne_iff_ne]
              omega
            have hfp : fan ^ j ≤ 2097152 := by have := HTO.out; omega
            generalize hP1 : fan ^ (j + 1) = P1 at *
            generalize hP : fan ^ j = P at *
            have HP := Lib.hid hP
            unfold limit at hl2
            clear hm hd hfit  hl hP hP1 hwide hmono hmod
            go_wp2_with fail
            refine HWD.out.mono ?_
            rintro e w2 ⟨rfl, rfl⟩
            go_wp2_with fail
            refine HWIN.out.mono ?_
            rintro en w4 ⟨A, kk, c, Lw, rfl, hed, htl, hb4⟩
            have hlt4 := own_lt HROW.out.own
            have HK4 := Lib.hid (show ∀ (i : Nat) (x : WinV) (p : WT), d[i]? = some x → L[i]? = some p → WinKept w.heap.size _ _ x p from fun i x p hx hp => ((HROW.out.kept i x p hx hp).below hb4).below (bal (brefl w4) (Obj.cells #[.int .i64 s, .int .i64 P, .slice A kk c] 32)))
            have HX4 := Lib.hid (show WinKept w.heap.size _ _ ⟨s, P, A, kk, c⟩ (s, P, Lw) from WinKept.below (own := _) ⟨rfl, rfl, w4, w2.heap.size, HB.out.size, hed, Nat.le_refl _, Stays.refl _ _ _, fun g hg => by have := hlt4 g hg; omega⟩ (bal (brefl w4) (Obj.cells #[.int .i64 s, .int .i64 P, .slice A kk c] 32)))
            have HOWN := Lib.hid (own_below HROW.out.own hb4)
            have HTL := Lib.hid htl
            have HB4 := Lib.hid (btrans HB.out hb4)
            have hdl := HDL.out
            clear hed htl hb4 hlt4 HWIN
            go_wp2_with (at_builtin; refine wpList_append_own_at _ rfl _ _ 26 rfl w.heap.size 32 i0 (.agg #[.int .i64 0, .int .i64 0, .slice none 0 0]) 3 40 Try.underlying26 hi0 hz0 hz1 hz2 rfl (by decide) _ _ _ rfl (HOWN.out.alloc _) ⟨w4.heap.size, 0, none⟩ 1 1 [.int .i64 s, .int .i64 P, .slice A kk c] rfl rfl ?c21 ?c22 ?c23 ?c24 ?c25 ?_)
            case c21 => exact fun j u h => cells_new w4 [.int .i64 s, .int .i64 P, .slice A kk c] 32 j u h
            case c22 => simp [Value.oneCell']
            case c23 => unfold maxLen; omega
            case c24 => omega
            case c25 => have := HB4.out.size; simp; omega
            intro v' w5 hown5 hgrow _ hat
            have HROW5 := Lib.hid (WinRow.snoc HK4.out HROW.out.len HX4.out hown5 hgrow (by simpa using hat))
            have HB5 := Lib.hid (bgrown (bal HB4.out _) hgrow (HOWN.out.alloc _))
            have hfit := HFIT.out
            have hto := HTO.out
            have hwn : wrap64 ((s : Int) + (P : Int)) = ((s + P : Nat) : Int) := by unfold wrap64; omega
            have HWN := Lib.hid hwn
            clear hown5 hgrow hat hwn
            go_wp2
            try rw [HWN.out]
            go_roundw
            case rel => exact ⟨s + P, _, _, _, rfl, hfit, by have h9 := HCOV.out.snoc HGOOD.out (Lw := Lw) (by rw [HP.out]; exact HTL.out); rw [HP.out] at h9; exact h9, HROW5.out, HB5.out⟩
            case measure => simp [intOf]; omega
        · rw [if_neg (show ¬ (j + 1 = 0 ∨ fan ^ (j + 1 - 1) < limit) from fun h => hl (by simpa using h))] at hwide
          have HWD := Lib.hid hwide
          have HGOOD := Lib.hid (show Good fan to s j from ⟨hlt, hd, hfit, fun h => hl h.1⟩)
          have hfp : fan ^ j ≤ 2097152 := by have := HTO.out; omega
          generalize hP : fan ^ j = P at *
          have HP := Lib.hid hP
          clear hd hfit hl hP hwide
          go_wp2_with fail
          refine HWD.out.mono ?_
          rintro e w2 ⟨rfl, rfl⟩
          go_wp2_with fail
          refine HWIN.out.mono ?_
          rintro en w4 ⟨A, kk, c, Lw, rfl, hed, htl, hb4⟩
          have hlt4 := own_lt HROW.out.own
          have HK4 := Lib.hid (show ∀ (i : Nat) (x : WinV) (p : WT), d[i]? = some x → L[i]? = some p → WinKept w.heap.size _ _ x p from fun i x p hx hp => ((HROW.out.kept i x p hx hp).below hb4).below (bal (brefl w4) (Obj.cells #[.int .i64 s, .int .i64 P, .slice A kk c] 32)))
          have HX4 := Lib.hid (show WinKept w.heap.size _ _ ⟨s, P, A, kk, c⟩ (s, P, Lw) from WinKept.below (own := _) ⟨rfl, rfl, w4, w2.heap.size, HB.out.size, hed, Nat.le_refl _, Stays.refl _ _ _, fun g hg => by have := hlt4 g hg; omega⟩ (bal (brefl w4) (Obj.cells #[.int .i64 s, .int .i64 P, .slice A kk c] 32)))
          have HOWN := Lib.hid (own_below HROW.out.own hb4)
          have HTL := Lib.hid htl
          have HB4 := Lib.hid (btrans HB.out hb4)
          have hdl := HDL.out
          clear hed htl hb4 hlt4 HWIN
          go_wp2_with (at_builtin; refine wpList_append_own_at _ rfl _ _ 26 rfl w.heap.size 32 i0 (.agg #[.int .i64 0, .int .i64 0, .slice none 0 0]) 3 40 Try.underlying26 hi0 hz0 hz1 hz2 rfl (by decide) _ _ _ rfl (HOWN.out.alloc _) ⟨w4.heap.size, 0, none⟩ 1 1 [.int .i64 s, .int .i64 P, .slice A kk c] rfl rfl ?c31 ?c32 ?c33 ?c34 ?c35 ?_)
          case c31 => exact fun j u h => cells_new w4 [.int .i64 s, .int .i64 P, .slice A kk c] 32 j u h
          case c32 => simp [Value.oneCell']
          case c33 => unfold maxLen; omega
          case c34 => omega
          case c35 => have := HB4.out.size; simp; omega
          intro v' w5 hown5 hgrow _ hat
          have HROW5 := Lib.hid (WinRow.snoc HK4.out HROW.out.len HX4.out hown5 hgrow (by simpa using hat))
          have HB5 := Lib.hid (bgrown (bal HB4.out _) hgrow (HOWN.out.alloc _))
          have hfit := HFIT.out
          have hto := HTO.out
          have hwn : wrap64 ((s : Int) + (P : Int)) = ((s + P : Nat) : Int) := by unfold wrap64; omega
          have HWN := Lib.hid hwn
          clear hown5 hgrow hat hwn
          go_wp2
          try rw [HWN.out]
          go_roundw
          case rel => exact ⟨s + P, _, _, _, rfl, hfit, by have h9 := HCOV.out.snoc HGOOD.out (Lw := Lw) (by rw [HP.out]; exact HTL.out); rw [HP.out] at h9; exact h9, HROW5.out, HB5.out⟩
          case measure => simp [intOf]; omega
    · have hst' : s = to := by omega
      subst hst'
      obtain ⟨A, c, hv, hnc, hwins⟩ := hrow.wins
      subst hv
      have HWI := Lib.hid hwins
      clear hcov hrow hb hwins
      go_wp2_with fail
      go_ret2
      exact ⟨A, _, c, l, L, rfl, hnc, HWI.out, HCOV.out, HB.out⟩
end Go.Proofs.Ytjfeeampcgmngaa
