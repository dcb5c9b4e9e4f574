/- The document's Merge of bars. -/
import Derived.Test.YtjfeeampcgmngaaRef13
import Derived.Deep.AppendLies
namespace Go.Proofs.Ytjfeeampcgmngaa
open Go.RowKit Go.Shelf Go.Maps

/-! ### plain: bars one by one -/
theorem canon_add (f : Nat → Nat) : ∀ (m n lo : Nat), canon f lo (m + n) = canon f lo m ++ canon f (lo + m) n
  | 0, n, lo => by simp [canon]
  | m + 1, n, lo => by
    rw [show m + 1 + n = (m + n) + 1 by omega]
    show (if f lo = 0 then canon f (lo + 1) (m + n) else (lo, f lo) :: canon f (lo + 1) (m + n)) = (if f lo = 0 then canon f (lo + 1) m else (lo, f lo) :: canon f (lo + 1) m) ++ canon f (lo + (m + 1)) n
    rw [canon_add f m n (lo + 1), show lo + 1 + m = lo + (m + 1) by omega]
    split <;> rfl
theorem canon_to (f : Nat → Nat) {lo j : Nat} (h : lo ≤ j) (hz : ∀ i, lo ≤ i → i < j → f i = 0) (hj : f j ≠ 0) : canon f 0 (j + 1) = canon f 0 lo ++ [(j, f j)] := by
  rw [show j + 1 = lo + (j - lo + 1) by omega, canon_add, Nat.zero_add, canon_add, canon_of_zero (j - lo) lo (fun i h1 h2 => hz i h1 (by omega)), show lo + (j - lo) = j by omega]
  simp [canon, hj]
theorem canon_end (f : Nat → Nat) {lo : Nat} (h : lo ≤ 1920) (hz : ∀ i, lo ≤ i → i < 1920 → f i = 0) : canon f 0 1920 = canon f 0 lo := by
  rw [show 1920 = lo + (1920 - lo) by omega, canon_add, Nat.zero_add, canon_of_zero (1920 - lo) lo (fun i h1 h2 => hz i h1 (by omega))]
  simp
theorem cnt_pre {i : Nat} : ∀ {pre rest : List (Nat × Nat)}, (∀ p ∈ pre, p.1 ≠ i) → cnt (pre ++ rest) i = cnt rest i
  | [], _, _ => rfl
  | (a, d) :: pre, rest, h => by
    show (if a = i then d else cnt (pre ++ rest) i) = _
    rw [if_neg (h (a, d) (by simp))]
    exact cnt_pre fun p hp => h p (by simp [hp])
theorem Valid.le_lo {l : List (Nat × Nat)} {lo j c : Nat} (h : Valid lo ((j, c) :: l)) : lo ≤ j := h.1
/-- Where a walk through two lists of bars stands. -/
structure At2 (la lb pa ra pb rb : List (Nat × Nat)) (lo : Nat) : Prop where
  a : la = pa ++ ra
  b : lb = pb ++ rb
  va : Valid lo ra
  vb : Valid lo rb
  la_ : ∀ p ∈ pa, p.1 < lo
  lb_ : ∀ p ∈ pb, p.1 < lo
  le : lo ≤ 1920
def gsum (la lb : List (Nat × Nat)) (i : Nat) : Nat := satAdd M64 (cnt la i) (cnt lb i)
section
variable {la lb pa ra pb rb : List (Nat × Nat)} {lo j c c' : Nat}
theorem At2.cntA (h : At2 la lb pa ra pb rb lo) {i : Nat} (hi : lo ≤ i) : cnt la i = cnt ra i := by rw [h.a]; exact cnt_pre fun p hp e => by have := h.la_ p hp; omega
theorem At2.cntB (h : At2 la lb pa ra pb rb lo) {i : Nat} (hi : lo ≤ i) : cnt lb i = cnt rb i := by rw [h.b]; exact cnt_pre fun p hp e => by have := h.lb_ p hp; omega
theorem sat_zero : satAdd M64 0 0 = 0 := by unfold satAdd; omega
theorem At2.done (h : At2 la lb pa [] pb [] lo) : canon (gsum la lb) 0 lo = addBars la lb := by
  unfold addBars
  refine (canon_end _ h.le fun i h1 _ => ?_).symm
  unfold gsum
  rw [h.cntA h1, h.cntB h1]
  exact sat_zero
theorem Valid.tail {l : List (Nat × Nat)} (h : Valid lo ((j, c) :: l)) : Valid (j + 1) l := h.2.2.2.2
theorem lt_append {pa : List (Nat × Nat)} (h : ∀ p ∈ pa, p.1 < lo) (hj : lo ≤ j) : ∀ p ∈ pa ++ [(j, c)], p.1 < j + 1 := fun p hp => by
  rcases List.mem_append.1 hp with hp | hp
  · have := h p hp; omega
  · simp at hp; subst hp; simp
theorem lt_more {pa : List (Nat × Nat)} (h : ∀ p ∈ pa, p.1 < lo) (hj : lo ≤ j) : ∀ p ∈ pa, p.1 < j + 1 := fun p hp => by have := h p hp; omega
theorem Valid.up {l : List (Nat × Nat)} : ∀ (_ : Valid lo l) (_ : ∀ p ∈ l.head?, j < p.1), Valid (j + 1) l := by
  cases l with
  | nil => intro _ _; trivial
  | cons p l => exact fun h h2 => ⟨h2 p rfl, h.2⟩
theorem cnt_head {l : List (Nat × Nat)} : cnt ((j, c) :: l) j = c := by unfold cnt; rw [if_pos rfl]
theorem At2.stepA (h : At2 la lb pa ((j, c) :: ra) pb rb lo) (hb : ∀ p ∈ rb.head?, j < p.1) : At2 la lb (pa ++ [(j, c)]) ra pb rb (j + 1) ∧ canon (gsum la lb) 0 (j + 1) = canon (gsum la lb) 0 lo ++ [(j, c)] := by
  have hv := h.va
  obtain ⟨v1, v2, v3, v4, v5⟩ := hv
  have vb' := h.vb.up hb
  refine ⟨⟨by rw [h.a]; simp, h.b, v5, vb', lt_append h.la_ v1, lt_more h.lb_ v1, v2⟩, ?_⟩
  have hj : gsum la lb j = c := by
    unfold gsum
    rw [h.cntA v1, h.cntB v1, cnt_head, cnt_below vb' (by omega), satAdd_comm]
    exact satAdd_zero v4
  rw [← hj]
  refine canon_to _ v1 (fun i h1 h2 => ?_) (by rw [hj]; omega)
  unfold gsum
  have za : cnt ((j, c) :: ra) i = 0 := by
    unfold cnt
    rw [if_neg (by omega)]
    exact cnt_below v5 (by omega)
  rw [h.cntA h1, h.cntB h1, za, cnt_below vb' (by omega)]
  exact sat_zero
theorem gsum_comm (la lb : List (Nat × Nat)) : gsum la lb = gsum lb la := funext fun _ => satAdd_comm _ _ _
theorem At2.swap (h : At2 la lb pa ra pb rb lo) : At2 lb la pb rb pa ra lo := ⟨h.b, h.a, h.vb, h.va, h.lb_, h.la_, h.le⟩
theorem At2.stepB (h : At2 la lb pa ra pb ((j, c) :: rb) lo) (hb : ∀ p ∈ ra.head?, j < p.1) : At2 la lb pa ra (pb ++ [(j, c)]) rb (j + 1) ∧ canon (gsum la lb) 0 (j + 1) = canon (gsum la lb) 0 lo ++ [(j, c)] := by
  obtain ⟨h1, h2⟩ := h.swap.stepA hb
  rw [gsum_comm]
  exact ⟨h1.swap, h2⟩
theorem At2.stepAB (h : At2 la lb pa ((j, c) :: ra) pb ((j, c') :: rb) lo) : At2 la lb (pa ++ [(j, c)]) ra (pb ++ [(j, c')]) rb (j + 1) ∧ canon (gsum la lb) 0 (j + 1) = canon (gsum la lb) 0 lo ++ [(j, satAdd M64 c c')] := by
  obtain ⟨v1, v2, v3, v4, v5⟩ := h.va
  obtain ⟨u1, u2, u3, u4, u5⟩ := h.vb
  refine ⟨⟨by rw [h.a]; simp, by rw [h.b]; simp, v5, u5, lt_append h.la_ v1, lt_append h.lb_ v1, v2⟩, ?_⟩
  have hj : gsum la lb j = satAdd M64 c c' := by
    unfold gsum
    rw [h.cntA v1, h.cntB v1, cnt_head, cnt_head]
  rw [← hj]
  refine canon_to _ v1 (fun i h1 h2 => ?_) (by rw [hj]; unfold satAdd M64; omega)
  unfold gsum
  have za : cnt ((j, c) :: ra) i = 0 := by
    unfold cnt
    rw [if_neg (by omega)]
    exact cnt_below v5 (by omega)
  have zb : cnt ((j, c') :: rb) i = 0 := by
    unfold cnt
    rw [if_neg (by omega)]
    exact cnt_below u5 (by omega)
  rw [h.cntA h1, h.cntB h1, za, zb]
  exact sat_zero
end

theorem own_far {w : World} {base : Nat} {e : TypeId} {size n : Nat} {v : Value} {xs : List Value} (h : w.ownsRow base e size v n xs) {b : Nat} (hb : b < base) : some b ≠ v.ownBlock := fun e0 => by
  have := own_ge h e0.symm
  omega
def RefMLoop (la lb : List (Nat × Nat)) (W : World) (v i k : Value) (wr : World) : Prop :=
  ∃ (pa ra pb rb : List (Nat × Nat)) (lo : Nat), At2 la lb pa ra pb rb lo ∧ i = .int .i64 (pa.length : Nat) ∧ k = .int .i64 (pb.length : Nat) ∧ wr.ownsRow W.heap.size 82 2 v (canon (gsum la lb) 0 lo).length (barCells (canon (gsum la lb) 0 lo)) ∧ Below W.heap.size W wr

set_option maxRecDepth 100000 in
set_option maxHeartbeats 4000000 in
theorem rmerge_ok (w : World) (A1 : Option Addr) (n1 c1 : Nat) (la : List (Nat × Nat)) (A2 : Option Addr) (n2 c2 : Nat) (lb : List (Nat × Nat)) (hn1 : n1 ≤ 140737488351232) (hn2 : n2 ≤ 140737488351232)
    (hl1 : BarsAt w A1 n1 (rawBars la)) (hv1 : Valid 0 la) (hl2 : BarsAt w A2 n2 (rawBars lb)) (hv2 : Valid 0 lb) :
    Calls Try.prog 54 #[.slice A1 n1 c1, .slice A2 n2 c2] w fun e w' => ∃ A c, e = .returned (.tuple #[.slice A (addBars la lb).length c, .int .i64 0]) ∧ (addBars la lb).length ≤ c ∧ BarsAt w' A (addBars la lb).length (rawBars (addBars la lb)) ∧ Below w.heap.size w w' ∧ ∀ a, A = some a → w.heap.size ≤ a.block := by
  obtain ⟨i0, hi0, hz0, hz1, hz2⟩ := info_parts barInfo
  have hc1 := rcheck_any w A1 n1 c1 _ true hn1 hl1 (raw_of_valid la 0 hv1)
  have HC2 := Lib.hid (show ∀ w', Below w.heap.size w w' → _ from fun w' hb => rcheck_any w' A2 n2 c2 _ true hn2 (hl2.below hb) (raw_of_valid lb 0 hv2))
  have HLN1 := Lib.hid (show n1 = la.length by rw [hl1.1]; simp [rawBars])
  have HLN2 := Lib.hid (show n2 = lb.length by rw [hl2.1]; simp [rawBars])
  have HL1 := Lib.hid hl1
  have HL2 := Lib.hid hl2
  have HV1 := Lib.hid hv1
  have HV2 := Lib.hid hv2
  simp only [if_true] at hc1
  clear hl1 hl2 hv1 hv2
  go_enter Try.func54, Try.ntmps54
  go_wp2_with fail
  refine hc1.mono ?_
  rintro e w1 ⟨rfl, hb1⟩
  have hc2 := HC2.out w1 hb1
  simp only [if_true] at hc2
  clear hc1
  go_wp2_with fail
  refine hc2.mono ?_
  rintro e w2 ⟨rfl, hb2⟩
  have HB := Lib.hid (btrans hb1 hb2)
  clear hc2 hb1 hb2
  go_wp2_with fail
  go_loopw [6, 7, 8] (fun v i k wr => RefMLoop la lb w v i k wr) (fun _ i k _ => (n1 - (intOf i).toNat) + (n2 - (intOf k).toNat))
  case atStart => exact ⟨[], la, [], lb, 0, ⟨rfl, rfl, HV1.out, HV2.out, by simp, by simp, by omega⟩, rfl, rfl, World.ownsRow_nil _ _ _ _, HB.out⟩
  case round =>
    obtain ⟨pa, ra, pb, rb, lo, hat, rfl, rfl, hown, hb⟩ := hrel
    have HAT := Lib.hid hat
    have HO := Lib.hid hown
    have HB1 := Lib.hid hb
    have hla := canon_length (gsum la lb) lo 0
    have hlo := hat.le
    match ra, rb, hat with
    | [], [], hat =>
      have ha : n1 = pa.length := by rw [HLN1.out, hat.a]; simp
      have da1 : decide (pa.length < n1) = false := by simp; omega
      have da0 : ¬ (pa.length < n1) := by omega
      have da2 : ((pa.length : Int) == (n1 : Int)) = true := by rw [ha]; simp
      have HLA := Lib.hid ha
      clear ha
      have hbl : n2 = pb.length := by rw [HLN2.out, hat.b]; simp
      have db0 : ¬ (pb.length < n2) := by omega
      have db2 : ((pb.length : Int) == (n2 : Int)) = true := by rw [hbl]; simp
      have HLB := Lib.hid hbl
      clear hbl
      obtain ⟨A, c, hv, hnc, hbars, hfr⟩ := bars_of_own (show wr.ownsRow w.heap.size 82 2 _ (addBars la lb).length (barCells (addBars la lb)) by rw [← hat.done]; exact hown)
      subst hv
      have HBA := Lib.hid hbars
      have HFR := Lib.hid hfr
      clear hat hb hown hbars hfr
      go_wp2_with fail
      go_ret2
      exact ⟨A, c, rfl, hnc, HBA.out, HB1.out, HFR.out⟩
    | (j, cc) :: ra', [], hat =>
      have ha : pa.length < n1 := by rw [HLN1.out, hat.a]; simp
      obtain ⟨b1, o1, rfl, hca⟩ := HL1.out.2 (by omega)
      have hga : (rawBars la)[pa.length]? = some ((j : Int), (cc : Int)) := by rw [hat.a]; simp [rawBars]
      obtain ⟨p1, p2⟩ := hca _ _ _ hga
      have q1 := bcell1 hb p1
      have q2 := bcell1 hb p2
      have da1 : decide (pa.length < n1) = true := by simpa using ha
      have da2 : ((pa.length : Int) == (n1 : Int)) = false := by rw [beq_eq_false_iff_ne]; omega
      have lb1 := cell_lt p1
      clear hca hga p1 p2
      have hbl : n2 = pb.length := by rw [HLN2.out, hat.b]; simp
      have db0 : ¬ (pb.length < n2) := by omega
      have db2 : ((pb.length : Int) == (n2 : Int)) = true := by rw [hbl]; simp
      have HLB := Lib.hid hbl
      clear hbl
      clear hat hb hown
      go_wp2_with fail
      go_quiet (fail)
      go_wp2_with (at_builtin; refine wpList_append_own _ rfl _ _ 44 rfl w.heap.size 82 i0 (.agg #[.int .i64 0, .int .u64 0]) 2 16 Try.underlying44 hi0 hz0 hz1 hz2 rfl (by decide) _ _ _ rfl (World.ownsRow.alloc (show (wr.drewN nq).ownsRow w.heap.size 82 2 _ _ _ from HO.out) _) ⟨wr.heap.size, 0, none⟩ 1 1 [.int .i64 j, .int .u64 cc] rfl rfl ?c11 ?c12 ?c13 ?c14 ?c15 ?_)
      case c11 => exact fun q u h => cells_new _ [.int .i64 j, .int .u64 cc] 82 q u h
      case c12 => simp [Value.oneCell']
      case c13 => unfold maxLen; omega
      case c14 => omega
      case c15 => have := HB1.out.size; simp [World.drewN]; omega
      intro v' w3 hown3 hgrow _
      obtain ⟨hst1, hst2⟩ := HAT.out.stepA (by intro p hp; simp at hp; try (subst hp; simpa using hlt))
      have HB3 := Lib.hid (show Below w.heap.size w w3 from bgrown (bal (below_drewN HB1.out _) _) hgrow (World.ownsRow.alloc (show (wr.drewN nq).ownsRow w.heap.size 82 2 _ _ _ from HO.out) _))
      have HO3 := Lib.hid (show w3.ownsRow w.heap.size 82 2 v' (canon (gsum la lb) 0 (j + 1)).length (barCells (canon (gsum la lb) 0 (j + 1))) by rw [hst2, List.length_append, barCells_append]; exact hown3)
      have HA3 := Lib.hid hst1
      clear hown3 hgrow hst1 hst2
      go_wp2
      go_roundw
      case rel => exact ⟨_, _, _, _, j + 1, HA3.out, by simp, rfl, HO3.out, HB3.out⟩
      case measure => simp [intOf]; omega
    | [], (j', cc') :: rb', hat =>
      have ha : n1 = pa.length := by rw [HLN1.out, hat.a]; simp
      have da1 : decide (pa.length < n1) = false := by simp; omega
      have da0 : ¬ (pa.length < n1) := by omega
      have da2 : ((pa.length : Int) == (n1 : Int)) = true := by rw [ha]; simp
      have HLA := Lib.hid ha
      clear ha
      have hbl : pb.length < n2 := by rw [HLN2.out, hat.b]; simp
      obtain ⟨b2, o2, rfl, hcb⟩ := HL2.out.2 (by omega)
      have hgb : (rawBars lb)[pb.length]? = some ((j' : Int), (cc' : Int)) := by rw [hat.b]; simp [rawBars]
      obtain ⟨r1, r2⟩ := hcb _ _ _ hgb
      have s1 := bcell1 hb r1
      have s2 := bcell1 hb r2
      have db2 : ((pb.length : Int) == (n2 : Int)) = false := by rw [beq_eq_false_iff_ne]; omega
      have lb2 := cell_lt r1
      clear hcb hgb r1 r2
      clear hat hb hown
      go_wp2_with fail
      go_quiet (fail)
      obtain ⟨nq1, rfl⟩ : ∃ n, n = nq := ⟨_, rfl⟩
      go_wp2_with fail
      go_quiet (fail)
      obtain ⟨nq2, rfl⟩ : ∃ n, n = nq := ⟨_, rfl⟩
      go_wp2_with (at_builtin; refine wpList_append_own _ rfl _ _ 44 rfl w.heap.size 82 i0 (.agg #[.int .i64 0, .int .u64 0]) 2 16 Try.underlying44 hi0 hz0 hz1 hz2 rfl (by decide) _ _ _ rfl (World.ownsRow.alloc (show (wr.drewN (nq1 + nq2)).ownsRow w.heap.size 82 2 _ _ _ from HO.out) _) ⟨wr.heap.size, 0, none⟩ 1 1 [.int .i64 j', .int .u64 cc'] rfl rfl ?c21 ?c22 ?c23 ?c24 ?c25 ?_)
      case c21 => exact fun q u h => cells_new _ [.int .i64 j', .int .u64 cc'] 82 q u h
      case c22 => simp [Value.oneCell']
      case c23 => unfold maxLen; omega
      case c24 => omega
      case c25 => have := HB1.out.size; simp [World.drewN]; omega
      intro v' w3 hown3 hgrow _
      obtain ⟨hst1, hst2⟩ := HAT.out.stepB (by intro p hp; simp at hp; try (subst hp; simpa using hlt))
      have HB3 := Lib.hid (show Below w.heap.size w w3 from bgrown (bal (below_drewN HB1.out _) _) hgrow (World.ownsRow.alloc (show (wr.drewN (nq1 + nq2)).ownsRow w.heap.size 82 2 _ _ _ from HO.out) _))
      have HO3 := Lib.hid (show w3.ownsRow w.heap.size 82 2 v' (canon (gsum la lb) 0 (j' + 1)).length (barCells (canon (gsum la lb) 0 (j' + 1))) by rw [hst2, List.length_append, barCells_append]; exact hown3)
      have HA3 := Lib.hid hst1
      clear hown3 hgrow hst1 hst2
      go_wp2
      go_roundw
      case rel => exact ⟨_, _, _, _, j' + 1, HA3.out, rfl, by simp, HO3.out, HB3.out⟩
      case measure => simp [intOf]; omega
    | (j, cc) :: ra', (j', cc') :: rb', hat =>
      have ha : pa.length < n1 := by rw [HLN1.out, hat.a]; simp
      obtain ⟨b1, o1, rfl, hca⟩ := HL1.out.2 (by omega)
      have hga : (rawBars la)[pa.length]? = some ((j : Int), (cc : Int)) := by rw [hat.a]; simp [rawBars]
      obtain ⟨p1, p2⟩ := hca _ _ _ hga
      have q1 := bcell1 hb p1
      have q2 := bcell1 hb p2
      have da1 : decide (pa.length < n1) = true := by simpa using ha
      have da2 : ((pa.length : Int) == (n1 : Int)) = false := by rw [beq_eq_false_iff_ne]; omega
      have lb1 := cell_lt p1
      clear hca hga p1 p2
      have hbl : pb.length < n2 := by rw [HLN2.out, hat.b]; simp
      obtain ⟨b2, o2, rfl, hcb⟩ := HL2.out.2 (by omega)
      have hgb : (rawBars lb)[pb.length]? = some ((j' : Int), (cc' : Int)) := by rw [hat.b]; simp [rawBars]
      obtain ⟨r1, r2⟩ := hcb _ _ _ hgb
      have s1 := bcell1 hb r1
      have s2 := bcell1 hb r2
      have db2 : ((pb.length : Int) == (n2 : Int)) = false := by rw [beq_eq_false_iff_ne]; omega
      have lb2 := cell_lt r1
      clear hcb hgb r1 r2
      by_cases hlt : j < j'
      · have dl : decide (j < j') = true := by simpa using hlt
        clear hat hb hown
        go_wp2_with fail
        go_quiet (fail)
        go_wp2_with (at_builtin; refine wpList_append_own _ rfl _ _ 44 rfl w.heap.size 82 i0 (.agg #[.int .i64 0, .int .u64 0]) 2 16 Try.underlying44 hi0 hz0 hz1 hz2 rfl (by decide) _ _ _ rfl (World.ownsRow.alloc (show (wr.drewN nq).ownsRow w.heap.size 82 2 _ _ _ from HO.out) _) ⟨wr.heap.size, 0, none⟩ 1 1 [.int .i64 j, .int .u64 cc] rfl rfl ?c31 ?c32 ?c33 ?c34 ?c35 ?_)
        case c31 => exact fun q u h => cells_new _ [.int .i64 j, .int .u64 cc] 82 q u h
        case c32 => simp [Value.oneCell']
        case c33 => unfold maxLen; omega
        case c34 => omega
        case c35 => have := HB1.out.size; simp [World.drewN]; omega
        intro v' w3 hown3 hgrow _
        obtain ⟨hst1, hst2⟩ := HAT.out.stepA (by intro p hp; simp at hp; try (subst hp; simpa using hlt))
        have HB3 := Lib.hid (show Below w.heap.size w w3 from bgrown (bal (below_drewN HB1.out _) _) hgrow (World.ownsRow.alloc (show (wr.drewN nq).ownsRow w.heap.size 82 2 _ _ _ from HO.out) _))
        have HO3 := Lib.hid (show w3.ownsRow w.heap.size 82 2 v' (canon (gsum la lb) 0 (j + 1)).length (barCells (canon (gsum la lb) 0 (j + 1))) by rw [hst2, List.length_append, barCells_append]; exact hown3)
        have HA3 := Lib.hid hst1
        clear hown3 hgrow hst1 hst2
        go_wp2
        go_roundw
        case rel => exact ⟨_, _, _, _, j + 1, HA3.out, by simp, rfl, HO3.out, HB3.out⟩
        case measure => simp [intOf]; omega
      by_cases hlt2 : j' < j
      · have dl : decide (j < j') = false := by simp; omega
        have dl2 : decide (j' < j) = true := by simpa using hlt2
        have hlt := hlt2
        clear hat hb hown
        go_wp2_with fail
        go_quiet (fail)
        obtain ⟨nq1, rfl⟩ : ∃ n, n = nq := ⟨_, rfl⟩
        go_wp2_with fail
        go_quiet (fail)
        obtain ⟨nq2, rfl⟩ : ∃ n, n = nq := ⟨_, rfl⟩
        go_wp2_with (at_builtin; refine wpList_append_own _ rfl _ _ 44 rfl w.heap.size 82 i0 (.agg #[.int .i64 0, .int .u64 0]) 2 16 Try.underlying44 hi0 hz0 hz1 hz2 rfl (by decide) _ _ _ rfl (World.ownsRow.alloc (show (wr.drewN (nq1 + nq2)).ownsRow w.heap.size 82 2 _ _ _ from HO.out) _) ⟨wr.heap.size, 0, none⟩ 1 1 [.int .i64 j', .int .u64 cc'] rfl rfl ?c41 ?c42 ?c43 ?c44 ?c45 ?_)
        case c41 => exact fun q u h => cells_new _ [.int .i64 j', .int .u64 cc'] 82 q u h
        case c42 => simp [Value.oneCell']
        case c43 => unfold maxLen; omega
        case c44 => omega
        case c45 => have := HB1.out.size; simp [World.drewN]; omega
        intro v' w3 hown3 hgrow _
        obtain ⟨hst1, hst2⟩ := HAT.out.stepB (by intro p hp; simp at hp; try (subst hp; simpa using hlt))
        have HB3 := Lib.hid (show Below w.heap.size w w3 from bgrown (bal (below_drewN HB1.out _) _) hgrow (World.ownsRow.alloc (show (wr.drewN (nq1 + nq2)).ownsRow w.heap.size 82 2 _ _ _ from HO.out) _))
        have HO3 := Lib.hid (show w3.ownsRow w.heap.size 82 2 v' (canon (gsum la lb) 0 (j' + 1)).length (barCells (canon (gsum la lb) 0 (j' + 1))) by rw [hst2, List.length_append, barCells_append]; exact hown3)
        have HA3 := Lib.hid hst1
        clear hown3 hgrow hst1 hst2
        go_wp2
        go_roundw
        case rel => exact ⟨_, _, _, _, j' + 1, HA3.out, rfl, by simp, HO3.out, HB3.out⟩
        case measure => simp [intOf]; omega
      · have hjj : j' = j := by omega
        subst hjj
        have dl : decide (j' < j') = false := by simp
        obtain ⟨va1, va2, va3, va4, va5⟩ := hat.va
        obtain ⟨vb1, vb2, vb3, vb4, vb5⟩ := hat.vb
        have hpl := rplus_any
        clear hat hb hown hlt hlt2
        go_wp2_with fail
        go_quiet (fail)
        obtain ⟨nq1, rfl⟩ : ∃ n, n = nq := ⟨_, rfl⟩
        go_wp2_with fail
        go_quiet (fail)
        obtain ⟨nq2, rfl⟩ : ∃ n, n = nq := ⟨_, rfl⟩
        go_wp2_with fail
        obtain ⟨V, hV⟩ : ∃ V, V = (wr.drewN nq1).drewN nq2 := ⟨_, rfl⟩
        rw [← hV]
        have g1 : V.cell? ⟨b1, o1 + pa.length * 2, none⟩ = some (.int .i64 j') := by rw [hV]; exact q1
        have g2 : V.cell? ⟨b1, o1 + pa.length * 2 + 1, none⟩ = some (.int .u64 cc) := by rw [hV]; exact q2
        have g3 : V.cell? ⟨b2, o2 + pb.length * 2 + 1, none⟩ = some (.int .u64 cc') := by rw [hV]; exact s2
        have HOV := Lib.hid (show V.ownsRow w.heap.size 82 2 _ _ _ by rw [hV]; exact HO.out)
        have hVs : w.heap.size ≤ V.heap.size := by rw [hV]; exact HB1.out.size
        have HBV := Lib.hid (show Below w.heap.size w V by rw [hV]; exact below_drewN (below_drewN HB1.out _) _)
        clear hV q1 q2 s1 s2
        have ag := own_far HOV.out lb1
        have ak := own_far HOV.out lb2
        go_region_held3 (fun w' => w'.cell? ⟨b1, o1 + pa.length * 2, none⟩ = some (.int .i64 j') ∧ w'.cell? ⟨b1, o1 + pa.length * 2 + 1, none⟩ = some (.int .u64 cc) ∧ w'.cell? ⟨b2, o2 + pb.length * 2 + 1, none⟩ = some (.int .u64 cc'))
          (first
            | go_keep
            | (go_split_ands
               refine ⟨?_, ?_, ?_⟩
               · (rw [hgrow.cell_far _ (by simp; omega) ag]; assumption)
               · (rw [hgrow.cell_far _ (by simp; omega) ag]; assumption)
               · (rw [hgrow.cell_far _ (by simp; omega) ak]; assumption)))
          ((first
            | ((refine step_append_lies _ (by rfl) _ _ _ (by rfl) w.heap.size 82 i0 _ 2 16 Try.underlying44 hi0 hz0 hz1 hz2 rfl (by omega) _ _ _ (by rfl) ((HOV.out.alloc _).drew) ⟨V.heap.size, 0, none⟩ 1 1 [.int .i64 j', .int .u64 (satAdd M64 cc cc' : Nat)] (by rfl) (by rfl) (World.news_of_block (cs := #[.int .i64 j', .int .u64 (satAdd M64 cc cc' : Nat)]) (t := 82) (fr := (0, 0)) (heap_alloc_new V _)) (by simp [Value.oneCell']) (by omega) (by unfold maxLen; omega) (by omega) (by simp; omega) (V.heap.size + 1) (by simp) ?_); intro gg cap w3 hown3 hgrow hat hltg)
            | (go_at_call 71; refine (hpl _ _ _ va4 vb4).mono ?_; rintro en w'' ⟨rfl, rfl⟩)))
        obtain ⟨hst1, hst2⟩ := HAT.out.stepAB
        have HB3 := Lib.hid (show Below w.heap.size w w3 from bgrown (bdrew (bal HBV.out _)) hgrow ((HOV.out.alloc _).drew))
        have HO3 := Lib.hid (show w3.ownsRow w.heap.size 82 2 (.slice (some ⟨gg, 0, none⟩) ((canon (gsum la lb) 0 lo).length + 1) cap) (canon (gsum la lb) 0 (j' + 1)).length (barCells (canon (gsum la lb) 0 (j' + 1))) by rw [hst2, List.length_append, barCells_append]; exact hown3)
        have HA3 := Lib.hid hst1
        clear hown3 hgrow hst1 hst2 ag ak
        go_wp2
        go_roundw
        case rel => exact ⟨_, _, _, _, j' + 1, HA3.out, by simp, by simp, HO3.out, HB3.out⟩
        case measure => simp [intOf]; omega
end Go.Proofs.Ytjfeeampcgmngaa
