/- What the law lays out: small, edges, filled. -/
import Derived.Test.YtjfeeampcgmngaaSumE
import Derived.Test.YtjfeeampcgmngaaCover
import Derived.Test.YtjfeeampcgmngaaMerge
import Derived.Test.YtjfeeampcgmngaaTake
import Derived.Test.YtjfeeampcgmngaaHours
namespace Go.Proofs.Ytjfeeampcgmngaa
open Go.RowKit Go.Shelf Go.Maps

/-! ### plain: what some puts come to -/
structure RPut where
  hour : Int
  e : Edge
  t : RTal
def talOf (t : RTal) : Tal := ⟨t.calls, t.errors, t.took, t.bars.map fun p => (p.1.toNat, p.2.toNat)⟩
theorem talOf_raw {t : RTal} (h : t.Num) (hv : rvalid (-1) t.bars = true) : (talOf t).raw = t ∧ (talOf t).Ok := by
  obtain ⟨lb, hlb, e⟩ := (raw_valid_iff t.bars h.bars).1 hv
  have e2 : t.bars.map (fun p => (p.1.toNat, p.2.toNat)) = lb := by
    rw [e]
    unfold rawBars
    rw [List.map_map]
    conv => rhs; rw [← List.map_id lb]
    exact List.map_congr_left fun p _ => by simp
  refine ⟨?_, ⟨h.calls, h.errors, h.took, by show Valid 0 (t.bars.map _); rw [e2]; exact hlb⟩⟩
  unfold talOf Tal.raw
  rw [e2, ← e]
def GoodPut (p : RPut) : Prop := 0 ≤ p.hour ∧ p.hour < 2097152 ∧ rvalid (-1) p.t.bars = true
instance (p : RPut) : Decidable (GoodPut p) := by unfold GoodPut; exact inferInstance
def putM (M : Cont) (p : RPut) : Cont := if GoodPut p then upd M p.hour.toNat p.e (tadd (M p.hour.toNat p.e) (talOf p.t)) else M
def fills (l : List RPut) : Cont := l.foldl putM fun _ _ => tzero
/-- The tally of a put at an hour's edge. -/
def putAt (h : Nat) (e : Edge) (p : RPut) : Tal := if GoodPut p ∧ p.hour.toNat = h ∧ p.e = e then talOf p.t else tzero
theorem putAt_ok {p : RPut} (hn : p.t.Num) (h : Nat) (e : Edge) : (putAt h e p).Ok := by
  unfold putAt
  split
  · rename_i hg
    exact (talOf_raw hn hg.1.2.2).2
  · exact tzero_ok
theorem putM_at {M : Cont} {p : RPut} (hn : p.t.Num) (hM : ∀ h e, (M h e).Ok) (h : Nat) (e : Edge) : putM M p h e = tadd (M h e) (putAt h e p) := by
  unfold putM putAt
  by_cases hg : GoodPut p
  · rw [if_pos hg]
    unfold upd
    by_cases he : h = p.hour.toNat ∧ e = p.e
    · obtain ⟨rfl, rfl⟩ := he
      rw [if_pos ⟨rfl, rfl⟩, if_pos ⟨hg, rfl, rfl⟩]
    · rw [if_neg he, if_neg (fun h2 => he ⟨h2.2.1.symm, h2.2.2.symm⟩), tadd_tzero (hM h e)]
  · rw [if_neg hg, if_neg (fun h2 => hg h2.1), tadd_tzero (hM h e)]
theorem foldl_ok : ∀ (l : List RPut) (M : Cont), (∀ p ∈ l, p.t.Num) → (∀ h e, (M h e).Ok) → ∀ h e, (l.foldl putM M h e).Ok
  | [], _, _, hM => hM
  | p :: l, M, hn, hM => foldl_ok l (putM M p) (fun q hq => hn q (by simp [hq])) fun h e => by
    rw [putM_at (hn p (by simp)) hM]
    exact tadd_ok _ _
theorem foldl_at : ∀ (l : List RPut) (M : Cont), (∀ p ∈ l, p.t.Num) → (∀ h e, (M h e).Ok) → ∀ h e, l.foldl putM M h e = tadd (M h e) (tsum (l.map (putAt h e)))
  | [], M, _, hM, h, e => (tadd_tzero (hM h e)).symm
  | p :: l, M, hn, hM, h, e => by
    have hM' : ∀ h e, (putM M p h e).Ok := fun h e => by rw [putM_at (hn p (by simp)) hM]; exact tadd_ok _ _
    show l.foldl putM (putM M p) h e = _
    rw [foldl_at l (putM M p) (fun q hq => hn q (by simp [hq])) hM', putM_at (hn p (by simp)) hM, tadd_assoc]
    rfl
theorem fills_ok {l : List RPut} (hn : ∀ p ∈ l, p.t.Num) (h : Nat) (e : Edge) : (fills l h e).Ok := foldl_ok l _ hn (fun _ _ => tzero_ok) h e
theorem fills_at {l : List RPut} (hn : ∀ p ∈ l, p.t.Num) (h : Nat) (e : Edge) : fills l h e = tsum (l.map (putAt h e)) := by
  unfold fills
  rw [foldl_at l _ hn (fun _ _ => tzero_ok), tzero_tadd (tsum_ok _)]
theorem fills_append {l m : List RPut} (hl : ∀ p ∈ l, p.t.Num) (hm : ∀ p ∈ m, p.t.Num) (h : Nat) (e : Edge) : fills (l ++ m) h e = tadd (fills l h e) (fills m h e) := by
  rw [fills_at (fun p hp => (List.mem_append.1 hp).elim (hl p) (hm p)), fills_at hl, fills_at hm, List.map_append, tsum_append]
theorem fills_perm {l m : List RPut} (hl : ∀ p ∈ l, p.t.Num) (hp : l.Perm m) : fills l = fills m := by
  funext h e
  rw [fills_at hl, fills_at (fun p hp' => hl p (hp.mem_iff.2 hp'))]
  exact tsum_perm (hp.map _)
theorem fills_few {l : List RPut} (hn : ∀ p ∈ l, p.t.Num) : Few l.length (fills l) := by
  refine ⟨l.map fun p => (p.hour.toNat, p.e), by simp, fun h e hz => ?_⟩
  rw [fills_at hn] at hz
  have : ∃ p ∈ l, putAt h e p ≠ tzero := Classical.byContradiction fun hc => hz (tsum_zero _ fun t ht => by
    obtain ⟨p, hp, rfl⟩ := List.mem_map.1 ht
    exact Classical.byContradiction fun h2 => hc ⟨p, hp, h2⟩)
  obtain ⟨p, hp, h2⟩ := this
  unfold putAt at h2
  split at h2
  · rename_i hg
    exact List.mem_map.2 ⟨p, hp, by rw [hg.2.1, hg.2.2]⟩
  · exact absurd rfl h2

/-! ### puts in memory -/
def putCell (p : RPut) (x : SL) : List Value := [.int .i64 p.hour, .string p.e.1, .string p.e.2, .int .u64 (natHi p.t.calls), .int .u64 (natLo p.t.calls), .int .u64 (natHi p.t.errors), .int .u64 (natLo p.t.errors), .int .u64 (natHi p.t.took), .int .u64 (natLo p.t.took), .slice x.1 x.2.1 x.2.2]
def PutsAt (w : World) (A : Option Addr) (n : Nat) (l : List RPut) : Prop :=
  n = l.length ∧ (∀ p ∈ l, p.t.Num ∧ EdgeOk p.e) ∧ ∃ d : List SL, d.length = l.length ∧
    (∀ (i : Nat) (p : RPut) (x : SL), l[i]? = some p → d[i]? = some x → TalAt w (talVal p.t.calls p.t.errors p.t.took (.slice x.1 x.2.1 x.2.2)) p.t) ∧
    (0 < n → ∃ b off, A = some ⟨b, off, none⟩ ∧ ∀ (i : Nat) (p : RPut) (x : SL), l[i]? = some p → d[i]? = some x → ∀ (j : Nat) u, (putCell p x)[j]? = some u → w.cell? ⟨b, off + i * 10 + j, none⟩ = some u)
theorem PutsAt.below {w w' : World} {A : Option Addr} {n : Nat} {l : List RPut} (h : PutsAt w A n l) (hb : Below w.heap.size w w') : PutsAt w' A n l := by
  obtain ⟨h1, h2, d, h3, h4, h5⟩ := h
  refine ⟨h1, h2, d, h3, fun i p x hp hx => (h4 i p x hp hx).below hb, fun hn => ?_⟩
  obtain ⟨b, off, e, hc⟩ := h5 hn
  exact ⟨b, off, e, fun i p x hp hx j u hu => bcell1 hb (hc i p x hp hx j u hu)⟩

/-! ### small, edges -/
theorem M128_pos' : 0 < M128 := by decide
def tsmall (n : Nat) : Tal := ⟨n, 0, 0, [(0, n)]⟩
theorem tsmall_ok {n : Nat} (h0 : 0 < n) (h : n < M64) : (tsmall n).Ok := ⟨by unfold tsmall M128; unfold M64 at h; simp; omega, M128_pos' , M128_pos', ⟨Nat.le_refl _, by omega, h0, h, trivial⟩⟩
set_option maxRecDepth 100000 in
theorem small_any (w : World) (n : Nat) (hn : n < 4294967296) :
    Calls Try.prog 16 #[.int .u64 n] w fun e w' => ∃ v, e = .returned v ∧ TalAt w' v (tsmall n).raw ∧ Below w.heap.size w w' := by
  have e1 : natHi n = 0 := by unfold natHi M64; omega
  have e2 : natLo n = n := by unfold natLo M64; omega
  have HE := Lib.hid (And.intro e1 e2)
  clear e1 e2
  go_enter Try.func16, Try.ntmps16
  go_wp2_with fail
  have k1 : Blk ((w.alloc (Obj.cells #[.int .u64 0, .int .u64 n, .int .u64 0, .int .u64 0, .int .u64 0, .int .u64 0, .slice (some ⟨w.heap.size + 1, 0, none⟩) 1 1] 46)).alloc (Obj.cells #[.int .i64 0, .int .u64 n] 82)) w.heap.size 46 [.int .u64 0, .int .u64 n, .int .u64 0, .int .u64 0, .int .u64 0, .int .u64 0, .slice (some ⟨w.heap.size + 1, 0, none⟩) 1 1] := (Blk.new _ _ _).alloc _
  have k2 : Blk ((w.alloc (Obj.cells #[.int .u64 0, .int .u64 n, .int .u64 0, .int .u64 0, .int .u64 0, .int .u64 0, .slice (some ⟨w.heap.size + 1, 0, none⟩) 1 1] 46)).alloc (Obj.cells #[.int .i64 0, .int .u64 n] 82)) (w.heap.size + 1) 82 [.int .i64 0, .int .u64 n] := Blk.new_ _ _ _ (by simp)
  have t0 := k1.cell 0 rfl
  have t1 := k1.cell 1 rfl
  have t2 := k1.cell 2 rfl
  have t3 := k1.cell 3 rfl
  have t4 := k1.cell 4 rfl
  have t5 := k1.cell 5 rfl
  have t6 := k1.cell 6 rfl
  refine bodyPost_ret (v := .agg #[.int .u64 0, .int .u64 n, .int .u64 0, .int .u64 0, .int .u64 0, .int .u64 0, .slice (some ⟨w.heap.size + 1, 0, none⟩) 1 1]) (by simp [results, Try.results16, go_sem, t0, t1, t2, t3, t4, t5, t6]) rfl ⟨_, rfl, ⟨some ⟨w.heap.size + 1, 0, none⟩, 1, 1, ?_, ⟨rfl, fun _ => ⟨w.heap.size + 1, 0, rfl, fun i j c hi => ?_⟩⟩, by omega, Nat.le_refl _⟩, bal (bal (brefl _) _) _⟩
  · show _ = talVal n 0 0 (.slice (some ⟨w.heap.size + 1, 0, none⟩) 1 1)
    unfold talVal
    rw [HE.out.1, HE.out.2]
    rfl
  · have hi0 : i = 0 := by
      have := (List.getElem?_eq_some_iff.1 hi).1
      simp [tsmall, Tal.raw, rawBars] at this
      exact this
    subst hi0
    simp [tsmall, Tal.raw, rawBars] at hi
    obtain ⟨rfl, rfl⟩ := hi
    exact ⟨k2.cell 0 rfl, k2.cell 1 rfl⟩
set_option maxRecDepth 100000 in
set_option maxHeartbeats 1000000 in
theorem edges_any (w : World) (r m fan : Nat) (es : List MapEntry) (M : Cont) (F : Nat → Prop) (h : RollAt w r m fan es M F) (N : Nat) (hN : N * 112 ≤ 140737488355328) (hf : Few N M) :
    Calls Try.prog 8 #[.pointer (some ⟨r, 0, none⟩), .int .i64 0, .int .i64 2097152] w fun en w' => ∃ A k c L, en = .returned (.slice A k c) ∧ EdgesAt w.heap.size w' A k L ∧ Tells L (fun e => hsum M e 0 limit) ∧ Below w.heap.size w w' := by
  have hr := Lib.hid (Range_ok w r m fan es M F 0 2097152 2097152 h N hN hf (by omega) (by omega))
  clear h hN hf
  go_enter Try.func8, Try.ntmps8
  go_wp2_with fail
  refine hr.out.mono ?_
  rintro en w1 ⟨A, k, c, L, rfl, h1, h2, h3⟩
  have H1 := Lib.hid h1
  have H2 := Lib.hid h2
  have H3 := Lib.hid h3
  clear h1 h2 h3 hr
  go_wp2_with fail
  go_ret
  exact ⟨A, k, c, L, rfl, H1.out, H2.out, H3.out⟩

/-! ### filled -/
def FillLoop (w : World) (r m fan : Nat) (l : List RPut) (i : Value) (wr : World) : Prop :=
  ∃ k es F, k ≤ l.length ∧ i = .int .i64 k ∧ RollAt wr r m fan es (fills (l.take k)) F ∧ (∀ q, F q → w.heap.size ≤ q) ∧ Below w.heap.size w wr
def FilledPost (w : World) (fan : Nat) (l : List RPut) (en : Ending) (w' : World) : Prop :=
  ∃ r m es F, en = .returned (.pointer (some ⟨r, 0, none⟩)) ∧ RollAt w' r m fan es (fills l) F ∧ (∀ q, F q → w.heap.size ≤ q) ∧ Below w.heap.size w w' ∧ w.heap.size ≤ r
theorem fills_snoc (l : List RPut) (k : Nat) (p : RPut) (h : l[k]? = some p) : fills (l.take (k + 1)) = putM (fills (l.take k)) p := by
  unfold fills
  rw [List.take_add_one, h, List.foldl_append]
  rfl

set_option maxRecDepth 100000 in
set_option maxHeartbeats 4000000 in
theorem filled_ok (w : World) (fan : Nat) (A : Option Addr) (n c : Nat) (l : List RPut) (h2 : 2 ≤ fan) (h16 : fan ≤ 16) (hl : PutsAt w A n l) (hn : n ≤ 140737488351232) :
    Calls Try.prog 6 #[.int .i64 fan, .slice A n c] w (FilledPost w fan l) := by
  have HNEW := Lib.hid (New_ok w fan h2 h16)
  have HL := Lib.hid hl
  have HLN := Lib.hid hl.1
  have hn1 : n ≤ l.length := by rw [hl.1]; exact Nat.le_refl _
  have hn2 : l.length ≤ n := by rw [hl.1]; exact Nat.le_refl _
  clear hl h2 h16
  go_enter Try.func6, Try.ntmps6
  go_wp2_with fail
  refine HNEW.out.mono ?_
  rintro en w1 ⟨rfl, hroll, hb⟩
  have HR := Lib.hid hroll
  have HB := Lib.hid hb
  clear HNEW hroll hb
  go_wp2_with fail
  go_loopw [7] (fun i wr => FillLoop w (w.heap.size + 1) w.heap.size fan l i wr) (fun i _ => n - (intOf i).toNat)
  case atStart => exact ⟨0, [], _, Nat.zero_le _, rfl, HR.out, (by intro q hq; rw [hq]; exact Nat.le_refl _), HB.out⟩
  case round =>
    obtain ⟨k, es, F, hk, rfl, hroll, hF, hb⟩ := hrel
    have HRO := Lib.hid hroll
    have HF := Lib.hid hF
    have HB1 := Lib.hid hb
    by_cases hlt : k < n
    · have dl : decide (k < n) = true := by simpa using hlt
      obtain ⟨hx0, hnum, dd, hdd, htt, hex⟩ := HL.out.below hb
      clear hx0
      obtain ⟨b, off, hA, hc⟩ := hex (by omega)
      subst hA
      obtain ⟨p, hp⟩ : ∃ p, l[k]? = some p := ⟨l[k]'(by omega), List.getElem?_eq_getElem _⟩
      obtain ⟨⟨TA, Tn, Tc⟩, hxx⟩ : ∃ x, dd[k]? = some x := ⟨dd[k]'(by omega), List.getElem?_eq_getElem _⟩
      have ht := htt k p _ hp hxx
      have hcell := hc k p _ hp hxx
      simp only at ht
      obtain ⟨hpn, hpe⟩ := hnum p (List.mem_of_getElem? hp)
      have r0 : wr.cell? ⟨b, off + k * 10, none⟩ = some (.int .i64 p.hour) := hcell 0 _ rfl
      have r1 : wr.cell? ⟨b, off + k * 10 + 1, none⟩ = some (.string p.e.1) := hcell 1 _ rfl
      have r2 : wr.cell? ⟨b, off + k * 10 + 2, none⟩ = some (.string p.e.2) := hcell 2 _ rfl
      have r3 : wr.cell? ⟨b, off + k * 10 + 3, none⟩ = some (.int .u64 (natHi p.t.calls)) := hcell 3 _ rfl
      have r4 : wr.cell? ⟨b, off + k * 10 + 4, none⟩ = some (.int .u64 (natLo p.t.calls)) := hcell 4 _ rfl
      have r5 : wr.cell? ⟨b, off + k * 10 + 5, none⟩ = some (.int .u64 (natHi p.t.errors)) := hcell 5 _ rfl
      have r6 : wr.cell? ⟨b, off + k * 10 + 6, none⟩ = some (.int .u64 (natLo p.t.errors)) := hcell 6 _ rfl
      have r7 : wr.cell? ⟨b, off + k * 10 + 7, none⟩ = some (.int .u64 (natHi p.t.took)) := hcell 7 _ rfl
      have r8 : wr.cell? ⟨b, off + k * 10 + 8, none⟩ = some (.int .u64 (natLo p.t.took)) := hcell 8 _ rfl
      have r9 : wr.cell? ⟨b, off + k * 10 + 9, none⟩ = some (.slice TA Tn Tc) := hcell 9 _ rfl
      have HSN := Lib.hid (fills_snoc l k p hp)
      have hbd := bdrew (brefl wr)
      have hput : Calls Try.prog 15 #[.pointer (some ⟨w.heap.size + 1, 0, none⟩), .int .i64 p.hour, edgeVal p.e, talVal p.t.calls p.t.errors p.t.took (.slice TA Tn Tc)] wr.drew fun en w' => (∃ en0, en = .returned (.int .i64 en0)) ∧ ∃ es' F', RollAt w' (w.heap.size + 1) w.heap.size fan es' (fills (l.take (k + 1))) F' ∧ (∀ q, F' q → w.heap.size ≤ q) ∧ Below w.heap.size w w' := by
        rw [HSN.out]
        unfold putM
        by_cases hg : GoodPut p
        · rw [if_pos hg]
          obtain ⟨g1, g2, g3⟩ := hg
          obtain ⟨hr, hhr⟩ := Int.eq_ofNat_of_zero_le g1
          obtain ⟨e1, e2⟩ := talOf_raw hpn g3
          have hq := Put_ok wr.drew (w.heap.size + 1) w.heap.size fan es _ F hr p.e (talVal p.t.calls p.t.errors p.t.took (.slice TA Tn Tc)) (talOf p.t) (hroll.below hbd) (by unfold limit; omega) hpe (by rw [e1]; exact ht.below hbd) e2
          rw [hhr]
          refine hq.mono ?_
          rintro en w' ⟨rfl, ⟨es', F', h3, h4⟩, h5⟩
          refine ⟨⟨_, rfl⟩, es', F', h3, fun q hq => ?_, Mod.toBelow (bdrew hb) h5 (fun q hq => hF q hq)⟩
          rcases h4 q hq with h6 | h6
          · exact hF q h6
          · exact Nat.le_trans (bdrew hb).size h6
        · rw [if_neg hg]
          by_cases g1 : 0 ≤ p.hour ∧ p.hour < 2097152
          · have g3 : rvalid (-1) p.t.bars = false := by
              cases hv : rvalid (-1) p.t.bars
              · rfl
              · exact absurd ⟨g1.1, g1.2, hv⟩ hg
            obtain ⟨hr, hhr⟩ := Int.eq_ofNat_of_zero_le g1.1
            have hq := Put_bad wr.drew (w.heap.size + 1) w.heap.size fan es _ F hr p.e (talVal p.t.calls p.t.errors p.t.took (.slice TA Tn Tc)) p.t (hroll.below hbd) (by unfold limit; omega) hpe (ht.below hbd) g3
            rw [hhr]
            refine hq.mono ?_
            rintro en w' ⟨rfl, h5⟩
            exact ⟨⟨_, rfl⟩, es, F, (hroll.below hbd).below h5, hF, btrans (bdrew hb) h5⟩
          · have hq := Put_hour wr.drew (.pointer (some ⟨w.heap.size + 1, 0, none⟩)) p.hour p.e (natHi p.t.calls) (natLo p.t.calls) (natHi p.t.errors) (natLo p.t.errors) (natHi p.t.took) (natLo p.t.took) (.slice TA Tn Tc) (by omega) ⟨TA, Tn, Tc, rfl⟩
            refine hq.mono ?_
            rintro en w' ⟨rfl, h5⟩
            exact ⟨⟨_, rfl⟩, es, F, (hroll.below hbd).below h5, hF, btrans (bdrew hb) h5⟩
      unfold edgeVal talVal at hput
      have HPUT := Lib.hid hput
      clear hput hroll hF hb hnum hex hc hp ht hcell hpn hpe hbd hdd htt hxx
      go_wp2_with fail
      refine wp_region_still_tail 16 (by kernel_rfl) (by kernel_rfl) ?_
      change wpStill _ _ wr.drew (fun a' => wpList _ _ _ _ a' wr.drew) _ _
      simp only [List.take_succ_cons, List.take_zero, List.drop_succ_cons, List.drop_zero]
      repeat still_step
      refine wpStill_nil ?_
      go_wp2_with fail
      refine HPUT.out.mono ?_
      rintro en w2 ⟨⟨en0, rfl⟩, es', F', h3, h4, h5⟩
      have H3 := Lib.hid h3
      have H4 := Lib.hid h4
      have H5 := Lib.hid h5
      clear h3 h4 h5 HPUT
      go_wp2_with fail
      go_roundw
      case rel => exact ⟨k + 1, es', F', by omega, by go_num, H3.out, H4.out, H5.out⟩
      case measure => simp [intOf]; omega
    · have dl : decide (k < n) = false := by simpa using hlt
      have hkn : k = l.length := by omega
      have HKN := Lib.hid hkn
      clear hroll hF hb hkn
      go_wp2_with fail
      go_ret
      exact ⟨_, _, es, F, rfl, by have h9 := HRO.out; rw [HKN.out, List.take_length] at h9; exact h9, HF.out, HB1.out, by omega⟩

set_option maxRecDepth 100000 in
theorem filled_bad (w : World) (fan : Int) (v : Value) (hv : ∃ A n c, v = .slice A n c) (h : fan < 2 ∨ 16 < fan) :
    Calls Try.prog 6 #[.int .i64 fan, v] w fun en w' => en = .returned (.pointer none) ∧ w' = w := by
  obtain ⟨A, n, c, rfl⟩ := hv
  have HNEW := Lib.hid (New_bad w fan h)
  clear h
  go_enter Try.func6, Try.ntmps6
  go_wp2_with fail
  refine HNEW.out.mono ?_
  rintro en w1 ⟨rfl, rfl⟩
  clear HNEW
  go_wp2_with fail
  go_ret
  exact ⟨rfl, rfl⟩
end Go.Proofs.Ytjfeeampcgmngaa
